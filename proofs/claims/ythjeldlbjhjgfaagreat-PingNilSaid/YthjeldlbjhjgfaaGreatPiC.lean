/- Queues: the keys of a map, collected and sorted. -/
import Derived.Test.YthjeldlbjhjgfaaGreatPiB
namespace Go.AM
open Go Go.Proofs
set_option linter.unusedSimpArgs false
set_option linter.unusedVariables false
set_option maxRecDepth 100000
set_option maxHeartbeats 4000000

theorem IntsO.put {H : AHeap} {lo : Nat} {v : AV} {l : List Int} (h : IntsO H lo v l) {i : Nat} (b : Blk) (hb : H.base ≤ i) (hn : i < H.next) (hi : i < lo) : IntsO (H.put i b) lo v l := by
  rcases h with h | ⟨a, h1, h2, h3, h4, h5, h6⟩
  · exact .inl h
  · exact .inr ⟨a, h1, h2, h3, h4, by rw [AHeap.get_put _ _ _ _ hb hn, if_neg (by omega)]; exact h5, h6⟩

theorem fill1 {a : AV} {k : IntKind} {z : Int} : fillA [a] [(0, 1, .int k z)] = some [.int k z] := Eq.trans rfl rfl

theorem f59 {H : AHeap} {Q : AE → AHeap → Prop} {mb m ck : Nat} {es : List En} (hmb : H.get mb = some (.cells [.map (some m)] none)) (hmblt : mb < H.next) (hM : Mp H m es ck)
    (h : ∀ H' v ks, H.Le H' → IntsO H' H.next v ks → ks.Perm (es.map En.key) → Q (.ret v) H') :
    ACall Tryz.prog 59 [.slice none 0 (.inl 0), .func (.func 41) [] [.ptr (some (mb, 0))]] H Q := by
  refine ACall.comp [] mixed (by decide +kernel) fun F hF' => ?_
  cbv at hF'
  cases hF'
  refine ⟨by simp, fun hb ha => ?_⟩
  simp (decide := true) only [WP_skip, WP_ops, WP_seq, WP_block, WP_exit, WP_ret, WP_cond, CdC_true, CdC_false, seqQ_normal, seqQ_exit, seqQ_ret, seqQ_pan, blkQ_normal, blkQ_exit, blkQ_ret, blkQ_pan, bodyQ_ret, bodyQ_normal, bodyQ_pan, bodyK_some, WP_aops, WPa_nil, WPa_wr, WrA_new, CallA_new, WPa_rd, WPa_call, WPa_callv, WPa_gd, RdA_some, CallA_ret, WPs_nil, WPs_rd, WPs_wr, WPs_call, WPs_callv, WPs_gd, RdK_some, WrK_some, CallK_ret, CallV_func, GdS_tt, GdS_tf, GdS_ft, GdS_ff, GdA_tt, GdA_tf, GdA_ft, GdA_ff, evR, lenV_slc, lenV_tail, lenV_str, iaV_slc, evX, AO.ev, Fr.put_some, Fr.put_none, Fr.at_set, Fr.at_ofArgs, List.getD_cons_zero, List.getD_cons_succ, List.getD_nil, binV, intOp, strOp, AV.cells, AHeap.cell_new, AHeap.range_new, AHeap.cell_old, AHeap.range_old, AHeap.get_new, AHeap.get_old, AHeap.put_new, AHeap.lt_new, AHeap.lt_alloc, AHeap.wf_alloc, AHeap.base_new, AHeap.base_alloc, evRVs, evRV, tup, List.map_cons, List.map_nil, List.cons_append, List.nil_append, List.append_nil, List.getElem?_cons_zero, List.getElem?_cons_succ, Nat.zero_add, Option.map_some, Option.map_none, if_true, if_false, ↓reduceIte, Bool.false_eq_true, eq_self, Bool.not_false, Bool.not_true, decide_true, decide_false, Option.isNone_none, Option.isNone_some, WPs_nxt, CallV_yield, hb, WP_rfn, RfnV_func]
  generalize hB : Blk.loop .ready none 13 _ _ _ _ = B
  have hb1 : (H.alloc (.cells [.slice none 0 (.inl 0)] none)).WF := AHeap.wf_alloc hb
  have hb2 : ((H.alloc (.cells [.slice none 0 (.inl 0)] none)).alloc B).WF := AHeap.wf_alloc hb1
  have hle1 : H.Le (H.alloc (.cells [.slice none 0 (.inl 0)] none)) := .new hb
  have hle2 : H.Le ((H.alloc (.cells [.slice none 0 (.inl 0)] none)).alloc B) := hle1.alloc' hb
  have hH0 : H.base ≤ H.next := hb
  refine f41 (fun ks H' => Til H.next H H' ∧ H.next + 3 ≤ H'.next ∧ ∃ sv, H'.get H.next = some (.cells [sv] none) ∧ H'.get (H.next + 1) = some B ∧ IntsO H' (H.next + 3) sv ks)
    (by rw [hle2.get mb hmblt]; exact hmb) (hle2.lt hmblt) (hM.trans hle2) ?_ ?_ ?_ ?_ ?_
  · refine ⟨(hle2.alloc' hb).til (Nat.le_refl _), by simp, _, ?_, ?_, .inl ⟨rfl, rfl⟩⟩
    · rw [AHeap.get_old hb2 (by simp; omega), AHeap.get_old hb1 (by simp), AHeap.get_new hb]
    · rw [AHeap.get_old hb2 (by simp), show H.next + 1 = (H.alloc (.cells [.slice none 0 (.inl 0)] none)).next from rfl, AHeap.get_new hb1]
  · rintro ks H' s ⟨h1, h2, sv, h3, h4, h5⟩
    have hnx : ((H.alloc (.cells [.slice none 0 (.inl 0)] none)).alloc B).next = H.next + 2 := rfl
    have hbs := h1.base
    rw [hnx]
    refine ⟨h1.put (by omega) (by omega) (by omega) _, h2, sv, ?_, ?_, h5.put _ (by omega) (by omega) (by omega)⟩
    · rw [AHeap.get_put _ _ _ _ (by omega) (by omega), if_neg (by omega)]; exact h3
    · rw [AHeap.get_put _ _ _ _ (by omega) (by omega), if_neg (by omega)]; exact h4
  · rintro ks H' ⟨h1, h2, _⟩
    refine ⟨h1.base, by show H.next + 2 < _; omega, ?_⟩
    rw [h1.get m hM.lt, hle2.get m hM.lt]
  · rintro ks k H' Q' ⟨h1, h2, sv, h3, h4, h5⟩ hks hQ'
    have hbs := h1.base
    have hb' : H'.WF := by unfold AHeap.WF; omega
    have hnx : (H.alloc (.cells [.slice none 0 (.inl 0)] none)).next = H.next + 1 := rfl
    rw [hnx]
    subst hB
    refine AYield.comp [] mixed h4 (by decide +kernel) (by omega) (by simp) fun xa xb hxa hxb => ?_
    cbv at hxa hxb
    cases hxa
    cases hxb
    have d1 : ∀ i, i ≠ H.next + 1 → (H'.put (H.next + 1) .dead).get i = H'.get i := fun i hi => by rw [AHeap.get_put _ _ _ _ (by omega) (by omega), if_neg hi]
    have hbd : (H'.put (H.next + 1) .dead).WF := AHeap.wf_put hb'
    have c1 : (H'.put (H.next + 1) .dead).cell (H.next, 0) = some sv := by rw [AHeap.cell_of (by rw [d1 _ (by omega)]; exact h3)]; rfl
    have g1 : ∀ i, i < H'.next → i ≠ H.next + 1 → ((H'.put (H.next + 1) .dead).alloc (.cells [.int .i64 k] none)).get i = H'.get i := fun i hi hn => by rw [AHeap.get_old hbd hi, d1 i hn]
    have hsv : IntsO ((H'.put (H.next + 1) .dead).alloc (.cells [.int .i64 k] none)) (H.next + 3) sv ks := (h5.put .dead (by omega) (by omega) (by omega)).trans (.new hbd)
    have hx : srcOf ((H'.put (H.next + 1) .dead).alloc (.cells [.int .i64 k] none)) 1 (.slice (some (H'.next, 0)) 1 (.inl 1)) = some (1, [.int .i64 k]) := by
      have := AHeap.range_new (n := 1 * 1) (k := 0) hbd (cs := [.int .i64 k]) (room := none)
      have hnd : (H'.put (H.next + 1) .dead).next = H'.next := rfl
      rw [hnd] at this
      simp only [srcOf, this]; rfl
    have hle := hM.le
    obtain ⟨H3, v3, happ, a1, a2, a3, a4, a5⟩ := app_one (bytes := 8) (k := k) (AHeap.wf_alloc hbd) hsv hx (by omega) (by omega)
    simp only [AHeap.base_alloc, AHeap.base_put, AHeap.next_alloc, AHeap.next_put] at a1 a2 a3 a4 a5
    have b3 : H3.WF := by unfold AHeap.WF; omega
    have e1 : H3.get H.next = some (.cells [sv] none) := by
      rw [a4 H.next (by omega) (fun a ha _ => by omega), g1 H.next (by omega) (by omega)]; exact h3
    subst a5
    obtain ⟨v3, hv3⟩ : ∃ v3, v3 = AV.slice (some (H'.next + 1, 0)) (ks ++ [k]).length (.inr 0) := ⟨_, rfl⟩
    have hsp : splice [sv] 0 [.slice (some (H'.next + 1, 0)) (ks ++ [k]).length (.inr 0)] = [v3] := by rw [hv3]; rfl
    simp (decide := true) only [WP_skip, WP_ops, WP_seq, WP_block, WP_exit, WP_ret, WP_cond, CdC_true, CdC_false, seqQ_normal, seqQ_exit, seqQ_ret, seqQ_pan, blkQ_normal, blkQ_exit, blkQ_ret, blkQ_pan, bodyQ_ret, bodyQ_normal, bodyQ_pan, bodyK_some, WP_aops, WPa_nil, WPa_wr, WrA_new, CallA_new, WPa_rd, WPa_call, WPa_callv, WPa_gd, RdA_some, CallA_ret, WPs_nil, WPs_rd, WPs_wr, WPs_call, WPs_callv, WPs_gd, RdK_some, WrK_some, CallK_ret, CallV_func, GdS_tt, GdS_tf, GdS_ft, GdS_ff, GdA_tt, GdA_tf, GdA_ft, GdA_ff, evR, lenV_slc, lenV_tail, lenV_str, iaV_slc, evX, AO.ev, Fr.put_some, Fr.put_none, Fr.at_set, Fr.at_ofArgs, List.getD_cons_zero, List.getD_cons_succ, List.getD_nil, binV, intOp, strOp, AV.cells, AHeap.cell_new, AHeap.range_new, AHeap.cell_old, AHeap.range_old, AHeap.get_new, AHeap.get_old, AHeap.put_new, AHeap.lt_new, AHeap.lt_alloc, AHeap.wf_alloc, AHeap.base_new, AHeap.base_alloc, evRVs, evRV, tup, List.map_cons, List.map_nil, List.cons_append, List.nil_append, List.append_nil, List.getElem?_cons_zero, List.getElem?_cons_succ, Nat.zero_add, Option.map_some, Option.map_none, if_true, if_false, ↓reduceIte, Bool.false_eq_true, eq_self, Bool.not_false, Bool.not_true, decide_true, decide_false, Option.isNone_none, Option.isNone_some, WPs_nxt, CallV_yield, hb, bindPs, rndA_normal, rndQ_normal, c1, fill1, AHeap.next_put, happ, e1, hsp, AV.one, List.length_cons, List.length_nil, List.all_cons, List.all_nil, Bool.and_true, Nat.le_refl, and_self, hbs, hH0, a1]
    generalize hBB : Blk.loop .ready none 13 _ _ _ _ = B
    rw [hBB] at h4
    have p1 : ∀ i, i ≠ H.next → (H3.put H.next (.cells [v3] none)).get i = H3.get i := fun i hi => by rw [AHeap.get_put _ _ _ _ (by omega) (by omega), if_neg hi]
    have p2 : ∀ i, i ≠ H.next + 1 → ((H3.put H.next (.cells [v3] none)).put (H.next + 1) B).get i = (H3.put H.next (.cells [v3] none)).get i := fun i hi => by
      rw [AHeap.get_put _ _ _ _ (show (H3.put H.next (.cells [v3] none)).base ≤ _ by show H3.base ≤ _; omega) (by show _ < H3.next; omega), if_neg hi]
    have p3 : ∀ i, i < H.next + 3 → i ≠ H.next → i ≠ H.next + 1 → ((H3.put H.next (.cells [v3] none)).put (H.next + 1) B).get i = H'.get i := fun i hi hn1 hn2 => by
      rw [p2 i hn2, p1 i hn1, a4 i (by omega) (fun a ha _ => by omega), g1 i (by omega) hn2]
    refine hQ' _ ⟨⟨by show H3.base = _; omega, by show _ ≤ H3.next; omega, fun i hi => ?_⟩, by show _ ≤ H3.next; omega, v3, ?_, ?_, .inr ⟨H'.next + 1, hv3, by omega, by show _ < H3.next; omega, by show H3.base ≤ _; omega, ?_, by simp⟩⟩ ?_
    · rw [p3 i (by omega) (by omega) (by omega)]; exact h1.get i hi
    · rw [p2 _ (by omega), AHeap.get_put _ _ _ _ (by omega) (by omega), if_pos rfl]
    · rw [AHeap.get_put _ _ _ _ (by show H3.base ≤ _; omega) (by show _ < H3.next; omega), if_pos rfl, ← hBB]
    · rw [p2 _ (by omega), p1 _ (by omega)]; exact a3
    · show ((H3.put H.next (.cells [v3] none)).put (H.next + 1) B).get (H.next + 2) = H'.get (H.next + 2)
      exact p3 _ (by omega) (by omega) (by omega)
  · rintro H' ks ⟨h1, h2, sv, h3, h4, h5⟩ hperm
    have hbs := h1.base
    have hnx : (H.alloc (.cells [.slice none 0 (.inl 0)] none)).next = H.next + 1 := rfl
    rw [hnx]
    subst hB
    refine RfnQ_ready h4 ?_
    have c1 : (H'.put (H.next + 1) .dead).cell (H.next, 0) = some sv := by
      rw [AHeap.cell_of (by rw [AHeap.get_put _ _ _ _ (by omega) (by omega), if_neg (by omega)]; exact h3)]; rfl
    simp (decide := true) only [WP_skip, WP_ops, WP_seq, WP_block, WP_exit, WP_ret, WP_cond, CdC_true, CdC_false, seqQ_normal, seqQ_exit, seqQ_ret, seqQ_pan, blkQ_normal, blkQ_exit, blkQ_ret, blkQ_pan, bodyQ_ret, bodyQ_normal, bodyQ_pan, bodyK_some, WP_aops, WPa_nil, WPa_wr, WrA_new, CallA_new, WPa_rd, WPa_call, WPa_callv, WPa_gd, RdA_some, CallA_ret, WPs_nil, WPs_rd, WPs_wr, WPs_call, WPs_callv, WPs_gd, RdK_some, WrK_some, CallK_ret, CallV_func, GdS_tt, GdS_tf, GdS_ft, GdS_ff, GdA_tt, GdA_tf, GdA_ft, GdA_ff, evR, lenV_slc, lenV_tail, lenV_str, iaV_slc, evX, AO.ev, Fr.put_some, Fr.put_none, Fr.at_set, Fr.at_ofArgs, List.getD_cons_zero, List.getD_cons_succ, List.getD_nil, binV, intOp, strOp, AV.cells, AHeap.cell_new, AHeap.range_new, AHeap.cell_old, AHeap.range_old, AHeap.get_new, AHeap.get_old, AHeap.put_new, AHeap.lt_new, AHeap.lt_alloc, AHeap.wf_alloc, AHeap.base_new, AHeap.base_alloc, evRVs, evRV, tup, List.map_cons, List.map_nil, List.cons_append, List.nil_append, List.append_nil, List.getElem?_cons_zero, List.getElem?_cons_succ, Nat.zero_add, Option.map_some, Option.map_none, if_true, if_false, ↓reduceIte, Bool.false_eq_true, eq_self, Bool.not_false, Bool.not_true, decide_true, decide_false, Option.isNone_none, Option.isNone_some, WPs_nxt, CallV_yield, hb, c1]
    refine .this (h _ _ _ ⟨hbs, by show _ ≤ H'.next; omega, fun i hi => ?_⟩ ?_ hperm)
    · rw [AHeap.get_put _ _ _ _ (by omega) (by omega), if_neg (by omega)]; exact h1.get i hi
    · rcases h5 with h | ⟨a, q1, q2, q3, q4, q5, q6⟩
      · exact .inl h
      · exact .inr ⟨a, q1, by omega, q3, q4, by rw [AHeap.get_put _ _ _ _ (by omega) (by omega), if_neg (by omega)]; exact q5, q6⟩

theorem f39 {H : AHeap} {Q : AE → AHeap → Prop} {mb m ck : Nat} {es : List En} (hmb : H.get mb = some (.cells [.map (some m)] none)) (hmblt : mb < H.next) (hM : Mp H m es ck)
    (h : ∀ H' v ks, H.Le H' → IntsO H' H.next v ks → ks.Perm (es.map En.key) → Q (.ret v) H') :
    ACall Tryz.prog 39 [.func (.func 41) [] [.ptr (some (mb, 0))]] H Q := by
  refine ACall.comp [] mixed (by decide +kernel) fun F hF' => ?_
  cbv at hF'
  cases hF'
  refine ⟨by simp, fun hb ha => ?_⟩
  simp (decide := true) only [WP_skip, WP_ops, WP_seq, WP_block, WP_exit, WP_ret, WP_cond, CdC_true, CdC_false, seqQ_normal, seqQ_exit, seqQ_ret, seqQ_pan, blkQ_normal, blkQ_exit, blkQ_ret, blkQ_pan, bodyQ_ret, bodyQ_normal, bodyQ_pan, bodyK_some, WP_aops, WPa_nil, WPa_wr, WrA_new, CallA_new, WPa_rd, WPa_call, WPa_callv, WPa_gd, RdA_some, CallA_ret, WPs_nil, WPs_rd, WPs_wr, WPs_call, WPs_callv, WPs_gd, RdK_some, WrK_some, CallK_ret, CallV_func, GdS_tt, GdS_tf, GdS_ft, GdS_ff, GdA_tt, GdA_tf, GdA_ft, GdA_ff, evR, lenV_slc, lenV_tail, lenV_str, iaV_slc, evX, AO.ev, Fr.put_some, Fr.put_none, Fr.at_set, Fr.at_ofArgs, List.getD_cons_zero, List.getD_cons_succ, List.getD_nil, binV, intOp, strOp, AV.cells, AHeap.cell_new, AHeap.range_new, AHeap.cell_old, AHeap.range_old, AHeap.get_new, AHeap.get_old, AHeap.put_new, AHeap.lt_new, AHeap.lt_alloc, AHeap.wf_alloc, AHeap.base_new, AHeap.base_alloc, evRVs, evRV, tup, List.map_cons, List.map_nil, List.cons_append, List.nil_append, List.append_nil, List.getElem?_cons_zero, List.getElem?_cons_succ, Nat.zero_add, Option.map_some, Option.map_none, if_true, if_false, ↓reduceIte, Bool.false_eq_true, eq_self, Bool.not_false, Bool.not_true, decide_true, decide_false, Option.isNone_none, Option.isNone_some, WPs_nxt, CallV_yield, hb]
  refine f59 hmb hmblt hM fun H' v ks h1 h2 h3 => ?_
  simp (decide := true) only [WP_skip, WP_ops, WP_seq, WP_block, WP_exit, WP_ret, WP_cond, CdC_true, CdC_false, seqQ_normal, seqQ_exit, seqQ_ret, seqQ_pan, blkQ_normal, blkQ_exit, blkQ_ret, blkQ_pan, bodyQ_ret, bodyQ_normal, bodyQ_pan, bodyK_some, WP_aops, WPa_nil, WPa_wr, WrA_new, CallA_new, WPa_rd, WPa_call, WPa_callv, WPa_gd, RdA_some, CallA_ret, WPs_nil, WPs_rd, WPs_wr, WPs_call, WPs_callv, WPs_gd, RdK_some, WrK_some, CallK_ret, CallV_func, GdS_tt, GdS_tf, GdS_ft, GdS_ff, GdA_tt, GdA_tf, GdA_ft, GdA_ff, evR, lenV_slc, lenV_tail, lenV_str, iaV_slc, evX, AO.ev, Fr.put_some, Fr.put_none, Fr.at_set, Fr.at_ofArgs, List.getD_cons_zero, List.getD_cons_succ, List.getD_nil, binV, intOp, strOp, AV.cells, AHeap.cell_new, AHeap.range_new, AHeap.cell_old, AHeap.range_old, AHeap.get_new, AHeap.get_old, AHeap.put_new, AHeap.lt_new, AHeap.lt_alloc, AHeap.wf_alloc, AHeap.base_new, AHeap.base_alloc, evRVs, evRV, tup, List.map_cons, List.map_nil, List.cons_append, List.nil_append, List.append_nil, List.getElem?_cons_zero, List.getElem?_cons_succ, Nat.zero_add, Option.map_some, Option.map_none, if_true, if_false, ↓reduceIte, Bool.false_eq_true, eq_self, Bool.not_false, Bool.not_true, decide_true, decide_false, Option.isNone_none, Option.isNone_some, WPs_nxt, CallV_yield, hb]
  exact .this (h _ _ _ h1 h2 h3)
end Go.AM
