/- The document's folders: with, without. -/
import Derived.Test.YtjfjmlglgdhkoaaRfM
namespace Go.AM
open Go Go.Proofs
set_option linter.unusedSimpArgs false
set_option linter.unusedVariables false
set_option maxRecDepth 100000
set_option maxHeartbeats 8000000

/-- What a call that builds a row of folders answers. -/
def rowFQ (H : AHeap) (Q : AE → AHeap → Prop) (w : List Fo) : Prop :=
  if w = [] then Q (.ret (.slice none 0 (.inl 0))) H else Q (.ret (.slice (some (H.next, 0)) w.length (.inr 0))) (H.alloc (.cells (w.flatMap Fo.cs) (some 4)))
theorem rowFQ_end {H H' : AHeap} {Q : AE → AHeap → Prop} {v : AV} {w : List Fo} (hle : H.Le H') (hr : RowV 4 H H' v w.length (w.flatMap Fo.cs)) (h : rowFQ H Q w) : Gc H Q (.ret v) H' := by
  rcases hr with ⟨r0, _, rfl⟩ | ⟨r0, i2, r1, r2, rfl, r4, r5⟩
  · have : w = [] := List.eq_nil_of_length_eq_zero r0
    rw [rowFQ, if_pos this] at h
    exact .same hle trivial h
  · rw [rowFQ, if_neg (by intro e; rw [e] at r0; simp at r0)] at h
    exact .row hle r1 r4 (okL_cs _ _) h
theorem RowV.appF {H0 H : AHeap} {v : AV} {acc : List Fo} (h : RowV 4 H0 H v acc.length (acc.flatMap Fo.cs)) (hb : H0.WF) (hle : H0.Le H) (ha : acc.length ≤ 2000) (f : Fo) :
    ∃ v' H', evApp (H.alloc (.cells f.cs none)) 4 32 v (.slice (some (H.next, 0)) 1 (.inl 1)) = some (v', H') ∧ RowV 4 H0 H' v' (acc ++ [f]).length ((acc ++ [f]).flatMap Fo.cs) ∧ H0.Le H' := by
  have hb' := hle.wf hb
  obtain ⟨v', H2, h1, h2, h3⟩ := (h.trans (.new hb' (b := .cells f.cs none))).app (x := .slice (some (H.next, 0)) 1 (.inl 1)) (bytes := 32) (m := 1) (new := f.cs) hb (hle.alloc' hb)
    (by simp only [srcOf, AHeap.range_new hb', cs_len, Nat.zero_add, Nat.one_mul, Nat.le_refl, if_true, List.drop_zero, cs_take, Option.map_some]) rfl (by omega) rfl (by omega) (by omega) (by omega)
  refine ⟨v', H2, h1, ?_, h3⟩
  have e : (acc ++ [f]).flatMap Fo.cs = acc.flatMap Fo.cs ++ f.cs := by simp
  rw [e, List.length_append]
  exact h2
theorem IV.trans {H H' : AHeap} {v : AV} {l : List Int} (h : IV H v l) (hb : H.WF) (hle : H.Le H') : IV H' v l :=
  ⟨h.le, lenV_any h.len, fun i hi => by
    obtain ⟨a, h1, h2⟩ := h.elem i hi
    refine ⟨a, h1, ?_⟩
    have hlt : a.1 < H.next := by
      unfold AHeap.cell at h2
      split at h2
      · rename_i c r hg
        unfold AHeap.get at hg
        split at hg
        · unfold AHeap.WF at hb; omega
        · split at hg
          · assumption
          · cases hg
      · cases h2
    rw [hle.cell hlt]; exact h2⟩

theorem f32 {H : AHeap} {Q : AE → AHeap → Prop} {v : AV} {l : List Fo} (hV : FV H v l) (hr : Rise l) {f : Fo} (hne : ∀ x ∈ l, x.id ≠ f.id) (h : rowFQ H Q (withF l f)) : ACall Try.prog 32 [v, f.av] H Q := by
  refine ACall.comp [] mixed (by decide +kernel) fun F hF' => ?_
  cbv at hF'
  cases hF'
  refine ⟨by simp, fun hb ha => ?_⟩
  have hle := hV.le
  have hbn : H.base ≤ H.next := hb
  have hb1 := AHeap.wf_alloc hb (b := .cells f.cs none)
  have hle1 := AHeap.Le.new hb (b := .cells f.cs none)
  have hbox : (H.alloc (.cells f.cs none)).get H.next = some (.cells f.cs none) := AHeap.get_new hb
  have hsort := fun j k (hj : j < l.length) (hk : k < l.length) (hjk : j < k) => List.pairwise_iff_getElem.1 hr j k hj hk hjk
  simp (decide := true) only [WP_skip, WP_ops, WP_seq, WP_block, WP_exit, WP_ret, WP_cond, CdC_true, CdC_false, seqQ_normal, seqQ_exit, seqQ_ret, seqQ_pan, blkQ_normal, blkQ_exit, blkQ_ret, blkQ_pan, bodyQ_ret, bodyQ_normal, bodyQ_pan, bodyK_some, WP_aops, WPa_nil, WPa_wr, WrA_new, CallA_new, WPa_rd, WPa_call, WPa_callv, WPa_gd, RdA_some, CallA_ret, WPs_nil, WPs_rd, WPs_wr, WPs_call, WPs_callv, WPs_gd, RdK_some, WrK_some, CallK_ret, CallV_func, GdS_tt, GdS_tf, GdS_ft, GdS_ff, GdA_tt, GdA_tf, GdA_ft, GdA_ff, evR, lenV_slc, lenV_tail, lenV_str, iaV_slc, evX, AO.ev, Fr.put_some, Fr.put_none, Fr.at_set, Fr.at_ofArgs, List.getD_cons_zero, List.getD_cons_succ, List.getD_nil, binV, intOp, strOp, AV.cells, AHeap.cell_new, AHeap.range_new, AHeap.cell_old, AHeap.range_old, AHeap.get_new, AHeap.get_old, AHeap.put_new, AHeap.lt_new, AHeap.lt_alloc, AHeap.wf_alloc, AHeap.base_new, AHeap.base_alloc, evRVs, evRV, tup, List.map_cons, List.map_nil, List.cons_append, List.nil_append, List.append_nil, List.getElem?_cons_zero, List.getElem?_cons_succ, Nat.zero_add, Option.map_some, Option.map_none, if_true, if_false, ↓reduceIte, Bool.false_eq_true, eq_self, Bool.not_false, Bool.not_true, decide_true, decide_false, hb, Fo.av, cs0, cs1, cs2, cs3, cs_len, cs_take, List.drop_zero, one_f, splice_f, fillA_f, Nat.le_refl, and_self, Nat.add_zero]
  generalize hH1 : H.alloc (.cells f.cs none) = H1 at *
  have hlt1 : H.next < H1.next := by rw [← hH1]; exact AHeap.lt_new
  have hrow0 : RowV 4 H1 H1 (.slice none 0 (.inl 0)) 0 (([] : List Fo).flatMap Fo.cs) := RowV.nil 4 H1 H1
  refine WP_loop (fun t' H' => ∃ (i : Nat) (acc : List Fo) (r : AV) (inn : Bool), H1.Le H' ∧ i ≤ l.length ∧ acc.length ≤ i + 1 ∧ RowV 4 H1 H' r acc.length (acc.flatMap Fo.cs) ∧ Fr.at t' 0 = v ∧ Fr.at t' 3 = .ptr (some (H.next, 0)) ∧ Fr.at t' 5 = r ∧ Fr.at t' 6 = .bool inn ∧ Fr.at t' 7 = .int .i64 i ∧
      (inn = true → withF l f = acc ++ l.drop i) ∧ (inn = false → acc = l.take i ∧ ∀ j (hj : j < l.length), j < i → l[j].id < f.id)) (fun t' _ => ((l.length : Int) - numOf (Fr.at t' 7)).toNat) ?_ ?_
  · refine ⟨0, [], .slice none 0 (.inl 0), false, .refl _, by omega, by simp, hrow0, ?_, ?_, ?_, ?_, ?_, fun e => (by cases e), fun _ => ⟨by simp, fun j _ hj => absurd hj (by omega)⟩⟩
    all_goals simp (decide := true) only [WP_skip, WP_ops, WP_seq, WP_block, WP_exit, WP_ret, WP_cond, CdC_true, CdC_false, seqQ_normal, seqQ_exit, seqQ_ret, seqQ_pan, blkQ_normal, blkQ_exit, blkQ_ret, blkQ_pan, bodyQ_ret, bodyQ_normal, bodyQ_pan, bodyK_some, WP_aops, WPa_nil, WPa_wr, WrA_new, CallA_new, WPa_rd, WPa_call, WPa_callv, WPa_gd, RdA_some, CallA_ret, WPs_nil, WPs_rd, WPs_wr, WPs_call, WPs_callv, WPs_gd, RdK_some, WrK_some, CallK_ret, CallV_func, GdS_tt, GdS_tf, GdS_ft, GdS_ff, GdA_tt, GdA_tf, GdA_ft, GdA_ff, evR, lenV_slc, lenV_tail, lenV_str, iaV_slc, evX, AO.ev, Fr.put_some, Fr.put_none, Fr.at_set, Fr.at_ofArgs, List.getD_cons_zero, List.getD_cons_succ, List.getD_nil, binV, intOp, strOp, AV.cells, AHeap.cell_new, AHeap.range_new, AHeap.cell_old, AHeap.range_old, AHeap.get_new, AHeap.get_old, AHeap.put_new, AHeap.lt_new, AHeap.lt_alloc, AHeap.wf_alloc, AHeap.base_new, AHeap.base_alloc, evRVs, evRV, tup, List.map_cons, List.map_nil, List.cons_append, List.nil_append, List.append_nil, List.getElem?_cons_zero, List.getElem?_cons_succ, Nat.zero_add, Option.map_some, Option.map_none, if_true, if_false, ↓reduceIte, Bool.false_eq_true, eq_self, Bool.not_false, Bool.not_true, decide_true, decide_false, hb, Int.natCast_zero]
  · rintro t H2 ⟨i, acc, r, inn, hle2, hi, hal, hrow, g0, g3, g5, g6, g7, hin, hout⟩
    have hb2 := hle2.wf hb1
    have hV1 := hV.trans hb hle1
    have hlen : lenV H2 .slc v = some (.int .i64 l.length) := lenV_any hV1.len
    have hbox2 : H2.get H.next = some (.cells f.cs none) := by rw [hle2.get _ hlt1]; exact hbox
    have cf : H2.cell (H.next, 0) = some (.int .u32 f.id) := by rw [AHeap.cell_of hbox2]; rfl
    have rf : H2.range (H.next, 0) 4 = some f.cs := by rw [AHeap.range_of hbox2]; rfl
    by_cases hlt : i < l.length
    · have hI : (i : Int) < (l.length : Int) := by omega
      obtain ⟨a, a1, a20, a30, _, _⟩ := hV1.flds hlt
      have alt : a.1 < H1.next := AHeap.lt_of_range hb1 a20
      have a2 := (hle2.range alt).trans a20
      have a3 : H2.cell (a.1, a.2) = _ := (hle2.cell (p := (a.1, a.2)) alt).trans a30
      have hd : l.drop i = l[i] :: l.drop (i + 1) := List.drop_eq_getElem_cons hlt
      cases inn with
      | true =>
        obtain ⟨r', H3, ev, hrow3, hle3⟩ := hrow.appF hb1 hle2 (by omega) l[i]
        simp (decide := true) only [WP_skip, WP_ops, WP_seq, WP_block, WP_exit, WP_ret, WP_cond, CdC_true, CdC_false, seqQ_normal, seqQ_exit, seqQ_ret, seqQ_pan, blkQ_normal, blkQ_exit, blkQ_ret, blkQ_pan, bodyQ_ret, bodyQ_normal, bodyQ_pan, bodyK_some, WP_aops, WPa_nil, WPa_wr, WrA_new, CallA_new, WPa_rd, WPa_call, WPa_callv, WPa_gd, RdA_some, CallA_ret, WPs_nil, WPs_rd, WPs_wr, WPs_call, WPs_callv, WPs_gd, RdK_some, WrK_some, CallK_ret, CallV_func, GdS_tt, GdS_tf, GdS_ft, GdS_ff, GdA_tt, GdA_tf, GdA_ft, GdA_ff, evR, lenV_slc, lenV_tail, lenV_str, iaV_slc, evX, AO.ev, Fr.put_some, Fr.put_none, Fr.at_set, Fr.at_ofArgs, List.getD_cons_zero, List.getD_cons_succ, List.getD_nil, binV, intOp, strOp, AV.cells, AHeap.cell_new, AHeap.range_new, AHeap.cell_old, AHeap.range_old, AHeap.get_new, AHeap.get_old, AHeap.put_new, AHeap.lt_new, AHeap.lt_alloc, AHeap.wf_alloc, AHeap.base_new, AHeap.base_alloc, evRVs, evRV, tup, List.map_cons, List.map_nil, List.cons_append, List.nil_append, List.append_nil, List.getElem?_cons_zero, List.getElem?_cons_succ, Nat.zero_add, Option.map_some, Option.map_none, if_true, if_false, ↓reduceIte, Bool.false_eq_true, eq_self, Bool.not_false, Bool.not_true, decide_true, decide_false, hb, Fo.av, cs0, cs1, cs2, cs3, cs_len, cs_take, List.drop_zero, one_f, splice_f, fillA_f, Nat.le_refl, and_self, Nat.add_zero, g0, g3, g5, g6, g7, hlen, hI, hb2, a1, a2, a3, cf, ev, wrapN i (by omega)]
        exact ⟨⟨i + 1, _, _, true, hle3, hlt, by simp; omega, hrow3, by trivial, by trivial, by trivial, by trivial, by trivial, fun _ => by rw [hin rfl, hd]; simp, fun e => by cases e⟩, by simp only [numOf]; omega⟩
      | false =>
        obtain ⟨hacc, hlo⟩ := hout rfl
        by_cases hgt : l[i].id > f.id
        · have e1 : decide (l[i].id > f.id) = true := by simpa using hgt
          obtain ⟨r3, H3, ev3, hrow3, hle3⟩ := hrow.appF hb1 hle2 (by omega) f
          have hb3 := hle3.wf hb1
          obtain ⟨r4, H4, ev4, hrow4, hle4⟩ := hrow3.appF hb1 hle3 (by simp; omega) l[i]
          have b2 := (hle3.range alt).trans a20
          have hw := withF_at hi hlo fun k hk hik => by
            by_cases e : k = i
            · subst e; omega
            · have := hsort i k hlt hk (by omega); omega
          simp (decide := true) only [WP_skip, WP_ops, WP_seq, WP_block, WP_exit, WP_ret, WP_cond, CdC_true, CdC_false, seqQ_normal, seqQ_exit, seqQ_ret, seqQ_pan, blkQ_normal, blkQ_exit, blkQ_ret, blkQ_pan, bodyQ_ret, bodyQ_normal, bodyQ_pan, bodyK_some, WP_aops, WPa_nil, WPa_wr, WrA_new, CallA_new, WPa_rd, WPa_call, WPa_callv, WPa_gd, RdA_some, CallA_ret, WPs_nil, WPs_rd, WPs_wr, WPs_call, WPs_callv, WPs_gd, RdK_some, WrK_some, CallK_ret, CallV_func, GdS_tt, GdS_tf, GdS_ft, GdS_ff, GdA_tt, GdA_tf, GdA_ft, GdA_ff, evR, lenV_slc, lenV_tail, lenV_str, iaV_slc, evX, AO.ev, Fr.put_some, Fr.put_none, Fr.at_set, Fr.at_ofArgs, List.getD_cons_zero, List.getD_cons_succ, List.getD_nil, binV, intOp, strOp, AV.cells, AHeap.cell_new, AHeap.range_new, AHeap.cell_old, AHeap.range_old, AHeap.get_new, AHeap.get_old, AHeap.put_new, AHeap.lt_new, AHeap.lt_alloc, AHeap.wf_alloc, AHeap.base_new, AHeap.base_alloc, evRVs, evRV, tup, List.map_cons, List.map_nil, List.cons_append, List.nil_append, List.append_nil, List.getElem?_cons_zero, List.getElem?_cons_succ, Nat.zero_add, Option.map_some, Option.map_none, if_true, if_false, ↓reduceIte, Bool.false_eq_true, eq_self, Bool.not_false, Bool.not_true, decide_true, decide_false, hb, Fo.av, cs0, cs1, cs2, cs3, cs_len, cs_take, List.drop_zero, one_f, splice_f, fillA_f, Nat.le_refl, and_self, Nat.add_zero, g0, g3, g5, g6, g7, hlen, hI, hb2, hb3, a1, a2, a3, cf, rf, e1, ev3, b2, ev4, wrapN i (by omega)]
          exact ⟨⟨i + 1, _, _, true, hle4, hlt, by simp [hacc]; omega, hrow4, by trivial, by trivial, by trivial, by trivial, by trivial, fun _ => by rw [hw, hd, hacc]; simp, fun e => by cases e⟩, by simp only [numOf]; omega⟩
        · have e1 : decide (l[i].id > f.id) = false := by simpa using hgt
          obtain ⟨r', H3, ev, hrow3, hle3⟩ := hrow.appF hb1 hle2 (by omega) l[i]
          simp (decide := true) only [WP_skip, WP_ops, WP_seq, WP_block, WP_exit, WP_ret, WP_cond, CdC_true, CdC_false, seqQ_normal, seqQ_exit, seqQ_ret, seqQ_pan, blkQ_normal, blkQ_exit, blkQ_ret, blkQ_pan, bodyQ_ret, bodyQ_normal, bodyQ_pan, bodyK_some, WP_aops, WPa_nil, WPa_wr, WrA_new, CallA_new, WPa_rd, WPa_call, WPa_callv, WPa_gd, RdA_some, CallA_ret, WPs_nil, WPs_rd, WPs_wr, WPs_call, WPs_callv, WPs_gd, RdK_some, WrK_some, CallK_ret, CallV_func, GdS_tt, GdS_tf, GdS_ft, GdS_ff, GdA_tt, GdA_tf, GdA_ft, GdA_ff, evR, lenV_slc, lenV_tail, lenV_str, iaV_slc, evX, AO.ev, Fr.put_some, Fr.put_none, Fr.at_set, Fr.at_ofArgs, List.getD_cons_zero, List.getD_cons_succ, List.getD_nil, binV, intOp, strOp, AV.cells, AHeap.cell_new, AHeap.range_new, AHeap.cell_old, AHeap.range_old, AHeap.get_new, AHeap.get_old, AHeap.put_new, AHeap.lt_new, AHeap.lt_alloc, AHeap.wf_alloc, AHeap.base_new, AHeap.base_alloc, evRVs, evRV, tup, List.map_cons, List.map_nil, List.cons_append, List.nil_append, List.append_nil, List.getElem?_cons_zero, List.getElem?_cons_succ, Nat.zero_add, Option.map_some, Option.map_none, if_true, if_false, ↓reduceIte, Bool.false_eq_true, eq_self, Bool.not_false, Bool.not_true, decide_true, decide_false, hb, Fo.av, cs0, cs1, cs2, cs3, cs_len, cs_take, List.drop_zero, one_f, splice_f, fillA_f, Nat.le_refl, and_self, Nat.add_zero, g0, g3, g5, g6, g7, hlen, hI, hb2, a1, a2, a3, cf, e1, ev, wrapN i (by omega)]
          exact ⟨⟨i + 1, _, _, false, hle3, hlt, by simp; omega, hrow3, by trivial, by trivial, by trivial, by trivial, by trivial, (fun e => by cases e), fun _ => ⟨by rw [hacc, List.take_add_one, List.getElem?_eq_getElem hlt]; rfl, fun j hj hji => by
            by_cases e : j = i
            · subst e; have := hne l[j] (List.getElem_mem hj); omega
            · exact hlo j hj (by omega)⟩⟩, by simp only [numOf]; omega⟩
    · have hI : ¬ (i : Int) < (l.length : Int) := by omega
      have hil : i = l.length := by omega
      cases inn with
      | true =>
        have hw := hin rfl
        rw [hil, List.drop_length, List.append_nil] at hw
        rw [hw] at h
        simp (decide := true) only [WP_skip, WP_ops, WP_seq, WP_block, WP_exit, WP_ret, WP_cond, CdC_true, CdC_false, seqQ_normal, seqQ_exit, seqQ_ret, seqQ_pan, blkQ_normal, blkQ_exit, blkQ_ret, blkQ_pan, bodyQ_ret, bodyQ_normal, bodyQ_pan, bodyK_some, WP_aops, WPa_nil, WPa_wr, WrA_new, CallA_new, WPa_rd, WPa_call, WPa_callv, WPa_gd, RdA_some, CallA_ret, WPs_nil, WPs_rd, WPs_wr, WPs_call, WPs_callv, WPs_gd, RdK_some, WrK_some, CallK_ret, CallV_func, GdS_tt, GdS_tf, GdS_ft, GdS_ff, GdA_tt, GdA_tf, GdA_ft, GdA_ff, evR, lenV_slc, lenV_tail, lenV_str, iaV_slc, evX, AO.ev, Fr.put_some, Fr.put_none, Fr.at_set, Fr.at_ofArgs, List.getD_cons_zero, List.getD_cons_succ, List.getD_nil, binV, intOp, strOp, AV.cells, AHeap.cell_new, AHeap.range_new, AHeap.cell_old, AHeap.range_old, AHeap.get_new, AHeap.get_old, AHeap.put_new, AHeap.lt_new, AHeap.lt_alloc, AHeap.wf_alloc, AHeap.base_new, AHeap.base_alloc, evRVs, evRV, tup, List.map_cons, List.map_nil, List.cons_append, List.nil_append, List.append_nil, List.getElem?_cons_zero, List.getElem?_cons_succ, Nat.zero_add, Option.map_some, Option.map_none, if_true, if_false, ↓reduceIte, Bool.false_eq_true, eq_self, Bool.not_false, Bool.not_true, decide_true, decide_false, hb, Fo.av, cs0, cs1, cs2, cs3, cs_len, cs_take, List.drop_zero, one_f, splice_f, fillA_f, Nat.le_refl, and_self, Nat.add_zero, g0, g3, g5, g6, g7, hlen, hI, hb2]
        exact rowFQ_end (hle1.trans hle2) (by
          rcases hrow with x | ⟨x0, i2, x1, x2, x3, x4, x5⟩
          · exact .inl x
          · exact .inr ⟨x0, i2, Nat.le_trans hle1.next x1, x2, x3, x4, x5⟩) h
      | false =>
        obtain ⟨hacc, hlo⟩ := hout rfl
        have hw := withF_at (Nat.le_refl l.length) (fun j hj _ => hlo j hj (by omega)) fun k hk hik => absurd hk (by omega)
        obtain ⟨r', H3, ev, hrow3, hle3⟩ := hrow.appF hb1 hle2 (by omega) f
        have hw2 : acc ++ [f] = withF l f := by rw [hw, hacc, hil]; simp
        rw [hw2] at hrow3
        simp (decide := true) only [WP_skip, WP_ops, WP_seq, WP_block, WP_exit, WP_ret, WP_cond, CdC_true, CdC_false, seqQ_normal, seqQ_exit, seqQ_ret, seqQ_pan, blkQ_normal, blkQ_exit, blkQ_ret, blkQ_pan, bodyQ_ret, bodyQ_normal, bodyQ_pan, bodyK_some, WP_aops, WPa_nil, WPa_wr, WrA_new, CallA_new, WPa_rd, WPa_call, WPa_callv, WPa_gd, RdA_some, CallA_ret, WPs_nil, WPs_rd, WPs_wr, WPs_call, WPs_callv, WPs_gd, RdK_some, WrK_some, CallK_ret, CallV_func, GdS_tt, GdS_tf, GdS_ft, GdS_ff, GdA_tt, GdA_tf, GdA_ft, GdA_ff, evR, lenV_slc, lenV_tail, lenV_str, iaV_slc, evX, AO.ev, Fr.put_some, Fr.put_none, Fr.at_set, Fr.at_ofArgs, List.getD_cons_zero, List.getD_cons_succ, List.getD_nil, binV, intOp, strOp, AV.cells, AHeap.cell_new, AHeap.range_new, AHeap.cell_old, AHeap.range_old, AHeap.get_new, AHeap.get_old, AHeap.put_new, AHeap.lt_new, AHeap.lt_alloc, AHeap.wf_alloc, AHeap.base_new, AHeap.base_alloc, evRVs, evRV, tup, List.map_cons, List.map_nil, List.cons_append, List.nil_append, List.append_nil, List.getElem?_cons_zero, List.getElem?_cons_succ, Nat.zero_add, Option.map_some, Option.map_none, if_true, if_false, ↓reduceIte, Bool.false_eq_true, eq_self, Bool.not_false, Bool.not_true, decide_true, decide_false, hb, Fo.av, cs0, cs1, cs2, cs3, cs_len, cs_take, List.drop_zero, one_f, splice_f, fillA_f, Nat.le_refl, and_self, Nat.add_zero, g0, g3, g5, g6, g7, hlen, hI, hb2, rf, ev]
        exact rowFQ_end (hle1.trans hle3) (by
          rcases hrow3 with x | ⟨x0, i2, x1, x2, x3, x4, x5⟩
          · exact .inl x
          · exact .inr ⟨x0, i2, Nat.le_trans hle1.next x1, x2, x3, x4, x5⟩) h

theorem f37 {H : AHeap} {Q : AE → AHeap → Prop} {v u : AV} {l : List Fo} {ids : List Int} (hV : FV H v l) (hU : IV H u ids) (h : rowFQ H Q (l.filter fun x => !ids.any fun y => x.id == y)) : ACall Try.prog 37 [v, u] H Q := by
  refine ACall.comp [] mixed (by decide +kernel) fun F hF' => ?_
  cbv at hF'
  cases hF'
  refine ⟨by simp, fun hb ha => ?_⟩
  have hle := hV.le
  have hul := hU.le
  simp (decide := true) only [WP_skip, WP_ops, WP_seq, WP_block, WP_exit, WP_ret, WP_cond, CdC_true, CdC_false, seqQ_normal, seqQ_exit, seqQ_ret, seqQ_pan, blkQ_normal, blkQ_exit, blkQ_ret, blkQ_pan, bodyQ_ret, bodyQ_normal, bodyQ_pan, bodyK_some, WP_aops, WPa_nil, WPa_wr, WrA_new, CallA_new, WPa_rd, WPa_call, WPa_callv, WPa_gd, RdA_some, CallA_ret, WPs_nil, WPs_rd, WPs_wr, WPs_call, WPs_callv, WPs_gd, RdK_some, WrK_some, CallK_ret, CallV_func, GdS_tt, GdS_tf, GdS_ft, GdS_ff, GdA_tt, GdA_tf, GdA_ft, GdA_ff, evR, lenV_slc, lenV_tail, lenV_str, iaV_slc, evX, AO.ev, Fr.put_some, Fr.put_none, Fr.at_set, Fr.at_ofArgs, List.getD_cons_zero, List.getD_cons_succ, List.getD_nil, binV, intOp, strOp, AV.cells, AHeap.cell_new, AHeap.range_new, AHeap.cell_old, AHeap.range_old, AHeap.get_new, AHeap.get_old, AHeap.put_new, AHeap.lt_new, AHeap.lt_alloc, AHeap.wf_alloc, AHeap.base_new, AHeap.base_alloc, evRVs, evRV, tup, List.map_cons, List.map_nil, List.cons_append, List.nil_append, List.append_nil, List.getElem?_cons_zero, List.getElem?_cons_succ, Nat.zero_add, Option.map_some, Option.map_none, if_true, if_false, ↓reduceIte, Bool.false_eq_true, eq_self, Bool.not_false, Bool.not_true, decide_true, decide_false, hb]
  refine WP_loop (fun t' H' => ∃ (i : Nat) (acc : List Fo) (r : AV), H.Le H' ∧ i ≤ l.length ∧ acc = (l.take i).filter (fun x => !ids.any fun y => x.id == y) ∧ RowV 4 H H' r acc.length (acc.flatMap Fo.cs) ∧ Fr.at t' 0 = v ∧ Fr.at t' 1 = u ∧ Fr.at t' 5 = r ∧ Fr.at t' 6 = .int .i64 i)
    (fun t' _ => ((l.length : Int) - numOf (Fr.at t' 6)).toNat) ?_ ?_
  · refine ⟨0, [], _, .refl _, by omega, by simp, RowV.nil 4 H H, ?_⟩
    simp (decide := true) only [WP_skip, WP_ops, WP_seq, WP_block, WP_exit, WP_ret, WP_cond, CdC_true, CdC_false, seqQ_normal, seqQ_exit, seqQ_ret, seqQ_pan, blkQ_normal, blkQ_exit, blkQ_ret, blkQ_pan, bodyQ_ret, bodyQ_normal, bodyQ_pan, bodyK_some, WP_aops, WPa_nil, WPa_wr, WrA_new, CallA_new, WPa_rd, WPa_call, WPa_callv, WPa_gd, RdA_some, CallA_ret, WPs_nil, WPs_rd, WPs_wr, WPs_call, WPs_callv, WPs_gd, RdK_some, WrK_some, CallK_ret, CallV_func, GdS_tt, GdS_tf, GdS_ft, GdS_ff, GdA_tt, GdA_tf, GdA_ft, GdA_ff, evR, lenV_slc, lenV_tail, lenV_str, iaV_slc, evX, AO.ev, Fr.put_some, Fr.put_none, Fr.at_set, Fr.at_ofArgs, List.getD_cons_zero, List.getD_cons_succ, List.getD_nil, binV, intOp, strOp, AV.cells, AHeap.cell_new, AHeap.range_new, AHeap.cell_old, AHeap.range_old, AHeap.get_new, AHeap.get_old, AHeap.put_new, AHeap.lt_new, AHeap.lt_alloc, AHeap.wf_alloc, AHeap.base_new, AHeap.base_alloc, evRVs, evRV, tup, List.map_cons, List.map_nil, List.cons_append, List.nil_append, List.append_nil, List.getElem?_cons_zero, List.getElem?_cons_succ, Nat.zero_add, Option.map_some, Option.map_none, if_true, if_false, ↓reduceIte, Bool.false_eq_true, eq_self, Bool.not_false, Bool.not_true, decide_true, decide_false, hb, Int.natCast_zero, and_self]
  · rintro t H2 ⟨i, acc, r, hle2, hi, hacc, hrow, g0, g1, g5, g6⟩
    have hb2 := hle2.wf hb
    have hV2 := hV.trans hb hle2
    have hU2 := hU.trans hb hle2
    have hlen := hV2.len
    have hulen := hU2.len
    by_cases hlt : i < l.length
    · have hI : (i : Int) < (l.length : Int) := by omega
      obtain ⟨a, a1, a2, a3, a4, a5⟩ := hV2.flds hlt
      have hal : acc.length ≤ i := by
        rw [hacc]; exact Nat.le_trans (List.length_filter_le _ _) (by rw [List.length_take]; omega)
      have htk : (l.take (i + 1)).filter (fun x => !ids.any fun y => x.id == y) = acc ++ if (ids.any fun y => l[i].id == y) = true then [] else [l[i]] := by
        rw [List.take_add_one, List.getElem?_eq_getElem hlt, List.filter_append, ← hacc]
        cases hx : (ids.any fun y => l[i].id == y) <;> simp [hx]
      simp (decide := true) only [WP_skip, WP_ops, WP_seq, WP_block, WP_exit, WP_ret, WP_cond, CdC_true, CdC_false, seqQ_normal, seqQ_exit, seqQ_ret, seqQ_pan, blkQ_normal, blkQ_exit, blkQ_ret, blkQ_pan, bodyQ_ret, bodyQ_normal, bodyQ_pan, bodyK_some, WP_aops, WPa_nil, WPa_wr, WrA_new, CallA_new, WPa_rd, WPa_call, WPa_callv, WPa_gd, RdA_some, CallA_ret, WPs_nil, WPs_rd, WPs_wr, WPs_call, WPs_callv, WPs_gd, RdK_some, WrK_some, CallK_ret, CallV_func, GdS_tt, GdS_tf, GdS_ft, GdS_ff, GdA_tt, GdA_tf, GdA_ft, GdA_ff, evR, lenV_slc, lenV_tail, lenV_str, iaV_slc, evX, AO.ev, Fr.put_some, Fr.put_none, Fr.at_set, Fr.at_ofArgs, List.getD_cons_zero, List.getD_cons_succ, List.getD_nil, binV, intOp, strOp, AV.cells, AHeap.cell_new, AHeap.range_new, AHeap.cell_old, AHeap.range_old, AHeap.get_new, AHeap.get_old, AHeap.put_new, AHeap.lt_new, AHeap.lt_alloc, AHeap.wf_alloc, AHeap.base_new, AHeap.base_alloc, evRVs, evRV, tup, List.map_cons, List.map_nil, List.cons_append, List.nil_append, List.append_nil, List.getElem?_cons_zero, List.getElem?_cons_succ, Nat.zero_add, Option.map_some, Option.map_none, if_true, if_false, ↓reduceIte, Bool.false_eq_true, eq_self, Bool.not_false, Bool.not_true, decide_true, decide_false, hb, Fo.av, cs0, cs1, cs2, cs3, cs_len, cs_take, List.drop_zero, one_f, splice_f, fillA_f, Nat.le_refl, and_self, Nat.add_zero, g0, g1, g5, g6, hlen, hI]
      refine WP_loop (fun t' H' => ∃ k : Nat, H' = H2 ∧ k ≤ ids.length ∧ Fr.at t' 0 = v ∧ Fr.at t' 1 = u ∧ Fr.at t' 5 = r ∧ Fr.at t' 6 = .int .i64 i ∧ Fr.at t' 7 = .bool ((ids.take k).any fun y => l[i].id == y) ∧ Fr.at t' 8 = .int .i64 k)
        (fun t' _ => ((ids.length : Int) - numOf (Fr.at t' 8)).toNat) ?_ ?_
      · refine ⟨0, ?_⟩
        simp (decide := true) only [WP_skip, WP_ops, WP_seq, WP_block, WP_exit, WP_ret, WP_cond, CdC_true, CdC_false, seqQ_normal, seqQ_exit, seqQ_ret, seqQ_pan, blkQ_normal, blkQ_exit, blkQ_ret, blkQ_pan, bodyQ_ret, bodyQ_normal, bodyQ_pan, bodyK_some, WP_aops, WPa_nil, WPa_wr, WrA_new, CallA_new, WPa_rd, WPa_call, WPa_callv, WPa_gd, RdA_some, CallA_ret, WPs_nil, WPs_rd, WPs_wr, WPs_call, WPs_callv, WPs_gd, RdK_some, WrK_some, CallK_ret, CallV_func, GdS_tt, GdS_tf, GdS_ft, GdS_ff, GdA_tt, GdA_tf, GdA_ft, GdA_ff, evR, lenV_slc, lenV_tail, lenV_str, iaV_slc, evX, AO.ev, Fr.put_some, Fr.put_none, Fr.at_set, Fr.at_ofArgs, List.getD_cons_zero, List.getD_cons_succ, List.getD_nil, binV, intOp, strOp, AV.cells, AHeap.cell_new, AHeap.range_new, AHeap.cell_old, AHeap.range_old, AHeap.get_new, AHeap.get_old, AHeap.put_new, AHeap.lt_new, AHeap.lt_alloc, AHeap.wf_alloc, AHeap.base_new, AHeap.base_alloc, evRVs, evRV, tup, List.map_cons, List.map_nil, List.cons_append, List.nil_append, List.append_nil, List.getElem?_cons_zero, List.getElem?_cons_succ, Nat.zero_add, Option.map_some, Option.map_none, if_true, if_false, ↓reduceIte, Bool.false_eq_true, eq_self, Bool.not_false, Bool.not_true, decide_true, decide_false, hb, g0, g1, g5, g6, Int.natCast_zero, and_self, Nat.zero_le, List.take_zero, List.any_nil]
      · rintro t2 H3 ⟨k, hH3, hk, q0, q1, q5, q6, q7, q8⟩
        subst hH3
        by_cases hkl : k < ids.length
        · have hK : (k : Int) < (ids.length : Int) := by omega
          obtain ⟨c, c1, c2⟩ := hU2.elem k hkl
          have hany : ((ids.take (k + 1)).any fun y => l[i].id == y) = (((ids.take k).any fun y => l[i].id == y) || (l[i].id == ids[k])) := by
            rw [List.take_add_one, List.getElem?_eq_getElem hkl, List.any_append]; simp
          cases hg : ((ids.take k).any fun y => l[i].id == y) with
          | true =>
            rw [hg] at hany q7
            simp (decide := true) only [WP_skip, WP_ops, WP_seq, WP_block, WP_exit, WP_ret, WP_cond, CdC_true, CdC_false, seqQ_normal, seqQ_exit, seqQ_ret, seqQ_pan, blkQ_normal, blkQ_exit, blkQ_ret, blkQ_pan, bodyQ_ret, bodyQ_normal, bodyQ_pan, bodyK_some, WP_aops, WPa_nil, WPa_wr, WrA_new, CallA_new, WPa_rd, WPa_call, WPa_callv, WPa_gd, RdA_some, CallA_ret, WPs_nil, WPs_rd, WPs_wr, WPs_call, WPs_callv, WPs_gd, RdK_some, WrK_some, CallK_ret, CallV_func, GdS_tt, GdS_tf, GdS_ft, GdS_ff, GdA_tt, GdA_tf, GdA_ft, GdA_ff, evR, lenV_slc, lenV_tail, lenV_str, iaV_slc, evX, AO.ev, Fr.put_some, Fr.put_none, Fr.at_set, Fr.at_ofArgs, List.getD_cons_zero, List.getD_cons_succ, List.getD_nil, binV, intOp, strOp, AV.cells, AHeap.cell_new, AHeap.range_new, AHeap.cell_old, AHeap.range_old, AHeap.get_new, AHeap.get_old, AHeap.put_new, AHeap.lt_new, AHeap.lt_alloc, AHeap.wf_alloc, AHeap.base_new, AHeap.base_alloc, evRVs, evRV, tup, List.map_cons, List.map_nil, List.cons_append, List.nil_append, List.append_nil, List.getElem?_cons_zero, List.getElem?_cons_succ, Nat.zero_add, Option.map_some, Option.map_none, if_true, if_false, ↓reduceIte, Bool.false_eq_true, eq_self, Bool.not_false, Bool.not_true, decide_true, decide_false, hb, Fo.av, cs0, cs1, cs2, cs3, cs_len, cs_take, List.drop_zero, one_f, splice_f, fillA_f, Nat.le_refl, and_self, Nat.add_zero, GdA_u, q0, q1, q5, q6, q7, q8, hulen, hK, wrapN k (by omega)]
            exact ⟨⟨k + 1, trivial, hkl, trivial, trivial, trivial, trivial, by rw [hany]; rfl, rfl⟩, by simp only [numOf]; omega⟩
          | false =>
            rw [hg] at hany q7
            simp (decide := true) only [WP_skip, WP_ops, WP_seq, WP_block, WP_exit, WP_ret, WP_cond, CdC_true, CdC_false, seqQ_normal, seqQ_exit, seqQ_ret, seqQ_pan, blkQ_normal, blkQ_exit, blkQ_ret, blkQ_pan, bodyQ_ret, bodyQ_normal, bodyQ_pan, bodyK_some, WP_aops, WPa_nil, WPa_wr, WrA_new, CallA_new, WPa_rd, WPa_call, WPa_callv, WPa_gd, RdA_some, CallA_ret, WPs_nil, WPs_rd, WPs_wr, WPs_call, WPs_callv, WPs_gd, RdK_some, WrK_some, CallK_ret, CallV_func, GdS_tt, GdS_tf, GdS_ft, GdS_ff, GdA_tt, GdA_tf, GdA_ft, GdA_ff, evR, lenV_slc, lenV_tail, lenV_str, iaV_slc, evX, AO.ev, Fr.put_some, Fr.put_none, Fr.at_set, Fr.at_ofArgs, List.getD_cons_zero, List.getD_cons_succ, List.getD_nil, binV, intOp, strOp, AV.cells, AHeap.cell_new, AHeap.range_new, AHeap.cell_old, AHeap.range_old, AHeap.get_new, AHeap.get_old, AHeap.put_new, AHeap.lt_new, AHeap.lt_alloc, AHeap.wf_alloc, AHeap.base_new, AHeap.base_alloc, evRVs, evRV, tup, List.map_cons, List.map_nil, List.cons_append, List.nil_append, List.append_nil, List.getElem?_cons_zero, List.getElem?_cons_succ, Nat.zero_add, Option.map_some, Option.map_none, if_true, if_false, ↓reduceIte, Bool.false_eq_true, eq_self, Bool.not_false, Bool.not_true, decide_true, decide_false, hb, Fo.av, cs0, cs1, cs2, cs3, cs_len, cs_take, List.drop_zero, one_f, splice_f, fillA_f, Nat.le_refl, and_self, Nat.add_zero, GdA_u, q0, q1, q5, q6, q7, q8, hulen, hK, a1, a3, c1, c2, wrapN k (by omega)]
            exact ⟨⟨k + 1, trivial, hkl, trivial, trivial, trivial, trivial, by rw [hany]; rfl, rfl⟩, by simp only [numOf]; omega⟩
        · have hK : ¬ (k : Int) < (ids.length : Int) := by omega
          have hke : k = ids.length := by omega
          subst hke
          rw [List.take_length] at q7
          cases hg : (ids.any fun y => l[i].id == y) with
          | true =>
            rw [hg] at q7 htk
            simp (decide := true) only [WP_skip, WP_ops, WP_seq, WP_block, WP_exit, WP_ret, WP_cond, CdC_true, CdC_false, seqQ_normal, seqQ_exit, seqQ_ret, seqQ_pan, blkQ_normal, blkQ_exit, blkQ_ret, blkQ_pan, bodyQ_ret, bodyQ_normal, bodyQ_pan, bodyK_some, WP_aops, WPa_nil, WPa_wr, WrA_new, CallA_new, WPa_rd, WPa_call, WPa_callv, WPa_gd, RdA_some, CallA_ret, WPs_nil, WPs_rd, WPs_wr, WPs_call, WPs_callv, WPs_gd, RdK_some, WrK_some, CallK_ret, CallV_func, GdS_tt, GdS_tf, GdS_ft, GdS_ff, GdA_tt, GdA_tf, GdA_ft, GdA_ff, evR, lenV_slc, lenV_tail, lenV_str, iaV_slc, evX, AO.ev, Fr.put_some, Fr.put_none, Fr.at_set, Fr.at_ofArgs, List.getD_cons_zero, List.getD_cons_succ, List.getD_nil, binV, intOp, strOp, AV.cells, AHeap.cell_new, AHeap.range_new, AHeap.cell_old, AHeap.range_old, AHeap.get_new, AHeap.get_old, AHeap.put_new, AHeap.lt_new, AHeap.lt_alloc, AHeap.wf_alloc, AHeap.base_new, AHeap.base_alloc, evRVs, evRV, tup, List.map_cons, List.map_nil, List.cons_append, List.nil_append, List.append_nil, List.getElem?_cons_zero, List.getElem?_cons_succ, Nat.zero_add, Option.map_some, Option.map_none, if_true, if_false, ↓reduceIte, Bool.false_eq_true, eq_self, Bool.not_false, Bool.not_true, decide_true, decide_false, hb, Fo.av, cs0, cs1, cs2, cs3, cs_len, cs_take, List.drop_zero, one_f, splice_f, fillA_f, Nat.le_refl, and_self, Nat.add_zero, q0, q1, q5, q6, q7, q8, hulen, hK, wrapN i (by omega)]
            exact ⟨⟨i + 1, acc, r, hle2, hlt, by rw [htk]; simp, hrow, trivial, trivial, rfl, rfl⟩, by simp only [numOf]; omega⟩
          | false =>
            rw [hg] at q7 htk
            obtain ⟨r', H4, ev, hrow4, hle4⟩ := hrow.appF hb hle2 (by omega) l[i]
            simp (decide := true) only [WP_skip, WP_ops, WP_seq, WP_block, WP_exit, WP_ret, WP_cond, CdC_true, CdC_false, seqQ_normal, seqQ_exit, seqQ_ret, seqQ_pan, blkQ_normal, blkQ_exit, blkQ_ret, blkQ_pan, bodyQ_ret, bodyQ_normal, bodyQ_pan, bodyK_some, WP_aops, WPa_nil, WPa_wr, WrA_new, CallA_new, WPa_rd, WPa_call, WPa_callv, WPa_gd, RdA_some, CallA_ret, WPs_nil, WPs_rd, WPs_wr, WPs_call, WPs_callv, WPs_gd, RdK_some, WrK_some, CallK_ret, CallV_func, GdS_tt, GdS_tf, GdS_ft, GdS_ff, GdA_tt, GdA_tf, GdA_ft, GdA_ff, evR, lenV_slc, lenV_tail, lenV_str, iaV_slc, evX, AO.ev, Fr.put_some, Fr.put_none, Fr.at_set, Fr.at_ofArgs, List.getD_cons_zero, List.getD_cons_succ, List.getD_nil, binV, intOp, strOp, AV.cells, AHeap.cell_new, AHeap.range_new, AHeap.cell_old, AHeap.range_old, AHeap.get_new, AHeap.get_old, AHeap.put_new, AHeap.lt_new, AHeap.lt_alloc, AHeap.wf_alloc, AHeap.base_new, AHeap.base_alloc, evRVs, evRV, tup, List.map_cons, List.map_nil, List.cons_append, List.nil_append, List.append_nil, List.getElem?_cons_zero, List.getElem?_cons_succ, Nat.zero_add, Option.map_some, Option.map_none, if_true, if_false, ↓reduceIte, Bool.false_eq_true, eq_self, Bool.not_false, Bool.not_true, decide_true, decide_false, hb, Fo.av, cs0, cs1, cs2, cs3, cs_len, cs_take, List.drop_zero, one_f, splice_f, fillA_f, Nat.le_refl, and_self, Nat.add_zero, q0, q1, q5, q6, q7, q8, hulen, hK, hb2, a1, a2, ev, wrapN i (by omega)]
            exact ⟨⟨i + 1, acc ++ [l[i]], r', hle4, hlt, by rw [htk]; simp, hrow4, trivial, trivial, rfl, rfl⟩, by simp only [numOf]; omega⟩
    · have hI : ¬ (i : Int) < (l.length : Int) := by omega
      have hil : i = l.length := by omega
      rw [hil, List.take_length] at hacc
      rw [← hacc] at h
      simp (decide := true) only [WP_skip, WP_ops, WP_seq, WP_block, WP_exit, WP_ret, WP_cond, CdC_true, CdC_false, seqQ_normal, seqQ_exit, seqQ_ret, seqQ_pan, blkQ_normal, blkQ_exit, blkQ_ret, blkQ_pan, bodyQ_ret, bodyQ_normal, bodyQ_pan, bodyK_some, WP_aops, WPa_nil, WPa_wr, WrA_new, CallA_new, WPa_rd, WPa_call, WPa_callv, WPa_gd, RdA_some, CallA_ret, WPs_nil, WPs_rd, WPs_wr, WPs_call, WPs_callv, WPs_gd, RdK_some, WrK_some, CallK_ret, CallV_func, GdS_tt, GdS_tf, GdS_ft, GdS_ff, GdA_tt, GdA_tf, GdA_ft, GdA_ff, evR, lenV_slc, lenV_tail, lenV_str, iaV_slc, evX, AO.ev, Fr.put_some, Fr.put_none, Fr.at_set, Fr.at_ofArgs, List.getD_cons_zero, List.getD_cons_succ, List.getD_nil, binV, intOp, strOp, AV.cells, AHeap.cell_new, AHeap.range_new, AHeap.cell_old, AHeap.range_old, AHeap.get_new, AHeap.get_old, AHeap.put_new, AHeap.lt_new, AHeap.lt_alloc, AHeap.wf_alloc, AHeap.base_new, AHeap.base_alloc, evRVs, evRV, tup, List.map_cons, List.map_nil, List.cons_append, List.nil_append, List.append_nil, List.getElem?_cons_zero, List.getElem?_cons_succ, Nat.zero_add, Option.map_some, Option.map_none, if_true, if_false, ↓reduceIte, Bool.false_eq_true, eq_self, Bool.not_false, Bool.not_true, decide_true, decide_false, hb, Fo.av, cs0, cs1, cs2, cs3, cs_len, cs_take, List.drop_zero, one_f, splice_f, fillA_f, Nat.le_refl, and_self, Nat.add_zero, g0, g1, g5, g6, hlen, hI]
      exact rowFQ_end hle2 hrow h
end Go.AM
