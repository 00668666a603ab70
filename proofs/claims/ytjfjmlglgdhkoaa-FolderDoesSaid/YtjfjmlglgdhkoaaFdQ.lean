/- Folders: a copy; those of which it is so are struck out. -/
import Derived.Test.YtjfjmlglgdhkoaaFdO
namespace Go.AM
open Go Go.Proofs
set_option linter.unusedSimpArgs false
set_option linter.unusedVariables false
set_option maxRecDepth 100000
set_option maxHeartbeats 4000000

theorem f34 {H : AHeap} {Q : AE → AHeap → Prop} {p : Nat × Nat} {l : List Fo} {n : Nat} (hn : n = l.length) (h0 : 0 < l.length) {c : Nat ⊕ Nat} (hF : FS H p l)
    (h : Q (.ret (.slice (some (H.next, 0)) l.length (.inr 0))) (H.alloc (.cells (l.flatMap Fo.cs) (some 4)))) :
    ACall Try.prog 34 [.slice (some p) n c] H Q := by
  subst hn
  refine ACall.comp [] mixed (by decide +kernel) fun F hF' => ?_
  cbv at hF'
  cases hF'
  refine ⟨by simp, fun hb ha => ?_⟩
  have hle := hF.le
  have hle1 := AHeap.Le.new hb (b := .cells [] none)
  have hb1 := AHeap.wf_alloc hb (b := .cells [] none)
  have hF1 := hF.alloc hb (b := .cells [] none)
  have hr : (H.alloc (.cells [] none)).range (H.next, 0) (0 * 4) = some [] := by rw [AHeap.range_new hb]; rfl
  have happ := app_known (H := H.alloc (.cells [] none)) (sz := 4) (bytes := 32) (i := 0) (m := l.length) (p := (H.next, 0)) (x := .slice (some p) l.length c) (old := []) (new := l.flatMap Fo.cs)
    (by simp only [srcOf]; rw [hF1.rg]; rfl) (one_cs _) h0 hr (by omega) (by omega)
  simp (decide := true) only [WP_skip, WP_ops, WP_seq, WP_block, WP_exit, WP_ret, WP_cond, CdC_true, CdC_false, seqQ_normal, seqQ_exit, seqQ_ret, seqQ_pan, blkQ_normal, blkQ_exit, blkQ_ret, blkQ_pan, bodyQ_ret, bodyQ_normal, bodyQ_pan, bodyK_some, WP_aops, WPa_nil, WPa_wr, WrA_new, CallA_new, WPa_rd, WPa_call, WPa_callv, WPa_gd, RdA_some, CallA_ret, WPs_nil, WPs_rd, WPs_wr, WPs_call, WPs_callv, WPs_gd, RdK_some, WrK_some, CallK_ret, CallV_func, GdS_tt, GdS_tf, GdS_ft, GdS_ff, GdA_tt, GdA_tf, GdA_ft, GdA_ff, evR, lenV_slc, lenV_tail, lenV_str, iaV_slc, evX, AO.ev, Fr.put_some, Fr.put_none, Fr.at_set, Fr.at_ofArgs, List.getD_cons_zero, List.getD_cons_succ, List.getD_nil, binV, intOp, strOp, AV.cells, AHeap.cell_new, AHeap.range_new, AHeap.cell_old, AHeap.range_old, AHeap.get_new, AHeap.get_old, AHeap.put_new, AHeap.lt_new, AHeap.lt_alloc, AHeap.wf_alloc, AHeap.base_new, AHeap.base_alloc, evRVs, evRV, tup, List.map_cons, List.map_nil, List.cons_append, List.nil_append, List.append_nil, List.getElem?_cons_zero, List.getElem?_cons_succ, Nat.zero_add, Option.map_some, Option.map_none, if_true, if_false, ↓reduceIte, Bool.false_eq_true, eq_self, Bool.not_false, Bool.not_true, decide_true, decide_false, hb, fillA, List.replicate, List.flatten, happ]
  exact .row (room := some 4) (hle1.alloc' hb) hle1.next (AHeap.get_new hb1) (okL_cs _ _) (by simpa using h)

theorem f40 {H : AHeap} {Q : AE → AHeap → Prop} {q g : Nat × Nat} {ids : List Int} {m : Nat} (hm : m = ids.length) {c : Nat ⊕ Nat} (hq : H.cell q = some (.slice (some g) m c)) (hlt : q.1 < H.next) (hI : IS H g ids) {f : Fo}
    (h : Q (.ret (.bool (ids.any fun y => f.id == y))) H) : ACall Try.prog 40 [f.av, .ptr (some q)] H Q := by
  refine ACall.comp [] mixed (by decide +kernel) fun F hF' => ?_
  cbv at hF'
  cases hF'
  refine ⟨by simp, fun hb ha => ?_⟩
  have hI1 := hI.trans (AHeap.Le.new hb (b := .cells f.cs none))
  simp (decide := true) only [WP_skip, WP_ops, WP_seq, WP_block, WP_exit, WP_ret, WP_cond, CdC_true, CdC_false, seqQ_normal, seqQ_exit, seqQ_ret, seqQ_pan, blkQ_normal, blkQ_exit, blkQ_ret, blkQ_pan, bodyQ_ret, bodyQ_normal, bodyQ_pan, bodyK_some, WP_aops, WPa_nil, WPa_wr, WrA_new, CallA_new, WPa_rd, WPa_call, WPa_callv, WPa_gd, RdA_some, CallA_ret, WPs_nil, WPs_rd, WPs_wr, WPs_call, WPs_callv, WPs_gd, RdK_some, WrK_some, CallK_ret, CallV_func, GdS_tt, GdS_tf, GdS_ft, GdS_ff, GdA_tt, GdA_tf, GdA_ft, GdA_ff, evR, lenV_slc, lenV_tail, lenV_str, iaV_slc, evX, AO.ev, Fr.put_some, Fr.put_none, Fr.at_set, Fr.at_ofArgs, List.getD_cons_zero, List.getD_cons_succ, List.getD_nil, binV, intOp, strOp, AV.cells, AHeap.cell_new, AHeap.range_new, AHeap.cell_old, AHeap.range_old, AHeap.get_new, AHeap.get_old, AHeap.put_new, AHeap.lt_new, AHeap.lt_alloc, AHeap.wf_alloc, AHeap.base_new, AHeap.base_alloc, evRVs, evRV, tup, List.map_cons, List.map_nil, List.cons_append, List.nil_append, List.append_nil, List.getElem?_cons_zero, List.getElem?_cons_succ, Nat.zero_add, Option.map_some, Option.map_none, if_true, if_false, ↓reduceIte, Bool.false_eq_true, eq_self, Bool.not_false, Bool.not_true, decide_true, decide_false, hb, Fo.av, cs0, cs1, cs2, cs3, cs_len, cs_take, List.drop_zero, one_f, splice_f, fillA_f, Nat.le_refl, and_self, Nat.add_zero, hq, hlt]
  refine f35 hm hI1 ?_
  simp (decide := true) only [WP_skip, WP_ops, WP_seq, WP_block, WP_exit, WP_ret, WP_cond, CdC_true, CdC_false, seqQ_normal, seqQ_exit, seqQ_ret, seqQ_pan, blkQ_normal, blkQ_exit, blkQ_ret, blkQ_pan, bodyQ_ret, bodyQ_normal, bodyQ_pan, bodyK_some, WP_aops, WPa_nil, WPa_wr, WrA_new, CallA_new, WPa_rd, WPa_call, WPa_callv, WPa_gd, RdA_some, CallA_ret, WPs_nil, WPs_rd, WPs_wr, WPs_call, WPs_callv, WPs_gd, RdK_some, WrK_some, CallK_ret, CallV_func, GdS_tt, GdS_tf, GdS_ft, GdS_ff, GdA_tt, GdA_tf, GdA_ft, GdA_ff, evR, lenV_slc, lenV_tail, lenV_str, iaV_slc, evX, AO.ev, Fr.put_some, Fr.put_none, Fr.at_set, Fr.at_ofArgs, List.getD_cons_zero, List.getD_cons_succ, List.getD_nil, binV, intOp, strOp, AV.cells, AHeap.cell_new, AHeap.range_new, AHeap.cell_old, AHeap.range_old, AHeap.get_new, AHeap.get_old, AHeap.put_new, AHeap.lt_new, AHeap.lt_alloc, AHeap.wf_alloc, AHeap.base_new, AHeap.base_alloc, evRVs, evRV, tup, List.map_cons, List.map_nil, List.cons_append, List.nil_append, List.append_nil, List.getElem?_cons_zero, List.getElem?_cons_succ, Nat.zero_add, Option.map_some, Option.map_none, if_true, if_false, ↓reduceIte, Bool.false_eq_true, eq_self, Bool.not_false, Bool.not_true, decide_true, decide_false, hb, Fo.av, cs0, cs1, cs2, cs3, cs_len, cs_take, List.drop_zero, one_f, splice_f, fillA_f, Nat.le_refl, and_self, Nat.add_zero]
  exact .same (.new hb) trivial h

/-- All but one block stand as they stood. -/
structure LeX (b : Nat) (H H' : AHeap) : Prop where
  base : H'.base = H.base
  next : H.next ≤ H'.next
  get : ∀ i, i < H.next → i ≠ b → H'.get i = H.get i
theorem LeX.refl (b : Nat) (H : AHeap) : LeX b H H := ⟨rfl, Nat.le_refl _, fun _ _ _ => rfl⟩
theorem LeX.wf {b : Nat} {H H' : AHeap} (h : LeX b H H') (hb : H.WF) : H'.WF := by unfold AHeap.WF at *; have := h.base; have := h.next; omega
theorem LeX.alloc {b : Nat} {H H' : AHeap} (h : LeX b H H') (hb : H.WF) {x : Blk} : LeX b H (H'.alloc x) :=
  ⟨h.base, by have := h.next; simp; omega, fun i hi hne => by rw [AHeap.get_old (h.wf hb) (Nat.lt_of_lt_of_le hi h.next)]; exact h.get i hi hne⟩
theorem LeX.put {b : Nat} {H H' : AHeap} (h : LeX b H H') (hb : H.base ≤ b) (hlt : b < H'.next) {x : Blk} : LeX b H (H'.put b x) :=
  ⟨h.base, h.next, fun i hi hne => by rw [AHeap.get_put _ _ _ _ (by rw [h.base]; exact hb) hlt, if_neg hne]; exact h.get i hi hne⟩
theorem splice_set (L : List Fo) (i : Nat) (f : Fo) (hi : i < L.length) : splice (L.flatMap Fo.cs) (i * 4) f.cs = (L.set i f).flatMap Fo.cs := by
  have hs : L.set i f = L.take i ++ f :: L.drop (i + 1) := by rw [List.set_eq_take_append_cons_drop, if_pos hi]
  rw [hs, splice, take_cs, cs_len, show i * 4 + 4 = (i + 1) * 4 by omega, dropAll_cs]
  simp
theorem sl_lo {H : AHeap} {sz b n : Nat} {cs : List AV} (hg : H.get b = some (.cells cs (some sz))) (hsz : 0 < sz) (hle : n * sz ≤ cs.length) {a : Nat} (ha : a < n) {k1 : IntKind} :
    slV H sz (.slice (some (b, 0)) n (.inr 0)) (some (.int k1 (a : Nat))) none none = some (.slice (some (b, a * sz)) (n - a) (.inr a)) := by
  have a1 : (a : Int) ≤ (n : Int) := by omega
  simp only [slV, slI, hg, bnd]
  rw [if_pos ⟨trivial, hsz, by omega, by omega⟩]
  simp [a1, ha]
theorem sl_hi {H : AHeap} {sz b n : Nat} {cs : List AV} (hg : H.get b = some (.cells cs (some sz))) (hsz : 0 < sz) (hle : n * sz ≤ cs.length) (hn : 0 < n) {a : Nat} (ha : a ≤ n) {k1 : IntKind} :
    slV H sz (.slice (some (b, 0)) n (.inr 0)) none (some (.int k1 (a : Nat))) none = some (.slice (some (b, 0)) a (.inr 0)) := by
  have a1 : (a : Int) ≤ (n : Int) := by omega
  simp only [slV, slI, hg, bnd]
  rw [if_pos ⟨trivial, hsz, by omega, by omega⟩]
  simp [a1, hn]

theorem f39 {H : AHeap} {Q : AE → AHeap → Prop} {b : Nat} {l : List Fo} {n : Nat} (hn : n = l.length) (hlt : b < H.next) (hbb : H.base ≤ b) (hg : H.get b = some (.cells (l.flatMap Fo.cs) (some 4))) (hl : l.length ≤ 1000) {g : FuncId} {first cap : List AV} (pr : Fo → Bool)
    (hcall : ∀ f ∈ l, ∀ (H' : AHeap), LeX b H H' → ∀ (Q : AE → AHeap → Prop), Q (.ret (.bool (pr f))) H' → ACall Try.prog g (first ++ [f.av] ++ cap) H' Q)
    (h : ∀ (H' : AHeap) (cs : List AV), LeX b H H' → H'.get b = some (.cells cs (some 4)) → cs.length = l.length * 4 → cs.take ((l.filter fun f => !pr f).length * 4) = (l.filter fun f => !pr f).flatMap Fo.cs →
      Q (.ret (.slice (some (b, 0)) (l.filter fun f => !pr f).length (.inr 0))) H') :
    ACall Try.prog 39 [.slice (some (b, 0)) n (.inr 0), .func (.func g) first cap] H Q := by
  subst hn
  refine ACall.comp [] mixed (by decide +kernel) fun F hF' => ?_
  cbv at hF'
  cases hF'
  refine ⟨by simp, fun hb ha => ?_⟩
  have hF : FS H (b, 0) l := ⟨hlt, hl, by rw [AHeap.range_of hg, if_pos (by rw [length_cs]; omega), List.drop_zero, List.take_of_length_le (by rw [length_cs]; omega)]⟩
  simp (decide := true) only [WP_skip, WP_ops, WP_seq, WP_block, WP_exit, WP_ret, WP_cond, CdC_true, CdC_false, seqQ_normal, seqQ_exit, seqQ_ret, seqQ_pan, blkQ_normal, blkQ_exit, blkQ_ret, blkQ_pan, bodyQ_ret, bodyQ_normal, bodyQ_pan, bodyK_some, WP_aops, WPa_nil, WPa_wr, WrA_new, CallA_new, WPa_rd, WPa_call, WPa_callv, WPa_gd, RdA_some, CallA_ret, WPs_nil, WPs_rd, WPs_wr, WPs_call, WPs_callv, WPs_gd, RdK_some, WrK_some, CallK_ret, CallV_func, GdS_tt, GdS_tf, GdS_ft, GdS_ff, GdA_tt, GdA_tf, GdA_ft, GdA_ff, evR, lenV_slc, lenV_tail, lenV_str, iaV_slc, evX, AO.ev, Fr.put_some, Fr.put_none, Fr.at_set, Fr.at_ofArgs, List.getD_cons_zero, List.getD_cons_succ, List.getD_nil, binV, intOp, strOp, AV.cells, AHeap.cell_new, AHeap.range_new, AHeap.cell_old, AHeap.range_old, AHeap.get_new, AHeap.get_old, AHeap.put_new, AHeap.lt_new, AHeap.lt_alloc, AHeap.wf_alloc, AHeap.base_new, AHeap.base_alloc, evRVs, evRV, tup, List.map_cons, List.map_nil, List.cons_append, List.nil_append, List.append_nil, List.getElem?_cons_zero, List.getElem?_cons_succ, Nat.zero_add, Option.map_some, Option.map_none, if_true, if_false, ↓reduceIte, Bool.false_eq_true, eq_self, Bool.not_false, Bool.not_true, decide_true, decide_false, hb]
  refine f43 rfl hF pr (fun f hf Q' hQ' => hcall f hf H (.refl b H) Q' hQ') ?_
  cases hix : l.findIdx? pr with
  | none =>
    have hi : idx pr l = -1 := by simp [idx, hix]
    have hfl : (l.filter fun f => !pr f) = l := by
      rw [List.findIdx?_eq_none_iff] at hix
      rw [List.filter_eq_self]; intro f hf; simp [hix f hf]
    have h' := h H _ (.refl b H) hg (length_cs l)
    rw [hfl] at h'
    simp (decide := true) only [WP_skip, WP_ops, WP_seq, WP_block, WP_exit, WP_ret, WP_cond, CdC_true, CdC_false, seqQ_normal, seqQ_exit, seqQ_ret, seqQ_pan, blkQ_normal, blkQ_exit, blkQ_ret, blkQ_pan, bodyQ_ret, bodyQ_normal, bodyQ_pan, bodyK_some, WP_aops, WPa_nil, WPa_wr, WrA_new, CallA_new, WPa_rd, WPa_call, WPa_callv, WPa_gd, RdA_some, CallA_ret, WPs_nil, WPs_rd, WPs_wr, WPs_call, WPs_callv, WPs_gd, RdK_some, WrK_some, CallK_ret, CallV_func, GdS_tt, GdS_tf, GdS_ft, GdS_ff, GdA_tt, GdA_tf, GdA_ft, GdA_ff, evR, lenV_slc, lenV_tail, lenV_str, iaV_slc, evX, AO.ev, Fr.put_some, Fr.put_none, Fr.at_set, Fr.at_ofArgs, List.getD_cons_zero, List.getD_cons_succ, List.getD_nil, binV, intOp, strOp, AV.cells, AHeap.cell_new, AHeap.range_new, AHeap.cell_old, AHeap.range_old, AHeap.get_new, AHeap.get_old, AHeap.put_new, AHeap.lt_new, AHeap.lt_alloc, AHeap.wf_alloc, AHeap.base_new, AHeap.base_alloc, evRVs, evRV, tup, List.map_cons, List.map_nil, List.cons_append, List.nil_append, List.append_nil, List.getElem?_cons_zero, List.getElem?_cons_succ, Nat.zero_add, Option.map_some, Option.map_none, if_true, if_false, ↓reduceIte, Bool.false_eq_true, eq_self, Bool.not_false, Bool.not_true, decide_true, decide_false, hb, hi, beq_self_eq_true]
    exact .this (h' (by rw [List.take_of_length_le (by rw [length_cs]; omega)]))
  | some i0 =>
    obtain ⟨hi0, hp0, hbefore⟩ := List.findIdx?_eq_some_iff_getElem.1 hix
    have hi : idx pr l = (i0 : Int) := by simp [idx, hix]
    have hm1 : ((i0 : Int) == -1) = false := beq_false_of_ne (by omega)
    have hfirst : (l.take (i0 + 1)).filter (fun f => !pr f) = l.take i0 := by
      rw [List.take_add_one, List.getElem?_eq_getElem hi0, List.filter_append]
      have h1 : (l.take i0).filter (fun f => !pr f) = l.take i0 := by
        rw [List.filter_eq_self]; intro f hf
        obtain ⟨j, hj, rfl⟩ := List.getElem_of_mem hf
        rw [List.length_take] at hj
        have := hbefore j (by omega)
        simpa using this
      rw [h1]; simp [hp0]
    simp (decide := true) only [WP_skip, WP_ops, WP_seq, WP_block, WP_exit, WP_ret, WP_cond, CdC_true, CdC_false, seqQ_normal, seqQ_exit, seqQ_ret, seqQ_pan, blkQ_normal, blkQ_exit, blkQ_ret, blkQ_pan, bodyQ_ret, bodyQ_normal, bodyQ_pan, bodyK_some, WP_aops, WPa_nil, WPa_wr, WrA_new, CallA_new, WPa_rd, WPa_call, WPa_callv, WPa_gd, RdA_some, CallA_ret, WPs_nil, WPs_rd, WPs_wr, WPs_call, WPs_callv, WPs_gd, RdK_some, WrK_some, CallK_ret, CallV_func, GdS_tt, GdS_tf, GdS_ft, GdS_ff, GdA_tt, GdA_tf, GdA_ft, GdA_ff, evR, lenV_slc, lenV_tail, lenV_str, iaV_slc, evX, AO.ev, Fr.put_some, Fr.put_none, Fr.at_set, Fr.at_ofArgs, List.getD_cons_zero, List.getD_cons_succ, List.getD_nil, binV, intOp, strOp, AV.cells, AHeap.cell_new, AHeap.range_new, AHeap.cell_old, AHeap.range_old, AHeap.get_new, AHeap.get_old, AHeap.put_new, AHeap.lt_new, AHeap.lt_alloc, AHeap.wf_alloc, AHeap.base_new, AHeap.base_alloc, evRVs, evRV, tup, List.map_cons, List.map_nil, List.cons_append, List.nil_append, List.append_nil, List.getElem?_cons_zero, List.getElem?_cons_succ, Nat.zero_add, Option.map_some, Option.map_none, if_true, if_false, ↓reduceIte, Bool.false_eq_true, eq_self, Bool.not_false, Bool.not_true, decide_true, decide_false, hb, hi, hm1, wrapN i0 (by omega)]
    refine WP_loop (fun t' H' => ∃ (i j : Nat) (L : List Fo), LeX b H H' ∧ H'.get b = some (.cells (L.flatMap Fo.cs) (some 4)) ∧ L.length = l.length ∧ i < j ∧ j ≤ l.length ∧ i = ((l.take j).filter fun f => !pr f).length ∧ L.take i = (l.take j).filter (fun f => !pr f) ∧ L.drop j = l.drop j ∧
      Fr.at t' 0 = .slice (some (b, 0)) l.length (.inr 0) ∧ Fr.at t' 1 = .func (.func g) first cap ∧ Fr.at t' 5 = .int .i64 i ∧ Fr.at t' 6 = .int .i64 j) (fun t' _ => ((l.length : Int) - numOf (Fr.at t' 6)).toNat) ?_ ?_
    · refine ⟨i0, i0 + 1, l, .refl b H, hg, rfl, by omega, by omega, by rw [hfirst, List.length_take]; omega, hfirst.symm, rfl, ?_⟩
      simp (decide := true) only [WP_skip, WP_ops, WP_seq, WP_block, WP_exit, WP_ret, WP_cond, CdC_true, CdC_false, seqQ_normal, seqQ_exit, seqQ_ret, seqQ_pan, blkQ_normal, blkQ_exit, blkQ_ret, blkQ_pan, bodyQ_ret, bodyQ_normal, bodyQ_pan, bodyK_some, WP_aops, WPa_nil, WPa_wr, WrA_new, CallA_new, WPa_rd, WPa_call, WPa_callv, WPa_gd, RdA_some, CallA_ret, WPs_nil, WPs_rd, WPs_wr, WPs_call, WPs_callv, WPs_gd, RdK_some, WrK_some, CallK_ret, CallV_func, GdS_tt, GdS_tf, GdS_ft, GdS_ff, GdA_tt, GdA_tf, GdA_ft, GdA_ff, evR, lenV_slc, lenV_tail, lenV_str, iaV_slc, evX, AO.ev, Fr.put_some, Fr.put_none, Fr.at_set, Fr.at_ofArgs, List.getD_cons_zero, List.getD_cons_succ, List.getD_nil, binV, intOp, strOp, AV.cells, AHeap.cell_new, AHeap.range_new, AHeap.cell_old, AHeap.range_old, AHeap.get_new, AHeap.get_old, AHeap.put_new, AHeap.lt_new, AHeap.lt_alloc, AHeap.wf_alloc, AHeap.base_new, AHeap.base_alloc, evRVs, evRV, tup, List.map_cons, List.map_nil, List.cons_append, List.nil_append, List.append_nil, List.getElem?_cons_zero, List.getElem?_cons_succ, Nat.zero_add, Option.map_some, Option.map_none, if_true, if_false, ↓reduceIte, Bool.false_eq_true, eq_self, Bool.not_false, Bool.not_true, decide_true, decide_false, hb, and_self]
    · rintro t' H' ⟨i, j, L, hX, hg', hL, hij, hj, hil, htake, hdrop, g0, g1, g5, g6⟩
      have hb' := hX.wf hb
      have hbn : b < H'.next := Nat.lt_of_lt_of_le hlt hX.next
      have hbb' : H'.base ≤ b := by rw [hX.base]; exact hbb
      have hLl : (L.flatMap Fo.cs).length = l.length * 4 := by rw [length_cs, hL]
      by_cases hjl : j < l.length
      · have hI : (j : Int) < (l.length : Int) := by omega
        have hj0 : 0 ≤ (j : Int) := by omega
        have hFL : FS H' (b, 0) L := ⟨hbn, by omega, by rw [AHeap.range_of hg', if_pos (by rw [length_cs]; omega), List.drop_zero, List.take_of_length_le (by rw [length_cs]; omega)]⟩
        have hLj : L[j]'(by omega) = l[j] := by
          have h1 : (L.drop j)[0]? = (l.drop j)[0]? := by rw [hdrop]
          rw [List.getElem?_drop, List.getElem?_drop] at h1
          simpa [show j < L.length by omega, hjl] using h1
        have hel := hFL.elem (i := j) (by omega)
        rw [hLj] at hel
        simp only [Nat.zero_add] at hel
        have hX2 : LeX b H (H'.alloc (.cells l[j].cs none)) := hX.alloc hb
        have hb2 := AHeap.wf_alloc hb' (b := .cells l[j].cs none)
        have htk : (l.take (j + 1)).filter (fun f => !pr f) = (l.take j).filter (fun f => !pr f) ++ if pr l[j] = true then [] else [l[j]] := by
          rw [List.take_add_one, List.getElem?_eq_getElem hjl, List.filter_append]
          congr 1
          simp only [Option.toList_some, List.filter_cons, List.filter_nil]
          cases pr l[j] <;> rfl
        have hdr : ∀ L' : List Fo, L'.drop j = l.drop j → L'.drop (j + 1) = l.drop (j + 1) := fun L' hd => by
          rw [← List.drop_drop, ← List.drop_drop, hd]
        simp (decide := true) only [WP_skip, WP_ops, WP_seq, WP_block, WP_exit, WP_ret, WP_cond, CdC_true, CdC_false, seqQ_normal, seqQ_exit, seqQ_ret, seqQ_pan, blkQ_normal, blkQ_exit, blkQ_ret, blkQ_pan, bodyQ_ret, bodyQ_normal, bodyQ_pan, bodyK_some, WP_aops, WPa_nil, WPa_wr, WrA_new, CallA_new, WPa_rd, WPa_call, WPa_callv, WPa_gd, RdA_some, CallA_ret, WPs_nil, WPs_rd, WPs_wr, WPs_call, WPs_callv, WPs_gd, RdK_some, WrK_some, CallK_ret, CallV_func, GdS_tt, GdS_tf, GdS_ft, GdS_ff, GdA_tt, GdA_tf, GdA_ft, GdA_ff, evR, lenV_slc, lenV_tail, lenV_str, iaV_slc, evX, AO.ev, Fr.put_some, Fr.put_none, Fr.at_set, Fr.at_ofArgs, List.getD_cons_zero, List.getD_cons_succ, List.getD_nil, binV, intOp, strOp, AV.cells, AHeap.cell_new, AHeap.range_new, AHeap.cell_old, AHeap.range_old, AHeap.get_new, AHeap.get_old, AHeap.put_new, AHeap.lt_new, AHeap.lt_alloc, AHeap.wf_alloc, AHeap.base_new, AHeap.base_alloc, evRVs, evRV, tup, List.map_cons, List.map_nil, List.cons_append, List.nil_append, List.append_nil, List.getElem?_cons_zero, List.getElem?_cons_succ, Nat.zero_add, Option.map_some, Option.map_none, if_true, if_false, ↓reduceIte, Bool.false_eq_true, eq_self, Bool.not_false, Bool.not_true, decide_true, decide_false, hb, Fo.av, cs0, cs1, cs2, cs3, cs_len, cs_take, List.drop_zero, one_f, splice_f, fillA_f, Nat.le_refl, and_self, Nat.add_zero, hb', List.length_cons, List.length_nil, g0, g1, g5, g6, hI, hj0, hel, Int.toNat_natCast]
        refine hcall _ (List.getElem_mem hjl) _ hX2 _ ?_
        cases hp : pr l[j] with
        | true =>
          rw [hp, if_pos rfl, List.append_nil] at htk
          simp (decide := true) only [WP_skip, WP_ops, WP_seq, WP_block, WP_exit, WP_ret, WP_cond, CdC_true, CdC_false, seqQ_normal, seqQ_exit, seqQ_ret, seqQ_pan, blkQ_normal, blkQ_exit, blkQ_ret, blkQ_pan, bodyQ_ret, bodyQ_normal, bodyQ_pan, bodyK_some, WP_aops, WPa_nil, WPa_wr, WrA_new, CallA_new, WPa_rd, WPa_call, WPa_callv, WPa_gd, RdA_some, CallA_ret, WPs_nil, WPs_rd, WPs_wr, WPs_call, WPs_callv, WPs_gd, RdK_some, WrK_some, CallK_ret, CallV_func, GdS_tt, GdS_tf, GdS_ft, GdS_ff, GdA_tt, GdA_tf, GdA_ft, GdA_ff, evR, lenV_slc, lenV_tail, lenV_str, iaV_slc, evX, AO.ev, Fr.put_some, Fr.put_none, Fr.at_set, Fr.at_ofArgs, List.getD_cons_zero, List.getD_cons_succ, List.getD_nil, binV, intOp, strOp, AV.cells, AHeap.cell_new, AHeap.range_new, AHeap.cell_old, AHeap.range_old, AHeap.get_new, AHeap.get_old, AHeap.put_new, AHeap.lt_new, AHeap.lt_alloc, AHeap.wf_alloc, AHeap.base_new, AHeap.base_alloc, evRVs, evRV, tup, List.map_cons, List.map_nil, List.cons_append, List.nil_append, List.append_nil, List.getElem?_cons_zero, List.getElem?_cons_succ, Nat.zero_add, Option.map_some, Option.map_none, if_true, if_false, ↓reduceIte, Bool.false_eq_true, eq_self, Bool.not_false, Bool.not_true, decide_true, decide_false, hb, Fo.av, cs0, cs1, cs2, cs3, cs_len, cs_take, List.drop_zero, one_f, splice_f, fillA_f, Nat.le_refl, and_self, Nat.add_zero, hb', g0, g1, g5, g6, wrapN j (by omega)]
          refine ⟨⟨i, j + 1, L, hX2, by rw [AHeap.get_old hb' hbn]; exact hg', hL, by omega, hjl, by rw [htk]; exact hil, by rw [htk]; exact htake, hdr L hdrop, trivial, trivial, rfl, rfl⟩, by simp only [numOf]; omega⟩
        | false =>
          rw [hp, if_neg (by decide)] at htk
          have hi0' : 0 ≤ (i : Int) := by omega
          have hi1' : (i : Int) < (l.length : Int) := by omega
          have hfit : i * 4 + 4 ≤ (L.flatMap Fo.cs).length := by omega
          have hsp := splice_set L i l[j] (by omega)
          simp (decide := true) only [WP_skip, WP_ops, WP_seq, WP_block, WP_exit, WP_ret, WP_cond, CdC_true, CdC_false, seqQ_normal, seqQ_exit, seqQ_ret, seqQ_pan, blkQ_normal, blkQ_exit, blkQ_ret, blkQ_pan, bodyQ_ret, bodyQ_normal, bodyQ_pan, bodyK_some, WP_aops, WPa_nil, WPa_wr, WrA_new, CallA_new, WPa_rd, WPa_call, WPa_callv, WPa_gd, RdA_some, CallA_ret, WPs_nil, WPs_rd, WPs_wr, WPs_call, WPs_callv, WPs_gd, RdK_some, WrK_some, CallK_ret, CallV_func, GdS_tt, GdS_tf, GdS_ft, GdS_ff, GdA_tt, GdA_tf, GdA_ft, GdA_ff, evR, lenV_slc, lenV_tail, lenV_str, iaV_slc, evX, AO.ev, Fr.put_some, Fr.put_none, Fr.at_set, Fr.at_ofArgs, List.getD_cons_zero, List.getD_cons_succ, List.getD_nil, binV, intOp, strOp, AV.cells, AHeap.cell_new, AHeap.range_new, AHeap.cell_old, AHeap.range_old, AHeap.get_new, AHeap.get_old, AHeap.put_new, AHeap.lt_new, AHeap.lt_alloc, AHeap.wf_alloc, AHeap.base_new, AHeap.base_alloc, evRVs, evRV, tup, List.map_cons, List.map_nil, List.cons_append, List.nil_append, List.append_nil, List.getElem?_cons_zero, List.getElem?_cons_succ, Nat.zero_add, Option.map_some, Option.map_none, if_true, if_false, ↓reduceIte, Bool.false_eq_true, eq_self, Bool.not_false, Bool.not_true, decide_true, decide_false, hb, Fo.av, cs0, cs1, cs2, cs3, cs_len, cs_take, List.drop_zero, one_f, splice_f, fillA_f, Nat.le_refl, and_self, Nat.add_zero, hb', hb2, g0, g1, g5, g6, wrapN j (by omega), wrapN i (by omega), hi0', hi1', Int.toNat_natCast, hbn, hg', hbb', hfit, hsp]
          have hput : ((H'.alloc (.cells l[j].cs none)).put b (.cells ((L.set i l[j]).flatMap Fo.cs) (some 4))).get b = some (.cells ((L.set i l[j]).flatMap Fo.cs) (some 4)) := by
            rw [AHeap.get_put _ _ _ _ (by simpa using hbb') (by simp; omega), if_pos rfl]
          refine ⟨⟨i + 1, j + 1, L.set i l[j], hX2.put hbb (by simp; omega), hput, by simpa using hL, by omega, hjl, by rw [htk, List.length_append, ← hil]; rfl, ?_, ?_, trivial, trivial, rfl, rfl⟩, by simp only [numOf]; omega⟩
          · rw [htk, ← htake, List.take_add_one, List.take_set_of_le (by omega)]
            simp [show i < L.length by omega]
          · have : (L.set i l[j]).drop (j + 1) = L.drop (j + 1) := by rw [List.drop_set_of_lt (by omega)]
            rw [this]; exact hdr L hdrop
      · have hjn : j = l.length := by omega
        subst hjn
        have hI : ¬ (l.length : Int) < (l.length : Int) := by omega
        have hin : i < l.length := hij
        rw [List.take_length] at hil htake
        have hlo := fun k1 => sl_lo (k1 := k1) hg' (by omega) (by omega) hin
        obtain ⟨Z, hZ⟩ : ∃ Z, Z = (List.replicate (l.length - i) [AV.int .u32 0, AV.int .u32 0, AV.str ⟨⟨[]⟩⟩, AV.int .u64 0]).flatten := ⟨_, rfl⟩
        have hZl : Z.length = (l.length - i) * 4 := by rw [hZ]; simp [List.length_flatten]
        have hZ1 : Z.all (·.one) = true := by
          rw [hZ, List.all_eq_true]; intro v hv
          obtain ⟨r, hr, hv⟩ := List.mem_flatten.1 hv
          rw [(List.mem_replicate.1 hr).2] at hv
          simp only [List.mem_cons, List.not_mem_nil, or_false] at hv
          rcases hv with rfl | rfl | rfl | rfl <;> rfl
        have hne : ¬ l.length - i = 0 := by omega
        have hfit : i * 4 + Z.length ≤ (L.flatMap Fo.cs).length := by omega
        have hput : (H'.put b (.cells (splice (L.flatMap Fo.cs) (i * 4) Z) (some 4))).get b = some (.cells (splice (L.flatMap Fo.cs) (i * 4) Z) (some 4)) := by
          rw [AHeap.get_put _ _ _ _ hbb' hbn, if_pos rfl]
        have hspl : (splice (L.flatMap Fo.cs) (i * 4) Z).length = l.length * 4 := by rw [splice_length hfit, hLl]
        have hhi := fun k1 => sl_hi (k1 := k1) (a := i) (n := l.length) hput (by omega) (by omega) (by omega) (by omega)
        simp (decide := true) only [WP_skip, WP_ops, WP_seq, WP_block, WP_exit, WP_ret, WP_cond, CdC_true, CdC_false, seqQ_normal, seqQ_exit, seqQ_ret, seqQ_pan, blkQ_normal, blkQ_exit, blkQ_ret, blkQ_pan, bodyQ_ret, bodyQ_normal, bodyQ_pan, bodyK_some, WP_aops, WPa_nil, WPa_wr, WrA_new, CallA_new, WPa_rd, WPa_call, WPa_callv, WPa_gd, RdA_some, CallA_ret, WPs_nil, WPs_rd, WPs_wr, WPs_call, WPs_callv, WPs_gd, RdK_some, WrK_some, CallK_ret, CallV_func, GdS_tt, GdS_tf, GdS_ft, GdS_ff, GdA_tt, GdA_tf, GdA_ft, GdA_ff, evR, lenV_slc, lenV_tail, lenV_str, iaV_slc, evX, AO.ev, Fr.put_some, Fr.put_none, Fr.at_set, Fr.at_ofArgs, List.getD_cons_zero, List.getD_cons_succ, List.getD_nil, binV, intOp, strOp, AV.cells, AHeap.cell_new, AHeap.range_new, AHeap.cell_old, AHeap.range_old, AHeap.get_new, AHeap.get_old, AHeap.put_new, AHeap.lt_new, AHeap.lt_alloc, AHeap.wf_alloc, AHeap.base_new, AHeap.base_alloc, evRVs, evRV, tup, List.map_cons, List.map_nil, List.cons_append, List.nil_append, List.append_nil, List.getElem?_cons_zero, List.getElem?_cons_succ, Nat.zero_add, Option.map_some, Option.map_none, if_true, if_false, ↓reduceIte, Bool.false_eq_true, eq_self, Bool.not_false, Bool.not_true, decide_true, decide_false, hb, g0, g1, g5, g6, hI, hlo, ← hZ, hne, hg', hbb', hfit, hZ1, hhi]
        refine .this ?_
        simp only [← hil] at h
        refine h _ _ (hX.put hbb hbn) hput hspl ?_
        rw [splice, List.append_assoc, List.take_append_of_le_length (by rw [List.length_take, hLl]; omega), List.take_take, Nat.min_self, take_cs, htake]
end Go.AM
