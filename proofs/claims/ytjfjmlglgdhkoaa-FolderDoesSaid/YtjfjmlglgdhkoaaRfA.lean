/- The document's folders: find, twice, up, under. -/
import Derived.Test.YtjfjmlglgdhkoaaFdPs
namespace Go.AM
open Go Go.Proofs
set_option linter.unusedSimpArgs false
set_option linter.unusedVariables false
set_option maxRecDepth 100000
set_option maxHeartbeats 8000000

theorem AHeap.lt_of_range {H : AHeap} (hb : H.WF) {a : Nat × Nat} {n : Nat} {cs : List AV} (h : H.range a n = some cs) : a.1 < H.next := by
  unfold AHeap.range at h
  split at h
  · rename_i c r hg
    unfold AHeap.get at hg
    split at hg
    · rename_i h1; unfold AHeap.WF at hb; omega
    · split at hg
      · assumption
      · cases hg
  · cases h
theorem lenV_any {H H' : AHeap} {v w : AV} (h : lenV H .slc v = some w) : lenV H' .slc v = some w := by
  cases v <;> first | exact h | (simp only [lenV] at h; cases h)
theorem FV.trans {H H' : AHeap} {v : AV} {l : List Fo} (h : FV H v l) (hb : H.WF) (hle : H.Le H') : FV H' v l :=
  ⟨h.le, lenV_any h.len, fun i hi => by
    obtain ⟨a, h1, h2⟩ := h.elem i hi
    exact ⟨a, h1, by rw [hle.range (AHeap.lt_of_range hb h2)]; exact h2⟩⟩
/-- An element's fields. -/
theorem FV.flds {H : AHeap} {v : AV} {l : List Fo} (h : FV H v l) {i : Nat} (hi : i < l.length) : ∃ a : Nat × Nat, (∀ kk : IntKind, iaV 4 v (.int kk (i : Nat)) = some (.ptr (some a))) ∧ H.range a 4 = some l[i].cs ∧
    H.cell (a.1, a.2) = some (.int .u32 l[i].id) ∧ H.cell (a.1, a.2 + 1) = some (.int .u32 l[i].par) ∧ H.cell (a.1, a.2 + 2) = some (.str l[i].name) := by
  obtain ⟨a, h1, h2⟩ := h.elem i hi
  exact ⟨a, h1, h2, AHeap.cell_part (off := 0) h2 (by omega), AHeap.cell_part (off := 1) h2 (by omega), AHeap.cell_part (off := 2) h2 (by omega)⟩

theorem look_at {l : List Fo} {id : Int} {i : Nat} (hi : i < l.length) (h : ∀ j (hj : j < l.length), j < i → (l[j].id == id) = false) (he : (l[i].id == id) = true) : look l id = some l[i] := by
  unfold look
  exact List.find?_eq_some_iff_getElem.2 ⟨he, i, hi, rfl, fun j hj => by simp [h j (by omega) hj]⟩
theorem look_no {l : List Fo} {id : Int} (h : ∀ j (hj : j < l.length), (l[j].id == id) = false) : look l id = none := by
  unfold look
  rw [List.find?_eq_none]
  intro x hx
  obtain ⟨j, hj, rfl⟩ := List.getElem_of_mem hx
  simp [h j hj]
theorem zcs : [AV.int .u32 0, .int .u32 0, .str ⟨⟨[]⟩⟩, .int .u64 0] = zeroFo.cs := rfl
theorem zsp (f : Fo) : splice zeroFo.cs 0 f.cs = f.cs := rfl

theorem f30 {H : AHeap} {Q : AE → AHeap → Prop} {v : AV} {l : List Fo} (hV : FV H v l) {id : Int} (h : Q (.ret (.tuple [((look l id).getD zeroFo).av, .bool (look l id).isSome])) H) : ACall Try.prog 30 [v, .int .u32 id] H Q := by
  refine ACall.comp [] mixed (by decide +kernel) fun F hF' => ?_
  cbv at hF'
  cases hF'
  refine ⟨by simp, fun hb ha => ?_⟩
  have hle := hV.le
  have hb1 := AHeap.wf_alloc hb (b := .cells zeroFo.cs none)
  have hle1 := AHeap.Le.new hb (b := .cells zeroFo.cs none)
  have hV1 := hV.trans hb hle1
  have hbn : H.base ≤ H.next := hb
  have hokr : ∀ (f : Fo) (b : Bool), AV.ok H.next (.tuple [f.av, .bool b]) := fun f b => by simp [AV.ok, AV.okL, Fo.av, Fo.cs]
  simp (decide := true) only [WP_skip, WP_ops, WP_seq, WP_block, WP_exit, WP_ret, WP_cond, CdC_true, CdC_false, seqQ_normal, seqQ_exit, seqQ_ret, seqQ_pan, blkQ_normal, blkQ_exit, blkQ_ret, blkQ_pan, bodyQ_ret, bodyQ_normal, bodyQ_pan, bodyK_some, WP_aops, WPa_nil, WPa_wr, WrA_new, CallA_new, WPa_rd, WPa_call, WPa_callv, WPa_gd, RdA_some, CallA_ret, WPs_nil, WPs_rd, WPs_wr, WPs_call, WPs_callv, WPs_gd, RdK_some, WrK_some, CallK_ret, CallV_func, GdS_tt, GdS_tf, GdS_ft, GdS_ff, GdA_tt, GdA_tf, GdA_ft, GdA_ff, evR, lenV_slc, lenV_tail, lenV_str, iaV_slc, evX, AO.ev, Fr.put_some, Fr.put_none, Fr.at_set, Fr.at_ofArgs, List.getD_cons_zero, List.getD_cons_succ, List.getD_nil, binV, intOp, strOp, AV.cells, AHeap.cell_new, AHeap.range_new, AHeap.cell_old, AHeap.range_old, AHeap.get_new, AHeap.get_old, AHeap.put_new, AHeap.lt_new, AHeap.lt_alloc, AHeap.wf_alloc, AHeap.base_new, AHeap.base_alloc, evRVs, evRV, tup, List.map_cons, List.map_nil, List.cons_append, List.nil_append, List.append_nil, List.getElem?_cons_zero, List.getElem?_cons_succ, Nat.zero_add, Option.map_some, Option.map_none, if_true, if_false, ↓reduceIte, Bool.false_eq_true, eq_self, Bool.not_false, Bool.not_true, decide_true, decide_false, hb, Fo.av, cs0, cs1, cs2, cs3, cs_len, cs_take, List.drop_zero, one_f, splice_f, fillA_f, Nat.le_refl, and_self, Nat.add_zero, zcs]
  refine WP_loop (fun t' H' => ∃ i : Nat, H' = H.alloc (.cells zeroFo.cs none) ∧ i ≤ l.length ∧ (∀ j (hj : j < l.length), j < i → (l[j].id == id) = false) ∧ Fr.at t' 0 = v ∧ Fr.at t' 1 = .int .u32 id ∧ Fr.at t' 4 = .ptr (some (H.next, 0)) ∧ Fr.at t' 5 = .bool false ∧ Fr.at t' 6 = .int .i64 i)
    (fun t' _ => ((l.length : Int) - numOf (Fr.at t' 6)).toNat) ?_ ?_
  · refine ⟨0, rfl, by omega, fun j _ hj => absurd hj (by omega), ?_⟩
    simp (decide := true) only [WP_skip, WP_ops, WP_seq, WP_block, WP_exit, WP_ret, WP_cond, CdC_true, CdC_false, seqQ_normal, seqQ_exit, seqQ_ret, seqQ_pan, blkQ_normal, blkQ_exit, blkQ_ret, blkQ_pan, bodyQ_ret, bodyQ_normal, bodyQ_pan, bodyK_some, WP_aops, WPa_nil, WPa_wr, WrA_new, CallA_new, WPa_rd, WPa_call, WPa_callv, WPa_gd, RdA_some, CallA_ret, WPs_nil, WPs_rd, WPs_wr, WPs_call, WPs_callv, WPs_gd, RdK_some, WrK_some, CallK_ret, CallV_func, GdS_tt, GdS_tf, GdS_ft, GdS_ff, GdA_tt, GdA_tf, GdA_ft, GdA_ff, evR, lenV_slc, lenV_tail, lenV_str, iaV_slc, evX, AO.ev, Fr.put_some, Fr.put_none, Fr.at_set, Fr.at_ofArgs, List.getD_cons_zero, List.getD_cons_succ, List.getD_nil, binV, intOp, strOp, AV.cells, AHeap.cell_new, AHeap.range_new, AHeap.cell_old, AHeap.range_old, AHeap.get_new, AHeap.get_old, AHeap.put_new, AHeap.lt_new, AHeap.lt_alloc, AHeap.wf_alloc, AHeap.base_new, AHeap.base_alloc, evRVs, evRV, tup, List.map_cons, List.map_nil, List.cons_append, List.nil_append, List.append_nil, List.getElem?_cons_zero, List.getElem?_cons_succ, Nat.zero_add, Option.map_some, Option.map_none, if_true, if_false, ↓reduceIte, Bool.false_eq_true, eq_self, Bool.not_false, Bool.not_true, decide_true, decide_false, hb, Int.natCast_zero, and_self]
  · rintro t' _ ⟨i, rfl, hi, hno, g0, g1, g4, g5, g6⟩
    have hlen := hV1.len
    by_cases hlt : i < l.length
    · have hI : (i : Int) < (l.length : Int) := by omega
      obtain ⟨a, a1, a2, a3, a4, a5⟩ := hV1.flds hlt
      cases hc : (l[i].id == id) with
      | true =>
        have hlk := look_at hlt hno hc
        rw [hlk] at h
        simp (decide := true) only [WP_skip, WP_ops, WP_seq, WP_block, WP_exit, WP_ret, WP_cond, CdC_true, CdC_false, seqQ_normal, seqQ_exit, seqQ_ret, seqQ_pan, blkQ_normal, blkQ_exit, blkQ_ret, blkQ_pan, bodyQ_ret, bodyQ_normal, bodyQ_pan, bodyK_some, WP_aops, WPa_nil, WPa_wr, WrA_new, CallA_new, WPa_rd, WPa_call, WPa_callv, WPa_gd, RdA_some, CallA_ret, WPs_nil, WPs_rd, WPs_wr, WPs_call, WPs_callv, WPs_gd, RdK_some, WrK_some, CallK_ret, CallV_func, GdS_tt, GdS_tf, GdS_ft, GdS_ff, GdA_tt, GdA_tf, GdA_ft, GdA_ff, evR, lenV_slc, lenV_tail, lenV_str, iaV_slc, evX, AO.ev, Fr.put_some, Fr.put_none, Fr.at_set, Fr.at_ofArgs, List.getD_cons_zero, List.getD_cons_succ, List.getD_nil, binV, intOp, strOp, AV.cells, AHeap.cell_new, AHeap.range_new, AHeap.cell_old, AHeap.range_old, AHeap.get_new, AHeap.get_old, AHeap.put_new, AHeap.lt_new, AHeap.lt_alloc, AHeap.wf_alloc, AHeap.base_new, AHeap.base_alloc, evRVs, evRV, tup, List.map_cons, List.map_nil, List.cons_append, List.nil_append, List.append_nil, List.getElem?_cons_zero, List.getElem?_cons_succ, Nat.zero_add, Option.map_some, Option.map_none, if_true, if_false, ↓reduceIte, Bool.false_eq_true, eq_self, Bool.not_false, Bool.not_true, decide_true, decide_false, hb, Fo.av, cs0, cs1, cs2, cs3, cs_len, cs_take, List.drop_zero, one_f, splice_f, fillA_f, Nat.le_refl, and_self, Nat.add_zero, hb1, g0, g1, g4, g5, g6, hlen, hI, a1, a2, a3, hc, zsp]
        exact .same (.new hb) (hokr _ _) h
      | false =>
        simp (decide := true) only [WP_skip, WP_ops, WP_seq, WP_block, WP_exit, WP_ret, WP_cond, CdC_true, CdC_false, seqQ_normal, seqQ_exit, seqQ_ret, seqQ_pan, blkQ_normal, blkQ_exit, blkQ_ret, blkQ_pan, bodyQ_ret, bodyQ_normal, bodyQ_pan, bodyK_some, WP_aops, WPa_nil, WPa_wr, WrA_new, CallA_new, WPa_rd, WPa_call, WPa_callv, WPa_gd, RdA_some, CallA_ret, WPs_nil, WPs_rd, WPs_wr, WPs_call, WPs_callv, WPs_gd, RdK_some, WrK_some, CallK_ret, CallV_func, GdS_tt, GdS_tf, GdS_ft, GdS_ff, GdA_tt, GdA_tf, GdA_ft, GdA_ff, evR, lenV_slc, lenV_tail, lenV_str, iaV_slc, evX, AO.ev, Fr.put_some, Fr.put_none, Fr.at_set, Fr.at_ofArgs, List.getD_cons_zero, List.getD_cons_succ, List.getD_nil, binV, intOp, strOp, AV.cells, AHeap.cell_new, AHeap.range_new, AHeap.cell_old, AHeap.range_old, AHeap.get_new, AHeap.get_old, AHeap.put_new, AHeap.lt_new, AHeap.lt_alloc, AHeap.wf_alloc, AHeap.base_new, AHeap.base_alloc, evRVs, evRV, tup, List.map_cons, List.map_nil, List.cons_append, List.nil_append, List.append_nil, List.getElem?_cons_zero, List.getElem?_cons_succ, Nat.zero_add, Option.map_some, Option.map_none, if_true, if_false, ↓reduceIte, Bool.false_eq_true, eq_self, Bool.not_false, Bool.not_true, decide_true, decide_false, hb, Fo.av, cs0, cs1, cs2, cs3, cs_len, cs_take, List.drop_zero, one_f, splice_f, fillA_f, Nat.le_refl, and_self, Nat.add_zero, hb1, g0, g1, g4, g5, g6, hlen, hI, a1, a2, a3, hc, wrapN i (by omega)]
        refine ⟨⟨i + 1, trivial, hlt, fun j hj hji => ?_, trivial, trivial, trivial, trivial, rfl⟩, by simp only [numOf]; omega⟩
        by_cases e : j = i
        · subst e; exact hc
        · exact hno j hj (by omega)
    · have hI : ¬ (i : Int) < (l.length : Int) := by omega
      have hlk := look_no (l := l) (id := id) fun j hj => hno j hj (by omega)
      rw [hlk] at h
      simp (decide := true) only [WP_skip, WP_ops, WP_seq, WP_block, WP_exit, WP_ret, WP_cond, CdC_true, CdC_false, seqQ_normal, seqQ_exit, seqQ_ret, seqQ_pan, blkQ_normal, blkQ_exit, blkQ_ret, blkQ_pan, bodyQ_ret, bodyQ_normal, bodyQ_pan, bodyK_some, WP_aops, WPa_nil, WPa_wr, WrA_new, CallA_new, WPa_rd, WPa_call, WPa_callv, WPa_gd, RdA_some, CallA_ret, WPs_nil, WPs_rd, WPs_wr, WPs_call, WPs_callv, WPs_gd, RdK_some, WrK_some, CallK_ret, CallV_func, GdS_tt, GdS_tf, GdS_ft, GdS_ff, GdA_tt, GdA_tf, GdA_ft, GdA_ff, evR, lenV_slc, lenV_tail, lenV_str, iaV_slc, evX, AO.ev, Fr.put_some, Fr.put_none, Fr.at_set, Fr.at_ofArgs, List.getD_cons_zero, List.getD_cons_succ, List.getD_nil, binV, intOp, strOp, AV.cells, AHeap.cell_new, AHeap.range_new, AHeap.cell_old, AHeap.range_old, AHeap.get_new, AHeap.get_old, AHeap.put_new, AHeap.lt_new, AHeap.lt_alloc, AHeap.wf_alloc, AHeap.base_new, AHeap.base_alloc, evRVs, evRV, tup, List.map_cons, List.map_nil, List.cons_append, List.nil_append, List.append_nil, List.getElem?_cons_zero, List.getElem?_cons_succ, Nat.zero_add, Option.map_some, Option.map_none, if_true, if_false, ↓reduceIte, Bool.false_eq_true, eq_self, Bool.not_false, Bool.not_true, decide_true, decide_false, hb, Fo.av, cs0, cs1, cs2, cs3, cs_len, cs_take, List.drop_zero, one_f, splice_f, fillA_f, Nat.le_refl, and_self, Nat.add_zero, hb1, g0, g1, g4, g5, g6, hlen, hI, fillA, zcs, zsp]
      exact .same hle1 (hokr zeroFo false) h

theorem any_at {l : List Fo} {p : Fo → Bool} {i : Nat} (hi : i < l.length) (h : p l[i] = true) : l.any p = true := List.any_eq_true.2 ⟨_, List.getElem_mem hi, h⟩
theorem any_no {l : List Fo} {p : Fo → Bool} (h : ∀ j (hj : j < l.length), p l[j] = false) : l.any p = false := by
  rw [any_false]
  intro x hx
  obtain ⟨j, hj, rfl⟩ := List.getElem_of_mem hx
  exact h j hj
theorem f31 {H : AHeap} {Q : AE → AHeap → Prop} {v : AV} {l : List Fo} (hV : FV H v l) {f : Fo} (h : Q (.ret (.bool (l.any (same2 f)))) H) : ACall Try.prog 31 [v, f.av] H Q := by
  refine ACall.comp [] mixed (by decide +kernel) fun F hF' => ?_
  cbv at hF'
  cases hF'
  refine ⟨by simp, fun hb ha => ?_⟩
  have hle := hV.le
  have hb1 := AHeap.wf_alloc hb (b := .cells f.cs none)
  have hle1 := AHeap.Le.new hb (b := .cells f.cs none)
  have hV1 := hV.trans hb hle1
  have k0 : (H.alloc (.cells f.cs none)).cell (H.next, 0) = some (.int .u32 f.id) := by rw [AHeap.cell_of (AHeap.get_new hb)]; rfl
  have k1 : (H.alloc (.cells f.cs none)).cell (H.next, 0 + 1) = some (.int .u32 f.par) := by rw [AHeap.cell_of (AHeap.get_new hb)]; rfl
  have k2 : (H.alloc (.cells f.cs none)).cell (H.next, 0 + 2) = some (.str f.name) := by rw [AHeap.cell_of (AHeap.get_new hb)]; rfl
  simp (decide := true) only [WP_skip, WP_ops, WP_seq, WP_block, WP_exit, WP_ret, WP_cond, CdC_true, CdC_false, seqQ_normal, seqQ_exit, seqQ_ret, seqQ_pan, blkQ_normal, blkQ_exit, blkQ_ret, blkQ_pan, bodyQ_ret, bodyQ_normal, bodyQ_pan, bodyK_some, WP_aops, WPa_nil, WPa_wr, WrA_new, CallA_new, WPa_rd, WPa_call, WPa_callv, WPa_gd, RdA_some, CallA_ret, WPs_nil, WPs_rd, WPs_wr, WPs_call, WPs_callv, WPs_gd, RdK_some, WrK_some, CallK_ret, CallV_func, GdS_tt, GdS_tf, GdS_ft, GdS_ff, GdA_tt, GdA_tf, GdA_ft, GdA_ff, evR, lenV_slc, lenV_tail, lenV_str, iaV_slc, evX, AO.ev, Fr.put_some, Fr.put_none, Fr.at_set, Fr.at_ofArgs, List.getD_cons_zero, List.getD_cons_succ, List.getD_nil, binV, intOp, strOp, AV.cells, AHeap.cell_new, AHeap.range_new, AHeap.cell_old, AHeap.range_old, AHeap.get_new, AHeap.get_old, AHeap.put_new, AHeap.lt_new, AHeap.lt_alloc, AHeap.wf_alloc, AHeap.base_new, AHeap.base_alloc, evRVs, evRV, tup, List.map_cons, List.map_nil, List.cons_append, List.nil_append, List.append_nil, List.getElem?_cons_zero, List.getElem?_cons_succ, Nat.zero_add, Option.map_some, Option.map_none, if_true, if_false, ↓reduceIte, Bool.false_eq_true, eq_self, Bool.not_false, Bool.not_true, decide_true, decide_false, hb, Fo.av, cs0, cs1, cs2, cs3, cs_len, cs_take, List.drop_zero, one_f, splice_f, fillA_f, Nat.le_refl, and_self, Nat.add_zero]
  generalize hH1 : H.alloc (.cells f.cs none) = H1 at *
  refine WP_loop (fun t' H' => ∃ i : Nat, H' = H1 ∧ i ≤ l.length ∧ (∀ j (hj : j < l.length), j < i → same2 f l[j] = false) ∧ Fr.at t' 0 = v ∧ Fr.at t' 3 = .ptr (some (H.next, 0)) ∧ Fr.at t' 5 = .int .i64 i)
    (fun t' _ => ((l.length : Int) - numOf (Fr.at t' 5)).toNat) ?_ ?_
  · refine ⟨0, rfl, by omega, fun j _ hj => absurd hj (by omega), ?_⟩
    simp (decide := true) only [WP_skip, WP_ops, WP_seq, WP_block, WP_exit, WP_ret, WP_cond, CdC_true, CdC_false, seqQ_normal, seqQ_exit, seqQ_ret, seqQ_pan, blkQ_normal, blkQ_exit, blkQ_ret, blkQ_pan, bodyQ_ret, bodyQ_normal, bodyQ_pan, bodyK_some, WP_aops, WPa_nil, WPa_wr, WrA_new, CallA_new, WPa_rd, WPa_call, WPa_callv, WPa_gd, RdA_some, CallA_ret, WPs_nil, WPs_rd, WPs_wr, WPs_call, WPs_callv, WPs_gd, RdK_some, WrK_some, CallK_ret, CallV_func, GdS_tt, GdS_tf, GdS_ft, GdS_ff, GdA_tt, GdA_tf, GdA_ft, GdA_ff, evR, lenV_slc, lenV_tail, lenV_str, iaV_slc, evX, AO.ev, Fr.put_some, Fr.put_none, Fr.at_set, Fr.at_ofArgs, List.getD_cons_zero, List.getD_cons_succ, List.getD_nil, binV, intOp, strOp, AV.cells, AHeap.cell_new, AHeap.range_new, AHeap.cell_old, AHeap.range_old, AHeap.get_new, AHeap.get_old, AHeap.put_new, AHeap.lt_new, AHeap.lt_alloc, AHeap.wf_alloc, AHeap.base_new, AHeap.base_alloc, evRVs, evRV, tup, List.map_cons, List.map_nil, List.cons_append, List.nil_append, List.append_nil, List.getElem?_cons_zero, List.getElem?_cons_succ, Nat.zero_add, Option.map_some, Option.map_none, if_true, if_false, ↓reduceIte, Bool.false_eq_true, eq_self, Bool.not_false, Bool.not_true, decide_true, decide_false, hb, Int.natCast_zero, and_self]
  · rintro t' H' ⟨i, hH', hi, hno, g0, g3, g5⟩
    subst hH'
    have hlen := hV1.len
    by_cases hlt : i < l.length
    · have hI : (i : Int) < (l.length : Int) := by omega
      obtain ⟨a, a1, a2, a3, a4, a5⟩ := hV1.flds hlt
      have fin : same2 f l[i] = true → Gc H Q (.ret (.bool true)) H' := fun hs => by
        rw [any_at hlt hs] at h
        exact .same hle1 trivial h
      have step : same2 f l[i] = false → ∀ j (hj : j < l.length), j < i + 1 → same2 f l[j] = false := fun hs j hj hji => by
        by_cases e : j = i
        · subst e; exact hs
        · exact hno j hj (by omega)
      cases c1 : (l[i].id != f.id) with
      | false =>
        have hs : same2 f l[i] = false := by simp [same2, c1]
        simp (decide := true) only [WP_skip, WP_ops, WP_seq, WP_block, WP_exit, WP_ret, WP_cond, CdC_true, CdC_false, seqQ_normal, seqQ_exit, seqQ_ret, seqQ_pan, blkQ_normal, blkQ_exit, blkQ_ret, blkQ_pan, bodyQ_ret, bodyQ_normal, bodyQ_pan, bodyK_some, WP_aops, WPa_nil, WPa_wr, WrA_new, CallA_new, WPa_rd, WPa_call, WPa_callv, WPa_gd, RdA_some, CallA_ret, WPs_nil, WPs_rd, WPs_wr, WPs_call, WPs_callv, WPs_gd, RdK_some, WrK_some, CallK_ret, CallV_func, GdS_tt, GdS_tf, GdS_ft, GdS_ff, GdA_tt, GdA_tf, GdA_ft, GdA_ff, evR, lenV_slc, lenV_tail, lenV_str, iaV_slc, evX, AO.ev, Fr.put_some, Fr.put_none, Fr.at_set, Fr.at_ofArgs, List.getD_cons_zero, List.getD_cons_succ, List.getD_nil, binV, intOp, strOp, AV.cells, AHeap.cell_new, AHeap.range_new, AHeap.cell_old, AHeap.range_old, AHeap.get_new, AHeap.get_old, AHeap.put_new, AHeap.lt_new, AHeap.lt_alloc, AHeap.wf_alloc, AHeap.base_new, AHeap.base_alloc, evRVs, evRV, tup, List.map_cons, List.map_nil, List.cons_append, List.nil_append, List.append_nil, List.getElem?_cons_zero, List.getElem?_cons_succ, Nat.zero_add, Option.map_some, Option.map_none, if_true, if_false, ↓reduceIte, Bool.false_eq_true, eq_self, Bool.not_false, Bool.not_true, decide_true, decide_false, hb, Fo.av, cs0, cs1, cs2, cs3, cs_len, cs_take, List.drop_zero, one_f, splice_f, fillA_f, Nat.le_refl, and_self, Nat.add_zero, hb, hb1, g0, g3, g5, hlen, hI, a1, a2, a3, k0, c1, wrapN i (by omega)]
        exact ⟨⟨i + 1, trivial, hlt, step hs, trivial, trivial, rfl⟩, by simp only [numOf]; omega⟩
      | true =>
        cases c2 : (l[i].par == f.par) with
        | false =>
          have hs : same2 f l[i] = false := by simp [same2, c2]
          simp (decide := true) only [WP_skip, WP_ops, WP_seq, WP_block, WP_exit, WP_ret, WP_cond, CdC_true, CdC_false, seqQ_normal, seqQ_exit, seqQ_ret, seqQ_pan, blkQ_normal, blkQ_exit, blkQ_ret, blkQ_pan, bodyQ_ret, bodyQ_normal, bodyQ_pan, bodyK_some, WP_aops, WPa_nil, WPa_wr, WrA_new, CallA_new, WPa_rd, WPa_call, WPa_callv, WPa_gd, RdA_some, CallA_ret, WPs_nil, WPs_rd, WPs_wr, WPs_call, WPs_callv, WPs_gd, RdK_some, WrK_some, CallK_ret, CallV_func, GdS_tt, GdS_tf, GdS_ft, GdS_ff, GdA_tt, GdA_tf, GdA_ft, GdA_ff, evR, lenV_slc, lenV_tail, lenV_str, iaV_slc, evX, AO.ev, Fr.put_some, Fr.put_none, Fr.at_set, Fr.at_ofArgs, List.getD_cons_zero, List.getD_cons_succ, List.getD_nil, binV, intOp, strOp, AV.cells, AHeap.cell_new, AHeap.range_new, AHeap.cell_old, AHeap.range_old, AHeap.get_new, AHeap.get_old, AHeap.put_new, AHeap.lt_new, AHeap.lt_alloc, AHeap.wf_alloc, AHeap.base_new, AHeap.base_alloc, evRVs, evRV, tup, List.map_cons, List.map_nil, List.cons_append, List.nil_append, List.append_nil, List.getElem?_cons_zero, List.getElem?_cons_succ, Nat.zero_add, Option.map_some, Option.map_none, if_true, if_false, ↓reduceIte, Bool.false_eq_true, eq_self, Bool.not_false, Bool.not_true, decide_true, decide_false, hb, Fo.av, cs0, cs1, cs2, cs3, cs_len, cs_take, List.drop_zero, one_f, splice_f, fillA_f, Nat.le_refl, and_self, Nat.add_zero, hb, hb1, g0, g3, g5, hlen, hI, a1, a2, a3, a4, k0, k1, c1, c2, wrapN i (by omega)]
          exact ⟨⟨i + 1, trivial, hlt, step hs, trivial, trivial, rfl⟩, by simp only [numOf]; omega⟩
        | true =>
          cases c3 : (l[i].name.data.toList == f.name.data.toList) with
          | false =>
            have hs : same2 f l[i] = false := by simp [same2, c3]
            simp (decide := true) only [WP_skip, WP_ops, WP_seq, WP_block, WP_exit, WP_ret, WP_cond, CdC_true, CdC_false, seqQ_normal, seqQ_exit, seqQ_ret, seqQ_pan, blkQ_normal, blkQ_exit, blkQ_ret, blkQ_pan, bodyQ_ret, bodyQ_normal, bodyQ_pan, bodyK_some, WP_aops, WPa_nil, WPa_wr, WrA_new, CallA_new, WPa_rd, WPa_call, WPa_callv, WPa_gd, RdA_some, CallA_ret, WPs_nil, WPs_rd, WPs_wr, WPs_call, WPs_callv, WPs_gd, RdK_some, WrK_some, CallK_ret, CallV_func, GdS_tt, GdS_tf, GdS_ft, GdS_ff, GdA_tt, GdA_tf, GdA_ft, GdA_ff, evR, lenV_slc, lenV_tail, lenV_str, iaV_slc, evX, AO.ev, Fr.put_some, Fr.put_none, Fr.at_set, Fr.at_ofArgs, List.getD_cons_zero, List.getD_cons_succ, List.getD_nil, binV, intOp, strOp, AV.cells, AHeap.cell_new, AHeap.range_new, AHeap.cell_old, AHeap.range_old, AHeap.get_new, AHeap.get_old, AHeap.put_new, AHeap.lt_new, AHeap.lt_alloc, AHeap.wf_alloc, AHeap.base_new, AHeap.base_alloc, evRVs, evRV, tup, List.map_cons, List.map_nil, List.cons_append, List.nil_append, List.append_nil, List.getElem?_cons_zero, List.getElem?_cons_succ, Nat.zero_add, Option.map_some, Option.map_none, if_true, if_false, ↓reduceIte, Bool.false_eq_true, eq_self, Bool.not_false, Bool.not_true, decide_true, decide_false, hb, Fo.av, cs0, cs1, cs2, cs3, cs_len, cs_take, List.drop_zero, one_f, splice_f, fillA_f, Nat.le_refl, and_self, Nat.add_zero, hb, hb1, g0, g3, g5, hlen, hI, a1, a2, a3, a4, a5, k0, k1, k2, c1, c2, c3, wrapN i (by omega)]
            exact ⟨⟨i + 1, trivial, hlt, step hs, trivial, trivial, rfl⟩, by simp only [numOf]; omega⟩
          | true =>
            have hs : same2 f l[i] = true := by simp [same2, c1, c2, c3]
            simp (decide := true) only [WP_skip, WP_ops, WP_seq, WP_block, WP_exit, WP_ret, WP_cond, CdC_true, CdC_false, seqQ_normal, seqQ_exit, seqQ_ret, seqQ_pan, blkQ_normal, blkQ_exit, blkQ_ret, blkQ_pan, bodyQ_ret, bodyQ_normal, bodyQ_pan, bodyK_some, WP_aops, WPa_nil, WPa_wr, WrA_new, CallA_new, WPa_rd, WPa_call, WPa_callv, WPa_gd, RdA_some, CallA_ret, WPs_nil, WPs_rd, WPs_wr, WPs_call, WPs_callv, WPs_gd, RdK_some, WrK_some, CallK_ret, CallV_func, GdS_tt, GdS_tf, GdS_ft, GdS_ff, GdA_tt, GdA_tf, GdA_ft, GdA_ff, evR, lenV_slc, lenV_tail, lenV_str, iaV_slc, evX, AO.ev, Fr.put_some, Fr.put_none, Fr.at_set, Fr.at_ofArgs, List.getD_cons_zero, List.getD_cons_succ, List.getD_nil, binV, intOp, strOp, AV.cells, AHeap.cell_new, AHeap.range_new, AHeap.cell_old, AHeap.range_old, AHeap.get_new, AHeap.get_old, AHeap.put_new, AHeap.lt_new, AHeap.lt_alloc, AHeap.wf_alloc, AHeap.base_new, AHeap.base_alloc, evRVs, evRV, tup, List.map_cons, List.map_nil, List.cons_append, List.nil_append, List.append_nil, List.getElem?_cons_zero, List.getElem?_cons_succ, Nat.zero_add, Option.map_some, Option.map_none, if_true, if_false, ↓reduceIte, Bool.false_eq_true, eq_self, Bool.not_false, Bool.not_true, decide_true, decide_false, hb, Fo.av, cs0, cs1, cs2, cs3, cs_len, cs_take, List.drop_zero, one_f, splice_f, fillA_f, Nat.le_refl, and_self, Nat.add_zero, hb, hb1, g0, g3, g5, hlen, hI, a1, a2, a3, a4, a5, k0, k1, k2, c1, c2, c3]
            exact fin hs
    · have hI : ¬ (i : Int) < (l.length : Int) := by omega
      simp (decide := true) only [WP_skip, WP_ops, WP_seq, WP_block, WP_exit, WP_ret, WP_cond, CdC_true, CdC_false, seqQ_normal, seqQ_exit, seqQ_ret, seqQ_pan, blkQ_normal, blkQ_exit, blkQ_ret, blkQ_pan, bodyQ_ret, bodyQ_normal, bodyQ_pan, bodyK_some, WP_aops, WPa_nil, WPa_wr, WrA_new, CallA_new, WPa_rd, WPa_call, WPa_callv, WPa_gd, RdA_some, CallA_ret, WPs_nil, WPs_rd, WPs_wr, WPs_call, WPs_callv, WPs_gd, RdK_some, WrK_some, CallK_ret, CallV_func, GdS_tt, GdS_tf, GdS_ft, GdS_ff, GdA_tt, GdA_tf, GdA_ft, GdA_ff, evR, lenV_slc, lenV_tail, lenV_str, iaV_slc, evX, AO.ev, Fr.put_some, Fr.put_none, Fr.at_set, Fr.at_ofArgs, List.getD_cons_zero, List.getD_cons_succ, List.getD_nil, binV, intOp, strOp, AV.cells, AHeap.cell_new, AHeap.range_new, AHeap.cell_old, AHeap.range_old, AHeap.get_new, AHeap.get_old, AHeap.put_new, AHeap.lt_new, AHeap.lt_alloc, AHeap.wf_alloc, AHeap.base_new, AHeap.base_alloc, evRVs, evRV, tup, List.map_cons, List.map_nil, List.cons_append, List.nil_append, List.append_nil, List.getElem?_cons_zero, List.getElem?_cons_succ, Nat.zero_add, Option.map_some, Option.map_none, if_true, if_false, ↓reduceIte, Bool.false_eq_true, eq_self, Bool.not_false, Bool.not_true, decide_true, decide_false, hb, Fo.av, cs0, cs1, cs2, cs3, cs_len, cs_take, List.drop_zero, one_f, splice_f, fillA_f, Nat.le_refl, and_self, Nat.add_zero, hb1, g0, g3, g5, hlen, hI]
      rw [any_no (l := l) (p := same2 f) fun j hj => hno j hj (by omega)] at h
      exact .same hle1 trivial h
end Go.AM
