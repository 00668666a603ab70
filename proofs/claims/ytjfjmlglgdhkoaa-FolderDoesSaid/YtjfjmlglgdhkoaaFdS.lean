/- Sorting numbers: the whole sort, of rising numbers and one behind them. -/
import Derived.Test.YtjfjmlglgdhkoaaFdP
namespace Go.AM
open Go Go.Proofs
set_option linter.unusedSimpArgs false
set_option linter.unusedVariables false
set_option maxRecDepth 100000
set_option maxHeartbeats 8000000

/-- What a sort of a part leaves. -/
structure SO (H : AHeap) (b : Nat) (l : List Int) (a e : Nat) (H' : AHeap) (L : List Int) : Prop where
  X : LeX b H H'
  nx : H'.next = H.next
  N : NB H' b L
  perm : L.Perm l
  out : ∀ k (h1 : k < L.length) (h2 : k < l.length), (k < a ∨ e ≤ k) → L[k] = l[k]
  up : ∀ k (h1 : k + 1 < L.length), a ≤ k → k + 1 < e → L[k] ≤ L[k + 1]

theorem f52s {H : AHeap} {Q : AE → AHeap → Prop} {b : Nat} {l : List Int} {n a e : Nat} {m : Int} (hn : n = l.length) (hN : NB H b l) (hae : a < e) (he : e ≤ l.length) (h12 : e - a ≤ 12)
    (h : ∀ (H' : AHeap) (L : List Int), SO H b l a e H' L → Q (.ret (.tuple [])) H') :
    ACall Try.prog 52 [.slice (some (b, 0)) n (.inr 0), .int .i64 (a : Nat), .int .i64 (e : Nat), .int .i64 m] H Q := by
  refine ACall.comp [] mixed (by decide +kernel) fun F hF' => ?_
  cbv at hF'
  cases hF'
  refine ⟨by simp, fun hb ha => ?_⟩
  have hle := hN.le
  simp (decide := true) only [WP_skip, WP_ops, WP_seq, WP_block, WP_exit, WP_ret, WP_cond, CdC_true, CdC_false, seqQ_normal, seqQ_exit, seqQ_ret, seqQ_pan, blkQ_normal, blkQ_exit, blkQ_ret, blkQ_pan, bodyQ_ret, bodyQ_normal, bodyQ_pan, bodyK_some, WP_aops, WPa_nil, WPa_wr, WrA_new, CallA_new, WPa_rd, WPa_call, WPa_callv, WPa_gd, RdA_some, CallA_ret, WPs_nil, WPs_rd, WPs_wr, WPs_call, WPs_callv, WPs_gd, RdK_some, WrK_some, CallK_ret, CallV_func, GdS_tt, GdS_tf, GdS_ft, GdS_ff, GdA_tt, GdA_tf, GdA_ft, GdA_ff, evR, lenV_slc, lenV_tail, lenV_str, iaV_slc, evX, AO.ev, Fr.put_some, Fr.put_none, Fr.at_set, Fr.at_ofArgs, List.getD_cons_zero, List.getD_cons_succ, List.getD_nil, binV, intOp, strOp, AV.cells, AHeap.cell_new, AHeap.range_new, AHeap.cell_old, AHeap.range_old, AHeap.get_new, AHeap.get_old, AHeap.put_new, AHeap.lt_new, AHeap.lt_alloc, AHeap.wf_alloc, AHeap.base_new, AHeap.base_alloc, evRVs, evRV, tup, List.map_cons, List.map_nil, List.cons_append, List.nil_append, List.append_nil, List.getElem?_cons_zero, List.getElem?_cons_succ, Nat.zero_add, Option.map_some, Option.map_none, if_true, if_false, ↓reduceIte, Bool.false_eq_true, eq_self, Bool.not_false, Bool.not_true, decide_true, decide_false, hb]
  refine WP_loop (fun t' H' => H' = H ∧ Fr.at t' 0 = .slice (some (b, 0)) n (.inr 0) ∧ Fr.at t' 1 = .int .i64 (a : Nat) ∧ Fr.at t' 2 = .int .i64 (e : Nat)) (fun _ _ => 0) ?_ ?_
  · simp (decide := true) only [WP_skip, WP_ops, WP_seq, WP_block, WP_exit, WP_ret, WP_cond, CdC_true, CdC_false, seqQ_normal, seqQ_exit, seqQ_ret, seqQ_pan, blkQ_normal, blkQ_exit, blkQ_ret, blkQ_pan, bodyQ_ret, bodyQ_normal, bodyQ_pan, bodyK_some, WP_aops, WPa_nil, WPa_wr, WrA_new, CallA_new, WPa_rd, WPa_call, WPa_callv, WPa_gd, RdA_some, CallA_ret, WPs_nil, WPs_rd, WPs_wr, WPs_call, WPs_callv, WPs_gd, RdK_some, WrK_some, CallK_ret, CallV_func, GdS_tt, GdS_tf, GdS_ft, GdS_ff, GdA_tt, GdA_tf, GdA_ft, GdA_ff, evR, lenV_slc, lenV_tail, lenV_str, iaV_slc, evX, AO.ev, Fr.put_some, Fr.put_none, Fr.at_set, Fr.at_ofArgs, List.getD_cons_zero, List.getD_cons_succ, List.getD_nil, binV, intOp, strOp, AV.cells, AHeap.cell_new, AHeap.range_new, AHeap.cell_old, AHeap.range_old, AHeap.get_new, AHeap.get_old, AHeap.put_new, AHeap.lt_new, AHeap.lt_alloc, AHeap.wf_alloc, AHeap.base_new, AHeap.base_alloc, evRVs, evRV, tup, List.map_cons, List.map_nil, List.cons_append, List.nil_append, List.append_nil, List.getElem?_cons_zero, List.getElem?_cons_succ, Nat.zero_add, Option.map_some, Option.map_none, if_true, if_false, ↓reduceIte, Bool.false_eq_true, eq_self, Bool.not_false, Bool.not_true, decide_true, decide_false, hb, and_self]
  · rintro t' H1 ⟨rfl, g0, g1, g2⟩
    have e1 : IntKind.i64.wrap ((e : Int) - (a : Int)) = ((e - a : Nat) : Int) := by rw [IntKind.wrap_i64]; omega
    have e2 : decide (((e - a : Nat) : Int) ≤ 12) = true := by simp; omega
    simp (decide := true) only [WP_skip, WP_ops, WP_seq, WP_block, WP_exit, WP_ret, WP_cond, CdC_true, CdC_false, seqQ_normal, seqQ_exit, seqQ_ret, seqQ_pan, blkQ_normal, blkQ_exit, blkQ_ret, blkQ_pan, bodyQ_ret, bodyQ_normal, bodyQ_pan, bodyK_some, WP_aops, WPa_nil, WPa_wr, WrA_new, CallA_new, WPa_rd, WPa_call, WPa_callv, WPa_gd, RdA_some, CallA_ret, WPs_nil, WPs_rd, WPs_wr, WPs_call, WPs_callv, WPs_gd, RdK_some, WrK_some, CallK_ret, CallV_func, GdS_tt, GdS_tf, GdS_ft, GdS_ff, GdA_tt, GdA_tf, GdA_ft, GdA_ff, evR, lenV_slc, lenV_tail, lenV_str, iaV_slc, evX, AO.ev, Fr.put_some, Fr.put_none, Fr.at_set, Fr.at_ofArgs, List.getD_cons_zero, List.getD_cons_succ, List.getD_nil, binV, intOp, strOp, AV.cells, AHeap.cell_new, AHeap.range_new, AHeap.cell_old, AHeap.range_old, AHeap.get_new, AHeap.get_old, AHeap.put_new, AHeap.lt_new, AHeap.lt_alloc, AHeap.wf_alloc, AHeap.base_new, AHeap.base_alloc, evRVs, evRV, tup, List.map_cons, List.map_nil, List.cons_append, List.nil_append, List.append_nil, List.getElem?_cons_zero, List.getElem?_cons_succ, Nat.zero_add, Option.map_some, Option.map_none, if_true, if_false, ↓reduceIte, Bool.false_eq_true, eq_self, Bool.not_false, Bool.not_true, decide_true, decide_false, hb, g0, g1, g2, e1, e2]
    refine f56 hn hN hae he fun H' L h1 h2 h3 h4 h5 h6 => ?_
    simp (decide := true) only [WP_skip, WP_ops, WP_seq, WP_block, WP_exit, WP_ret, WP_cond, CdC_true, CdC_false, seqQ_normal, seqQ_exit, seqQ_ret, seqQ_pan, blkQ_normal, blkQ_exit, blkQ_ret, blkQ_pan, bodyQ_ret, bodyQ_normal, bodyQ_pan, bodyK_some, WP_aops, WPa_nil, WPa_wr, WrA_new, CallA_new, WPa_rd, WPa_call, WPa_callv, WPa_gd, RdA_some, CallA_ret, WPs_nil, WPs_rd, WPs_wr, WPs_call, WPs_callv, WPs_gd, RdK_some, WrK_some, CallK_ret, CallV_func, GdS_tt, GdS_tf, GdS_ft, GdS_ff, GdA_tt, GdA_tf, GdA_ft, GdA_ff, evR, lenV_slc, lenV_tail, lenV_str, iaV_slc, evX, AO.ev, Fr.put_some, Fr.put_none, Fr.at_set, Fr.at_ofArgs, List.getD_cons_zero, List.getD_cons_succ, List.getD_nil, binV, intOp, strOp, AV.cells, AHeap.cell_new, AHeap.range_new, AHeap.cell_old, AHeap.range_old, AHeap.get_new, AHeap.get_old, AHeap.put_new, AHeap.lt_new, AHeap.lt_alloc, AHeap.wf_alloc, AHeap.base_new, AHeap.base_alloc, evRVs, evRV, tup, List.map_cons, List.map_nil, List.cons_append, List.nil_append, List.append_nil, List.getElem?_cons_zero, List.getElem?_cons_succ, Nat.zero_add, Option.map_some, Option.map_none, if_true, if_false, ↓reduceIte, Bool.false_eq_true, eq_self, Bool.not_false, Bool.not_true, decide_true, decide_false, hb, g0, g1, g2]
    exact .this (h H' L ⟨h1, h2, h3, h4, h5, h6⟩)

/-- What stands in the sorted part stood in it. -/
theorem part_mem {l L : List Int} {a e : Nat} (hp : L.Perm l) (hae : a ≤ e) (he : e ≤ l.length) (hout : ∀ k (h1 : k < L.length) (h2 : k < l.length), (k < a ∨ e ≤ k) → L[k] = l[k]) :
    ∀ k (h : k < L.length), a ≤ k → k < e → ∃ (k' : Nat) (h' : k' < l.length), a ≤ k' ∧ k' < e ∧ L[k] = l[k'] := by
  have hlen := hp.length_eq
  have ht : L.take a = l.take a := by
    apply List.ext_getElem
    · simp [hlen]
    · intro i h1 h2
      simp only [List.length_take] at h1 h2
      simp only [List.getElem_take]
      exact hout i (by omega) (by omega) (.inl (by omega))
  have hd : L.drop e = l.drop e := by
    apply List.ext_getElem
    · simp [hlen]
    · intro i h1 h2
      simp only [List.length_drop] at h1 h2
      simp only [List.getElem_drop]
      exact hout (e + i) (by omega) (by omega) (.inr (by omega))
  have split : ∀ x : List Int, x = x.take a ++ ((x.drop a).take (e - a) ++ x.drop e) := fun x => by
    have h1 : x.drop e = (x.drop a).drop (e - a) := by rw [List.drop_drop]; congr 1; omega
    rw [h1, List.take_append_drop, List.take_append_drop]
  have hmid : ((L.drop a).take (e - a)).Perm ((l.drop a).take (e - a)) := by
    rw [split L, split l, ht, hd] at hp
    exact (List.perm_append_right_iff _).1 ((List.perm_append_left_iff _).1 hp)
  intro k hk hak hke
  have hm : L[k] ∈ (L.drop a).take (e - a) := by
    refine List.mem_of_getElem? (i := k - a) ?_
    rw [List.getElem?_take, if_pos (by omega), List.getElem?_drop, show a + (k - a) = k by omega]
    simp [hk]
  obtain ⟨i, hi, hie⟩ := List.getElem_of_mem (hmid.mem_iff.1 hm)
  simp only [List.length_take, List.length_drop] at hi
  refine ⟨a + i, by omega, by omega, by omega, ?_⟩
  rw [← hie]
  simp

/-- Where the partition's middle comes to lie. -/
theorem mid_bounds {l L : List Int} {n q m : Nat} (hn : n = l.length) (hp : L.Perm l) (hq : q + 1 < n) (hm : m < n) (hlo : ∀ k (h : k < L.length), k < m → L[k] < l[q]'(by omega)) (hhi : ∀ k (h : k < L.length), m ≤ k → l[q]'(by omega) ≤ L[k])
    (hr : ∀ j k (hj : j < l.length) (hk : k < l.length), j < k → k + 1 < n → l[j] < l[k]) : q ≤ m ∧ m ≤ q + 1 := by
  subst hn
  have hlen := hp.length_eq
  have hql : q < l.length := by omega
  have c1 : L.countP (fun x => decide (x < l[q])) = m := by
    have h1 : (L.take m).countP (fun x => decide (x < l[q])) = (L.take m).length := by
      rw [List.countP_eq_length]; intro x hx
      obtain ⟨k, hk, rfl⟩ := List.getElem_of_mem hx
      simp only [List.length_take] at hk
      simpa using hlo k (by omega) (by omega)
    have h2 : (L.drop m).countP (fun x => decide (x < l[q])) = 0 := by
      rw [List.countP_eq_zero]; intro x hx
      obtain ⟨k, hk, rfl⟩ := List.getElem_of_mem hx
      simp only [List.length_drop] at hk
      have := hhi (m + k) (by omega) (by omega)
      simp; omega
    rw [← List.take_append_drop m L, List.countP_append, h1, h2, List.length_take]; omega
  rw [hp.countP_eq] at c1
  have h1 : (l.take q).countP (fun x => decide (x < l[q])) = q := by
    have : (l.take q).countP (fun x => decide (x < l[q])) = (l.take q).length := by
      rw [List.countP_eq_length]; intro x hx
      obtain ⟨k, hk, rfl⟩ := List.getElem_of_mem hx
      simp only [List.length_take] at hk
      simpa using hr k q (by omega) hql (by omega) hq
    rw [this, List.length_take]; omega
  have h2 : ((l.drop q).take (l.length - 1 - q)).countP (fun x => decide (x < l[q])) = 0 := by
    rw [List.countP_eq_zero]; intro x hx
    obtain ⟨k, hk, rfl⟩ := List.getElem_of_mem hx
    simp only [List.length_take, List.length_drop] at hk
    have : l[q] ≤ l[q + k]'(by omega) := by
      by_cases e : k = 0
      · subst e; exact Int.le_refl _
      · exact Int.le_of_lt (hr q (q + k) hql (by omega) (by omega) (by omega))
    simp; omega
  have h3 : ((l.drop q).drop (l.length - 1 - q)).countP (fun x => decide (x < l[q])) ≤ 1 := by
    refine Nat.le_trans List.countP_le_length ?_
    simp only [List.length_drop]; omega
  have hs : l = l.take q ++ ((l.drop q).take (l.length - 1 - q) ++ (l.drop q).drop (l.length - 1 - q)) := by rw [List.take_append_drop, List.take_append_drop]
  have h4 : l.countP (fun x => decide (x < l[q])) = (l.take q).countP (fun x => decide (x < l[q])) + (((l.drop q).take (l.length - 1 - q)).countP (fun x => decide (x < l[q])) + ((l.drop q).drop (l.length - 1 - q)).countP (fun x => decide (x < l[q]))) := by
    rw [← List.countP_append, ← List.countP_append, ← hs]
  omega
end Go.AM
