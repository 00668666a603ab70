/- Folders: where one belongs among many; with one more. -/
import Derived.Test.YtjfjmlglgdhkoaaFdC
namespace Go.AM
open Go Go.Proofs
set_option linter.unusedSimpArgs false
set_option linter.unusedVariables false
set_option maxRecDepth 100000

def Fo.ok (f : Fo) : Prop := (0 ≤ f.id ∧ f.id < 4294967296) ∧ (0 ≤ f.par ∧ f.par < 4294967296)
theorem f46 {H : AHeap} {Q : AE → AHeap → Prop} {f : Fo} (hf : f.ok) {x : Int} (hx : 0 ≤ x ∧ x < 4294967296) (h : Q (.ret (.int .i64 (f.id - x))) H) :
    ACall Try.prog 46 [f.av, .int .u32 x] H Q := by
  refine ACall.comp [] mixed (by decide +kernel) fun F hF' => ?_
  cbv at hF'
  cases hF'
  refine ⟨by simp, fun hb ha => ?_⟩
  obtain ⟨⟨h1, h2⟩, _⟩ := hf
  have w1 : IntKind.i64.wrap f.id = f.id := by rw [IntKind.wrap_i64]; omega
  have w2 : IntKind.i64.wrap x = x := by rw [IntKind.wrap_i64]; omega
  have w3 : IntKind.i64.wrap (f.id - x) = f.id - x := by rw [IntKind.wrap_i64]; omega
  simp (decide := true) only [WP_skip, WP_ops, WP_seq, WP_block, WP_exit, WP_ret, WP_cond, CdC_true, CdC_false, seqQ_normal, seqQ_exit, seqQ_ret, seqQ_pan, blkQ_normal, blkQ_exit, blkQ_ret, blkQ_pan, bodyQ_ret, bodyQ_normal, bodyQ_pan, bodyK_some, WP_aops, WPa_nil, WPa_wr, WrA_new, CallA_new, WPa_rd, WPa_call, WPa_callv, WPa_gd, RdA_some, CallA_ret, WPs_nil, WPs_rd, WPs_wr, WPs_call, WPs_callv, WPs_gd, RdK_some, WrK_some, CallK_ret, CallV_func, GdS_tt, GdS_tf, GdS_ft, GdS_ff, GdA_tt, GdA_tf, GdA_ft, GdA_ff, evR, lenV_slc, lenV_tail, lenV_str, iaV_slc, evX, AO.ev, Fr.put_some, Fr.put_none, Fr.at_set, Fr.at_ofArgs, List.getD_cons_zero, List.getD_cons_succ, List.getD_nil, binV, intOp, strOp, AV.cells, AHeap.cell_new, AHeap.range_new, AHeap.cell_old, AHeap.range_old, AHeap.get_new, AHeap.get_old, AHeap.put_new, AHeap.lt_new, AHeap.lt_alloc, AHeap.wf_alloc, AHeap.base_new, AHeap.base_alloc, evRVs, evRV, tup, List.map_cons, List.map_nil, List.cons_append, List.nil_append, List.append_nil, List.getElem?_cons_zero, List.getElem?_cons_succ, Nat.zero_add, Option.map_some, Option.map_none, if_true, if_false, ↓reduceIte, Bool.false_eq_true, eq_self, Bool.not_false, Bool.not_true, decide_true, decide_false, hb, Fo.av, Fo.cs, w1, w2, w3]
  exact .same (.new hb) trivial h

theorem half (i j : Nat) (h : i + j < 4611686018427387904) : IntKind.i64.wrap ((IntKind.u64.wrap (IntKind.i64.wrap ((i : Int) + (j : Int)))) / 2) = (((i + j) / 2 : Nat) : Int) := by
  have h1 : IntKind.i64.wrap ((i : Int) + (j : Int)) = ((i + j : Nat) : Int) := by rw [IntKind.wrap_i64]; omega
  have h2 : IntKind.u64.wrap ((i + j : Nat) : Int) = ((i + j : Nat) : Int) := by
    show (((i + j : Nat) : Int) % (2 ^ 64 : Int)) = _
    omega
  rw [h1, h2, IntKind.wrap_i64]; omega
theorem shr_one (k : IntKind) (a : Int) (hk : 1 ≤ k.bits) : shOp .shr k a 1 = some (.int k (a / 2)) := by
  unfold shOp
  rw [if_neg (by decide), show min (Int.toNat 1) k.bits = 1 by simp; omega]
  simp [Int.fdiv_eq_ediv]

theorem f45 {H : AHeap} {Q : AE → AHeap → Prop} {p : Nat × Nat} {l : List Fo} {n : Nat} (hn : n = l.length) {c : Nat ⊕ Nat} (hF : FS H p l) (hok : ∀ f ∈ l, f.ok) {x : Int} (hx : 0 ≤ x ∧ x < 4294967296)
    (hsort : ∀ j k (hj : j < l.length) (hk : k < l.length), j < k → l[j].id < l[k].id)
    (h : ∀ i b, i ≤ l.length → (∀ k (hk : k < l.length), k < i → l[k].id < x) → (∀ k (hk : k < l.length), i ≤ k → x ≤ l[k].id) → Q (.ret (.tuple [.int .i64 (i : Nat), .bool b])) H) :
    ACall Try.prog 45 [.slice (some p) n c, .int .u32 x, .func (.func 46) [] []] H Q := by
  subst hn
  refine ACall.comp [] mixed (by decide +kernel) fun F hF' => ?_
  cbv at hF'
  cases hF'
  refine ⟨by simp, fun hb ha => ?_⟩
  simp (decide := true) only [WP_skip, WP_ops, WP_seq, WP_block, WP_exit, WP_ret, WP_cond, CdC_true, CdC_false, seqQ_normal, seqQ_exit, seqQ_ret, seqQ_pan, blkQ_normal, blkQ_exit, blkQ_ret, blkQ_pan, bodyQ_ret, bodyQ_normal, bodyQ_pan, bodyK_some, WP_aops, WPa_nil, WPa_wr, WrA_new, CallA_new, WPa_rd, WPa_call, WPa_callv, WPa_gd, RdA_some, CallA_ret, WPs_nil, WPs_rd, WPs_wr, WPs_call, WPs_callv, WPs_gd, RdK_some, WrK_some, CallK_ret, CallV_func, GdS_tt, GdS_tf, GdS_ft, GdS_ff, GdA_tt, GdA_tf, GdA_ft, GdA_ff, evR, lenV_slc, lenV_tail, lenV_str, iaV_slc, evX, AO.ev, Fr.put_some, Fr.put_none, Fr.at_set, Fr.at_ofArgs, List.getD_cons_zero, List.getD_cons_succ, List.getD_nil, binV, intOp, strOp, AV.cells, AHeap.cell_new, AHeap.range_new, AHeap.cell_old, AHeap.range_old, AHeap.get_new, AHeap.get_old, AHeap.put_new, AHeap.lt_new, AHeap.lt_alloc, AHeap.wf_alloc, AHeap.base_new, AHeap.base_alloc, evRVs, evRV, tup, List.map_cons, List.map_nil, List.cons_append, List.nil_append, List.append_nil, List.getElem?_cons_zero, List.getElem?_cons_succ, Nat.zero_add, Option.map_some, Option.map_none, if_true, if_false, ↓reduceIte, Bool.false_eq_true, eq_self, Bool.not_false, Bool.not_true, decide_true, decide_false, hb]
  have hle := hF.le
  refine WP_loop (fun t' H' => ∃ i j : Nat, H' = H ∧ i ≤ j ∧ j ≤ l.length ∧ (∀ k (hk : k < l.length), k < i → l[k].id < x) ∧ (∀ k (hk : k < l.length), j ≤ k → x ≤ l[k].id) ∧ Fr.at t' 0 = .slice (some p) l.length c ∧ Fr.at t' 1 = .int .u32 x ∧
    Fr.at t' 2 = .func (.func 46) [] [] ∧ Fr.at t' 8 = .int .i64 l.length ∧ Fr.at t' 9 = .int .i64 i ∧ Fr.at t' 10 = .int .i64 j) (fun t' _ => (numOf (Fr.at t' 10) - numOf (Fr.at t' 9)).toNat) ?_ ?_
  · refine ⟨0, l.length, rfl, by omega, by omega, fun k _ hk => absurd hk (by omega), fun k hk hk' => absurd hk (by omega), ?_⟩
    simp (decide := true) only [WP_skip, WP_ops, WP_seq, WP_block, WP_exit, WP_ret, WP_cond, CdC_true, CdC_false, seqQ_normal, seqQ_exit, seqQ_ret, seqQ_pan, blkQ_normal, blkQ_exit, blkQ_ret, blkQ_pan, bodyQ_ret, bodyQ_normal, bodyQ_pan, bodyK_some, WP_aops, WPa_nil, WPa_wr, WrA_new, CallA_new, WPa_rd, WPa_call, WPa_callv, WPa_gd, RdA_some, CallA_ret, WPs_nil, WPs_rd, WPs_wr, WPs_call, WPs_callv, WPs_gd, RdK_some, WrK_some, CallK_ret, CallV_func, GdS_tt, GdS_tf, GdS_ft, GdS_ff, GdA_tt, GdA_tf, GdA_ft, GdA_ff, evR, lenV_slc, lenV_tail, lenV_str, iaV_slc, evX, AO.ev, Fr.put_some, Fr.put_none, Fr.at_set, Fr.at_ofArgs, List.getD_cons_zero, List.getD_cons_succ, List.getD_nil, binV, intOp, strOp, AV.cells, AHeap.cell_new, AHeap.range_new, AHeap.cell_old, AHeap.range_old, AHeap.get_new, AHeap.get_old, AHeap.put_new, AHeap.lt_new, AHeap.lt_alloc, AHeap.wf_alloc, AHeap.base_new, AHeap.base_alloc, evRVs, evRV, tup, List.map_cons, List.map_nil, List.cons_append, List.nil_append, List.append_nil, List.getElem?_cons_zero, List.getElem?_cons_succ, Nat.zero_add, Option.map_some, Option.map_none, if_true, if_false, ↓reduceIte, Bool.false_eq_true, eq_self, Bool.not_false, Bool.not_true, decide_true, decide_false, hb, Int.natCast_zero, and_self]
  · rintro t' _ ⟨i, j, rfl, hij, hj, hlo, hhi, h0, h1, h2, h8, h9, h10⟩
    by_cases hlt : i < j
    · have hI : (i : Int) < (j : Int) := by omega
      have hm : (i + j) / 2 < l.length := by omega
      have hm1 : (((i + j) / 2 : Nat) : Int) < (l.length : Int) := by omega
      have hm0 : 0 ≤ (((i + j) / 2 : Nat) : Int) := by omega
      simp (decide := true) only [WP_skip, WP_ops, WP_seq, WP_block, WP_exit, WP_ret, WP_cond, CdC_true, CdC_false, seqQ_normal, seqQ_exit, seqQ_ret, seqQ_pan, blkQ_normal, blkQ_exit, blkQ_ret, blkQ_pan, bodyQ_ret, bodyQ_normal, bodyQ_pan, bodyK_some, WP_aops, WPa_nil, WPa_wr, WrA_new, CallA_new, WPa_rd, WPa_call, WPa_callv, WPa_gd, RdA_some, CallA_ret, WPs_nil, WPs_rd, WPs_wr, WPs_call, WPs_callv, WPs_gd, RdK_some, WrK_some, CallK_ret, CallV_func, GdS_tt, GdS_tf, GdS_ft, GdS_ff, GdA_tt, GdA_tf, GdA_ft, GdA_ff, evR, lenV_slc, lenV_tail, lenV_str, iaV_slc, evX, AO.ev, Fr.put_some, Fr.put_none, Fr.at_set, Fr.at_ofArgs, List.getD_cons_zero, List.getD_cons_succ, List.getD_nil, binV, intOp, strOp, AV.cells, AHeap.cell_new, AHeap.range_new, AHeap.cell_old, AHeap.range_old, AHeap.get_new, AHeap.get_old, AHeap.put_new, AHeap.lt_new, AHeap.lt_alloc, AHeap.wf_alloc, AHeap.base_new, AHeap.base_alloc, evRVs, evRV, tup, List.map_cons, List.map_nil, List.cons_append, List.nil_append, List.append_nil, List.getElem?_cons_zero, List.getElem?_cons_succ, Nat.zero_add, Option.map_some, Option.map_none, if_true, if_false, ↓reduceIte, Bool.false_eq_true, eq_self, Bool.not_false, Bool.not_true, decide_true, decide_false, hb, h0, h1, h2, h8, h9, h10, hI, decide_true, shr_one, half i j (by omega), hm0, hm1, and_self, Int.toNat_natCast, hF.elem hm, Option.map_some]
      refine f46 (hok _ (List.getElem_mem hm)) hx ?_
      simp (decide := true) only [WP_skip, WP_ops, WP_seq, WP_block, WP_exit, WP_ret, WP_cond, CdC_true, CdC_false, seqQ_normal, seqQ_exit, seqQ_ret, seqQ_pan, blkQ_normal, blkQ_exit, blkQ_ret, blkQ_pan, bodyQ_ret, bodyQ_normal, bodyQ_pan, bodyK_some, WP_aops, WPa_nil, WPa_wr, WrA_new, CallA_new, WPa_rd, WPa_call, WPa_callv, WPa_gd, RdA_some, CallA_ret, WPs_nil, WPs_rd, WPs_wr, WPs_call, WPs_callv, WPs_gd, RdK_some, WrK_some, CallK_ret, CallV_func, GdS_tt, GdS_tf, GdS_ft, GdS_ff, GdA_tt, GdA_tf, GdA_ft, GdA_ff, evR, lenV_slc, lenV_tail, lenV_str, iaV_slc, evX, AO.ev, Fr.put_some, Fr.put_none, Fr.at_set, Fr.at_ofArgs, List.getD_cons_zero, List.getD_cons_succ, List.getD_nil, binV, intOp, strOp, AV.cells, AHeap.cell_new, AHeap.range_new, AHeap.cell_old, AHeap.range_old, AHeap.get_new, AHeap.get_old, AHeap.put_new, AHeap.lt_new, AHeap.lt_alloc, AHeap.wf_alloc, AHeap.base_new, AHeap.base_alloc, evRVs, evRV, tup, List.map_cons, List.map_nil, List.cons_append, List.nil_append, List.append_nil, List.getElem?_cons_zero, List.getElem?_cons_succ, Nat.zero_add, Option.map_some, Option.map_none, if_true, if_false, ↓reduceIte, Bool.false_eq_true, eq_self, Bool.not_false, Bool.not_true, decide_true, decide_false, hb, CdC_sym, h0, h1, h2, h8, h9, h10]
      by_cases hc : l[(i + j) / 2].id - x < 0
      · rw [if_pos (by simpa using hc), wrapN _ (by omega)]
        refine ⟨⟨(i + j) / 2 + 1, j, trivial, by omega, hj, fun k hk hki => ?_, hhi, trivial, trivial, trivial, trivial, rfl, rfl⟩, by simp only [numOf]; omega⟩
        by_cases e : k = (i + j) / 2
        · subst e; omega
        · have := hsort k ((i + j) / 2) hk hm (by omega); omega
      · rw [if_neg (by simpa using hc)]
        refine ⟨⟨i, (i + j) / 2, trivial, by omega, by omega, hlo, fun k hk hki => ?_, trivial, trivial, trivial, trivial, rfl, rfl⟩, by simp only [numOf]; omega⟩
        by_cases e : k = (i + j) / 2
        · subst e; omega
        · have := hsort ((i + j) / 2) k hm hk (by omega); omega
    · have hI : ¬ (i : Int) < (j : Int) := by omega
      by_cases hin : i < l.length
      · have hI2 : (i : Int) < (l.length : Int) := by omega
        have hI0 : 0 ≤ (i : Int) := by omega
        simp (decide := true) only [WP_skip, WP_ops, WP_seq, WP_block, WP_exit, WP_ret, WP_cond, CdC_true, CdC_false, seqQ_normal, seqQ_exit, seqQ_ret, seqQ_pan, blkQ_normal, blkQ_exit, blkQ_ret, blkQ_pan, bodyQ_ret, bodyQ_normal, bodyQ_pan, bodyK_some, WP_aops, WPa_nil, WPa_wr, WrA_new, CallA_new, WPa_rd, WPa_call, WPa_callv, WPa_gd, RdA_some, CallA_ret, WPs_nil, WPs_rd, WPs_wr, WPs_call, WPs_callv, WPs_gd, RdK_some, WrK_some, CallK_ret, CallV_func, GdS_tt, GdS_tf, GdS_ft, GdS_ff, GdA_tt, GdA_tf, GdA_ft, GdA_ff, evR, lenV_slc, lenV_tail, lenV_str, iaV_slc, evX, AO.ev, Fr.put_some, Fr.put_none, Fr.at_set, Fr.at_ofArgs, List.getD_cons_zero, List.getD_cons_succ, List.getD_nil, binV, intOp, strOp, AV.cells, AHeap.cell_new, AHeap.range_new, AHeap.cell_old, AHeap.range_old, AHeap.get_new, AHeap.get_old, AHeap.put_new, AHeap.lt_new, AHeap.lt_alloc, AHeap.wf_alloc, AHeap.base_new, AHeap.base_alloc, evRVs, evRV, tup, List.map_cons, List.map_nil, List.cons_append, List.nil_append, List.append_nil, List.getElem?_cons_zero, List.getElem?_cons_succ, Nat.zero_add, Option.map_some, Option.map_none, if_true, if_false, ↓reduceIte, Bool.false_eq_true, eq_self, Bool.not_false, Bool.not_true, decide_true, decide_false, hb, h0, h1, h2, h8, h9, h10, hI, decide_false, hI2, hI0, decide_true, and_self, Int.toNat_natCast, hF.elem hin, Option.map_some]
        refine f46 (hok _ (List.getElem_mem hin)) hx ?_
        simp (decide := true) only [WP_skip, WP_ops, WP_seq, WP_block, WP_exit, WP_ret, WP_cond, CdC_true, CdC_false, seqQ_normal, seqQ_exit, seqQ_ret, seqQ_pan, blkQ_normal, blkQ_exit, blkQ_ret, blkQ_pan, bodyQ_ret, bodyQ_normal, bodyQ_pan, bodyK_some, WP_aops, WPa_nil, WPa_wr, WrA_new, CallA_new, WPa_rd, WPa_call, WPa_callv, WPa_gd, RdA_some, CallA_ret, WPs_nil, WPs_rd, WPs_wr, WPs_call, WPs_callv, WPs_gd, RdK_some, WrK_some, CallK_ret, CallV_func, GdS_tt, GdS_tf, GdS_ft, GdS_ff, GdA_tt, GdA_tf, GdA_ft, GdA_ff, evR, lenV_slc, lenV_tail, lenV_str, iaV_slc, evX, AO.ev, Fr.put_some, Fr.put_none, Fr.at_set, Fr.at_ofArgs, List.getD_cons_zero, List.getD_cons_succ, List.getD_nil, binV, intOp, strOp, AV.cells, AHeap.cell_new, AHeap.range_new, AHeap.cell_old, AHeap.range_old, AHeap.get_new, AHeap.get_old, AHeap.put_new, AHeap.lt_new, AHeap.lt_alloc, AHeap.wf_alloc, AHeap.base_new, AHeap.base_alloc, evRVs, evRV, tup, List.map_cons, List.map_nil, List.cons_append, List.nil_append, List.append_nil, List.getElem?_cons_zero, List.getElem?_cons_succ, Nat.zero_add, Option.map_some, Option.map_none, if_true, if_false, ↓reduceIte, Bool.false_eq_true, eq_self, Bool.not_false, Bool.not_true, decide_true, decide_false, hb]
        exact .same (.refl _) (by simp [AV.ok, AV.okL]) (h i _ (by omega) hlo fun k hk hik => hhi k hk (by omega))
      · have hI2 : ¬ (i : Int) < (l.length : Int) := by omega
        simp (decide := true) only [WP_skip, WP_ops, WP_seq, WP_block, WP_exit, WP_ret, WP_cond, CdC_true, CdC_false, seqQ_normal, seqQ_exit, seqQ_ret, seqQ_pan, blkQ_normal, blkQ_exit, blkQ_ret, blkQ_pan, bodyQ_ret, bodyQ_normal, bodyQ_pan, bodyK_some, WP_aops, WPa_nil, WPa_wr, WrA_new, CallA_new, WPa_rd, WPa_call, WPa_callv, WPa_gd, RdA_some, CallA_ret, WPs_nil, WPs_rd, WPs_wr, WPs_call, WPs_callv, WPs_gd, RdK_some, WrK_some, CallK_ret, CallV_func, GdS_tt, GdS_tf, GdS_ft, GdS_ff, GdA_tt, GdA_tf, GdA_ft, GdA_ff, evR, lenV_slc, lenV_tail, lenV_str, iaV_slc, evX, AO.ev, Fr.put_some, Fr.put_none, Fr.at_set, Fr.at_ofArgs, List.getD_cons_zero, List.getD_cons_succ, List.getD_nil, binV, intOp, strOp, AV.cells, AHeap.cell_new, AHeap.range_new, AHeap.cell_old, AHeap.range_old, AHeap.get_new, AHeap.get_old, AHeap.put_new, AHeap.lt_new, AHeap.lt_alloc, AHeap.wf_alloc, AHeap.base_new, AHeap.base_alloc, evRVs, evRV, tup, List.map_cons, List.map_nil, List.cons_append, List.nil_append, List.append_nil, List.getElem?_cons_zero, List.getElem?_cons_succ, Nat.zero_add, Option.map_some, Option.map_none, if_true, if_false, ↓reduceIte, Bool.false_eq_true, eq_self, Bool.not_false, Bool.not_true, decide_true, decide_false, hb, h0, h1, h2, h8, h9, h10, hI, decide_false, hI2]
        exact .same (.refl _) (by simp [AV.ok, AV.okL]) (h i _ (by omega) hlo fun k hk hik => hhi k hk (by omega))

/-- What a slice's room is known of. -/
def SC (H : AHeap) (sz : Nat) (p : Nat × Nat) (n : Nat) : Nat ⊕ Nat → Prop
  | .inl c => n ≤ c
  | .inr k => ∃ cs, H.get p.1 = some (.cells cs (some sz)) ∧ p.2 = k * sz ∧ p.2 + n * sz ≤ cs.length
theorem SC.trans {H H' : AHeap} {sz : Nat} {p : Nat × Nat} {n : Nat} {c : Nat ⊕ Nat} (h : SC H sz p n c) (hp : p.1 < H.next) (hle : H.Le H') : SC H' sz p n c := by
  cases c with
  | inl c => exact h
  | inr k => obtain ⟨cs, h1, h2⟩ := h; exact ⟨cs, by rw [hle.get _ hp]; exact h1, h2⟩
/-- s[:i:i] -/
theorem sl_head {H : AHeap} {sz : Nat} {p : Nat × Nat} {n : Nat} {c : Nat ⊕ Nat} (h : SC H sz p n c) (hsz : 0 < sz) {i : Nat} (hi : i ≤ n) {k1 k2 : IntKind} :
    slV H sz (.slice (some p) n c) none (some (.int k1 i)) (some (.int k2 i)) = some (.slice (some p) i (.inl i)) := by
  cases c with
  | inl c =>
    have h' : n ≤ c := h
    have a1 : (i : Int) ≤ (c : Int) := by omega
    simp only [slV, slX, bnd]
    simp [a1]
  | inr k =>
    obtain ⟨cs, h1, h2, h3⟩ := h
    have a1 : (i : Int) ≤ (n : Int) := by omega
    simp only [slV, slI, h1, bnd]
    rw [if_pos ⟨trivial, hsz, h2, h3⟩]
    simp [a1]
/-- s[i:] -/
theorem sl_tail {H : AHeap} {sz : Nat} {p : Nat × Nat} {n : Nat} {c : Nat ⊕ Nat} (h : SC H sz p n c) (hsz : 0 < sz) {cs : List AV} (hr : H.range p (n * sz) = some cs) {i : Nat} (hi : i ≤ n) {k1 : IntKind} :
    ∃ v, slV H sz (.slice (some p) n c) (some (.int k1 i)) none none = some v ∧ srcOf H sz v = some (n - i, (cs.drop (i * sz)).take ((n - i) * sz)) := by
  have hle : i * sz ≤ n * sz := Nat.mul_le_mul_right _ hi
  have hsub : (n - i) * sz = n * sz - i * sz := Nat.sub_mul ..
  cases c with
  | inl c =>
    have h' : n ≤ c := h
    have a1 : (i : Int) ≤ (n : Int) := by omega
    have a2 : n ≤ c := h'
    refine ⟨.slice (some (if c = i then p else (p.1, p.2 + i * sz))) (n - i) (.inl (c - i)), ?_, ?_⟩
    · simp only [slV, slX, bnd]
      by_cases e : c = i <;> simp [a1, e]
    · by_cases e : c = i
      · have : n - i = 0 := by omega
        have h0 := AHeap.range_part (off := 0) (m := 0) hr (by omega)
        simp only [srcOf, e, if_true, this, Nat.zero_mul, List.take_zero]
        have hh : H.range p 0 = some [] := by simpa using h0
        rw [hh]; rfl
      · simp only [srcOf, if_neg e]
        rw [AHeap.range_part hr (by omega)]; rfl
  | inr k =>
    obtain ⟨cs', h1, h2, h3⟩ := h
    have a1 : (i : Int) ≤ (n : Int) := by omega
    by_cases e : i < n
    · refine ⟨.slice (some (p.1, p.2 + i * sz)) (n - i) (.inr (k + i)), ?_, ?_⟩
      · simp only [slV, slI, h1, bnd]
        rw [if_pos ⟨trivial, hsz, h2, h3⟩]
        simp [a1, e]
      · simp only [srcOf]
        rw [AHeap.range_part hr (by omega)]; rfl
    · refine ⟨.tail p n sz k, ?_, ?_⟩
      · simp only [slV, slI, h1, bnd]
        rw [if_pos ⟨trivial, hsz, h2, h3⟩]
        simp [a1, e]
      · have : n - i = 0 := by omega
        simp [srcOf, this]
end Go.AM
