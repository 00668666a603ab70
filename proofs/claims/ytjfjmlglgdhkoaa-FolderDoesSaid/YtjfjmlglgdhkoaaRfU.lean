/- The document's texts: a rune's bytes. -/
import Derived.Test.YtjfjmlglgdhkoaaFdU
namespace Go.AM
open Go Go.Proofs
set_option linter.unusedSimpArgs false
set_option linter.unusedVariables false
set_option maxRecDepth 100000
set_option maxHeartbeats 8000000

section
variable {P : Program} {l : List Stp} {K : Fr → AHeap → Prop} {Kp : AV → AHeap → Prop} {t : Fr} {H : AHeap} {d : Option Nat}
theorem GdS_u {op : CO} {want : Bool} : GdS P l K Kp t H d op want undefA = WPs P l K Kp (Fr.put t d undefA) H := Eq.trans rfl rfl
theorem GdA_u {op : CO} {want : Bool} : GdA P l K Kp t H d op want undefA = WPa P l K Kp (Fr.put t d undefA) H := Eq.trans rfl rfl
end

/-- A rune's bytes, none of one that is none. -/
def bytesR (r : Int) : List Nat :=
  if r < 1 ∨ 1114111 < r ∨ (55296 ≤ r ∧ r ≤ 57343) then [] else
  if r < 128 then [r.toNat] else
  if r < 2048 then [192 + r.toNat / 64, 128 + r.toNat % 64] else
  if r < 65536 then [224 + r.toNat / 4096, 128 + r.toNat / 64 % 64, 128 + r.toNat % 64] else
  [240 + r.toNat / 262144, 128 + r.toNat / 4096 % 64, 128 + r.toNat / 64 % 64, 128 + r.toNat % 64]
theorem u8_nat (c : Nat) (h : c < 256) : IntKind.u8.wrap (c : Int) = (c : Int) := by
  show (c : Int) % (2 ^ 8 : Int) = _
  omega
theorem fil1 (x : Int) : fillA [.int .u8 0] [(0, 1, .int .u8 x)] = some [.int .u8 x] := rfl
theorem fil2 (x y : Int) : fillA [.int .u8 0, .int .u8 0] [(0, 1, .int .u8 x), (1, 1, .int .u8 y)] = some [.int .u8 x, .int .u8 y] := rfl
theorem fil3 (x y z : Int) : fillA [.int .u8 0, .int .u8 0, .int .u8 0] [(0, 1, .int .u8 x), (1, 1, .int .u8 y), (2, 1, .int .u8 z)] = some [.int .u8 x, .int .u8 y, .int .u8 z] := rfl
theorem fil4 (x y z u : Int) : fillA [.int .u8 0, .int .u8 0, .int .u8 0, .int .u8 0] [(0, 1, .int .u8 x), (1, 1, .int .u8 y), (2, 1, .int .u8 z), (3, 1, .int .u8 u)] = some [.int .u8 x, .int .u8 y, .int .u8 z, .int .u8 u] := rfl
theorem okL_bsA (n : Nat) (l : List Nat) : AV.okL n (bsA l) := by
  rw [AV.okL_iff]; intro v hv
  obtain ⟨x, _, rfl⟩ := List.mem_map.1 hv
  trivial

theorem f76 {H : AHeap} {Q : AE → AHeap → Prop} {r : Int}
    (h : if bytesR r = [] then Q (.ret (.slice none 0 (.inl 0))) H else Q (.ret (.slice (some (H.next, 0)) (bytesR r).length (.inl (bytesR r).length))) (H.alloc (.cells (bsA (bytesR r)) none))) : ACall Try.prog 76 [.int .i32 r] H Q := by
  refine ACall.comp [] mixed (by decide +kernel) fun F hF' => ?_
  cbv at hF'
  cases hF'
  refine ⟨by simp, fun hb ha => ?_⟩
  by_cases hbad : r < 1 ∨ 1114111 < r ∨ (55296 ≤ r ∧ r ≤ 57343)
  · have hn : bytesR r = [] := by rw [bytesR, if_pos hbad]
    rw [if_pos hn] at h
    have fin : Gc H Q (.ret (.slice none 0 (.inl 0))) H := .this h
    by_cases c1 : r < 1
    · have e1 : decide (r < 1) = true := by simpa using c1
      simp (decide := true) only [WP_skip, WP_ops, WP_seq, WP_block, WP_exit, WP_ret, WP_cond, CdC_true, CdC_false, seqQ_normal, seqQ_exit, seqQ_ret, seqQ_pan, blkQ_normal, blkQ_exit, blkQ_ret, blkQ_pan, bodyQ_ret, bodyQ_normal, bodyQ_pan, bodyK_some, WP_aops, WPa_nil, WPa_wr, WrA_new, CallA_new, WPa_rd, WPa_call, WPa_callv, WPa_gd, RdA_some, CallA_ret, WPs_nil, WPs_rd, WPs_wr, WPs_call, WPs_callv, WPs_gd, RdK_some, WrK_some, CallK_ret, CallV_func, GdS_tt, GdS_tf, GdS_ft, GdS_ff, GdA_tt, GdA_tf, GdA_ft, GdA_ff, evR, lenV_slc, lenV_tail, lenV_str, iaV_slc, evX, AO.ev, Fr.put_some, Fr.put_none, Fr.at_set, Fr.at_ofArgs, List.getD_cons_zero, List.getD_cons_succ, List.getD_nil, binV, intOp, strOp, AV.cells, AHeap.cell_new, AHeap.range_new, AHeap.cell_old, AHeap.range_old, AHeap.get_new, AHeap.get_old, AHeap.put_new, AHeap.lt_new, AHeap.lt_alloc, AHeap.wf_alloc, AHeap.base_new, AHeap.base_alloc, evRVs, evRV, tup, List.map_cons, List.map_nil, List.cons_append, List.nil_append, List.append_nil, List.getElem?_cons_zero, List.getElem?_cons_succ, Nat.zero_add, Option.map_some, Option.map_none, if_true, if_false, ↓reduceIte, Bool.false_eq_true, eq_self, Bool.not_false, Bool.not_true, decide_true, decide_false, hb, GdS_u, e1]
      exact fin
    · have e1 : decide (r < 1) = false := by simpa using c1
      by_cases c2 : 1114111 < r
      · have e2 : decide (r > 1114111) = true := by simpa using c2
        simp (decide := true) only [WP_skip, WP_ops, WP_seq, WP_block, WP_exit, WP_ret, WP_cond, CdC_true, CdC_false, seqQ_normal, seqQ_exit, seqQ_ret, seqQ_pan, blkQ_normal, blkQ_exit, blkQ_ret, blkQ_pan, bodyQ_ret, bodyQ_normal, bodyQ_pan, bodyK_some, WP_aops, WPa_nil, WPa_wr, WrA_new, CallA_new, WPa_rd, WPa_call, WPa_callv, WPa_gd, RdA_some, CallA_ret, WPs_nil, WPs_rd, WPs_wr, WPs_call, WPs_callv, WPs_gd, RdK_some, WrK_some, CallK_ret, CallV_func, GdS_tt, GdS_tf, GdS_ft, GdS_ff, GdA_tt, GdA_tf, GdA_ft, GdA_ff, evR, lenV_slc, lenV_tail, lenV_str, iaV_slc, evX, AO.ev, Fr.put_some, Fr.put_none, Fr.at_set, Fr.at_ofArgs, List.getD_cons_zero, List.getD_cons_succ, List.getD_nil, binV, intOp, strOp, AV.cells, AHeap.cell_new, AHeap.range_new, AHeap.cell_old, AHeap.range_old, AHeap.get_new, AHeap.get_old, AHeap.put_new, AHeap.lt_new, AHeap.lt_alloc, AHeap.wf_alloc, AHeap.base_new, AHeap.base_alloc, evRVs, evRV, tup, List.map_cons, List.map_nil, List.cons_append, List.nil_append, List.append_nil, List.getElem?_cons_zero, List.getElem?_cons_succ, Nat.zero_add, Option.map_some, Option.map_none, if_true, if_false, ↓reduceIte, Bool.false_eq_true, eq_self, Bool.not_false, Bool.not_true, decide_true, decide_false, hb, GdS_u, e1, e2]
        exact fin
      · have e2 : decide (r > 1114111) = false := by simpa using c2
        have e3 : decide (r ≥ 55296) = true := by simp; omega
        have e4 : decide (r ≤ 57343) = true := by simp; omega
        simp (decide := true) only [WP_skip, WP_ops, WP_seq, WP_block, WP_exit, WP_ret, WP_cond, CdC_true, CdC_false, seqQ_normal, seqQ_exit, seqQ_ret, seqQ_pan, blkQ_normal, blkQ_exit, blkQ_ret, blkQ_pan, bodyQ_ret, bodyQ_normal, bodyQ_pan, bodyK_some, WP_aops, WPa_nil, WPa_wr, WrA_new, CallA_new, WPa_rd, WPa_call, WPa_callv, WPa_gd, RdA_some, CallA_ret, WPs_nil, WPs_rd, WPs_wr, WPs_call, WPs_callv, WPs_gd, RdK_some, WrK_some, CallK_ret, CallV_func, GdS_tt, GdS_tf, GdS_ft, GdS_ff, GdA_tt, GdA_tf, GdA_ft, GdA_ff, evR, lenV_slc, lenV_tail, lenV_str, iaV_slc, evX, AO.ev, Fr.put_some, Fr.put_none, Fr.at_set, Fr.at_ofArgs, List.getD_cons_zero, List.getD_cons_succ, List.getD_nil, binV, intOp, strOp, AV.cells, AHeap.cell_new, AHeap.range_new, AHeap.cell_old, AHeap.range_old, AHeap.get_new, AHeap.get_old, AHeap.put_new, AHeap.lt_new, AHeap.lt_alloc, AHeap.wf_alloc, AHeap.base_new, AHeap.base_alloc, evRVs, evRV, tup, List.map_cons, List.map_nil, List.cons_append, List.nil_append, List.append_nil, List.getElem?_cons_zero, List.getElem?_cons_succ, Nat.zero_add, Option.map_some, Option.map_none, if_true, if_false, ↓reduceIte, Bool.false_eq_true, eq_self, Bool.not_false, Bool.not_true, decide_true, decide_false, hb, GdS_u, e1, e2, e3, e4]
        exact fin
  · obtain ⟨m, rfl⟩ : ∃ m : Nat, r = (m : Int) := ⟨r.toNat, by omega⟩
    have hne : bytesR (m : Int) ≠ [] := by
      rw [bytesR, if_neg hbad]
      split
      · simp
      · split
        · simp
        · split <;> simp
    rw [if_neg hne] at h
    have hb0 : bytesR (m : Int) = if (m : Int) < 128 then [m] else if (m : Int) < 2048 then [192 + m / 64, 128 + m % 64] else if (m : Int) < 65536 then [224 + m / 4096, 128 + m / 64 % 64, 128 + m % 64] else [240 + m / 262144, 128 + m / 4096 % 64, 128 + m / 64 % 64, 128 + m % 64] := by
      rw [bytesR, if_neg hbad]; rfl
    have e1 : decide ((m : Int) < 1) = false := by simp; omega
    have e2 : decide ((m : Int) > 1114111) = false := by simp; omega
    have e3 : decide ((m : Int) ≥ 55296) = false ∨ (decide ((m : Int) ≥ 55296) = true ∧ decide ((m : Int) ≤ 57343) = false) := by
      simp only [decide_eq_false_iff_not, decide_eq_true_eq]; omega
    have hm : m < 1114112 := by omega
    have fin : ∀ (n : Nat) (cs : List AV), bsA (bytesR (m : Int)) = cs → (bytesR (m : Int)).length = n → Gc H Q (.ret (.slice (some (H.next, 0)) n (.inl n))) (H.alloc (.cells cs none)) := fun n cs h1 h2 => by
      subst h1 h2
      exact .this h
    have d64 : (m : Int).tdiv 64 = ((m / 64 : Nat) : Int) := by rw [Int.tdiv_eq_ediv_of_nonneg (by omega)]; omega
    have d4k : (m : Int).tdiv 4096 = ((m / 4096 : Nat) : Int) := by rw [Int.tdiv_eq_ediv_of_nonneg (by omega)]; omega
    have d26 : (m : Int).tdiv 262144 = ((m / 262144 : Nat) : Int) := by rw [Int.tdiv_eq_ediv_of_nonneg (by omega)]; omega
    have r64 : ∀ x : Nat, (x : Int).tmod 64 = ((x % 64 : Nat) : Int) := fun x => by rw [Int.tmod_eq_emod_of_nonneg (by omega)]; omega
    have w64 : IntKind.i32.wrap ((m / 64 : Nat) : Int) = ((m / 64 : Nat) : Int) := i32_nat _ (by omega)
    have w4k : IntKind.i32.wrap ((m / 4096 : Nat) : Int) = ((m / 4096 : Nat) : Int) := i32_nat _ (by omega)
    have w26 : IntKind.i32.wrap ((m / 262144 : Nat) : Int) = ((m / 262144 : Nat) : Int) := i32_nat _ (by omega)
    have a128 : ∀ x : Nat, IntKind.i32.wrap (128 + ((x % 64 : Nat) : Int)) = ((128 + x % 64 : Nat) : Int) := fun x => by
      rw [show 128 + ((x % 64 : Nat) : Int) = ((128 + x % 64 : Nat) : Int) by omega]; exact i32_nat _ (by omega)
    have u128 : ∀ x : Nat, IntKind.u8.wrap ((128 + x % 64 : Nat) : Int) = ((128 + x % 64 : Nat) : Int) := fun x => u8_nat _ (by omega)
    rcases e3 with e3 | ⟨e3, e4⟩
    · by_cases c1 : (m : Int) < 128
      · have k1 : decide ((m : Int) < 128) = true := by simpa using c1
        rw [if_pos c1] at hb0
        simp (decide := true) only [WP_skip, WP_ops, WP_seq, WP_block, WP_exit, WP_ret, WP_cond, CdC_true, CdC_false, seqQ_normal, seqQ_exit, seqQ_ret, seqQ_pan, blkQ_normal, blkQ_exit, blkQ_ret, blkQ_pan, bodyQ_ret, bodyQ_normal, bodyQ_pan, bodyK_some, WP_aops, WPa_nil, WPa_wr, WrA_new, CallA_new, WPa_rd, WPa_call, WPa_callv, WPa_gd, RdA_some, CallA_ret, WPs_nil, WPs_rd, WPs_wr, WPs_call, WPs_callv, WPs_gd, RdK_some, WrK_some, CallK_ret, CallV_func, GdS_tt, GdS_tf, GdS_ft, GdS_ff, GdA_tt, GdA_tf, GdA_ft, GdA_ff, evR, lenV_slc, lenV_tail, lenV_str, iaV_slc, evX, AO.ev, Fr.put_some, Fr.put_none, Fr.at_set, Fr.at_ofArgs, List.getD_cons_zero, List.getD_cons_succ, List.getD_nil, binV, intOp, strOp, AV.cells, AHeap.cell_new, AHeap.range_new, AHeap.cell_old, AHeap.range_old, AHeap.get_new, AHeap.get_old, AHeap.put_new, AHeap.lt_new, AHeap.lt_alloc, AHeap.wf_alloc, AHeap.base_new, AHeap.base_alloc, evRVs, evRV, tup, List.map_cons, List.map_nil, List.cons_append, List.nil_append, List.append_nil, List.getElem?_cons_zero, List.getElem?_cons_succ, Nat.zero_add, Option.map_some, Option.map_none, if_true, if_false, ↓reduceIte, Bool.false_eq_true, eq_self, Bool.not_false, Bool.not_true, decide_true, decide_false, hb, GdS_u, e1, e2, e3, k1, u8_nat m (by omega), fil1]
        exact fin 1 _ (by rw [hb0]; rfl) (by rw [hb0]; rfl)
      · have k1 : decide ((m : Int) < 128) = false := by simpa using c1
        rw [if_neg c1] at hb0
        by_cases c2 : (m : Int) < 2048
        · have k2 : decide ((m : Int) < 2048) = true := by simpa using c2
          rw [if_pos c2] at hb0
          have a192 : IntKind.i32.wrap (192 + ((m / 64 : Nat) : Int)) = ((192 + m / 64 : Nat) : Int) := by
            rw [show 192 + ((m / 64 : Nat) : Int) = ((192 + m / 64 : Nat) : Int) by omega]; exact i32_nat _ (by omega)
          have u192 := u8_nat (192 + m / 64) (by omega)
          simp (decide := true) only [WP_skip, WP_ops, WP_seq, WP_block, WP_exit, WP_ret, WP_cond, CdC_true, CdC_false, seqQ_normal, seqQ_exit, seqQ_ret, seqQ_pan, blkQ_normal, blkQ_exit, blkQ_ret, blkQ_pan, bodyQ_ret, bodyQ_normal, bodyQ_pan, bodyK_some, WP_aops, WPa_nil, WPa_wr, WrA_new, CallA_new, WPa_rd, WPa_call, WPa_callv, WPa_gd, RdA_some, CallA_ret, WPs_nil, WPs_rd, WPs_wr, WPs_call, WPs_callv, WPs_gd, RdK_some, WrK_some, CallK_ret, CallV_func, GdS_tt, GdS_tf, GdS_ft, GdS_ff, GdA_tt, GdA_tf, GdA_ft, GdA_ff, evR, lenV_slc, lenV_tail, lenV_str, iaV_slc, evX, AO.ev, Fr.put_some, Fr.put_none, Fr.at_set, Fr.at_ofArgs, List.getD_cons_zero, List.getD_cons_succ, List.getD_nil, binV, intOp, strOp, AV.cells, AHeap.cell_new, AHeap.range_new, AHeap.cell_old, AHeap.range_old, AHeap.get_new, AHeap.get_old, AHeap.put_new, AHeap.lt_new, AHeap.lt_alloc, AHeap.wf_alloc, AHeap.base_new, AHeap.base_alloc, evRVs, evRV, tup, List.map_cons, List.map_nil, List.cons_append, List.nil_append, List.append_nil, List.getElem?_cons_zero, List.getElem?_cons_succ, Nat.zero_add, Option.map_some, Option.map_none, if_true, if_false, ↓reduceIte, Bool.false_eq_true, eq_self, Bool.not_false, Bool.not_true, decide_true, decide_false, hb, GdS_u, e1, e2, e3, k1, k2, d64, r64, w64, a192, u192, a128, u128, fil2]
          exact fin 2 _ (by rw [hb0]; rfl) (by rw [hb0]; rfl)
        · have k2 : decide ((m : Int) < 2048) = false := by simpa using c2
          rw [if_neg c2] at hb0
          have c3 : (m : Int) < 65536 := by simp at e3; omega
          have k3 : decide ((m : Int) < 65536) = true := by simpa using c3
          rw [if_pos c3] at hb0
          have a224 : IntKind.i32.wrap (224 + ((m / 4096 : Nat) : Int)) = ((224 + m / 4096 : Nat) : Int) := by
            rw [show 224 + ((m / 4096 : Nat) : Int) = ((224 + m / 4096 : Nat) : Int) by omega]; exact i32_nat _ (by omega)
          have u224 := u8_nat (224 + m / 4096) (by omega)
          simp (decide := true) only [WP_skip, WP_ops, WP_seq, WP_block, WP_exit, WP_ret, WP_cond, CdC_true, CdC_false, seqQ_normal, seqQ_exit, seqQ_ret, seqQ_pan, blkQ_normal, blkQ_exit, blkQ_ret, blkQ_pan, bodyQ_ret, bodyQ_normal, bodyQ_pan, bodyK_some, WP_aops, WPa_nil, WPa_wr, WrA_new, CallA_new, WPa_rd, WPa_call, WPa_callv, WPa_gd, RdA_some, CallA_ret, WPs_nil, WPs_rd, WPs_wr, WPs_call, WPs_callv, WPs_gd, RdK_some, WrK_some, CallK_ret, CallV_func, GdS_tt, GdS_tf, GdS_ft, GdS_ff, GdA_tt, GdA_tf, GdA_ft, GdA_ff, evR, lenV_slc, lenV_tail, lenV_str, iaV_slc, evX, AO.ev, Fr.put_some, Fr.put_none, Fr.at_set, Fr.at_ofArgs, List.getD_cons_zero, List.getD_cons_succ, List.getD_nil, binV, intOp, strOp, AV.cells, AHeap.cell_new, AHeap.range_new, AHeap.cell_old, AHeap.range_old, AHeap.get_new, AHeap.get_old, AHeap.put_new, AHeap.lt_new, AHeap.lt_alloc, AHeap.wf_alloc, AHeap.base_new, AHeap.base_alloc, evRVs, evRV, tup, List.map_cons, List.map_nil, List.cons_append, List.nil_append, List.append_nil, List.getElem?_cons_zero, List.getElem?_cons_succ, Nat.zero_add, Option.map_some, Option.map_none, if_true, if_false, ↓reduceIte, Bool.false_eq_true, eq_self, Bool.not_false, Bool.not_true, decide_true, decide_false, hb, GdS_u, e1, e2, e3, k1, k2, k3, d64, d4k, r64, w64, w4k, a224, u224, a128, u128, fil3]
          exact fin 3 _ (by rw [hb0]; rfl) (by rw [hb0]; rfl)
    · have k1 : decide ((m : Int) < 128) = false := by simp at e3 ⊢; omega
      have k2 : decide ((m : Int) < 2048) = false := by simp at e3 ⊢; omega
      rw [if_neg (by simpa using k1), if_neg (by simpa using k2)] at hb0
      by_cases c3 : (m : Int) < 65536
      · have k3 : decide ((m : Int) < 65536) = true := by simpa using c3
        rw [if_pos c3] at hb0
        have a224 : IntKind.i32.wrap (224 + ((m / 4096 : Nat) : Int)) = ((224 + m / 4096 : Nat) : Int) := by
          rw [show 224 + ((m / 4096 : Nat) : Int) = ((224 + m / 4096 : Nat) : Int) by omega]; exact i32_nat _ (by omega)
        have u224 := u8_nat (224 + m / 4096) (by omega)
        simp (decide := true) only [WP_skip, WP_ops, WP_seq, WP_block, WP_exit, WP_ret, WP_cond, CdC_true, CdC_false, seqQ_normal, seqQ_exit, seqQ_ret, seqQ_pan, blkQ_normal, blkQ_exit, blkQ_ret, blkQ_pan, bodyQ_ret, bodyQ_normal, bodyQ_pan, bodyK_some, WP_aops, WPa_nil, WPa_wr, WrA_new, CallA_new, WPa_rd, WPa_call, WPa_callv, WPa_gd, RdA_some, CallA_ret, WPs_nil, WPs_rd, WPs_wr, WPs_call, WPs_callv, WPs_gd, RdK_some, WrK_some, CallK_ret, CallV_func, GdS_tt, GdS_tf, GdS_ft, GdS_ff, GdA_tt, GdA_tf, GdA_ft, GdA_ff, evR, lenV_slc, lenV_tail, lenV_str, iaV_slc, evX, AO.ev, Fr.put_some, Fr.put_none, Fr.at_set, Fr.at_ofArgs, List.getD_cons_zero, List.getD_cons_succ, List.getD_nil, binV, intOp, strOp, AV.cells, AHeap.cell_new, AHeap.range_new, AHeap.cell_old, AHeap.range_old, AHeap.get_new, AHeap.get_old, AHeap.put_new, AHeap.lt_new, AHeap.lt_alloc, AHeap.wf_alloc, AHeap.base_new, AHeap.base_alloc, evRVs, evRV, tup, List.map_cons, List.map_nil, List.cons_append, List.nil_append, List.append_nil, List.getElem?_cons_zero, List.getElem?_cons_succ, Nat.zero_add, Option.map_some, Option.map_none, if_true, if_false, ↓reduceIte, Bool.false_eq_true, eq_self, Bool.not_false, Bool.not_true, decide_true, decide_false, hb, GdS_u, e1, e2, e3, e4, k1, k2, k3, d64, d4k, r64, w64, w4k, a224, u224, a128, u128, fil3]
        exact fin 3 _ (by rw [hb0]; rfl) (by rw [hb0]; rfl)
      · have k3 : decide ((m : Int) < 65536) = false := by simpa using c3
        rw [if_neg c3] at hb0
        have a240 : IntKind.i32.wrap (240 + ((m / 262144 : Nat) : Int)) = ((240 + m / 262144 : Nat) : Int) := by
          rw [show 240 + ((m / 262144 : Nat) : Int) = ((240 + m / 262144 : Nat) : Int) by omega]; exact i32_nat _ (by omega)
        have u240 := u8_nat (240 + m / 262144) (by omega)
        simp (decide := true) only [WP_skip, WP_ops, WP_seq, WP_block, WP_exit, WP_ret, WP_cond, CdC_true, CdC_false, seqQ_normal, seqQ_exit, seqQ_ret, seqQ_pan, blkQ_normal, blkQ_exit, blkQ_ret, blkQ_pan, bodyQ_ret, bodyQ_normal, bodyQ_pan, bodyK_some, WP_aops, WPa_nil, WPa_wr, WrA_new, CallA_new, WPa_rd, WPa_call, WPa_callv, WPa_gd, RdA_some, CallA_ret, WPs_nil, WPs_rd, WPs_wr, WPs_call, WPs_callv, WPs_gd, RdK_some, WrK_some, CallK_ret, CallV_func, GdS_tt, GdS_tf, GdS_ft, GdS_ff, GdA_tt, GdA_tf, GdA_ft, GdA_ff, evR, lenV_slc, lenV_tail, lenV_str, iaV_slc, evX, AO.ev, Fr.put_some, Fr.put_none, Fr.at_set, Fr.at_ofArgs, List.getD_cons_zero, List.getD_cons_succ, List.getD_nil, binV, intOp, strOp, AV.cells, AHeap.cell_new, AHeap.range_new, AHeap.cell_old, AHeap.range_old, AHeap.get_new, AHeap.get_old, AHeap.put_new, AHeap.lt_new, AHeap.lt_alloc, AHeap.wf_alloc, AHeap.base_new, AHeap.base_alloc, evRVs, evRV, tup, List.map_cons, List.map_nil, List.cons_append, List.nil_append, List.append_nil, List.getElem?_cons_zero, List.getElem?_cons_succ, Nat.zero_add, Option.map_some, Option.map_none, if_true, if_false, ↓reduceIte, Bool.false_eq_true, eq_self, Bool.not_false, Bool.not_true, decide_true, decide_false, hb, GdS_u, e1, e2, e3, e4, k1, k2, k3, d64, d4k, d26, r64, w64, w4k, w26, a240, u240, a128, u128, fil4]
        exact fin 4 _ (by rw [hb0]; rfl) (by rw [hb0]; rfl)
end Go.AM
