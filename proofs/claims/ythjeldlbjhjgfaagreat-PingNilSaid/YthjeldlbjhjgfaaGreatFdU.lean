/- Texts: a rune at the beginning of bytes; how many bytes are runes'; whether a text may be a name. -/
import Derived.Test.YthjeldlbjhjgfaaGreatFdB
namespace Go.AM
open Go Go.Proofs
set_option linter.unusedSimpArgs false
set_option linter.unusedVariables false
set_option maxRecDepth 100000

def begunF (c : Nat) : Nat × Nat × Nat :=
  if c < 128 then (1, c, 1) else if c / 32 = 6 then (2, c % 32, 128) else if c / 16 = 14 then (3, c % 16, 2048) else if c / 8 = 30 then (4, c % 8, 65536) else (0, 0, 0)

theorem and_mask (c : Nat) (m : Int) (k : Nat) (hc : c < 256) (hm : m = ((2 ^ k - 1 : Nat) : Int)) (hk : k ≤ 7) : IntKind.u8.wrap (((BitVec.ofInt IntKind.u8.bits (c : Int) &&& BitVec.ofInt IntKind.u8.bits m).toNat : Nat) : Int) = ((c % 2 ^ k : Nat) : Int) := by
  have h2 : (2 : Nat) ^ k ≤ 2 ^ 7 := Nat.pow_le_pow_right (by omega) hk
  have e1 : (BitVec.ofInt IntKind.u8.bits (c : Int)).toNat = c := by
    show (BitVec.ofInt 8 (c : Int)).toNat = c
    rw [BitVec.ofInt_natCast, BitVec.toNat_ofNat]; omega
  have e2 : (BitVec.ofInt IntKind.u8.bits m).toNat = 2 ^ k - 1 := by
    show (BitVec.ofInt 8 m).toNat = _
    rw [hm, BitVec.ofInt_natCast, BitVec.toNat_ofNat]; omega
  rw [BitVec.toNat_and, e1, e2, Nat.and_two_pow_sub_one_eq_mod]
  have : c % 2 ^ k ≤ c := Nat.mod_le _ _
  show ((c % 2 ^ k : Nat) : Int) % (2 ^ 8 : Int) = _
  omega
theorem i32_nat (c : Nat) (h : c < 2147483648) : IntKind.i32.wrap (c : Int) = (c : Int) := by
  rw [IntKind.wrap_i32]; omega
theorem shr_nat (k : IntKind) (c : Nat) (j : Int) (n : Nat) (hjn : j = (n : Int)) (hj : n ≤ k.bits) : shOp .shr k (c : Int) j = some (.int k ((c / 2 ^ n : Nat) : Int)) := by
  unfold shOp
  subst hjn
  rw [if_neg (by omega)]
  simp only [Int.toNat_natCast, Nat.min_eq_left hj]
  rw [Int.fdiv_eq_ediv_of_nonneg _ (by exact_mod_cast Nat.zero_le _)]
  simp
theorem or_low (q y : Nat) (hq : q < 33554432) (hy : y < 64) : IntKind.i32.wrap (((BitVec.ofInt IntKind.i32.bits ((q * 64 : Nat) : Int) ||| BitVec.ofInt IntKind.i32.bits (y : Int)).toNat : Nat) : Int) = ((q * 64 + y : Nat) : Int) := by
  have e1 : (BitVec.ofInt IntKind.i32.bits ((q * 64 : Nat) : Int)).toNat = q * 64 := by
    show (BitVec.ofInt 32 ((q * 64 : Nat) : Int)).toNat = _
    rw [BitVec.ofInt_natCast, BitVec.toNat_ofNat]; omega
  have e2 : (BitVec.ofInt IntKind.i32.bits (y : Int)).toNat = y := by
    show (BitVec.ofInt 32 (y : Int)).toNat = _
    rw [BitVec.ofInt_natCast, BitVec.toNat_ofNat]; omega
  have e3 : q * 64 ||| y = q * 64 + y := by
    have := Nat.two_pow_add_eq_or_of_lt (i := 6) (b := y) (by omega) q
    rw [Nat.mul_comm q 64]
    exact this.symm
  rw [BitVec.toNat_or, e1, e2, e3, i32_nat _ (by omega)]

theorem f107 {H : AHeap} {Q : AE → AHeap → Prop} {c : Nat} (hc : c < 256) (h : Q (.ret (.tuple [.int .i64 (begunF c).1, .int .i32 (begunF c).2.1, .int .i32 (begunF c).2.2])) H) :
    ACall Tryz.prog 107 [.int .u8 c] H Q := by
  refine ACall.comp [] mixed (by decide +kernel) fun F hF' => ?_
  cbv at hF'
  cases hF'
  refine ⟨by simp, fun hb ha => ?_⟩
  have m31 := and_mask c 31 5 hc rfl (by omega)
  have m15 := and_mask c 15 4 hc rfl (by omega)
  have m7 := and_mask c 7 3 hc rfl (by omega)
  have s5 := shr_nat .u8 c 5 5 rfl (by decide)
  have s4 := shr_nat .u8 c 4 4 rfl (by decide)
  have s3 := shr_nat .u8 c 3 3 rfl (by decide)
  unfold begunF at h
  by_cases h1 : c < 128
  · have h1' : (c : Int) < 128 := by omega
    simp (decide := true) only [WP_skip, WP_ops, WP_seq, WP_block, WP_exit, WP_ret, WP_cond, CdC_true, CdC_false, seqQ_normal, seqQ_exit, seqQ_ret, seqQ_pan, blkQ_normal, blkQ_exit, blkQ_ret, blkQ_pan, bodyQ_ret, bodyQ_normal, bodyQ_pan, bodyK_some, WP_aops, WPa_nil, WPa_wr, WrA_new, CallA_new, WPa_rd, WPa_call, WPa_callv, WPa_gd, RdA_some, CallA_ret, WPs_nil, WPs_rd, WPs_wr, WPs_call, WPs_callv, WPs_gd, RdK_some, WrK_some, CallK_ret, CallV_func, GdS_tt, GdS_tf, GdS_ft, GdS_ff, GdA_tt, GdA_tf, GdA_ft, GdA_ff, evR, lenV_slc, lenV_tail, lenV_str, iaV_slc, evX, AO.ev, Fr.put_some, Fr.put_none, Fr.at_set, Fr.at_ofArgs, List.getD_cons_zero, List.getD_cons_succ, List.getD_nil, binV, intOp, strOp, AV.cells, AHeap.cell_new, AHeap.range_new, AHeap.cell_old, AHeap.range_old, AHeap.get_new, AHeap.get_old, AHeap.put_new, AHeap.lt_new, AHeap.lt_alloc, AHeap.wf_alloc, AHeap.base_new, AHeap.base_alloc, evRVs, evRV, tup, List.map_cons, List.map_nil, List.cons_append, List.nil_append, List.append_nil, List.getElem?_cons_zero, List.getElem?_cons_succ, Nat.zero_add, Option.map_some, Option.map_none, if_true, if_false, ↓reduceIte, Bool.false_eq_true, eq_self, Bool.not_false, Bool.not_true, decide_true, decide_false, Option.isNone_none, Option.isNone_some, WPs_nxt, CallV_yield, hb, h1', decide_true, i32_nat c (by omega)]
    exact .same (.refl _) (by simp [AV.ok, AV.okL]) (by simpa [h1] using h)
  · have h1' : ¬ (c : Int) < 128 := by omega
    rw [if_neg h1] at h
    have a1 : (((c / 2 ^ 5 : Nat) : Int) == 6) = decide (c / 32 = 6) := Bool.eq_iff_iff.2 (by simp only [beq_iff_eq, decide_eq_true_eq]; omega)
    have a2 : (((c / 2 ^ 4 : Nat) : Int) == 14) = decide (c / 16 = 14) := Bool.eq_iff_iff.2 (by simp only [beq_iff_eq, decide_eq_true_eq]; omega)
    have a3 : (((c / 2 ^ 3 : Nat) : Int) == 30) = decide (c / 8 = 30) := Bool.eq_iff_iff.2 (by simp only [beq_iff_eq, decide_eq_true_eq]; omega)
    simp (decide := true) only [WP_skip, WP_ops, WP_seq, WP_block, WP_exit, WP_ret, WP_cond, CdC_true, CdC_false, seqQ_normal, seqQ_exit, seqQ_ret, seqQ_pan, blkQ_normal, blkQ_exit, blkQ_ret, blkQ_pan, bodyQ_ret, bodyQ_normal, bodyQ_pan, bodyK_some, WP_aops, WPa_nil, WPa_wr, WrA_new, CallA_new, WPa_rd, WPa_call, WPa_callv, WPa_gd, RdA_some, CallA_ret, WPs_nil, WPs_rd, WPs_wr, WPs_call, WPs_callv, WPs_gd, RdK_some, WrK_some, CallK_ret, CallV_func, GdS_tt, GdS_tf, GdS_ft, GdS_ff, GdA_tt, GdA_tf, GdA_ft, GdA_ff, evR, lenV_slc, lenV_tail, lenV_str, iaV_slc, evX, AO.ev, Fr.put_some, Fr.put_none, Fr.at_set, Fr.at_ofArgs, List.getD_cons_zero, List.getD_cons_succ, List.getD_nil, binV, intOp, strOp, AV.cells, AHeap.cell_new, AHeap.range_new, AHeap.cell_old, AHeap.range_old, AHeap.get_new, AHeap.get_old, AHeap.put_new, AHeap.lt_new, AHeap.lt_alloc, AHeap.wf_alloc, AHeap.base_new, AHeap.base_alloc, evRVs, evRV, tup, List.map_cons, List.map_nil, List.cons_append, List.nil_append, List.append_nil, List.getElem?_cons_zero, List.getElem?_cons_succ, Nat.zero_add, Option.map_some, Option.map_none, if_true, if_false, ↓reduceIte, Bool.false_eq_true, eq_self, Bool.not_false, Bool.not_true, decide_true, decide_false, Option.isNone_none, Option.isNone_some, WPs_nxt, CallV_yield, hb, CdC_sym, h1', decide_false, s5, s4, s3, m31, m15, m7, a1, a2, a3, i32_nat (c % 2 ^ 5) (by omega), i32_nat (c % 2 ^ 4) (by omega), i32_nat (c % 2 ^ 3) (by omega)]
    by_cases h2 : c / 32 = 6
    · rw [if_pos (by simpa using h2)]
      exact .same (.refl _) (by simp [AV.ok, AV.okL]) (by simpa [h2] using h)
    · rw [if_neg (by simpa using h2)]
      rw [if_neg h2] at h
      by_cases h3 : c / 16 = 14
      · rw [if_pos (by simpa using h3)]
        exact .same (.refl _) (by simp [AV.ok, AV.okL]) (by simpa [h3] using h)
      · rw [if_neg (by simpa using h3)]
        rw [if_neg h3] at h
        by_cases h4 : c / 8 = 30
        · rw [if_pos (by simpa using h4)]
          exact .same (.refl _) (by simp [AV.ok, AV.okL]) (by simpa [h4] using h)
        · rw [if_neg (by simpa using h4)]
          exact .same (.refl _) (by simp [AV.ok, AV.okL]) (by simpa [h4] using h)

/-- Bytes, as cells. -/
def bsA (l : List Nat) : List AV := l.map fun (b : Nat) => .int .u8 (b : Int)
def contF (c : Nat) : Bool := decide (c / 64 = 2)
def runF (r0 : Nat) (l : List Nat) : Nat := l.foldl (fun r c => r * 64 + c % 64) r0
/-- The rune at the beginning of bytes, and its size. -/
def runeF : List Nat → Nat × Nat
  | [] => (0, 0)
  | c :: rest =>
    if (begunF c).1 = 0 ∨ rest.length + 1 < (begunF c).1 then (0, 0) else
    if (rest.take ((begunF c).1 - 1)).all contF = true then
      if runF (begunF c).2.1 (rest.take ((begunF c).1 - 1)) < (begunF c).2.2 ∨ 1114111 < runF (begunF c).2.1 (rest.take ((begunF c).1 - 1)) ∨ runF (begunF c).2.1 (rest.take ((begunF c).1 - 1)) / 2048 = 27 then (0, 0)
      else (runF (begunF c).2.1 (rest.take ((begunF c).1 - 1)), (begunF c).1)
    else (0, 0)
theorem runF_lt : ∀ (r0 : Nat) (l : List Nat), runF r0 l < (r0 + 1) * 64 ^ l.length
  | r0, [] => by simp [runF]
  | r0, c :: l => by
    have ih := runF_lt (r0 * 64 + c % 64) l
    have : runF r0 (c :: l) = runF (r0 * 64 + c % 64) l := rfl
    rw [this, List.length_cons, Nat.pow_succ]
    refine Nat.lt_of_lt_of_le ih ?_
    rw [Nat.mul_comm (64 ^ l.length) 64, ← Nat.mul_assoc]
    exact Nat.mul_le_mul_right _ (by omega)
/-- Bytes that stand in a block of their own. -/
structure BS (H : AHeap) (i : Nat) (l : List Nat) : Prop where
  lt : i < H.next
  le : l.length ≤ 1099511627776
  byte : ∀ b ∈ l, b < 256
  get : H.get i = some (.cells (bsA l) (some 1))
theorem BS.cell {H : AHeap} {i : Nat} {l : List Nat} (h : BS H i l) {j : Nat} (hj : j < l.length) : H.cell (i, j) = some (.int .u8 (l[j] : Nat)) := by
  rw [AHeap.cell_of h.get]; simp [bsA, hj]
theorem begunF_le (c : Nat) : (begunF c).1 ≤ 4 ∧ (begunF c).2.1 < 128 ∧ (1 < (begunF c).1 → (begunF c).2.1 < 32) := by
  unfold begunF
  split
  · simp; omega
  · split
    · simp; omega
    · split
      · simp; omega
      · split
        · simp; omega
        · simp
theorem sl_from {H : AHeap} {i : Nat} {l : List Nat} (h : BS H i l) {k n : Nat} (hk : k + n = l.length) {a b : Nat} (hab : a ≤ b) (hb : b ≤ n) {k1 k2 : IntKind} :
    slV H 1 (.slice (some (i, k)) n (.inr k)) (some (.int k1 (a : Nat))) (some (.int k2 (b : Nat))) none = some (if a < n then .slice (some (i, k + a)) (b - a) (.inr (k + a)) else .tail (i, k) n 1 k) := by
  have a1 : (a : Int) ≤ (b : Int) := by omega
  have a2 : (b : Int) ≤ (n : Int) := by omega
  have hl : (bsA l).length = l.length := by simp [bsA]
  simp only [slV, slI, h.get, bnd]
  rw [if_pos ⟨trivial, by omega, by omega, by omega⟩]
  simp [a1, a2]
  split <;> rfl

theorem f95 {H : AHeap} {Q : AE → AHeap → Prop} {i k n : Nat} {l : List Nat} (hB : BS H i l) (hk : k + n = l.length) (hn : 0 < n) (h : Q (.ret (.tuple [.int .i32 (runeF (l.drop k)).1, .int .i64 (runeF (l.drop k)).2])) H) :
    ACall Tryz.prog 95 [.slice (some (i, k)) n (.inr k)] H Q := by
  refine ACall.comp [] mixed (by decide +kernel) fun F hF' => ?_
  cbv at hF'
  cases hF'
  refine ⟨by simp, fun hb ha => ?_⟩
  have hle := hB.le
  have hn0 : ((n : Int) == 0) = false := by simp; omega
  have hn1 : (0 : Int) < (n : Int) := by omega
  have hkl : k < l.length := by omega
  have hcell := hB.cell hkl
  have hbyte := hB.byte _ (List.getElem_mem hkl)
  obtain ⟨hsz, hr0, hr1⟩ := begunF_le l[k]
  simp (decide := true) only [WP_skip, WP_ops, WP_seq, WP_block, WP_exit, WP_ret, WP_cond, CdC_true, CdC_false, seqQ_normal, seqQ_exit, seqQ_ret, seqQ_pan, blkQ_normal, blkQ_exit, blkQ_ret, blkQ_pan, bodyQ_ret, bodyQ_normal, bodyQ_pan, bodyK_some, WP_aops, WPa_nil, WPa_wr, WrA_new, CallA_new, WPa_rd, WPa_call, WPa_callv, WPa_gd, RdA_some, CallA_ret, WPs_nil, WPs_rd, WPs_wr, WPs_call, WPs_callv, WPs_gd, RdK_some, WrK_some, CallK_ret, CallV_func, GdS_tt, GdS_tf, GdS_ft, GdS_ff, GdA_tt, GdA_tf, GdA_ft, GdA_ff, evR, lenV_slc, lenV_tail, lenV_str, iaV_slc, evX, AO.ev, Fr.put_some, Fr.put_none, Fr.at_set, Fr.at_ofArgs, List.getD_cons_zero, List.getD_cons_succ, List.getD_nil, binV, intOp, strOp, AV.cells, AHeap.cell_new, AHeap.range_new, AHeap.cell_old, AHeap.range_old, AHeap.get_new, AHeap.get_old, AHeap.put_new, AHeap.lt_new, AHeap.lt_alloc, AHeap.wf_alloc, AHeap.base_new, AHeap.base_alloc, evRVs, evRV, tup, List.map_cons, List.map_nil, List.cons_append, List.nil_append, List.append_nil, List.getElem?_cons_zero, List.getElem?_cons_succ, Nat.zero_add, Option.map_some, Option.map_none, if_true, if_false, ↓reduceIte, Bool.false_eq_true, eq_self, Bool.not_false, Bool.not_true, decide_true, decide_false, Option.isNone_none, Option.isNone_some, WPs_nxt, CallV_yield, hb, hn0, hn1, Int.le_refl, and_self, Int.toNat_zero, Nat.zero_mul, Nat.add_zero, hcell, Int.toNat]
  refine f107 hbyte ?_
  have hdrop : l.drop k = l[k] :: l.drop (k + 1) := List.drop_eq_getElem_cons hkl
  rw [hdrop] at h
  obtain ⟨s, hs⟩ : ∃ s, s = (begunF l[k]).1 := ⟨_, rfl⟩
  obtain ⟨r0, hrr⟩ : ∃ r0, r0 = (begunF l[k]).2.1 := ⟨_, rfl⟩
  obtain ⟨least, hls⟩ : ∃ x, x = (begunF l[k]).2.2 := ⟨_, rfl⟩
  obtain ⟨rest, hrest⟩ : ∃ x, x = l.drop (k + 1) := ⟨_, rfl⟩
  have hrl : rest.length + 1 = n := by rw [hrest, List.length_drop]; omega
  simp only [runeF, ← hs, ← hrr, ← hls, ← hrest, hrl] at h
  rw [← hs, ← hrr, ← hls]
  rw [← hs] at hsz hr1
  rw [← hrr] at hr0 hr1
  by_cases hs0 : s = 0
  · have e1 : ((s : Int) == 0) = true := by simp; omega
    simp (decide := true) only [WP_skip, WP_ops, WP_seq, WP_block, WP_exit, WP_ret, WP_cond, CdC_true, CdC_false, seqQ_normal, seqQ_exit, seqQ_ret, seqQ_pan, blkQ_normal, blkQ_exit, blkQ_ret, blkQ_pan, bodyQ_ret, bodyQ_normal, bodyQ_pan, bodyK_some, WP_aops, WPa_nil, WPa_wr, WrA_new, CallA_new, WPa_rd, WPa_call, WPa_callv, WPa_gd, RdA_some, CallA_ret, WPs_nil, WPs_rd, WPs_wr, WPs_call, WPs_callv, WPs_gd, RdK_some, WrK_some, CallK_ret, CallV_func, GdS_tt, GdS_tf, GdS_ft, GdS_ff, GdA_tt, GdA_tf, GdA_ft, GdA_ff, evR, lenV_slc, lenV_tail, lenV_str, iaV_slc, evX, AO.ev, Fr.put_some, Fr.put_none, Fr.at_set, Fr.at_ofArgs, List.getD_cons_zero, List.getD_cons_succ, List.getD_nil, binV, intOp, strOp, AV.cells, AHeap.cell_new, AHeap.range_new, AHeap.cell_old, AHeap.range_old, AHeap.get_new, AHeap.get_old, AHeap.put_new, AHeap.lt_new, AHeap.lt_alloc, AHeap.wf_alloc, AHeap.base_new, AHeap.base_alloc, evRVs, evRV, tup, List.map_cons, List.map_nil, List.cons_append, List.nil_append, List.append_nil, List.getElem?_cons_zero, List.getElem?_cons_succ, Nat.zero_add, Option.map_some, Option.map_none, if_true, if_false, ↓reduceIte, Bool.false_eq_true, eq_self, Bool.not_false, Bool.not_true, decide_true, decide_false, Option.isNone_none, Option.isNone_some, WPs_nxt, CallV_yield, hb, e1]
    rw [if_pos (.inl hs0)] at h
    exact .same (.refl _) (by simp [AV.ok, AV.okL]) h
  have e1 : ((s : Int) == 0) = false := by simp; omega
  by_cases hsn : n < s
  · have e2 : decide ((s : Int) > (n : Int)) = true := by simp; omega
    simp (decide := true) only [WP_skip, WP_ops, WP_seq, WP_block, WP_exit, WP_ret, WP_cond, CdC_true, CdC_false, seqQ_normal, seqQ_exit, seqQ_ret, seqQ_pan, blkQ_normal, blkQ_exit, blkQ_ret, blkQ_pan, bodyQ_ret, bodyQ_normal, bodyQ_pan, bodyK_some, WP_aops, WPa_nil, WPa_wr, WrA_new, CallA_new, WPa_rd, WPa_call, WPa_callv, WPa_gd, RdA_some, CallA_ret, WPs_nil, WPs_rd, WPs_wr, WPs_call, WPs_callv, WPs_gd, RdK_some, WrK_some, CallK_ret, CallV_func, GdS_tt, GdS_tf, GdS_ft, GdS_ff, GdA_tt, GdA_tf, GdA_ft, GdA_ff, evR, lenV_slc, lenV_tail, lenV_str, iaV_slc, evX, AO.ev, Fr.put_some, Fr.put_none, Fr.at_set, Fr.at_ofArgs, List.getD_cons_zero, List.getD_cons_succ, List.getD_nil, binV, intOp, strOp, AV.cells, AHeap.cell_new, AHeap.range_new, AHeap.cell_old, AHeap.range_old, AHeap.get_new, AHeap.get_old, AHeap.put_new, AHeap.lt_new, AHeap.lt_alloc, AHeap.wf_alloc, AHeap.base_new, AHeap.base_alloc, evRVs, evRV, tup, List.map_cons, List.map_nil, List.cons_append, List.nil_append, List.append_nil, List.getElem?_cons_zero, List.getElem?_cons_succ, Nat.zero_add, Option.map_some, Option.map_none, if_true, if_false, ↓reduceIte, Bool.false_eq_true, eq_self, Bool.not_false, Bool.not_true, decide_true, decide_false, Option.isNone_none, Option.isNone_some, WPs_nxt, CallV_yield, hb, e1, e2]
    rw [if_pos (.inr hsn)] at h
    exact .same (.refl _) (by simp [AV.ok, AV.okL]) h
  have e2 : decide ((s : Int) > (n : Int)) = false := by simp; omega
  rw [if_neg (by omega)] at h
  obtain ⟨v28, hsl, hlen28, hia⟩ : ∃ v, (∀ k1 k2, slV H 1 (.slice (some (i, k)) n (.inr k)) (some (.int k1 1)) (some (.int k2 (s : Nat))) none = some v) ∧ lenV H .slc v = some (.int .i64 ((s - 1 : Nat) : Int)) ∧
      ∀ (kk : IntKind) (j : Nat), j < s - 1 → iaV 1 v (.int kk (j : Nat)) = some (.ptr (some (i, k + 1 + j))) := by
    have hsl := fun k1 k2 => sl_from (k1 := k1) (k2 := k2) hB hk (a := 1) (b := s) (by omega) (by omega)
    refine ⟨_, hsl, ?_, fun kk j hj => ?_⟩
    · split
      · rfl
      · rw [lenV_tail, show s - 1 = 0 by omega]; rfl
    · rw [if_pos (by omega), iaV_slc, if_pos (by omega)]; simp
  simp (decide := true) only [WP_skip, WP_ops, WP_seq, WP_block, WP_exit, WP_ret, WP_cond, CdC_true, CdC_false, seqQ_normal, seqQ_exit, seqQ_ret, seqQ_pan, blkQ_normal, blkQ_exit, blkQ_ret, blkQ_pan, bodyQ_ret, bodyQ_normal, bodyQ_pan, bodyK_some, WP_aops, WPa_nil, WPa_wr, WrA_new, CallA_new, WPa_rd, WPa_call, WPa_callv, WPa_gd, RdA_some, CallA_ret, WPs_nil, WPs_rd, WPs_wr, WPs_call, WPs_callv, WPs_gd, RdK_some, WrK_some, CallK_ret, CallV_func, GdS_tt, GdS_tf, GdS_ft, GdS_ff, GdA_tt, GdA_tf, GdA_ft, GdA_ff, evR, lenV_slc, lenV_tail, lenV_str, iaV_slc, evX, AO.ev, Fr.put_some, Fr.put_none, Fr.at_set, Fr.at_ofArgs, List.getD_cons_zero, List.getD_cons_succ, List.getD_nil, binV, intOp, strOp, AV.cells, AHeap.cell_new, AHeap.range_new, AHeap.cell_old, AHeap.range_old, AHeap.get_new, AHeap.get_old, AHeap.put_new, AHeap.lt_new, AHeap.lt_alloc, AHeap.wf_alloc, AHeap.base_new, AHeap.base_alloc, evRVs, evRV, tup, List.map_cons, List.map_nil, List.cons_append, List.nil_append, List.append_nil, List.getElem?_cons_zero, List.getElem?_cons_succ, Nat.zero_add, Option.map_some, Option.map_none, if_true, if_false, ↓reduceIte, Bool.false_eq_true, eq_self, Bool.not_false, Bool.not_true, decide_true, decide_false, Option.isNone_none, Option.isNone_some, WPs_nxt, CallV_yield, hb, e1, e2, hsl, hlen28]
  refine WP_loop (fun t' H' => ∃ j : Nat, H' = H ∧ j ≤ s - 1 ∧ (rest.take j).all contF = true ∧ Fr.at t' 2 = .int .i32 (runF r0 (rest.take j) : Nat) ∧ Fr.at t' 3 = .int .i64 (s : Nat) ∧ Fr.at t' 4 = .int .i32 (least : Nat) ∧
    Fr.at t' 28 = v28 ∧ Fr.at t' 29 = .int .i64 ((s - 1 : Nat) : Int) ∧ Fr.at t' 30 = .int .i64 (j : Nat)) (fun t' _ => (((s - 1 : Nat) : Int) - numOf (Fr.at t' 30)).toNat) ?_ ?_
  · refine ⟨0, rfl, by omega, by simp, ?_⟩
    simp (decide := true) only [WP_skip, WP_ops, WP_seq, WP_block, WP_exit, WP_ret, WP_cond, CdC_true, CdC_false, seqQ_normal, seqQ_exit, seqQ_ret, seqQ_pan, blkQ_normal, blkQ_exit, blkQ_ret, blkQ_pan, bodyQ_ret, bodyQ_normal, bodyQ_pan, bodyK_some, WP_aops, WPa_nil, WPa_wr, WrA_new, CallA_new, WPa_rd, WPa_call, WPa_callv, WPa_gd, RdA_some, CallA_ret, WPs_nil, WPs_rd, WPs_wr, WPs_call, WPs_callv, WPs_gd, RdK_some, WrK_some, CallK_ret, CallV_func, GdS_tt, GdS_tf, GdS_ft, GdS_ff, GdA_tt, GdA_tf, GdA_ft, GdA_ff, evR, lenV_slc, lenV_tail, lenV_str, iaV_slc, evX, AO.ev, Fr.put_some, Fr.put_none, Fr.at_set, Fr.at_ofArgs, List.getD_cons_zero, List.getD_cons_succ, List.getD_nil, binV, intOp, strOp, AV.cells, AHeap.cell_new, AHeap.range_new, AHeap.cell_old, AHeap.range_old, AHeap.get_new, AHeap.get_old, AHeap.put_new, AHeap.lt_new, AHeap.lt_alloc, AHeap.wf_alloc, AHeap.base_new, AHeap.base_alloc, evRVs, evRV, tup, List.map_cons, List.map_nil, List.cons_append, List.nil_append, List.append_nil, List.getElem?_cons_zero, List.getElem?_cons_succ, Nat.zero_add, Option.map_some, Option.map_none, if_true, if_false, ↓reduceIte, Bool.false_eq_true, eq_self, Bool.not_false, Bool.not_true, decide_true, decide_false, Option.isNone_none, Option.isNone_some, WPs_nxt, CallV_yield, hb, Int.natCast_zero, and_self, List.take, runF, List.foldl]
  · rintro t' _ ⟨j, rfl, hj, hall, h2, h3, h4, h28, h29, h30⟩
    by_cases hlt : j < s - 1
    · have hI : (j : Int) < ((s - 1 : Nat) : Int) := by omega
      have hj0 : 0 ≤ (j : Int) := by omega
      have hjl : k + 1 + j < l.length := by omega
      have hcj := hB.cell hjl
      have hbj := hB.byte _ (List.getElem_mem hjl)
      have hrj : rest[j]? = some l[k + 1 + j] := by rw [hrest, List.getElem?_drop]; simp [hjl]
      obtain ⟨cj, hcjn⟩ : ∃ x, x = l[k + 1 + j] := ⟨_, rfl⟩
      rw [← hcjn] at hcj hbj hrj
      have s6 := shr_nat .u8 cj 6 6 rfl (by decide)
      have m63 := and_mask cj 63 6 hbj rfl (by omega)
      have a6 : (((cj / 2 ^ 6 : Nat) : Int) != 2) = !contF cj := by
        unfold contF
        by_cases hh : cj / 64 = 2 <;> simp [hh]
        omega
      have htk : rest.take (j + 1) = rest.take j ++ [cj] := by rw [List.take_add_one, hrj]; rfl
      cases hcf : contF cj with
      | false =>
        have hno : (rest.take (s - 1)).all contF = false := by
          rw [List.all_eq_false]
          exact ⟨cj, List.mem_of_getElem? (i := j) (by rw [List.getElem?_take, if_pos hlt]; exact hrj), by simp [hcf]⟩
        rw [if_neg (by simp [hno])] at h
        simp (decide := true) only [WP_skip, WP_ops, WP_seq, WP_block, WP_exit, WP_ret, WP_cond, CdC_true, CdC_false, seqQ_normal, seqQ_exit, seqQ_ret, seqQ_pan, blkQ_normal, blkQ_exit, blkQ_ret, blkQ_pan, bodyQ_ret, bodyQ_normal, bodyQ_pan, bodyK_some, WP_aops, WPa_nil, WPa_wr, WrA_new, CallA_new, WPa_rd, WPa_call, WPa_callv, WPa_gd, RdA_some, CallA_ret, WPs_nil, WPs_rd, WPs_wr, WPs_call, WPs_callv, WPs_gd, RdK_some, WrK_some, CallK_ret, CallV_func, GdS_tt, GdS_tf, GdS_ft, GdS_ff, GdA_tt, GdA_tf, GdA_ft, GdA_ff, evR, lenV_slc, lenV_tail, lenV_str, iaV_slc, evX, AO.ev, Fr.put_some, Fr.put_none, Fr.at_set, Fr.at_ofArgs, List.getD_cons_zero, List.getD_cons_succ, List.getD_nil, binV, intOp, strOp, AV.cells, AHeap.cell_new, AHeap.range_new, AHeap.cell_old, AHeap.range_old, AHeap.get_new, AHeap.get_old, AHeap.put_new, AHeap.lt_new, AHeap.lt_alloc, AHeap.wf_alloc, AHeap.base_new, AHeap.base_alloc, evRVs, evRV, tup, List.map_cons, List.map_nil, List.cons_append, List.nil_append, List.append_nil, List.getElem?_cons_zero, List.getElem?_cons_succ, Nat.zero_add, Option.map_some, Option.map_none, if_true, if_false, ↓reduceIte, Bool.false_eq_true, eq_self, Bool.not_false, Bool.not_true, decide_true, decide_false, Option.isNone_none, Option.isNone_some, WPs_nxt, CallV_yield, hb, h2, h3, h4, h28, h29, h30, hI, hj0, decide_true, and_self, hia _ _ hlt, hcj, s6, a6, hcf, Bool.not_false]
        exact .same (.refl _) (by simp [AV.ok, AV.okL]) h
      | true =>
        obtain ⟨R, hR⟩ : ∃ R, R = runF r0 (rest.take j) := ⟨_, rfl⟩
        have hRlt : R < 262144 := by
          have := runF_lt r0 (rest.take j)
          rw [← hR, List.length_take, Nat.min_eq_left (by omega)] at this
          have hp : 64 ^ j ≤ 64 ^ 2 := Nat.pow_le_pow_right (by omega) (by omega)
          have hr := hr1 (by omega)
          calc R < (r0 + 1) * 64 ^ j := this
            _ ≤ 33 * 64 ^ 2 := Nat.mul_le_mul (by omega) hp
            _ ≤ 262144 := by decide
        have sh6 : shOp .shl .i32 ((R : Nat) : Int) 6 = some (.int .i32 ((R * 64 : Nat) : Int)) := by
          unfold shOp
          rw [if_neg (by decide)]
          simp only
          rw [show min (Int.toNat 6) IntKind.i32.bits = 6 from rfl, show ((R : Nat) : Int) * 2 ^ 6 = ((R * 64 : Nat) : Int) by omega, i32_nat _ (by omega)]
        have ho := or_low R (cj % 2 ^ 6) (by omega) (by omega)
        rw [← hR] at h2
        simp (decide := true) only [WP_skip, WP_ops, WP_seq, WP_block, WP_exit, WP_ret, WP_cond, CdC_true, CdC_false, seqQ_normal, seqQ_exit, seqQ_ret, seqQ_pan, blkQ_normal, blkQ_exit, blkQ_ret, blkQ_pan, bodyQ_ret, bodyQ_normal, bodyQ_pan, bodyK_some, WP_aops, WPa_nil, WPa_wr, WrA_new, CallA_new, WPa_rd, WPa_call, WPa_callv, WPa_gd, RdA_some, CallA_ret, WPs_nil, WPs_rd, WPs_wr, WPs_call, WPs_callv, WPs_gd, RdK_some, WrK_some, CallK_ret, CallV_func, GdS_tt, GdS_tf, GdS_ft, GdS_ff, GdA_tt, GdA_tf, GdA_ft, GdA_ff, evR, lenV_slc, lenV_tail, lenV_str, iaV_slc, evX, AO.ev, Fr.put_some, Fr.put_none, Fr.at_set, Fr.at_ofArgs, List.getD_cons_zero, List.getD_cons_succ, List.getD_nil, binV, intOp, strOp, AV.cells, AHeap.cell_new, AHeap.range_new, AHeap.cell_old, AHeap.range_old, AHeap.get_new, AHeap.get_old, AHeap.put_new, AHeap.lt_new, AHeap.lt_alloc, AHeap.wf_alloc, AHeap.base_new, AHeap.base_alloc, evRVs, evRV, tup, List.map_cons, List.map_nil, List.cons_append, List.nil_append, List.append_nil, List.getElem?_cons_zero, List.getElem?_cons_succ, Nat.zero_add, Option.map_some, Option.map_none, if_true, if_false, ↓reduceIte, Bool.false_eq_true, eq_self, Bool.not_false, Bool.not_true, decide_true, decide_false, Option.isNone_none, Option.isNone_some, WPs_nxt, CallV_yield, hb, h2, h3, h4, h28, h29, h30, hI, hj0, decide_true, and_self, hia _ _ hlt, hcj, s6, a6, hcf, Bool.not_true, m63, i32_nat (cj % 2 ^ 6) (by omega), sh6, ho, wrapN j (by omega)]
        refine ⟨⟨j + 1, trivial, hlt, ?_, ?_, trivial, trivial, trivial, trivial, rfl⟩, by simp only [numOf]; omega⟩
        · rw [htk, List.all_append, hall]; simp [hcf]
        · have e : runF r0 (rest.take (j + 1)) = R * 64 + cj % 2 ^ 6 := by rw [htk, hR]; simp [runF, List.foldl_append]
          rw [e]
    · have hjs : j = s - 1 := by omega
      subst hjs
      have hI : ¬ ((s - 1 : Nat) : Int) < ((s - 1 : Nat) : Int) := by omega
      rw [if_pos hall] at h
      obtain ⟨R, hR⟩ : ∃ R, R = runF r0 (rest.take (s - 1)) := ⟨_, rfl⟩
      rw [← hR] at h h2
      have s11 := shr_nat .i32 R 11 11 rfl (by decide)
      by_cases c1 : R < least
      · have c1' : decide ((R : Int) < (least : Int)) = true := by simp; omega
        rw [if_pos (.inl c1)] at h
        simp (decide := true) only [WP_skip, WP_ops, WP_seq, WP_block, WP_exit, WP_ret, WP_cond, CdC_true, CdC_false, seqQ_normal, seqQ_exit, seqQ_ret, seqQ_pan, blkQ_normal, blkQ_exit, blkQ_ret, blkQ_pan, bodyQ_ret, bodyQ_normal, bodyQ_pan, bodyK_some, WP_aops, WPa_nil, WPa_wr, WrA_new, CallA_new, WPa_rd, WPa_call, WPa_callv, WPa_gd, RdA_some, CallA_ret, WPs_nil, WPs_rd, WPs_wr, WPs_call, WPs_callv, WPs_gd, RdK_some, WrK_some, CallK_ret, CallV_func, GdS_tt, GdS_tf, GdS_ft, GdS_ff, GdA_tt, GdA_tf, GdA_ft, GdA_ff, evR, lenV_slc, lenV_tail, lenV_str, iaV_slc, evX, AO.ev, Fr.put_some, Fr.put_none, Fr.at_set, Fr.at_ofArgs, List.getD_cons_zero, List.getD_cons_succ, List.getD_nil, binV, intOp, strOp, AV.cells, AHeap.cell_new, AHeap.range_new, AHeap.cell_old, AHeap.range_old, AHeap.get_new, AHeap.get_old, AHeap.put_new, AHeap.lt_new, AHeap.lt_alloc, AHeap.wf_alloc, AHeap.base_new, AHeap.base_alloc, evRVs, evRV, tup, List.map_cons, List.map_nil, List.cons_append, List.nil_append, List.append_nil, List.getElem?_cons_zero, List.getElem?_cons_succ, Nat.zero_add, Option.map_some, Option.map_none, if_true, if_false, ↓reduceIte, Bool.false_eq_true, eq_self, Bool.not_false, Bool.not_true, decide_true, decide_false, Option.isNone_none, Option.isNone_some, WPs_nxt, CallV_yield, hb, h2, h3, h4, h28, h29, h30, hI, decide_false, c1']
        exact .same (.refl _) (by simp [AV.ok, AV.okL]) h
      · have c1' : decide ((R : Int) < (least : Int)) = false := by simp; omega
        by_cases c2 : 1114111 < R
        · have c2' : decide ((R : Int) > 1114111) = true := by simp; omega
          rw [if_pos (.inr (.inl c2))] at h
          simp (decide := true) only [WP_skip, WP_ops, WP_seq, WP_block, WP_exit, WP_ret, WP_cond, CdC_true, CdC_false, seqQ_normal, seqQ_exit, seqQ_ret, seqQ_pan, blkQ_normal, blkQ_exit, blkQ_ret, blkQ_pan, bodyQ_ret, bodyQ_normal, bodyQ_pan, bodyK_some, WP_aops, WPa_nil, WPa_wr, WrA_new, CallA_new, WPa_rd, WPa_call, WPa_callv, WPa_gd, RdA_some, CallA_ret, WPs_nil, WPs_rd, WPs_wr, WPs_call, WPs_callv, WPs_gd, RdK_some, WrK_some, CallK_ret, CallV_func, GdS_tt, GdS_tf, GdS_ft, GdS_ff, GdA_tt, GdA_tf, GdA_ft, GdA_ff, evR, lenV_slc, lenV_tail, lenV_str, iaV_slc, evX, AO.ev, Fr.put_some, Fr.put_none, Fr.at_set, Fr.at_ofArgs, List.getD_cons_zero, List.getD_cons_succ, List.getD_nil, binV, intOp, strOp, AV.cells, AHeap.cell_new, AHeap.range_new, AHeap.cell_old, AHeap.range_old, AHeap.get_new, AHeap.get_old, AHeap.put_new, AHeap.lt_new, AHeap.lt_alloc, AHeap.wf_alloc, AHeap.base_new, AHeap.base_alloc, evRVs, evRV, tup, List.map_cons, List.map_nil, List.cons_append, List.nil_append, List.append_nil, List.getElem?_cons_zero, List.getElem?_cons_succ, Nat.zero_add, Option.map_some, Option.map_none, if_true, if_false, ↓reduceIte, Bool.false_eq_true, eq_self, Bool.not_false, Bool.not_true, decide_true, decide_false, Option.isNone_none, Option.isNone_some, WPs_nxt, CallV_yield, hb, h2, h3, h4, h28, h29, h30, hI, decide_false, c1', c2']
          exact .same (.refl _) (by simp [AV.ok, AV.okL]) h
        · have c2' : decide ((R : Int) > 1114111) = false := by simp; omega
          by_cases c3 : R / 2048 = 27
          · have c3' : (((R / 2 ^ 11 : Nat) : Int) == 27) = true := by simp; omega
            rw [if_pos (.inr (.inr c3))] at h
            simp (decide := true) only [WP_skip, WP_ops, WP_seq, WP_block, WP_exit, WP_ret, WP_cond, CdC_true, CdC_false, seqQ_normal, seqQ_exit, seqQ_ret, seqQ_pan, blkQ_normal, blkQ_exit, blkQ_ret, blkQ_pan, bodyQ_ret, bodyQ_normal, bodyQ_pan, bodyK_some, WP_aops, WPa_nil, WPa_wr, WrA_new, CallA_new, WPa_rd, WPa_call, WPa_callv, WPa_gd, RdA_some, CallA_ret, WPs_nil, WPs_rd, WPs_wr, WPs_call, WPs_callv, WPs_gd, RdK_some, WrK_some, CallK_ret, CallV_func, GdS_tt, GdS_tf, GdS_ft, GdS_ff, GdA_tt, GdA_tf, GdA_ft, GdA_ff, evR, lenV_slc, lenV_tail, lenV_str, iaV_slc, evX, AO.ev, Fr.put_some, Fr.put_none, Fr.at_set, Fr.at_ofArgs, List.getD_cons_zero, List.getD_cons_succ, List.getD_nil, binV, intOp, strOp, AV.cells, AHeap.cell_new, AHeap.range_new, AHeap.cell_old, AHeap.range_old, AHeap.get_new, AHeap.get_old, AHeap.put_new, AHeap.lt_new, AHeap.lt_alloc, AHeap.wf_alloc, AHeap.base_new, AHeap.base_alloc, evRVs, evRV, tup, List.map_cons, List.map_nil, List.cons_append, List.nil_append, List.append_nil, List.getElem?_cons_zero, List.getElem?_cons_succ, Nat.zero_add, Option.map_some, Option.map_none, if_true, if_false, ↓reduceIte, Bool.false_eq_true, eq_self, Bool.not_false, Bool.not_true, decide_true, decide_false, Option.isNone_none, Option.isNone_some, WPs_nxt, CallV_yield, hb, h2, h3, h4, h28, h29, h30, hI, decide_false, c1', c2', s11, c3']
            exact .same (.refl _) (by simp [AV.ok, AV.okL]) h
          · have c3' : (((R / 2 ^ 11 : Nat) : Int) == 27) = false := by simp; omega
            rw [if_neg (by rintro (h | h | h) <;> contradiction)] at h
            simp (decide := true) only [WP_skip, WP_ops, WP_seq, WP_block, WP_exit, WP_ret, WP_cond, CdC_true, CdC_false, seqQ_normal, seqQ_exit, seqQ_ret, seqQ_pan, blkQ_normal, blkQ_exit, blkQ_ret, blkQ_pan, bodyQ_ret, bodyQ_normal, bodyQ_pan, bodyK_some, WP_aops, WPa_nil, WPa_wr, WrA_new, CallA_new, WPa_rd, WPa_call, WPa_callv, WPa_gd, RdA_some, CallA_ret, WPs_nil, WPs_rd, WPs_wr, WPs_call, WPs_callv, WPs_gd, RdK_some, WrK_some, CallK_ret, CallV_func, GdS_tt, GdS_tf, GdS_ft, GdS_ff, GdA_tt, GdA_tf, GdA_ft, GdA_ff, evR, lenV_slc, lenV_tail, lenV_str, iaV_slc, evX, AO.ev, Fr.put_some, Fr.put_none, Fr.at_set, Fr.at_ofArgs, List.getD_cons_zero, List.getD_cons_succ, List.getD_nil, binV, intOp, strOp, AV.cells, AHeap.cell_new, AHeap.range_new, AHeap.cell_old, AHeap.range_old, AHeap.get_new, AHeap.get_old, AHeap.put_new, AHeap.lt_new, AHeap.lt_alloc, AHeap.wf_alloc, AHeap.base_new, AHeap.base_alloc, evRVs, evRV, tup, List.map_cons, List.map_nil, List.cons_append, List.nil_append, List.append_nil, List.getElem?_cons_zero, List.getElem?_cons_succ, Nat.zero_add, Option.map_some, Option.map_none, if_true, if_false, ↓reduceIte, Bool.false_eq_true, eq_self, Bool.not_false, Bool.not_true, decide_true, decide_false, Option.isNone_none, Option.isNone_some, WPs_nxt, CallV_yield, hb, h2, h3, h4, h28, h29, h30, hI, decide_false, c1', c2', s11, c3']
            exact .same (.refl _) (by simp [AV.ok, AV.okL]) h

theorem runeF_le : ∀ l : List Nat, (runeF l).2 ≤ l.length
  | [] => by simp [runeF]
  | c :: rest => by
    simp only [runeF]
    split
    · simp
    · split
      · split
        · simp
        · simp only [List.length_cons]; omega
      · simp
/-- How many bytes are runes', up to so many. -/
def goF : Nat → List Nat → Nat → Nat → Nat
  | 0, _, a, _ => a
  | f + 1, rest, a, most => if rest = [] then a else if (runeF rest).2 = 0 ∨ most < a + (runeF rest).2 then a else goF f (rest.drop (runeF rest).2) (a + (runeF rest).2) most
theorem goF_nil (f a most : Nat) : goF f [] a most = a := by cases f <;> simp [goF]
theorem sl_end {H : AHeap} {i : Nat} {l : List Nat} (h : BS H i l) {k n : Nat} (hk : k + n = l.length) {a : Nat} (ha : a < n) {k1 : IntKind} :
    slV H 1 (.slice (some (i, k)) n (.inr k)) (some (.int k1 (a : Nat))) none none = some (.slice (some (i, k + a)) (n - a) (.inr (k + a))) := by
  have a1 : (a : Int) ≤ (n : Int) := by omega
  have hl : (bsA l).length = l.length := by simp [bsA]
  simp only [slV, slI, h.get, bnd]
  rw [if_pos ⟨trivial, by omega, by omega, by omega⟩]
  simp [a1, ha]

theorem f67 {H : AHeap} {Q : AE → AHeap → Prop} {i : Nat} {l : List Nat} (hB : BS H i l) {most : Nat} (hmost : most ≤ 1099511627776) (h : ∀ m : Int, Q (.ret (.tuple [.int .i64 (goF l.length l 0 most), .int .i64 m])) H) :
    ACall Tryz.prog 67 [.slice (some (i, 0)) l.length (.inr 0), .int .i64 most] H Q := by
  refine ACall.comp [] mixed (by decide +kernel) fun F hF' => ?_
  cbv at hF'
  cases hF'
  refine ⟨by simp, fun hb ha => ?_⟩
  have hle := hB.le
  simp (decide := true) only [WP_skip, WP_ops, WP_seq, WP_block, WP_exit, WP_ret, WP_cond, CdC_true, CdC_false, seqQ_normal, seqQ_exit, seqQ_ret, seqQ_pan, blkQ_normal, blkQ_exit, blkQ_ret, blkQ_pan, bodyQ_ret, bodyQ_normal, bodyQ_pan, bodyK_some, WP_aops, WPa_nil, WPa_wr, WrA_new, CallA_new, WPa_rd, WPa_call, WPa_callv, WPa_gd, RdA_some, CallA_ret, WPs_nil, WPs_rd, WPs_wr, WPs_call, WPs_callv, WPs_gd, RdK_some, WrK_some, CallK_ret, CallV_func, GdS_tt, GdS_tf, GdS_ft, GdS_ff, GdA_tt, GdA_tf, GdA_ft, GdA_ff, evR, lenV_slc, lenV_tail, lenV_str, iaV_slc, evX, AO.ev, Fr.put_some, Fr.put_none, Fr.at_set, Fr.at_ofArgs, List.getD_cons_zero, List.getD_cons_succ, List.getD_nil, binV, intOp, strOp, AV.cells, AHeap.cell_new, AHeap.range_new, AHeap.cell_old, AHeap.range_old, AHeap.get_new, AHeap.get_old, AHeap.put_new, AHeap.lt_new, AHeap.lt_alloc, AHeap.wf_alloc, AHeap.base_new, AHeap.base_alloc, evRVs, evRV, tup, List.map_cons, List.map_nil, List.cons_append, List.nil_append, List.append_nil, List.getElem?_cons_zero, List.getElem?_cons_succ, Nat.zero_add, Option.map_some, Option.map_none, if_true, if_false, ↓reduceIte, Bool.false_eq_true, eq_self, Bool.not_false, Bool.not_true, decide_true, decide_false, Option.isNone_none, Option.isNone_some, WPs_nxt, CallV_yield, hb]
  refine WP_loop (fun t' H' => ∃ (a f : Nat) (m : Int), H' = H ∧ a ≤ l.length ∧ l.length - a ≤ f ∧ goF f (l.drop a) a most = goF l.length l 0 most ∧ Fr.at t' 0 = .slice (some (i, 0)) l.length (.inr 0) ∧ Fr.at t' 1 = .int .i64 most ∧
    Fr.at t' 4 = .int .i64 a ∧ Fr.at t' 5 = .int .i64 m) (fun t' _ => ((l.length : Int) - numOf (Fr.at t' 4)).toNat) ?_ ?_
  · refine ⟨0, l.length, 0, rfl, by omega, by omega, rfl, ?_⟩
    simp (decide := true) only [WP_skip, WP_ops, WP_seq, WP_block, WP_exit, WP_ret, WP_cond, CdC_true, CdC_false, seqQ_normal, seqQ_exit, seqQ_ret, seqQ_pan, blkQ_normal, blkQ_exit, blkQ_ret, blkQ_pan, bodyQ_ret, bodyQ_normal, bodyQ_pan, bodyK_some, WP_aops, WPa_nil, WPa_wr, WrA_new, CallA_new, WPa_rd, WPa_call, WPa_callv, WPa_gd, RdA_some, CallA_ret, WPs_nil, WPs_rd, WPs_wr, WPs_call, WPs_callv, WPs_gd, RdK_some, WrK_some, CallK_ret, CallV_func, GdS_tt, GdS_tf, GdS_ft, GdS_ff, GdA_tt, GdA_tf, GdA_ft, GdA_ff, evR, lenV_slc, lenV_tail, lenV_str, iaV_slc, evX, AO.ev, Fr.put_some, Fr.put_none, Fr.at_set, Fr.at_ofArgs, List.getD_cons_zero, List.getD_cons_succ, List.getD_nil, binV, intOp, strOp, AV.cells, AHeap.cell_new, AHeap.range_new, AHeap.cell_old, AHeap.range_old, AHeap.get_new, AHeap.get_old, AHeap.put_new, AHeap.lt_new, AHeap.lt_alloc, AHeap.wf_alloc, AHeap.base_new, AHeap.base_alloc, evRVs, evRV, tup, List.map_cons, List.map_nil, List.cons_append, List.nil_append, List.append_nil, List.getElem?_cons_zero, List.getElem?_cons_succ, Nat.zero_add, Option.map_some, Option.map_none, if_true, if_false, ↓reduceIte, Bool.false_eq_true, eq_self, Bool.not_false, Bool.not_true, decide_true, decide_false, Option.isNone_none, Option.isNone_some, WPs_nxt, CallV_yield, hb, Int.natCast_zero, and_self]
  · rintro t' _ ⟨a, f, m, rfl, ha', hf, hgo, h0, h1, h4, h5⟩
    by_cases hlt : a < l.length
    · have hI : (a : Int) < (l.length : Int) := by omega
      have hsl := fun k1 => sl_end (k1 := k1) hB (k := 0) (n := l.length) (by omega) hlt
      simp only [Nat.zero_add] at hsl
      simp (decide := true) only [WP_skip, WP_ops, WP_seq, WP_block, WP_exit, WP_ret, WP_cond, CdC_true, CdC_false, seqQ_normal, seqQ_exit, seqQ_ret, seqQ_pan, blkQ_normal, blkQ_exit, blkQ_ret, blkQ_pan, bodyQ_ret, bodyQ_normal, bodyQ_pan, bodyK_some, WP_aops, WPa_nil, WPa_wr, WrA_new, CallA_new, WPa_rd, WPa_call, WPa_callv, WPa_gd, RdA_some, CallA_ret, WPs_nil, WPs_rd, WPs_wr, WPs_call, WPs_callv, WPs_gd, RdK_some, WrK_some, CallK_ret, CallV_func, GdS_tt, GdS_tf, GdS_ft, GdS_ff, GdA_tt, GdA_tf, GdA_ft, GdA_ff, evR, lenV_slc, lenV_tail, lenV_str, iaV_slc, evX, AO.ev, Fr.put_some, Fr.put_none, Fr.at_set, Fr.at_ofArgs, List.getD_cons_zero, List.getD_cons_succ, List.getD_nil, binV, intOp, strOp, AV.cells, AHeap.cell_new, AHeap.range_new, AHeap.cell_old, AHeap.range_old, AHeap.get_new, AHeap.get_old, AHeap.put_new, AHeap.lt_new, AHeap.lt_alloc, AHeap.wf_alloc, AHeap.base_new, AHeap.base_alloc, evRVs, evRV, tup, List.map_cons, List.map_nil, List.cons_append, List.nil_append, List.append_nil, List.getElem?_cons_zero, List.getElem?_cons_succ, Nat.zero_add, Option.map_some, Option.map_none, if_true, if_false, ↓reduceIte, Bool.false_eq_true, eq_self, Bool.not_false, Bool.not_true, decide_true, decide_false, Option.isNone_none, Option.isNone_some, WPs_nxt, CallV_yield, hb, h0, h1, h4, h5, hI, decide_true, hsl]
      refine f95 hB (by omega) (by omega) ?_
      obtain ⟨f, rfl⟩ : ∃ g, f = g + 1 := ⟨f - 1, by omega⟩
      have hne : l.drop a ≠ [] := by intro e; have := congrArg List.length e; simp at this; omega
      have hle2 := runeF_le (l.drop a)
      rw [List.length_drop] at hle2
      simp only [goF, if_neg hne] at hgo
      obtain ⟨n, hn⟩ : ∃ n, n = (runeF (l.drop a)).2 := ⟨_, rfl⟩
      rw [← hn] at hgo hle2 ⊢
      by_cases c1 : n = 0
      · have e1 : ((n : Int) == 0) = true := by simp; omega
        rw [if_pos (.inl c1)] at hgo
        simp (decide := true) only [WP_skip, WP_ops, WP_seq, WP_block, WP_exit, WP_ret, WP_cond, CdC_true, CdC_false, seqQ_normal, seqQ_exit, seqQ_ret, seqQ_pan, blkQ_normal, blkQ_exit, blkQ_ret, blkQ_pan, bodyQ_ret, bodyQ_normal, bodyQ_pan, bodyK_some, WP_aops, WPa_nil, WPa_wr, WrA_new, CallA_new, WPa_rd, WPa_call, WPa_callv, WPa_gd, RdA_some, CallA_ret, WPs_nil, WPs_rd, WPs_wr, WPs_call, WPs_callv, WPs_gd, RdK_some, WrK_some, CallK_ret, CallV_func, GdS_tt, GdS_tf, GdS_ft, GdS_ff, GdA_tt, GdA_tf, GdA_ft, GdA_ff, evR, lenV_slc, lenV_tail, lenV_str, iaV_slc, evX, AO.ev, Fr.put_some, Fr.put_none, Fr.at_set, Fr.at_ofArgs, List.getD_cons_zero, List.getD_cons_succ, List.getD_nil, binV, intOp, strOp, AV.cells, AHeap.cell_new, AHeap.range_new, AHeap.cell_old, AHeap.range_old, AHeap.get_new, AHeap.get_old, AHeap.put_new, AHeap.lt_new, AHeap.lt_alloc, AHeap.wf_alloc, AHeap.base_new, AHeap.base_alloc, evRVs, evRV, tup, List.map_cons, List.map_nil, List.cons_append, List.nil_append, List.append_nil, List.getElem?_cons_zero, List.getElem?_cons_succ, Nat.zero_add, Option.map_some, Option.map_none, if_true, if_false, ↓reduceIte, Bool.false_eq_true, eq_self, Bool.not_false, Bool.not_true, decide_true, decide_false, Option.isNone_none, Option.isNone_some, WPs_nxt, CallV_yield, hb, h0, h1, h4, h5, e1]
        exact .same (.refl _) (by simp [AV.ok, AV.okL]) (by rw [hgo]; exact h m)
      · have e1 : ((n : Int) == 0) = false := by simp; omega
        have e2 : IntKind.i64.wrap ((a : Int) + (n : Int)) = ((a + n : Nat) : Int) := by rw [IntKind.wrap_i64]; omega
        by_cases c2 : most < a + n
        · have e3 : decide (((a + n : Nat) : Int) > (most : Int)) = true := by simp; omega
          rw [if_pos (.inr c2)] at hgo
          simp (decide := true) only [WP_skip, WP_ops, WP_seq, WP_block, WP_exit, WP_ret, WP_cond, CdC_true, CdC_false, seqQ_normal, seqQ_exit, seqQ_ret, seqQ_pan, blkQ_normal, blkQ_exit, blkQ_ret, blkQ_pan, bodyQ_ret, bodyQ_normal, bodyQ_pan, bodyK_some, WP_aops, WPa_nil, WPa_wr, WrA_new, CallA_new, WPa_rd, WPa_call, WPa_callv, WPa_gd, RdA_some, CallA_ret, WPs_nil, WPs_rd, WPs_wr, WPs_call, WPs_callv, WPs_gd, RdK_some, WrK_some, CallK_ret, CallV_func, GdS_tt, GdS_tf, GdS_ft, GdS_ff, GdA_tt, GdA_tf, GdA_ft, GdA_ff, evR, lenV_slc, lenV_tail, lenV_str, iaV_slc, evX, AO.ev, Fr.put_some, Fr.put_none, Fr.at_set, Fr.at_ofArgs, List.getD_cons_zero, List.getD_cons_succ, List.getD_nil, binV, intOp, strOp, AV.cells, AHeap.cell_new, AHeap.range_new, AHeap.cell_old, AHeap.range_old, AHeap.get_new, AHeap.get_old, AHeap.put_new, AHeap.lt_new, AHeap.lt_alloc, AHeap.wf_alloc, AHeap.base_new, AHeap.base_alloc, evRVs, evRV, tup, List.map_cons, List.map_nil, List.cons_append, List.nil_append, List.append_nil, List.getElem?_cons_zero, List.getElem?_cons_succ, Nat.zero_add, Option.map_some, Option.map_none, if_true, if_false, ↓reduceIte, Bool.false_eq_true, eq_self, Bool.not_false, Bool.not_true, decide_true, decide_false, Option.isNone_none, Option.isNone_some, WPs_nxt, CallV_yield, hb, h0, h1, h4, h5, e1, e2, e3]
          exact .same (.refl _) (by simp [AV.ok, AV.okL]) (by rw [hgo]; exact h m)
        · have e3 : decide (((a + n : Nat) : Int) > (most : Int)) = false := by simp; omega
          rw [if_neg (by omega), List.drop_drop] at hgo
          simp (decide := true) only [WP_skip, WP_ops, WP_seq, WP_block, WP_exit, WP_ret, WP_cond, CdC_true, CdC_false, seqQ_normal, seqQ_exit, seqQ_ret, seqQ_pan, blkQ_normal, blkQ_exit, blkQ_ret, blkQ_pan, bodyQ_ret, bodyQ_normal, bodyQ_pan, bodyK_some, WP_aops, WPa_nil, WPa_wr, WrA_new, CallA_new, WPa_rd, WPa_call, WPa_callv, WPa_gd, RdA_some, CallA_ret, WPs_nil, WPs_rd, WPs_wr, WPs_call, WPs_callv, WPs_gd, RdK_some, WrK_some, CallK_ret, CallV_func, GdS_tt, GdS_tf, GdS_ft, GdS_ff, GdA_tt, GdA_tf, GdA_ft, GdA_ff, evR, lenV_slc, lenV_tail, lenV_str, iaV_slc, evX, AO.ev, Fr.put_some, Fr.put_none, Fr.at_set, Fr.at_ofArgs, List.getD_cons_zero, List.getD_cons_succ, List.getD_nil, binV, intOp, strOp, AV.cells, AHeap.cell_new, AHeap.range_new, AHeap.cell_old, AHeap.range_old, AHeap.get_new, AHeap.get_old, AHeap.put_new, AHeap.lt_new, AHeap.lt_alloc, AHeap.wf_alloc, AHeap.base_new, AHeap.base_alloc, evRVs, evRV, tup, List.map_cons, List.map_nil, List.cons_append, List.nil_append, List.append_nil, List.getElem?_cons_zero, List.getElem?_cons_succ, Nat.zero_add, Option.map_some, Option.map_none, if_true, if_false, ↓reduceIte, Bool.false_eq_true, eq_self, Bool.not_false, Bool.not_true, decide_true, decide_false, Option.isNone_none, Option.isNone_some, WPs_nxt, CallV_yield, hb, h0, h1, h4, h5, e1, e2, e3]
          exact ⟨⟨a + n, f, _, trivial, by omega, by omega, hgo, trivial, trivial, rfl, rfl⟩, by simp only [numOf]; omega⟩
    · have hal : a = l.length := by omega
      subst hal
      have hI : ¬ (l.length : Int) < (l.length : Int) := by omega
      rw [List.drop_length, goF_nil] at hgo
      simp (decide := true) only [WP_skip, WP_ops, WP_seq, WP_block, WP_exit, WP_ret, WP_cond, CdC_true, CdC_false, seqQ_normal, seqQ_exit, seqQ_ret, seqQ_pan, blkQ_normal, blkQ_exit, blkQ_ret, blkQ_pan, bodyQ_ret, bodyQ_normal, bodyQ_pan, bodyK_some, WP_aops, WPa_nil, WPa_wr, WrA_new, CallA_new, WPa_rd, WPa_call, WPa_callv, WPa_gd, RdA_some, CallA_ret, WPs_nil, WPs_rd, WPs_wr, WPs_call, WPs_callv, WPs_gd, RdK_some, WrK_some, CallK_ret, CallV_func, GdS_tt, GdS_tf, GdS_ft, GdS_ff, GdA_tt, GdA_tf, GdA_ft, GdA_ff, evR, lenV_slc, lenV_tail, lenV_str, iaV_slc, evX, AO.ev, Fr.put_some, Fr.put_none, Fr.at_set, Fr.at_ofArgs, List.getD_cons_zero, List.getD_cons_succ, List.getD_nil, binV, intOp, strOp, AV.cells, AHeap.cell_new, AHeap.range_new, AHeap.cell_old, AHeap.range_old, AHeap.get_new, AHeap.get_old, AHeap.put_new, AHeap.lt_new, AHeap.lt_alloc, AHeap.wf_alloc, AHeap.base_new, AHeap.base_alloc, evRVs, evRV, tup, List.map_cons, List.map_nil, List.cons_append, List.nil_append, List.append_nil, List.getElem?_cons_zero, List.getElem?_cons_succ, Nat.zero_add, Option.map_some, Option.map_none, if_true, if_false, ↓reduceIte, Bool.false_eq_true, eq_self, Bool.not_false, Bool.not_true, decide_true, decide_false, Option.isNone_none, Option.isNone_some, WPs_nxt, CallV_yield, hb, h0, h1, h4, h5, hI, decide_false]
      exact .same (.refl _) (by simp [AV.ok, AV.okL]) (by rw [hgo]; exact h m)

def isF (l : List Nat) : Bool := goF l.length l 0 l.length == l.length
theorem f46 {H : AHeap} {Q : AE → AHeap → Prop} {i : Nat} {l : List Nat} (hB : BS H i l) (h : Q (.ret (.bool (isF l))) H) : ACall Tryz.prog 46 [.slice (some (i, 0)) l.length (.inr 0)] H Q := by
  refine ACall.comp [] mixed (by decide +kernel) fun F hF' => ?_
  cbv at hF'
  cases hF'
  refine ⟨by simp, fun hb ha => ?_⟩
  have hle := hB.le
  simp (decide := true) only [WP_skip, WP_ops, WP_seq, WP_block, WP_exit, WP_ret, WP_cond, CdC_true, CdC_false, seqQ_normal, seqQ_exit, seqQ_ret, seqQ_pan, blkQ_normal, blkQ_exit, blkQ_ret, blkQ_pan, bodyQ_ret, bodyQ_normal, bodyQ_pan, bodyK_some, WP_aops, WPa_nil, WPa_wr, WrA_new, CallA_new, WPa_rd, WPa_call, WPa_callv, WPa_gd, RdA_some, CallA_ret, WPs_nil, WPs_rd, WPs_wr, WPs_call, WPs_callv, WPs_gd, RdK_some, WrK_some, CallK_ret, CallV_func, GdS_tt, GdS_tf, GdS_ft, GdS_ff, GdA_tt, GdA_tf, GdA_ft, GdA_ff, evR, lenV_slc, lenV_tail, lenV_str, iaV_slc, evX, AO.ev, Fr.put_some, Fr.put_none, Fr.at_set, Fr.at_ofArgs, List.getD_cons_zero, List.getD_cons_succ, List.getD_nil, binV, intOp, strOp, AV.cells, AHeap.cell_new, AHeap.range_new, AHeap.cell_old, AHeap.range_old, AHeap.get_new, AHeap.get_old, AHeap.put_new, AHeap.lt_new, AHeap.lt_alloc, AHeap.wf_alloc, AHeap.base_new, AHeap.base_alloc, evRVs, evRV, tup, List.map_cons, List.map_nil, List.cons_append, List.nil_append, List.append_nil, List.getElem?_cons_zero, List.getElem?_cons_succ, Nat.zero_add, Option.map_some, Option.map_none, if_true, if_false, ↓reduceIte, Bool.false_eq_true, eq_self, Bool.not_false, Bool.not_true, decide_true, decide_false, Option.isNone_none, Option.isNone_some, WPs_nxt, CallV_yield, hb]
  refine f67 hB hle fun m => ?_
  simp (decide := true) only [WP_skip, WP_ops, WP_seq, WP_block, WP_exit, WP_ret, WP_cond, CdC_true, CdC_false, seqQ_normal, seqQ_exit, seqQ_ret, seqQ_pan, blkQ_normal, blkQ_exit, blkQ_ret, blkQ_pan, bodyQ_ret, bodyQ_normal, bodyQ_pan, bodyK_some, WP_aops, WPa_nil, WPa_wr, WrA_new, CallA_new, WPa_rd, WPa_call, WPa_callv, WPa_gd, RdA_some, CallA_ret, WPs_nil, WPs_rd, WPs_wr, WPs_call, WPs_callv, WPs_gd, RdK_some, WrK_some, CallK_ret, CallV_func, GdS_tt, GdS_tf, GdS_ft, GdS_ff, GdA_tt, GdA_tf, GdA_ft, GdA_ff, evR, lenV_slc, lenV_tail, lenV_str, iaV_slc, evX, AO.ev, Fr.put_some, Fr.put_none, Fr.at_set, Fr.at_ofArgs, List.getD_cons_zero, List.getD_cons_succ, List.getD_nil, binV, intOp, strOp, AV.cells, AHeap.cell_new, AHeap.range_new, AHeap.cell_old, AHeap.range_old, AHeap.get_new, AHeap.get_old, AHeap.put_new, AHeap.lt_new, AHeap.lt_alloc, AHeap.wf_alloc, AHeap.base_new, AHeap.base_alloc, evRVs, evRV, tup, List.map_cons, List.map_nil, List.cons_append, List.nil_append, List.append_nil, List.getElem?_cons_zero, List.getElem?_cons_succ, Nat.zero_add, Option.map_some, Option.map_none, if_true, if_false, ↓reduceIte, Bool.false_eq_true, eq_self, Bool.not_false, Bool.not_true, decide_true, decide_false, Option.isNone_none, Option.isNone_some, WPs_nxt, CallV_yield, hb]
  refine .same (.refl _) trivial ?_
  have e : (((goF l.length l 0 l.length : Nat) : Int) == (l.length : Int)) = isF l := Bool.eq_iff_iff.2 (by unfold isF; simp only [beq_iff_eq]; omega)
  rw [e]; exact h

def bytesN (s : ByteArray) : List Nat := s.data.toList.map UInt8.toNat
/-- What is wrong with a text of so many bytes at most. -/
def checkF (s : ByteArray) (most : Nat) : Int := if most < s.size then 3 else if isF (bytesN s) then 0 else 12
theorem f62 {H : AHeap} {Q : AE → AHeap → Prop} {s : ByteArray} {most : Nat} (hmost : most ≤ 1099511627776) (h : Q (.ret (.int .i64 (checkF s most))) H) : ACall Tryz.prog 62 [.str s, .int .i64 most] H Q := by
  refine ACall.comp [] mixed (by decide +kernel) fun F hF' => ?_
  cbv at hF'
  cases hF'
  refine ⟨by simp, fun hb ha => ?_⟩
  unfold checkF at h
  by_cases c1 : most < s.size
  · have e1 : decide ((s.size : Int) > (most : Int)) = true := by simp; omega
    rw [if_pos c1] at h
    simp (decide := true) only [WP_skip, WP_ops, WP_seq, WP_block, WP_exit, WP_ret, WP_cond, CdC_true, CdC_false, seqQ_normal, seqQ_exit, seqQ_ret, seqQ_pan, blkQ_normal, blkQ_exit, blkQ_ret, blkQ_pan, bodyQ_ret, bodyQ_normal, bodyQ_pan, bodyK_some, WP_aops, WPa_nil, WPa_wr, WrA_new, CallA_new, WPa_rd, WPa_call, WPa_callv, WPa_gd, RdA_some, CallA_ret, WPs_nil, WPs_rd, WPs_wr, WPs_call, WPs_callv, WPs_gd, RdK_some, WrK_some, CallK_ret, CallV_func, GdS_tt, GdS_tf, GdS_ft, GdS_ff, GdA_tt, GdA_tf, GdA_ft, GdA_ff, evR, lenV_slc, lenV_tail, lenV_str, iaV_slc, evX, AO.ev, Fr.put_some, Fr.put_none, Fr.at_set, Fr.at_ofArgs, List.getD_cons_zero, List.getD_cons_succ, List.getD_nil, binV, intOp, strOp, AV.cells, AHeap.cell_new, AHeap.range_new, AHeap.cell_old, AHeap.range_old, AHeap.get_new, AHeap.get_old, AHeap.put_new, AHeap.lt_new, AHeap.lt_alloc, AHeap.wf_alloc, AHeap.base_new, AHeap.base_alloc, evRVs, evRV, tup, List.map_cons, List.map_nil, List.cons_append, List.nil_append, List.append_nil, List.getElem?_cons_zero, List.getElem?_cons_succ, Nat.zero_add, Option.map_some, Option.map_none, if_true, if_false, ↓reduceIte, Bool.false_eq_true, eq_self, Bool.not_false, Bool.not_true, decide_true, decide_false, Option.isNone_none, Option.isNone_some, WPs_nxt, CallV_yield, hb, e1]
    exact .same (.refl _) trivial h
  · have e1 : decide ((s.size : Int) > (most : Int)) = false := by simp; omega
    rw [if_neg c1] at h
    have hcells : (s.data.toList.map fun b => AV.int .u8 (b.toNat : Int)) = bsA (bytesN s) := by simp [bsA, bytesN]
    have hlen : s.size = (bytesN s).length := by unfold bytesN; rw [List.length_map, Array.length_toList]; rfl
    have hB : BS (H.alloc (.cells (bsA (bytesN s)) (some 1))) H.next (bytesN s) :=
      ⟨AHeap.lt_new, by omega, fun b hb' => by
        obtain ⟨u, _, rfl⟩ := List.mem_map.1 hb'
        exact UInt8.toNat_lt u, AHeap.get_new hb⟩
    simp (decide := true) only [WP_skip, WP_ops, WP_seq, WP_block, WP_exit, WP_ret, WP_cond, CdC_true, CdC_false, seqQ_normal, seqQ_exit, seqQ_ret, seqQ_pan, blkQ_normal, blkQ_exit, blkQ_ret, blkQ_pan, bodyQ_ret, bodyQ_normal, bodyQ_pan, bodyK_some, WP_aops, WPa_nil, WPa_wr, WrA_new, CallA_new, WPa_rd, WPa_call, WPa_callv, WPa_gd, RdA_some, CallA_ret, WPs_nil, WPs_rd, WPs_wr, WPs_call, WPs_callv, WPs_gd, RdK_some, WrK_some, CallK_ret, CallV_func, GdS_tt, GdS_tf, GdS_ft, GdS_ff, GdA_tt, GdA_tf, GdA_ft, GdA_ff, evR, lenV_slc, lenV_tail, lenV_str, iaV_slc, evX, AO.ev, Fr.put_some, Fr.put_none, Fr.at_set, Fr.at_ofArgs, List.getD_cons_zero, List.getD_cons_succ, List.getD_nil, binV, intOp, strOp, AV.cells, AHeap.cell_new, AHeap.range_new, AHeap.cell_old, AHeap.range_old, AHeap.get_new, AHeap.get_old, AHeap.put_new, AHeap.lt_new, AHeap.lt_alloc, AHeap.wf_alloc, AHeap.base_new, AHeap.base_alloc, evRVs, evRV, tup, List.map_cons, List.map_nil, List.cons_append, List.nil_append, List.append_nil, List.getElem?_cons_zero, List.getElem?_cons_succ, Nat.zero_add, Option.map_some, Option.map_none, if_true, if_false, ↓reduceIte, Bool.false_eq_true, eq_self, Bool.not_false, Bool.not_true, decide_true, decide_false, Option.isNone_none, Option.isNone_some, WPs_nxt, CallV_yield, hb, e1, hcells]
    rw [hlen]
    refine f46 hB ?_
    cases hI : isF (bytesN s) with
    | true =>
      rw [if_pos hI] at h
      simp (decide := true) only [WP_skip, WP_ops, WP_seq, WP_block, WP_exit, WP_ret, WP_cond, CdC_true, CdC_false, seqQ_normal, seqQ_exit, seqQ_ret, seqQ_pan, blkQ_normal, blkQ_exit, blkQ_ret, blkQ_pan, bodyQ_ret, bodyQ_normal, bodyQ_pan, bodyK_some, WP_aops, WPa_nil, WPa_wr, WrA_new, CallA_new, WPa_rd, WPa_call, WPa_callv, WPa_gd, RdA_some, CallA_ret, WPs_nil, WPs_rd, WPs_wr, WPs_call, WPs_callv, WPs_gd, RdK_some, WrK_some, CallK_ret, CallV_func, GdS_tt, GdS_tf, GdS_ft, GdS_ff, GdA_tt, GdA_tf, GdA_ft, GdA_ff, evR, lenV_slc, lenV_tail, lenV_str, iaV_slc, evX, AO.ev, Fr.put_some, Fr.put_none, Fr.at_set, Fr.at_ofArgs, List.getD_cons_zero, List.getD_cons_succ, List.getD_nil, binV, intOp, strOp, AV.cells, AHeap.cell_new, AHeap.range_new, AHeap.cell_old, AHeap.range_old, AHeap.get_new, AHeap.get_old, AHeap.put_new, AHeap.lt_new, AHeap.lt_alloc, AHeap.wf_alloc, AHeap.base_new, AHeap.base_alloc, evRVs, evRV, tup, List.map_cons, List.map_nil, List.cons_append, List.nil_append, List.append_nil, List.getElem?_cons_zero, List.getElem?_cons_succ, Nat.zero_add, Option.map_some, Option.map_none, if_true, if_false, ↓reduceIte, Bool.false_eq_true, eq_self, Bool.not_false, Bool.not_true, decide_true, decide_false, Option.isNone_none, Option.isNone_some, WPs_nxt, CallV_yield, hb, Bool.not_true]
      exact .same (.new hb) trivial h
    | false =>
      rw [if_neg (by simp [hI])] at h
      simp (decide := true) only [WP_skip, WP_ops, WP_seq, WP_block, WP_exit, WP_ret, WP_cond, CdC_true, CdC_false, seqQ_normal, seqQ_exit, seqQ_ret, seqQ_pan, blkQ_normal, blkQ_exit, blkQ_ret, blkQ_pan, bodyQ_ret, bodyQ_normal, bodyQ_pan, bodyK_some, WP_aops, WPa_nil, WPa_wr, WrA_new, CallA_new, WPa_rd, WPa_call, WPa_callv, WPa_gd, RdA_some, CallA_ret, WPs_nil, WPs_rd, WPs_wr, WPs_call, WPs_callv, WPs_gd, RdK_some, WrK_some, CallK_ret, CallV_func, GdS_tt, GdS_tf, GdS_ft, GdS_ff, GdA_tt, GdA_tf, GdA_ft, GdA_ff, evR, lenV_slc, lenV_tail, lenV_str, iaV_slc, evX, AO.ev, Fr.put_some, Fr.put_none, Fr.at_set, Fr.at_ofArgs, List.getD_cons_zero, List.getD_cons_succ, List.getD_nil, binV, intOp, strOp, AV.cells, AHeap.cell_new, AHeap.range_new, AHeap.cell_old, AHeap.range_old, AHeap.get_new, AHeap.get_old, AHeap.put_new, AHeap.lt_new, AHeap.lt_alloc, AHeap.wf_alloc, AHeap.base_new, AHeap.base_alloc, evRVs, evRV, tup, List.map_cons, List.map_nil, List.cons_append, List.nil_append, List.append_nil, List.getElem?_cons_zero, List.getElem?_cons_succ, Nat.zero_add, Option.map_some, Option.map_none, if_true, if_false, ↓reduceIte, Bool.false_eq_true, eq_self, Bool.not_false, Bool.not_true, decide_true, decide_false, Option.isNone_none, Option.isNone_some, WPs_nxt, CallV_yield, hb, Bool.not_false]
      exact .same (.new hb) trivial h

def namedF (s : ByteArray) : Bool := !(s.data.toList == []) && checkF s 24 == 0
theorem f42 {H : AHeap} {Q : AE → AHeap → Prop} {s : ByteArray} (h : Q (.ret (.bool (namedF s))) H) : ACall Tryz.prog 42 [.str s] H Q := by
  refine ACall.comp [] mixed (by decide +kernel) fun F hF' => ?_
  cbv at hF'
  cases hF'
  refine ⟨by simp, fun hb ha => ?_⟩
  unfold namedF at h
  cases c1 : (s.data.toList == []) with
  | true =>
    simp (decide := true) only [WP_skip, WP_ops, WP_seq, WP_block, WP_exit, WP_ret, WP_cond, CdC_true, CdC_false, seqQ_normal, seqQ_exit, seqQ_ret, seqQ_pan, blkQ_normal, blkQ_exit, blkQ_ret, blkQ_pan, bodyQ_ret, bodyQ_normal, bodyQ_pan, bodyK_some, WP_aops, WPa_nil, WPa_wr, WrA_new, CallA_new, WPa_rd, WPa_call, WPa_callv, WPa_gd, RdA_some, CallA_ret, WPs_nil, WPs_rd, WPs_wr, WPs_call, WPs_callv, WPs_gd, RdK_some, WrK_some, CallK_ret, CallV_func, GdS_tt, GdS_tf, GdS_ft, GdS_ff, GdA_tt, GdA_tf, GdA_ft, GdA_ff, evR, lenV_slc, lenV_tail, lenV_str, iaV_slc, evX, AO.ev, Fr.put_some, Fr.put_none, Fr.at_set, Fr.at_ofArgs, List.getD_cons_zero, List.getD_cons_succ, List.getD_nil, binV, intOp, strOp, AV.cells, AHeap.cell_new, AHeap.range_new, AHeap.cell_old, AHeap.range_old, AHeap.get_new, AHeap.get_old, AHeap.put_new, AHeap.lt_new, AHeap.lt_alloc, AHeap.wf_alloc, AHeap.base_new, AHeap.base_alloc, evRVs, evRV, tup, List.map_cons, List.map_nil, List.cons_append, List.nil_append, List.append_nil, List.getElem?_cons_zero, List.getElem?_cons_succ, Nat.zero_add, Option.map_some, Option.map_none, if_true, if_false, ↓reduceIte, Bool.false_eq_true, eq_self, Bool.not_false, Bool.not_true, decide_true, decide_false, Option.isNone_none, Option.isNone_some, WPs_nxt, CallV_yield, hb, c1, Bool.not_true]
    refine .same (.refl _) trivial ?_
    simpa only [c1, Bool.not_true, Bool.false_and] using h
  | false =>
    simp (decide := true) only [WP_skip, WP_ops, WP_seq, WP_block, WP_exit, WP_ret, WP_cond, CdC_true, CdC_false, seqQ_normal, seqQ_exit, seqQ_ret, seqQ_pan, blkQ_normal, blkQ_exit, blkQ_ret, blkQ_pan, bodyQ_ret, bodyQ_normal, bodyQ_pan, bodyK_some, WP_aops, WPa_nil, WPa_wr, WrA_new, CallA_new, WPa_rd, WPa_call, WPa_callv, WPa_gd, RdA_some, CallA_ret, WPs_nil, WPs_rd, WPs_wr, WPs_call, WPs_callv, WPs_gd, RdK_some, WrK_some, CallK_ret, CallV_func, GdS_tt, GdS_tf, GdS_ft, GdS_ff, GdA_tt, GdA_tf, GdA_ft, GdA_ff, evR, lenV_slc, lenV_tail, lenV_str, iaV_slc, evX, AO.ev, Fr.put_some, Fr.put_none, Fr.at_set, Fr.at_ofArgs, List.getD_cons_zero, List.getD_cons_succ, List.getD_nil, binV, intOp, strOp, AV.cells, AHeap.cell_new, AHeap.range_new, AHeap.cell_old, AHeap.range_old, AHeap.get_new, AHeap.get_old, AHeap.put_new, AHeap.lt_new, AHeap.lt_alloc, AHeap.wf_alloc, AHeap.base_new, AHeap.base_alloc, evRVs, evRV, tup, List.map_cons, List.map_nil, List.cons_append, List.nil_append, List.append_nil, List.getElem?_cons_zero, List.getElem?_cons_succ, Nat.zero_add, Option.map_some, Option.map_none, if_true, if_false, ↓reduceIte, Bool.false_eq_true, eq_self, Bool.not_false, Bool.not_true, decide_true, decide_false, Option.isNone_none, Option.isNone_some, WPs_nxt, CallV_yield, hb, c1, Bool.not_false]
    refine f62 (most := 24) (by omega) ?_
    simp (decide := true) only [WP_skip, WP_ops, WP_seq, WP_block, WP_exit, WP_ret, WP_cond, CdC_true, CdC_false, seqQ_normal, seqQ_exit, seqQ_ret, seqQ_pan, blkQ_normal, blkQ_exit, blkQ_ret, blkQ_pan, bodyQ_ret, bodyQ_normal, bodyQ_pan, bodyK_some, WP_aops, WPa_nil, WPa_wr, WrA_new, CallA_new, WPa_rd, WPa_call, WPa_callv, WPa_gd, RdA_some, CallA_ret, WPs_nil, WPs_rd, WPs_wr, WPs_call, WPs_callv, WPs_gd, RdK_some, WrK_some, CallK_ret, CallV_func, GdS_tt, GdS_tf, GdS_ft, GdS_ff, GdA_tt, GdA_tf, GdA_ft, GdA_ff, evR, lenV_slc, lenV_tail, lenV_str, iaV_slc, evX, AO.ev, Fr.put_some, Fr.put_none, Fr.at_set, Fr.at_ofArgs, List.getD_cons_zero, List.getD_cons_succ, List.getD_nil, binV, intOp, strOp, AV.cells, AHeap.cell_new, AHeap.range_new, AHeap.cell_old, AHeap.range_old, AHeap.get_new, AHeap.get_old, AHeap.put_new, AHeap.lt_new, AHeap.lt_alloc, AHeap.wf_alloc, AHeap.base_new, AHeap.base_alloc, evRVs, evRV, tup, List.map_cons, List.map_nil, List.cons_append, List.nil_append, List.append_nil, List.getElem?_cons_zero, List.getElem?_cons_succ, Nat.zero_add, Option.map_some, Option.map_none, if_true, if_false, ↓reduceIte, Bool.false_eq_true, eq_self, Bool.not_false, Bool.not_true, decide_true, decide_false, Option.isNone_none, Option.isNone_some, WPs_nxt, CallV_yield, hb, c1, Bool.not_false]
    refine .same (.refl _) trivial ?_
    simpa only [c1, Bool.not_false, Bool.true_and] using h
end Go.AM
