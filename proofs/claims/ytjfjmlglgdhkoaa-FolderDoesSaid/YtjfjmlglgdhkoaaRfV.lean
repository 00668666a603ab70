/- The document's texts: the rune at the beginning of bytes. -/
import Derived.Test.YtjfjmlglgdhkoaaRfU
namespace Go.AM
open Go Go.Proofs
set_option linter.unusedSimpArgs false
set_option linter.unusedVariables false
set_option maxRecDepth 100000
set_option maxHeartbeats 8000000

/-! ### no program in sight -/
def refP (m : List Nat) (fst : Int) : Nat → Int
  | 0 => ((m.getD 0 0 : Nat) : Int) - fst
  | i + 1 => 64 * refP m fst i + (((m.getD (i + 1) 0 : Nat) : Int) - 128)
def firstR (s : Nat) : Int := match s with
  | 2 => 192
  | 3 => 224
  | 4 => 240
  | _ => 0
def refR (m : List Nat) (s : Nat) : Int := refP m (firstR s) (s - 1)
def okR (m : List Nat) (s : Nat) : Prop := bytesR (refR m s) = m.take s
theorem getD_lt {m : List Nat} (hb : ∀ b ∈ m, b < 256) (i : Nat) : m.getD i 0 < 256 := by
  rw [List.getD_eq_getElem?_getD]
  cases h : m[i]? with
  | none => simp
  | some x => simpa using hb x (List.mem_of_getElem? h)
theorem refP_bd {m : List Nat} (hb : ∀ b ∈ m, b < 256) {s i : Nat} (hi : i ≤ 3) : -134217728 < refP m (firstR s) i ∧ refP m (firstR s) i < 134217728 := by
  have hf : 0 ≤ firstR s ∧ firstR s ≤ 240 := by unfold firstR; split <;> omega
  have h0 := getD_lt hb 0
  have h1 := getD_lt hb 1
  have h2 := getD_lt hb 2
  have h3 := getD_lt hb 3
  have : i = 0 ∨ i = 1 ∨ i = 2 ∨ i = 3 := by omega
  rcases this with rfl | rfl | rfl | rfl <;> simp only [refP, Nat.zero_add, Nat.reduceAdd] <;> omega
theorem bytes_cases (r : Int) : (bytesR r = []) ∨ (bytesR r = [r.toNat] ∧ 1 ≤ r ∧ r < 128) ∨ (bytesR r = [192 + r.toNat / 64, 128 + r.toNat % 64] ∧ 128 ≤ r ∧ r < 2048) ∨
    (bytesR r = [224 + r.toNat / 4096, 128 + r.toNat / 64 % 64, 128 + r.toNat % 64] ∧ 2048 ≤ r ∧ r < 65536 ∧ ¬ (55296 ≤ r ∧ r ≤ 57343)) ∨
    (bytesR r = [240 + r.toNat / 262144, 128 + r.toNat / 4096 % 64, 128 + r.toNat / 64 % 64, 128 + r.toNat % 64] ∧ 65536 ≤ r ∧ r ≤ 1114111) := by
  unfold bytesR
  split
  · exact .inl rfl
  · split
    · exact .inr (.inl ⟨rfl, by omega, by omega⟩)
    · split
      · exact .inr (.inr (.inl ⟨rfl, by omega, by omega⟩))
      · split
        · exact .inr (.inr (.inr (.inl ⟨rfl, by omega, by omega, by omega⟩)))
        · exact .inr (.inr (.inr (.inr ⟨rfl, by omega, by omega⟩)))
theorem beg1 {c : Nat} (h : c < 128) : begunF c = (1, c, 1) := by simp [begunF, h]
theorem beg2 {c : Nat} (h : c / 32 = 6) : begunF c = (2, c % 32, 128) := by unfold begunF; rw [if_neg (by omega), if_pos h]
theorem beg3 {c : Nat} (h : c / 16 = 14) : begunF c = (3, c % 16, 2048) := by unfold begunF; rw [if_neg (by omega), if_neg (by omega), if_pos h]
theorem beg4 {c : Nat} (h : c / 8 = 30) : begunF c = (4, c % 8, 65536) := by unfold begunF; rw [if_neg (by omega), if_neg (by omega), if_neg (by omega), if_pos h]
theorem beg_cases (c : Nat) : (begunF c).1 = 0 ∨ c < 128 ∨ c / 32 = 6 ∨ c / 16 = 14 ∨ c / 8 = 30 := by
  unfold begunF
  split
  · simp_all
  · split
    · simp_all
    · split
      · simp_all
      · split
        · simp_all
        · simp
theorem ok_rune {m : List Nat} (hb : ∀ b ∈ m, b < 256) {s : Nat} (h1 : 1 ≤ s) (h4 : s ≤ 4) (hs : s ≤ m.length) (h : okR m s) : runeF m = ((refR m s).toNat, s) ∧ 0 ≤ refR m s := by
  unfold okR at h
  have hlen : (bytesR (refR m s)).length = s := by rw [h, List.length_take]; omega
  have : s = 1 ∨ s = 2 ∨ s = 3 ∨ s = 4 := by omega
  rcases this with rfl | rfl | rfl | rfl
  · match m, hs with
    | c :: rest, _ =>
      have hr : refR (c :: rest) 1 = (c : Int) := by simp [refR, refP, firstR]
      rw [hr] at h hlen ⊢
      rcases bytes_cases (c : Int) with e | ⟨e, k1, k2⟩ | ⟨e, k1, k2⟩ | ⟨e, k1, k2, k3⟩ | ⟨e, k1, k2⟩ <;> rw [e] at hlen <;> simp only [List.length_nil, List.length_cons] at hlen <;> first | omega | skip
      have hc : c < 128 := by omega
      refine ⟨?_, by omega⟩
      simp only [runeF, beg1 hc]
      rw [if_neg (by simp), if_pos (by simp), if_neg (by simp [runF]; omega)]
      simp [runF]
  · match m, hs with
    | c :: d :: rest, _ =>
      have hr : refR (c :: d :: rest) 2 = 64 * ((c : Int) - 192) + ((d : Int) - 128) := by simp [refR, refP, firstR]
      rw [hr] at h hlen ⊢
      rcases bytes_cases (64 * ((c : Int) - 192) + ((d : Int) - 128)) with e | ⟨e, k1, k2⟩ | ⟨e, k1, k2⟩ | ⟨e, k1, k2, k3⟩ | ⟨e, k1, k2⟩ <;> rw [e] at hlen h <;> simp only [List.length_nil, List.length_cons] at hlen <;> first | omega | skip
      simp only [List.take_succ_cons, List.take_zero, List.cons.injEq, and_true] at h
      have hc : c / 32 = 6 := by omega
      have hd : d / 64 = 2 := by omega
      have hrun : c % 32 * 64 + d % 64 = (64 * ((c : Int) - 192) + ((d : Int) - 128)).toNat := by omega
      refine ⟨?_, by omega⟩
      simp only [runeF, beg2 hc]
      rw [if_neg (by simp), if_pos (by simp [contF, hd]), if_neg (by simp [runF]; omega)]
      simp only [runF, Nat.reduceSub, List.take_succ_cons, List.take_zero, List.foldl_cons, List.foldl_nil, hrun]
  · match m, hs with
    | c :: d :: e' :: rest, _ =>
      have hr : refR (c :: d :: e' :: rest) 3 = 64 * (64 * ((c : Int) - 224) + ((d : Int) - 128)) + ((e' : Int) - 128) := by simp [refR, refP, firstR]
      rw [hr] at h hlen ⊢
      have hdl := hb d (by simp)
      have hel := hb e' (by simp)
      rcases bytes_cases (64 * (64 * ((c : Int) - 224) + ((d : Int) - 128)) + ((e' : Int) - 128)) with e | ⟨e, k1, k2⟩ | ⟨e, k1, k2⟩ | ⟨e, k1, k2, k3⟩ | ⟨e, k1, k2⟩ <;> rw [e] at hlen h <;> simp only [List.length_nil, List.length_cons] at hlen <;> first | omega | skip
      simp only [List.take_succ_cons, List.take_zero, List.cons.injEq, and_true] at h
      have hc : c / 16 = 14 := by omega
      have hd : d / 64 = 2 := by omega
      have he : e' / 64 = 2 := by omega
      have hrun : (c % 16 * 64 + d % 64) * 64 + e' % 64 = (64 * (64 * ((c : Int) - 224) + ((d : Int) - 128)) + ((e' : Int) - 128)).toNat := by omega
      refine ⟨?_, by omega⟩
      simp only [runeF, beg3 hc]
      rw [if_neg (by simp), if_pos (by simp [contF, hd, he]), if_neg (by simp [runF]; omega)]
      simp only [runF, Nat.reduceSub, List.take_succ_cons, List.take_zero, List.foldl_cons, List.foldl_nil, hrun]
  · match m, hs with
    | c :: d :: e' :: g :: rest, _ =>
      have hr : refR (c :: d :: e' :: g :: rest) 4 = 64 * (64 * (64 * ((c : Int) - 240) + ((d : Int) - 128)) + ((e' : Int) - 128)) + ((g : Int) - 128) := by simp [refR, refP, firstR]
      rw [hr] at h hlen ⊢
      have hdl := hb d (by simp)
      have hel := hb e' (by simp)
      have hgl := hb g (by simp)
      rcases bytes_cases (64 * (64 * (64 * ((c : Int) - 240) + ((d : Int) - 128)) + ((e' : Int) - 128)) + ((g : Int) - 128)) with e | ⟨e, k1, k2⟩ | ⟨e, k1, k2⟩ | ⟨e, k1, k2, k3⟩ | ⟨e, k1, k2⟩ <;> rw [e] at hlen h <;> simp only [List.length_nil, List.length_cons] at hlen <;> first | omega | skip
      simp only [List.take_succ_cons, List.take_zero, List.cons.injEq, and_true] at h
      have hc : c / 8 = 30 := by omega
      have hd : d / 64 = 2 := by omega
      have he : e' / 64 = 2 := by omega
      have hg : g / 64 = 2 := by omega
      have hrun : ((c % 8 * 64 + d % 64) * 64 + e' % 64) * 64 + g % 64 = (64 * (64 * (64 * ((c : Int) - 240) + ((d : Int) - 128)) + ((e' : Int) - 128)) + ((g : Int) - 128)).toNat := by omega
      refine ⟨?_, by omega⟩
      simp only [runeF, beg4 hc]
      rw [if_neg (by simp), if_pos (by simp [contF, hd, he, hg]), if_neg (by simp [runF]; omega)]
      simp only [runF, Nat.reduceSub, List.take_succ_cons, List.take_zero, List.foldl_cons, List.foldl_nil, hrun]
theorem bytesR_1 {r : Int} (h1 : 1 ≤ r) (h2 : r < 128) : bytesR r = [r.toNat] := by unfold bytesR; rw [if_neg (by omega), if_pos h2]
theorem bytesR_2 {r : Int} (h1 : 128 ≤ r) (h2 : r < 2048) : bytesR r = [192 + r.toNat / 64, 128 + r.toNat % 64] := by unfold bytesR; rw [if_neg (by omega), if_neg (by omega), if_pos h2]
theorem bytesR_3 {r : Int} (h1 : 2048 ≤ r) (h2 : r < 65536) (h3 : ¬ (55296 ≤ r ∧ r ≤ 57343)) : bytesR r = [224 + r.toNat / 4096, 128 + r.toNat / 64 % 64, 128 + r.toNat % 64] := by
  unfold bytesR; rw [if_neg (by omega), if_neg (by omega), if_neg (by omega), if_pos h2]
theorem bytesR_4 {r : Int} (h1 : 65536 ≤ r) (h2 : r ≤ 1114111) : bytesR r = [240 + r.toNat / 262144, 128 + r.toNat / 4096 % 64, 128 + r.toNat / 64 % 64, 128 + r.toNat % 64] := by
  unfold bytesR; rw [if_neg (by omega), if_neg (by omega), if_neg (by omega), if_neg (by omega)]
theorem no_rune {m : List Nat} (hb : ∀ b ∈ m, b < 256) (hno : ∀ s, 1 ≤ s → s ≤ 4 → s ≤ m.length → ¬ okR m s) : runeF m = (0, 0) := by
  cases m with
  | nil => rfl
  | cons c rest =>
    simp only [runeF]
    split
    · rfl
    rename_i q1
    split
    · rename_i q2
      split
      · rfl
      · rename_i q3
        exfalso
        simp only [not_or, Nat.not_lt] at q1 q3
        obtain ⟨q0, q1⟩ := q1
        obtain ⟨q3, q4, q5⟩ := q3
        rcases beg_cases c with hc | hc | hc | hc | hc
        · exact q0 hc
        · rw [beg1 hc] at q3 q4 q5
          simp [runF] at q3 q4 q5
          refine hno 1 (by omega) (by omega) (by simp) ?_
          have hr : refR (c :: rest) 1 = (c : Int) := by simp [refR, refP, firstR]
          rw [okR, hr, bytesR_1 (by omega) (by omega)]
          simp
        · rw [beg2 hc] at q1 q2 q3 q4 q5
          match rest, q1, q2, q3, q4, q5 with
          | d :: rest, _, q2, q3, q4, q5 =>
            simp only [runF, Nat.reduceSub, List.take_succ_cons, List.take_zero, List.foldl_cons, List.foldl_nil] at q3 q4 q5
            simp [contF] at q2
            refine hno 2 (by omega) (by omega) (by simp) ?_
            have hr : refR (c :: d :: rest) 2 = 64 * ((c : Int) - 192) + ((d : Int) - 128) := by simp [refR, refP, firstR]
            rw [okR, hr, bytesR_2 (by omega) (by omega)]
            simp only [List.take_succ_cons, List.take_zero, List.cons.injEq, and_true]
            omega
        · rw [beg3 hc] at q1 q2 q3 q4 q5
          match rest, q1, q2, q3, q4, q5 with
          | [d], q1, _, _, _, _ => simp at q1
          | d :: e :: rest, _, q2, q3, q4, q5 =>
            simp only [runF, Nat.reduceSub, List.take_succ_cons, List.take_zero, List.foldl_cons, List.foldl_nil] at q3 q4 q5
            simp [contF] at q2
            refine hno 3 (by omega) (by omega) (by simp) ?_
            have hr : refR (c :: d :: e :: rest) 3 = 64 * (64 * ((c : Int) - 224) + ((d : Int) - 128)) + ((e : Int) - 128) := by simp [refR, refP, firstR]
            rw [okR, hr, bytesR_3 (by omega) (by omega) (by omega)]
            simp only [List.take_succ_cons, List.take_zero, List.cons.injEq, and_true]
            omega
        · rw [beg4 hc] at q1 q2 q3 q4 q5
          match rest, q1, q2, q3, q4, q5 with
          | [d], q1, _, _, _, _ => simp at q1
          | [d, e], q1, _, _, _, _ => simp at q1
          | d :: e :: g :: rest, _, q2, q3, q4, q5 =>
            simp only [runF, Nat.reduceSub, List.take_succ_cons, List.take_zero, List.foldl_cons, List.foldl_nil] at q3 q4 q5
            simp [contF] at q2
            refine hno 4 (by omega) (by omega) (by simp) ?_
            have hr : refR (c :: d :: e :: g :: rest) 4 = 64 * (64 * (64 * ((c : Int) - 240) + ((d : Int) - 128)) + ((e : Int) - 128)) + ((g : Int) - 128) := by simp [refR, refP, firstR]
            rw [okR, hr, bytesR_4 (by omega) (by omega)]
            simp only [List.take_succ_cons, List.take_zero, List.cons.injEq, and_true]
            omega
    · rfl
end Go.AM
