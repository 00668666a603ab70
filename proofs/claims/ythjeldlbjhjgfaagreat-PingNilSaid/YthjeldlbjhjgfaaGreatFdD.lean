/- Folders: where one belongs among many; with one more. -/
import Derived.Test.YthjeldlbjhjgfaaGreatFdC
namespace Go.AM
open Go Go.Proofs
set_option linter.unusedSimpArgs false
set_option linter.unusedVariables false
set_option maxRecDepth 100000

def Fo.ok (f : Fo) : Prop := (0 ≤ f.id ∧ f.id < 4294967296) ∧ (0 ≤ f.par ∧ f.par < 4294967296)
theorem half (i j : Nat) (h : i + j < 4611686018427387904) : IntKind.i64.wrap ((IntKind.u64.wrap (IntKind.i64.wrap ((i : Int) + (j : Int)))) / 2) = (((i + j) / 2 : Nat) : Int) := by
  have h1 : IntKind.i64.wrap ((i : Int) + (j : Int)) = ((i + j : Nat) : Int) := by rw [IntKind.wrap_i64]; omega
  have h2 : IntKind.u64.wrap ((i + j : Nat) : Int) = ((i + j : Nat) : Int) := by
    show (((i + j : Nat) : Int) % (2 ^ 64 : Int)) = _
    omega
  rw [h1, h2, IntKind.wrap_i64]; omega
theorem shr_one (k : IntKind) (a : Int) (hk : 1 ≤ k.bits) : shOp .shr k a 1 = some (.int k (a / 2)) := by
  unfold shOp
  rw [if_neg (by decide), show min (Int.toNat 1) k.bits = 1 by simp; omega]
  simp [Int.fdiv_eq_ediv]

/-- What a slice's room is known of. -/
def SC (H : AHeap) (sz : Nat) (p : Nat × Nat) (n : Nat) : Nat ⊕ Nat → Prop
  | .inl c => n ≤ c
  | .inr k => ∃ cs, H.get p.1 = some (.cells cs (some sz)) ∧ p.2 = k * sz ∧ p.2 + n * sz ≤ cs.length
theorem SC.trans {H H' : AHeap} {sz : Nat} {p : Nat × Nat} {n : Nat} {c : Nat ⊕ Nat} (h : SC H sz p n c) (hp : p.1 < H.next) (hle : H.Le H') : SC H' sz p n c := by
  cases c with
  | inl c => exact h
  | inr k => obtain ⟨cs, h1, h2⟩ := h; exact ⟨cs, by rw [hle.get _ hp]; exact h1, h2⟩
/-- s[:i:i] -/
theorem sl_head {H : AHeap} {sz : Nat} {p : Nat × Nat} {n : Nat} {c : Nat ⊕ Nat} (h : SC H sz p n c) (hsz : 0 < sz) {i : Nat} (hi : i ≤ n) {k1 k2 : IntKind} :
    slV H sz (.slice (some p) n c) none (some (.int k1 i)) (some (.int k2 i)) = some (.slice (some p) i (.inl i)) := by
  cases c with
  | inl c =>
    have h' : n ≤ c := h
    have a1 : (i : Int) ≤ (c : Int) := by omega
    simp only [slV, slX, bnd]
    simp [a1]
  | inr k =>
    obtain ⟨cs, h1, h2, h3⟩ := h
    have a1 : (i : Int) ≤ (n : Int) := by omega
    simp only [slV, slI, h1, bnd]
    rw [if_pos ⟨trivial, hsz, h2, h3⟩]
    simp [a1]
/-- s[i:] -/
theorem sl_tail {H : AHeap} {sz : Nat} {p : Nat × Nat} {n : Nat} {c : Nat ⊕ Nat} (h : SC H sz p n c) (hsz : 0 < sz) {cs : List AV} (hr : H.range p (n * sz) = some cs) {i : Nat} (hi : i ≤ n) {k1 : IntKind} :
    ∃ v, slV H sz (.slice (some p) n c) (some (.int k1 i)) none none = some v ∧ srcOf H sz v = some (n - i, (cs.drop (i * sz)).take ((n - i) * sz)) := by
  have hle : i * sz ≤ n * sz := Nat.mul_le_mul_right _ hi
  have hsub : (n - i) * sz = n * sz - i * sz := Nat.sub_mul ..
  cases c with
  | inl c =>
    have h' : n ≤ c := h
    have a1 : (i : Int) ≤ (n : Int) := by omega
    have a2 : n ≤ c := h'
    refine ⟨.slice (some (if c = i then p else (p.1, p.2 + i * sz))) (n - i) (.inl (c - i)), ?_, ?_⟩
    · simp only [slV, slX, bnd]
      by_cases e : c = i <;> simp [a1, e]
    · by_cases e : c = i
      · have : n - i = 0 := by omega
        have h0 := AHeap.range_part (off := 0) (m := 0) hr (by omega)
        simp only [srcOf, e, if_true, this, Nat.zero_mul, List.take_zero]
        have hh : H.range p 0 = some [] := by simpa using h0
        rw [hh]; rfl
      · simp only [srcOf, if_neg e]
        rw [AHeap.range_part hr (by omega)]; rfl
  | inr k =>
    obtain ⟨cs', h1, h2, h3⟩ := h
    have a1 : (i : Int) ≤ (n : Int) := by omega
    by_cases e : i < n
    · refine ⟨.slice (some (p.1, p.2 + i * sz)) (n - i) (.inr (k + i)), ?_, ?_⟩
      · simp only [slV, slI, h1, bnd]
        rw [if_pos ⟨trivial, hsz, h2, h3⟩]
        simp [a1, e]
      · simp only [srcOf]
        rw [AHeap.range_part hr (by omega)]; rfl
    · refine ⟨.tail p n sz k, ?_, ?_⟩
      · simp only [slV, slI, h1, bnd]
        rw [if_pos ⟨trivial, hsz, h2, h3⟩]
        simp [a1, e]
      · have : n - i = 0 := by omega
        simp [srcOf, this]
end Go.AM
