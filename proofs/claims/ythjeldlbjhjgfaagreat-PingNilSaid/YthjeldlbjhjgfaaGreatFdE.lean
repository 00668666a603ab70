/- Folders: a list with one more. -/
import Derived.Test.YthjeldlbjhjgfaaGreatFdD
namespace Go.AM
open Go Go.Proofs
set_option linter.unusedSimpArgs false
set_option linter.unusedVariables false
set_option maxRecDepth 100000

theorem cs0 (f : Fo) : f.cs[0]? = some (.int .u32 f.id) := Eq.trans rfl rfl
theorem cs1 (f : Fo) : f.cs[1]? = some (.int .u32 f.par) := Eq.trans rfl rfl
theorem cs2 (f : Fo) : f.cs[2]? = some (.str f.name) := Eq.trans rfl rfl
theorem cs3 (f : Fo) : f.cs[3]? = some (.int .u64 f.rev) := Eq.trans rfl rfl
theorem cs_len (f : Fo) : f.cs.length = 4 := Eq.trans rfl rfl
theorem cs_take (f : Fo) : f.cs.take 4 = f.cs := Eq.trans rfl rfl
theorem one_f (f : Fo) : f.cs.all (·.one) = true := Eq.trans rfl rfl
theorem splice_f (f : Fo) (a b c d : AV) : splice [a, b, c, d] 0 f.cs = f.cs := Eq.trans rfl rfl
theorem fillA_f (f : Fo) (a b c d : AV) : fillA [a, b, c, d] [(0, 4, .agg f.cs)] = some f.cs := Eq.trans rfl rfl

theorem app_known {H : AHeap} {sz bytes i m : Nat} {p : Nat × Nat} {x : AV} {old new : List AV} (hx : srcOf H sz x = some (m, new)) (hone : new.all (·.one) = true) (hm : 0 < m) (hr : H.range p (i * sz) = some old)
    (hs : (i + m) * bytes ≤ 140737488355328) (hs2 : i + m ≤ 9223372036854775807) :
    evApp H sz bytes (.slice (some p) i (.inl i)) x = some (.slice (some (H.next, 0)) (i + m) (.inr 0), H.alloc (.cells (old ++ new) (some sz))) := by
  simp only [evApp, hx, hone, Bool.not_true, Bool.false_eq_true, if_false, if_neg (show ¬ (m = 0 ∧ i ≤ i) by omega), if_neg (show ¬ i + m ≤ i by omega), hr, appMove, hs, hs2, and_self, if_true]
theorem app_none {H : AHeap} {sz bytes n i : Nat} {x : AV} {cs : List AV} (hx : srcOf H sz x = some (0, [])) (hg : H.get i = some (.cells cs (some sz))) (hl : cs.length = n * sz) (hb : H.base ≤ i) :
    evApp H sz bytes (.slice (some (i, 0)) n (.inr 0)) x = some (.slice (some (i, 0)) n (.inr 0), H) := by
  simp only [evApp, hx, List.all_nil, Bool.not_true, Bool.false_eq_true, if_false, hg, Nat.zero_mul, Nat.zero_add, hl, Nat.le_refl, hb, and_self, if_true]
theorem okL_cs (n : Nat) (l : List Fo) : AV.okL n (l.flatMap Fo.cs) := by
  rw [AV.okL_iff]; intro v hv
  obtain ⟨f, _, hv⟩ := List.mem_flatMap.1 hv
  simp only [Fo.cs, List.mem_cons, List.not_mem_nil, or_false] at hv
  rcases hv with rfl | rfl | rfl | rfl <;> trivial
theorem one_cs (l : List Fo) : (l.flatMap Fo.cs).all (·.one) = true := by
  rw [List.all_eq_true]; intro v hv
  obtain ⟨f, _, hv⟩ := List.mem_flatMap.1 hv
  simp only [Fo.cs, List.mem_cons, List.not_mem_nil, or_false] at hv
  rcases hv with rfl | rfl | rfl | rfl <;> rfl
theorem take_cs (l : List Fo) (i : Nat) : (l.flatMap Fo.cs).take (i * 4) = (l.take i).flatMap Fo.cs := by
  induction l generalizing i with
  | nil => simp
  | cons f l ih =>
    cases i with
    | zero => simp
    | succ i =>
      have h4 : (i + 1) * 4 = f.cs.length + i * 4 := by simp [Fo.cs]; omega
      rw [List.flatMap_cons, h4, List.take_length_add_append, ih]
      simp
theorem dropAll_cs (l : List Fo) (i : Nat) : (l.flatMap Fo.cs).drop (i * 4) = (l.drop i).flatMap Fo.cs := by
  induction l generalizing i with
  | nil => simp
  | cons f l ih =>
    cases i with
    | zero => simp
    | succ i =>
      have h4 : (i + 1) * 4 = f.cs.length + i * 4 := by simp [Fo.cs]; omega
      rw [List.flatMap_cons, h4, List.drop_length_add_append, ih]
      simp

/-- A list with a folder more, by its number. -/
def withF (l : List Fo) (f : Fo) : List Fo := l.takeWhile (fun x => decide (x.id < f.id)) ++ f :: l.dropWhile (fun x => decide (x.id < f.id))
theorem withF_at {l : List Fo} {f : Fo} {i : Nat} (hi : i ≤ l.length) (hlo : ∀ k (hk : k < l.length), k < i → l[k].id < f.id) (hhi : ∀ k (hk : k < l.length), i ≤ k → f.id ≤ l[k].id) : withF l f = l.take i ++ f :: l.drop i := by
  have key : ∀ (l : List Fo) (i : Nat), i ≤ l.length → (∀ k (hk : k < l.length), k < i → l[k].id < f.id) → (∀ k (hk : k < l.length), i ≤ k → f.id ≤ l[k].id) →
      l.takeWhile (fun x => decide (x.id < f.id)) = l.take i ∧ l.dropWhile (fun x => decide (x.id < f.id)) = l.drop i := by
    intro l
    induction l with
    | nil => intro i hi _ _; simp at hi; subst hi; simp
    | cons g l ih =>
      intro i hi hlo hhi
      cases i with
      | zero =>
        have := hhi 0 (by simp) (by omega)
        simp only [List.getElem_cons_zero] at this
        have hd : decide (g.id < f.id) = false := by simp; omega
        simp [List.takeWhile_cons, List.dropWhile_cons, hd]
      | succ i =>
        have := hlo 0 (by simp) (by omega)
        simp only [List.getElem_cons_zero] at this
        have hd : decide (g.id < f.id) = true := by simpa using this
        obtain ⟨h1, h2⟩ := ih i (by simpa using hi) (fun k hk hki => by have := hlo (k + 1) (by simpa using hk) (by omega); simpa using this) (fun k hk hki => by have := hhi (k + 1) (by simpa using hk) (by omega); simpa using this)
        simp [List.takeWhile_cons, List.dropWhile_cons, hd, h1, h2]
  obtain ⟨h1, h2⟩ := key l i hi hlo hhi
  rw [withF, h1, h2]

end Go.AM
