/- The abstract machine, part B: the operations that only read, what they come to, and that the model's come to the same. -/
import Derived.Test.YthjeldlbjhjgfaaGreatAmA
namespace Go.AM
open Go.RowKit

/-! ### frames and operands -/
inductive AO where
  | tmp (i : Nat)
  | cst (v : AV)
def AO.ev (t : Fr) : AO → AV
  | .tmp i => Fr.at t i
  | .cst v => v

structure RelA (θ : Th) (n N : Nat) (t : Fr) (a : Act) : Prop where
  size : a.tmps.size = N
  get : ∀ i, i < N → a.tmps[i]? = some ((Fr.at t i).inst θ)
  out : ∀ i, N ≤ i → Fr.at t i = undefA
  ok : ∀ i, (Fr.at t i).ok n

theorem RelA.getD {θ : Th} {n N : Nat} {t : Fr} {a : Act} (h : RelA θ n N t a) (i : Nat) : a.tmps.getD i undef = (Fr.at t i).inst θ := by
  by_cases hi : i < N
  · rw [Array.getD_eq_getD_getElem?, h.get i hi]; rfl
  · rw [h.out i (by omega), Array.getD_eq_getD_getElem?, Array.getElem?_eq_none (by have := h.size; omega)]; rfl

theorem RelA.ext {θ θ' : Th} {n n' N : Nat} {t : Fr} {a : Act} (h : RelA θ n N t a) (he : Th.Ext n θ θ') (hn : n ≤ n') : RelA θ' n' N t a :=
  ⟨h.size, fun i hi => by rw [AV.inst_ext he _ (h.ok i)]; exact h.get i hi, h.out, fun i => AV.ok_mono hn _ (h.ok i)⟩

/-- A value is laid into a temporary. -/
theorem RelA.put {θ : Th} {n N : Nat} {t : Fr} {a : Act} (h : RelA θ n N t a) (d : Nat) (hd : d < N) (v : AV) (hv : v.ok n) : RelA θ n N (T.set t d v) (a.put (some d) (v.inst θ)) := by
  refine ⟨by simp [Act.put, h.size], fun i hi => ?_, fun i hi => ?_, fun i => ?_⟩
  · simp only [Act.put, Fr.at_set, Array.getElem?_setIfInBounds]
    by_cases e : i = d
    · subst e; rw [if_pos rfl, if_pos rfl, if_pos (by rw [h.size]; exact hd)]
    · rw [if_neg (fun hh => e hh.symm), if_neg e]; exact h.get i hi
  · rw [Fr.at_set, if_neg (by omega)]; exact h.out i hi
  · rw [Fr.at_set]; split
    · exact hv
    · exact h.ok i

/-! ### constants -/
def groundV : Value → Option AV
  | .bool b => some (.bool b)
  | .int k n => some (.int k n)
  | .string s => some (.str s)
  | .pointer none => some (.ptr none)
  | .slice none n c => some (.slice none n (.inl c))
  | .map none => some (.map none)
  | .nilFunc => some .nilFunc
  | .nilIface => some .nilIface
  | .agg cs => some (.agg (cs.toList.map .raw))
  | .tuple cs => some (.tuple (cs.toList.map .raw))
  | _ => none
/-- A scalar's constant. -/
def groundS : Value → Option AV
  | .bool b => some (.bool b)
  | .int k n => some (.int k n)
  | .string s => some (.str s)
  | .pointer none => some (.ptr none)
  | .slice none n c => some (.slice none n (.inl c))
  | .map none => some (.map none)
  | .nilFunc => some .nilFunc
  | .nilIface => some .nilIface
  | .iface t (.int k n) => some (.iface t (.int k n))
  | .iface t (.string s) => some (.iface t (.str s))
  | _ => none
def groundL : List Value → Option (List AV)
  | [] => some []
  | v :: r => match groundS v, groundL r with
    | some x, some l => some (x :: l)
    | _, _ => none
def ground : Value → Option AV
  | .agg cs => (groundL cs.toList).map .agg
  | .tuple cs => (groundL cs.toList).map .tuple
  | v => groundS v

theorem groundS_sound {v : Value} {x : AV} (h : groundS v = some x) (θ : Th) (n : Nat) : x.inst θ = v ∧ x.ok n := by
  unfold groundS at h
  split at h <;> first | (cases h; exact ⟨rfl, trivial⟩) | cases h
theorem groundL_sound : ∀ {l : List Value} {xs : List AV}, groundL l = some xs → ∀ (θ : Th) (n : Nat), AV.instL θ xs = l ∧ AV.okL n xs
  | [], xs, h, _, _ => by simp only [groundL] at h; cases h; exact ⟨rfl, trivial⟩
  | v :: r, xs, h, θ, n => by
    simp only [groundL] at h
    split at h
    · rename_i x l hx hl
      cases h
      have h1 := groundS_sound hx θ n
      have h2 := groundL_sound hl θ n
      exact ⟨by simp only [AV.instL, h1.1, h2.1], h1.2, h2.2⟩
    · cases h
theorem ground_sound {v : Value} {x : AV} (h : ground v = some x) (θ : Th) (n : Nat) : x.inst θ = v ∧ x.ok n := by
  unfold ground at h
  split at h
  · rename_i cs
    cases hg : groundL cs.toList with
    | none => rw [hg] at h; cases h
    | some l =>
      rw [hg] at h; cases h
      have := groundL_sound hg θ n
      exact ⟨by simp [AV.inst, this.1], this.2⟩
  · rename_i cs
    cases hg : groundL cs.toList with
    | none => rw [hg] at h; cases h
    | some l =>
      rw [hg] at h; cases h
      have := groundL_sound hg θ n
      exact ⟨by simp [AV.inst, this.1], this.2⟩
  · exact groundS_sound h θ n

def compO : Operand → Option AO
  | .tmp i => some (.tmp i)
  | .const v => (ground v).map .cst
  | .func f => some (.cst (.func (.func f) [] []))
  | .global _ => none

theorem compO_sound {x : Operand} {y : AO} (h : compO x = some y) {θ : Th} {n N : Nat} {t : Fr} {a : Act} (hr : RelA θ n N t a) : a.eval x = (y.ev t).inst θ ∧ (y.ev t).ok n := by
  cases x with
  | tmp i => simp only [compO] at h; cases h; exact ⟨hr.getD i, hr.ok i⟩
  | const v =>
    simp only [compO] at h
    cases hg : ground v with
    | none => rw [hg] at h; cases h
    | some w =>
      rw [hg] at h; cases h
      have := ground_sound hg θ n
      exact ⟨this.1.symm, this.2⟩
  | global g => cases h
  | func f => simp only [compO] at h; cases h; exact ⟨by simp [Act.eval, AO.ev, AV.inst, AV.instL], trivial, trivial⟩

def compL : List Operand → Option (List AO)
  | [] => some []
  | x :: r => match compO x, compL r with
    | some y, some l => some (y :: l)
    | _, _ => none
theorem compL_sound : ∀ {l : List Operand} {ys : List AO}, compL l = some ys → ∀ {θ : Th} {n N : Nat} {t : Fr} {a : Act}, RelA θ n N t a → l.map a.eval = AV.instL θ (ys.map (AO.ev t)) ∧ AV.okL n (ys.map (AO.ev t))
  | [], ys, h, _, _, _, _, _, _ => by simp only [compL] at h; cases h; exact ⟨rfl, trivial⟩
  | x :: r, ys, h, θ, n, N, t, a, hr => by
    simp only [compL] at h
    split at h
    · rename_i y l hy hl
      cases h
      have h1 := compO_sound hy hr
      have h2 := compL_sound hl hr
      exact ⟨by simp only [List.map_cons, AV.instL, h1.1, h2.1], h1.2, h2.2⟩
    · cases h

/-! ### cells of the heap -/
def AHeap.cell (H : AHeap) (a : Nat × Nat) : Option AV :=
  match H.get a.1 with
  | some (.cells cs _) => cs[a.2]?
  | _ => none
def AHeap.range (H : AHeap) (a : Nat × Nat) (n : Nat) : Option (List AV) :=
  match H.get a.1 with
  | some (.cells cs _) => if a.2 + n ≤ cs.length then some ((cs.drop a.2).take n) else none
  | _ => none

/-- What is asked of the blocks that an operation reads. -/
def Reads (θ : Th) (n : Nat) (H : AHeap) (w : World) (i : Nat) : Prop :=
  ∀ b, H.get i = some b → b.live = true → θ.off i = 0 ∧ BlkRd θ i b w.heap[θ.blk i]? ∧ b.ok n
theorem Own.reads {W0 : Giv} {θ : Th} {H : AHeap} {w : World} (h : Own W0 θ H w) (i : Nat) : Reads θ H.next H w i := fun b hb hl =>
  have ⟨_, h2, h3, h4, _⟩ := h.live i b hb hl
  ⟨h2, h3, h4⟩

theorem cell_sound {θ : Th} {n : Nat} {H : AHeap} {w : World} {a : Nat × Nat} {v : AV} (hR : Reads θ n H w a.1) (h : H.cell a = some v) : w.cell? (θ.addr a) = some (v.inst θ) ∧ v.ok n := by
  unfold AHeap.cell at h
  split at h
  · rename_i cs room hg
    obtain ⟨h0, ⟨c, e, f, ho, hc, _⟩, hok⟩ := hR _ hg rfl
    refine ⟨?_, (AV.okL_iff n cs).1 hok v (List.mem_of_getElem? h)⟩
    unfold World.cell? Th.addr
    simp only [ho, h0, Nat.zero_add, Option.isSome_none, Bool.false_eq_true, if_false]
    exact hc _ _ h
  · cases h
theorem range_sound {θ : Th} {n : Nat} {H : AHeap} {w : World} {a : Nat × Nat} {m : Nat} {l : List AV} (hR : Reads θ n H w a.1) (h : H.range a m = some l) :
    l.length = m ∧ (∀ (j : Nat) (v : AV), l[j]? = some v → w.cell? ((θ.addr a).add j) = some (v.inst θ)) ∧ AV.okL n l := by
  unfold AHeap.range at h
  split at h
  · rename_i cs room hg
    split at h
    · rename_i hle
      cases h
      obtain ⟨h0, ⟨c, e, f, ho, hc, _⟩, hok⟩ := hR _ hg rfl
      refine ⟨by simp; omega, fun j v hj => ?_, (AV.okL_iff n _).2 fun v hv => (AV.okL_iff n cs).1 hok v (List.mem_of_mem_drop (List.mem_of_mem_take hv))⟩
      rw [List.getElem?_take] at hj
      split at hj
      · rw [List.getElem?_drop] at hj
        unfold Th.addr
        rw [Addr.add_lit]
        unfold World.cell?
        simp only [ho, h0, Nat.zero_add, Option.isSome_none, Bool.false_eq_true, if_false]
        exact hc _ _ hj
      · cases hj
    · cases h
  · cases h
end Go.AM
