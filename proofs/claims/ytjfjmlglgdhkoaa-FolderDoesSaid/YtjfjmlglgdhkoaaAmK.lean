/- The abstract machine, part K: an operation of a region that draws may be taken first where what it reads is kept by those that may come ahead of it. (After Derived/OrdersHeld.lean's law, with what is to be kept told for each operation taken.) -/
import Derived.Test.YtjfjmlglgdhkoaaAmJ
namespace Go.AM
set_option linter.unusedSimpArgs false
set_option linter.unusedVariables false
open Go.RowKit

section
variable {P : Program} {ops : Array Oper} {Q : Exit → Act → World → Prop} {md : Region.Mode}

/-- Does operation j wait for i? -/
def waitsFor (md : Region.Mode) (ops : Array Oper) (i j : Nat) : Bool :=
  match ops[j]? with
  | some o => o.after.any fun e => Region.binds md e && e.on == i
  | none => false

/-- Whatever order is picked from here on; of each operation i of T what it leans on holds behind every operation that does not wait for i. -/
def WH (P : Program) (md : Region.Mode) (ops : Array Oper) (Q : Exit → Act → World → Prop) : Nat → Array Bool → List (Nat × (World → Prop)) → Act → World → Prop
  | 0, listed, _, a, w => Region.ready md ops listed = [] ∧ Q .normal a w
  | fuel + 1, listed, T, a, w =>
    (Region.ready md ops listed = [] → Q .normal a w) ∧
    ∀ j ∈ Region.ready md ops listed, wpOp P ops Q j (fun a' w' => (∀ x ∈ T, waitsFor md ops x.1 j = false → x.2 w') ∧
      WH P md ops Q fuel (listed.setIfInBounds j true) (T.filter fun x => !waitsFor md ops x.1 j) a' w') a w

theorem wpAny_of_WH : ∀ (fuel : Nat) (listed : Array Bool) (T : List (Nat × (World → Prop))) (a : Act) (w : World), WH P md ops Q fuel listed T a w → wpAny P md ops Q fuel listed a w
  | 0, _, _, _, _, h => h
  | fuel + 1, _, _, _, _, h => ⟨h.1, fun i hi => wpOp_mono (fun a' w' h' => wpAny_of_WH fuel _ _ a' w' h'.2) (h.2 i hi)⟩

/-- Fewer things to keep. -/
theorem WH_less : ∀ {f : Nat} {listed : Array Bool} {T1 : List (Nat × (World → Prop))} {a : Act} {w : World}, WH P md ops Q f listed T1 a w → ∀ T2, (∀ x ∈ T2, x ∈ T1) → WH P md ops Q f listed T2 a w := by
  intro f
  induction f with
  | zero => intro listed T1 a w h T2 _; exact h
  | succ f ih2 =>
    intro listed T1 a w h T2 h2
    refine ⟨h.1, fun j hj => wpOp_mono (fun a' w' h' => ⟨fun x hx hw => h'.1 x (h2 x hx) hw, ih2 h'.2 _ fun x hx => ?_⟩) (h.2 j hj)⟩
    rw [List.mem_filter] at hx ⊢
    exact ⟨h2 x hx.1, hx.2⟩

theorem WH_first {i : Nat} {oi : Oper} {v : Value} {S : World → Prop} (hi : ops[i]? = some oi) (hsel : ∀ (j : Nat) (o : Oper) cs b, ops[j]? = some o → o.op ≠ .select cs b)
    (hQ : ∀ c a w, Q (.panic c) (a.put oi.dst v) w → Q (.panic c) a w) :
    ∀ (fuel : Nat) (listed : Array Bool) (T : List (Nat × (World → Prop))) (a : Act) (w : World),
      (∀ j oj, ops[j]? = some oj → j ≠ i → listed.getD j true = false → (∀ e ∈ oj.after, Region.binds md e = true → e.on ≠ i) → oi.apart ops oj = true) →
      i ∈ Region.ready md ops listed → YieldsIf P ops S oi v a → S w → (∀ x ∈ T, x.2 w) →
      WH P md ops Q fuel (listed.setIfInBounds i true) ((i, S) :: T) (a.put oi.dst v) w → WH P md ops Q (fuel + 1) listed T a w := by
  intro fuel
  induction fuel with
  | zero =>
    intro listed T a w _ hr hy hS hT H
    refine ⟨fun h => (by rw [h] at hr; cases hr), fun j hj => ?_⟩
    by_cases hji : j = i
    · subst hji
      exact hy.wpOp hi hS ⟨fun x hx _ => hT x hx, WH_less H _ fun x hx => List.mem_cons_of_mem _ ((List.mem_filter.1 hx).1)⟩
    · have := ready_mono hj hji
      rw [H.1] at this
      cases this
  | succ fuel ih =>
    intro listed T a w hfree hr hy hS hT H
    refine ⟨fun h => (by rw [h] at hr; cases hr), fun j hj => ?_⟩
    by_cases hji : j = i
    · subst hji
      exact hy.wpOp hi hS ⟨fun x hx _ => hT x hx, WH_less H _ fun x hx => List.mem_cons_of_mem _ ((List.mem_filter.1 hx).1)⟩
    · have h1 := H.2 j (ready_mono hj hji)
      obtain ⟨hjun, oj, hoj, hall⟩ := mem_ready.1 hj
      have hnot : ∀ e ∈ oj.after, Region.binds md e = true → e.on ≠ i := fun e he hb heq => by
        have h1 := hall e he hb
        have h0 := (mem_ready.1 hr).1
        rw [heq] at h1
        rcases Nat.lt_or_ge i listed.size with h' | h'
        · simp [h'] at h0 h1; rw [h0] at h1; cases h1
        · simp [Array.getElem?_eq_none h'] at h1
      have hwait : waitsFor md ops i j = false := by
        unfold waitsFor
        rw [hoj]
        simp only
        rw [Array.any_eq_false']
        intro e he
        simp only [Bool.and_eq_true, beq_iff_eq, not_and]
        exact fun hb => hnot e he hb
      have h2 := wpOp_putIf hoj (hfree j oj hoj hji hjun hnot) (fun cs b => hsel i oi cs b hi) (fun cs b => hsel j oj cs b hoj) hQ hy h1
      have hfree' : ∀ k ok, ops[k]? = some ok → k ≠ i → (listed.setIfInBounds j true).getD k true = false →
          (∀ e ∈ ok.after, Region.binds md e = true → e.on ≠ i) → oi.apart ops ok = true := fun k ok hk hki hun hno => by
        refine hfree k ok hk hki ?_ hno
        by_cases hjk : j = k
        · subst hjk; exact hjun
        · rw [getD_set_ne true hjk] at hun; exact hun
      refine wpOp_mono (fun a' w' h3 => ?_) h2
      obtain ⟨hy', hkeep, hW⟩ := h3
      have hS' : S w' := hkeep (i, S) List.mem_cons_self hwait
      refine ⟨fun x hx hw => hkeep x (List.mem_cons_of_mem _ hx) hw, ?_⟩
      refine ih (listed.setIfInBounds j true) _ a' w' hfree' (ready_mono hr (Ne.symm hji)) hy' hS' (fun x hx => ?_) ?_
      · rw [List.mem_filter] at hx
        exact hkeep x (List.mem_cons_of_mem _ hx.1) (by simpa using hx.2)
      · rw [Array.setIfInBounds_comm _ _ hji]
        rw [List.filter_cons] at hW
        simpa [hwait] using hW

theorem WH_take {i : Nat} {oi : Oper} {v : Value} {fuel : Nat} {listed : Array Bool} {T : List (Nat × (World → Prop))} {a : Act} {w : World} {S : World → Prop} (hi : ops[i]? = some oi)
    (hs : Region.noSelect ops = true) (hf : Region.free md ops listed i = true) (hr : (Region.ready md ops listed).contains i = true)
    (hQ : ∀ c a w, Q (.panic c) (a.put oi.dst v) w → Q (.panic c) a w) (hy : YieldsIf P ops S oi v a) (hS : S w) (hT : ∀ x ∈ T, x.2 w)
    (h : WH P md ops Q fuel (listed.setIfInBounds i true) ((i, S) :: T) (a.put oi.dst v) w) : WH P md ops Q (fuel + 1) listed T a w :=
  WH_first hi (Region.noSelect_spec hs) hQ fuel listed T a w (Region.free_spec hi hf) (by simpa using hr) hy hS hT h

theorem WH_one {i : Nat} {fuel : Nat} {listed : Array Bool} {T : List (Nat × (World → Prop))} {a : Act} {w : World} (hr : Region.ready md ops listed = [i])
    (h : wpOp P ops Q i (fun a' w' => (∀ x ∈ T, waitsFor md ops x.1 i = false → x.2 w') ∧
      WH P md ops Q fuel (listed.setIfInBounds i true) (T.filter fun x => !waitsFor md ops x.1 i) a' w') a w) : WH P md ops Q (fuel + 1) listed T a w :=
  ⟨fun h0 => (by rw [h0] at hr; cases hr), fun j hj => by rw [hr] at hj; cases hj with | head => exact h | tail _ hh => cases hh⟩

theorem WH_done {listed : Array Bool} {T : List (Nat × (World → Prop))} {a : Act} {w : World} (hr : Region.ready md ops listed = []) (h : Q .normal a w) : ∀ fuel, WH P md ops Q fuel listed T a w
  | 0 => ⟨hr, h⟩
  | _ + 1 => ⟨fun _ => h, by rw [hr]; simp⟩

theorem wp_region_WH {id : Nat} {a : Act} {w : World} (hm : P.follows .mixedOrders = true)
    (h : WH P .any ops Q ops.size (Array.replicate ops.size false) [] a { w with drawn := w.drawn + 1 }) : (Code.region id ops true).wp P Q a w :=
  wp_region_any hm (wpAny_of_WH _ _ _ _ _ h)
end
end Go.AM
