/- The abstract machine, part K: an operation of a region that draws may be taken first where what it reads is kept by those that may come ahead of it. (After Derived/OrdersHeld.lean's law, with what is to be kept told for each operation taken.) -/
import Derived.Test.YthjeldlbjhjgfaaGreatAmJ
import Derived.OrdersIn
import Derived.RangeFuncRecord
namespace Go.AM
set_option linter.unusedSimpArgs false
set_option linter.unusedVariables false
open Go.RowKit

/-- The fence that lets everything in; in a round of a loop, or in none. -/
abbrev fr (ro : Option Nat) : Fence := { Fence.wide with round := ro }
/-- No operation defers. -/
def noDefer (ops : Array Oper) : Bool := ops.all fun o => match o.op with | .defer _ => false | _ => true
theorem noDefer_spec {ops : Array Oper} (h : noDefer ops = true) : ∀ (j : Nat) (o : Oper), ops[j]? = some o → ∀ c, o.op ≠ .defer c := by
  intro j o ho c hc
  unfold noDefer at h
  rw [Array.all_eq_true_iff_forall_mem] at h
  have := h o (Array.mem_of_getElem? ho)
  rw [hc] at this
  cases this

section
variable {ro : Option Nat} {P : Program} {ops : Array Oper} {Q : Exit → Act → World → Prop} {md : Region.Mode} {S : World → Prop}

theorem yields_wpOpIn {i : Nat} {o : Oper} {v : Value} {a : Act} (hnd : ∀ c, o.op ≠ .defer c) (hi : ops[i]? = some o) (hy : YieldsIf P ops S o v a)
    {K : Act → World → Prop} {w : World} (hS : S w) (h : K (a.put o.dst v) w) : wpOpIn (fr ro) 0 P ops Q i K a w := by
  unfold Go.wpOpIn
  simp only [hi]
  rcases hy with ⟨hw, hv⟩ | ⟨hw, rfl⟩
  · simp only [hw, if_true, Oper.wpIn, Oper.semAt_eq _ _ _ hnd, hv w hS, Oper.uponIn]; exact ⟨fun _ _ => trivial, h⟩
  · simp only [hw, Bool.false_eq_true, if_false]; exact ⟨fun _ _ => trivial, h⟩

theorem wpOpIn_putIf {j : Nat} {oi oj : Oper} {v : Value} (hnd : ∀ c, oj.op ≠ .defer c) (hj : ops[j]? = some oj) (hap : oi.apart ops oj = true)
    (hsi : ∀ cs b, oi.op ≠ .select cs b) (hsj : ∀ cs b, oj.op ≠ .select cs b)
    (hQ : ∀ c a w, Q (.panic c) (a.put oi.dst v) w → Q (.panic c) a w) {K : Act → World → Prop} {a : Act} {w : World}
    (hy : YieldsIf P ops S oi v a) (h : wpOpIn (fr ro) 0 P ops Q j K (a.put oi.dst v) w) :
    wpOpIn (fr ro) 0 P ops Q j (fun a' w' => YieldsIf P ops S oi v a' ∧ K (a'.put oi.dst v) w') a w := by
  obtain ⟨h1, h2, h3⟩ := Oper.apart_spec hap
  have keep : ∀ (a : Act), YieldsIf P ops S oi v a → ∀ u, YieldsIf P ops S oi v (a.put oj.dst u) := fun a hy u =>
    hy.of_same (execOp_put oi hsi a oj.dst u h3) (wanted_put oi a oj.dst u h3)
  have keepD : ∀ d, YieldsIf P ops S oi v { a with defers := d :: a.defers } := fun d => hy.of_same rfl rfl
  unfold wpOpIn at *
  simp only [hj] at *
  rw [wanted_put oj a oi.dst v h1] at h
  split
  · rename_i hw
    simp only [hw, if_true] at h
    unfold Oper.wpIn at *
    refine ⟨fun _ _ => trivial, ?_⟩
    have h := h.2
    rw [Oper.semAt_eq _ _ _ hnd, execOp_put oj hsj a oi.dst v h1] at h
    rw [Oper.semAt_eq _ _ _ hnd]
    generalize (execOp a.eval oj).run P w = r at *
    cases r with
    | ok x w' =>
      cases x <;> simp only [Oper.uponIn] at h ⊢
      case value u => exact ⟨keep a hy u, by rw [← Act.put_comm a v u h2]; exact h⟩
      case skip => exact ⟨keep a hy _, by rw [← Act.put_comm a v undef h2]; exact h⟩
      case defer d =>
        refine ⟨keep _ (keepD d) _, ?_⟩
        rw [← Act.put_comm _ v undef h2, ← Act.put_defers]
        exact h
      case enter f args =>
        refine ⟨h.1, CallsIn.mono h.2 fun e w'' he => ?_⟩
        cases e with
        | returned u => exact ⟨keep a hy u, by rw [← Act.put_comm a v u h2]; exact he⟩
        | panicked c => exact hQ _ _ _ he
        | outgrown => exact he
      case row row args => exact ⟨h.1, RowsIn.mono h.2 fun u w'' he => ⟨keep a hy u, by rw [← Act.put_comm a v u h2]; exact he⟩⟩
      case round l f tmps assign body =>
        refine ⟨h.1, RoundIn.mono h.2 fun e w'' he => ?_⟩
        cases e with
        | returned u => exact ⟨keep a hy u, by rw [← Act.put_comm a v u h2]; exact he⟩
        | panicked c => exact hQ _ _ _ he
        | outgrown => exact he
    | halt x w' =>
      cases x <;> simp only [Oper.uponIn] at h ⊢
      case panic u => exact hQ _ _ _ h
  · rename_i hw
    simp only [hw] at h
    exact ⟨fun _ _ => trivial, keep a hy _, by rw [← Act.put_comm a v undef h2]; exact h.2⟩

/-- Operations in the text's order. -/
def wpListR (ro : Option Nat) (P : Program) (ops : Array Oper) (Q : Exit → Act → World → Prop) : List Oper → Act → World → Prop
  | [], a, w => Q .normal a w
  | o :: rest, a, w => if Region.wanted o (yielded ops a.tmps) = true then o.wpIn (fr ro) 0 P a w (wpListR ro P ops Q rest) Q else wpListR ro P ops Q rest (a.put o.dst undef) w
theorem wpOps_of_list : ∀ (l : List Oper) (k : Nat), (∀ j, ops[k + j]? = l[j]?) → ∀ (a : Act) (w : World), wpListR ro P ops Q l a w → wpOpsIn (fr ro) 0 P ops Q (List.range' k l.length) a w
  | [], k, _, a, w, h => h
  | o :: rest, k, hl, a, w, h => by
    have ih := wpOps_of_list rest (k + 1) (fun j => by have := hl (j + 1); rw [List.getElem?_cons_succ] at this; rw [← this]; congr 1; omega)
    have h0 : ops[k]? = some o := by have := hl 0; simpa using this
    simp only [List.length_cons, List.range'_succ, wpOpsIn, h0]
    simp only [wpListR] at h
    split
    · rename_i hw
      simp only [hw, if_true] at h
      exact Oper.wpIn_mono ih h
    · rename_i hw
      simp only [hw, if_false] at h
      exact ⟨fun _ _ => trivial, ih _ _ h⟩
theorem wpIn_region_list {id : Nat} {a : Act} {w : World} (h : wpListR ro P ops Q ops.toList a w) : (Code.region id ops false).wpIn (fr ro) 0 P Q a w := by
  refine wpIn_region ?_
  have := wpOps_of_list (ro := ro) (P := P) (Q := Q) (ops := ops) ops.toList 0 (fun j => by simp) a w h
  rw [List.range_eq_range']
  simpa using this
end

section
variable {ro : Option Nat} {P : Program} {ops : Array Oper} {Q : Exit → Act → World → Prop} {md : Region.Mode}

/-- Does operation j wait for i? -/
def waitsFor (md : Region.Mode) (ops : Array Oper) (i j : Nat) : Bool :=
  match ops[j]? with
  | some o => o.after.any fun e => Region.binds md e && e.on == i
  | none => false

/-- Whatever order is picked from here on; of each operation i of T what it leans on holds behind every operation that does not wait for i. -/
def WH (ro : Option Nat) (P : Program) (md : Region.Mode) (ops : Array Oper) (Q : Exit → Act → World → Prop) : Nat → Array Bool → List (Nat × (World → Prop)) → Act → World → Prop
  | 0, listed, _, a, w => Region.ready md ops listed = [] ∧ Q .normal a w
  | fuel + 1, listed, T, a, w =>
    (Region.ready md ops listed = [] → Q .normal a w) ∧
    ∀ j ∈ Region.ready md ops listed, wpOpIn (fr ro) 0 P ops Q j (fun a' w' => (∀ x ∈ T, waitsFor md ops x.1 j = false → x.2 w') ∧
      WH ro P md ops Q fuel (listed.setIfInBounds j true) (T.filter fun x => !waitsFor md ops x.1 j) a' w') a w

theorem wpAny_of_WH : ∀ (fuel : Nat) (listed : Array Bool) (T : List (Nat × (World → Prop))) (a : Act) (w : World), WH ro P md ops Q fuel listed T a w → wpAnyIn (fr ro) 0 P md ops Q fuel listed a w
  | 0, _, _, _, _, h => h
  | fuel + 1, _, _, _, _, h => ⟨h.1, fun i hi => wpOpIn_mono (fun a' w' h' => wpAny_of_WH fuel _ _ a' w' h'.2) (h.2 i hi)⟩

/-- Fewer things to keep. -/
theorem WH_less : ∀ {f : Nat} {listed : Array Bool} {T1 : List (Nat × (World → Prop))} {a : Act} {w : World}, WH ro P md ops Q f listed T1 a w → ∀ T2, (∀ x ∈ T2, x ∈ T1) → WH ro P md ops Q f listed T2 a w := by
  intro f
  induction f with
  | zero => intro listed T1 a w h T2 _; exact h
  | succ f ih2 =>
    intro listed T1 a w h T2 h2
    refine ⟨h.1, fun j hj => wpOpIn_mono (fun a' w' h' => ⟨fun x hx hw => h'.1 x (h2 x hx) hw, ih2 h'.2 _ fun x hx => ?_⟩) (h.2 j hj)⟩
    rw [List.mem_filter] at hx ⊢
    exact ⟨h2 x hx.1, hx.2⟩

theorem WH_first (hnd : ∀ (j : Nat) (o : Oper), ops[j]? = some o → ∀ c, o.op ≠ .defer c) {i : Nat} {oi : Oper} {v : Value} {S : World → Prop} (hi : ops[i]? = some oi) (hsel : ∀ (j : Nat) (o : Oper) cs b, ops[j]? = some o → o.op ≠ .select cs b)
    (hQ : ∀ c a w, Q (.panic c) (a.put oi.dst v) w → Q (.panic c) a w) :
    ∀ (fuel : Nat) (listed : Array Bool) (T : List (Nat × (World → Prop))) (a : Act) (w : World),
      (∀ j oj, ops[j]? = some oj → j ≠ i → listed.getD j true = false → (∀ e ∈ oj.after, Region.binds md e = true → e.on ≠ i) → oi.apart ops oj = true) →
      i ∈ Region.ready md ops listed → YieldsIf P ops S oi v a → S w → (∀ x ∈ T, x.2 w) →
      WH ro P md ops Q fuel (listed.setIfInBounds i true) ((i, S) :: T) (a.put oi.dst v) w → WH ro P md ops Q (fuel + 1) listed T a w := by
  intro fuel
  induction fuel with
  | zero =>
    intro listed T a w _ hr hy hS hT H
    refine ⟨fun h => (by rw [h] at hr; cases hr), fun j hj => ?_⟩
    by_cases hji : j = i
    · subst hji
      exact yields_wpOpIn (hnd _ _ hi) hi hy hS ⟨fun x hx _ => hT x hx, WH_less H _ fun x hx => List.mem_cons_of_mem _ ((List.mem_filter.1 hx).1)⟩
    · have := ready_mono hj hji
      rw [H.1] at this
      cases this
  | succ fuel ih =>
    intro listed T a w hfree hr hy hS hT H
    refine ⟨fun h => (by rw [h] at hr; cases hr), fun j hj => ?_⟩
    by_cases hji : j = i
    · subst hji
      exact yields_wpOpIn (hnd _ _ hi) hi hy hS ⟨fun x hx _ => hT x hx, WH_less H _ fun x hx => List.mem_cons_of_mem _ ((List.mem_filter.1 hx).1)⟩
    · have h1 := H.2 j (ready_mono hj hji)
      obtain ⟨hjun, oj, hoj, hall⟩ := mem_ready.1 hj
      have hnot : ∀ e ∈ oj.after, Region.binds md e = true → e.on ≠ i := fun e he hb heq => by
        have h1 := hall e he hb
        have h0 := (mem_ready.1 hr).1
        rw [heq] at h1
        rcases Nat.lt_or_ge i listed.size with h' | h'
        · simp [h'] at h0 h1; rw [h0] at h1; cases h1
        · simp [Array.getElem?_eq_none h'] at h1
      have hwait : waitsFor md ops i j = false := by
        unfold waitsFor
        rw [hoj]
        simp only
        rw [Array.any_eq_false']
        intro e he
        simp only [Bool.and_eq_true, beq_iff_eq, not_and]
        exact fun hb => hnot e he hb
      have h2 := wpOpIn_putIf (hnd _ _ hoj) hoj (hfree j oj hoj hji hjun hnot) (fun cs b => hsel i oi cs b hi) (fun cs b => hsel j oj cs b hoj) hQ hy h1
      have hfree' : ∀ k ok, ops[k]? = some ok → k ≠ i → (listed.setIfInBounds j true).getD k true = false →
          (∀ e ∈ ok.after, Region.binds md e = true → e.on ≠ i) → oi.apart ops ok = true := fun k ok hk hki hun hno => by
        refine hfree k ok hk hki ?_ hno
        by_cases hjk : j = k
        · subst hjk; exact hjun
        · rw [getD_set_ne true hjk] at hun; exact hun
      refine wpOpIn_mono (fun a' w' h3 => ?_) h2
      obtain ⟨hy', hkeep, hW⟩ := h3
      have hS' : S w' := hkeep (i, S) List.mem_cons_self hwait
      refine ⟨fun x hx hw => hkeep x (List.mem_cons_of_mem _ hx) hw, ?_⟩
      refine ih (listed.setIfInBounds j true) _ a' w' hfree' (ready_mono hr (Ne.symm hji)) hy' hS' (fun x hx => ?_) ?_
      · rw [List.mem_filter] at hx
        exact hkeep x (List.mem_cons_of_mem _ hx.1) (by simpa using hx.2)
      · rw [Array.setIfInBounds_comm _ _ hji]
        rw [List.filter_cons] at hW
        simpa [hwait] using hW

theorem WH_take (hnd : noDefer ops = true) {i : Nat} {oi : Oper} {v : Value} {fuel : Nat} {listed : Array Bool} {T : List (Nat × (World → Prop))} {a : Act} {w : World} {S : World → Prop} (hi : ops[i]? = some oi)
    (hs : Region.noSelect ops = true) (hf : Region.free md ops listed i = true) (hr : (Region.ready md ops listed).contains i = true)
    (hQ : ∀ c a w, Q (.panic c) (a.put oi.dst v) w → Q (.panic c) a w) (hy : YieldsIf P ops S oi v a) (hS : S w) (hT : ∀ x ∈ T, x.2 w)
    (h : WH ro P md ops Q fuel (listed.setIfInBounds i true) ((i, S) :: T) (a.put oi.dst v) w) : WH ro P md ops Q (fuel + 1) listed T a w :=
  WH_first (noDefer_spec hnd) hi (Region.noSelect_spec hs) hQ fuel listed T a w (Region.free_spec hi hf) (by simpa using hr) hy hS hT h

theorem WH_one {i : Nat} {fuel : Nat} {listed : Array Bool} {T : List (Nat × (World → Prop))} {a : Act} {w : World} (hr : Region.ready md ops listed = [i])
    (h : wpOpIn (fr ro) 0 P ops Q i (fun a' w' => (∀ x ∈ T, waitsFor md ops x.1 i = false → x.2 w') ∧
      WH ro P md ops Q fuel (listed.setIfInBounds i true) (T.filter fun x => !waitsFor md ops x.1 i) a' w') a w) : WH ro P md ops Q (fuel + 1) listed T a w :=
  ⟨fun h0 => (by rw [h0] at hr; cases hr), fun j hj => by rw [hr] at hj; cases hj with | head => exact h | tail _ hh => cases hh⟩

theorem WH_done {listed : Array Bool} {T : List (Nat × (World → Prop))} {a : Act} {w : World} (hr : Region.ready md ops listed = []) (h : Q .normal a w) : ∀ fuel, WH ro P md ops Q fuel listed T a w
  | 0 => ⟨hr, h⟩
  | _ + 1 => ⟨fun _ => h, by rw [hr]; simp⟩

theorem wp_region_WH {id : Nat} {a : Act} {w : World} (hm : P.follows .mixedOrders = true)
    (h : WH ro P .any ops Q ops.size (Array.replicate ops.size false) [] a { w with drawn := w.drawn + 1 }) : (Code.region id ops true).wpIn (fr ro) 0 P Q a w :=
  wpIn_region_any hm (wpAny_of_WH _ _ _ _ _ h)
end
end Go.AM
