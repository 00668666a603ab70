/- The abstract machine, part N: code and functions. -/
import Derived.Test.YthjeldlbjhjgfaaGreatAmM
import Derived.Scope
import Derived.RangeFuncRecord
namespace Go.AM
set_option linter.unusedSimpArgs false
set_option linter.unusedVariables false
open Go.RowKit

inductive C where
  | skip
  | ops (l : List Stp)
  | dops (l : List PS)
  | aops (l : List Stp)
  | seq (a b : C)
  | cond (c : AO) (a b : C)
  | block (id : Nat) (b : C)
  | loop (b : C)
  | exit (id : Nat)
  | ret
  | rfn (N : Nat) (g : AO) (ps : Array Tmp) (assign body : Code)

/-- How code ends. -/
inductive AX where
  | normal
  | exit (id : Nat)
  | ret
  | pan (v : AV)

def seqQ (N : Fr → AHeap → Prop) (Q : AX → Fr → AHeap → Prop) : AX → Fr → AHeap → Prop
  | .normal, t, H => N t H
  | x, t, H => Q x t H
def blkQ (id : Nat) (Q : AX → Fr → AHeap → Prop) : AX → Fr → AHeap → Prop
  | .exit i, t, H => if i = id then Q .normal t H else Q (.exit i) t H
  | x, t, H => Q x t H

/-- A region that draws, told without its plan: whatever is no reading leaves all that stood as it stood. -/
def WPa (P : Program) : List Stp → (Fr → AHeap → Prop) → (AV → AHeap → Prop) → Fr → AHeap → Prop
  | [], K, _, t, H => K t H
  | s :: r, K, Kp, t, H =>
    match gd s t with
    | none => False
    | some false => WPa P r K Kp (Fr.put t s.dst undefA) H
    | some true => WPo P s.op t H (fun v H' => (∀ b, H.get b ≠ none → H'.get b = H.get b) ∧ WPa P r K Kp (Fr.put t s.dst v) H') Kp

/-- What is asked when the function that was ranged over has ended: the loop's record l tells how the statement is left. -/
def RfnQ (Q : AX → Fr → AHeap → Prop) (t : Fr) (l : Nat) : AE → AHeap → Prop
  | .pan v, H' => Q (.pan v) .leaf H'
  | .ret _, H' => match H'.get l with
    | some (.loop st pend _ _ _ _ _) => st ≠ .busy ∧ (match pend with
      | none => Q .normal t (H'.put l .dead)
      | some .ret => Q .ret t (H'.put l .dead)
      | some (.exit id) => Q (.exit id) t (H'.put l .dead)
      | some _ => False)
    | _ => False
def RfnV (P : Program) (N : Nat) (ps : Array Tmp) (assign body : Code) (Q : AX → Fr → AHeap → Prop) (t : Fr) (H : AHeap) : AV → Prop
  | .func (.func gf) first cap => ACall P gf (first ++ [.yield H.next] ++ cap) (H.alloc (.loop .ready none N t ps assign body)) (RfnQ Q t H.next)
  | _ => False

def WP (P : Program) : C → (AX → Fr → AHeap → Prop) → Fr → AHeap → Prop
  | .skip, Q, t, H => Q .normal t H
  | .ops l, Q, t, H => WPs P l (Q .normal) (fun v H' => Q (.pan v) .leaf H') t H
  | .aops l, Q, t, H => WPa P l (Q .normal) (fun v H' => Q (.pan v) .leaf H') t H
  | .dops l, Q, t, H => WPd P (Q .normal) (fun v H' => Q (.pan v) .leaf H') l [] t H
  | .seq a b, Q, t, H => WP P a (seqQ (WP P b Q) Q) t H
  | .cond c a b, Q, t, H => ∃ x, AO.ev t c = .bool x ∧ (x = true → WP P a Q t H) ∧ (x = false → WP P b Q t H)
  | .block id b, Q, t, H => WP P b (blkQ id Q) t H
  | .loop b, Q, t, H => ∃ (I : Fr → AHeap → Prop) (μ : Fr → AHeap → Nat), I t H ∧ ∀ t H, I t H → WP P b (seqQ (fun t' H' => I t' H' ∧ μ t' H' < μ t H) Q) t H
  | .exit id, Q, t, H => Q (.exit id) t H
  | .ret, Q, t, H => Q .ret t H
  | .rfn N g ps assign body, Q, t, H => RfnV P N ps assign body Q t H (AO.ev t g)

def compC (P : Program) (N : Nat) : Code → Option C
  | .skip => some .skip
  | .label _ => some .skip
  | .region _ ops false => (compRegion P N ops ops.toList).map .ops
  | .region _ ops true => if Region.noSelect ops = true ∧ noDefer ops = true then (planGo P N ops ops.size (Array.replicate ops.size false)).map .dops else none
  | .seq a b => match compC P N a, compC P N b with
    | some x, some y => some (.seq x y)
    | _, _ => none
  | .cond c a b => match compO c, compC P N a, compC P N b with
    | some z, some x, some y => some (.cond z x y)
    | _, _, _ => none
  | .block id b => (compC P N b).map (.block id)
  | .loop b => (compC P N b).map .loop
  | .scope b => compC P N b
  | .exit id => some (.exit id)
  | .ret => some .ret
  | .rangeFunc g ps assign body => (compO g).map fun g => .rfn N g ps assign body
  | _ => none

/-! ### blocks that are held -/
def Giv.hold (V : Giv) (k : Nat) (o : Obj) : Giv := ⟨V.W, fun j => if j = k then some o else V.G j⟩
def Giv.guard (V : Giv) (D : List Nat) : Giv := ⟨V.W, fun k => if k ∈ D then some (.deferred (some [])) else V.G k⟩
theorem Giv.guard_nil (V : Giv) : V.guard [] = V := by simp [Giv.guard]
theorem Giv.guard_guard (V : Giv) (D E : List Nat) : (V.guard D).guard E = V.guard (E ++ D) := by
  unfold Giv.guard
  congr 1
  funext k
  by_cases h1 : k ∈ E <;> by_cases h2 : k ∈ D <;> simp [h1, h2]
theorem Giv.guard_one (V : Giv) (k : Nat) : V.guard [k] = V.hold k (.deferred (some [])) := by
  unfold Giv.guard Giv.hold
  congr 1
  funext j
  simp

section
variable {V V' : Giv} {θ : Th} {H : AHeap} {w : World}
/-- A block more in the world, that the heap knows nothing of. -/
theorem Own.grow (h : Own V θ H w) (o : Obj) : Own V θ H (w.alloc o) := by
  have old : ∀ k, k < w.heap.size → (w.alloc o).heap[k]? = w.heap[k]? := fun k hk => Below.heap_alloc _ _ _ hk
  refine ⟨h.below.alloc h.size o, by simp only [World.size_alloc]; have := h.size; omega, h.next, fun i b hg hl => ?_, h.inj, fun k o' hk => ?_, h.apart⟩
  · obtain ⟨h1, h2, h3, h4, h5⟩ := h.live i b hg hl
    have hlt := h3.lt hl
    rw [old _ hlt]
    exact ⟨h1, h2, h3, h4, h5⟩
  · have := h.guard k o' hk
    rw [old _ (Array.getElem?_eq_some_iff.1 this).1]; exact this
/-- A block that the heap knows nothing of is held. -/
theorem Own.holdOn (h : Own V θ H w) {k : Nat} {o : Obj} (hk : w.heap[k]? = some o) (hfree : ∀ j c, H.get j = some c → c.live = true → θ.blk j ≠ k) : Own (V.hold k o) θ H w := by
  refine ⟨h.below, h.size, h.next, h.live, h.inj, fun j o' hj => ?_, fun i b hg hl => ?_⟩
  · simp only [Giv.hold] at hj
    split at hj
    · rename_i e; cases hj; rw [e]; exact hk
    · exact h.guard j o' hj
  · simp only [Giv.hold]
    rw [if_neg (hfree i b hg hl)]
    exact h.apart i b hg hl
/-- Less is held. -/
theorem Own.weaken (h : Own V' θ H w) (hW : V'.W = V.W) (hG : ∀ k o, V.G k = some o → V'.G k = some o) : Own V θ H w := by
  refine ⟨by rw [← hW]; exact h.below, by rw [← hW]; exact h.size, h.next, fun i b hg hl => by rw [← hW]; exact h.live i b hg hl, h.inj, fun k o hk => h.guard k o (hG k o hk), fun i b hg hl => ?_⟩
  cases hk : V.G (θ.blk i) with
  | none => rfl
  | some o => have := h.apart i b hg hl; rw [hG _ _ hk] at this; cases this
/-- A held block turns. -/
theorem Own.turnAt (h : Own V' θ H w) (hW : V'.W = V.W) {k : Nat} {o' : Obj} (hk : V'.G k ≠ none) (hs : V.W.heap.size ≤ k) (hG : ∀ j o, V.G j = some o → (j = k ∧ o = o') ∨ (j ≠ k ∧ V'.G j = some o)) :
    Own V θ H (w.putObj k o') := by
  have hlt : k < w.heap.size := by
    cases hq : V'.G k with
    | none => exact absurd hq hk
    | some o => exact (Array.getElem?_eq_some_iff.1 (h.guard k o hq)).1
  have hne : ∀ j c, H.get j = some c → c.live = true → θ.blk j ≠ k := fun j c hg hl e => hk (by rw [← e]; exact h.apart j c hg hl)
  have old : ∀ j, j ≠ k → (w.putObj k o').heap[j]? = w.heap[j]? := fun j hj => World.putObj_heap_other hj
  refine ⟨?_, ?_, h.next, fun i b hg hl => ?_, h.inj, fun j o hj => ?_, fun i b hg hl => ?_⟩
  · rw [← hW] at hs ⊢
    refine h.below.trans ⟨rfl, rfl, rfl, by simp, fun j hj => old j ?_⟩
    have : j < V'.W.heap.size := hj
    omega
  · rw [← hW, World.putObj_size]; exact h.size
  · rw [old _ (hne i b hg hl), ← hW]; exact h.live i b hg hl
  · rcases hG j o hj with ⟨rfl, rfl⟩ | ⟨h1, h2⟩
    · exact World.putObj_heap_same hlt
    · rw [old j h1]; exact h.guard j o h2
  · cases hq : V.G (θ.blk i) with
    | none => rfl
    | some o =>
      rcases hG _ _ hq with ⟨e, _⟩ | ⟨_, h2⟩
      · exact absurd e (hne i b hg hl)
      · have := h.apart i b hg hl; rw [h2] at this; cases this
/-- A block that nobody knew is known. -/
theorem Own.wake (h : Own V θ H w) {i : Nat} {b : Blk} (hi : H.base ≤ i) (hn : i < H.next) (hoff : θ.off i = 0) (hok : b.ok H.next) (hat : BlkAt θ i b w.heap[θ.blk i]?)
    (hfree : ∀ j c, H.get j = some c → c.live = true → θ.blk j ≠ θ.blk i) (hG : V.G (θ.blk i) = none) (hs : V.W.heap.size ≤ θ.blk i) : Own V θ (H.put i b) w := by
  have hget := fun j => AHeap.get_put H i b j hi hn
  refine ⟨h.below, h.size, h.next, fun j c hc hl => ?_, fun j k c d hc hd hlc hld heq => ?_, h.guard, fun j c hc hl => ?_⟩
  · rw [hget] at hc
    by_cases e : j = i
    · subst e; rw [if_pos rfl] at hc; cases hc
      exact ⟨hn, hoff, hat.rd, hok, fun _ => ⟨hs, hat.free hl⟩⟩
    · rw [if_neg e] at hc; exact h.live j c hc hl
  · rw [hget] at hc hd
    by_cases ej : j = i
    · by_cases ek : k = i
      · omega
      · rw [if_neg ek] at hd; subst ej; exact absurd heq.symm (hfree k d hd hld)
    · by_cases ek : k = i
      · rw [if_neg ej] at hc; subst ek; exact absurd heq (hfree j c hc hlc)
      · rw [if_neg ej] at hc; rw [if_neg ek] at hd; exact h.inj j k c d hc hd hlc hld heq
  · rw [hget] at hc
    by_cases e : j = i
    · subst e; exact hG
    · rw [if_neg e] at hc; exact h.apart j c hc hl
/-- A block of one's own is held from here on, and not known. -/
theorem Own.hide (h : Own V θ H w) {i : Nat} {b : Blk} (hg : H.get i = some b) (hl : b.live = true) (hi : H.base ≤ i) {o : Obj} (ho : w.heap[θ.blk i]? = some o) : Own (V.hold (θ.blk i) o) θ (H.put i .dead) w := by
  have hn := (h.live i b hg hl).1
  refine (h.kill hi hn).holdOn ho fun j c hc hlc e => ?_
  rw [AHeap.get_put H i .dead j hi hn] at hc
  by_cases ej : j = i
  · rw [if_pos ej] at hc; cases hc; cases hlc
  · rw [if_neg ej] at hc; exact ej (h.inj j i c b hc hg hlc hl e)
end

/-- A mark among the deferred calls. -/
def mark (k : Nat) : Deferred := { target := .collected k, args := #[] }

/-- What is asked behind code, of the world. -/
def PostC (W0 : Giv) (θ : Th) (H : AHeap) (N : Nat) (ds : List Deferred) (Q : AX → Fr → AHeap → Prop) : Exit → Act → World → Prop := fun e a' w' =>
  ∃ x t' H' θ' D, Q x t' H' ∧ Post (W0.guard D) θ H θ' H' w' ∧ (D.Nodup ∧ ∀ k ∈ D, W0.G k = none ∧ W0.W.heap.size ≤ k) ∧ a'.defers = D.map mark ++ ds ∧ match x with
    | .normal => e = .normal ∧ RelA θ' H'.next N t' a'
    | .exit id => e = .exit id ∧ RelA θ' H'.next N t' a'
    | .ret => e = .ret ∧ RelA θ' H'.next N t' a'
    | .pan v => e = .panic [{ v := v.inst θ', recovered := false }] ∧ v.ok H'.next

theorem PostC.here {W0 : Giv} {θ : Th} {H : AHeap} {N : Nat} {ds : List Deferred} {Q : AX → Fr → AHeap → Prop} {e : Exit} {a' : Act} {w' : World} (x : AX) (t' : Fr) (H' : AHeap) (θ' : Th) (q : Q x t' H') (hpo : Post W0 θ H θ' H' w') (hd : a'.defers = ds)
    (hx : match (generalizing := false) x with
    | .normal => e = .normal ∧ RelA θ' H'.next N t' a'
    | .exit id => e = .exit id ∧ RelA θ' H'.next N t' a'
    | .ret => e = .ret ∧ RelA θ' H'.next N t' a'
    | .pan v => e = .panic [{ v := v.inst θ', recovered := false }] ∧ v.ok H'.next) : PostC W0 θ H N ds Q e a' w' :=
  ⟨x, t', H', θ', [], q, by rw [Giv.guard_nil]; exact hpo, ⟨List.nodup_nil, fun k hk => by cases hk⟩, hd, hx⟩

theorem PostC.put {W0 : Giv} {θ : Th} {H : AHeap} {N : Nat} {ds : List Deferred} {Q : AX → Fr → AHeap → Prop} (c : List PanicEntry) (a : Act) (d : Option Nat) (v : Value) (w : World) (h : PostC W0 θ H N ds Q (.panic c) (a.put d v) w) : PostC W0 θ H N ds Q (.panic c) a w := by
  obtain ⟨x, t', H', θ', D, q, hpo, hD, hds, hx⟩ := h
  refine ⟨x, t', H', θ', D, q, hpo, hD, by rw [put_defers] at hds; exact hds, ?_⟩
  cases x with
  | normal => exact absurd hx.1 (by simp)
  | exit id => exact absurd hx.1 (by simp)
  | ret => exact absurd hx.1 (by simp)
  | pan u => exact hx

theorem PostC.trans {W0 : Giv} {D : List Nat} {θ θ1 : Th} {H H1 : AHeap} {N : Nat} {ds : List Deferred} {Q : AX → Fr → AHeap → Prop} {e : Exit} {a : Act} {w w1 : World} (hpo : Post (W0.guard D) θ H θ1 H1 w1) (hD : D.Nodup ∧ ∀ k ∈ D, W0.G k = none ∧ W0.W.heap.size ≤ k)
    (h : PostC (W0.guard D) θ1 H1 N (D.map mark ++ ds) Q e a w) : PostC W0 θ H N ds Q e a w := by
  obtain ⟨x, t', H', θ', E, q, hpo', hE, hds, hx⟩ := h
  have hne : ∀ k ∈ E, k ∉ D ∧ W0.G k = none ∧ W0.W.heap.size ≤ k := fun k hk => by
    have := hE.2 k hk
    simp only [Giv.guard] at this
    by_cases hkD : k ∈ D
    · rw [if_pos hkD] at this; cases this.1
    · rw [if_neg hkD] at this; exact ⟨hkD, this⟩
  refine ⟨x, t', H', θ', E ++ D, q, ?_, ⟨List.nodup_append.2 ⟨hE.1, hD.1, fun a ha b hb e => (hne a ha).1 (e ▸ hb)⟩, fun k hk => ?_⟩, by rw [hds, List.map_append, List.append_assoc], hx⟩
  · rw [← Giv.guard_guard]
    exact ⟨(hpo.ext.trans hpo'.ext hpo.next), Nat.le_trans hpo.next hpo'.next, hpo'.base.trans hpo.base, hpo'.own⟩
  · rcases List.mem_append.1 hk with hk | hk
    · exact (hne k hk).2
    · exact hD.2 k hk

/-- A loop whose measure stands beside the state. (After the base's 'wpIn_loop'.) -/
theorem wpIn_loop_by {F : Fence} {P : Program} {Q : Exit → Act → World → Prop} {a : Act} {w : World} {c : Code} (R : Nat → Act → World → Prop) {n0 : Nat} (h₀ : R n0 a w)
    (round : ∀ n a w, R n a w → c.wpIn F 0 P (Exit.then (fun a' w' => ∃ m, m < n ∧ R m a' w') Q) a w) : (Code.loop c).wpIn F 0 P Q a w := by
  intro b k cs hro hb hr
  have key : ∀ n a w, R n a w → ∃ e a' w', Q e a' w' ∧ ArrivesIn (Machine.fenced P F) P (lone (b.atR a (.code c :: .inLoop c :: k)) cs w) b k cs e a' w' := by
    intro n
    induction n using Nat.strongRecOn with
    | _ n ih =>
      intro a w hI
      obtain ⟨e, a₁, w₁, hq, harr⟩ := round n a w hI b (.inLoop c :: k) cs hro hb hr
      cases e with
      | normal =>
        obtain ⟨m, hlt, hI₁⟩ := hq
        obtain ⟨e₂, a₂, w₂, hq₂, harr₂⟩ := ih m hlt a₁ w₁ hI₁
        exact ⟨e₂, a₂, w₂, hq₂, .of_steps (StepsIn.trans harr (.one (fenced_calm hb hr rfl) stepR_inLoop)) harr₂⟩
      | exit id => exact ⟨_, a₁, w₁, hq, .pass (x := .inLoop c) rfl (fun _ _ => .inl (by simp)) harr⟩
      | goto l => exact ⟨_, a₁, w₁, hq, .pass (x := .inLoop c) rfl (fun _ _ => .inl (by simp)) harr⟩
      | ret => exact ⟨_, a₁, w₁, hq, .pass (x := .inLoop c) rfl (fun _ _ => .inl (by simp)) harr⟩
      | panic ch => exact ⟨_, a₁, w₁, hq, .pass (x := .inLoop c) rfl (fun _ _ => .inl (by simp)) harr⟩
      | outgrown => exact ⟨_, a₁, w₁, hq, .pass (x := .inLoop c) rfl (fun _ _ => .inl (by simp)) harr⟩
  obtain ⟨e, a', w', hq, harr⟩ := key _ a w h₀
  exact ⟨e, a', w', hq, .of_steps (.one (fenced_calm hb hr rfl) stepR_loop) harr⟩

theorem stepR_scope {P : Program} {b : Frame} {a : Act} {k : List Item} {cs : List Frame} {w : World} {c : Code} : step P (lone (b.atR a (.code (.scope c) :: k)) cs w) = .next (lone (b.atR a (.code c :: .inScope c :: k)) cs w) :=
  step_lone_go (by simp [stepG, stepG.exec, Frame.atR])
theorem stepR_inScope {P : Program} {b : Frame} {a : Act} {k : List Item} {cs : List Frame} {w : World} {c : Code} : step P (lone (b.atR a (.inScope c :: k)) cs w) = .next (lone (b.atR a k) cs w) :=
  step_lone_go (by simp [stepG, stepG.exec, Frame.atR])
theorem wpIn_scope_straight {F : Fence} {P : Program} {Q : Exit → Act → World → Prop} {a : Act} {w : World} {c : Code} (h : c.wpIn F 0 P (Exit.noGoto Q) a w) : (Code.scope c).wpIn F 0 P Q a w := by
  intro b k cs hro hb hr
  obtain ⟨e, a₁, w₁, hq, harr⟩ := h b (.inScope c :: k) cs hro hb hr
  have h0 : (lone (b.atR a (.code (.scope c) :: k)) cs w).fenced P F := fenced_calm hb hr rfl
  cases e with
  | normal => exact ⟨.normal, a₁, w₁, hq, .head h0 stepR_scope (StepsIn.trans harr (.one (fenced_calm hb hr rfl) stepR_inScope))⟩
  | exit id => exact ⟨.exit id, a₁, w₁, hq, fun k' hk => .head h0 stepR_scope (harr.1 k' (by simp [exitTo, hk])), fun hr' hk => let ⟨k₁, h1, h2⟩ := harr.2 hr' (by simp [exitTo, hk]); ⟨k₁, h1, .head h0 stepR_scope h2⟩⟩
  | goto l => exact hq.elim
  | ret => exact ⟨_, a₁, w₁, hq, .of_steps (.one h0 stepR_scope) harr⟩
  | panic ch => exact ⟨_, a₁, w₁, hq, .of_steps (.one h0 stepR_scope) harr⟩
  | outgrown => exact ⟨_, a₁, w₁, hq, .of_steps (.one h0 stepR_scope) harr⟩

theorem ro_guard {ro : Option Nat} {W0 : Giv} {D : List Nat} (hro : ∀ l, ro = some l → ∃ r, W0.G l = some (.loop r)) (hD : D.Nodup ∧ ∀ k ∈ D, W0.G k = none ∧ W0.W.heap.size ≤ k) : ∀ l, ro = some l → ∃ r, (W0.guard D).G l = some (.loop r) := fun l hl => by
  obtain ⟨r, h⟩ := hro l hl
  refine ⟨r, ?_⟩
  simp only [Giv.guard]
  rw [if_neg (fun hk => by rw [(hD.2 l hk).1] at h; cases h)]
  exact h

/-- What comes behind the call of the function that was ranged over. -/
theorem rfn_back {ro : Option Nat} {P : Program} {N : Nat} {ps : Array Tmp} {assign body : Code} {Q : AX → Fr → AHeap → Prop} {t : Fr} {H : AHeap} {W0 : Giv} {θ θ1 : Th} {ds : List Deferred} {a : Act} {D : List Nat} {l : Nat} {w2 : World} {e : Ending}
    (hb : H.base ≤ H.next) (hr : RelA θ H.next N t a) (hext : Th.Ext H.next θ θ1) (hl : θ1.blk H.next = l) (hd : a.defers = D.map mark ++ ds) (hD : D.Nodup ∧ ∀ k ∈ D, W0.G k = none ∧ W0.W.heap.size ≤ k)
    (h : ∃ x H' θ', RfnQ Q t H.next x H' ∧ Post (W0.guard D) θ1 (H.alloc (.loop .ready none N t ps assign body)) θ' H' w2 ∧ match x with
      | .ret v => e = .returned (v.inst θ') ∧ v.ok H'.next
      | .pan v => e = .panicked [{ v := v.inst θ', recovered := false }] ∧ v.ok H'.next) :
    rangePost (fr ro) 0 P l (PostC W0 θ H N ds Q) a e w2 := by
  obtain ⟨x, H', θ', q, hpo, hx⟩ := h
  have hext1 : Th.Ext H.next θ θ' := hext.trans (hpo.ext.mono (by simp)) (Nat.le_refl _)
  have hnx : H.next ≤ H'.next := by have := hpo.next; simp at this; omega
  cases x with
  | pan v =>
    obtain ⟨rfl, hv⟩ := hx
    exact ⟨.pan v, _, H', θ', D, q, ⟨hext1, hnx, hpo.base, hpo.own⟩, hD, hd, rfl, hv⟩
  | ret v =>
    obtain ⟨rfl, hv⟩ := hx
    simp only [RfnQ] at q
    split at q
    · rename_i st pend N' t' ps' as' bd' hg
      obtain ⟨hst, q⟩ := q
      obtain ⟨hlt, hoff, hrd, hok, hown⟩ := hpo.own.live _ _ hg rfl
      have hl' : θ'.blk H.next = l := by rw [(hpo.ext H.next (by simp)).1]; exact hl
      obtain ⟨r, hr1, hr2, hr3, _⟩ := hrd
      rw [hl'] at hr1
      have hbase : H'.base ≤ H.next := by have := hpo.base; simp at this; omega
      have hrun := run_endLoop (P := P) hr1 (by rw [hr2]; exact hst)
      have hown' : Own (W0.guard D) θ' (H'.put H.next .dead) (w2.putObj l (.loop { r with state := .exhausted })) := by
        refine hpo.own.put (b' := .dead) hg rfl hbase trivial trivial rfl rfl rfl (by simp) (fun k hk => ?_)
        rw [hl'] at hk
        exact World.putObj_heap_other hk
      have hpo' : Post (W0.guard D) θ H θ' (H'.put H.next .dead) (w2.putObj l (.loop { r with state := .exhausted })) := ⟨hext1, hnx, hpo.base, hown'⟩
      have hra : RelA θ' H'.next N t a := hr.ext hext1 hnx
      generalize w2.putObj l (.loop { r with state := .exhausted }) = w3 at hrun hpo'
      refine ⟨r.pending, _, hrun, ?_⟩
      rw [hr3]
      cases pend with
      | none => exact ⟨.normal, t, _, θ', D, q, hpo', hD, hd, rfl, hra⟩
      | some c =>
        cases c <;> first | exact q.elim | skip
        · exact wpIn_exit ⟨.exit _, t, _, θ', D, q, hpo', hD, hd, rfl, hra⟩
        · exact wpIn_ret ⟨.ret, t, _, θ', D, q, hpo', hD, hd, rfl, hra⟩
    · exact q.elim

theorem rfn_sound {ro : Option Nat} {P : Program} {N : Nat} {g : Operand} {y : AO} {ps : Array Tmp} {assign body : Code} (hy : compO g = some y) {Q : AX → Fr → AHeap → Prop} {t : Fr} {H : AHeap} (h : RfnV P N ps assign body Q t H (AO.ev t y))
    {W0 : Giv} {θ : Th} {ds : List Deferred} {a : Act} {w : World} (hro : ∀ l, ro = some l → ∃ r, W0.G l = some (.loop r)) (hr : RelA θ H.next N t a) (hds : a.defers = ds) (ho : Own W0 θ H w) :
    (Code.rangeFunc g ps assign body).wpIn (fr ro) 0 P (PostC W0 θ H N ds Q) a w := by
  obtain ⟨f1, f2⟩ := compO_sound hy hr
  unfold RfnV at h
  split at h
  · rename_i gf first cap hf
    rw [hf] at f1 f2
    have f2' : AV.okL H.next first ∧ AV.okL H.next cap := f2
    -- the call, in the world w1 where the record lies at l
    have core : ∀ (fn : FuncId) (D : List Nat) (w0 : World) (dd : Nat), (∀ (l : Nat) (mk : List Deferred), True) → Own (W0.guard D) θ H w0 → (D.Nodup ∧ ∀ k ∈ D, W0.G k = none ∧ W0.W.heap.size ≤ k) →
        ∃ (d : Deferred) (args : Array Value), (resolve a.eval (rangeCall g w0.heap.size) 0).run P (w0.alloc (.loop { state := .ready, pending := none, fn, tmps := a.tmps, params := ps, assign, body, defers := dd })) = .ok d (w0.alloc (.loop { state := .ready, pending := none, fn, tmps := a.tmps, params := ps, assign, body, defers := dd })) ∧
          (invoke d.target d.args).run P (w0.alloc (.loop { state := .ready, pending := none, fn, tmps := a.tmps, params := ps, assign, body, defers := dd })) = .ok (.enter gf args) (w0.alloc (.loop { state := .ready, pending := none, fn, tmps := a.tmps, params := ps, assign, body, defers := dd })) ∧
          CallsIn Fence.wide 0 P gf args (w0.alloc (.loop { state := .ready, pending := none, fn, tmps := a.tmps, params := ps, assign, body, defers := dd })) (rangePost (fr ro) 0 P w0.heap.size (PostC W0 θ H N ds Q) { a with defers := D.map mark ++ a.defers }) := by
      intro fn D w0 dd _ ho0 hD
      have hnext := ho0.next
      have hblk : (Blk.loop .ready none N t ps assign body).ok H.next := hr.ok
      have hat : BlkAt (θ.set H.next w0.heap.size 0 0) H.next (.loop .ready none N t ps assign body) (some (.loop { state := .ready, pending := none, fn, tmps := a.tmps, params := ps, assign, body, defers := dd })) :=
        ⟨_, rfl, rfl, rfl, hr.size, fun i hi => by rw [AV.inst_ext (Th.set_ext θ H.next _ _ _) _ (hr.ok i)]; exact hr.get i hi, hr.out, rfl, rfl, rfl⟩
      have ho1 := ho0.alloc (.loop .ready none N t ps assign body) (.loop { state := .ready, pending := none, fn, tmps := a.tmps, params := ps, assign, body, defers := dd }) 0 hblk hat
      have hext := Th.set_ext θ H.next w0.heap.size 0 0
      have hokl : AV.okL (H.alloc (.loop .ready none N t ps assign body)).next (first ++ [.yield H.next] ++ cap) := by
        rw [AV.okL_iff]
        intro u hu
        simp only [List.mem_append, List.mem_singleton] at hu
        rcases hu with (hu | rfl) | hu
        · exact AV.ok_mono (by simp) _ ((AV.okL_iff _ _).1 f2'.1 u hu)
        · exact Nat.lt_succ_self _
        · exact AV.ok_mono (by simp) _ ((AV.okL_iff _ _).1 f2'.2 u hu)
      refine ⟨{ target := .fn (.func gf) (AV.instL θ cap).toArray, args := (AV.instL θ first).toArray ++ #[.func (.yield w0.heap.size) #[] #[]] }, (AV.instL (θ.set H.next w0.heap.size 0 0) (first ++ [.yield H.next] ++ cap)).toArray, ?_, ?_, ?_⟩
      · simp only [resolve, rangeCall, f1, AV.inst, Deferred.ofValue, Sem.run_pure]
        simp [Act.eval]
      · have hargs : (AV.instL θ first).toArray ++ #[.func (.yield w0.heap.size) #[] #[]] ++ (AV.instL θ cap).toArray = (AV.instL (θ.set H.next w0.heap.size 0 0) (first ++ [.yield H.next] ++ cap)).toArray := by
          apply Array.ext'
          rw [AV.instL_eq _ (first ++ _ ++ cap)]
          simp only [List.map_append, List.map_cons, List.map_nil, AV.inst, Th.set_blk]
          rw [← AV.instL_eq, ← AV.instL_eq, AV.instL_ext hext _ f2'.1, AV.instL_ext hext _ f2'.2]
          simp
        rw [← hargs]
        exact callFunc_run h.1 _ _
      · refine callsIn_wide.2 ((h.2 _ _ _ ho1 hokl).mono fun e w2 hh => ?_)
        exact rfn_back (ps := ps) (assign := assign) (body := body) (W0 := W0) (θ1 := θ.set H.next w0.heap.size 0 0) (D := D) hnext (a := { a with defers := D.map mark ++ a.defers }) ⟨hr.size, hr.get, hr.out, hr.ok⟩ hext (by simp) (by rw [hds]) hD hh
    refine wpIn_rangeFunc fun fn _ => ?_
    cases hro' : ro with
    | none =>
      have hfree : ∀ j c, H.get j = some c → c.live = true → θ.blk j ≠ w.heap.size := fun j c hg hl => Nat.ne_of_lt (ho.lt hg hl)
      have hGn : W0.G w.heap.size = none := by
        cases hk : W0.G w.heap.size with
        | none => rfl
        | some o' => have := (Array.getElem?_eq_some_iff.1 (ho.guard _ _ hk)).1; omega
      have ho0 : Own (W0.guard [w.heap.size]) θ H (w.alloc (.deferred (some []))) := by
        rw [Giv.guard_one]
        exact (ho.grow _).holdOn (World.alloc_heap_new _ _) hfree
      obtain ⟨d, args, h1, h2, h3⟩ := core fn [w.heap.size] (w.alloc (.deferred (some []))) w.heap.size (fun _ _ => trivial) ho0 ⟨by simp, fun k hk => by simp at hk; subst hk; exact ⟨hGn, ho.size⟩⟩
      have hsz : (w.alloc (.deferred (some []))).heap.size = w.heap.size + 1 := by simp
      rw [hsz] at h1 h3
      subst hro'
      exact ⟨_, _, _, d, _, gf, args, _, run_enterLoop_outer fn a.tmps ps assign body, h1, fun _ _ => trivial, h2, fun hh => (by cases hh), h3⟩
    | some l0 =>
      obtain ⟨r0, hr0⟩ := hro l0 hro'
      have hl0 := ho.guard _ _ hr0
      have ho0 : Own (W0.guard []) θ H w := by rw [Giv.guard_nil]; exact ho
      obtain ⟨d, args, h1, h2, h3⟩ := core fn [] w r0.defers (fun _ _ => trivial) ho0 ⟨List.nodup_nil, fun k hk => by cases hk⟩
      subst hro'
      refine ⟨w.heap.size, [], _, d, _, gf, args, _, ?_, h1, fun _ _ => trivial, h2, fun hh => (by cases hh), h3⟩
      unfold Instr.enterLoop
      simp only [Sem.run_bind, run_getLoop hl0, Result.andThen, Sem.run_pure, run_newObj_alloc]
  · exact h.elim

theorem WP_sound {ro : Option Nat} {P : Program} (hm : P.follows .mixedOrders = true) {N : Nat} : ∀ (c : Code) (x : C), compC P N c = some x → ∀ (Q : AX → Fr → AHeap → Prop) (t : Fr) (H : AHeap), WP P x Q t H →
    ∀ (W0 : Giv) (θ : Th) (ds : List Deferred) (a : Act) (w : World), (∀ l, ro = some l → ∃ r, W0.G l = some (.loop r)) → RelA θ H.next N t a → a.defers = ds → Own W0 θ H w → c.wpIn (fr ro) 0 P (PostC W0 θ H N ds Q) a w := by
  intro c
  induction c with
  | skip =>
    intro x hc Q t H h W0 θ ds a w hro hr hds ho
    simp only [compC] at hc; cases hc
    exact wpIn_skip (.here .normal t H θ h (Post.refl ho) hds ⟨rfl, hr⟩)
  | label l =>
    intro x hc Q t H h W0 θ ds a w hro hr hds ho
    simp only [compC] at hc; cases hc
    exact wpIn_label (.here .normal t H θ h (Post.refl ho) hds ⟨rfl, hr⟩)
  | exit id =>
    intro x hc Q t H h W0 θ ds a w hro hr hds ho
    simp only [compC] at hc; cases hc
    exact wpIn_exit (.here (.exit id) t H θ h (Post.refl ho) hds ⟨rfl, hr⟩)
  | ret =>
    intro x hc Q t H h W0 θ ds a w hro hr hds ho
    simp only [compC] at hc; cases hc
    exact wpIn_ret (.here .ret t H θ h (Post.refl ho) hds ⟨rfl, hr⟩)
  | region id ops draw =>
    intro x hc Q t H h W0 θ ds a w hro hr hds ho
    cases draw with
    | false =>
      simp only [compC] at hc
      obtain ⟨l, hl, rfl⟩ := map_some' hc
      refine wpIn_region_list ?_
      exact WPs_sound (W0 := W0) (θ0 := θ) (H0 := H) (fun t' H' θ' a' w' hk hpo hra hd => .here .normal t' H' θ' hk hpo hd ⟨rfl, hra⟩)
        (fun v H' θ' a' w' hk hpo hv hd => .here (.pan v) _ H' θ' hk hpo hd ⟨rfl, hv⟩) ops.toList l hl t H θ a w h hr hds (Post.refl ho)
    | true =>
      simp only [compC] at hc
      split at hc
      · rename_i hns
        obtain ⟨l, hl, rfl⟩ := map_some' hc
        refine wp_region_WH hm ?_
        exact WPd_sound (W0 := W0) (θ0 := θ) (H0 := H) hns.1 hns.2 (fun t' H' θ' a' w' hk hpo hra hd => .here .normal t' H' θ' hk hpo hd ⟨rfl, hra⟩)
          (fun v H' θ' a' w' hk hpo hv hd => .here (.pan v) _ H' θ' hk hpo hd ⟨rfl, hv⟩) (fun c a d v w hq => PostC.put c a d v w hq) ops.size _ l hl [] [] t H θ a _ h hr hds (Post.refl ho.drew) (fun x hx => by cases hx)
      · cases hc
  | seq c1 c2 ih1 ih2 =>
    intro x hc Q t H h W0 θ ds a w hro hr hds ho
    simp only [compC] at hc
    split at hc
    · rename_i x1 x2 h1 h2
      cases hc
      refine wpIn_seq (wpIn_mono (ih1 x1 h1 _ t H h W0 θ ds a w hro hr hds ho) fun e a1 w1 hq => ?_)
      obtain ⟨y, t1, H1, θ1, D, q, hpo, hD, hd, hy⟩ := hq
      cases y with
      | normal =>
        obtain ⟨rfl, hra⟩ := hy
        exact wpIn_mono (ih2 x2 h2 Q t1 H1 q (W0.guard D) θ1 _ a1 w1 (ro_guard hro hD) hra hd hpo.own) fun e a w hq => PostC.trans hpo hD hq
      | exit id => obtain ⟨rfl, hra⟩ := hy; exact ⟨.exit id, t1, H1, θ1, D, q, hpo, hD, hd, rfl, hra⟩
      | ret => obtain ⟨rfl, hra⟩ := hy; exact ⟨.ret, t1, H1, θ1, D, q, hpo, hD, hd, rfl, hra⟩
      | pan v => obtain ⟨rfl, hra⟩ := hy; exact ⟨.pan v, t1, H1, θ1, D, q, hpo, hD, hd, rfl, hra⟩
    · cases hc
  | cond z c1 c2 ih1 ih2 =>
    intro x hc Q t H h W0 θ ds a w hro hr hds ho
    simp only [compC] at hc
    split at hc
    · rename_i z' x1 x2 hz h1 h2
      cases hc
      obtain ⟨b, hb, hb1, hb2⟩ := h
      have he := (compO_sound hz hr).1
      rw [hb] at he
      cases b with
      | true => exact wpIn_cond_true he (ih1 x1 h1 Q t H (hb1 rfl) W0 θ ds a w hro hr hds ho)
      | false => exact wpIn_cond_false he (ih2 x2 h2 Q t H (hb2 rfl) W0 θ ds a w hro hr hds ho)
    · cases hc
  | block id c ih =>
    intro x hc Q t H h W0 θ ds a w hro hr hds ho
    simp only [compC] at hc
    obtain ⟨x1, h1, rfl⟩ := map_some' hc
    refine wpIn_block (wpIn_mono (ih x1 h1 _ t H h W0 θ ds a w hro hr hds ho) fun e a1 w1 hq => ?_)
    obtain ⟨y, t1, H1, θ1, D, q, hpo, hD, hd, hy⟩ := hq
    cases y with
    | normal => obtain ⟨rfl, hra⟩ := hy; exact ⟨.normal, t1, H1, θ1, D, q, hpo, hD, hd, rfl, hra⟩
    | exit i =>
      obtain ⟨rfl, hra⟩ := hy
      simp only [blkQ] at q
      simp only [Exit.inBlock]
      by_cases e : i = id
      · rw [if_pos e] at q ⊢; exact ⟨.normal, t1, H1, θ1, D, q, hpo, hD, hd, rfl, hra⟩
      · rw [if_neg e] at q ⊢; exact ⟨.exit i, t1, H1, θ1, D, q, hpo, hD, hd, rfl, hra⟩
    | ret => obtain ⟨rfl, hra⟩ := hy; exact ⟨.ret, t1, H1, θ1, D, q, hpo, hD, hd, rfl, hra⟩
    | pan v => obtain ⟨rfl, hra⟩ := hy; exact ⟨.pan v, t1, H1, θ1, D, q, hpo, hD, hd, rfl, hra⟩
  | loop c ih =>
    intro x hc Q t H h W0 θ ds a w hro hr hds ho
    simp only [compC] at hc
    obtain ⟨x1, h1, rfl⟩ := map_some' hc
    obtain ⟨I, μ, hI, hround⟩ := h
    refine wpIn_loop_by (fun n a w => ∃ t1 H1 θ1 D, I t1 H1 ∧ μ t1 H1 = n ∧ Post (W0.guard D) θ H θ1 H1 w ∧ (D.Nodup ∧ ∀ k ∈ D, W0.G k = none ∧ W0.W.heap.size ≤ k) ∧ a.defers = D.map mark ++ ds ∧ RelA θ1 H1.next N t1 a)
      ⟨t, H, θ, [], hI, rfl, by rw [Giv.guard_nil]; exact Post.refl ho, ⟨List.nodup_nil, fun k hk => by cases hk⟩, hds, hr⟩ ?_
    rintro n a1 w1 ⟨t1, H1, θ1, D1, hI1, rfl, hpo1, hD1, hd1, hr1⟩
    refine wpIn_mono (ih x1 h1 _ t1 H1 (hround t1 H1 hI1) (W0.guard D1) θ1 _ a1 w1 (ro_guard hro hD1) hr1 hd1 hpo1.own) fun e a2 w2 hq => ?_
    have hq' : PostC W0 θ H N ds (seqQ (fun t' H' => I t' H' ∧ μ t' H' < μ t1 H1) Q) e a2 w2 := PostC.trans hpo1 hD1 hq
    obtain ⟨y, t2, H2, θ2, D, q, hpo, hD, hd, hy⟩ := hq'
    cases y with
    | normal => obtain ⟨rfl, hra⟩ := hy; exact ⟨_, q.2, t2, H2, θ2, D, q.1, rfl, hpo, hD, hd, hra⟩
    | exit i => obtain ⟨rfl, hra⟩ := hy; exact ⟨.exit i, t2, H2, θ2, D, q, hpo, hD, hd, rfl, hra⟩
    | ret => obtain ⟨rfl, hra⟩ := hy; exact ⟨.ret, t2, H2, θ2, D, q, hpo, hD, hd, rfl, hra⟩
    | pan v => obtain ⟨rfl, hra⟩ := hy; exact ⟨.pan v, t2, H2, θ2, D, q, hpo, hD, hd, rfl, hra⟩
  | scope c ih =>
    intro x hc Q t H h W0 θ ds a w hro hr hds ho
    simp only [compC] at hc
    refine wpIn_scope_straight (wpIn_mono (ih x hc Q t H h W0 θ ds a w hro hr hds ho) fun e a1 w1 hq => ?_)
    cases e with
    | goto l =>
      obtain ⟨y, t1, H1, θ1, D, q, hpo, hD, hd, hy⟩ := hq
      cases y <;> exact absurd hy.1 (by simp)
    | _ => exact hq
  | rangeFunc g ps assign body iha ihb =>
    intro x hc Q t H h W0 θ ds a w hro hr hds ho
    simp only [compC] at hc
    obtain ⟨y, hy, rfl⟩ := map_some' hc
    exact rfn_sound hy h hro hr hds ho
  | _ => intro x hc; simp [compC] at hc

/-! ### functions -/
inductive RV where
  | tmp (i : Nat)
  | cell1 (i : Nat)
  | cellN (n i : Nat)

structure CF where
  ntmps : Nat
  res : List RV
  body : C

def compRV (P : Program) : List ResultVar → Option (List RV)
  | [] => some []
  | .tmp i :: r => (compRV P r).map (.tmp i :: ·)
  | .cell i ty :: r => match P.underlying ty, szOf P ty, compRV P r with
    | some d, some n, some l => some ((if isAggD d then .cellN n i else .cell1 i) :: l)
    | _, _, _ => none

def compF (P : Program) (f : FuncId) : Option CF :=
  match P.funcs[f]? with
  | some fn => match fn.body with
    | some c => match compC P fn.ntmps c, compRV P fn.results.toList with
      | some x, some r => some ⟨fn.ntmps, r, x⟩
      | _, _ => none
    | none => none
  | none => none

def Fr.ofArgs (args : List AV) : Fr := (args.zipIdx).foldl (fun t p => T.set t p.2 p.1) .leaf
theorem Fr.at_foldl : ∀ (l : List AV) (k : Nat) (t : Fr) (i : Nat), Fr.at ((l.zipIdx k).foldl (fun t p => T.set t p.2 p.1) t) i = if k ≤ i ∧ i < k + l.length then l.getD (i - k) undefA else Fr.at t i
  | [], k, t, i => by simp; intro h1 h2; omega
  | v :: l, k, t, i => by
    simp only [List.zipIdx_cons, List.foldl_cons]
    rw [Fr.at_foldl l (k + 1), Fr.at_set]
    simp only [List.length_cons]
    by_cases h : i = k
    · subst h; rw [if_neg (by omega), if_pos rfl, if_pos (by omega)]; simp
    · by_cases h2 : k + 1 ≤ i ∧ i < k + 1 + l.length
      · rw [if_pos h2, if_pos (by omega)]
        obtain ⟨j, hj⟩ : ∃ j, i - k = j + 1 := ⟨i - k - 1, by omega⟩
        rw [hj, show i - (k + 1) = j by omega]; rfl
      · rw [if_neg h2, if_neg h, if_neg (by omega)]
theorem Fr.at_ofArgs (args : List AV) (i : Nat) : Fr.at (Fr.ofArgs args) i = args.getD i undefA := by
  unfold Fr.ofArgs
  rw [Fr.at_foldl]
  by_cases h : i < args.length
  · rw [if_pos ⟨Nat.zero_le _, by omega⟩]; rfl
  · rw [if_neg (by omega)]
    simp [Fr.at, List.getD, List.getElem?_eq_none (Nat.le_of_not_lt h)]

/-- A result variable's value. -/
def evRV (t : Fr) (H : AHeap) : RV → Option AV
  | .tmp i => some (Fr.at t i)
  | .cell1 i => match Fr.at t i with
    | .ptr (some p) => H.cell p
    | _ => none
  | .cellN n i => match Fr.at t i with
    | .ptr (some p) => (H.range p n).map .agg
    | _ => none
def evRVs (t : Fr) (H : AHeap) : List RV → Option (List AV)
  | [] => some []
  | r :: l => match evRV t H r, evRVs t H l with
    | some v, some vs => some (v :: vs)
    | _, _ => none
def tup : List AV → AV
  | [v] => v
  | vs => .tuple vs

/-- What is asked of a function's body. -/
def bodyQ (res : List RV) (Q : AE → AHeap → Prop) : AX → Fr → AHeap → Prop
  | .normal, t, H | .ret, t, H => ∃ vs, evRVs t H res = some vs ∧ Q (.ret (tup vs)) H
  | .pan v, _, H => Q (.pan v) H
  | .exit _, _, _ => False

def resSem (tmps : Array Value) : ResultVar → Sem Value
  | .tmp i => pure (tmps.getD i undef)
  | .cell i ty => do loadVar ty (← asAddr (tmps.getD i undef))
theorem results_eq (fn : Func) (tmps : Array Value) : results fn tmps = (do let vs ← fn.results.mapM (resSem tmps); pure (if h : vs.size = 1 then vs[0] else .tuple vs)) := by
  unfold results
  congr 1

theorem evRVs_sound {P : Program} {θ : Th} {N : Nat} {t : Fr} {a : Act} {H : AHeap} {w : World} {W0 : Giv} (hr : RelA θ H.next N t a) (ho : Own W0 θ H w) : ∀ (rs : List ResultVar) (l : List RV), compRV P rs = some l → ∀ vs, evRVs t H l = some vs →
    (rs.mapM (resSem a.tmps)).run P w = Result.ok (AV.instL θ vs) w ∧ AV.okL H.next vs
  | [], l, hc, vs, hv => by
    simp only [compRV] at hc; cases hc
    simp only [evRVs] at hv; cases hv
    simp [AV.instL, AV.okL]
  | .tmp i :: rs, l, hc, vs, hv => by
    simp only [compRV] at hc
    obtain ⟨l', hl, rfl⟩ := map_some' hc
    simp only [evRVs, evRV] at hv
    split at hv
    · rename_i v vs' h1 h2
      cases h1; cases hv
      obtain ⟨g1, g2⟩ := evRVs_sound hr ho rs l' hl vs' h2
      refine ⟨?_, hr.ok i, g2⟩
      simp only [List.mapM_cons, resSem, Sem.run_bind, Sem.run_pure, Result.andThen, hr.getD i, g1, AV.instL]
    · cases hv
  | .cell i ty :: rs, l, hc, vs, hv => by
    simp only [compRV] at hc
    split at hc
    · rename_i d n l' hd hs hl
      cases hc
      simp only [evRVs] at hv
      split at hv
      · rename_i v vs' h1 h2
        cases hv
        obtain ⟨g1, g2⟩ := evRVs_sound hr ho rs l' hl vs' h2
        have key : (resSem a.tmps (.cell i ty)).run P w = .ok (v.inst θ) w ∧ v.ok H.next := by
          simp only [resSem]
          rw [hr.getD i]
          cases hag : isAggD d with
          | true =>
            simp only [hag, if_true, evRV] at h1
            split at h1
            · rename_i p hp
              obtain ⟨l2, hl2, rfl⟩ := map_some' h1
              obtain ⟨r1, r2, r3⟩ := range_sound (ho.reads p.1) hl2
              refine ⟨?_, r3⟩
              rw [hp]
              simp only [AV.inst, Option.map_some, asAddr, Sem.run_bind, Sem.run_pure, Result.andThen, loadVar, run_isAgg hd, hag, if_true, run_sizeOf hs]
              have := run_loadCells_list (P := P) w (θ.addr p) (AV.instL θ l2) (fun j v hj => by
                rw [AV.instL_eq, List.getElem?_map] at hj
                cases hq : l2[j]? with
                | none => rw [hq] at hj; cases hj
                | some u => rw [hq] at hj; cases hj; exact r2 j u hq)
              rw [AV.instL_eq, List.length_map, r1, ← AV.instL_eq] at this
              simp only [this]
            · cases h1
          | false =>
            simp only [hag, if_false, Bool.false_eq_true, evRV] at h1
            split at h1
            · rename_i p hp
              obtain ⟨r1, r2⟩ := cell_sound (ho.reads p.1) h1
              refine ⟨?_, r2⟩
              rw [hp]
              simp only [AV.inst, Option.map_some, asAddr, Sem.run_bind, Sem.run_pure, Result.andThen, loadVar, run_isAgg hd, hag, if_false, Bool.false_eq_true]
              simp [load, Sem.run, r1]
            · cases h1
        refine ⟨?_, key.2, g2⟩
        simp only [List.mapM_cons, Sem.run_bind, key.1, Sem.run_pure, Result.andThen, g1, AV.instL]
      · cases hv
    · cases hc

theorem results_sound {P : Program} {fn : Func} {θ : Th} {N : Nat} {t : Fr} {a : Act} {H : AHeap} {w : World} {W0 : Giv} (hr : RelA θ H.next N t a) (ho : Own W0 θ H w) {l : List RV} (hc : compRV P fn.results.toList = some l) {vs : List AV} (hv : evRVs t H l = some vs) :
    (results fn a.tmps).run P w = .ok ((tup vs).inst θ) w ∧ (tup vs).ok H.next := by
  obtain ⟨h1, h2⟩ := evRVs_sound hr ho _ _ hc vs hv
  have h3 : (fn.results.mapM (resSem a.tmps)).run P w = Result.ok (AV.instL θ vs).toArray w := by
    rw [← Array.toArray_toList (xs := fn.results), List.mapM_toArray]
    simp [h1, Result.andThen]
  rw [results_eq]
  simp only [Sem.run_bind, h3, Result.andThen, Sem.run_pure]
  have hlen : (AV.instL θ vs).toArray.size = vs.length := by simp [AV.instL_eq]
  match vs, h2, hlen with
  | [], h2, _ => simp [tup, AV.instL, AV.inst, AV.ok, AV.okL]
  | [v], h2, _ => exact ⟨by simp [tup, AV.instL], h2.1⟩
  | v :: u :: r, h2, _ => exact ⟨by simp [tup, AV.instL, AV.inst], h2⟩

/-- The marks are come to: no call was deferred in any round. -/
theorem leaves_marks {V : Giv} {θ : Th} {H : AHeap} {P : Program} {fn : Func} {tmps : Array Value} {R : Ending → World → Prop} {u : FrameMode} (hu : u ≠ .run) :
    ∀ (D : List Nat) (w : World), Own (V.guard D) θ H w → (D.Nodup ∧ ∀ k ∈ D, V.G k = none ∧ V.W.heap.size ≤ k) → (∀ w', Own V θ H w' → LeavesIn Fence.wide 0 P fn tmps R [] u w') → LeavesInM Fence.wide 0 P fn tmps R (D.map mark) u w
  | [], w, ho, _, h => h w (by rw [Giv.guard_nil] at ho; exact ho)
  | k :: D, w, ho, hD, h => by
    have hk : (V.guard (k :: D)).G k = some (.deferred (some [])) := by simp [Giv.guard]
    have hkD : k ∉ D := (List.nodup_cons.1 hD.1).1
    refine ⟨hu, .inl ⟨k, _, rfl, run_takeDeferred (ho.guard k _ hk), leaves_marks hu D _ ?_ ⟨(List.nodup_cons.1 hD.1).2, fun j hj => hD.2 j (List.mem_cons_of_mem _ hj)⟩ h⟩⟩
    refine ho.turnAt (V := V.guard D) (o' := .deferred none) rfl (by rw [hk]; simp) (hD.2 k List.mem_cons_self).2 fun j o hj => .inr ?_
    simp only [Giv.guard] at hj ⊢
    by_cases e : j ∈ D
    · exact ⟨fun hh => hkD (hh ▸ e), by rw [if_pos e] at hj; rw [if_pos (List.mem_cons_of_mem _ e)]; exact hj⟩
    · rw [if_neg e] at hj
      have hne : j ≠ k := fun hh => by rw [hh, (hD.2 k List.mem_cons_self).1] at hj; cases hj
      exact ⟨hne, by rw [if_neg (by simp [hne, e])]; exact hj⟩

theorem ACall.of_WP {P : Program} (hm : P.follows .mixedOrders = true) {f : FuncId} {F : CF} (hc : compF P f = some F) (hpl : plainF P f = true) {args : List AV} (hargs : args.length ≤ F.ntmps) {H : AHeap} {Q : AE → AHeap → Prop}
    (h : WP P F.body (bodyQ F.res Q) (Fr.ofArgs args) H) : ACall P f args H Q := by
  refine ⟨hpl, fun W0 θ w ho hok => ?_⟩
  unfold compF at hc
  split at hc
  · rename_i fn hf
    split at hc
    · rename_i c hb
      split at hc
      · rename_i x r hx hrv
        cases hc
        refine callsIn_wide.1 (callsIn_of_wp_marks (F := Fence.wide) (n := 0) hf hb trivial (wpIn_mono (WP_sound (ro := none) hm c x hx _ _ H h W0 θ [] _ w (fun l hl => by cases hl) ?_ rfl ho) fun e a' w' hq => ?_))
        · have hargs' : args.length ≤ fn.ntmps := hargs
          refine ⟨by simp [AV.instL_eq]; omega, fun i hi => ?_, fun i hi => ?_, fun i => ?_⟩
          · rw [Fr.at_ofArgs]
            simp only [Array.getElem?_append, List.size_toArray, AV.instL_eq, List.length_map]
            by_cases h1 : i < args.length
            · rw [if_pos h1]; simp [List.getD, h1]
            · rw [if_neg h1]
              simp only [Array.getElem?_replicate]
              rw [if_pos (by omega)]
              simp [List.getD, List.getElem?_eq_none (Nat.le_of_not_lt h1)]
          · rw [Fr.at_ofArgs]
            have hargs' : args.length ≤ fn.ntmps := hargs
            simp [List.getD, List.getElem?_eq_none (show args.length ≤ i by omega)]
          · rw [Fr.at_ofArgs]
            by_cases h1 : i < args.length
            · simp only [List.getD, List.getElem?_eq_getElem h1, Option.getD_some]
              exact (AV.okL_iff _ _).1 hok _ (List.getElem_mem h1)
            · simp only [List.getD, List.getElem?_eq_none (Nat.le_of_not_lt h1), Option.getD_none]
              exact trivial
        · obtain ⟨y, t', H', θ', D, q, hpo, hD, hd, hy⟩ := hq
          have hd' : a'.defers = D.map mark := by rw [hd]; simp
          cases y with
          | normal =>
            obtain ⟨rfl, hra⟩ := hy
            obtain ⟨vs, hvs, hQ⟩ := q
            show LeavesInM Fence.wide 0 P fn a'.tmps _ a'.defers .returning w'
            rw [hd']
            refine leaves_marks (by simp) D w' hpo.own hD fun w2 ho2 => ?_
            obtain ⟨r1, r2⟩ := results_sound hra ho2 hrv hvs
            exact ⟨_, r1, .ret (tup vs), H', θ', hQ, ⟨hpo.ext, hpo.next, hpo.base, ho2⟩, rfl, r2⟩
          | ret =>
            obtain ⟨rfl, hra⟩ := hy
            obtain ⟨vs, hvs, hQ⟩ := q
            show LeavesInM Fence.wide 0 P fn a'.tmps _ a'.defers .returning w'
            rw [hd']
            refine leaves_marks (by simp) D w' hpo.own hD fun w2 ho2 => ?_
            obtain ⟨r1, r2⟩ := results_sound hra ho2 hrv hvs
            exact ⟨_, r1, .ret (tup vs), H', θ', hQ, ⟨hpo.ext, hpo.next, hpo.base, ho2⟩, rfl, r2⟩
          | pan v =>
            obtain ⟨rfl, hvk⟩ := hy
            show LeavesInM Fence.wide 0 P fn a'.tmps _ a'.defers (.panicking _) w'
            rw [hd']
            refine leaves_marks (by simp) D w' hpo.own hD fun w2 ho2 => ?_
            exact ⟨.pan v, H', θ', q, ⟨hpo.ext, hpo.next, hpo.base, ho2⟩, rfl, hvk⟩
          | exit id => exact q.elim
      · cases hc
    · cases hc
  · cases hc
end Go.AM
