/- The abstract machine, part N: code and functions. -/
import Derived.Test.YtjfjmlglgdhkoaaAmM
import Derived.Scope
namespace Go.AM
set_option linter.unusedSimpArgs false
set_option linter.unusedVariables false
open Go.RowKit

inductive C where
  | skip
  | ops (l : List Stp)
  | dops (l : List PS)
  | aops (l : List Stp)
  | seq (a b : C)
  | cond (c : AO) (a b : C)
  | block (id : Nat) (b : C)
  | loop (b : C)
  | exit (id : Nat)
  | ret

/-- How code ends. -/
inductive AX where
  | normal
  | exit (id : Nat)
  | ret
  | pan (v : AV)

def seqQ (N : Fr → AHeap → Prop) (Q : AX → Fr → AHeap → Prop) : AX → Fr → AHeap → Prop
  | .normal, t, H => N t H
  | x, t, H => Q x t H
def blkQ (id : Nat) (Q : AX → Fr → AHeap → Prop) : AX → Fr → AHeap → Prop
  | .exit i, t, H => if i = id then Q .normal t H else Q (.exit i) t H
  | x, t, H => Q x t H

/-- A region that draws, told without its plan: whatever is no reading leaves all that stood as it stood. -/
def WPa (P : Program) : List Stp → (Fr → AHeap → Prop) → (AV → AHeap → Prop) → Fr → AHeap → Prop
  | [], K, _, t, H => K t H
  | s :: r, K, Kp, t, H =>
    match gd s t with
    | none => False
    | some false => WPa P r K Kp (Fr.put t s.dst undefA) H
    | some true => WPo P s.op t H (fun v H' => (∀ b, H.get b ≠ none → H'.get b = H.get b) ∧ WPa P r K Kp (Fr.put t s.dst v) H') Kp

def WP (P : Program) : C → (AX → Fr → AHeap → Prop) → Fr → AHeap → Prop
  | .skip, Q, t, H => Q .normal t H
  | .ops l, Q, t, H => WPs P l (Q .normal) (fun v H' => Q (.pan v) .leaf H') t H
  | .aops l, Q, t, H => WPa P l (Q .normal) (fun v H' => Q (.pan v) .leaf H') t H
  | .dops l, Q, t, H => WPd P (Q .normal) (fun v H' => Q (.pan v) .leaf H') l [] t H
  | .seq a b, Q, t, H => WP P a (seqQ (WP P b Q) Q) t H
  | .cond c a b, Q, t, H => ∃ x, AO.ev t c = .bool x ∧ (x = true → WP P a Q t H) ∧ (x = false → WP P b Q t H)
  | .block id b, Q, t, H => WP P b (blkQ id Q) t H
  | .loop b, Q, t, H => ∃ (I : Fr → AHeap → Prop) (μ : Fr → AHeap → Nat), I t H ∧ ∀ t H, I t H → WP P b (seqQ (fun t' H' => I t' H' ∧ μ t' H' < μ t H) Q) t H
  | .exit id, Q, t, H => Q (.exit id) t H
  | .ret, Q, t, H => Q .ret t H

def compC (P : Program) (N : Nat) : Code → Option C
  | .skip => some .skip
  | .label _ => some .skip
  | .region _ ops false => (compRegion P N ops ops.toList).map .ops
  | .region _ ops true => if Region.noSelect ops = true then (planGo P N ops ops.size (Array.replicate ops.size false)).map .dops else none
  | .seq a b => match compC P N a, compC P N b with
    | some x, some y => some (.seq x y)
    | _, _ => none
  | .cond c a b => match compO c, compC P N a, compC P N b with
    | some z, some x, some y => some (.cond z x y)
    | _, _, _ => none
  | .block id b => (compC P N b).map (.block id)
  | .loop b => (compC P N b).map .loop
  | .scope b => compC P N b
  | .exit id => some (.exit id)
  | .ret => some .ret
  | _ => none

/-- What is asked behind code, of the world. -/
def PostC (W0 : World) (θ : Th) (H : AHeap) (N : Nat) (Q : AX → Fr → AHeap → Prop) : Exit → Act → World → Prop := fun e a' w' =>
  ∃ x t' H' θ', Q x t' H' ∧ Post W0 θ H θ' H' w' ∧ match x with
    | .normal => e = .normal ∧ RelA θ' H'.next N t' a'
    | .exit id => e = .exit id ∧ RelA θ' H'.next N t' a'
    | .ret => e = .ret ∧ RelA θ' H'.next N t' a'
    | .pan v => e = .panic [{ v := v.inst θ', recovered := false }] ∧ v.ok H'.next ∧ a'.defers = []

theorem PostC.put {W0 : World} {θ : Th} {H : AHeap} {N : Nat} {Q : AX → Fr → AHeap → Prop} (c : List PanicEntry) (a : Act) (d : Option Nat) (v : Value) (w : World) (h : PostC W0 θ H N Q (.panic c) (a.put d v) w) : PostC W0 θ H N Q (.panic c) a w := by
  obtain ⟨x, t', H', θ', q, hpo, hx⟩ := h
  refine ⟨x, t', H', θ', q, hpo, ?_⟩
  cases x with
  | normal => exact absurd hx.1 (by simp)
  | exit id => exact absurd hx.1 (by simp)
  | ret => exact absurd hx.1 (by simp)
  | pan u =>
    refine ⟨hx.1, hx.2.1, ?_⟩
    have := hx.2.2
    cases d <;> exact this

theorem PostC.trans {W0 : World} {θ θ1 : Th} {H H1 : AHeap} {N : Nat} {Q : AX → Fr → AHeap → Prop} {e : Exit} {a : Act} {w w1 : World} (hpo : Post W0 θ H θ1 H1 w1) (h : PostC W0 θ1 H1 N Q e a w) : PostC W0 θ H N Q e a w := by
  obtain ⟨x, t', H', θ', q, hpo', hx⟩ := h
  exact ⟨x, t', H', θ', q, hpo.trans hpo', hx⟩

/-- A loop whose measure stands beside the state. (After the base's 'wp_loop'.) -/
theorem wp_loop_by {P : Program} {Q : Exit → Act → World → Prop} {a : Act} {w : World} {c : Code} (R : Nat → Act → World → Prop) {n0 : Nat} (h₀ : R n0 a w)
    (round : ∀ n a w, R n a w → c.wp P (Exit.then (fun a' w' => ∃ m, m < n ∧ R m a' w') Q) a w) : (Code.loop c).wp P Q a w := by
  intro b k cs
  have key : ∀ n a w, R n a w → ∃ e a' w', Q e a' w' ∧ Arrives P (lone (b.at a (.code c :: .inLoop c :: k)) cs w) b k cs e a' w' := by
    intro n
    induction n using Nat.strongRecOn with
    | _ n ih =>
      intro a w hI
      obtain ⟨e, a₁, w₁, hq, harr⟩ := round n a w hI b (.inLoop c :: k) cs
      cases e with
      | normal =>
        obtain ⟨m, hlt, hI₁⟩ := hq
        obtain ⟨e₂, a₂, w₂, hq₂, harr₂⟩ := ih m hlt a₁ w₁ hI₁
        exact ⟨e₂, a₂, w₂, hq₂, .of_steps (Steps.trans harr (.one step_inLoop)) harr₂⟩
      | exit id => exact ⟨_, a₁, w₁, hq, .pass (x := .inLoop c) rfl (fun _ _ => .inl (by simp)) harr⟩
      | goto l => exact ⟨_, a₁, w₁, hq, .pass (x := .inLoop c) rfl (fun _ _ => .inl (by simp)) harr⟩
      | ret => exact ⟨_, a₁, w₁, hq, .pass (x := .inLoop c) rfl (fun _ _ => .inl (by simp)) harr⟩
      | panic ch => exact ⟨_, a₁, w₁, hq, .pass (x := .inLoop c) rfl (fun _ _ => .inl (by simp)) harr⟩
      | outgrown => exact ⟨_, a₁, w₁, hq, .pass (x := .inLoop c) rfl (fun _ _ => .inl (by simp)) harr⟩
  obtain ⟨e, a', w', hq, harr⟩ := key _ a w h₀
  exact ⟨e, a', w', hq, .of_steps (.one step_loop) harr⟩

theorem WP_sound {P : Program} (hm : P.follows .mixedOrders = true) {N : Nat} : ∀ (c : Code) (x : C), compC P N c = some x → ∀ (Q : AX → Fr → AHeap → Prop) (t : Fr) (H : AHeap), WP P x Q t H →
    ∀ (W0 : World) (θ : Th) (a : Act) (w : World), RelA θ H.next N t a → Own W0 θ H w → c.wp P (PostC W0 θ H N Q) a w := by
  intro c
  induction c with
  | skip =>
    intro x hc Q t H h W0 θ a w hr ho
    simp only [compC] at hc; cases hc
    exact wp_skip ⟨.normal, t, H, θ, h, Post.refl ho, rfl, hr⟩
  | label l =>
    intro x hc Q t H h W0 θ a w hr ho
    simp only [compC] at hc; cases hc
    exact wp_label ⟨.normal, t, H, θ, h, Post.refl ho, rfl, hr⟩
  | exit id =>
    intro x hc Q t H h W0 θ a w hr ho
    simp only [compC] at hc; cases hc
    exact wp_exit ⟨.exit id, t, H, θ, h, Post.refl ho, rfl, hr⟩
  | ret =>
    intro x hc Q t H h W0 θ a w hr ho
    simp only [compC] at hc; cases hc
    exact wp_ret ⟨.ret, t, H, θ, h, Post.refl ho, rfl, hr⟩
  | region id ops draw =>
    intro x hc Q t H h W0 θ a w hr ho
    cases draw with
    | false =>
      simp only [compC] at hc
      obtain ⟨l, hl, rfl⟩ := map_some' hc
      refine wp_region_list ?_
      exact WPs_sound (W0 := W0) (θ0 := θ) (H0 := H) (fun t' H' θ' a' w' hk hpo hra => ⟨.normal, t', H', θ', hk, hpo, rfl, hra⟩)
        (fun v H' θ' a' w' hk hpo hv hd => ⟨.pan v, _, H', θ', hk, hpo, rfl, hv, hd⟩) ops.toList l hl t H θ a w h hr (Post.refl ho)
    | true =>
      simp only [compC] at hc
      split at hc
      · rename_i hns
        obtain ⟨l, hl, rfl⟩ := map_some' hc
        refine wp_region_WH hm ?_
        exact WPd_sound (W0 := W0) (θ0 := θ) (H0 := H) hns (fun t' H' θ' a' w' hk hpo hra => ⟨.normal, t', H', θ', hk, hpo, rfl, hra⟩)
          (fun v H' θ' a' w' hk hpo hv hd => ⟨.pan v, _, H', θ', hk, hpo, rfl, hv, hd⟩) (fun c a d v w hq => PostC.put c a d v w hq) ops.size _ l hl [] [] t H θ a _ h hr (Post.refl ho.drew) (fun x hx => by cases hx)
      · cases hc
  | seq c1 c2 ih1 ih2 =>
    intro x hc Q t H h W0 θ a w hr ho
    simp only [compC] at hc
    split at hc
    · rename_i x1 x2 h1 h2
      cases hc
      refine wp_seq (wp_mono (ih1 x1 h1 _ t H h W0 θ a w hr ho) fun e a1 w1 hq => ?_)
      obtain ⟨y, t1, H1, θ1, q, hpo, hy⟩ := hq
      cases y with
      | normal =>
        obtain ⟨rfl, hra⟩ := hy
        exact wp_mono (ih2 x2 h2 Q t1 H1 q W0 θ1 a1 w1 hra hpo.own) fun e a w hq => PostC.trans hpo hq
      | exit id => obtain ⟨rfl, hra⟩ := hy; exact ⟨.exit id, t1, H1, θ1, q, hpo, rfl, hra⟩
      | ret => obtain ⟨rfl, hra⟩ := hy; exact ⟨.ret, t1, H1, θ1, q, hpo, rfl, hra⟩
      | pan v => obtain ⟨rfl, hra⟩ := hy; exact ⟨.pan v, t1, H1, θ1, q, hpo, rfl, hra⟩
    · cases hc
  | cond z c1 c2 ih1 ih2 =>
    intro x hc Q t H h W0 θ a w hr ho
    simp only [compC] at hc
    split at hc
    · rename_i z' x1 x2 hz h1 h2
      cases hc
      obtain ⟨b, hb, hb1, hb2⟩ := h
      have he := (compO_sound hz hr).1
      rw [hb] at he
      cases b with
      | true => exact wp_cond_true he (ih1 x1 h1 Q t H (hb1 rfl) W0 θ a w hr ho)
      | false => exact wp_cond_false he (ih2 x2 h2 Q t H (hb2 rfl) W0 θ a w hr ho)
    · cases hc
  | block id c ih =>
    intro x hc Q t H h W0 θ a w hr ho
    simp only [compC] at hc
    obtain ⟨x1, h1, rfl⟩ := map_some' hc
    refine wp_block (wp_mono (ih x1 h1 _ t H h W0 θ a w hr ho) fun e a1 w1 hq => ?_)
    obtain ⟨y, t1, H1, θ1, q, hpo, hy⟩ := hq
    cases y with
    | normal => obtain ⟨rfl, hra⟩ := hy; exact ⟨.normal, t1, H1, θ1, q, hpo, rfl, hra⟩
    | exit i =>
      obtain ⟨rfl, hra⟩ := hy
      simp only [blkQ] at q
      simp only [Exit.inBlock]
      by_cases e : i = id
      · rw [if_pos e] at q ⊢; exact ⟨.normal, t1, H1, θ1, q, hpo, rfl, hra⟩
      · rw [if_neg e] at q ⊢; exact ⟨.exit i, t1, H1, θ1, q, hpo, rfl, hra⟩
    | ret => obtain ⟨rfl, hra⟩ := hy; exact ⟨.ret, t1, H1, θ1, q, hpo, rfl, hra⟩
    | pan v => obtain ⟨rfl, hra⟩ := hy; exact ⟨.pan v, t1, H1, θ1, q, hpo, rfl, hra⟩
  | loop c ih =>
    intro x hc Q t H h W0 θ a w hr ho
    simp only [compC] at hc
    obtain ⟨x1, h1, rfl⟩ := map_some' hc
    obtain ⟨I, μ, hI, hround⟩ := h
    refine wp_loop_by (fun n a w => ∃ t1 H1 θ1, I t1 H1 ∧ μ t1 H1 = n ∧ Post W0 θ H θ1 H1 w ∧ RelA θ1 H1.next N t1 a) ⟨t, H, θ, hI, rfl, Post.refl ho, hr⟩ ?_
    rintro n a1 w1 ⟨t1, H1, θ1, hI1, rfl, hpo1, hr1⟩
    refine wp_mono (ih x1 h1 _ t1 H1 (hround t1 H1 hI1) W0 θ1 a1 w1 hr1 hpo1.own) fun e a2 w2 hq => ?_
    obtain ⟨y, t2, H2, θ2, q, hpo, hy⟩ := hq
    cases y with
    | normal => obtain ⟨rfl, hra⟩ := hy; exact ⟨_, q.2, t2, H2, θ2, q.1, rfl, hpo1.trans hpo, hra⟩
    | exit i => obtain ⟨rfl, hra⟩ := hy; exact ⟨.exit i, t2, H2, θ2, q, hpo1.trans hpo, rfl, hra⟩
    | ret => obtain ⟨rfl, hra⟩ := hy; exact ⟨.ret, t2, H2, θ2, q, hpo1.trans hpo, rfl, hra⟩
    | pan v => obtain ⟨rfl, hra⟩ := hy; exact ⟨.pan v, t2, H2, θ2, q, hpo1.trans hpo, rfl, hra⟩
  | scope c ih =>
    intro x hc Q t H h W0 θ a w hr ho
    simp only [compC] at hc
    refine wp_scope_straight (wp_mono (ih x hc Q t H h W0 θ a w hr ho) fun e a1 w1 hq => ?_)
    cases e with
    | goto l =>
      obtain ⟨y, t1, H1, θ1, q, hpo, hy⟩ := hq
      cases y <;> exact absurd hy.1 (by simp)
    | _ => exact hq
  | _ => intro x hc; simp [compC] at hc

/-! ### functions -/
inductive RV where
  | tmp (i : Nat)
  | cell1 (i : Nat)
  | cellN (n i : Nat)

structure CF where
  ntmps : Nat
  res : List RV
  body : C

def compRV (P : Program) : List ResultVar → Option (List RV)
  | [] => some []
  | .tmp i :: r => (compRV P r).map (.tmp i :: ·)
  | .cell i ty :: r => match P.underlying ty, szOf P ty, compRV P r with
    | some d, some n, some l => some ((if isAggD d then .cellN n i else .cell1 i) :: l)
    | _, _, _ => none

def compF (P : Program) (f : FuncId) : Option CF :=
  match P.funcs[f]? with
  | some fn => match fn.body with
    | some c => match compC P fn.ntmps c, compRV P fn.results.toList with
      | some x, some r => some ⟨fn.ntmps, r, x⟩
      | _, _ => none
    | none => none
  | none => none

def Fr.ofArgs (args : List AV) : Fr := (args.zipIdx).foldl (fun t p => T.set t p.2 p.1) .leaf
theorem Fr.at_foldl : ∀ (l : List AV) (k : Nat) (t : Fr) (i : Nat), Fr.at ((l.zipIdx k).foldl (fun t p => T.set t p.2 p.1) t) i = if k ≤ i ∧ i < k + l.length then l.getD (i - k) undefA else Fr.at t i
  | [], k, t, i => by simp; intro h1 h2; omega
  | v :: l, k, t, i => by
    simp only [List.zipIdx_cons, List.foldl_cons]
    rw [Fr.at_foldl l (k + 1), Fr.at_set]
    simp only [List.length_cons]
    by_cases h : i = k
    · subst h; rw [if_neg (by omega), if_pos rfl, if_pos (by omega)]; simp
    · by_cases h2 : k + 1 ≤ i ∧ i < k + 1 + l.length
      · rw [if_pos h2, if_pos (by omega)]
        obtain ⟨j, hj⟩ : ∃ j, i - k = j + 1 := ⟨i - k - 1, by omega⟩
        rw [hj, show i - (k + 1) = j by omega]; rfl
      · rw [if_neg h2, if_neg h, if_neg (by omega)]
theorem Fr.at_ofArgs (args : List AV) (i : Nat) : Fr.at (Fr.ofArgs args) i = args.getD i undefA := by
  unfold Fr.ofArgs
  rw [Fr.at_foldl]
  by_cases h : i < args.length
  · rw [if_pos ⟨Nat.zero_le _, by omega⟩]; rfl
  · rw [if_neg (by omega)]
    simp [Fr.at, List.getD, List.getElem?_eq_none (Nat.le_of_not_lt h)]

/-- A result variable's value. -/
def evRV (t : Fr) (H : AHeap) : RV → Option AV
  | .tmp i => some (Fr.at t i)
  | .cell1 i => match Fr.at t i with
    | .ptr (some p) => H.cell p
    | _ => none
  | .cellN n i => match Fr.at t i with
    | .ptr (some p) => (H.range p n).map .agg
    | _ => none
def evRVs (t : Fr) (H : AHeap) : List RV → Option (List AV)
  | [] => some []
  | r :: l => match evRV t H r, evRVs t H l with
    | some v, some vs => some (v :: vs)
    | _, _ => none
def tup : List AV → AV
  | [v] => v
  | vs => .tuple vs

/-- What is asked of a function's body. -/
def bodyQ (res : List RV) (Q : AE → AHeap → Prop) : AX → Fr → AHeap → Prop
  | .normal, t, H | .ret, t, H => ∃ vs, evRVs t H res = some vs ∧ Q (.ret (tup vs)) H
  | .pan v, _, H => Q (.pan v) H
  | .exit _, _, _ => False

def resSem (tmps : Array Value) : ResultVar → Sem Value
  | .tmp i => pure (tmps.getD i undef)
  | .cell i ty => do loadVar ty (← asAddr (tmps.getD i undef))
theorem results_eq (fn : Func) (tmps : Array Value) : results fn tmps = (do let vs ← fn.results.mapM (resSem tmps); pure (if h : vs.size = 1 then vs[0] else .tuple vs)) := by
  unfold results
  congr 1

theorem evRVs_sound {P : Program} {θ : Th} {N : Nat} {t : Fr} {a : Act} {H : AHeap} {w : World} {W0 : World} (hr : RelA θ H.next N t a) (ho : Own W0 θ H w) : ∀ (rs : List ResultVar) (l : List RV), compRV P rs = some l → ∀ vs, evRVs t H l = some vs →
    (rs.mapM (resSem a.tmps)).run P w = Result.ok (AV.instL θ vs) w ∧ AV.okL H.next vs
  | [], l, hc, vs, hv => by
    simp only [compRV] at hc; cases hc
    simp only [evRVs] at hv; cases hv
    simp [AV.instL, AV.okL]
  | .tmp i :: rs, l, hc, vs, hv => by
    simp only [compRV] at hc
    obtain ⟨l', hl, rfl⟩ := map_some' hc
    simp only [evRVs, evRV] at hv
    split at hv
    · rename_i v vs' h1 h2
      cases h1; cases hv
      obtain ⟨g1, g2⟩ := evRVs_sound hr ho rs l' hl vs' h2
      refine ⟨?_, hr.ok i, g2⟩
      simp only [List.mapM_cons, resSem, Sem.run_bind, Sem.run_pure, Result.andThen, hr.getD i, g1, AV.instL]
    · cases hv
  | .cell i ty :: rs, l, hc, vs, hv => by
    simp only [compRV] at hc
    split at hc
    · rename_i d n l' hd hs hl
      cases hc
      simp only [evRVs] at hv
      split at hv
      · rename_i v vs' h1 h2
        cases hv
        obtain ⟨g1, g2⟩ := evRVs_sound hr ho rs l' hl vs' h2
        have key : (resSem a.tmps (.cell i ty)).run P w = .ok (v.inst θ) w ∧ v.ok H.next := by
          simp only [resSem]
          rw [hr.getD i]
          cases hag : isAggD d with
          | true =>
            simp only [hag, if_true, evRV] at h1
            split at h1
            · rename_i p hp
              obtain ⟨l2, hl2, rfl⟩ := map_some' h1
              obtain ⟨r1, r2, r3⟩ := range_sound (ho.reads p.1) hl2
              refine ⟨?_, r3⟩
              rw [hp]
              simp only [AV.inst, Option.map_some, asAddr, Sem.run_bind, Sem.run_pure, Result.andThen, loadVar, run_isAgg hd, hag, if_true, run_sizeOf hs]
              have := run_loadCells_list (P := P) w (θ.addr p) (AV.instL θ l2) (fun j v hj => by
                rw [AV.instL_eq, List.getElem?_map] at hj
                cases hq : l2[j]? with
                | none => rw [hq] at hj; cases hj
                | some u => rw [hq] at hj; cases hj; exact r2 j u hq)
              rw [AV.instL_eq, List.length_map, r1, ← AV.instL_eq] at this
              simp only [this]
            · cases h1
          | false =>
            simp only [hag, if_false, Bool.false_eq_true, evRV] at h1
            split at h1
            · rename_i p hp
              obtain ⟨r1, r2⟩ := cell_sound (ho.reads p.1) h1
              refine ⟨?_, r2⟩
              rw [hp]
              simp only [AV.inst, Option.map_some, asAddr, Sem.run_bind, Sem.run_pure, Result.andThen, loadVar, run_isAgg hd, hag, if_false, Bool.false_eq_true]
              simp [load, Sem.run, r1]
            · cases h1
        refine ⟨?_, key.2, g2⟩
        simp only [List.mapM_cons, Sem.run_bind, key.1, Sem.run_pure, Result.andThen, g1, AV.instL]
      · cases hv
    · cases hc

theorem results_sound {P : Program} {fn : Func} {θ : Th} {N : Nat} {t : Fr} {a : Act} {H : AHeap} {w : World} {W0 : World} (hr : RelA θ H.next N t a) (ho : Own W0 θ H w) {l : List RV} (hc : compRV P fn.results.toList = some l) {vs : List AV} (hv : evRVs t H l = some vs) :
    (results fn a.tmps).run P w = .ok ((tup vs).inst θ) w ∧ (tup vs).ok H.next := by
  obtain ⟨h1, h2⟩ := evRVs_sound hr ho _ _ hc vs hv
  have h3 : (fn.results.mapM (resSem a.tmps)).run P w = Result.ok (AV.instL θ vs).toArray w := by
    rw [← Array.toArray_toList (xs := fn.results), List.mapM_toArray]
    simp [h1, Result.andThen]
  rw [results_eq]
  simp only [Sem.run_bind, h3, Result.andThen, Sem.run_pure]
  have hlen : (AV.instL θ vs).toArray.size = vs.length := by simp [AV.instL_eq]
  match vs, h2, hlen with
  | [], h2, _ => simp [tup, AV.instL, AV.inst, AV.ok, AV.okL]
  | [v], h2, _ => exact ⟨by simp [tup, AV.instL], h2.1⟩
  | v :: u :: r, h2, _ => exact ⟨by simp [tup, AV.instL, AV.inst], h2⟩

theorem ACall.of_WP {P : Program} (hm : P.follows .mixedOrders = true) {f : FuncId} {F : CF} (hc : compF P f = some F) (hpl : plainF P f = true) {args : List AV} (hargs : args.length ≤ F.ntmps) {H : AHeap} {Q : AE → AHeap → Prop}
    (h : WP P F.body (bodyQ F.res Q) (Fr.ofArgs args) H) : ACall P f args H Q := by
  refine ⟨hpl, fun W0 θ w ho hok => ?_⟩
  unfold compF at hc
  split at hc
  · rename_i fn hf
    split at hc
    · rename_i c hb
      split at hc
      · rename_i x r hx hrv
        cases hc
        refine calls_of_wp hf hb (wp_mono (WP_sound hm c x hx _ _ H h W0 θ _ w ?_ ho) fun e a' w' hq => ?_)
        · have hargs' : args.length ≤ fn.ntmps := hargs
          refine ⟨by simp [AV.instL_eq]; omega, fun i hi => ?_, fun i hi => ?_, fun i => ?_, rfl⟩
          · rw [Fr.at_ofArgs]
            simp only [Array.getElem?_append, List.size_toArray, AV.instL_eq, List.length_map]
            by_cases h1 : i < args.length
            · rw [if_pos h1]; simp [List.getD, h1]
            · rw [if_neg h1]
              simp only [Array.getElem?_replicate]
              rw [if_pos (by omega)]
              simp [List.getD, List.getElem?_eq_none (Nat.le_of_not_lt h1)]
          · rw [Fr.at_ofArgs]
            have hargs' : args.length ≤ fn.ntmps := hargs
            simp [List.getD, List.getElem?_eq_none (show args.length ≤ i by omega)]
          · rw [Fr.at_ofArgs]
            by_cases h1 : i < args.length
            · simp only [List.getD, List.getElem?_eq_getElem h1, Option.getD_some]
              exact (AV.okL_iff _ _).1 hok _ (List.getElem_mem h1)
            · simp only [List.getD, List.getElem?_eq_none (Nat.le_of_not_lt h1), Option.getD_none]
              exact trivial
        · obtain ⟨y, t', H', θ', q, hpo, hy⟩ := hq
          cases y with
          | normal =>
            obtain ⟨rfl, hra⟩ := hy
            obtain ⟨vs, hvs, hQ⟩ := q
            obtain ⟨r1, r2⟩ := results_sound hra hpo.own hrv hvs
            exact ⟨hra.defers, _, r1, .ret (tup vs), H', θ', hQ, hpo, rfl, r2⟩
          | ret =>
            obtain ⟨rfl, hra⟩ := hy
            obtain ⟨vs, hvs, hQ⟩ := q
            obtain ⟨r1, r2⟩ := results_sound hra hpo.own hrv hvs
            exact ⟨hra.defers, _, r1, .ret (tup vs), H', θ', hQ, hpo, rfl, r2⟩
          | pan v =>
            obtain ⟨rfl, hvk, hd⟩ := hy
            exact ⟨hd, .pan v, H', θ', q, hpo, rfl, hvk⟩
          | exit id => exact q.elim
      · cases hc
    · cases hc
  · cases hc
end Go.AM
