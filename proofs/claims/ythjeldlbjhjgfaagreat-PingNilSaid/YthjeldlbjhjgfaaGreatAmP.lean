/- The abstract machine, part P: a cheaper compiling, and that what it asks serves. -/
import Derived.Test.YthjeldlbjhjgfaaGreatAmY
namespace Go.AM
set_option linter.unusedSimpArgs false
set_option linter.unusedVariables false
open Go.RowKit

def PS.stp : PS → Stp
  | .take _ s _ _ => s
  | .loud _ s _ => s
def PS.ix : PS → Nat
  | .take i _ _ _ => i
  | .loud i _ _ => i
def ordFrom : Nat → List PS → Bool
  | _, [] => true
  | k, p :: r => p.ix == k && ordFrom (k + 1) r
/-- Operations that lay nothing over what stood. -/
def Stp.mild (s : Stp) : Bool := match s.op with
  | .wr _ | .nxt _ => false
  | _ => true

/-- A plan's bones: which operation, whether it floats, and (of a loud one) which it waits for. -/
structure Sk where
  ix : Nat
  fl : Bool
  W : Option (List Nat)
  deriving DecidableEq
def PS.sk : PS → Sk
  | .take i _ _ fl => ⟨i, fl, none⟩
  | .loud i _ W => ⟨i, false, some W⟩
def buildP (P : Program) (N : Nat) (ops : Array Oper) : List Sk → Option (List PS)
  | [] => some []
  | k :: r => match (ops[k.ix]?).bind (compS P N ops), buildP P N ops r with
    | some s, some l => match k.W with
      | some W => some (.loud k.ix s W :: l)
      | none => match s.op with
        | .rd q => some (.take k.ix s q k.fl :: l)
        | _ => none
    | _, _ => none

def compC2 (ord : List (Nat × List Sk)) (P : Program) (N : Nat) : Code → Option C
  | .skip => some .skip
  | .label _ => some .skip
  | .region _ ops false => (compRegion P N ops ops.toList).map .ops
  | .region id ops true => match ord.lookup id with
    | none => (compRegion P N ops ops.toList).map .aops
    | some sk => match buildP P N ops sk with
      | some l => some (if (l.map PS.stp).all Stp.mild = true then .aops (l.map PS.stp) else .dops l)
      | none => none
  | .seq a b => match compC2 ord P N a, compC2 ord P N b with
    | some x, some y => some (.seq x y)
    | _, _ => none
  | .cond c a b => match compO c, compC2 ord P N a, compC2 ord P N b with
    | some z, some x, some y => some (.cond z x y)
    | _, _, _ => none
  | .block id b => (compC2 ord P N b).map (.block id)
  | .loop b => (compC2 ord P N b).map .loop
  | .scope b => compC2 ord P N b
  | .exit id => some (.exit id)
  | .ret => some .ret
  | .rangeFunc g ps assign body => (compO g).map fun g => .rfn N g ps assign body
  | _ => none

/-- All plans are as they are told, or in the text's order. -/
def ordC (ord : List (Nat × List Sk)) (P : Program) (N : Nat) : Code → Bool
  | .region id ops true => match planGo P N ops ops.size (Array.replicate ops.size false) with
    | some l => match ord.lookup id with
      | none => ordFrom 0 l && l.length == ops.size
      | some sk => decide (l.map PS.sk = sk)
    | none => false
  | .seq a b => ordC ord P N a && ordC ord P N b
  | .cond _ a b => ordC ord P N a && ordC ord P N b
  | .block _ b | .loop b | .scope b => ordC ord P N b
  | _ => true

theorem WPo_mono {P : Program} {c : CO} {t : Fr} {H : AHeap} {K K' : AV → AHeap → Prop} {Kp Kp' : AV → AHeap → Prop} (hk : ∀ v H', K v H' → K' v H') (hp : ∀ v H', Kp v H' → Kp' v H') (h : WPo P c t H K Kp) : WPo P c t H K' Kp' := by
  cases c with
  | rd r => obtain ⟨v, h1, h2⟩ := h; exact ⟨v, h1, hk _ _ h2⟩
  | wr r => obtain ⟨v, H', h1, h2⟩ := h; exact ⟨v, H', h1, hk _ _ h2⟩
  | call f args => exact ACall.mono h fun x H' q => by cases x <;> first | exact hk _ _ q | exact hp _ _ q
  | callv f args =>
    simp only [WPo] at h ⊢
    split at h
    · exact ACall.mono h fun x H' q => by cases x <;> first | exact hk _ _ q | exact hp _ _ q
    · exact AYield.mono h hk
    · exact h.elim
  | nxt x => exact ANext.mono hk h
  | panic x =>
    simp only [WPo] at h ⊢
    split at h
    · exact hp _ _ h
    · exact h.elim

theorem WPs_mono {P : Program} : ∀ (l : List Stp) {K K' : Fr → AHeap → Prop} {Kp Kp' : AV → AHeap → Prop} (hk : ∀ v H', K v H' → K' v H') (hp : ∀ v H', Kp v H' → Kp' v H') (t : Fr) (H : AHeap), WPs P l K Kp t H → WPs P l K' Kp' t H
  | [], K, K', Kp, Kp', hk, hp, t, H, h => hk _ _ h
  | s :: r, K, K', Kp, Kp', hk, hp, t, H, h => by
    simp only [WPs] at h ⊢
    split at h
    · exact h.elim
    · exact WPs_mono r hk hp _ _ h
    · exact WPo_mono (fun v H' q => WPs_mono r hk hp _ _ q) hp h

theorem WPd_mono {P : Program} : ∀ (l : List PS) {K K' : Fr → AHeap → Prop} {Kp Kp' : AV → AHeap → Prop} (hk : ∀ v H', K v H' → K' v H') (hp : ∀ v H', Kp v H' → Kp' v H') (T : List (Nat × Nat)) (t : Fr) (H : AHeap), WPd P K Kp l T t H → WPd P K' Kp' l T t H
  | [], K, K', Kp, Kp', hk, hp, T, t, H, h => hk _ _ h
  | .take i s q fl :: r, K, K', Kp, Kp', hk, hp, T, t, H, h => by
    simp only [WPd] at h ⊢
    split at h
    · exact h.elim
    · exact WPd_mono r hk hp _ _ _ h
    · obtain ⟨v, h1, h2⟩ := h; exact ⟨v, h1, WPd_mono r hk hp _ _ _ h2⟩
  | .loud i s W :: r, K, K', Kp, Kp', hk, hp, T, t, H, h => by
    simp only [WPd] at h ⊢
    split at h
    · exact h.elim
    · exact WPd_mono r hk hp _ _ _ h
    · exact WPo_mono (fun v H' q => ⟨q.1, WPd_mono r hk hp _ _ _ q.2⟩) hp h

theorem rdOf_get {r : RR} {ρ : AO → AV} {H : AHeap} {v : AV} {b : Nat} (h : evR r ρ H = some v) (hb : rdOf r ρ = some b) : H.get b ≠ none := by
  intro hn
  cases r <;> simp only [rdOf] at hb <;> first | (cases hb; done) | skip
  · simp only [evR] at h
    split at hb
    · rename_i p hp; cases hb; rw [hp] at h; simp [AHeap.cell, hn] at h
    · cases hb
  · simp only [evR] at h
    split at hb
    · rename_i p hp; cases hb; rw [hp] at h; simp [AHeap.range, hn] at h
    · cases hb
  · simp only [evR] at h
    split at hb
    · rename_i p n c hp; cases hb; rw [hp] at h; simp [AHeap.range, hn] at h
    · cases hb
  · simp only [evR] at h
    split at hb
    · rename_i p n c hp; cases hb; rw [hp] at h; simp [slV, slI, hn] at h
    · cases hb
  · rename_i k x
    simp only [evR] at h
    split at hb
    · rename_i p hp; cases hb; rw [hp] at h; cases k <;> simp [lenV, hn] at h
    · cases hb
  · simp only [evR] at h
    split at hb
    · rename_i r hp; cases hb; rw [hp] at h; simp [lookA, hn] at h
    · cases hb

/-- What is asked without the plan serves the plan. -/
theorem WPa_WPd {P : Program} : ∀ (l : List PS), (∀ p ∈ l, ∀ i s r fl, p = .take i s r fl → s.op = .rd r) → ∀ {K K' : Fr → AHeap → Prop} {Kp Kp' : AV → AHeap → Prop} (hk : ∀ v H', K v H' → K' v H') (hp : ∀ v H', Kp v H' → Kp' v H')
    (T : List (Nat × Nat)) (t : Fr) (H : AHeap), (∀ x ∈ T, H.get x.2 ≠ none) → WPa P (l.map PS.stp) K Kp t H → WPd P K' Kp' l T t H
  | [], _, K, K', Kp, Kp', hk, hp, T, t, H, hT, h => hk _ _ h
  | .take i s q fl :: r, hl, K, K', Kp, Kp', hk, hp, T, t, H, hT, h => by
    have hop : s.op = .rd q := hl _ List.mem_cons_self i s q fl rfl
    have ih := WPa_WPd (P := P) r (fun p hp => hl p (List.mem_cons_of_mem _ hp)) hk hp
    simp only [List.map_cons, PS.stp, WPa] at h
    simp only [WPd]
    split at h
    · exact h.elim
    · rename_i hg; simp only [hg]; exact ih T _ H hT h
    · rename_i hg
      simp only [hg]
      rw [hop] at h
      obtain ⟨v, h1, _, h2⟩ := h
      refine ⟨v, h1, ?_⟩
      refine ih _ _ H (fun x hx => ?_) h2
      split at hx
      · rename_i b hrd
        rcases List.mem_cons.1 hx with rfl | hx
        · exact rdOf_get h1 hrd
        · exact hT x hx
      · exact hT x hx
  | .loud i s W :: r, hl, K, K', Kp, Kp', hk, hp, T, t, H, hT, h => by
    have ih := WPa_WPd (P := P) r (fun p hp => hl p (List.mem_cons_of_mem _ hp)) hk hp
    simp only [List.map_cons, PS.stp, WPa] at h
    simp only [WPd]
    split at h
    · exact h.elim
    · rename_i hg; simp only [hg]; exact ih _ _ H (fun x hx => hT x (List.mem_filter.1 hx).1) h
    · rename_i hg
      simp only [hg]
      refine WPo_mono (fun v H' hq => ?_) hp h
      refine ⟨fun x hx _ => hq.1 x.2 (hT x hx), ih _ _ H' (fun x hx => ?_) hq.2⟩
      have := hT x (List.mem_filter.1 hx).1
      rw [hq.1 x.2 this]; exact this

theorem planGo_mem {P : Program} {N : Nat} {ops : Array Oper} : ∀ (f : Nat) (listed : Array Bool) (l : List PS), planGo P N ops f listed = some l → ∀ p ∈ l, (ops[p.ix]?).bind (compS P N ops) = some p.stp ∧ ∀ i s r fl, p = .take i s r fl → s.op = .rd r
  | 0, listed, l, h, p, hp => by
    simp only [planGo] at h
    split at h
    · cases h; cases hp
    · cases h
  | f + 1, listed, l, h, p, hp => by
    simp only [planGo] at h
    split at h
    · cases h; cases hp
    · split at h
      · rename_i k s q hpick
        obtain ⟨l', hl', rfl⟩ := map_some' h
        obtain ⟨_, _, h3, h4⟩ := pickRd_sound hpick
        rcases List.mem_cons.1 hp with rfl | hp
        · exact ⟨h3, fun i s' r fl e => by cases e; exact h4⟩
        · exact planGo_mem f _ l' hl' p hp
      · split at h
        · split at h
          · rename_i s hs
            obtain ⟨l', hl', rfl⟩ := map_some' h
            rcases List.mem_cons.1 hp with rfl | hp
            · exact ⟨hs, fun i s' r fl e => by cases e⟩
            · exact planGo_mem f _ l' hl' p hp
          · cases h
        · cases h

theorem plan_region {P : Program} {N : Nat} {ops : Array Oper} : ∀ (l : List PS) (k : Nat) (os : List Oper), ordFrom k l = true → l.length = os.length → (∀ j o, os[j]? = some o → ops[k + j]? = some o) →
    (∀ p ∈ l, (ops[p.ix]?).bind (compS P N ops) = some p.stp) → compRegion P N ops os = some (l.map PS.stp)
  | [], k, [], _, _, _, _ => rfl
  | [], k, _ :: _, _, h, _, _ => by cases h
  | _ :: _, k, [], _, h, _, _ => by cases h
  | p :: l, k, o :: os, h, hlen, ho, hp => by
    simp only [ordFrom, Bool.and_eq_true, beq_iff_eq] at h
    have h0 := hp p List.mem_cons_self
    rw [h.1, show ops[k]? = some o from ho 0 o rfl] at h0
    have ih := plan_region l (k + 1) os h.2 (by simpa using hlen) (fun j o' hj => by have := ho (j + 1) o' hj; rw [← this]; congr 1; omega) (fun q hq => hp q (List.mem_cons_of_mem _ hq))
    have h0' : compS P N ops o = some p.stp := h0
    simp only [compRegion, h0', ih, List.map_cons]

theorem build_plan {P : Program} {N : Nat} {ops : Array Oper} : ∀ (l : List PS), (∀ p ∈ l, (ops[p.ix]?).bind (compS P N ops) = some p.stp ∧ ∀ i s r fl, p = .take i s r fl → s.op = .rd r) → buildP P N ops (l.map PS.sk) = some l
  | [], _ => rfl
  | p :: l, h => by
    have ih := build_plan l fun q hq => h q (List.mem_cons_of_mem _ hq)
    obtain ⟨h1, h2⟩ := h p List.mem_cons_self
    cases p with
    | take i s r fl =>
      have h1' : (ops[i]?).bind (compS P N ops) = some s := h1
      simp only [List.map_cons, PS.sk, buildP, h1', ih, h2 i s r fl rfl]
    | loud i s W =>
      have h1' : (ops[i]?).bind (compS P N ops) = some s := h1
      simp only [List.map_cons, PS.sk, buildP, h1', ih]

theorem seqQ_mono {N N' : Fr → AHeap → Prop} {Q Q' : AX → Fr → AHeap → Prop} (hn : ∀ t H, N t H → N' t H) (hq : ∀ x t H, Q x t H → Q' x t H) : ∀ x t H, seqQ N Q x t H → seqQ N' Q' x t H := by
  intro x t H h; cases x <;> first | exact hn _ _ h | exact hq _ _ _ h
theorem blkQ_mono {id : Nat} {Q Q' : AX → Fr → AHeap → Prop} (hq : ∀ x t H, Q x t H → Q' x t H) : ∀ x t H, blkQ id Q x t H → blkQ id Q' x t H := by
  intro x t H h
  cases x with
  | exit i =>
    simp only [blkQ] at h ⊢
    split
    · rename_i e; rw [if_pos e] at h; exact hq _ _ _ h
    · rename_i e; rw [if_neg e] at h; exact hq _ _ _ h
  | _ => exact hq _ _ _ h

theorem rfnQ_mono {Q Q' : AX → Fr → AHeap → Prop} (hq : ∀ x t H, Q x t H → Q' x t H) {t : Fr} {l : Nat} : ∀ x H, RfnQ Q t l x H → RfnQ Q' t l x H := by
  intro x H h
  cases x with
  | pan v => exact hq _ _ _ h
  | ret v =>
    simp only [RfnQ] at h ⊢
    split at h
    · refine ⟨h.1, ?_⟩
      have h := h.2
      split at h <;> first | exact hq _ _ _ h | exact h.elim
    · exact h.elim
theorem rfnV_mono {P : Program} {N : Nat} {ps : Array Tmp} {assign body : Code} {Q Q' : AX → Fr → AHeap → Prop} (hq : ∀ x t H, Q x t H → Q' x t H) {t : Fr} {H : AHeap} {v : AV} (h : RfnV P N ps assign body Q t H v) : RfnV P N ps assign body Q' t H v := by
  unfold RfnV at h ⊢
  split at h
  · exact ACall.mono h (rfnQ_mono hq)
  · exact h.elim

/-- The cheaper compiling's code asks enough. -/
theorem compC2_sound {ord : List (Nat × List Sk)} {P : Program} {N : Nat} : ∀ (c : Code) (x : C), compC P N c = some x → ordC ord P N c = true → ∃ y, compC2 ord P N c = some y ∧
    ∀ (Q Q' : AX → Fr → AHeap → Prop), (∀ x t H, Q x t H → Q' x t H) → ∀ t H, WP P y Q t H → WP P x Q' t H := by
  intro c
  induction c with
  | skip => intro x hc ho; simp only [compC] at hc; cases hc; exact ⟨_, rfl, fun Q Q' hq t H h => hq _ _ _ h⟩
  | label l => intro x hc ho; simp only [compC] at hc; cases hc; exact ⟨_, rfl, fun Q Q' hq t H h => hq _ _ _ h⟩
  | exit id => intro x hc ho; simp only [compC] at hc; cases hc; exact ⟨_, rfl, fun Q Q' hq t H h => hq _ _ _ h⟩
  | ret => intro x hc ho; simp only [compC] at hc; cases hc; exact ⟨_, rfl, fun Q Q' hq t H h => hq _ _ _ h⟩
  | region id ops draw =>
    intro x hc ho
    cases draw with
    | false =>
      simp only [compC] at hc
      refine ⟨x, hc, fun Q Q' hq t H h => ?_⟩
      obtain ⟨l, hl, rfl⟩ := map_some' hc
      exact WPs_mono l (fun _ _ q => hq _ _ _ q) (fun _ _ q => hq _ _ _ q) t H h
    | true =>
      simp only [compC] at hc
      split at hc
      · rename_i hns
        obtain ⟨l, hl, rfl⟩ := map_some' hc
        simp only [ordC, hl] at ho
        have hmem := planGo_mem _ _ _ hl
        have mild : ∀ (Q Q' : AX → Fr → AHeap → Prop), (∀ x t H, Q x t H → Q' x t H) → ∀ t H, WP P (.aops (l.map PS.stp)) Q t H → WP P (.dops l) Q' t H := fun Q Q' hq t H h =>
          WPa_WPd l (fun p hp => (hmem p hp).2) (fun _ _ q => hq _ _ _ q) (fun _ _ q => hq _ _ _ q) [] t H (fun x hx => by cases hx) h
        split at ho
        · rename_i hlk
          simp only [Bool.and_eq_true, beq_iff_eq] at ho
          have hreg := plan_region l 0 ops.toList ho.1 (by simpa using ho.2) (fun j o hj => by simpa using hj) (fun p hp => (hmem p hp).1)
          exact ⟨.aops (l.map PS.stp), by simp only [compC2, hlk, hreg, Option.map_some], mild⟩
        · rename_i sk hlk
          have hsk := of_decide_eq_true ho
          have hb := build_plan l hmem
          rw [hsk] at hb
          by_cases hm : (l.map PS.stp).all Stp.mild = true
          · exact ⟨.aops (l.map PS.stp), by simp only [compC2, hlk, hb, hm, if_true], mild⟩
          · refine ⟨.dops l, by simp only [compC2, hlk, hb, hm, if_false]; rfl, fun Q Q' hq t H h => ?_⟩
            exact WPd_mono l (fun _ _ q => hq _ _ _ q) (fun _ _ q => hq _ _ _ q) [] t H h
      · cases hc
  | seq c1 c2 ih1 ih2 =>
    intro x hc ho
    simp only [compC] at hc
    simp only [ordC, Bool.and_eq_true] at ho
    split at hc
    · rename_i x1 x2 h1 h2
      cases hc
      obtain ⟨y1, g1, s1⟩ := ih1 x1 h1 ho.1
      obtain ⟨y2, g2, s2⟩ := ih2 x2 h2 ho.2
      exact ⟨.seq y1 y2, by simp only [compC2, g1, g2], fun Q Q' hq t H h => s1 _ _ (seqQ_mono (fun t H q => s2 Q Q' hq t H q) hq) t H h⟩
    · cases hc
  | cond z c1 c2 ih1 ih2 =>
    intro x hc ho
    simp only [compC] at hc
    simp only [ordC, Bool.and_eq_true] at ho
    split at hc
    · rename_i z' x1 x2 hz h1 h2
      cases hc
      obtain ⟨y1, g1, s1⟩ := ih1 x1 h1 ho.1
      obtain ⟨y2, g2, s2⟩ := ih2 x2 h2 ho.2
      refine ⟨.cond z' y1 y2, by simp only [compC2, hz, g1, g2], fun Q Q' hq t H h => ?_⟩
      obtain ⟨b, hb, hb1, hb2⟩ := h
      exact ⟨b, hb, fun e => s1 Q Q' hq t H (hb1 e), fun e => s2 Q Q' hq t H (hb2 e)⟩
    · cases hc
  | block id c ih =>
    intro x hc ho
    simp only [compC] at hc
    obtain ⟨x1, h1, rfl⟩ := map_some' hc
    obtain ⟨y1, g1, s1⟩ := ih x1 h1 ho
    exact ⟨.block id y1, by simp only [compC2, g1, Option.map_some], fun Q Q' hq t H h => s1 _ _ (blkQ_mono hq) t H h⟩
  | loop c ih =>
    intro x hc ho
    simp only [compC] at hc
    obtain ⟨x1, h1, rfl⟩ := map_some' hc
    obtain ⟨y1, g1, s1⟩ := ih x1 h1 ho
    refine ⟨.loop y1, by simp only [compC2, g1, Option.map_some], fun Q Q' hq t H h => ?_⟩
    obtain ⟨I, μ, hI, hround⟩ := h
    exact ⟨I, μ, hI, fun t H hi => s1 _ _ (seqQ_mono (fun _ _ q => q) hq) t H (hround t H hi)⟩
  | scope c ih =>
    intro x hc ho
    simp only [compC] at hc
    obtain ⟨y1, g1, s1⟩ := ih x hc ho
    exact ⟨y1, by simp only [compC2, g1], s1⟩
  | rangeFunc g ps assign body iha ihb =>
    intro x hc ho
    simp only [compC] at hc
    refine ⟨x, hc, fun Q Q' hq t H h => ?_⟩
    obtain ⟨y, hy, rfl⟩ := map_some' hc
    exact rfnV_mono hq h
  | _ => intro x hc; simp [compC] at hc

def compF2 (ord : List (Nat × List Sk)) (P : Program) (f : FuncId) : Option CF :=
  match P.funcs[f]? with
  | some fn => match fn.body with
    | some c => match compC2 ord P fn.ntmps c, compRV P fn.results.toList with
      | some x, some r => some ⟨fn.ntmps, r, x⟩
      | _, _ => none
    | none => none
  | none => none
/-- The function may be walked by its cheaper code. -/
def okF (ord : List (Nat × List Sk)) (P : Program) (f : FuncId) : Bool :=
  plainF P f && (compF P f).isSome && (match P.funcs[f]? with
  | some fn => match fn.body with
    | some c => ordC ord P fn.ntmps c
    | none => false
  | none => false)

/-- A call, by its function's code. -/
theorem ACall.walk (ord : List (Nat × List Sk)) {P : Program} (hm : P.follows .mixedOrders = true) {f : FuncId} {args : List AV} {H : AHeap} {Q : AE → AHeap → Prop} (hs : okF ord P f = true)
    (h : ∀ F, compF2 ord P f = some F → args.length ≤ F.ntmps ∧ (H.base ≤ H.next → AV.okL H.next args → WP P F.body (bodyQ F.res Q) (Fr.ofArgs args) H)) : ACall P f args H Q := by
  simp only [okF, Bool.and_eq_true] at hs
  obtain ⟨⟨hpl, hc⟩, ho⟩ := hs
  obtain ⟨F, hF⟩ := Option.isSome_iff_exists.1 hc
  refine ⟨hpl, fun W0 θ w hown ha => ?_⟩
  have hF' := hF
  unfold compF at hF
  split at hF
  · rename_i fn hf
    split at hF
    · rename_i c hb
      split at hF
      · rename_i x r hx hrv
        cases hF
        rw [hf] at ho
        simp only [hb] at ho
        obtain ⟨y, hy, hs⟩ := compC2_sound c x hx ho
        have h2 : compF2 ord P f = some ⟨fn.ntmps, r, y⟩ := by simp only [compF2, hf, hb, hy, hrv]
        obtain ⟨h3, h4⟩ := h _ h2
        exact (ACall.of_WP hm hF' hpl h3 (hs _ _ (fun _ _ _ q => q) _ _ (h4 hown.next ha))).2 W0 θ w hown ha
      · cases hF
    · cases hF
  · cases hF

/-- A round's code may be walked by its cheaper code. -/
def okR (ord : List (Nat × List Sk)) (P : Program) (N : Nat) (ps : Array Tmp) (assign body : Code) : Bool :=
  (compC P N assign).isSome && (compC P N body).isSome && ordC ord P N assign && ordC ord P N body && ps.toList.all (fun p => decide (p < N))

theorem rndA_mono {K K' : Fr → AHeap → Prop} (h : ∀ t H, K t H → K' t H) : ∀ x t H, rndA K x t H → rndA K' x t H := by
  intro x t H q; cases x <;> first | exact h _ _ q | exact q.elim

/-- One round, by its cheaper code. -/
theorem AYield.walk (ord : List (Nat × List Sk)) {P : Program} (hm : P.follows .mixedOrders = true) {N : Nat} {ps : Array Tmp} {assign body : Code} {l : Nat} {args : List AV} {H : AHeap} {t : Fr} {pend : Option Code} {Q : AV → AHeap → Prop}
    (hg : H.get l = some (.loop .ready pend N t ps assign body)) (hs : okR ord P N ps assign body = true) (hb : H.base ≤ l) (hlen : ps.toList.length = args.length)
    (h : ∀ xa xb, some xa = compC2 ord P N assign → some xb = compC2 ord P N body → WP P xa (rndA (WP P xb (rndQ l N t ps assign body Q))) (bindPs t ps.toList args) (H.put l .dead)) : AYield P l args H Q := by
  simp only [okR, Bool.and_eq_true] at hs
  obtain ⟨⟨⟨⟨h1, h2⟩, h3⟩, h4⟩, h5⟩ := hs
  obtain ⟨xa, hxa⟩ := Option.isSome_iff_exists.1 h1
  obtain ⟨xb, hxb⟩ := Option.isSome_iff_exists.1 h2
  obtain ⟨ya, hya, sa⟩ := compC2_sound assign xa hxa h3
  obtain ⟨yb, hyb, sb⟩ := compC2_sound body xb hxb h4
  refine AYield.of_WP hm hxa hxb (fun p hp => by have := List.all_eq_true.1 h5 p hp; simpa using this) hg hb hlen ?_
  exact sa _ _ (rndA_mono fun t H q => sb _ _ (fun _ _ _ q => q) t H q) _ _ (h ya yb hya.symm hyb.symm)
end Go.AM
