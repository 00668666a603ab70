/- The abstract machine, part Y: one round of a range over a function. -/
import Derived.Test.YthjeldlbjhjgfaaGreatAmN
namespace Go.AM
set_option linter.unusedSimpArgs false
set_option linter.unusedVariables false
open Go.RowKit

/-- The round's parameters. -/
def bindPs : Fr → List Tmp → List AV → Fr
  | t, p :: ps, v :: vs => bindPs (T.set t p v) ps vs
  | t, _, _ => t

/-- What is asked behind the assignments to the loop's left sides. -/
def rndA (K : Fr → AHeap → Prop) : AX → Fr → AHeap → Prop
  | .normal, t, H => K t H
  | _, _, _ => False
/-- What is asked behind a round's body. -/
def rndQ (l N : Nat) (t : Fr) (ps : Array Tmp) (assign body : Code) (Q : AV → AHeap → Prop) : AX → Fr → AHeap → Prop
  | .normal, _, H' => Q (.bool true) (H'.put l (.loop .ready none N t ps assign body))
  | .ret, _, H' => Q (.bool false) (H'.put l (.loop .done (some .ret) N t ps assign body))
  | .exit id, _, H' => Q (.bool false) (H'.put l (.loop .done (some (.exit id)) N t ps assign body))
  | .pan _, _, _ => False

theorem relA_bind {θ : Th} {n N : Nat} {ds : List Deferred} : ∀ (ps : List Tmp) (vs : List AV) (t : Fr) (tmps : Array Value), ps.length = vs.length → (∀ p ∈ ps, p < N) → AV.okL n vs → RelA θ n N t { tmps := tmps, defers := ds } →
    RelA θ n N (bindPs t ps vs) { tmps := (ps.zip (AV.instL θ vs)).foldl (fun tmps p => tmps.setIfInBounds p.1 p.2) tmps, defers := ds }
  | [], [], t, tmps, _, _, _, h => h
  | [], _ :: _, _, _, h, _, _, _ => by cases h
  | _ :: _, [], _, _, h, _, _, _ => by cases h
  | p :: ps, v :: vs, t, tmps, hl, hp, hok, h => by
    have h1 := h.put p (hp p List.mem_cons_self) v hok.1
    exact relA_bind ps vs (T.set t p v) _ (by simpa using hl) (fun q hq => hp q (List.mem_cons_of_mem _ hq)) hok.2 h1

theorem Own.unguard {V : Giv} {D : List Nat} {θ : Th} {H : AHeap} {w : World} (h : Own (V.guard D) θ H w) (hD : ∀ k ∈ D, V.G k = none ∧ V.W.heap.size ≤ k) : Own V θ H w :=
  h.weaken rfl fun k o hk => by
    simp only [Giv.guard]
    rw [if_neg (fun hh => by rw [(hD k hh).1] at hk; cases hk)]; exact hk

/-- A round's end: the record is one's own again. -/
theorem round_end {P : Program} {W0 : Giv} {θ θ2 : Th} {H H2 : AHeap} {w w3 : World} {l N : Nat} {t : Fr} {ps : Array Tmp} {assign body : Code} {pend : Option Code} (ho : Own W0 θ H w) (hg : H.get l = some (.loop .ready pend N t ps assign body)) (hb : H.base ≤ l)
    {r : Loop} (hr : w.heap[θ.blk l]? = some (.loop r)) (hr4 : r.tmps.size = N) (hr5 : ∀ i, i < N → r.tmps[i]? = some ((Fr.at t i).inst θ)) (hr6 : ∀ i, N ≤ i → Fr.at t i = undefA) (hr7 : r.params = ps ∧ r.assign = assign ∧ r.body = body)
    (hext : Th.Ext H.next θ θ2) (hnx : H.next ≤ H2.next) (hbase : H2.base = H.base) (ho2 : Own (W0.hold (θ.blk l) (.loop { r with state := .busy })) θ2 H2 w3) (jump : Option Code) :
    ∃ w4, (Instr.endRound (θ.blk l) jump).run P w3 = .ok (.bool jump.isNone) w4 ∧ Post W0 θ H θ2 (H2.put l (.loop (if jump.isNone then .ready else .done) jump N t ps assign body)) w4 := by
  obtain ⟨hlt, hoff, hrd, hok, hown⟩ := ho.live _ _ hg rfl
  have hapart := ho.apart _ _ hg rfl
  have hsz := (hown hb).1
  have hblk : θ2.blk l = θ.blk l := (hext l hlt).1
  have hw3 : w3.heap[θ.blk l]? = some (.loop { r with state := .busy }) := ho2.guard _ _ (by simp [Giv.hold])
  have hlt3 : θ.blk l < w3.heap.size := (Array.getElem?_eq_some_iff.1 hw3).1
  refine ⟨_, run_endRound jump hw3, hext, hnx, hbase, ?_⟩
  have h0 : Own W0 θ2 H2 (w3.putObj (θ.blk l) (.loop { ({ r with state := .busy } : Loop) with state := if jump.isNone then .ready else .done, pending := jump })) := by
    refine ho2.turnAt (V := W0) rfl (by simp [Giv.hold]) hsz fun j o hj => .inr ?_
    have hne : j ≠ θ.blk l := fun e => by rw [e, hapart] at hj; cases hj
    exact ⟨hne, by simp [Giv.hold, hne, hj]⟩
  have hokL : ∀ i, (Fr.at t i).ok H.next := hok
  refine h0.wake (by omega) (by omega) ((hext l hlt).2.1.trans hoff) (fun i => AV.ok_mono hnx _ (hokL i)) ?_ (fun j c hj hl e => ?_) (by rw [hblk]; exact hapart) (by rw [hblk]; exact hsz)
  · rw [hblk, World.putObj_heap_same hlt3]
    exact ⟨_, rfl, rfl, rfl, hr4, fun i hi => by rw [AV.inst_ext hext _ (hokL i)]; exact hr5 i hi, hr6, hr7⟩
  · have := ho2.apart j c hj hl
    rw [e, hblk] at this
    simp [Giv.hold] at this

/-- One round, out of its body's code. -/
theorem AYield.of_WP {P : Program} (hm : P.follows .mixedOrders = true) {N : Nat} {ps : Array Tmp} {assign body : Code} {xa xb : C} (hca : compC P N assign = some xa) (hcb : compC P N body = some xb) (hps : ∀ p ∈ ps.toList, p < N)
    {l : Nat} {args : List AV} {H : AHeap} {t : Fr} {pend : Option Code} {Q : AV → AHeap → Prop} (hg : H.get l = some (.loop .ready pend N t ps assign body)) (hb : H.base ≤ l) (hlen : ps.toList.length = args.length)
    (h : WP P xa (rndA (WP P xb (rndQ l N t ps assign body Q))) (bindPs t ps.toList args) (H.put l .dead)) : AYield P l args H Q := by
  intro W0 θ w ho hok
  obtain ⟨hlt, hoff, hrd, hbok, hown⟩ := ho.live _ _ hg rfl
  obtain ⟨r, hr1, hr2, hr3, hr4, hr5, hr6, hr7, hr8, hr9⟩ := hrd
  have hokL : ∀ i, (Fr.at t i).ok H.next := hbok
  refine ⟨r.fn, _, r.assign, r.body, run_yield hr1 (by rw [hr7, AV.instL_eq]; simp at hlen ⊢; omega), ?_⟩
  refine roundIn_of_wpIn (F := Fence.wide) (n := 0) trivial ?_
  have ho1 := ho.hide hg rfl hb hr1
  have hrel : RelA θ (H.put l .dead).next N (bindPs t ps.toList args) { tmps := (r.params.zip (AV.instL θ args).toArray).foldl (fun tmps (t, a) => tmps.setIfInBounds t a) r.tmps, defers := [] } := by
    have := relA_bind (θ := θ) (n := H.next) (N := N) (ds := []) ps.toList args t r.tmps hlen hps hok ⟨hr4, hr5, hr6, hokL⟩
    have he : (r.params.zip (AV.instL θ args).toArray).foldl (fun tmps (t, a) => tmps.setIfInBounds t a) r.tmps = (ps.toList.zip (AV.instL θ args)).foldl (fun tmps p => tmps.setIfInBounds p.1 p.2) r.tmps := by
      rw [hr7, ← Array.foldl_toList]
      simp [Array.toList_zip]
    rw [he]; exact this
  rw [hr8]
  refine wpIn_mono (WP_sound (ro := some (θ.blk l)) hm assign xa hca _ _ _ h (W0.hold (θ.blk l) (.loop r)) θ [] _ w (fun k hk => by cases hk; exact ⟨r, by simp [Giv.hold]⟩) hrel rfl ho1) fun e a1 w1 hq => ?_
  obtain ⟨x, t1, H1, θ1, D, q, hpo, hD, hd, hx⟩ := hq
  cases x with
  | exit id => exact q.elim
  | ret => exact q.elim
  | pan v => exact q.elim
  | normal =>
    obtain ⟨rfl, hra⟩ := hx
    have ho1' := hpo.own.unguard hD.2
    have hw1 : w1.heap[θ.blk l]? = some (.loop r) := ho1'.guard _ _ (by simp [Giv.hold])
    refine ⟨_, run_beginRound hw1 hr2, ?_⟩
    have ho2 : Own (W0.hold (θ.blk l) (.loop { r with state := .busy })) θ1 H1 (w1.putObj (θ.blk l) (.loop { r with state := .busy })) := by
      refine ho1'.turnAt (V := W0.hold (θ.blk l) (.loop { r with state := .busy })) rfl (by simp [Giv.hold]) (hown hb).1 fun j o hj => ?_
      by_cases e : j = θ.blk l
      · left; simp [Giv.hold, e] at hj; exact ⟨e, hj.symm⟩
      · right; simp [Giv.hold, e] at hj; exact ⟨e, by simp [Giv.hold, e, hj]⟩
    generalize w1.putObj (θ.blk l) (.loop { r with state := .busy }) = w2 at ho2 ⊢
    rw [hr9]
    refine wpIn_mono (WP_sound (ro := some (θ.blk l)) hm body xb hcb _ _ _ q (W0.hold (θ.blk l) (.loop { r with state := .busy })) θ1 _ a1 _ (fun k hk => by cases hk; exact ⟨_, by simp [Giv.hold]; rfl⟩) hra rfl ho2) fun e a2 w3 hq => ?_
    obtain ⟨x, t2, H2, θ2, E, q, hpo2, hE, hd2, hx⟩ := hq
    have ho3 := hpo2.own.unguard hE.2
    have hext : Th.Ext H.next θ θ2 := Th.Ext.trans (n := H.next) (m := H1.next) hpo.ext hpo2.ext hpo.next
    have hnx : H.next ≤ H2.next := Nat.le_trans hpo.next hpo2.next
    have hbase : H2.base = H.base := hpo2.base.trans hpo.base
    cases x with
    | pan v => exact q.elim
    | normal =>
      obtain ⟨rfl, _⟩ := hx
      obtain ⟨w4, h1, h2⟩ := round_end (P := P) ho hg hb hr1 hr4 hr5 hr6 ⟨hr7, hr8, hr9⟩ hext hnx hbase ho3 none
      exact ⟨_, w4, h1, .bool true, _, θ2, q, h2, rfl, trivial⟩
    | ret =>
      obtain ⟨rfl, _⟩ := hx
      obtain ⟨w4, h1, h2⟩ := round_end (P := P) ho hg hb hr1 hr4 hr5 hr6 ⟨hr7, hr8, hr9⟩ hext hnx hbase ho3 (some .ret)
      exact ⟨_, w4, h1, .bool false, _, θ2, q, h2, rfl, trivial⟩
    | exit id =>
      obtain ⟨rfl, _⟩ := hx
      obtain ⟨w4, h1, h2⟩ := round_end (P := P) ho hg hb hr1 hr4 hr5 hr6 ⟨hr7, hr8, hr9⟩ hext hnx hbase ho3 (some (.exit id))
      exact ⟨_, w4, h1, .bool false, _, θ2, q, h2, rfl, trivial⟩
end Go.AM
