/- The abstract machine, part M: regions. -/
import Derived.Test.YthjeldlbjhjgfaaGreatAmL
namespace Go.AM
set_option linter.unusedSimpArgs false
set_option linter.unusedVariables false
open Go.RowKit

def compRegion (P : Program) (N : Nat) (ops : Array Oper) : List Oper → Option (List Stp)
  | [] => some []
  | o :: r => match compS P N ops o, compRegion P N ops r with
    | some s, some l => some (s :: l)
    | _, _ => none

section
variable {ro : Option Nat} {ds : List Deferred} {P : Program} {N : Nat} {ops : Array Oper} {W0 : Giv} {Q : Exit → Act → World → Prop} {K : Fr → AHeap → Prop} {Kp : AV → AHeap → Prop}

theorem put_defers (a : Act) (d : Option Nat) (v : Value) : (a.put d v).defers = a.defers := by cases d <;> rfl
/-- A region that is carried out in the text's order. -/
theorem WPs_sound {θ0 : Th} {H0 : AHeap} (hn : ∀ t' H' θ' a' w', K t' H' → Post W0 θ0 H0 θ' H' w' → RelA θ' H'.next N t' a' → a'.defers = ds → Q .normal a' w')
    (hp : ∀ v H' θ' a' w', Kp v H' → Post W0 θ0 H0 θ' H' w' → v.ok H'.next → a'.defers = ds → Q (.panic [{ v := v.inst θ', recovered := false }]) a' w') :
    ∀ (os : List Oper) (l : List Stp), compRegion P N ops os = some l → ∀ (t : Fr) (H : AHeap) (θ : Th) (a : Act) (w : World), WPs P l K Kp t H → RelA θ H.next N t a → a.defers = ds → Post W0 θ0 H0 θ H w →
      wpListR ro P ops Q os a w
  | [], l, hc, t, H, θ, a, w, h, hr, hds, hpost => by
    simp only [compRegion] at hc; cases hc
    exact hn t H θ a w h hpost hr hds
  | o :: os, l, hc, t, H, θ, a, w, h, hr, hds, hpost => by
    simp only [compRegion] at hc
    split at hc
    · rename_i s l' hs hl
      cases hc
      obtain ⟨hd1, hd2, hco⟩ := compS_dst hs
      simp only [WPs] at h
      simp only [wpListR]
      split at h
      · exact h.elim
      · rename_i hg
        rw [wanted_sound hs hr hg]
        simp only [Bool.false_eq_true, if_false]
        rw [hd1] at h
        exact WPs_sound hn hp os l' hl _ H θ _ w h (hr.put' o.dst hd2 undefA trivial) (by rw [put_defers]; exact hds) hpost
      · rename_i hg
        rw [wanted_sound hs hr hg]
        simp only [if_true]
        refine (WPo_sound hco h hr hpost.own (fun v H' θ' w' hk hpo hv => ?_) (fun v H' θ' w' hk hpo hv => hp v H' θ' a w' hk (hpost.trans hpo) hv hds))
        rw [hd1] at hk
        exact WPs_sound hn hp os l' hl _ H' θ' _ w' hk ((hr.ext hpo.ext hpo.next).put' o.dst hd2 v hv) (by rw [put_defers]; exact hds) (hpost.trans hpo)
    · cases hc
end

/-! ### a region that draws: what only reads is taken as early as it can be -/
inductive PS where
  | take (i : Nat) (s : Stp) (r : RR) (fl : Bool)
  | loud (i : Nat) (s : Stp) (W : List Nat)

def floatIn (i : Nat) : List PS → Bool
  | [] => false
  | .loud _ _ W :: r => !W.contains i || floatIn i r
  | .take .. :: r => floatIn i r

def pickRd (P : Program) (N : Nat) (ops : Array Oper) (listed : Array Bool) : List Nat → Option (Nat × Stp × RR)
  | [] => none
  | i :: r =>
    match (if Region.free .any ops listed i = true then (ops[i]?).bind (compS P N ops) else none) with
    | some ⟨d, g, .rd q⟩ => some (i, ⟨d, g, .rd q⟩, q)
    | _ => pickRd P N ops listed r

def planGo (P : Program) (N : Nat) (ops : Array Oper) : Nat → Array Bool → Option (List PS)
  | 0, listed => if Region.ready .any ops listed = [] then some [] else none
  | f + 1, listed =>
    match Region.ready .any ops listed with
    | [] => some []
    | i :: r => match pickRd P N ops listed (i :: r) with
      | some (k, s, q) => (planGo P N ops f (listed.setIfInBounds k true)).map fun l => .take k s q (floatIn k l) :: l
      | none => match r with
        | [] => match (ops[i]?).bind (compS P N ops) with
          | some s => (planGo P N ops f (listed.setIfInBounds i true)).map fun l => .loud i s ((List.range ops.size).filter fun j => waitsFor .any ops j i) :: l
          | none => none
        | _ :: _ => none

def WPd (P : Program) (K : Fr → AHeap → Prop) (Kp : AV → AHeap → Prop) : List PS → List (Nat × Nat) → Fr → AHeap → Prop
  | [], _, t, H => K t H
  | .take i s r fl :: rest, T, t, H =>
    match gd s t with
    | none => False
    | some false => WPd P K Kp rest T (Fr.put t s.dst undefA) H
    | some true => ∃ v, evR r (AO.ev t) H = some v ∧ WPd P K Kp rest (match fl, rdOf r (AO.ev t) with | true, some b => (i, b) :: T | _, _ => T) (Fr.put t s.dst v) H
  | .loud i s W :: rest, T, t, H =>
    match gd s t with
    | none => False
    | some false => WPd P K Kp rest (T.filter fun x => !W.contains x.1) (Fr.put t s.dst undefA) H
    | some true => WPo P s.op t H (fun v H' => (∀ x ∈ T, W.contains x.1 = false → H'.get x.2 = H.get x.2) ∧ WPd P K Kp rest (T.filter fun x => !W.contains x.1) (Fr.put t s.dst v) H') Kp

theorem BlkRd.back {n : Nat} {θ θ' : Th} {i : Nat} {b : Blk} {o : Option Obj} (he : Th.Ext n θ θ') (hi : i < n) (hb : b.ok n) (h : BlkRd θ' i b o) : BlkRd θ i b o := by
  have hs : Th.Ext n θ' θ := fun j hj => have ⟨x, y, z⟩ := he j hj; ⟨x.symm, y.symm, z.symm⟩
  exact h.ext hs hi hb

theorem pickRd_sound {P : Program} {N : Nat} {ops : Array Oper} {listed : Array Bool} : ∀ {l : List Nat} {k : Nat} {s : Stp} {q : RR}, pickRd P N ops listed l = some (k, s, q) →
    k ∈ l ∧ Region.free .any ops listed k = true ∧ (ops[k]?).bind (compS P N ops) = some s ∧ s.op = .rd q
  | [], k, s, q, h => by cases h
  | i :: r, k, s, q, h => by
    simp only [pickRd] at h
    split at h
    · rename_i d g q' hq
      cases h
      split at hq
      · rename_i hf; exact ⟨List.mem_cons_self, hf, hq, rfl⟩
      · cases hq
    · obtain ⟨h1, h2⟩ := pickRd_sound h
      exact ⟨List.mem_cons_of_mem _ h1, h2⟩

section
variable {ro : Option Nat} {ds : List Deferred} {P : Program} {N : Nat} {ops : Array Oper} {W0 : Giv} {Q : Exit → Act → World → Prop} {K : Fr → AHeap → Prop} {Kp : AV → AHeap → Prop}

theorem compCO_rd {P : Program} {o : Oper} {q : RR} (h : compCO P o = some (.rd q)) : compR P o = some q := by
  unfold compCO at h
  split at h
  · cases h; assumption
  · split at h
    · cases h
    · split at h
      · obtain ⟨_, _, h⟩ := map_some' h; cases h
      · split at h
        · cases h
        · cases h
      · obtain ⟨_, _, h⟩ := map_some' h; cases h
      · obtain ⟨_, _, h⟩ := map_some' h; cases h
      · cases h

theorem waits_filter {i j : Nat} (hi : i < ops.size) : ((List.range ops.size).filter fun j => waitsFor .any ops j i).contains j = waitsFor .any ops j i ∨ ops.size ≤ j := by
  by_cases hj : j < ops.size
  · left
    cases hw : waitsFor .any ops j i with
    | true => simp [hw, hj]
    | false => simp [hw]
  · right; omega

theorem WPd_sound {θ0 : Th} {H0 : AHeap} (hns : Region.noSelect ops = true) (hnd : noDefer ops = true) (hn : ∀ t' H' θ' a' w', K t' H' → Post W0 θ0 H0 θ' H' w' → RelA θ' H'.next N t' a' → a'.defers = ds → Q .normal a' w')
    (hp : ∀ v H' θ' a' w', Kp v H' → Post W0 θ0 H0 θ' H' w' → v.ok H'.next → a'.defers = ds → Q (.panic [{ v := v.inst θ', recovered := false }]) a' w')
    (hQ : ∀ c a d v w, Q (.panic c) (Act.put a d v) w → Q (.panic c) a w) :
    ∀ (f : Nat) (listed : Array Bool) (l : List PS), planGo P N ops f listed = some l → ∀ (T : List (Nat × Nat)) (Ts : List (Nat × (World → Prop))) (t : Fr) (H : AHeap) (θ : Th) (a : Act) (w : World),
      WPd P K Kp l T t H → RelA θ H.next N t a → a.defers = ds → Post W0 θ0 H0 θ H w →
      (∀ x ∈ Ts, x.1 < ops.size ∧ x.2 w ∧ ((∃ b, (x.1, b) ∈ T ∧ ∀ w', Reads θ H.next H w' b → x.2 w') ∨ floatIn x.1 l = false ∨ ∀ w', x.2 w')) →
      WH ro P .any ops Q f listed Ts a w := by
  intro f
  induction f with
  | zero =>
    intro listed l hc T Ts t H θ a w h hr hds hpost hT
    simp only [planGo] at hc
    split at hc
    · rename_i hrd
      cases hc
      exact WH_done hrd (hn t H θ a w h hpost hr hds) 0
    · cases hc
  | succ f ih =>
    intro listed l hc T Ts t H θ a w h hr hds hpost hT
    simp only [planGo] at hc
    split at hc
    · rename_i hrd
      cases hc
      exact WH_done hrd (hn t H θ a w h hpost hr hds) _
    · rename_i i r hrd
      split at hc
      · rename_i k s q hpick
        obtain ⟨l', hl', rfl⟩ := map_some' hc
        obtain ⟨hk1, hk2, hk3, hk4⟩ := pickRd_sound hpick
        cases hok : ops[k]? with
        | none => rw [hok] at hk3; cases hk3
        | some o =>
          rw [hok] at hk3
          have hs : compS P N ops o = some s := hk3
          obtain ⟨hd1, hd2, hco⟩ := compS_dst hs
          have hklt : k < ops.size := (Array.getElem?_eq_some_iff.1 hok).1
          have hready : (Region.ready .any ops listed).contains k = true := by rw [hrd]; simpa using hk1
          simp only [WPd] at h
          split at h
          · exact h.elim
          · -- not asked for
            rename_i hg
            rw [hd1] at h
            refine WH_take hnd (S := fun _ => True) hok hns hk2 hready (fun c a w => hQ c a o.dst undef w) (.inr ⟨wanted_sound hs hr hg, rfl⟩) trivial (fun x hx => (hT x hx).2.1) ?_
            refine ih _ l' hl' T _ _ H θ _ w h (hr.put' o.dst hd2 undefA trivial) (by rw [put_defers]; exact hds) hpost (fun x hx => ?_)
            cases hx with
            | head => exact ⟨hklt, trivial, .inr (.inr fun _ => trivial)⟩
            | tail _ hx =>
              obtain ⟨h1, h2, h3⟩ := hT x hx
              exact ⟨h1, h2, h3.imp id (fun h => h.imp (fun h => by simpa [floatIn] using h) id)⟩
          · rename_i hg
            obtain ⟨v, hv, hk⟩ := h
            rw [hk4] at hco
            have hcr := compCO_rd hco
            rw [hd1] at hk
            have hvok : v.ok H.next := (compR_sound hcr hr (fun i _ => hpost.own.reads i) hv).2
            cases hrd' : rdOf q (AO.ev t) with
            | none =>
              refine WH_take hnd (v := v.inst θ) (S := fun _ => True) hok hns hk2 hready (fun c a w => hQ c a o.dst _ w) (.inl ⟨wanted_sound hs hr hg, fun w' _ => (compR_sound hcr hr (fun i hi => by rw [hrd'] at hi; cases hi) hv).1⟩) trivial (fun x hx => (hT x hx).2.1) ?_
              refine ih _ l' hl' T _ _ H θ _ w ?_ (hr.put' o.dst hd2 v hvok) (by rw [put_defers]; exact hds) hpost (fun x hx => ?_)
              · rw [hrd'] at hk
                cases hfl : floatIn k l' <;> simpa [hfl] using hk
              · cases hx with
                | head => exact ⟨hklt, trivial, .inr (.inr fun _ => trivial)⟩
                | tail _ hx =>
                  obtain ⟨h1, h2, h3⟩ := hT x hx
                  exact ⟨h1, h2, h3.imp id (fun h => h.imp (fun h => by simpa [floatIn] using h) id)⟩
            | some b =>
              refine WH_take hnd (v := v.inst θ) (S := fun w' => Reads θ H.next H w' b) hok hns hk2 hready (fun c a w => hQ c a o.dst _ w) (.inl ⟨wanted_sound hs hr hg, fun w' hS => (compR_sound hcr hr (fun i hi => by rw [hrd'] at hi; cases hi; exact hS) hv).1⟩)
                (hpost.own.reads b) (fun x hx => (hT x hx).2.1) ?_
              rw [hrd'] at hk
              cases hfl : floatIn k l' with
              | true =>
                rw [hfl] at hk
                refine ih _ l' hl' ((k, b) :: T) _ _ H θ _ w hk (hr.put' o.dst hd2 v hvok) (by rw [put_defers]; exact hds) hpost (fun x hx => ?_)
                cases hx with
                | head => exact ⟨hklt, hpost.own.reads b, .inl ⟨b, List.mem_cons_self, fun _ h => h⟩⟩
                | tail _ hx =>
                  obtain ⟨h1, h2, h3⟩ := hT x hx
                  exact ⟨h1, h2, h3.imp (fun ⟨b', hb', h⟩ => ⟨b', List.mem_cons_of_mem _ hb', h⟩) (fun h => h.imp (fun h => by simpa [floatIn] using h) id)⟩
              | false =>
                rw [hfl] at hk
                refine ih _ l' hl' T _ _ H θ _ w hk (hr.put' o.dst hd2 v hvok) (by rw [put_defers]; exact hds) hpost (fun x hx => ?_)
                cases hx with
                | head => exact ⟨hklt, hpost.own.reads b, .inr (.inl hfl)⟩
                | tail _ hx =>
                  obtain ⟨h1, h2, h3⟩ := hT x hx
                  exact ⟨h1, h2, h3.imp id (fun h => h.imp (fun h => by simpa [floatIn] using h) id)⟩
      · rename_i hnp
        split at hc
        · split at hc
          · rename_i s hks
            obtain ⟨l', hl', rfl⟩ := map_some' hc
            cases hok : ops[i]? with
            | none => rw [hok] at hks; cases hks
            | some o =>
              rw [hok] at hks
              have hs : compS P N ops o = some s := hks
              obtain ⟨hd1, hd2, hco⟩ := compS_dst hs
              have hilt : i < ops.size := (Array.getElem?_eq_some_iff.1 hok).1
              have hW : ∀ x ∈ Ts, ((List.range ops.size).filter fun j => waitsFor .any ops j i).contains x.1 = waitsFor .any ops x.1 i := fun x hx =>
                (waits_filter hilt).resolve_right (by have := (hT x hx).1; omega)
              refine WH_one hrd ?_
              unfold wpOpIn
              simp only [hok]
              simp only [WPd] at h
              -- what the entries that stay are like behind it
              have stay : ∀ (H' : AHeap) (θ' : Th) (w' : World), Post W0 θ H θ' H' w' → (∀ x ∈ T, ((List.range ops.size).filter fun j => waitsFor .any ops j i).contains x.1 = false → H'.get x.2 = H.get x.2) →
                  (∀ x ∈ Ts, waitsFor .any ops x.1 i = false → x.2 w') ∧
                  (∀ x ∈ Ts.filter (fun x => !waitsFor .any ops x.1 i), x.1 < ops.size ∧ x.2 w' ∧ ((∃ b, (x.1, b) ∈ T.filter (fun x => !((List.range ops.size).filter fun j => waitsFor .any ops j i).contains x.1) ∧ ∀ w'', Reads θ' H'.next H' w'' b → x.2 w'') ∨ floatIn x.1 l' = false ∨ ∀ w'', x.2 w'')) := by
                intro H' θ' w' hpo hkeep
                have one : ∀ x ∈ Ts, waitsFor .any ops x.1 i = false → x.2 w' ∧ ((∃ b, (x.1, b) ∈ T.filter (fun x => !((List.range ops.size).filter fun j => waitsFor .any ops j i).contains x.1) ∧ ∀ w'', Reads θ' H'.next H' w'' b → x.2 w'') ∨ floatIn x.1 l' = false ∨ ∀ w'', x.2 w'') := by
                  intro x hx hwx
                  obtain ⟨h1, h2, h3⟩ := hT x hx
                  rcases h3 with ⟨b, hb, hr'⟩ | h3 | h3
                  · have hcont := hW x hx
                    rw [hwx] at hcont
                    have hsame := hkeep (x.1, b) hb hcont
                    have back : ∀ w'', Reads θ' H'.next H' w'' b → Reads θ H.next H w'' b := by
                      intro w'' hR c hc hl
                      have hc' : H'.get b = some c := by rw [hsame]; exact hc
                      obtain ⟨g1, g2, g3⟩ := hR c hc' hl
                      obtain ⟨k1, k2, k3, k4, k5⟩ := hpost.own.live b c hc hl
                      obtain ⟨e1, e2, e3⟩ := hpo.ext b k1
                      rw [e1] at g2
                      exact ⟨k2, BlkRd.back hpo.ext k1 k4 g2, k4⟩
                    refine ⟨hr' w' (back w' (hpo.own.reads b)), .inl ⟨b, ?_, fun w'' h => hr' w'' (back w'' h)⟩⟩
                    rw [List.mem_filter]
                    exact ⟨hb, by simp only [hcont]; rfl⟩
                  · exfalso
                    simp only [floatIn, Bool.or_eq_false_iff, Bool.not_eq_false'] at h3
                    rw [hW x hx, hwx] at h3
                    exact absurd h3.1 (by simp)
                  · exact ⟨h3 w', .inr (.inr h3)⟩
                refine ⟨fun x hx hwx => (one x hx hwx).1, fun x hx => ?_⟩
                rw [List.mem_filter] at hx
                have hwx : waitsFor .any ops x.1 i = false := by simpa using hx.2
                exact ⟨(hT x hx.1).1, one x hx.1 hwx⟩
              split at h
              · exact h.elim
              · rename_i hg
                rw [wanted_sound hs hr hg]
                simp only [Bool.false_eq_true, if_false]
                rw [hd1] at h
                obtain ⟨s1, s2⟩ := stay H θ w (Post.refl hpost.own) (fun _ _ _ => rfl)
                exact ⟨fun _ _ => trivial, s1, ih _ l' hl' _ _ _ H θ _ w h (hr.put' o.dst hd2 undefA trivial) (by rw [put_defers]; exact hds) hpost s2⟩
              · rename_i hg
                rw [wanted_sound hs hr hg]
                simp only [if_true]
                refine (WPo_sound hco h hr hpost.own (fun v H' θ' w' hk hpo hv => ?_) (fun v H' θ' w' hk hpo hv => hp v H' θ' a w' hk (hpost.trans hpo) hv hds))
                obtain ⟨hkeep, hk⟩ := hk
                rw [hd1] at hk
                obtain ⟨s1, s2⟩ := stay H' θ' w' hpo hkeep
                exact ⟨s1, ih _ l' hl' _ _ _ H' θ' _ w' hk ((hr.ext hpo.ext hpo.next).put' o.dst hd2 v hv) (by rw [put_defers]; exact hds) (hpost.trans hpo) s2⟩
          · cases hc
        · cases hc
end
end Go.AM
