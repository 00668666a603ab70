/- The abstract machine, part L: compiled code, what is asked of it (WP), and that the model's code meets what it asks. -/
import Derived.Test.YtjfjmlglgdhkoaaAmK
namespace Go.AM
set_option linter.unusedSimpArgs false
set_option linter.unusedVariables false
open Go.RowKit

inductive CO where
  | rd (r : RR)
  | wr (r : RX)
  | call (f : FuncId) (args : List AO)
  | callv (f : AO) (args : List AO)
  | panic (x : AO)

structure Stp where
  dst : Option Nat
  guard : Option (Nat × Bool)
  op : CO

def Fr.put (t : Fr) (dst : Option Nat) (v : AV) : Fr :=
  match dst with
  | some d => T.set t d v
  | none => t

/-- How a call ends. -/
inductive AE where
  | ret (v : AV)
  | pan (v : AV)

def plainF (P : Program) (f : FuncId) : Bool :=
  match P.funcs[f]? with
  | some fn => fn.body.isSome && fn.name != "runtime.NumGoroutine"
  | none => false

structure Post (W0 : World) (θ : Th) (H : AHeap) (θ' : Th) (H' : AHeap) (w' : World) : Prop where
  ext : Th.Ext H.next θ θ'
  next : H.next ≤ H'.next
  base : H'.base = H.base
  own : Own W0 θ' H' w'
theorem Post.trans {W0 : World} {θ θ1 θ2 : Th} {H H1 H2 : AHeap} {w1 w2 : World} (h : Post W0 θ H θ1 H1 w1) (h' : Post W0 θ1 H1 θ2 H2 w2) : Post W0 θ H θ2 H2 w2 :=
  ⟨h.ext.trans h'.ext h.next, Nat.le_trans h.next h'.next, h'.base.trans h.base, h'.own⟩
theorem Post.refl {W0 : World} {θ : Th} {H : AHeap} {w : World} (h : Own W0 θ H w) : Post W0 θ H θ H w := ⟨Th.Ext.refl _ _, Nat.le_refl _, rfl, h⟩

/-- What a call comes to, wherever the heap lies. -/
def ACall (P : Program) (f : FuncId) (args : List AV) (H : AHeap) (Q : AE → AHeap → Prop) : Prop :=
  plainF P f = true ∧ ∀ W0 θ w, Own W0 θ H w → AV.okL H.next args → Calls P f (AV.instL θ args).toArray w fun e w' =>
    ∃ x H' θ', Q x H' ∧ Post W0 θ H θ' H' w' ∧ match x with
      | .ret v => e = .returned (v.inst θ') ∧ v.ok H'.next
      | .pan v => e = .panicked [{ v := v.inst θ', recovered := false }] ∧ v.ok H'.next
theorem ACall.mono {P : Program} {f : FuncId} {args : List AV} {H : AHeap} {Q Q' : AE → AHeap → Prop} (h : ACall P f args H Q) (hq : ∀ x H', Q x H' → Q' x H') : ACall P f args H Q' :=
  ⟨h.1, fun W0 θ w ho ha => (h.2 W0 θ w ho ha).mono fun e w' ⟨x, H', θ', q, r⟩ => ⟨x, H', θ', hq _ _ q, r⟩⟩

def gd (s : Stp) (t : Fr) : Option Bool :=
  match s.guard with
  | none => some true
  | some (d, want) => match Fr.at t d with
    | .bool b => some (b == want)
    | .raw _ => none
    | _ => some false

/-- What one operation must come to: K behind it, Kp if it panics. -/
def WPo (P : Program) (c : CO) (t : Fr) (H : AHeap) (K : AV → AHeap → Prop) (Kp : AV → AHeap → Prop) : Prop :=
  match c with
  | .rd r => ∃ v, evR r (AO.ev t) H = some v ∧ K v H
  | .wr r => ∃ v H', evX r (AO.ev t) H = some (v, H') ∧ K v H'
  | .call f args => ACall P f (args.map (AO.ev t)) H fun x H' => match x with
    | .ret v => K v H'
    | .pan v => Kp v H'
  | .callv f args => match AO.ev t f with
    | .func (.func g) first cap => ACall P g (first ++ args.map (AO.ev t) ++ cap) H fun x H' => match x with
      | .ret v => K v H'
      | .pan v => Kp v H'
    | _ => False
  | .panic x => match AO.ev t x with
    | .iface ty v => Kp (.iface ty v) H
    | _ => False

def WPs (P : Program) : List Stp → (Fr → AHeap → Prop) → (AV → AHeap → Prop) → Fr → AHeap → Prop
  | [], K, _, t, H => K t H
  | s :: r, K, Kp, t, H =>
    match gd s t with
    | none => False
    | some false => WPs P r K Kp (Fr.put t s.dst undefA) H
    | some true => WPo P s.op t H (fun v H' => WPs P r K Kp (Fr.put t s.dst v) H') Kp

/-! ### compiling -/
def compCO (P : Program) (o : Oper) : Option CO :=
  match compR P o with
  | some r => some (.rd r)
  | none => match compX P o with
    | some r => some (.wr r)
    | none => match o.op with
      | .call { callee := .value (.func f), args := args, argTypes := _ } => (compL args.toList).map (.call f)
      | .call { callee := .value x, args := args, argTypes := _ } => match compO x, compL args.toList with
        | some x, some l => some (.callv x l)
        | _, _ => none
      | .panic x => (compO x).map .panic
      | _ => none
def dstOk (N : Nat) : Option Nat → Bool
  | some d => decide (d < N)
  | none => true
theorem dstOk_lt {N : Nat} {dst : Option Nat} (h : dstOk N dst = true) : ∀ d, dst = some d → d < N := fun d hd => by subst hd; simpa [dstOk] using h
def compS (P : Program) (N : Nat) (ops : Array Oper) (o : Oper) : Option Stp :=
  if dstOk N o.dst = true then
    match compCO P o with
    | some c => match o.guard with
      | none => some ⟨o.dst, none, c⟩
      | some (j, want) => match (ops[j]?).bind (·.dst) with
        | some d => some ⟨o.dst, some (d, want), c⟩
        | none => none
    | none => none
  else none

theorem callFunc_run {P : Program} {f : FuncId} (h : plainF P f = true) (args : Array Value) (w : World) : (callFunc f args).run P w = .ok (.enter f args) w := by
  unfold plainF at h
  split at h
  · rename_i fn hf
    simp only [Bool.and_eq_true, bne_iff_ne, ne_eq] at h
    have hb : fn.body.isNone = false := by
      cases hbb : fn.body with
      | none => rw [hbb] at h; simp at h
      | some b => rfl
    have hb' : fn.body ≠ none := fun hh => by rw [hh] at hb; cases hb
    simp [callFunc, program, Sem.run, Result.andThen, hf, h.2, hb, hb']
  · cases h

theorem wanted_sound {P : Program} {N : Nat} {ops : Array Oper} {o : Oper} {s : Stp} (hc : compS P N ops o = some s) {θ : Th} {n : Nat} {t : Fr} {a : Act} (hr : RelA θ n N t a) {b : Bool} (hg : gd s t = some b) :
    Region.wanted o (yielded ops a.tmps) = b := by
  unfold compS at hc
  split at hc
  · split at hc
    · rename_i c hco
      split at hc
      · rename_i hgu
        cases hc
        simp only [gd] at hg; cases hg
        simp [Region.wanted, hgu]
      · rename_i j want hgu
        split at hc
        · rename_i d hd
          cases hc
          simp only [gd] at hg
          have key : yielded ops a.tmps j = match (Fr.at t d).inst θ with | .bool b => some b | _ => none := by
            unfold yielded
            rw [hd]
            simp only [Option.bind_some]
            by_cases hlt : d < N
            · rw [hr.get d hlt]
              cases hv : (Fr.at t d).inst θ <;> rfl
            · have hge : N ≤ d := Nat.le_of_not_lt hlt
              rw [hr.out d hge, Array.getElem?_eq_none (by rw [hr.size]; exact hge)]
              rfl
          simp only [Region.wanted, hgu, key]
          split at hg
          · rename_i b' hb'
            rw [hb']
            cases hg
            simp only [AV.inst]
            cases b' <;> cases want <;> rfl
          · cases hg
          · rename_i hnb hnr
            cases hg
            cases hv : Fr.at t d <;> simp only [AV.inst] <;> first | rfl | exact absurd hv (hnb _) | exact absurd hv (hnr _)
        · cases hc
    · cases hc
  · cases hc

theorem compS_dst {P : Program} {N : Nat} {ops : Array Oper} {o : Oper} {s : Stp} (hc : compS P N ops o = some s) : s.dst = o.dst ∧ (∀ d, o.dst = some d → d < N) ∧ compCO P o = some s.op := by
  unfold compS at hc
  split at hc
  · rename_i hd
    split at hc
    · rename_i c hco
      have : ∀ d, o.dst = some d → d < N := dstOk_lt hd
      split at hc
      · cases hc; exact ⟨rfl, this, hco⟩
      · split at hc
        · cases hc; exact ⟨rfl, this, hco⟩
        · cases hc
    · cases hc
  · cases hc

theorem RelA.put' {θ : Th} {n N : Nat} {t : Fr} {a : Act} (h : RelA θ n N t a) (dst : Option Nat) (hd : ∀ d, dst = some d → d < N) (v : AV) (hv : v.ok n) : RelA θ n N (Fr.put t dst v) (a.put dst (v.inst θ)) := by
  cases dst with
  | none => exact h
  | some d => exact h.put d (hd d rfl) v hv

/-- One operation. -/
theorem WPo_sound {P : Program} {o : Oper} {c : CO} (hc : compCO P o = some c) {N : Nat} {t : Fr} {H : AHeap} {K : AV → AHeap → Prop} {Kp : AV → AHeap → Prop} (h : WPo P c t H K Kp)
    {W0 : World} {θ : Th} {a : Act} {w : World} (hr : RelA θ H.next N t a) (ho : Own W0 θ H w) {next : Act → World → Prop} {Q : Exit → Act → World → Prop}
    (hn : ∀ v H' θ' w', K v H' → Post W0 θ H θ' H' w' → v.ok H'.next → next (a.put o.dst (v.inst θ')) w')
    (hp : ∀ v H' θ' w', Kp v H' → Post W0 θ H θ' H' w' → v.ok H'.next → Q (.panic [{ v := v.inst θ', recovered := false }]) a w') : o.wp P a w next Q := by
  have hcall : ∀ (f : FuncId) (args : List AV), (execOp a.eval o).run P w = (callFunc f (AV.instL θ args).toArray).run P w → AV.okL H.next args →
      (ACall P f args H fun x H' => match x with | .ret v => K v H' | .pan v => Kp v H') → o.wp P a w next Q := by
    intro f args he hok hA
    unfold Oper.wp
    rw [he, callFunc_run hA.1]
    rw [Oper.upon_enter]
    refine (hA.2 W0 θ w ho hok).mono fun e w' ⟨x, H', θ', q, hpost, hx⟩ => ?_
    cases x with
    | ret v => obtain ⟨rfl, hvok⟩ := hx; exact hn v H' θ' w' q hpost hvok
    | pan v => obtain ⟨rfl, hvok⟩ := hx; exact hp v H' θ' w' q hpost hvok
  unfold compCO at hc
  split at hc
  · rename_i r hcr
    cases hc
    obtain ⟨v, hv, hk⟩ := h
    obtain ⟨h1, h2⟩ := compR_sound hcr hr (fun i _ => ho.reads i) hv
    unfold Oper.wp
    rw [h1, Oper.upon_value]
    exact hn v H θ w hk (Post.refl ho) h2
  · split at hc
    · rename_i r hcx
      cases hc
      obtain ⟨v, H', hv, hk⟩ := h
      obtain ⟨θ', w', nx, h1, h2, h3, h4, h5, h6, h7⟩ := compX_sound hcx hv W0 θ a w hr ho
      unfold Oper.wp
      rw [h1]
      rcases h2 with rfl | ⟨rfl, rfl⟩
      · rw [Oper.upon_value]; exact hn v H' θ' w' hk ⟨h3, h5, h6, h7⟩ h4
      · rw [Oper.upon_skip]; exact hn undefA H' θ' w' hk ⟨h3, h5, h6, h7⟩ h4
    · split at hc
      · rename_i f args ts hop
        obtain ⟨l, hl, rfl⟩ := map_some' hc
        obtain ⟨e1, e2⟩ := compL_sound hl hr
        refine hcall f _ ?_ e2 h
        have harr : args.map a.eval = (AV.instL θ (l.map (AO.ev t))).toArray := by rw [← e1]; apply Array.ext'; simp
        simp only [execOp, hop, resolve, harr, Act.eval]
        rw [show ∀ (x : Sem Deferred) (k : Deferred → Sem Next), (x >>= k).run P w = (x.bind k).run P w from fun _ _ => rfl]
        simp [Deferred.ofValue, Sem.bind, invoke]
        rfl
      · rename_i x args ts hop hnf
        split at hc
        · rename_i y l hy hl
          cases hc
          obtain ⟨e1, e2⟩ := compL_sound hl hr
          obtain ⟨f1, f2⟩ := compO_sound hy hr
          simp only [WPo] at h
          split at h
          · rename_i g first cap hf
            rw [hf] at f1 f2
            have f2' : AV.okL H.next first ∧ AV.okL H.next cap := f2
            refine hcall g _ ?_ ?_ h
            · have harr : args.map a.eval = (AV.instL θ (l.map (AO.ev t))).toArray := by rw [← e1]; apply Array.ext'; simp
              simp only [execOp, hnf, resolve, harr, f1, AV.inst]
              rw [show ∀ (x : Sem Deferred) (k : Deferred → Sem Next), (x >>= k).run P w = (x.bind k).run P w from fun _ _ => rfl]
              have hargs : (AV.instL θ first).toArray ++ (AV.instL θ (l.map (AO.ev t))).toArray ++ (AV.instL θ cap).toArray = (AV.instL θ (first ++ l.map (AO.ev t) ++ cap)).toArray := by
                apply Array.ext'; simp [AV.instL_eq]
              rw [← hargs]
              rfl
            · rw [AV.okL_iff] at e2 ⊢
              intro u hu
              simp only [List.mem_append] at hu
              rcases hu with (hu | hu) | hu
              · exact (AV.okL_iff _ _).1 f2'.1 u hu
              · exact e2 u hu
              · exact (AV.okL_iff _ _).1 f2'.2 u hu
          · exact h.elim
        · cases hc
      · rename_i x hop
        obtain ⟨y, hy, rfl⟩ := map_some' hc
        obtain ⟨f1, f2⟩ := compO_sound hy hr
        simp only [WPo] at h
        split at h
        · rename_i ty v hv
          rw [hv] at f1 f2
          have := hp (.iface ty v) H θ w h (Post.refl ho) f2
          unfold Oper.wp
          have hrun : (execOp a.eval o).run P w = .halt (.panic ((AV.iface ty v).inst θ)) w := by
            simp [execOp, hop, f1, AV.inst, Instr.panic, goPanic, Sem.run, Result.andThen]
          rw [hrun]
          exact this
        · exact h.elim
      · cases hc
end Go.AM
