/- The abstract machine, part L: compiled code, what is asked of it (WP), and that the model's code meets what it asks. -/
import Derived.Test.YthjeldlbjhjgfaaGreatAmK
namespace Go.AM
set_option linter.unusedSimpArgs false
set_option linter.unusedVariables false
open Go.RowKit

inductive CO where
  | rd (r : RR)
  | wr (r : RX)
  | call (f : FuncId) (args : List AO)
  | callv (f : AO) (args : List AO)
  | panic (x : AO)
  | nxt (x : AO)

structure Stp where
  dst : Option Nat
  guard : Option (Nat × Bool)
  op : CO

def Fr.put (t : Fr) (dst : Option Nat) (v : AV) : Fr :=
  match dst with
  | some d => T.set t d v
  | none => t

/-- How a call ends. -/
inductive AE where
  | ret (v : AV)
  | pan (v : AV)

def plainF (P : Program) (f : FuncId) : Bool :=
  match P.funcs[f]? with
  | some fn => fn.body.isSome && fn.name != "runtime.NumGoroutine"
  | none => false

structure Post (W0 : Giv) (θ : Th) (H : AHeap) (θ' : Th) (H' : AHeap) (w' : World) : Prop where
  ext : Th.Ext H.next θ θ'
  next : H.next ≤ H'.next
  base : H'.base = H.base
  own : Own W0 θ' H' w'
theorem Post.trans {W0 : Giv} {θ θ1 θ2 : Th} {H H1 H2 : AHeap} {w1 w2 : World} (h : Post W0 θ H θ1 H1 w1) (h' : Post W0 θ1 H1 θ2 H2 w2) : Post W0 θ H θ2 H2 w2 :=
  ⟨h.ext.trans h'.ext h.next, Nat.le_trans h.next h'.next, h'.base.trans h.base, h'.own⟩
theorem Post.refl {W0 : Giv} {θ : Th} {H : AHeap} {w : World} (h : Own W0 θ H w) : Post W0 θ H θ H w := ⟨Th.Ext.refl _ _, Nat.le_refl _, rfl, h⟩

/-- What a call comes to, wherever the heap lies. -/
def ACall (P : Program) (f : FuncId) (args : List AV) (H : AHeap) (Q : AE → AHeap → Prop) : Prop :=
  plainF P f = true ∧ ∀ W0 θ w, Own W0 θ H w → AV.okL H.next args → Calls P f (AV.instL θ args).toArray w fun e w' =>
    ∃ x H' θ', Q x H' ∧ Post W0 θ H θ' H' w' ∧ match x with
      | .ret v => e = .returned (v.inst θ') ∧ v.ok H'.next
      | .pan v => e = .panicked [{ v := v.inst θ', recovered := false }] ∧ v.ok H'.next
theorem ACall.mono {P : Program} {f : FuncId} {args : List AV} {H : AHeap} {Q Q' : AE → AHeap → Prop} (h : ACall P f args H Q) (hq : ∀ x H', Q x H' → Q' x H') : ACall P f args H Q' :=
  ⟨h.1, fun W0 θ w ho ha => (h.2 W0 θ w ho ha).mono fun e w' ⟨x, H', θ', q, r⟩ => ⟨x, H', θ', hq _ _ q, r⟩⟩

/-- What one round comes to, wherever the heap lies. -/
def AYield (P : Program) (l : Nat) (args : List AV) (H : AHeap) (Q : AV → AHeap → Prop) : Prop :=
  ∀ W0 θ w, Own W0 θ H w → AV.okL H.next args → ∃ f tmps assign body, (Instr.yield (θ.blk l) (AV.instL θ args).toArray).run P w = .ok (.round (θ.blk l) f tmps assign body) w ∧
    RoundIn Fence.wide 0 P (θ.blk l) f tmps assign body w fun e w' => ∃ v H' θ', Q v H' ∧ Post W0 θ H θ' H' w' ∧ e = .returned (v.inst θ') ∧ v.ok H'.next
theorem AYield.mono {P : Program} {l : Nat} {args : List AV} {H : AHeap} {Q Q' : AV → AHeap → Prop} (h : AYield P l args H Q) (hq : ∀ v H', Q v H' → Q' v H') : AYield P l args H Q' :=
  fun W0 θ w ho ha => have ⟨f, tmps, as, bd, h1, h2⟩ := h W0 θ w ho ha; ⟨f, tmps, as, bd, h1, h2.mono fun e w' ⟨v, H', θ', q, r⟩ => ⟨v, H', θ', hq _ _ q, r⟩⟩

/-- What a step through a map comes to: any entry that was not handed out yet; the end, if none is left of those that were there. -/
def ANext (H : AHeap) (K : AV → AHeap → Prop) : AV → Prop
  | .ptr (some (i, 0)) => match H.get i with
    | some (.mapIter none _ _ _) => K (.tuple [.bool false]) H
    | some (.mapIter (some m) since seen last) => match H.get m with
      | some (.map es clock) => H.base ≤ i ∧ (!seen.isEmpty && !es.isEmpty && es.all (fun e => decide (last ≤ e.2.2))) = false ∧
          (((es.filter fun e => !seen.contains e.2.2).filter fun e => decide (e.2.2 < since)) = [] → K (.tuple [.bool false]) H) ∧
          ∀ e ∈ es.filter (fun e => !seen.contains e.2.2), K (.tuple [.bool true, e.1, e.2.1]) (H.put i (.mapIter (some m) since (seen ++ [e.2.2]) clock))
      | _ => False
    | _ => False
  | _ => False
theorem ANext.mono {H : AHeap} {K K' : AV → AHeap → Prop} (hk : ∀ v H', K v H' → K' v H') {v : AV} (h : ANext H K v) : ANext H K' v := by
  unfold ANext at h ⊢
  split at h
  · split at h
    · exact hk _ _ h
    · split at h
      · exact ⟨h.1, h.2.1, fun e => hk _ _ (h.2.2.1 e), fun e he => hk _ _ (h.2.2.2 e he)⟩
      · exact h.elim
    · exact h.elim
  · exact h.elim

def gd (s : Stp) (t : Fr) : Option Bool :=
  match s.guard with
  | none => some true
  | some (d, want) => match Fr.at t d with
    | .bool b => some (b == want)
    | .raw _ => none
    | _ => some false

/-- What one operation must come to: K behind it, Kp if it panics. -/
def WPo (P : Program) (c : CO) (t : Fr) (H : AHeap) (K : AV → AHeap → Prop) (Kp : AV → AHeap → Prop) : Prop :=
  match c with
  | .rd r => ∃ v, evR r (AO.ev t) H = some v ∧ K v H
  | .wr r => ∃ v H', evX r (AO.ev t) H = some (v, H') ∧ K v H'
  | .call f args => ACall P f (args.map (AO.ev t)) H fun x H' => match x with
    | .ret v => K v H'
    | .pan v => Kp v H'
  | .callv f args => match AO.ev t f with
    | .func (.func g) first cap => ACall P g (first ++ args.map (AO.ev t) ++ cap) H fun x H' => match x with
      | .ret v => K v H'
      | .pan v => Kp v H'
    | .yield l => AYield P l (args.map (AO.ev t)) H K
    | _ => False
  | .nxt x => ANext H K (AO.ev t x)
  | .panic x => match AO.ev t x with
    | .iface ty v => Kp (.iface ty v) H
    | _ => False

def WPs (P : Program) : List Stp → (Fr → AHeap → Prop) → (AV → AHeap → Prop) → Fr → AHeap → Prop
  | [], K, _, t, H => K t H
  | s :: r, K, Kp, t, H =>
    match gd s t with
    | none => False
    | some false => WPs P r K Kp (Fr.put t s.dst undefA) H
    | some true => WPo P s.op t H (fun v H' => WPs P r K Kp (Fr.put t s.dst v) H') Kp

/-! ### compiling -/
def compCO (P : Program) (o : Oper) : Option CO :=
  match compR P o with
  | some r => some (.rd r)
  | none => match compX P o with
    | some r => some (.wr r)
    | none => match o.op with
      | .call { callee := .value (.func f), args := args, argTypes := _ } => (compL args.toList).map (.call f)
      | .call { callee := .value x, args := args, argTypes := _ } => match compO x, compL args.toList with
        | some x, some l => some (.callv x l)
        | _, _ => none
      | .panic x => (compO x).map .panic
      | .next x false => (compO x).map .nxt
      | _ => none
def dstOk (N : Nat) : Option Nat → Bool
  | some d => decide (d < N)
  | none => true
theorem dstOk_lt {N : Nat} {dst : Option Nat} (h : dstOk N dst = true) : ∀ d, dst = some d → d < N := fun d hd => by subst hd; simpa [dstOk] using h
def compS (P : Program) (N : Nat) (ops : Array Oper) (o : Oper) : Option Stp :=
  if dstOk N o.dst = true then
    match compCO P o with
    | some c => match o.guard with
      | none => some ⟨o.dst, none, c⟩
      | some (j, want) => match (ops[j]?).bind (·.dst) with
        | some d => some ⟨o.dst, some (d, want), c⟩
        | none => none
    | none => none
  else none

theorem callFunc_run {P : Program} {f : FuncId} (h : plainF P f = true) (args : Array Value) (w : World) : (callFunc f args).run P w = .ok (.enter f args) w := by
  unfold plainF at h
  split at h
  · rename_i fn hf
    simp only [Bool.and_eq_true, bne_iff_ne, ne_eq] at h
    have hb : fn.body.isNone = false := by
      cases hbb : fn.body with
      | none => rw [hbb] at h; simp at h
      | some b => rfl
    have hb' : fn.body ≠ none := fun hh => by rw [hh] at hb; cases hb
    simp [callFunc, program, Sem.run, Result.andThen, hf, h.2, hb, hb']
  · cases h

theorem wanted_sound {P : Program} {N : Nat} {ops : Array Oper} {o : Oper} {s : Stp} (hc : compS P N ops o = some s) {θ : Th} {n : Nat} {t : Fr} {a : Act} (hr : RelA θ n N t a) {b : Bool} (hg : gd s t = some b) :
    Region.wanted o (yielded ops a.tmps) = b := by
  unfold compS at hc
  split at hc
  · split at hc
    · rename_i c hco
      split at hc
      · rename_i hgu
        cases hc
        simp only [gd] at hg; cases hg
        simp [Region.wanted, hgu]
      · rename_i j want hgu
        split at hc
        · rename_i d hd
          cases hc
          simp only [gd] at hg
          have key : yielded ops a.tmps j = match (Fr.at t d).inst θ with | .bool b => some b | _ => none := by
            unfold yielded
            rw [hd]
            simp only [Option.bind_some]
            by_cases hlt : d < N
            · rw [hr.get d hlt]
              cases hv : (Fr.at t d).inst θ <;> rfl
            · have hge : N ≤ d := Nat.le_of_not_lt hlt
              rw [hr.out d hge, Array.getElem?_eq_none (by rw [hr.size]; exact hge)]
              rfl
          simp only [Region.wanted, hgu, key]
          split at hg
          · rename_i b' hb'
            rw [hb']
            cases hg
            simp only [AV.inst]
            cases b' <;> cases want <;> rfl
          · cases hg
          · rename_i hnb hnr
            cases hg
            cases hv : Fr.at t d <;> simp only [AV.inst] <;> first | rfl | exact absurd hv (hnb _) | exact absurd hv (hnr _)
        · cases hc
    · cases hc
  · cases hc

theorem compS_dst {P : Program} {N : Nat} {ops : Array Oper} {o : Oper} {s : Stp} (hc : compS P N ops o = some s) : s.dst = o.dst ∧ (∀ d, o.dst = some d → d < N) ∧ compCO P o = some s.op := by
  unfold compS at hc
  split at hc
  · rename_i hd
    split at hc
    · rename_i c hco
      have : ∀ d, o.dst = some d → d < N := dstOk_lt hd
      split at hc
      · cases hc; exact ⟨rfl, this, hco⟩
      · split at hc
        · cases hc; exact ⟨rfl, this, hco⟩
        · cases hc
    · cases hc
  · cases hc

theorem RelA.put' {θ : Th} {n N : Nat} {t : Fr} {a : Act} (h : RelA θ n N t a) (dst : Option Nat) (hd : ∀ d, dst = some d → d < N) (v : AV) (hv : v.ok n) : RelA θ n N (Fr.put t dst v) (a.put dst (v.inst θ)) := by
  cases dst with
  | none => exact h
  | some d => exact h.put d (hd d rfl) v hv

theorem run_choose (P : Program) (n : Nat) (h : 0 < n) (w : World) : ∃ (j : Nat) (w1 : World), j < n ∧ (w1 = w ∨ w1 = w.drew) ∧ (choose (Question.mapNext n)).run P w = .ok j w1 := by
  by_cases hf : n ≤ 1
  · exact ⟨0, w, by omega, .inl rfl, by simp [choose, Sem.run, Question.forced, hf]⟩
  · exact ⟨_, w.drew, Nat.mod_lt _ (by omega), .inr rfl, by
      simp only [choose, Sem.run, Question.forced, decide_eq_true_eq, hf, if_false, Question.cut]
      rfl⟩

theorem next_sound {P : Program} {W0 : Giv} {θ : Th} {H : AHeap} {w : World} (ho : Own W0 θ H w) {K : AV → AHeap → Prop} {v : AV} (h : ANext H K v) (ty : TypeId) :
    ∃ u H' w', (Instr.next (v.inst θ) false ty).run P w = .ok (u.inst θ) w' ∧ K u H' ∧ u.ok H'.next ∧ Post W0 θ H θ H' w' := by
  unfold ANext at h
  split at h
  · rename_i i
    split at h
    · rename_i since seen last hgi
      obtain ⟨_, hoff, hrdi, _, _⟩ := ho.live _ _ hgi rfl
      have hi' : w.heap[θ.blk i]? = some (.mapIter none since seen.toArray last) := hrdi
      refine ⟨_, H, w, ?_, h, ⟨trivial, trivial⟩, Post.refl ho⟩
      simp [Instr.next, AV.inst, AV.instL, Th.addr, hoff, getObj, Sem.run, hi', Result.andThen]
    · rename_i m since seen last hgi
      split at h
      · rename_i es clock hgm
        obtain ⟨hb, hcond, hend, hstep⟩ := h
        obtain ⟨hin, hoff, hrdi, hiok, _⟩ := ho.live _ _ hgi rfl
        obtain ⟨hmn, _, hrdm, hbok, _⟩ := ho.live _ _ hgm rfl
        have hi' : w.heap[θ.blk i]? = some (.mapIter (some (θ.blk m)) since seen.toArray last) := hrdi
        have hm' : w.heap[θ.blk m]? = some (.map (es.map (instE θ)).toArray clock) := hrdm
        have hbok' : ∀ e ∈ es, AV.ok H.next e.1 ∧ AV.ok H.next e.2.1 := hbok
        have hc : (!seen.toArray.isEmpty && !(es.map (instE θ)).toArray.isEmpty && (es.map (instE θ)).toArray.all (fun e => decide (e.born ≥ last))) = false := by
          rw [← hcond]
          congr 1
          · simp
          · simp only [List.all_toArray, List.all_map]; rfl
        have hfil : ((es.map (instE θ)).toArray.filter fun e => !seen.toArray.contains e.born) = ((es.filter fun e => !seen.contains e.2.2).map (instE θ)).toArray := by
          simp only [List.filter_toArray, List.filter_map]
          congr 2
          refine List.filter_congr fun e _ => ?_
          show (!seen.toArray.contains e.2.2) = (!seen.contains e.2.2)
          rw [List.contains_toArray]
        generalize hL : (es.filter fun e => !seen.contains e.2.2) = L at *
        have hold : ((L.map (instE θ)).toArray.filter fun e => decide (e.born < since)) = ((L.filter fun e => decide (e.2.2 < since)).map (instE θ)).toArray := by
          simp only [List.filter_toArray, List.filter_map]; rfl
        have hnew : ((L.map (instE θ)).toArray.filter fun e => decide (e.born ≥ since)) = ((L.filter fun e => decide (e.2.2 ≥ since)).map (instE θ)).toArray := by
          simp only [List.filter_toArray, List.filter_map]; rfl
        generalize hO : (L.filter fun e => decide (e.2.2 < since)) = O at *
        generalize hNw : (L.filter fun e => decide (e.2.2 ≥ since)) = Nw at *
        let cand : List (Option MapEntry) := (if O.isEmpty = true then [none] else []) ++ ((O ++ Nw).map fun e => some (instE θ e))
        have hcand : ((if (O.map (instE θ)).toArray.isEmpty = true then #[none] else #[]) ++ ((O.map (instE θ)).toArray ++ (Nw.map (instE θ)).toArray).map some) = cand.toArray := by
          have : (O.map (instE θ)).toArray.isEmpty = O.isEmpty := by cases O <;> simp
          rw [this]
          have hf : (some ∘ instE θ) = fun e => some (instE θ e) := rfl
          by_cases hOe : O.isEmpty = true <;> simp [cand, hOe, hf]
        have hpos : 0 < cand.length := by
          cases O with
          | nil => simp [cand]
          | cons x l => simp [cand]
        obtain ⟨j, w1, hj, hw1, hrun⟩ := run_choose P cand.length hpos w
        have ho1 : Own W0 θ H w1 := by rcases hw1 with rfl | rfl; exact ho; exact ho.drew
        have hi1 : w1.heap[θ.blk i]? = some (.mapIter (some (θ.blk m)) since seen.toArray last) := by rcases hw1 with rfl | rfl <;> exact hi'
        have hgen : (Instr.next ((AV.ptr (some (i, 0))).inst θ) false ty).run P w = (match cand[j]? with
            | some (some e) => (do setObj (θ.blk i) (.mapIter (some (θ.blk m)) since (seen.toArray.push e.born) clock); pure (.tuple #[.bool true, e.key, e.val]) : Sem Value).run P w1
            | some none => .ok (.tuple #[.bool false]) w1
            | none => (stuck "Next: no such candidate" : Sem Value).run P w1) := by
          have hsz : cand.toArray.size = cand.length := by simp
          have hrun' := hrun
          rw [← hsz] at hrun'
          simp only [Instr.next, AV.inst, Option.map_some, Th.addr, hoff, Nat.add_zero, Sem.run_bind]
          simp only [getObj, Sem.run, hi', hm', Result.andThen, Sem.run_bind, hc, Bool.false_eq_true, if_false, hfil, hold, hnew, hcand]
          have e2 : (choose (Question.mapNext cand.toArray.size)).run P w = .ok j w1 := hrun'
          rw [e2]
          simp only [List.getElem?_toArray]
          cases cand[j]? with
          | none => rfl
          | some x => cases x <;> simp only [Sem.run_bind, Result.andThen, Sem.run_pure]
        rw [hgen]
        rw [List.getElem?_eq_getElem hj]
        cases hcj : cand[j] with
        | none =>
          refine ⟨.tuple [.bool false], H, w1, rfl, hend ?_, ⟨trivial, trivial⟩, Post.refl ho1⟩
          have hmem : (none : Option MapEntry) ∈ cand := hcj ▸ List.getElem_mem hj
          simp only [cand, List.mem_append, List.mem_map] at hmem
          rcases hmem with h | ⟨_, _, h⟩
          · cases O with
            | nil => rfl
            | cons x l => simp at h
          · cases h
        | some e =>
          have hmem : (some e : Option MapEntry) ∈ cand := hcj ▸ List.getElem_mem hj
          have : ∃ e0 ∈ L, instE θ e0 = e := by
            simp only [cand, List.mem_append, List.mem_map] at hmem
            rcases hmem with h | ⟨e0, h0, h⟩
            · by_cases hOe : O.isEmpty = true <;> simp [hOe] at h
            · refine ⟨e0, ?_, by cases h; rfl⟩
              rcases h0 with h0 | h0
              · rw [← hO] at h0; exact (List.mem_filter.1 h0).1
              · rw [← hNw] at h0; exact (List.mem_filter.1 h0).1
          obtain ⟨e0, he0, rfl⟩ := this
          have hees : e0 ∈ es := by rw [← hL] at he0; exact (List.mem_filter.1 he0).1
          have hok' : (Blk.mapIter (some m) since (seen ++ [e0.2.2]) clock).ok H.next := fun r hr => by cases hr; exact hmn
          have hown := ho1.putObj (b' := .mapIter (some m) since (seen ++ [e0.2.2]) clock) (.mapIter (some (θ.blk m)) since (seen.toArray.push e0.2.2) clock) hgi rfl hb hok' (by show some _ = some _; simp)
          refine ⟨.tuple [.bool true, e0.1, e0.2.1], _, _, ?_, hstep e0 he0, ⟨trivial, (hbok' e0 hees).1, (hbok' e0 hees).2, trivial⟩, ⟨Th.Ext.refl _ _, Nat.le_refl _, rfl, hown⟩⟩
          simp [setObj, Sem.run, hi1, Result.andThen, instE, AV.inst, AV.instL]
      · exact h.elim
    · exact h.elim
  · exact h.elim

/-- One operation. -/
theorem WPo_sound {ro : Option Nat} {P : Program} {o : Oper} {c : CO} (hc : compCO P o = some c) {N : Nat} {t : Fr} {H : AHeap} {K : AV → AHeap → Prop} {Kp : AV → AHeap → Prop} (h : WPo P c t H K Kp)
    {W0 : Giv} {θ : Th} {a : Act} {w : World} (hr : RelA θ H.next N t a) (ho : Own W0 θ H w) {next : Act → World → Prop} {Q : Exit → Act → World → Prop}
    (hn : ∀ v H' θ' w', K v H' → Post W0 θ H θ' H' w' → v.ok H'.next → next (a.put o.dst (v.inst θ')) w')
    (hp : ∀ v H' θ' w', Kp v H' → Post W0 θ H θ' H' w' → v.ok H'.next → Q (.panic [{ v := v.inst θ', recovered := false }]) a w') : o.wpIn (fr ro) 0 P a w next Q := by
  have hnd : ∀ c, o.op ≠ .defer c := by
    intro c' h'
    simp [compCO, compR, compX, h'] at hc
  have hstart : o.uponIn (fr ro) 0 P a next Q ((execOp a.eval o).run P w) → o.wpIn (fr ro) 0 P a w next Q := fun h => ⟨fun _ _ => trivial, by rw [Oper.semAt_eq _ _ _ hnd]; exact h⟩
  have hdep : ((fr ro).depth.isSome = true → 1 ≤ 0) := fun h => by cases h
  have hcall : ∀ (f : FuncId) (args : List AV), (execOp a.eval o).run P w = (callFunc f (AV.instL θ args).toArray).run P w → AV.okL H.next args →
      (ACall P f args H fun x H' => match x with | .ret v => K v H' | .pan v => Kp v H') → o.wpIn (fr ro) 0 P a w next Q := by
    intro f args he hok hA
    refine hstart ?_
    rw [he, callFunc_run hA.1]
    rw [Oper.uponIn_enter]
    refine ⟨hdep, ?_⟩
    have hcc : CallsIn Fence.wide 0 P f (AV.instL θ args).toArray w fun
        | .returned v, w'' => next (a.put o.dst v) w''
        | .panicked chain, w'' => Q (.panic chain) a w''
        | .outgrown, _ => LetsOut Q := callsIn_wide.2 ((hA.2 W0 θ w ho hok).mono fun e w' ⟨x, H', θ', q, hpost, hx⟩ => by
      cases x with
      | ret v => obtain ⟨rfl, hvok⟩ := hx; exact hn v H' θ' w' q hpost hvok
      | pan v => obtain ⟨rfl, hvok⟩ := hx; exact hp v H' θ' w' q hpost hvok)
    exact hcc
  unfold compCO at hc
  split at hc
  · rename_i r hcr
    cases hc
    obtain ⟨v, hv, hk⟩ := h
    obtain ⟨h1, h2⟩ := compR_sound hcr hr (fun i _ => ho.reads i) hv
    refine hstart ?_
    rw [h1, Oper.uponIn_value]
    exact hn v H θ w hk (Post.refl ho) h2
  · split at hc
    · rename_i r hcx
      cases hc
      obtain ⟨v, H', hv, hk⟩ := h
      obtain ⟨θ', w', nx, h1, h2, h3, h4, h5, h6, h7⟩ := compX_sound hcx hv W0 θ a w hr ho
      refine hstart ?_
      rw [h1]
      rcases h2 with rfl | ⟨rfl, rfl⟩
      · rw [Oper.uponIn_value]; exact hn v H' θ' w' hk ⟨h3, h5, h6, h7⟩ h4
      · rw [Oper.uponIn_skip]; exact hn undefA H' θ' w' hk ⟨h3, h5, h6, h7⟩ h4
    · split at hc
      · rename_i f args ts hop
        obtain ⟨l, hl, rfl⟩ := map_some' hc
        obtain ⟨e1, e2⟩ := compL_sound hl hr
        refine hcall f _ ?_ e2 h
        have harr : args.map a.eval = (AV.instL θ (l.map (AO.ev t))).toArray := by rw [← e1]; apply Array.ext'; simp
        simp only [execOp, hop, resolve, harr, Act.eval]
        rw [show ∀ (x : Sem Deferred) (k : Deferred → Sem Next), (x >>= k).run P w = (x.bind k).run P w from fun _ _ => rfl]
        simp [Deferred.ofValue, Sem.bind, invoke]
        rfl
      · rename_i x args ts hop hnf
        split at hc
        · rename_i y l hy hl
          cases hc
          obtain ⟨e1, e2⟩ := compL_sound hl hr
          obtain ⟨f1, f2⟩ := compO_sound hy hr
          have harr : args.map a.eval = (AV.instL θ (l.map (AO.ev t))).toArray := by rw [← e1]; apply Array.ext'; simp
          simp only [WPo] at h
          split at h
          · rename_i g first cap hf
            rw [hf] at f1 f2
            have f2' : AV.okL H.next first ∧ AV.okL H.next cap := f2
            refine hcall g _ ?_ ?_ h
            · simp only [execOp, hnf, resolve, harr, f1, AV.inst]
              rw [show ∀ (x : Sem Deferred) (k : Deferred → Sem Next), (x >>= k).run P w = (x.bind k).run P w from fun _ _ => rfl]
              have hargs : (AV.instL θ first).toArray ++ (AV.instL θ (l.map (AO.ev t))).toArray ++ (AV.instL θ cap).toArray = (AV.instL θ (first ++ l.map (AO.ev t) ++ cap)).toArray := by
                apply Array.ext'; simp [AV.instL_eq]
              rw [← hargs]
              rfl
            · rw [AV.okL_iff] at e2 ⊢
              intro u hu
              simp only [List.mem_append] at hu
              rcases hu with (hu | hu) | hu
              · exact (AV.okL_iff _ _).1 f2'.1 u hu
              · exact e2 u hu
              · exact (AV.okL_iff _ _).1 f2'.2 u hu
          · rename_i lp hf
            rw [hf] at f1 f2
            obtain ⟨f, tmps, as, bd, h1, h2⟩ := h W0 θ w ho e2
            refine hstart ?_
            have hrun : (execOp a.eval o).run P w = .ok (.round (θ.blk lp) f tmps as bd) w := by
              simp only [execOp, hnf, resolve, harr, f1, AV.inst]
              rw [show ∀ (x : Sem Deferred) (k : Deferred → Sem Next), (x >>= k).run P w = (x.bind k).run P w from fun _ _ => rfl]
              have : (#[] : Array Value) ++ (AV.instL θ (l.map (AO.ev t))).toArray = (AV.instL θ (l.map (AO.ev t))).toArray := by simp
              rw [← this] at h1
              exact h1
            rw [hrun, Oper.uponIn_round]
            refine ⟨hdep, ?_⟩
            have hcc : RoundIn Fence.wide 0 P (θ.blk lp) f tmps as bd w fun
                | .returned v, w'' => next (a.put o.dst v) w''
                | .panicked chain, w'' => Q (.panic chain) a w''
                | .outgrown, _ => LetsOut Q := h2.mono fun e w' ⟨v, H', θ', q, hpost, he, hvok⟩ => by subst he; exact hn v H' θ' w' q hpost hvok
            exact hcc
          · exact h.elim
        · cases hc
      · rename_i x hop
        obtain ⟨y, hy, rfl⟩ := map_some' hc
        obtain ⟨f1, f2⟩ := compO_sound hy hr
        simp only [WPo] at h
        split at h
        · rename_i ty v hv
          rw [hv] at f1 f2
          have := hp (.iface ty v) H θ w h (Post.refl ho) f2
          refine hstart ?_
          have hrun : (execOp a.eval o).run P w = .halt (.panic ((AV.iface ty v).inst θ)) w := by
            simp [execOp, hop, f1, AV.inst, Instr.panic, goPanic, Sem.run, Result.andThen]
          rw [hrun]
          exact this
        · exact h.elim
      · rename_i x hop
        obtain ⟨y, hy, rfl⟩ := map_some' hc
        obtain ⟨f1, f2⟩ := compO_sound hy hr
        obtain ⟨u, H', w', h1, h2, h3, h4⟩ := next_sound (P := P) ho h o.type
        refine hstart ?_
        have hrun : (execOp a.eval o).run P w = .ok (.value (u.inst θ)) w' := by
          simp only [execOp, hop, f1]
          exact run_v' _ h1
        rw [hrun, Oper.uponIn_value]
        exact hn u H' θ w' h2 h4 h3
      · cases hc
end Go.AM
