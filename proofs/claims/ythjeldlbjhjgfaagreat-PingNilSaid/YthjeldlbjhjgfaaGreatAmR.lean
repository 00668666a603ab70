/- The abstract machine, part R: rules for regions that draw and store. -/
import Derived.Test.YthjeldlbjhjgfaaGreatAmO
namespace Go.AM
set_option linter.unusedSimpArgs false
set_option linter.unusedVariables false
open Go.RowKit

def RdD (P : Program) (K : Fr → AHeap → Prop) (Kp : AV → AHeap → Prop) (l : List PS) (T : List (Nat × Nat)) (t : Fr) (d : Option Nat) (H : AHeap) : Option AV → Prop
  | some v => WPd P K Kp l T (Fr.put t d v) H
  | none => False
def WrD (P : Program) (K : Fr → AHeap → Prop) (Kp : AV → AHeap → Prop) (l : List PS) (t : Fr) (d : Option Nat) : Option (AV × AHeap) → Prop
  | some (v, H') => WPd P K Kp l [] (Fr.put t d v) H'
  | none => False
def CallD (P : Program) (K : Fr → AHeap → Prop) (Kp : AV → AHeap → Prop) (l : List PS) (t : Fr) (d : Option Nat) : AE → AHeap → Prop
  | .ret v, H' => WPd P K Kp l [] (Fr.put t d v) H'
  | .pan v, H' => Kp v H'
def TT (i : Nat) (T : List (Nat × Nat)) : Option Nat → List (Nat × Nat)
  | some b => (i, b) :: T
  | none => T
section
variable {P : Program} {K : Fr → AHeap → Prop} {Kp : AV → AHeap → Prop} {l : List PS} {T : List (Nat × Nat)} {t : Fr} {H : AHeap} {d : Option Nat} {i : Nat} {W : List Nat} {op : CO} {r : RR}
theorem WP_dops {Q : AX → Fr → AHeap → Prop} {l : List PS} : WP P (.dops l) Q t H = WPd P (Q .normal) (fun v H' => Q (.pan v) .leaf H') l [] t H := Eq.trans rfl rfl
theorem WPd_nil : WPd P K Kp [] T t H = K t H := Eq.trans rfl rfl
theorem RdD_some {v : AV} : RdD P K Kp l T t d H (some v) = WPd P K Kp l T (Fr.put t d v) H := Eq.trans rfl rfl
theorem WrD_some {v : AV} {H' : AHeap} : WrD P K Kp l t d (some (v, H')) = WPd P K Kp l [] (Fr.put t d v) H' := Eq.trans rfl rfl
theorem CallD_ret {v : AV} : CallD P K Kp l t d (.ret v) H = WPd P K Kp l [] (Fr.put t d v) H := Eq.trans rfl rfl
theorem WPd_tf : WPd P K Kp (.take i ⟨d, none, op⟩ r false :: l) T t H = RdD P K Kp l T t d H (evR r (AO.ev t) H) := by
  simp only [WPd, gd]
  cases evR r (AO.ev t) H <;> simp [RdD]
theorem WPd_tt : WPd P K Kp (.take i ⟨d, none, op⟩ r true :: l) T t H = RdD P K Kp l (TT i T (rdOf r (AO.ev t))) t d H (evR r (AO.ev t) H) := by
  simp only [WPd, gd]
  cases h : evR r (AO.ev t) H <;> cases h2 : rdOf r (AO.ev t) <;> simp [RdD, TT, h2]
theorem TT_none : TT i T none = T := Eq.trans rfl rfl
theorem WPd_lw {x : RX} : WPd P K Kp (.loud i ⟨d, none, .wr x⟩ W :: l) [] t H = WrD P K Kp l t d (evX x (AO.ev t) H) := by
  simp only [WPd, gd, WPo]
  cases h : evX x (AO.ev t) H with
  | none => simp [WrD]
  | some p =>
    obtain ⟨v, H'⟩ := p
    refine propext ⟨?_, fun hh => ⟨v, H', rfl, fun x hx => (by cases hx), hh⟩⟩
    rintro ⟨v1, H1, e, _, hh⟩
    cases e
    exact hh
theorem WPd_lr : WPd P K Kp (.loud i ⟨d, none, .rd r⟩ W :: l) [] t H = RdD P K Kp l [] t d H (evR r (AO.ev t) H) := by
  simp only [WPd, gd, WPo]
  cases h : evR r (AO.ev t) H with
  | none => simp [RdD]
  | some v =>
    refine propext ⟨?_, fun hh => ⟨v, rfl, fun x hx => (by cases hx), hh⟩⟩
    rintro ⟨v1, e, _, hh⟩
    cases e
    exact hh
theorem WPd_lc {f : FuncId} {args : List AO} : WPd P K Kp (.loud i ⟨d, none, .call f args⟩ W :: l) [] t H = ACall P f (args.map (AO.ev t)) H (CallD P K Kp l t d) := by
  simp only [WPd, gd, WPo]
  refine propext ⟨fun h => h.mono fun x H' q => ?_, fun h => h.mono fun x H' q => ?_⟩
  · cases x with
    | ret v => exact q.2
    | pan v => exact q
  · cases x with
    | ret v => exact ⟨fun x hx => (by cases hx), q⟩
    | pan v => exact q
/-! the same with readings under way -/
def CallT (P : Program) (K : Fr → AHeap → Prop) (Kp : AV → AHeap → Prop) (l : List PS) (T : List (Nat × Nat)) (W : List Nat) (t : Fr) (d : Option Nat) (H : AHeap) : AE → AHeap → Prop
  | .ret v, H' => (∀ x ∈ T, W.contains x.1 = false → H'.get x.2 = H.get x.2) ∧ WPd P K Kp l (T.filter fun x => !W.contains x.1) (Fr.put t d v) H'
  | .pan v, H' => Kp v H'
def WrT (P : Program) (K : Fr → AHeap → Prop) (Kp : AV → AHeap → Prop) (l : List PS) (T : List (Nat × Nat)) (W : List Nat) (t : Fr) (d : Option Nat) (H : AHeap) : Option (AV × AHeap) → Prop
  | some (v, H') => (∀ x ∈ T, W.contains x.1 = false → H'.get x.2 = H.get x.2) ∧ WPd P K Kp l (T.filter fun x => !W.contains x.1) (Fr.put t d v) H'
  | none => False
theorem WPd_lct {f : FuncId} {args : List AO} : WPd P K Kp (.loud i ⟨d, none, .call f args⟩ W :: l) T t H = ACall P f (args.map (AO.ev t)) H (CallT P K Kp l T W t d H) := by
  simp only [WPd, gd, WPo]
  refine propext ⟨fun h => h.mono fun x H' q => ?_, fun h => h.mono fun x H' q => ?_⟩
  · cases x <;> exact q
  · cases x <;> exact q
theorem WPd_lwt {x : RX} : WPd P K Kp (.loud i ⟨d, none, .wr x⟩ W :: l) T t H = WrT P K Kp l T W t d H (evX x (AO.ev t) H) := by
  simp only [WPd, gd, WPo]
  cases h : evX x (AO.ev t) H with
  | none => simp [WrT]
  | some p =>
    obtain ⟨v, H'⟩ := p
    refine propext ⟨?_, fun hh => ⟨v, H', rfl, hh.1, hh.2⟩⟩
    rintro ⟨v1, H1, e, h1, hh⟩
    cases e
    exact ⟨h1, hh⟩
theorem CallT_ret {v : AV} {H' : AHeap} : CallT P K Kp l T W t d H (.ret v) H' = ((∀ x ∈ T, W.contains x.1 = false → H'.get x.2 = H.get x.2) ∧ WPd P K Kp l (T.filter fun x => !W.contains x.1) (Fr.put t d v) H') := Eq.trans rfl rfl
theorem WrT_some {v : AV} {H' : AHeap} : WrT P K Kp l T W t d H (some (v, H')) = ((∀ x ∈ T, W.contains x.1 = false → H'.get x.2 = H.get x.2) ∧ WPd P K Kp l (T.filter fun x => !W.contains x.1) (Fr.put t d v) H') := Eq.trans rfl rfl
end
end Go.AM
