/- The abstract machine, part O: what a call leaves behind may be forgotten; rules for walking compiled code. -/
import Derived.Test.YthjeldlbjhjgfaaGreatAmP
namespace Go.AM
set_option linter.unusedSimpArgs false
set_option linter.unusedVariables false
open Go.RowKit

/-- What is new may be forgotten. -/
theorem Own.forget {W0 : Giv} {θ θ' : Th} {H H' : AHeap} {w w' : World} (h : Own W0 θ H w) (h' : Own W0 θ' H' w') (hle : H.Le H') : Own W0 θ' H w' where
  below := h'.below
  size := h'.size
  next := h.next
  live := fun i b hg hl => by
    obtain ⟨h1, _, _, h4, _⟩ := h.live i b hg hl
    obtain ⟨_, g2, g3, _, g5⟩ := h'.live i b (by rw [hle.get i h1]; exact hg) hl
    exact ⟨h1, g2, g3, h4, fun hb => g5 (hle.base ▸ hb)⟩
  inj := fun i j b c hi hj hb hc he => by
    have h1 := (h.live i b hi hb).1
    have h2 := (h.live j c hj hc).1
    exact h'.inj i j b c (by rw [hle.get i h1]; exact hi) (by rw [hle.get j h2]; exact hj) hb hc he
  guard := h'.guard
  apart := fun i b hg hl => h'.apart i b (by rw [hle.get i (h.live i b hg hl).1]; exact hg) hl

/-- All but one block may be forgotten. -/
theorem Own.keep1 {W0 : Giv} {θ θ' : Th} {H H' : AHeap} {w w' : World} (h : Own W0 θ H w) (h' : Own W0 θ' H' w') (hle : H.Le H') {i : Nat} {cs : List AV} {room : Option Nat}
    (hi : H.next ≤ i) (hg : H'.get i = some (.cells cs room)) (hok : AV.okL H.next cs) :
    Own W0 (θ'.set H.next (θ'.blk i) 0 (θ'.cap i)) (H.alloc (.cells cs room)) w' := by
  have hf := h.forget h' hle
  have hext := Th.set_ext θ' H.next (θ'.blk i) 0 (θ'.cap i)
  have hget := fun j => AHeap.get_alloc H (.cells cs room) j h.next (by omega)
  obtain ⟨hi', _, hat, _, hbb⟩ := h'.live i _ hg rfl
  have hbase : W0.W.heap.size ≤ θ'.blk i := (hbb (hle.base ▸ Nat.le_trans h.next hi)).1
  refine ⟨hf.below, hf.size, ?_, fun j b hj hl => ?_, fun j k b c hj hk hb hc he => ?_, hf.guard, fun j b hj hl => ?_⟩
  · simp only [AHeap.base_alloc, AHeap.next_alloc]; have := h.next; omega
  · rw [hget] at hj
    split at hj
    · rename_i e
      subst e
      cases hj
      refine ⟨by simp, by simp, ?_, AV.okL_mono (by simp) _ hok, fun _ => ⟨by simpa using hbase, by rw [Th.set_blk]; exact (hbb (hle.base ▸ Nat.le_trans h.next hi)).2⟩⟩
      obtain ⟨c, e, f, ho, hc, hr⟩ := hat
      refine ⟨c, e, f, by rw [Th.set_blk]; exact ho, fun k v hk => ?_, ?_⟩
      · rw [AV.inst_ext hext v ((AV.okL_iff _ cs).1 hok v (List.mem_of_getElem? hk))]; exact hc k v hk
      · cases room with
        | none => exact hr
        | some sz => rw [Th.set_cap]; exact hr
    · rename_i e
      obtain ⟨g1, g2, g3, g4, g5⟩ := hf.live j b hj hl
      obtain ⟨x1, x2, x3⟩ := hext j g1
      refine ⟨by simp; omega, by rw [x2]; exact g2, ?_, Blk.ok_mono (by simp) g4, fun hb => by rw [x1]; exact g5 hb⟩
      rw [x1]
      exact BlkRd.ext hext g1 g4 g3
  · have old : ∀ j b, H.get j = some b → b.live = true → j < H.next ∧ H'.get j = some b := fun j b hj hl => by
      have := (h.live j b hj hl).1
      exact ⟨this, by rw [hle.get j this]; exact hj⟩
    rw [hget] at hj hk
    split at hj
    · rename_i e1
      split at hk
      · rename_i e2; rw [e1, e2]
      · rename_i e2
        obtain ⟨hlt, hgk⟩ := old k c hk hc
        rw [e1, Th.set_blk, (hext k hlt).1] at he
        have := h'.inj i k _ c hg hgk rfl hc he
        omega
    · rename_i e1
      obtain ⟨hlt, hgj⟩ := old j b hj hb
      split at hk
      · rename_i e2
        rw [e2, Th.set_blk, (hext j hlt).1] at he
        have := h'.inj j i b _ hgj hg hb rfl he
        omega
      · rename_i e2
        obtain ⟨hlt', hgk⟩ := old k c hk hc
        rw [(hext j hlt).1, (hext k hlt').1] at he
        exact h'.inj j k b c hgj hgk hb hc he
  · rw [hget] at hj
    split at hj
    · rename_i e; subst e; rw [Th.set_blk]; exact h'.apart i _ hg rfl
    · rw [(hext j (hf.live j b hj hl).1).1]; exact hf.apart j b hj hl

/-- How a call's end may be told with what it left forgotten. -/
def Gc (H : AHeap) (Q : AE → AHeap → Prop) (x : AE) (H' : AHeap) : Prop :=
  Q x H' ∨ (∃ v, x = .ret v ∧ H.Le H' ∧ v.ok H.next ∧ Q (.ret v) H) ∨
  (∃ i n c cs room, x = .ret (.slice (some (i, 0)) n c) ∧ H.Le H' ∧ H.next ≤ i ∧ H'.get i = some (.cells cs room) ∧ AV.okL H.next cs ∧ Q (.ret (.slice (some (H.next, 0)) n c)) (H.alloc (.cells cs room))) ∨
  (∃ i n c cs room v, x = .ret (.tuple [.slice (some (i, 0)) n c, v]) ∧ H.Le H' ∧ H.next ≤ i ∧ H'.get i = some (.cells cs room) ∧ AV.okL H.next cs ∧ v.ok H.next ∧ Q (.ret (.tuple [.slice (some (H.next, 0)) n c, v])) (H.alloc (.cells cs room)))

theorem ACall.gc {P : Program} {f : FuncId} {args : List AV} {H : AHeap} {Q : AE → AHeap → Prop} (h : ACall P f args H (Gc H Q)) : ACall P f args H Q := by
  refine ⟨h.1, fun W0 θ w ho ha => (h.2 W0 θ w ho ha).mono fun e w' ⟨x, H', θ', q, hp, hx⟩ => ?_⟩
  rcases q with q | ⟨v, rfl, hle, hv, q⟩ | ⟨i, n, c, cs, room, rfl, hle, hi, hg, hcs, q⟩ | ⟨i, n, c, cs, room, v, rfl, hle, hi, hg, hcs, hv, q⟩
  · exact ⟨x, H', θ', q, hp, hx⟩
  · exact ⟨.ret v, H, θ', q, ⟨hp.ext, Nat.le_refl _, rfl, ho.forget hp.own hle⟩, hx.1, hv⟩
  · have hext := Th.set_ext θ' H.next (θ'.blk i) 0 (θ'.cap i)
    have h0 := (hp.own.live i _ hg rfl).2.1
    refine ⟨.ret (.slice (some (H.next, 0)) n c), _, _, q, ⟨hp.ext.trans hext (Nat.le_refl _), by simp, rfl, ho.keep1 hp.own hle hi hg hcs⟩, ?_, by simp [AV.ok]⟩
    rw [hx.1]
    simp only [AV.inst, Option.map_some, Th.addr, Th.set_blk, Th.set_off, h0]
    cases c <;> simp [capOf]
  · have hext := Th.set_ext θ' H.next (θ'.blk i) 0 (θ'.cap i)
    have h0 := (hp.own.live i _ hg rfl).2.1
    refine ⟨.ret (.tuple [.slice (some (H.next, 0)) n c, v]), _, _, q, ⟨hp.ext.trans hext (Nat.le_refl _), by simp, rfl, ho.keep1 hp.own hle hi hg hcs⟩, ?_, by simp [AV.ok, AV.okL]; exact AV.ok_mono (by omega) v hv⟩
    rw [hx.1]
    simp only [AV.inst, AV.instL, Option.map_some, Th.addr, Th.set_blk, Th.set_off, h0, AV.inst_ext hext v hv]
    cases c <;> simp [capOf]

/-! ### rules -/
def RdK (P : Program) (l : List Stp) (K : Fr → AHeap → Prop) (Kp : AV → AHeap → Prop) (t : Fr) (d : Option Nat) (H : AHeap) : Option AV → Prop
  | some v => WPs P l K Kp (Fr.put t d v) H
  | none => False
def WrK (P : Program) (l : List Stp) (K : Fr → AHeap → Prop) (Kp : AV → AHeap → Prop) (t : Fr) (d : Option Nat) : Option (AV × AHeap) → Prop
  | some (v, H') => WPs P l K Kp (Fr.put t d v) H'
  | none => False
def CallK (P : Program) (l : List Stp) (K : Fr → AHeap → Prop) (Kp : AV → AHeap → Prop) (t : Fr) (d : Option Nat) : AE → AHeap → Prop
  | .ret v, H' => WPs P l K Kp (Fr.put t d v) H'
  | .pan v, H' => Kp v H'
def CallV (P : Program) (args : List AV) (H : AHeap) (Q : AE → AHeap → Prop) : AV → Prop
  | .func (.func g) first cap => ACall P g (first ++ args ++ cap) H Q
  | .yield l => AYield P l args H fun v H' => Q (.ret v) H'
  | _ => False
def GdS (P : Program) (l : List Stp) (K : Fr → AHeap → Prop) (Kp : AV → AHeap → Prop) (t : Fr) (H : AHeap) (d : Option Nat) (op : CO) (want : Bool) : AV → Prop
  | .bool b => if (b == want) = true then WPs P (⟨d, none, op⟩ :: l) K Kp t H else WPs P l K Kp (Fr.put t d undefA) H
  | .raw _ => False
  | _ => WPs P l K Kp (Fr.put t d undefA) H
def GdA (P : Program) (l : List Stp) (K : Fr → AHeap → Prop) (Kp : AV → AHeap → Prop) (t : Fr) (H : AHeap) (d : Option Nat) (op : CO) (want : Bool) : AV → Prop
  | .bool b => if (b == want) = true then WPa P (⟨d, none, op⟩ :: l) K Kp t H else WPa P l K Kp (Fr.put t d undefA) H
  | .raw _ => False
  | _ => WPa P l K Kp (Fr.put t d undefA) H

section
variable {P : Program} {l : List Stp} {K : Fr → AHeap → Prop} {Kp : AV → AHeap → Prop} {t : Fr} {H : AHeap} {d : Option Nat}
theorem WPs_nil : WPs P [] K Kp t H = K t H := Eq.trans rfl rfl
theorem WPs_rd {r : RR} : WPs P (⟨d, none, .rd r⟩ :: l) K Kp t H = RdK P l K Kp t d H (evR r (AO.ev t) H) := by
  simp only [WPs, gd, WPo]
  cases evR r (AO.ev t) H <;> simp [RdK]
theorem WPs_wr {r : RX} : WPs P (⟨d, none, .wr r⟩ :: l) K Kp t H = WrK P l K Kp t d (evX r (AO.ev t) H) := by
  simp only [WPs, gd, WPo]
  cases h : evX r (AO.ev t) H with
  | none => simp [WrK]
  | some p =>
    obtain ⟨v, H'⟩ := p
    refine propext ⟨?_, fun hh => ⟨v, H', rfl, hh⟩⟩
    rintro ⟨v1, H1, e, hh⟩
    cases e
    exact hh
theorem CallK_eq : CallK P l K Kp t d = fun x H' => match x with | .ret v => WPs P l K Kp (Fr.put t d v) H' | .pan v => Kp v H' := by
  funext x H'; cases x <;> rfl
theorem WPs_call {f : FuncId} {args : List AO} : WPs P (⟨d, none, .call f args⟩ :: l) K Kp t H = ACall P f (args.map (AO.ev t)) H (CallK P l K Kp t d) := by
  rw [CallK_eq]; rfl
theorem WPs_callv {f : AO} {args : List AO} : WPs P (⟨d, none, .callv f args⟩ :: l) K Kp t H = CallV P (args.map (AO.ev t)) H (CallK P l K Kp t d) (AO.ev t f) := by
  rw [CallK_eq]
  simp only [WPs, gd, WPo, CallV]
  cases AO.ev t f with
  | func fn first cap => cases fn <;> rfl
  | _ => rfl
theorem WPs_nxt {x : AO} : WPs P (⟨d, none, .nxt x⟩ :: l) K Kp t H = ANext H (fun v H' => WPs P l K Kp (Fr.put t d v) H') (AO.ev t x) := Eq.trans rfl rfl
theorem WPs_panic {x : AO} : WPs P (⟨d, none, .panic x⟩ :: l) K Kp t H = (match AO.ev t x with | .iface ty v => Kp (.iface ty v) H | _ => False) := Eq.trans rfl rfl
theorem WPs_gd {j : Nat} {want : Bool} {op : CO} : WPs P (⟨d, some (j, want), op⟩ :: l) K Kp t H = GdS P l K Kp t H d op want (Fr.at t j) := by
  simp only [WPs, gd]
  cases Fr.at t j with
  | bool b => cases h : (b == want) <;> simp [GdS, h, WPs, gd]
  | _ => simp [GdS]
theorem GdS_tt {op : CO} : GdS P l K Kp t H d op true (.bool true) = WPs P (⟨d, none, op⟩ :: l) K Kp t H := Eq.trans rfl rfl
theorem GdS_tf {op : CO} : GdS P l K Kp t H d op true (.bool false) = WPs P l K Kp (Fr.put t d undefA) H := Eq.trans rfl rfl
theorem GdS_ft {op : CO} : GdS P l K Kp t H d op false (.bool true) = WPs P l K Kp (Fr.put t d undefA) H := Eq.trans rfl rfl
theorem GdS_ff {op : CO} : GdS P l K Kp t H d op false (.bool false) = WPs P (⟨d, none, op⟩ :: l) K Kp t H := Eq.trans rfl rfl
theorem RdK_some {v : AV} : RdK P l K Kp t d H (some v) = WPs P l K Kp (Fr.put t d v) H := Eq.trans rfl rfl
theorem WrK_some {v : AV} {H' : AHeap} : WrK P l K Kp t d (some (v, H')) = WPs P l K Kp (Fr.put t d v) H' := Eq.trans rfl rfl
theorem CallK_ret {v : AV} : CallK P l K Kp t d (.ret v) H = WPs P l K Kp (Fr.put t d v) H := Eq.trans rfl rfl
theorem CallK_pan {v : AV} : CallK P l K Kp t d (.pan v) H = Kp v H := Eq.trans rfl rfl
theorem CallV_func {args first cap : List AV} {Q : AE → AHeap → Prop} {g : FuncId} : CallV P args H Q (.func (.func g) first cap) = ACall P g (first ++ args ++ cap) H Q := Eq.trans rfl rfl
end

/-! ### a region that draws -/
def RdA (P : Program) (l : List Stp) (K : Fr → AHeap → Prop) (Kp : AV → AHeap → Prop) (t : Fr) (d : Option Nat) (H : AHeap) : Option AV → Prop
  | some v => WPa P l K Kp (Fr.put t d v) H
  | none => False
def CallA (P : Program) (l : List Stp) (K : Fr → AHeap → Prop) (Kp : AV → AHeap → Prop) (t : Fr) (d : Option Nat) (H : AHeap) : AE → AHeap → Prop
  | .ret v, H' => (∀ b, H.get b ≠ none → H'.get b = H.get b) ∧ WPa P l K Kp (Fr.put t d v) H'
  | .pan v, H' => Kp v H'
def WrA (P : Program) (l : List Stp) (K : Fr → AHeap → Prop) (Kp : AV → AHeap → Prop) (t : Fr) (d : Option Nat) (H : AHeap) : Option (AV × AHeap) → Prop
  | some (v, H') => (∀ b, H.get b ≠ none → H'.get b = H.get b) ∧ WPa P l K Kp (Fr.put t d v) H'
  | none => False
section
variable {P : Program} {l : List Stp} {K : Fr → AHeap → Prop} {Kp : AV → AHeap → Prop} {t : Fr} {H : AHeap} {d : Option Nat}
theorem WPa_wr {r : RX} : WPa P (⟨d, none, .wr r⟩ :: l) K Kp t H = WrA P l K Kp t d H (evX r (AO.ev t) H) := by
  simp only [WPa, gd, WPo]
  cases h : evX r (AO.ev t) H with
  | none => simp [WrA]
  | some p =>
    obtain ⟨v, H'⟩ := p
    refine propext ⟨?_, fun hh => ⟨v, H', rfl, hh⟩⟩
    rintro ⟨v1, H1, e, hh⟩
    cases e
    exact hh
theorem AHeap.Le.keep {H H' : AHeap} (hle : H.Le H') (hb : H.base ≤ H.next) (b : Nat) (h : H.get b ≠ none) : H'.get b = H.get b := by
  refine hle.get b ?_
  unfold AHeap.get at h
  by_cases h1 : b < H.base
  · omega
  · rw [if_neg h1] at h
    by_cases h2 : b < H.next
    · exact h2
    · rw [if_neg h2] at h; exact absurd rfl h
theorem WrA_le {v : AV} {H' : AHeap} (hle : H.Le H') (hb : H.base ≤ H.next) : WrA P l K Kp t d H (some (v, H')) = WPa P l K Kp (Fr.put t d v) H' := by
  simp only [WrA]; exact propext ⟨fun h => h.2, fun h => ⟨hle.keep hb, h⟩⟩
theorem CallA_le {v : AV} {H' : AHeap} (hle : H.Le H') (hb : H.base ≤ H.next) : CallA P l K Kp t d H (.ret v) H' = WPa P l K Kp (Fr.put t d v) H' := by
  simp only [CallA]; exact propext ⟨fun h => h.2, fun h => ⟨hle.keep hb, h⟩⟩
theorem WPa_nil : WPa P [] K Kp t H = K t H := Eq.trans rfl rfl
theorem WPa_rd {r : RR} : WPa P (⟨d, none, .rd r⟩ :: l) K Kp t H = RdA P l K Kp t d H (evR r (AO.ev t) H) := by
  simp only [WPa, gd, WPo]
  cases evR r (AO.ev t) H <;> simp [RdA]
theorem CallA_eq : CallA P l K Kp t d H = fun x H' => match x with | .ret v => (∀ b, H.get b ≠ none → H'.get b = H.get b) ∧ WPa P l K Kp (Fr.put t d v) H' | .pan v => Kp v H' := by
  funext x H'; cases x <;> rfl
theorem WPa_call {f : FuncId} {args : List AO} : WPa P (⟨d, none, .call f args⟩ :: l) K Kp t H = ACall P f (args.map (AO.ev t)) H (CallA P l K Kp t d H) := by
  rw [CallA_eq]; rfl
theorem WPa_callv {f : AO} {args : List AO} : WPa P (⟨d, none, .callv f args⟩ :: l) K Kp t H = CallV P (args.map (AO.ev t)) H (CallA P l K Kp t d H) (AO.ev t f) := by
  rw [CallA_eq]
  simp only [WPa, gd, WPo, CallV]
  cases AO.ev t f with
  | func fn first cap => cases fn <;> rfl
  | _ => rfl
theorem WPa_gd {j : Nat} {want : Bool} {op : CO} : WPa P (⟨d, some (j, want), op⟩ :: l) K Kp t H = GdA P l K Kp t H d op want (Fr.at t j) := by
  simp only [WPa, gd]
  cases Fr.at t j with
  | bool b => cases h : (b == want) <;> simp [GdA, h, WPa, gd]
  | _ => simp [GdA]
theorem GdA_tt {op : CO} : GdA P l K Kp t H d op true (.bool true) = WPa P (⟨d, none, op⟩ :: l) K Kp t H := Eq.trans rfl rfl
theorem GdA_tf {op : CO} : GdA P l K Kp t H d op true (.bool false) = WPa P l K Kp (Fr.put t d undefA) H := Eq.trans rfl rfl
theorem GdA_ft {op : CO} : GdA P l K Kp t H d op false (.bool true) = WPa P l K Kp (Fr.put t d undefA) H := Eq.trans rfl rfl
theorem GdA_ff {op : CO} : GdA P l K Kp t H d op false (.bool false) = WPa P (⟨d, none, op⟩ :: l) K Kp t H := Eq.trans rfl rfl
theorem RdA_some {v : AV} : RdA P l K Kp t d H (some v) = WPa P l K Kp (Fr.put t d v) H := Eq.trans rfl rfl
theorem CallA_ret {v : AV} : CallA P l K Kp t d H (.ret v) H = WPa P l K Kp (Fr.put t d v) H := by simp [CallA]
theorem CallA_pan {v : AV} {H' : AHeap} : CallA P l K Kp t d H (.pan v) H' = Kp v H' := Eq.trans rfl rfl
theorem WP_aops {Q : AX → Fr → AHeap → Prop} : WP P (.aops l) Q t H = WPa P l (Q .normal) (fun v H' => Q (.pan v) .leaf H') t H := Eq.trans rfl rfl
end

theorem Fr.put_some (t : Fr) (d : Nat) (v : AV) : Fr.put t (some d) v = T.set t d v := Eq.trans rfl rfl
theorem Fr.put_none (t : Fr) (v : AV) : Fr.put t none v = t := Eq.trans rfl rfl

theorem lenV_slc {H : AHeap} {a : Option (Nat × Nat)} {n : Nat} {c : Nat ⊕ Nat} : lenV H .slc (.slice a n c) = some (.int .i64 n) := Eq.trans rfl rfl
theorem lenV_tail {H : AHeap} {a : Nat × Nat} {x y z : Nat} : lenV H .slc (.tail a x y z) = some (.int .i64 0) := Eq.trans rfl rfl
theorem lenV_str {H : AHeap} {s : ByteArray} : lenV H .str (.str s) = some (.int .i64 s.size) := Eq.trans rfl rfl
theorem iaV_slc {sz n : Nat} {p : Nat × Nat} {c : Nat ⊕ Nat} {k : IntKind} {j : Int} : iaV sz (.slice (some p) n c) (.int k j) = if 0 ≤ j ∧ j < (n : Int) then some (.ptr (some (p.1, p.2 + j.toNat * sz))) else none := Eq.trans rfl rfl

/-- A condition. -/
def CdC (P : Program) (a b : C) (Q : AX → Fr → AHeap → Prop) (t : Fr) (H : AHeap) : AV → Prop
  | .bool true => WP P a Q t H
  | .bool false => WP P b Q t H
  | _ => False
section
variable {P : Program} {Q : AX → Fr → AHeap → Prop} {t : Fr} {H : AHeap}
theorem WP_skip : WP P .skip Q t H = Q .normal t H := Eq.trans rfl rfl
theorem WP_ops {l : List Stp} : WP P (.ops l) Q t H = WPs P l (Q .normal) (fun v H' => Q (.pan v) .leaf H') t H := Eq.trans rfl rfl
theorem WP_seq {a b : C} : WP P (.seq a b) Q t H = WP P a (seqQ (WP P b Q) Q) t H := Eq.trans rfl rfl
theorem WP_block {id : Nat} {b : C} : WP P (.block id b) Q t H = WP P b (blkQ id Q) t H := Eq.trans rfl rfl
theorem WP_rfn {N : Nat} {g : AO} {ps : Array Tmp} {assign body : Code} : WP P (.rfn N g ps assign body) Q t H = RfnV P N ps assign body Q t H (AO.ev t g) := Eq.trans rfl rfl
theorem WP_exit {id : Nat} : WP P (.exit id) Q t H = Q (.exit id) t H := Eq.trans rfl rfl
theorem WP_ret : WP P .ret Q t H = Q .ret t H := Eq.trans rfl rfl
theorem WP_cond {c : AO} {a b : C} : WP P (.cond c a b) Q t H = CdC P a b Q t H (AO.ev t c) := by
  simp only [WP]
  cases AO.ev t c with
  | bool x => cases x <;> simp [CdC]
  | _ => simp [CdC]
theorem CdC_true {a b : C} : CdC P a b Q t H (.bool true) = WP P a Q t H := Eq.trans rfl rfl
theorem CdC_false {a b : C} : CdC P a b Q t H (.bool false) = WP P b Q t H := Eq.trans rfl rfl
theorem CdC_sym {a b : C} {x : Bool} : CdC P a b Q t H (.bool x) = if x = true then WP P a Q t H else WP P b Q t H := by cases x <;> rfl
theorem seqQ_normal {N : Fr → AHeap → Prop} : seqQ N Q .normal t H = N t H := Eq.trans rfl rfl
theorem seqQ_exit {N : Fr → AHeap → Prop} {i : Nat} : seqQ N Q (.exit i) t H = Q (.exit i) t H := Eq.trans rfl rfl
theorem seqQ_ret {N : Fr → AHeap → Prop} : seqQ N Q .ret t H = Q .ret t H := Eq.trans rfl rfl
theorem seqQ_pan {N : Fr → AHeap → Prop} {v : AV} : seqQ N Q (.pan v) t H = Q (.pan v) t H := Eq.trans rfl rfl
theorem blkQ_normal {i : Nat} : blkQ i Q .normal t H = Q .normal t H := Eq.trans rfl rfl
theorem blkQ_exit {i j : Nat} : blkQ i Q (.exit j) t H = if j = i then Q .normal t H else Q (.exit j) t H := Eq.trans rfl rfl
theorem blkQ_ret {i : Nat} : blkQ i Q .ret t H = Q .ret t H := Eq.trans rfl rfl
theorem blkQ_pan {i : Nat} {v : AV} : blkQ i Q (.pan v) t H = Q (.pan v) t H := Eq.trans rfl rfl
/-- A loop: what holds at its head, and what each round lessens. -/
theorem WP_loop {b : C} (I : Fr → AHeap → Prop) (μ : Fr → AHeap → Nat) (h0 : I t H) (h : ∀ t H, I t H → WP P b (seqQ (fun t' H' => I t' H' ∧ μ t' H' < μ t H) Q) t H) : WP P (.loop b) Q t H := ⟨I, μ, h0, h⟩
end

/-! ### a draw's plan -/
def bodyK (res : List RV) (Q : AE → AHeap → Prop) (t : Fr) (H : AHeap) : Option (List AV) → Prop
  | some vs => Q (.ret (tup vs)) H
  | none => False
theorem bodyQ_ret {res : List RV} {Q : AE → AHeap → Prop} {t : Fr} {H : AHeap} : bodyQ res Q .ret t H = bodyK res Q t H (evRVs t H res) := by
  simp only [bodyQ]; cases evRVs t H res <;> simp [bodyK]
theorem bodyQ_normal {res : List RV} {Q : AE → AHeap → Prop} {t : Fr} {H : AHeap} : bodyQ res Q .normal t H = bodyK res Q t H (evRVs t H res) := by
  simp only [bodyQ]; cases evRVs t H res <;> simp [bodyK]
theorem bodyQ_pan {res : List RV} {Q : AE → AHeap → Prop} {t : Fr} {H : AHeap} {v : AV} : bodyQ res Q (.pan v) t H = Q (.pan v) H := Eq.trans rfl rfl
theorem bodyK_some {res : List RV} {Q : AE → AHeap → Prop} {t : Fr} {H : AHeap} {vs : List AV} : bodyK res Q t H (some vs) = Q (.ret (tup vs)) H := Eq.trans rfl rfl

theorem Gc.same {H : AHeap} {Q : AE → AHeap → Prop} {v : AV} {H' : AHeap} (hle : H.Le H') (hv : v.ok H.next) (q : Q (.ret v) H) : Gc H Q (.ret v) H' := .inr (.inl ⟨v, rfl, hle, hv, q⟩)
theorem Gc.row {H : AHeap} {Q : AE → AHeap → Prop} {i n : Nat} {c : Nat ⊕ Nat} {cs : List AV} {room : Option Nat} {H' : AHeap} (hle : H.Le H') (hi : H.next ≤ i) (hg : H'.get i = some (.cells cs room)) (hok : AV.okL H.next cs)
    (q : Q (.ret (.slice (some (H.next, 0)) n c)) (H.alloc (.cells cs room))) : Gc H Q (.ret (.slice (some (i, 0)) n c)) H' := .inr (.inr (.inl ⟨i, n, c, cs, room, rfl, hle, hi, hg, hok, q⟩))
theorem Gc.row2 {H : AHeap} {Q : AE → AHeap → Prop} {i n : Nat} {c : Nat ⊕ Nat} {cs : List AV} {room : Option Nat} {v : AV} {H' : AHeap} (hle : H.Le H') (hi : H.next ≤ i) (hg : H'.get i = some (.cells cs room)) (hok : AV.okL H.next cs) (hv : v.ok H.next)
    (q : Q (.ret (.tuple [.slice (some (H.next, 0)) n c, v])) (H.alloc (.cells cs room))) : Gc H Q (.ret (.tuple [.slice (some (i, 0)) n c, v])) H' := .inr (.inr (.inr ⟨i, n, c, cs, room, v, rfl, hle, hi, hg, hok, hv, q⟩))
theorem Gc.this {H : AHeap} {Q : AE → AHeap → Prop} {x : AE} {H' : AHeap} (q : Q x H') : Gc H Q x H' := .inl q

/-! ### reading the heap -/
def AHeap.WF (H : AHeap) : Prop := H.base ≤ H.next
theorem AHeap.wf_alloc {H : AHeap} {b : Blk} (h : H.WF) : (H.alloc b).WF := by unfold AHeap.WF at *; simp; omega
theorem AHeap.wf_put {H : AHeap} {b : Blk} {i : Nat} (h : H.WF) : (H.put i b).WF := h
theorem AHeap.Le.wf {H H' : AHeap} (hle : H.Le H') (h : H.WF) : H'.WF := by unfold AHeap.WF at *; have := hle.base; have := hle.next; omega
theorem AHeap.lt_new {H : AHeap} {b : Blk} : H.next < (H.alloc b).next := by simp
theorem AHeap.lt_alloc {H : AHeap} {b : Blk} {i : Nat} (h : i < H.next) : i < (H.alloc b).next := by simp; omega
theorem AHeap.Le.lt {H H' : AHeap} (hle : H.Le H') {i : Nat} (h : i < H.next) : i < H'.next := Nat.lt_of_lt_of_le h hle.next
theorem AHeap.base_new {H : AHeap} (h : H.WF) : H.base ≤ H.next := h
theorem AHeap.get_new {H : AHeap} {b : Blk} (hb : H.WF) : (H.alloc b).get H.next = some b := by
  rw [AHeap.get_alloc _ _ _ hb (.inr (.inl rfl)), if_pos rfl]
theorem AHeap.get_old {H : AHeap} {b : Blk} {i : Nat} (hb : H.WF) (hi : i < H.next) : (H.alloc b).get i = H.get i := by
  rw [AHeap.get_alloc _ _ _ hb (.inl hi), if_neg (by omega)]
theorem AHeap.range_of_get {H H' : AHeap} {p : Nat × Nat} {n : Nat} (h : H'.get p.1 = H.get p.1) : H'.range p n = H.range p n := by unfold AHeap.range; rw [h]
theorem AHeap.cell_of_get {H H' : AHeap} {p : Nat × Nat} (h : H'.get p.1 = H.get p.1) : H'.cell p = H.cell p := by unfold AHeap.cell; rw [h]
theorem AHeap.Le.range {H H' : AHeap} (hle : H.Le H') {p : Nat × Nat} {n : Nat} (hp : p.1 < H.next) : H'.range p n = H.range p n := AHeap.range_of_get (hle.get _ hp)
theorem AHeap.Le.cell {H H' : AHeap} (hle : H.Le H') {p : Nat × Nat} (hp : p.1 < H.next) : H'.cell p = H.cell p := AHeap.cell_of_get (hle.get _ hp)
theorem AHeap.cell_of {H : AHeap} {i k : Nat} {cs : List AV} {room : Option Nat} (h : H.get i = some (.cells cs room)) : H.cell (i, k) = cs[k]? := by simp [AHeap.cell, h]
theorem AHeap.range_of {H : AHeap} {i k n : Nat} {cs : List AV} {room : Option Nat} (h : H.get i = some (.cells cs room)) : H.range (i, k) n = if k + n ≤ cs.length then some ((cs.drop k).take n) else none := by simp [AHeap.range, h]
theorem AHeap.cell_new {H : AHeap} (hb : H.WF) {k : Nat} {cs : List AV} {room : Option Nat} : (H.alloc (.cells cs room)).cell (H.next, k) = cs[k]? := AHeap.cell_of (AHeap.get_new hb)
theorem AHeap.range_new {H : AHeap} (hb : H.WF) {k n : Nat} {cs : List AV} {room : Option Nat} : (H.alloc (.cells cs room)).range (H.next, k) n = if k + n ≤ cs.length then some ((cs.drop k).take n) else none := AHeap.range_of (AHeap.get_new hb)
theorem AHeap.cell_old {H : AHeap} (hb : H.WF) {p : Nat × Nat} {b : Blk} (h : p.1 < H.next) : (H.alloc b).cell p = H.cell p := AHeap.cell_of_get (AHeap.get_old hb h)
theorem AHeap.range_old {H : AHeap} (hb : H.WF) {p : Nat × Nat} {n : Nat} {b : Blk} (h : p.1 < H.next) : (H.alloc b).range p n = H.range p n := AHeap.range_of_get (AHeap.get_old hb h)
theorem AHeap.Le.new {H : AHeap} (hb : H.WF) {b : Blk} : H.Le (H.alloc b) := AHeap.Le.alloc H b hb
theorem AHeap.Le.alloc' {H0 H : AHeap} (h : H0.Le H) (hb : H0.WF) {b : Blk} : H0.Le (H.alloc b) := h.trans (AHeap.Le.alloc H b (h.wf hb))
theorem AHeap.Le.put' {H0 H : AHeap} (h : H0.Le H) {i : Nat} {b : Blk} (hb : H0.WF) (hi : H0.next ≤ i) (hn : i < H.next) : H0.Le (H.put i b) :=
  ⟨h.base, h.next, fun j hj => by unfold AHeap.WF at hb; rw [AHeap.get_put _ _ _ _ (by rw [h.base]; omega) hn, if_neg (by omega)]; exact h.get j hj⟩
theorem T.setF_setF {α : Type} : ∀ (f : Nat) (t : T α) (i : Nat) (x y : α), i < f → T.setF f (T.setF f t i x) i y = T.setF f t i y
  | 0, _, _, _, _, h => absurd h (by omega)
  | f + 1, t, i, x, y, h => by
    by_cases hi : i = 0
    · subst hi; cases t <;> simp [T.setF]
    · have ih := fun t => T.setF_setF f t ((i - 1) / 2) x y (by omega)
      by_cases hp : (i - 1) % 2 = 0
      · cases t <;> simp [T.setF, hi, hp, ih]
      · cases t <;> simp [T.setF, hi, hp, ih]
/-- A new block is laid anew. -/
theorem AHeap.put_new {H : AHeap} (b c : Blk) : (H.alloc b).put H.next c = H.alloc c := by
  unfold AHeap.put AHeap.alloc T.set
  simp only
  rw [T.setF_setF _ _ _ _ _ (by omega)]
theorem AHeap.range_part {H : AHeap} {a o n off m : Nat} {cs : List AV} (h : H.range (a, o) n = some cs) (hle : off + m ≤ n) : H.range (a, o + off) m = some ((cs.drop off).take m) := by
  unfold AHeap.range at h ⊢
  simp only at h ⊢
  split at h
  · split at h
    · cases h
      rename_i cs' _ _ _
      rw [if_pos (by omega)]
      congr 1
      rw [List.drop_take, List.drop_drop, List.take_take, Nat.min_eq_left (by omega)]
    · cases h
  · cases h
theorem AHeap.cell_part {H : AHeap} {a o n off : Nat} {cs : List AV} (h : H.range (a, o) n = some cs) (hle : off < n) : H.cell (a, o + off) = cs[off]? := by
  unfold AHeap.range at h
  unfold AHeap.cell
  simp only at h ⊢
  split at h
  · rename_i cs' r hg
    split at h
    · cases h
      rw [List.getElem?_take, if_pos hle, List.getElem?_drop]
    · cases h
  · cases h

theorem WrA_new {P : Program} {l : List Stp} {K : Fr → AHeap → Prop} {Kp : AV → AHeap → Prop} {t : Fr} {H : AHeap} {d : Option Nat} {v : AV} {b : Blk} (hb : H.WF) : WrA P l K Kp t d H (some (v, H.alloc b)) = WPa P l K Kp (Fr.put t d v) (H.alloc b) := WrA_le (.new hb) hb
theorem CallA_new {P : Program} {l : List Stp} {K : Fr → AHeap → Prop} {Kp : AV → AHeap → Prop} {t : Fr} {H : AHeap} {d : Option Nat} {v : AV} {b : Blk} (hb : H.WF) : CallA P l K Kp t d H (.ret v) (H.alloc b) = WPa P l K Kp (Fr.put t d v) (H.alloc b) := CallA_le (.new hb) hb

/-- A call, by its function's code; what it leaves behind may be forgotten. -/
theorem ACall.comp (ord : List (Nat × List Sk)) {P : Program} (hm : P.follows .mixedOrders = true) {f : FuncId} {args : List AV} {H : AHeap} {Q : AE → AHeap → Prop} (hs : okF ord P f = true)
    (h : ∀ F, some F = compF2 ord P f → args.length ≤ F.ntmps ∧ (H.WF → AV.okL H.next args → WP P F.body (bodyQ F.res (Gc H Q)) (Fr.ofArgs args) H)) : ACall P f args H Q :=
  ACall.gc (ACall.walk ord hm hs fun F hF => h F hF.symm)

theorem CallV_yield {P : Program} {args : List AV} {H : AHeap} {Q : AE → AHeap → Prop} {l : Nat} : CallV P args H Q (.yield l) = AYield P l args H fun v H' => Q (.ret v) H' := Eq.trans rfl rfl
section
variable {P : Program} {N : Nat} {ps : Array Tmp} {assign body : Code} {Q : AX → Fr → AHeap → Prop} {t : Fr} {H : AHeap} {K : Fr → AHeap → Prop} {l : Nat} {R : AV → AHeap → Prop}
theorem RfnV_func {gf : FuncId} {first cap : List AV} : RfnV P N ps assign body Q t H (.func (.func gf) first cap) = ACall P gf (first ++ [.yield H.next] ++ cap) (H.alloc (.loop .ready none N t ps assign body)) (RfnQ Q t H.next) := Eq.trans rfl rfl
theorem rndA_normal : rndA K .normal t H = K t H := Eq.trans rfl rfl
theorem rndQ_normal : rndQ l N t ps assign body R .normal = fun _ H' => R (.bool true) (H'.put l (.loop .ready none N t ps assign body)) := Eq.trans rfl rfl
theorem rndQ_ret : rndQ l N t ps assign body R .ret = fun _ H' => R (.bool false) (H'.put l (.loop .done (some .ret) N t ps assign body)) := Eq.trans rfl rfl
theorem rndQ_exit {id : Nat} : rndQ l N t ps assign body R (.exit id) = fun _ H' => R (.bool false) (H'.put l (.loop .done (some (.exit id)) N t ps assign body)) := Eq.trans rfl rfl
/-- A round that was left off its end, or none was: on behind the statement. -/
theorem RfnQ_ready {v : AV} {t' : Fr} {N' : Nat} {ps' : Array Tmp} {as' bd' : Code} (hg : H.get l = some (.loop .ready none N' t' ps' as' bd')) (q : Q .normal t (H.put l .dead)) : RfnQ Q t l (.ret v) H := by
  simp only [RfnQ, hg]; exact ⟨by simp, q⟩
theorem RfnQ_ret {v : AV} {t' : Fr} {N' : Nat} {ps' : Array Tmp} {as' bd' : Code} (hg : H.get l = some (.loop .done (some .ret) N' t' ps' as' bd')) (q : Q .ret t (H.put l .dead)) : RfnQ Q t l (.ret v) H := by
  simp only [RfnQ, hg]; exact ⟨by simp, q⟩
theorem RfnQ_exit {v : AV} {id : Nat} {t' : Fr} {N' : Nat} {ps' : Array Tmp} {as' bd' : Code} (hg : H.get l = some (.loop .done (some (.exit id)) N' t' ps' as' bd')) (q : Q (.exit id) t (H.put l .dead)) : RfnQ Q t l (.ret v) H := by
  simp only [RfnQ, hg]; exact ⟨by simp, q⟩
end
/-- A map that is gone through by no one. -/
theorem ANext_nil {H : AHeap} {K : AV → AHeap → Prop} {i since : Nat} {seen : List Nat} {last : Nat} (hg : H.get i = some (.mapIter none since seen last)) (hk : K (.tuple [.bool false]) H) : ANext H K (.ptr (some (i, 0))) := by
  simp only [ANext, hg]; exact hk
/-- A map of one's own all of whose entries were there when the iterator began: what is left of it. -/
theorem ANext_map {H : AHeap} {K : AV → AHeap → Prop} {i m since : Nat} {seen : List Nat} {last clock : Nat} {es : List (AV × AV × Nat)} (hg : H.get i = some (.mapIter (some m) since seen last)) (hm : H.get m = some (.map es clock)) (hb : H.base ≤ i)
    (hold : ∀ e ∈ es, e.2.2 < since ∧ e.2.2 < last)
    (hend : (es.filter fun e => !seen.contains e.2.2) = [] → K (.tuple [.bool false]) H)
    (hstep : ∀ e ∈ es.filter (fun e => !seen.contains e.2.2), K (.tuple [.bool true, e.1, e.2.1]) (H.put i (.mapIter (some m) since (seen ++ [e.2.2]) clock))) : ANext H K (.ptr (some (i, 0))) := by
  simp only [ANext, hg, hm]
  refine ⟨hb, ?_, fun h => hend ?_, hstep⟩
  · cases es with
    | nil => simp
    | cons e es =>
      have := (hold e List.mem_cons_self).2
      simp [show ¬ last ≤ e.2.2 by omega]
  · rw [← h]
    refine (List.filter_eq_self.2 fun e he => ?_).symm
    simpa using (hold e (List.mem_filter.1 he).1).1

/-- One round, by its code. -/
theorem AYield.comp (ord : List (Nat × List Sk)) {P : Program} (hm : P.follows .mixedOrders = true) {N : Nat} {ps : Array Tmp} {assign body : Code} {l : Nat} {args : List AV} {H : AHeap} {t : Fr} {pend : Option Code} {Q : AV → AHeap → Prop}
    (hg : H.get l = some (.loop .ready pend N t ps assign body)) (hs : okR ord P N ps assign body = true) (hb : H.base ≤ l) (hlen : ps.toList.length = args.length)
    (h : ∀ xa xb, some xa = compC2 ord P N assign → some xb = compC2 ord P N body → WP P xa (rndA (WP P xb (rndQ l N t ps assign body Q))) (bindPs t ps.toList args) (H.put l .dead)) : AYield P l args H Q :=
  AYield.walk ord hm hg hs hb hlen h
end Go.AM
