/- The abstract machine, part S: where a row's call begins: the world that is given, as a heap that is only read; and where it ends. Of no program. -/
import Derived.Test.YthjeldlbjhjgfaaGreatAmO
import Derived.ChangeSlices
import Derived.OpenShut
import Derived.WideShapes
namespace Go.AM
open Go.RowKit Go.WideShapes
set_option linter.unusedSimpArgs false
set_option linter.unusedVariables false

/-- A given value, as the machine knows it. -/
def absV (n : Nat) : Value → AV
  | .int k z => .int k z
  | .string s => .str s
  | .bool b => .bool b
  | .slice none l c => .slice none l (.inl c)
  | .slice (some a) l c => if a.block < n ∧ a.spot = none then .slice (some (a.block, a.off)) l (.inl c) else .raw (.slice (some a) l c)
  | .pointer none => .ptr none
  | .pointer (some a) => if a.block < n ∧ a.spot = none then .ptr (some (a.block, a.off)) else .raw (.pointer (some a))
  | .map none => .map none
  | .map (some r) => if r < n then .map (some r) else .raw (.map (some r))
  | .nilFunc => .nilFunc
  | .nilIface => .nilIface
  | v => .raw v
def th0 : Th := ⟨fun i => i, fun _ => 0, fun _ => 0⟩
theorem th0_addr (b o : Nat) : th0.addr (b, o) = ⟨b, o, none⟩ := by simp [Th.addr, th0]
theorem absV_inst (n : Nat) (v : Value) : (absV n v).inst th0 = v := by
  cases v with
  | slice a l c =>
    cases a with
    | none => rfl
    | some a =>
      simp only [absV]
      split
      · rename_i h
        obtain ⟨b, o, s⟩ := a
        simp only at h
        obtain ⟨_, rfl⟩ := h
        simp [AV.inst, th0_addr, capOf]
      · rfl
  | pointer a =>
    cases a with
    | none => rfl
    | some a =>
      simp only [absV]
      split
      · rename_i h
        obtain ⟨b, o, s⟩ := a
        simp only at h
        obtain ⟨_, rfl⟩ := h
        simp [AV.inst, th0_addr]
      · rfl
  | map r =>
    cases r with
    | none => rfl
    | some r =>
      simp only [absV]
      split <;> rfl
  | _ => rfl
theorem absV_ok (n : Nat) (v : Value) : (absV n v).ok n := by
  cases v with
  | slice a l c =>
    cases a with
    | none => trivial
    | some a =>
      simp only [absV]
      split
      · rename_i h; exact h.1
      · trivial
  | pointer a =>
    cases a with
    | none => trivial
    | some a =>
      simp only [absV]
      split
      · rename_i h; exact h.1
      · trivial
  | map r =>
    cases r with
    | none => trivial
    | some r =>
      simp only [absV]
      split
      · rename_i h; exact h
      · trivial
  | _ => trivial
def absB (n : Nat) : Option Obj → Option Blk
  | some (.cells c _ _) => some (.cells (c.toList.map (absV n)) none)
  | _ => none
/-- The world that is given, as a heap. -/
def absH (W : World) : AHeap := { base := W.heap.size, ext := fun i => absB W.heap.size W.heap[i]?, tr := .leaf, next := W.heap.size }
theorem absH_get (W : World) (i : Nat) : (absH W).get i = absB W.heap.size W.heap[i]? := by
  unfold AHeap.get absH
  simp only
  by_cases h : i < W.heap.size
  · rw [if_pos h]
  · rw [if_neg h, if_neg h, Array.getElem?_eq_none (by omega)]; rfl
theorem absOwn (W : World) : Own ⟨W, fun _ => none⟩ th0 (absH W) W := by
  refine ⟨Below.refl _ _, Nat.le_refl _, Nat.le_refl _, fun i b hg hl => ?_, fun i j b c _ _ _ _ he => he, fun k o hk => (by cases hk), fun _ _ _ _ => rfl⟩
  rw [absH_get] at hg
  have hi : i < W.heap.size := by
    rcases Nat.lt_or_ge i W.heap.size with h | h
    · exact h
    · rw [Array.getElem?_eq_none h] at hg; cases hg
  unfold absB at hg
  split at hg
  · rename_i c e f ho
    cases hg
    refine ⟨hi, rfl, ⟨c, e, f, ho, fun j v hj => ?_, ?_⟩, ?_, fun hb => absurd hb (by show ¬ W.heap.size ≤ i; omega)⟩
    · rw [List.getElem?_map] at hj
      cases hc : c.toList[j]? with
      | none => rw [hc] at hj; cases hj
      | some u =>
        rw [hc] at hj; cases hj
        rw [absV_inst, ← hc]; simp
    · simp
    · show AV.okL _ _
      rw [AV.okL_iff]
      intro v hv
      obtain ⟨u, _, rfl⟩ := List.mem_map.1 hv
      exact absV_ok _ _
  · cases hg
theorem absWF (W : World) : (absH W).WF := Nat.le_refl _

theorem ACall.start {P : Program} {f : FuncId} {args : List AV} {vs : Array Value} {W : World} (h : ACall P f args (absH W) fun y _ => y = .ret (.bool true)) (hok : AV.okL W.heap.size args) (hvs : (AV.instL th0 args).toArray = vs) :
    Calls P f vs W fun e W' => e = .returned (.bool true) ∧ Below W.heap.size W W' := by
  rw [← hvs]
  refine (h.2 ⟨W, fun _ => none⟩ th0 W (absOwn W) hok).mono fun e W' hq => ?_
  obtain ⟨x, H', θ', rfl, hp, hx, _⟩ := hq
  refine ⟨hx, ?_⟩
  exact hp.own.below

/-- A call that is told nothing of the heap, and tells nothing of it, comes to the same on every heap. -/
def noH : AHeap := { base := 0, ext := fun _ => none, tr := .leaf, next := 0 }
theorem noH_own (w : World) (θ : Th) : Own ⟨w, fun _ => none⟩ θ noH w :=
  ⟨Below.refl _ _, Nat.le_refl _, Nat.le_refl _, fun i b hg _ => (by simp [AHeap.get, noH] at hg), fun i j b c hg _ _ _ _ => (by simp [AHeap.get, noH] at hg), fun k o hk => (by cases hk), fun i b hg _ => (by simp [AHeap.get, noH] at hg)⟩
theorem ACall.closed {P : Program} {f : FuncId} {args : List AV} {v : AV} (h : ACall P f args noH fun y _ => y = .ret v) (ha : AV.okL 0 args) (hv : v.ok 0) {H : AHeap} {Q : AE → AHeap → Prop} (q : Q (.ret v) H) : ACall P f args H Q := by
  refine ⟨h.1, fun W0 θ w hown _ => ?_⟩
  refine (h.2 ⟨w, fun _ => none⟩ θ w (noH_own w θ) ha).mono fun e w' hq => ?_
  obtain ⟨x, H', θ', rfl, hp, he, _⟩ := hq
  have hbel := hp.own.below
  refine ⟨.ret v, H, θ, q, ⟨Th.Ext.refl _ _, Nat.le_refl _, rfl, ?_⟩, ?_, AV.ok_mono (Nat.zero_le _) v hv⟩
  · refine ⟨hown.below.trans (hbel.mono hown.size), Nat.le_trans hown.size hbel.size, hown.next, fun i b hg hl => ?_, hown.inj, fun k o hk => ?_, hown.apart⟩
    · obtain ⟨h1, h2, h3, h4, h5⟩ := hown.live i b hg hl
      have := hbel.block _ (hown.lt hg hl)
      exact ⟨h1, h2, by rw [this]; exact h3, h4, fun hb => by rw [this]; exact h5 hb⟩
    · have h0 := hown.guard k o hk
      rw [hbel.block _ (Array.getElem?_eq_some_iff.1 h0).1]; exact h0
  · have hext : Th.Ext 0 θ θ' := fun i hi => absurd hi (by omega)
    rw [← AV.inst_ext hext v hv]; exact he

/-! ### a cell, and cells in a row, of the world that is given -/
theorem abs_cell {W : World} {b o : Nat} {v : Value} (h : W.cell? ⟨b, o, none⟩ = some v) : (absH W).cell (b, o) = some (absV W.heap.size v) := by
  unfold World.cell? at h
  simp only at h
  split at h
  · rename_i c e f hc
    simp only [Option.isSome_none, Bool.false_eq_true, if_false] at h
    unfold AHeap.cell
    rw [absH_get, hc]
    simp only [absB, List.getElem?_map]
    rw [Array.getElem?_toList, h]; rfl
  · cases h
/-- Whether a row has places from off on. -/
theorem rowAt_le (p : Program) (fits : TypeId → Bool) : ∀ (d : Nat) (e : TypeId) (count off n : Nat), rowAt p fits d e count off n = true → off ≤ count * p.cellsOf e
  | 0, _, _, _, _, h => by simp [rowAt] at h
  | d + 1, e, count, off, n, h => by
    unfold rowAt at h
    simp only at h
    split at h
    · cases h
    · rename_i hs
      have hdm := Nat.div_add_mod off (p.cellsOf e)
      have hpos : 0 < p.cellsOf e := Nat.pos_of_ne_zero hs
      have hlt := Nat.mod_lt off hpos
      have key : ∀ i, i * p.cellsOf e = p.cellsOf e * i := fun i => Nat.mul_comm _ _
      rw [Bool.or_eq_true] at h
      rcases h with h | h
      · simp only [Bool.and_eq_true, beq_iff_eq, decide_eq_true_eq] at h
        have : off / p.cellsOf e ≤ count := by omega
        have := Nat.mul_le_mul_right (p.cellsOf e) this
        rw [key] at this
        omega
      · rw [Bool.and_eq_true] at h
        have h1 : off / p.cellsOf e + 1 ≤ count := of_decide_eq_true h.1
        have := Nat.mul_le_mul_right (p.cellsOf e) h1
        rw [Nat.add_mul, key] at this
        omega
theorem liesAt_le (p : Program) : ∀ (d : Nat) (e : TypeId) (count off : Nat) (u : TypeId) (n : Nat), liesAt p d e count off u n = true → off ≤ count * p.cellsOf e
  | 0, _, _, _, _, _, h => by simp [liesAt] at h
  | d + 1, e, count, off, u, n, h => by
    unfold liesAt at h
    rw [Bool.or_eq_true] at h
    rcases h with h | h
    · exact rowAt_le p _ _ _ _ _ _ h
    · split at h
      · exact liesAt_le p d e count off _ _ h
      · cases h
/-- A slice that is given lies in a block that is given. -/
theorem abs_slice {P : Program} {W : World} {base : Nat} {t e : TypeId} (ht : P.underlying t = some (.slice e)) {v : Value} (h : Value.okWide P W .any base t v) :
    v = .slice none 0 0 ∨ ∃ b o len cap, v = .slice (some ⟨b, o, none⟩) len cap ∧ len ≤ cap ∧ b < W.heap.size ∧ ∃ cs, (absH W).get b = some (.cells cs none) ∧ o ≤ cs.length := by
  obtain ⟨a, len, cap, rfl⟩ := okWide_slice ht h
  simp only [Value.okWide, ht, Cell.okWide] at h
  simp only [Cell.ok, ht] at h
  cases a with
  | none =>
    left
    split at h <;> simp_all
  | some a =>
    right
    obtain ⟨h1, _, _, hs, row, cells, hsh, hl⟩ := h
    obtain ⟨b, o, sp⟩ := a
    simp only at hs
    subst hs
    refine ⟨b, o, len, cap, rfl, h1, ?_⟩
    unfold World.shape? at hsh
    simp only at hsh
    split at hsh
    · rename_i c el f hc
      cases hsh
      refine ⟨?_, c.toList.map (absV W.heap.size), by rw [absH_get, hc]; rfl, ?_⟩
      · rcases Nat.lt_or_ge b W.heap.size with h | h
        · exact h
        · rw [Array.getElem?_eq_none h] at hc; cases hc
      · have := liesAt_le P _ _ _ _ _ _ hl
        have h2 := Nat.div_mul_le_self c.size (P.cellsOf row)
        simp only at this
        simp
        omega
    · cases hsh

/-- Cells in a row, out of the cells. -/
theorem range_of_cells {H : AHeap} {p : Nat × Nat} {cs : List AV} {room : Option Nat} (hg : H.get p.1 = some (.cells cs room)) (ho : p.2 ≤ cs.length) {l : List AV} (h : ∀ i (hi : i < l.length), H.cell (p.1, p.2 + i) = some l[i]) :
    H.range p l.length = some l := by
  have hc : ∀ i (hi : i < l.length), cs[p.2 + i]? = some l[i] := fun i hi => by
    have := h i hi
    unfold AHeap.cell at this
    rw [hg] at this
    exact this
  have hle : p.2 + l.length ≤ cs.length := by
    rcases Nat.eq_zero_or_pos l.length with h0 | h0
    · omega
    · have := hc (l.length - 1) (by omega)
      have := (List.getElem?_eq_some_iff.1 this).1
      omega
  unfold AHeap.range
  rw [hg]
  simp only [if_pos hle]
  congr 1
  refine List.ext_getElem (by simp; omega) fun i h1 h2 => ?_
  have := hc i h2
  rw [List.getElem?_eq_some_iff] at this
  obtain ⟨h3, h4⟩ := this
  simp [h4]

/-- A list out of its members. -/
theorem list_of {α : Type} (pr : Nat → α → Prop) : ∀ n, (∀ i, i < n → ∃ x, pr i x) → ∃ l : List α, l.length = n ∧ ∀ i (hi : i < l.length), pr i l[i]
  | 0, _ => ⟨[], rfl, fun i hi => absurd hi (by simp)⟩
  | n + 1, h => by
    obtain ⟨l, hl, hp⟩ := list_of pr n fun i hi => h i (by omega)
    obtain ⟨x, hx⟩ := h n (by omega)
    refine ⟨l ++ [x], by simp [hl], fun i hi => ?_⟩
    simp only [List.length_append, List.length_cons, List.length_nil] at hi
    by_cases e : i < l.length
    · rw [List.getElem_append_left e]; exact hp i e
    · have : i = l.length := by omega
      subst this
      rw [List.getElem_append_right (Nat.le_refl _)]
      simp [hl, hx]

/-- What the elements of a slice that reads as data are read off. -/
theorem trod_elems {H : Type} {enc : TypeId × Value → H} {P : Program} {W : World} {t e : TypeId} (ht : P.underlying t = some (.slice e)) {b o len cap : Nat} {d : DataW H} {ps : List MemPlace}
    (h : DataW.Trod enc P W 0 (fun _ => true) true t (.slice (some ⟨b, o, none⟩) len cap) d ps) :
    ∀ i, i < len → ∃ cs y n, cs.length = P.cellsOf e ∧ (∀ j (hj : j < cs.length), W.cell? ⟨b, o + i * P.cellsOf e + j, none⟩ = some cs[j]) ∧ DataW.trod enc P W 0 (fun _ => true) true n e cs = some y := by
  obtain ⟨fuel, hf⟩ := h
  intro i hi
  rcases DataW.trod_slice ht hf with ⟨hcs, _⟩ | ⟨a, len', cap', elems, rest, n, _, hcs, _, _, _, _, hel, hg, _⟩
  · simp [Value.cells] at hcs
  · simp [Value.cells] at hcs
    obtain ⟨rfl, rfl, rfl⟩ := hcs
    have h1 := hg i hi
    rw [List.getElem?_eq_getElem (show i < elems.length by omega)] at h1
    cases hc : W.cells? 0 ((⟨b, o, none⟩ : Addr).add (i * P.cellsOf e)) (P.cellsOf e) with
    | none => rw [hc] at h1; cases h1
    | some cs =>
      rw [hc] at h1
      obtain ⟨_, h2, h3⟩ := World.cells?_some hc
      refine ⟨cs, _, n, h2, fun j hj => ?_, h1⟩
      have := h3 j (by omega)
      rw [Addr.add_lit, Addr.add_lit] at this
      rw [this]; simp
end Go.AM
