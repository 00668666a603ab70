/- The abstract machine, part A: abstract values, the abstract heap, and how they lie in a world. Of no program. -/
import Derived.Below
import Derived.OrdersHeld
import Derived.Tactics
import Derived.Laws.Cells
import Derived.Laws.Entries
import Derived.Laws.Sem
namespace Go.AM
open Go.RowKit

/-! ### a map by numbers -/
inductive T (α : Type) where
  | leaf
  | node (v : Option α) (l r : T α)

namespace T
variable {α : Type}
def get : T α → Nat → Option α
  | .leaf, _ => none
  | .node v l r, i => if i = 0 then v else if (i - 1) % 2 = 0 then l.get ((i - 1) / 2) else r.get ((i - 1) / 2)
def setF : Nat → T α → Nat → α → T α
  | 0, t, _, _ => t
  | f + 1, t, i, x =>
    match t with
    | .leaf => if i = 0 then .node (some x) .leaf .leaf else if (i - 1) % 2 = 0 then .node none (setF f .leaf ((i - 1) / 2) x) .leaf else .node none .leaf (setF f .leaf ((i - 1) / 2) x)
    | .node v l r => if i = 0 then .node (some x) l r else if (i - 1) % 2 = 0 then .node v (setF f l ((i - 1) / 2) x) r else .node v l (setF f r ((i - 1) / 2) x)
def set (t : T α) (i : Nat) (x : α) : T α := setF (i + 1) t i x
@[simp] theorem get_leaf (i : Nat) : (T.leaf : T α).get i = none := rfl
theorem get_setF : ∀ (f : Nat) (t : T α) (i j : Nat) (x : α), i < f → (setF f t i x).get j = if j = i then some x else t.get j
  | 0, _, _, _, _, h => absurd h (by omega)
  | f + 1, t, i, j, x, h => by
    have ihd : ∀ (t : T α) (j : Nat), i ≠ 0 → (setF f t ((i - 1) / 2) x).get j = if j = (i - 1) / 2 then some x else t.get j :=
      fun t j hi => get_setF f t _ j x (by omega)
    cases t with
    | leaf =>
      simp only [setF]
      by_cases hi : i = 0
      · subst hi
        simp only [if_true]
        by_cases hj : j = 0
        · simp [hj, get]
        · simp [hj, get]
      · simp only [hi, if_false]
        by_cases hp : (i - 1) % 2 = 0
        · simp only [hp, if_true, get]
          by_cases hj : j = 0
          · subst hj; rw [if_pos rfl, if_neg (by omega)]
          · simp only [hj, if_false]
            by_cases hq : (j - 1) % 2 = 0
            · simp only [hq, if_true, ihd _ _ hi]
              by_cases e : j = i
              · subst e; simp
              · rw [if_neg (by omega), if_neg e]; rfl
            · simp only [hq, if_false]
              rw [if_neg (by intro e; subst e; exact hq hp)]
        · simp only [hp, if_false, get]
          by_cases hj : j = 0
          · subst hj; rw [if_pos rfl, if_neg (by omega)]
          · simp only [hj, if_false]
            by_cases hq : (j - 1) % 2 = 0
            · simp only [hq, if_true]
              rw [if_neg (by intro e; subst e; exact hp hq)]
            · simp only [hq, if_false, ihd _ _ hi]
              by_cases e : j = i
              · subst e; simp
              · rw [if_neg (by omega), if_neg e]; rfl
    | node v l r =>
      simp only [setF]
      by_cases hi : i = 0
      · subst hi
        simp only [if_true, get]
        by_cases hj : j = 0 <;> simp [hj]
      · simp only [hi, if_false]
        by_cases hp : (i - 1) % 2 = 0
        · simp only [hp, if_true, get]
          by_cases hj : j = 0
          · subst hj; rw [if_pos rfl, if_neg (by omega), if_pos rfl]
          · simp only [hj, if_false]
            by_cases hq : (j - 1) % 2 = 0
            · simp only [hq, if_true, ihd _ _ hi]
              by_cases e : j = i
              · subst e; simp
              · rw [if_neg (by omega), if_neg e]
            · simp only [hq, if_false]
              rw [if_neg (by intro e; subst e; exact hq hp)]
        · simp only [hp, if_false, get]
          by_cases hj : j = 0
          · subst hj; rw [if_pos rfl, if_neg (by omega), if_pos rfl]
          · simp only [hj, if_false]
            by_cases hq : (j - 1) % 2 = 0
            · simp only [hq, if_true]
              rw [if_neg (by intro e; subst e; exact hp hq)]
            · simp only [hq, if_false, ihd _ _ hi]
              by_cases e : j = i
              · subst e; simp
              · rw [if_neg (by omega), if_neg e]
theorem get_set (t : T α) (i j : Nat) (x : α) : (t.set i x).get j = if j = i then some x else t.get j := get_setF _ _ _ _ _ (by omega)
end T

/-! ### values -/
inductive AV where
  | bool (b : Bool)
  | int (k : IntKind) (n : Int)
  | str (s : ByteArray)
  | ptr (a : Option (Nat × Nat))
  | slice (a : Option (Nat × Nat)) (len : Nat) (cap : Nat ⊕ Nat)
  | map (r : Option Nat)
  | func (fn : Fn) (first captured : List AV)
  | nilFunc
  | iface (t : TypeId) (v : AV)
  | nilIface
  | agg (cells : List AV)
  | tuple (vs : List AV)
  | tail (a : Nat × Nat) (len sz k : Nat)
  | raw (v : Value)
  | yield (l : Nat)

/-- Where an id lies: its block, its first cell, how many elements there is room for. -/
structure Th where
  blk : Nat → Nat
  off : Nat → Nat
  cap : Nat → Nat

def Th.addr (θ : Th) (a : Nat × Nat) : Addr := ⟨θ.blk a.1, θ.off a.1 + a.2, none⟩

def capOf (θ : Th) : Option (Nat × Nat) → Nat ⊕ Nat → Nat
  | _, .inl c => c
  | some a, .inr k => θ.cap a.1 - k
  | none, .inr _ => 0

mutual
def AV.inst (θ : Th) : AV → Value
  | .bool b => .bool b
  | .int k n => .int k n
  | .str s => .string s
  | .ptr a => .pointer (a.map θ.addr)
  | .slice a n c => .slice (a.map θ.addr) n (capOf θ a c)
  | .map r => .map (r.map θ.blk)
  | .func fn first captured => .func fn (AV.instL θ first).toArray (AV.instL θ captured).toArray
  | .nilFunc => .nilFunc
  | .iface t v => .iface t (v.inst θ)
  | .nilIface => .nilIface
  | .agg cs => .agg (AV.instL θ cs).toArray
  | .tuple vs => .tuple (AV.instL θ vs).toArray
  | .tail a len sz k => .slice (some (if θ.cap a.1 - k = len then θ.addr a else θ.addr (a.1, a.2 + len * sz))) 0 (θ.cap a.1 - k - len)
  | .raw v => v
  | .yield l => .func (.yield (θ.blk l)) #[] #[]
def AV.instL (θ : Th) : List AV → List Value
  | [] => []
  | v :: r => v.inst θ :: AV.instL θ r
end

mutual
def AV.ok (n : Nat) : AV → Prop
  | .ptr (some a) => a.1 < n
  | .slice (some a) _ _ => a.1 < n
  | .map (some r) => r < n
  | .func _ first captured => AV.okL n first ∧ AV.okL n captured
  | .iface _ v => v.ok n
  | .agg cs => AV.okL n cs
  | .tuple vs => AV.okL n vs
  | .tail a _ _ _ => a.1 < n
  | .yield l => l < n
  | _ => True
def AV.okL (n : Nat) : List AV → Prop
  | [] => True
  | v :: r => v.ok n ∧ AV.okL n r
end

theorem AV.instL_eq (θ : Th) : ∀ l, AV.instL θ l = l.map (AV.inst θ)
  | [] => rfl
  | v :: r => by simp [AV.instL, AV.instL_eq θ r]
theorem AV.okL_iff (n : Nat) : ∀ l, AV.okL n l ↔ ∀ v ∈ l, v.ok n
  | [] => by simp [AV.okL]
  | v :: r => by simp [AV.okL, AV.okL_iff n r]

/-- Two maps that agree on the ids below n. -/
def Th.Ext (n : Nat) (θ θ' : Th) : Prop := ∀ i, i < n → θ'.blk i = θ.blk i ∧ θ'.off i = θ.off i ∧ θ'.cap i = θ.cap i
theorem Th.Ext.refl (n : Nat) (θ : Th) : Th.Ext n θ θ := fun _ _ => ⟨rfl, rfl, rfl⟩
theorem Th.Ext.trans {n m : Nat} {a b c : Th} (h : Th.Ext n a b) (h' : Th.Ext m b c) (hle : n ≤ m) : Th.Ext n a c := fun i hi =>
  have ⟨x, y, z⟩ := h i hi
  have ⟨x', y', z'⟩ := h' i (Nat.lt_of_lt_of_le hi hle)
  ⟨x'.trans x, y'.trans y, z'.trans z⟩
theorem Th.Ext.mono {n m : Nat} {a b : Th} (h : Th.Ext n a b) (hle : m ≤ n) : Th.Ext m a b := fun i hi => h i (Nat.lt_of_lt_of_le hi hle)

mutual
theorem AV.inst_ext {n : Nat} {θ θ' : Th} (he : Th.Ext n θ θ') : ∀ v : AV, v.ok n → v.inst θ' = v.inst θ
  | .bool _, _ => rfl
  | .int _ _, _ => rfl
  | .str _, _ => rfl
  | .ptr none, _ => rfl
  | .ptr (some a), h => by have ⟨x, y, _⟩ := he a.1 h; simp [AV.inst, Th.addr, x, y]
  | .slice none _ c, _ => by cases c <;> rfl
  | .slice (some a) _ c, h => by
    have ⟨x, y, z⟩ := he a.1 h
    cases c <;> simp [AV.inst, Th.addr, capOf, x, y, z]
  | .map none, _ => rfl
  | .map (some r), h => by have ⟨x, _, _⟩ := he r h; simp [AV.inst, x]
  | .func _ first captured, h => by
    have ⟨h1, h2⟩ : AV.okL n first ∧ AV.okL n captured := h
    simp only [AV.inst, AV.instL_ext he first h1, AV.instL_ext he captured h2]
  | .nilFunc, _ => rfl
  | .iface _ v, h => by have h1 : v.ok n := h; simp only [AV.inst, AV.inst_ext he v h1]
  | .nilIface, _ => rfl
  | .agg cs, h => by have h1 : AV.okL n cs := h; simp only [AV.inst, AV.instL_ext he cs h1]
  | .tuple vs, h => by have h1 : AV.okL n vs := h; simp only [AV.inst, AV.instL_ext he vs h1]
  | .tail a _ _ _, h => by have ⟨x, y, z⟩ := he a.1 h; simp [AV.inst, Th.addr, x, y, z]
  | .raw _, _ => rfl
  | .yield l, h => by have ⟨x, _, _⟩ := he l h; simp [AV.inst, x]
theorem AV.instL_ext {n : Nat} {θ θ' : Th} (he : Th.Ext n θ θ') : ∀ l : List AV, AV.okL n l → AV.instL θ' l = AV.instL θ l
  | [], _ => rfl
  | v :: r, h => by
    have ⟨h1, h2⟩ : v.ok n ∧ AV.okL n r := h
    simp only [AV.instL, AV.inst_ext he v h1, AV.instL_ext he r h2]
end
mutual
theorem AV.ok_mono {n m : Nat} (hle : n ≤ m) : ∀ v : AV, v.ok n → v.ok m
  | .bool _, _ | .int _ _, _ | .str _, _ | .ptr none, _ | .slice none _ _, _ | .map none, _ | .nilFunc, _ | .nilIface, _ | .raw _, _ => by simp [AV.ok]
  | .ptr (some _), h => Nat.lt_of_lt_of_le h hle
  | .slice (some _) _ _, h => Nat.lt_of_lt_of_le (show _ < n from h) hle
  | .map (some _), h => Nat.lt_of_lt_of_le h hle
  | .tail _ _ _ _, h => Nat.lt_of_lt_of_le (show _ < n from h) hle
  | .yield _, h => Nat.lt_of_lt_of_le (show _ < n from h) hle
  | .func _ first captured, h => by
    have ⟨h1, h2⟩ : AV.okL n first ∧ AV.okL n captured := h
    exact ⟨AV.okL_mono hle first h1, AV.okL_mono hle captured h2⟩
  | .iface _ v, h => AV.ok_mono hle v h
  | .agg cs, h => AV.okL_mono hle cs h
  | .tuple vs, h => AV.okL_mono hle vs h
theorem AV.okL_mono {n m : Nat} (hle : n ≤ m) : ∀ l : List AV, AV.okL n l → AV.okL m l
  | [], _ => trivial
  | v :: r, h => by
    have ⟨h1, h2⟩ : v.ok n ∧ AV.okL n r := h
    exact ⟨AV.ok_mono hle v h1, AV.okL_mono hle r h2⟩
end

/-- Not a struct, an array or a tuple: one cell's value. -/
def AV.one : AV → Bool
  | .agg _ | .tuple _ => false
  | .raw v => v.oneCell'
  | _ => true
theorem AV.one_inst {θ : Th} {v : AV} (h : v.one = true) : (v.inst θ).oneCell' = true := by
  cases v <;> first | rfl | (simp [AV.one] at h; done) | exact h

/-- A value's cells. -/
def AV.cells : AV → List AV
  | .agg cs => cs
  | .raw (.agg cs) => cs.toList.map .raw
  | v => [v]
theorem AV.cells_inst (θ : Th) (v : AV) : (v.inst θ).cells = (v.cells.map (AV.inst θ)).toArray := by
  cases v with
  | agg cs => simp [AV.inst, AV.cells, Value.cells, AV.instL_eq]
  | raw v =>
    cases v <;> simp [AV.inst, AV.cells, Value.cells]
    rename_i cs
    have : (AV.inst θ ∘ AV.raw) = id := funext fun _ => rfl
    rw [this]; simp
  | _ => simp [AV.inst, AV.cells, Value.cells]

def undefA : AV := .tuple []
@[simp] theorem inst_undefA (θ : Th) : undefA.inst θ = undef := rfl

/-! ### the heap -/
abbrev Fr := T AV
def Fr.at (t : Fr) (i : Nat) : AV := (T.get t i).getD undefA
theorem Fr.at_set (t : Fr) (i j : Nat) (v : AV) : Fr.at (T.set t i v) j = if j = i then v else Fr.at t j := by
  unfold Fr.at; rw [T.get_set]; split <;> rfl

inductive Blk where
  | cells (cs : List AV) (room : Option Nat)
  | map (es : List (AV × AV × Nat)) (clock : Nat)
  | strIter (s : ByteArray) (pos : Nat)
  | mapIter (map : Option Nat) (since : Nat) (seen : List Nat) (stepped : Nat)
  | loop (st : LoopState) (pend : Option Code) (N : Nat) (t : Fr) (ps : Array Tmp) (assign body : Code)
  | dead

def Blk.live : Blk → Bool
  | .dead => false
  | _ => true

structure AHeap where
  base : Nat
  ext : Nat → Option Blk
  tr : T Blk
  next : Nat

def AHeap.get (H : AHeap) (i : Nat) : Option Blk := if i < H.base then H.ext i else if i < H.next then H.tr.get (i - H.base) else none
def AHeap.alloc (H : AHeap) (b : Blk) : AHeap := { H with tr := H.tr.set (H.next - H.base) b, next := H.next + 1 }
def AHeap.put (H : AHeap) (i : Nat) (b : Blk) : AHeap := { H with tr := H.tr.set (i - H.base) b }

@[simp] theorem AHeap.next_alloc (H : AHeap) (b : Blk) : (H.alloc b).next = H.next + 1 := rfl
@[simp] theorem AHeap.base_alloc (H : AHeap) (b : Blk) : (H.alloc b).base = H.base := rfl
@[simp] theorem AHeap.next_put (H : AHeap) (i : Nat) (b : Blk) : (H.put i b).next = H.next := rfl
@[simp] theorem AHeap.base_put (H : AHeap) (i : Nat) (b : Blk) : (H.put i b).base = H.base := rfl
theorem AHeap.get_alloc (H : AHeap) (b : Blk) (i : Nat) (hb : H.base ≤ H.next) (hi : i < H.next ∨ i = H.next ∨ H.next < i) :
    (H.alloc b).get i = if i = H.next then some b else H.get i := by
  unfold AHeap.get AHeap.alloc
  simp only [T.get_set]
  by_cases e : i = H.next
  · subst e
    rw [if_neg (by omega), if_pos (by omega), if_pos rfl, if_pos rfl]
  · rw [if_neg e]
    by_cases h1 : i < H.base
    · rw [if_pos h1, if_pos h1]
    · rw [if_neg h1, if_neg h1]
      by_cases h2 : i < H.next
      · rw [if_pos (by omega), if_pos h2, if_neg (by omega)]
      · rw [if_neg (by omega), if_neg h2]
theorem AHeap.get_put (H : AHeap) (j : Nat) (b : Blk) (i : Nat) (hb : H.base ≤ j) (hn : j < H.next) :
    (H.put j b).get i = if i = j then some b else H.get i := by
  unfold AHeap.get AHeap.put
  simp only [T.get_set]
  by_cases e : i = j
  · subst e
    rw [if_neg (by omega), if_pos (by omega), if_pos rfl, if_pos rfl]
  · rw [if_neg e]
    by_cases h1 : i < H.base
    · rw [if_pos h1, if_pos h1]
    · rw [if_neg h1, if_neg h1]
      by_cases h2 : i < H.next
      · rw [if_pos h2, if_pos h2, if_neg (by omega)]
      · rw [if_neg h2, if_neg h2]

/-- Old ids stand as they stood. -/
structure AHeap.Le (H H' : AHeap) : Prop where
  base : H'.base = H.base
  next : H.next ≤ H'.next
  get : ∀ i, i < H.next → H'.get i = H.get i
theorem AHeap.Le.refl (H : AHeap) : H.Le H := ⟨rfl, Nat.le_refl _, fun _ _ => rfl⟩
theorem AHeap.Le.trans {A B C : AHeap} (h : A.Le B) (h' : B.Le C) : A.Le C :=
  ⟨h'.base.trans h.base, Nat.le_trans h.next h'.next, fun i hi => (h'.get i (Nat.lt_of_lt_of_le hi h.next)).trans (h.get i hi)⟩
theorem AHeap.Le.alloc (H : AHeap) (b : Blk) (hb : H.base ≤ H.next) : H.Le (H.alloc b) :=
  ⟨rfl, by simp, fun i hi => by rw [AHeap.get_alloc _ _ _ hb (.inl hi), if_neg (by omega)]⟩

/-! ### how a block lies in a world -/
def instE (θ : Th) (e : AV × AV × Nat) : MapEntry := { key := e.1.inst θ, val := e.2.1.inst θ, born := e.2.2 }

/-- A loop's record (of a range over a function). -/
def LoopAt (θ : Th) (st : LoopState) (pend : Option Code) (N : Nat) (t : Fr) (ps : Array Tmp) (assign body : Code) (o : Option Obj) : Prop :=
  ∃ r : Loop, o = some (.loop r) ∧ r.state = st ∧ r.pending = pend ∧ r.tmps.size = N ∧ (∀ i, i < N → r.tmps[i]? = some ((Fr.at t i).inst θ)) ∧ (∀ i, N ≤ i → Fr.at t i = undefA) ∧
    r.params = ps ∧ r.assign = assign ∧ r.body = body
def BlkAt (θ : Th) (i : Nat) : Blk → Option Obj → Prop
  | .cells cs room, o => ∃ c e f, o = some (.cells c e f) ∧ (∀ (j : Nat) (v : AV), cs[j]? = some v → c[j]? = some (v.inst θ)) ∧
      (match room with | none => c.size = cs.length | some sz => c.size = θ.cap i * sz ∧ cs.length ≤ c.size) ∧ (∀ j, j < c.size → ¬ (f.1 ≤ j ∧ j < f.2))
  | .map es clock, o => o = some (.map (es.map (instE θ)).toArray clock)
  | .strIter s pos, o => o = some (.stringIter s pos)
  | .mapIter m since seen stepped, o => o = some (.mapIter (m.map θ.blk) since seen.toArray stepped)
  | .loop st pend N t ps assign body, o => LoopAt θ st pend N t ps assign body o
  | .dead, _ => True

/-- The same of a block that is only read. -/
def BlkRd (θ : Th) (i : Nat) : Blk → Option Obj → Prop
  | .cells cs room, o => ∃ c e f, o = some (.cells c e f) ∧ (∀ (j : Nat) (v : AV), cs[j]? = some v → c[j]? = some (v.inst θ)) ∧
      (match room with | none => c.size = cs.length | some sz => c.size = θ.cap i * sz ∧ cs.length ≤ c.size)
  | .map es clock, o => o = some (.map (es.map (instE θ)).toArray clock)
  | .strIter s pos, o => o = some (.stringIter s pos)
  | .mapIter m since seen stepped, o => o = some (.mapIter (m.map θ.blk) since seen.toArray stepped)
  | .loop st pend N t ps assign body, o => LoopAt θ st pend N t ps assign body o
  | .dead, _ => True
/-- No cell of it is shared by a string. -/
def Free (o : Option Obj) : Prop := ∀ c e f, o = some (.cells c e f) → ∀ j, j < c.size → ¬ (f.1 ≤ j ∧ j < f.2)
theorem BlkAt.rd {θ : Th} {i : Nat} {b : Blk} {o : Option Obj} (h : BlkAt θ i b o) : BlkRd θ i b o := by
  cases b with
  | cells cs room => obtain ⟨c, e, f, h1, h2, h3, _⟩ := h; exact ⟨c, e, f, h1, h2, h3⟩
  | _ => exact h
theorem BlkAt.free {θ : Th} {i : Nat} {b : Blk} {o : Option Obj} (h : BlkAt θ i b o) (hl : b.live = true) : Free o := by
  intro c e f ho
  cases b with
  | cells cs room =>
    obtain ⟨c', e', f', h1, _, _, h4⟩ := h
    rw [ho] at h1
    cases h1
    exact h4
  | map es clock => have h' : o = some (.map (es.map (instE θ)).toArray clock) := h; rw [ho] at h'; cases h'
  | strIter s pos => have h' : o = some (.stringIter s pos) := h; rw [ho] at h'; cases h'
  | mapIter m since seen stepped => have h' : o = some (.mapIter (m.map θ.blk) since seen.toArray stepped) := h; rw [ho] at h'; cases h'
  | loop st pend N t ps assign body => obtain ⟨r, h1, _⟩ := h; rw [ho] at h1; cases h1
  | dead => cases hl
theorem BlkRd.cells_at {θ : Th} {i : Nat} {cs : List AV} {room : Option Nat} {o : Option Obj} (h : BlkRd θ i (.cells cs room) o) (hf : Free o) : BlkAt θ i (.cells cs room) o := by
  obtain ⟨c, e, f, h1, h2, h3⟩ := h
  exact ⟨c, e, f, h1, h2, h3, hf c e f h1⟩

def Blk.ok (n : Nat) : Blk → Prop
  | .cells cs _ => AV.okL n cs
  | .map es _ => ∀ e ∈ es, AV.ok n e.1 ∧ AV.ok n e.2.1
  | .strIter _ _ => True
  | .mapIter m _ _ _ => ∀ r, m = some r → r < n
  | .loop _ _ _ t _ _ _ => ∀ i, (Fr.at t i).ok n
  | .dead => True

theorem Blk.ok_mono {n m : Nat} (hle : n ≤ m) {b : Blk} (h : b.ok n) : b.ok m := by
  cases b with
  | cells cs _ => exact AV.okL_mono hle cs h
  | map es _ => exact fun e he => ⟨AV.ok_mono hle _ (h e he).1, AV.ok_mono hle _ (h e he).2⟩
  | strIter _ _ => trivial
  | mapIter m _ _ _ => exact fun r hr => Nat.lt_of_lt_of_le (h r hr) hle
  | loop _ _ _ t _ _ _ => exact fun i => AV.ok_mono hle _ (h i)
  | dead => trivial

theorem BlkRd.ext {n : Nat} {θ θ' : Th} {i : Nat} {b : Blk} {o : Option Obj} (he : Th.Ext n θ θ') (hi : i < n) (hb : b.ok n) (h : BlkRd θ i b o) : BlkRd θ' i b o := by
  cases b with
  | cells cs room =>
    obtain ⟨c, e, f, ho, hc, hr⟩ := h
    refine ⟨c, e, f, ho, fun j v hj => ?_, ?_⟩
    · rw [AV.inst_ext he v ((AV.okL_iff n cs).1 hb v (List.mem_of_getElem? hj))]; exact hc j v hj
    · cases room with
      | none => exact hr
      | some sz => simpa only [(he i hi).2.2] using hr
  | map es clock =>
    have h' : o = some (.map (es.map (instE θ)).toArray clock) := h
    show o = some (.map (es.map (instE θ')).toArray clock)
    rw [h']
    congr 3
    refine List.map_congr_left fun e hm => ?_
    have ⟨h1, h2⟩ := hb e hm
    simp only [instE, AV.inst_ext he _ h1, AV.inst_ext he _ h2]
  | strIter s pos => exact h
  | mapIter m since seen stepped =>
    have h' : o = some (.mapIter (m.map θ.blk) since seen.toArray stepped) := h
    show o = some (.mapIter (m.map θ'.blk) since seen.toArray stepped)
    rw [h']
    cases m with
    | none => rfl
    | some r => simp [(he r (hb r rfl)).1]
  | loop st pend N t ps assign body =>
    obtain ⟨r, h1, h2, h3, h4, h5, h6⟩ := h
    exact ⟨r, h1, h2, h3, h4, fun j hj => by rw [AV.inst_ext he _ (hb j)]; exact h5 j hj, h6⟩
  | dead => trivial

/-- The heap lies in the world; of what was there in W0 nothing has turned since. -/
structure Giv where
  W : World
  /-- blocks that nobody turns -/
  G : Nat → Option Obj
structure Own (W0 : Giv) (θ : Th) (H : AHeap) (w : World) : Prop where
  below : Below W0.W.heap.size W0.W w
  size : W0.W.heap.size ≤ w.heap.size
  next : H.base ≤ H.next
  live : ∀ i b, H.get i = some b → b.live = true → i < H.next ∧ θ.off i = 0 ∧ BlkRd θ i b w.heap[θ.blk i]? ∧ b.ok H.next ∧ (H.base ≤ i → W0.W.heap.size ≤ θ.blk i ∧ Free w.heap[θ.blk i]?)
  inj : ∀ i j b c, H.get i = some b → H.get j = some c → b.live = true → c.live = true → θ.blk i = θ.blk j → i = j
  guard : ∀ k o, W0.G k = some o → w.heap[k]? = some o
  apart : ∀ i b, H.get i = some b → b.live = true → W0.G (θ.blk i) = none

theorem BlkRd.lt {θ : Th} {i : Nat} {b : Blk} {w : World} (h : BlkRd θ i b w.heap[θ.blk i]?) (hl : b.live = true) : θ.blk i < w.heap.size := by
  rcases Nat.lt_or_ge (θ.blk i) w.heap.size with h' | h'
  · exact h'
  · rw [Array.getElem?_eq_none h'] at h
    cases b with
    | cells cs room => obtain ⟨c, e, f, ho, _⟩ := h; cases ho
    | map es clock => exact absurd (show (none : Option Obj) = _ from h) (by simp)
    | strIter s pos => exact absurd (show (none : Option Obj) = _ from h) (by simp)
    | mapIter m since seen stepped => exact absurd (show (none : Option Obj) = _ from h) (by simp)
    | loop st pend N t ps assign body => obtain ⟨r, h1, _⟩ := h; cases h1
    | dead => cases hl
theorem Own.lt {W0 : Giv} {θ : Th} {H : AHeap} {w : World} (h : Own W0 θ H w) {i : Nat} {b : Blk} (hg : H.get i = some b) (hl : b.live = true) : θ.blk i < w.heap.size :=
  (h.live i b hg hl).2.2.1.lt hl

/-- A draw turns nothing. -/
theorem Own.drew {W0 : Giv} {θ : Th} {H : AHeap} {w : World} (h : Own W0 θ H w) : Own W0 θ H w.drew :=
  ⟨h.below.drew, h.size, h.next, h.live, h.inj, h.guard, h.apart⟩

/-- The map that sends one id more. -/
def Th.set (θ : Th) (i blk off cap : Nat) : Th :=
  ⟨fun j => if j = i then blk else θ.blk j, fun j => if j = i then off else θ.off j, fun j => if j = i then cap else θ.cap j⟩
theorem Th.set_ext (θ : Th) (n blk off cap : Nat) : Th.Ext n θ (θ.set n blk off cap) := fun i hi => by
  simp [Th.set, Nat.ne_of_lt hi]
@[simp] theorem Th.set_blk (θ : Th) (n blk off cap : Nat) : (θ.set n blk off cap).blk n = blk := by simp [Th.set]
@[simp] theorem Th.set_off (θ : Th) (n blk off cap : Nat) : (θ.set n blk off cap).off n = off := by simp [Th.set]
@[simp] theorem Th.set_cap (θ : Th) (n blk off cap : Nat) : (θ.set n blk off cap).cap n = cap := by simp [Th.set]

/-- A new block. -/
theorem Own.alloc {W0 : Giv} {θ : Th} {H : AHeap} {w : World} (h : Own W0 θ H w) (b : Blk) (o : Obj) (cap : Nat) (hb : b.ok H.next)
    (hat : BlkAt (θ.set H.next w.heap.size 0 cap) H.next b (some o)) :
    Own W0 (θ.set H.next w.heap.size 0 cap) (H.alloc b) (w.alloc o) := by
  have hext := Th.set_ext θ H.next w.heap.size 0 cap
  have hget := fun i => AHeap.get_alloc H b i h.next (by omega)
  refine ⟨?_, ?_, ?_, ?_, ?_, ?_, ?_⟩
  · exact h.below.alloc h.size o
  · simp only [World.size_alloc]; have := h.size; omega
  · simp only [AHeap.base_alloc, AHeap.next_alloc]; have := h.next; omega
  · intro i c hc hl
    rw [hget] at hc
    by_cases e : i = H.next
    · subst e
      rw [if_pos rfl] at hc
      cases hc
      have this : (w.alloc o).heap[(θ.set H.next w.heap.size 0 cap).blk H.next]? = some o := by
        rw [Th.set_blk]; show (w.heap.push o)[w.heap.size]? = _; simp
      refine ⟨by simp, by simp, ?_, Blk.ok_mono (by simp) hb, fun _ => ⟨by simp only [Th.set_blk]; exact h.size, by rw [this]; exact hat.free hl⟩⟩
      rw [this]; exact hat.rd
    · rw [if_neg e] at hc
      have ⟨h1, h2, h3, h4, h5⟩ := h.live i c hc hl
      have ⟨x, y, z⟩ := hext i h1
      have hlt := h3.lt hl
      refine ⟨by simp only [AHeap.next_alloc]; omega, y.trans h2, ?_, Blk.ok_mono (by simp) h4, fun hh => by rw [x, Below.heap_alloc _ _ _ hlt]; exact h5 hh⟩
      rw [x, Below.heap_alloc _ _ _ hlt]
      exact h3.ext hext h1 h4
  · intro i j c d hc hd hlc hld heq
    rw [hget] at hc hd
    by_cases ei : i = H.next
    · by_cases ej : j = H.next
      · omega
      · exfalso
        rw [if_neg ej] at hd
        have ⟨h1, _, h3, _, _⟩ := h.live j d hd hld
        have hlt := h3.lt hld
        rw [ei, Th.set_blk, (hext j h1).1] at heq
        omega
    · by_cases ej : j = H.next
      · exfalso
        rw [if_neg ei] at hc
        have ⟨h1, _, h3, _, _⟩ := h.live i c hc hlc
        have hlt := h3.lt hlc
        rw [ej, Th.set_blk, (hext i h1).1] at heq
        omega
      · rw [if_neg ei] at hc
        rw [if_neg ej] at hd
        have ⟨h1, _⟩ := h.live i c hc hlc
        have ⟨h1', _⟩ := h.live j d hd hld
        rw [(hext i h1).1, (hext j h1').1] at heq
        exact h.inj i j c d hc hd hlc hld heq
  · intro k o' hk
    have hh := h.guard k o' hk
    have hlt : k < w.heap.size := (Array.getElem?_eq_some_iff.1 hh).1
    rw [Below.heap_alloc _ _ _ hlt]; exact hh
  · intro i c hc hl
    rw [hget] at hc
    by_cases e : i = H.next
    · subst e
      rw [Th.set_blk]
      cases hk : W0.G w.heap.size with
      | none => rfl
      | some o' => have := (Array.getElem?_eq_some_iff.1 (h.guard _ _ hk)).1; omega
    · rw [if_neg e] at hc
      rw [(hext i (h.live i c hc hl).1).1]
      exact h.apart i c hc hl

/-- A block that turns: a world in which that block alone is another one. -/
theorem Own.put {W0 : Giv} {θ : Th} {H : AHeap} {w w' : World} (h : Own W0 θ H w) {i : Nat} {b b' : Blk} (hg : H.get i = some b) (hl : b.live = true) (hi : H.base ≤ i)
    (hb : b'.ok H.next) (hat : BlkAt θ i b' w'.heap[θ.blk i]?)
    (hos : w'.os = w.os) (htape : w'.tape = w.tape) (hout : w'.output = w.output) (hsz : w'.heap.size = w.heap.size) (hother : ∀ k, k ≠ θ.blk i → w'.heap[k]? = w.heap[k]?) :
    Own W0 θ (H.put i b') w' := by
  have ⟨h1, h2, h3, h4, h5⟩ := h.live i b hg hl
  have hget := fun j => AHeap.get_put H i b' j hi h1
  have hblk := (h5 hi).1
  refine ⟨?_, ?_, h.next, ?_, ?_, ?_, ?_⟩
  · refine h.below.trans ⟨hos, htape, hout, by omega, fun k hk => hother k ?_⟩
    have hk' : k < W0.W.heap.size := hk
    omega
  · show W0.W.heap.size ≤ _; rw [hsz]; exact h.size
  · intro j c hc hlc
    rw [hget] at hc
    by_cases e : j = i
    · subst e
      rw [if_pos rfl] at hc
      cases hc
      exact ⟨h1, h2, hat.rd, hb, fun hh => ⟨(h5 hh).1, hat.free hlc⟩⟩
    · rw [if_neg e] at hc
      have ⟨g1, g2, g3, g4, g5⟩ := h.live j c hc hlc
      have ho := hother _ (fun hh => e (h.inj j i c b hc hg hlc hl hh))
      refine ⟨g1, g2, ?_, g4, fun hh => by rw [ho]; exact g5 hh⟩
      rw [ho]
      exact g3
  · intro j k c d hc hd hlc hld heq
    rw [hget] at hc hd
    by_cases ej : j = i
    · by_cases ek : k = i
      · omega
      · rw [if_neg ek] at hd
        subst ej
        exact h.inj j k b d hg hd hl hld heq
    · by_cases ek : k = i
      · rw [if_neg ej] at hc
        subst ek
        exact h.inj j k c b hc hg hlc hl heq
      · rw [if_neg ej] at hc
        rw [if_neg ek] at hd
        exact h.inj j k c d hc hd hlc hld heq
  · intro k o hk
    rw [hother k (fun e => by rw [e, h.apart i b hg hl] at hk; cases hk)]
    exact h.guard k o hk
  · intro j c hc hlc
    rw [hget] at hc
    by_cases e : j = i
    · subst e; exact h.apart j b hg hl
    · rw [if_neg e] at hc; exact h.apart j c hc hlc

/-- What is forgotten. -/
theorem Own.kill {W0 : Giv} {θ : Th} {H : AHeap} {w : World} (h : Own W0 θ H w) {i : Nat} (hi : H.base ≤ i) (hn : i < H.next) : Own W0 θ (H.put i .dead) w := by
  have hget := fun j => AHeap.get_put H i .dead j hi hn
  refine ⟨h.below, h.size, h.next, fun j c hc hl => ?_, fun j k c d hc hd hlc hld heq => ?_, h.guard, fun j c hc hl => ?_⟩
  · rw [hget] at hc
    by_cases e : j = i
    · rw [if_pos e] at hc; cases hc; cases hl
    · rw [if_neg e] at hc; exact h.live j c hc hl
  · rw [hget] at hc hd
    by_cases ej : j = i
    · rw [if_pos ej] at hc; cases hc; cases hlc
    · by_cases ek : k = i
      · rw [if_pos ek] at hd; cases hd; cases hld
      · rw [if_neg ej] at hc; rw [if_neg ek] at hd; exact h.inj j k c d hc hd hlc hld heq
  · rw [hget] at hc
    by_cases e : j = i
    · rw [if_pos e] at hc; cases hc; cases hl
    · rw [if_neg e] at hc; exact h.apart j c hc hl

end Go.AM
