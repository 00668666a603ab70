/- The abstract machine, part C: what operations that only read come to. -/
import Derived.Test.YthjeldlbjhjgfaaGreatAmB
import Derived.Laws.Strings
import Derived.ChangeKeysEq
namespace Go.AM
set_option linter.unusedSimpArgs false
set_option linter.unusedVariables false
open Go.RowKit

def isAggD : TypeDesc → Bool
  | .struct _ | .array _ _ => true
  | _ => false

/-! ### numbers, bools, strings -/
def intOp (op : BinOp) (k : IntKind) (a b : Int) : Option AV :=
  match op with
  | .add => some (.int k (k.wrap (a + b)))
  | .sub => some (.int k (k.wrap (a - b)))
  | .mul => some (.int k (k.wrap (a * b)))
  | .quo => if b = 0 then none else some (.int k (k.wrap (a.tdiv b)))
  | .rem => if b = 0 then none else some (.int k (a.tmod b))
  | .and => some (.int k (k.wrap ((BitVec.ofInt k.bits a &&& BitVec.ofInt k.bits b).toNat)))
  | .or => some (.int k (k.wrap ((BitVec.ofInt k.bits a ||| BitVec.ofInt k.bits b).toNat)))
  | .xor => some (.int k (k.wrap ((BitVec.ofInt k.bits a ^^^ BitVec.ofInt k.bits b).toNat)))
  | .andNot => some (.int k (k.wrap ((BitVec.ofInt k.bits a &&& ~~~BitVec.ofInt k.bits b).toNat)))
  | .eql => some (.bool (a == b))
  | .neq => some (.bool (a != b))
  | .lss => some (.bool (decide (a < b)))
  | .leq => some (.bool (decide (a ≤ b)))
  | .gtr => some (.bool (decide (a > b)))
  | .geq => some (.bool (decide (a ≥ b)))
  | _ => none
def shOp (op : BinOp) (k : IntKind) (a b : Int) : Option AV :=
  if b < 0 then none else
  match op with
  | .shl => some (.int k (k.wrap (a * 2 ^ (min b.toNat k.bits))))
  | .shr => some (.int k (a.fdiv (2 ^ (min b.toNat k.bits))))
  | _ => none
def strOp (op : BinOp) (x y : ByteArray) : Option AV :=
  match op with
  | .add => if x.size + y.size ≤ 9223372036854775807 then some (.str (x ++ y)) else none
  | .eql => some (.bool (x.data.toList == y.data.toList))
  | .neq => some (.bool !(x.data.toList == y.data.toList))
  | .lss => some (.bool (Op.bytesLess x.data.toList y.data.toList))
  | .leq => some (.bool (Op.bytesLess x.data.toList y.data.toList || x.data.toList == y.data.toList))
  | .gtr => some (.bool !(Op.bytesLess x.data.toList y.data.toList || x.data.toList == y.data.toList))
  | .geq => some (.bool !(Op.bytesLess x.data.toList y.data.toList))
  | _ => none

/-- What '==' is asked of, by the type. -/
inductive EK where
  | bool | num | str | slc | mp | fn | ptr | ifc
  | agg (ks : List EK)

/-- Are two cells the same? -/
def cellEq : EK → AV → AV → Option Bool
  | .num, .int k a, .int k' b => if k = k' then some (a == b) else none
  | .str, .str a, .str b => some (a.data.toList == b.data.toList)
  | .bool, .bool a, .bool b => some (a == b)
  | _, _, _ => none
def cellsEq : List EK → List AV → List AV → Option Bool
  | [], [], [] => some true
  | k :: ks, x :: xs, y :: ys => match cellEq k x y, cellsEq ks xs ys with
    | some a, some b => some (a && b)
    | _, _ => none
  | _, _, _ => none

/-- The kinds of a type's cells, where its '==' asks cell by cell. -/
def flatF (fl : TypeId → Option (List EK)) : Nat → List Field → Option (List EK)
  | _, [] => some []
  | acc, f :: r => if f.offset = acc ∧ f.name ≠ "_" then match fl f.type with
      | some l => match flatF fl (acc + l.length) r with
        | some m => some (l ++ m)
        | none => none
      | none => none
    else none
def flatT (P : Program) : Nat → TypeId → Option (List EK)
  | 0, _ => none
  | d + 1, t => match P.underlying t, (P.info? t).map (·.size) with
    | some .bool, some 1 => some [.bool]
    | some (.int _), some 1 => some [.num]
    | some .string, some 1 => some [.str]
    | some (.struct fs), some s => if P.stoodInHeld t = false then match flatF (flatT P d) 0 fs.toList with
        | some l => if l.length = s then some l else none
        | none => none
      else none
    | some (.array len e), some s => match flatT P d e with
        | some l => if len * l.length = s then some (List.replicate len l).flatten else none
        | none => none
    | _, _ => none

def binV (k : EK) (op : BinOp) (x y : AV) : Option AV :=
  match x, y with
  | .int k a, .int k' b => match op with
    | .shl => shOp .shl k a b
    | .shr => shOp .shr k a b
    | _ => if k = k' then intOp op k a b else none
  | .str a, .str b => strOp op a b
  | .agg xs, .agg ys => match k, op with
    | .agg ks, .eql => (cellsEq ks xs ys).map .bool
    | .agg ks, .neq => (cellsEq ks xs ys).map fun b => .bool !b
    | _, _ => none
  | .bool a, .bool b => match k, op with
    | .bool, .eql => some (.bool (a == b))
    | .bool, .neq => some (.bool !(a == b))
    | _, _ => none
  | .slice none _ _, .slice b _ _ => match k, op with
    | .slc, .eql => some (.bool b.isNone)
    | .slc, .neq => some (.bool !b.isNone)
    | _, _ => none
  | .slice (some _) _ _, .slice none _ _ => match k, op with
    | .slc, .eql => some (.bool false)
    | .slc, .neq => some (.bool true)
    | _, _ => none
  | .tail .., .slice none _ _ => match k, op with
    | .slc, .eql => some (.bool false)
    | .slc, .neq => some (.bool true)
    | _, _ => none
  | .map none, .map b => match k, op with
    | .mp, .eql => some (.bool b.isNone)
    | .mp, .neq => some (.bool !b.isNone)
    | _, _ => none
  | .map (some _), .map none => match k, op with
    | .mp, .eql => some (.bool false)
    | .mp, .neq => some (.bool true)
    | _, _ => none
  | .ptr none, .ptr b => match k, op with
    | .ptr, .eql => some (.bool b.isNone)
    | .ptr, .neq => some (.bool !b.isNone)
    | _, _ => none
  | .ptr (some _), .ptr none => match k, op with
    | .ptr, .eql => some (.bool false)
    | .ptr, .neq => some (.bool true)
    | _, _ => none
  | _, _ => none

theorem intOp_sound {P : Program} {t : TypeId} {op : BinOp} {k : IntKind} {a b : Int} {r : AV} (h : intOp op k a b = some r) (θ : Th) (w : World) :
    (binOp op t (.int k a) (.int k b)).run P w = .ok (r.inst θ) w ∧ ∀ n, r.ok n := by
  cases op <;> simp only [intOp] at h <;>
    first
      | (cases h; refine ⟨?_, fun _ => trivial⟩; simp [binOp, Op.intArith, Op.intBits, Op.intCmp, AV.inst]; done)
      | (split at h
         · cases h
         · rename_i hb; cases h; refine ⟨?_, fun _ => trivial⟩; simp [binOp, Op.intDiv, hb, AV.inst])
      | cases h
theorem shOp_sound {P : Program} {t : TypeId} {op : BinOp} {k k' : IntKind} {a b : Int} {r : AV} (hop : op = .shl ∨ op = .shr) (h : shOp op k a b = some r) (θ : Th) (w : World) :
    (binOp op t (.int k a) (.int k' b)).run P w = .ok (r.inst θ) w ∧ ∀ n, r.ok n := by
  unfold shOp at h
  split at h
  · cases h
  · rename_i hb
    rcases hop with rfl | rfl <;> (cases h; refine ⟨?_, fun _ => trivial⟩; simp [binOp, Op.shift, hb, AV.inst])
theorem strOp_sound {P : Program} {t : TypeId} {op : BinOp} {a b : ByteArray} {r : AV} (h : strOp op a b = some r) (θ : Th) (w : World) :
    (binOp op t (.string a) (.string b)).run P w = .ok (r.inst θ) w ∧ ∀ n, r.ok n := by
  cases op <;> simp only [strOp] at h <;>
    first
      | (cases h; refine ⟨?_, fun _ => trivial⟩; simp only [binOp, Op.stringOp, AV.inst, ByteArray.toList_eq]; rfl)
      | (split at h
         · rename_i hb; cases h; refine ⟨?_, fun _ => trivial⟩
           have hn : ¬ (((a.size + b.size : Nat) : Int) > IntKind.i64.max) := by rw [IntKind.max_i64]; omega
           simp only [binOp, Op.stringOp, AV.inst]; rw [if_neg hn]; rfl
         · cases h)
      | cases h

theorem eqGuard_int (op : BinOp) (t : TypeId) (x y : Operand) (k : IntKind) (n : Int) (v : Value) : eqGuard op t x y (.int k n) v = pure () := eqGuard_at_int ..

/-- The type is one at which '==' is asked so. -/
def EK.fits (P : Program) (t : TypeId) : EK → Prop
  | .bool => P.underlying t = some .bool
  | .slc => ∃ e, P.underlying t = some (.slice e)
  | .mp => ∃ a b, P.underlying t = some (.map a b)
  | .ptr => ∃ e, P.underlying t = some (.pointer e)
  | .agg ks => flatT P 20 t = some ks ∧ P.eqGuardType P.depth t = false ∧ (P.underlying t).map isAggD = some true
  | _ => True

theorem run_pure_bind {α β : Type} {P : Program} {w : World} (x : α) (f : α → Sem β) : ((pure x : Sem α) >>= f).run P w = (f x).run P w := rfl

theorem equal_run {P : Program} {t : TypeId} {x y : Value} {b : Bool} {w : World}
    (h : ∀ n, (Op.equalIn (n + 1) t x y).run P w = .ok b w) :
    (do pure (Value.bool (← Op.equal t x y)) : Sem Value).run P w = .ok (.bool b) w ∧ (do pure (Value.bool (!(← Op.equal t x y))) : Sem Value).run P w = .ok (.bool !b) w := by
  have h' : (Op.equal t x y).run P w = .ok b w := h 9999
  simp [h', Result.andThen]

theorem eqBin {P : Program} {t : TypeId} {x y : Value} {b : Bool} {w : World} (xo yo : Operand)
    (hg : ∀ op, eqGuard op t xo yo x y = pure ()) (h1 : binOp .eql t x y = (do pure (.bool (← Op.equal t x y)))) (h2 : binOp .neq t x y = (do pure (.bool (!(← Op.equal t x y)))))
    (h : ∀ n, (Op.equalIn (n + 1) t x y).run P w = .ok b w) :
    ((do eqGuard .eql t xo yo x y; binOp .eql t x y) : Sem Value).run P w = .ok (.bool b) w ∧ ((do eqGuard .neq t xo yo x y; binOp .neq t x y) : Sem Value).run P w = .ok (.bool !b) w := by
  have := equal_run h
  simp only [hg, run_pure_bind, h1, h2]
  exact this

/-- A value of a type, out of its cells. -/
def valOf (P : Program) (θ : Th) (t : TypeId) (xs : List AV) : Value :=
  match P.underlying t with
  | some (.struct _) | some (.array _ _) => .agg (AV.instL θ xs).toArray
  | _ => (xs.headD (.tuple [])).inst θ

theorem cellsEq_len : ∀ {ks : List EK} {xs ys : List AV} {b : Bool}, cellsEq ks xs ys = some b → xs.length = ks.length ∧ ys.length = ks.length
  | [], [], [], _, _ => ⟨rfl, rfl⟩
  | k :: ks, x :: xs, y :: ys, b, h => by
    simp only [cellsEq] at h
    split at h
    · rename_i a c h1 h2
      have := cellsEq_len h2
      simp [this]
    · cases h
  | [], _ :: _, _, _, h => by simp [cellsEq] at h
  | [], [], _ :: _, _, h => by simp [cellsEq] at h
  | _ :: _, [], _, _, h => by simp [cellsEq] at h
  | _ :: _, _ :: _, [], _, h => by simp [cellsEq] at h

theorem flatT_size {P : Program} : ∀ {d : Nat} {t : TypeId} {l : List EK}, flatT P d t = some l → (P.info? t).map (·.size) = some l.length
  | 0, t, n, h => by cases h
  | d + 1, t, n, h => by
    simp only [flatT] at h
    split at h
    · rename_i h1 h2; cases h; exact h2
    · rename_i h1 h2; cases h; exact h2
    · rename_i h1 h2; cases h; exact h2
    · rename_i fs s h1 h2
      split at h
      · split at h
        · split at h
          · rename_i e; cases h; rw [← e] at h2; exact h2
          · cases h
        · cases h
      · cases h
    · rename_i len e s h1 h2
      split at h
      · split at h
        · rename_i hl; cases h; rw [h2]; simp [hl]
        · cases h
      · cases h
    · cases h

theorem run_isAggC {P : Program} {w : World} {ty : TypeId} {d : TypeDesc} (hd : P.underlying ty = some d) : (isAgg ty).run P w = .ok (isAggD d) w := by
  unfold isAgg
  simp only [Sem.run_bind, run_underlying hd, Result.andThen]
  cases d <;> rfl

theorem part_val {P : Program} {θ : Th} {w : World} {t : TypeId} {ks : List EK} {d : Nat} (hf : flatT P d t = some ks) (cs : List AV) (off : Nat) (hle : off + ks.length ≤ cs.length) :
    (part t (AV.instL θ cs).toArray off).run P w = .ok (valOf P θ t ((cs.drop off).take ks.length)) w := by
  have hs := flatT_size hf
  obtain ⟨n, hn⟩ : ∃ n, n = ks.length := ⟨_, rfl⟩
  rw [← hn] at hs hle ⊢
  cases d with
  | zero => cases hf
  | succ d =>
    simp only [flatT] at hf
    cases hi : P.info? t with
    | none => rw [hi] at hs; cases hs
    | some i =>
      rw [hi] at hs
      have hsz : i.size = n := by simpa using hs
      have scal : ∀ de, P.underlying t = some de → isAggD de = false → n = 1 → (part t (AV.instL θ cs).toArray off).run P w = .ok (valOf P θ t ((cs.drop off).take n)) w := by
        intro de hu hag h1
        subst h1
        obtain ⟨x, hx⟩ : ∃ x, cs[off]? = some x := ⟨cs[off]'(by omega), by simp [show off < cs.length by omega]⟩
        have hget : (AV.instL θ cs).toArray[off]? = some (x.inst θ) := by simp [AV.instL_eq, hx]
        have htake : (cs.drop off).take 1 = [x] := by
          have h0 : (cs.drop off)[0]? = some x := by rw [List.getElem?_drop]; simpa using hx
          cases hd : cs.drop off with
          | nil => rw [hd] at h0; cases h0
          | cons y r => rw [hd] at h0; cases h0; rfl
        have hval : valOf P θ t ((cs.drop off).take 1) = x.inst θ := by
          unfold valOf
          rw [hu, htake]
          cases de <;> first | rfl | cases hag
        rw [hval]
        unfold part
        simp only [Sem.run_bind, run_isAggC hu, hag, Result.andThen, Bool.false_eq_true, if_false, hget, Sem.run_pure]
      have aggr : ∀ de, P.underlying t = some de → isAggD de = true → (part t (AV.instL θ cs).toArray off).run P w = .ok (valOf P θ t ((cs.drop off).take n)) w := by
        intro de hu hag
        have hval : valOf P θ t ((cs.drop off).take n) = .agg (AV.instL θ ((cs.drop off).take n)).toArray := by
          unfold valOf; rw [hu]; cases de <;> first | rfl | cases hag
        have hrs : (sizeOf t).run P w = .ok n w := by simp [sizeOf, typeInfo, hi, hsz, Result.andThen]
        rw [hval]
        unfold part
        simp only [Sem.run_bind, run_isAggC hu, hag, Result.andThen, if_true, hrs, Sem.run_pure]
        congr 2
        apply Array.ext'
        simp [AV.instL_eq, List.drop_take, List.map_take, List.map_drop]
      split at hf
      · rename_i h1 h2; cases hf; exact scal _ h1 rfl hn
      · rename_i h1 h2; cases hf; exact scal _ h1 rfl hn
      · rename_i h1 h2; cases hf; exact scal _ h1 rfl hn
      · rename_i fs s h1 h2; exact aggr _ h1 rfl
      · rename_i len e s h1 h2; exact aggr _ h1 rfl
      · cases hf

theorem cellsEq_append : ∀ (l m : List EK) (xs ys : List AV) (b : Bool), cellsEq (l ++ m) xs ys = some b →
    ∃ b1 b2, cellsEq l (xs.take l.length) (ys.take l.length) = some b1 ∧ cellsEq m (xs.drop l.length) (ys.drop l.length) = some b2 ∧ b = (b1 && b2)
  | [], m, xs, ys, b, h => ⟨true, b, by simp [cellsEq], by simpa using h, by simp⟩
  | k :: l, m, [], ys, b, h => by simp [cellsEq] at h
  | k :: l, m, _ :: _, [], b, h => by simp [cellsEq] at h
  | k :: l, m, x :: xs, y :: ys, b, h => by
    simp only [List.cons_append, cellsEq] at h
    split at h
    · rename_i a c h1 h2
      cases h
      obtain ⟨b1, b2, g1, g2, rfl⟩ := cellsEq_append l m xs ys c h2
      exact ⟨a && b1, b2, by simp [cellsEq, h1, g1], by simpa using g2, by rw [Bool.and_assoc]⟩
    · cases h

/-- What is asked of one type's '=='. -/
def EqAtT (P : Program) (θ : Th) (w : World) (D : Nat) (t : TypeId) (ks : List EK) : Prop :=
  ∀ (xs ys : List AV) (b : Bool), cellsEq ks xs ys = some b → (Op.equalIn D t (valOf P θ t xs) (valOf P θ t ys)).run P w = .ok b w

theorem flatF_equal {P : Program} {θ : Th} {w : World} {d D : Nat} (ih : ∀ t ks, flatT P d t = some ks → EqAtT P θ w D t ks) : ∀ (fs : List Field) (acc : Nat) (ks : List EK), flatF (flatT P d) acc fs = some ks →
    ∀ (xs ys : List AV) (b : Bool), acc ≤ xs.length → acc ≤ ys.length → cellsEq ks (xs.drop acc) (ys.drop acc) = some b → (Op.eqFields D (AV.instL θ xs).toArray (AV.instL θ ys).toArray fs).run P w = .ok b w
  | [], acc, ks, h, xs, ys, b, _, _, hb => by
    simp only [flatF] at h; cases h
    cases hx : xs.drop acc <;> cases hy : ys.drop acc <;> rw [hx, hy] at hb <;> simp only [cellsEq] at hb <;> first | (cases hb; done) | skip
    cases hb
    simp [Op.eqFields]
  | f :: fs, acc, ks, h, xs, ys, b, ax, ay, hb => by
    simp only [flatF] at h
    split at h
    · rename_i hc
      obtain ⟨hoff, hname⟩ := hc
      split at h
      · rename_i l hl
        split at h
        · rename_i m hm
          cases h
          obtain ⟨b1, b2, g1, g2, rfl⟩ := cellsEq_append l m _ _ b hb
          have hlen := cellsEq_len hb
          simp only [List.length_append, List.length_drop] at hlen
          have hx : (part f.type (AV.instL θ xs).toArray f.offset).run P w = .ok (valOf P θ f.type ((xs.drop acc).take l.length)) w := by
            rw [hoff]
            exact part_val hl xs acc (by omega)
          have hy : (part f.type (AV.instL θ ys).toArray f.offset).run P w = .ok (valOf P θ f.type ((ys.drop acc).take l.length)) w := by
            rw [hoff]
            exact part_val hl ys acc (by omega)
          have hq := ih f.type l hl _ _ b1 g1
          simp only [Op.eqFields, if_pos hname, Sem.run_bind, hx, hy, Result.andThen, hq]
          cases b1 with
          | false => simp
          | true =>
            simp only [Bool.not_true, Bool.false_eq_true, if_false, Bool.true_and]
            rw [List.drop_drop, List.drop_drop] at g2
            exact flatF_equal ih fs (acc + l.length) m hm xs ys b2 (by omega) (by omega) g2
        · cases h
      · cases h
    · cases h

theorem items_equal {P : Program} {θ : Th} {w : World} {d D : Nat} {e : TypeId} {l : List EK} (hl : flatT P d e = some l) (ih : EqAtT P θ w D e l) : ∀ (n i0 : Nat) (xs ys : List AV) (b : Bool), i0 * l.length ≤ xs.length → i0 * l.length ≤ ys.length →
    cellsEq (List.replicate n l).flatten (xs.drop (i0 * l.length)) (ys.drop (i0 * l.length)) = some b → (Op.eqItems D e l.length (AV.instL θ xs).toArray (AV.instL θ ys).toArray (List.range' i0 n)).run P w = .ok b w
  | 0, i0, xs, ys, b, _, _, hb => by
    simp only [List.replicate_zero, List.flatten_nil] at hb
    cases hx : xs.drop (i0 * l.length) <;> cases hy : ys.drop (i0 * l.length) <;> rw [hx, hy] at hb <;> simp only [cellsEq] at hb <;> first | (cases hb; done) | skip
    cases hb
    simp [Op.eqItems]
  | n + 1, i0, xs, ys, b, ax, ay, hb => by
    rw [List.replicate_succ, List.flatten_cons] at hb
    obtain ⟨b1, b2, g1, g2, rfl⟩ := cellsEq_append l _ _ _ b hb
    have hlen := cellsEq_len hb
    simp only [List.length_append, List.length_drop] at hlen
    have hx := part_val (θ := θ) (w := w) hl xs (i0 * l.length) (by omega)
    have hy := part_val (θ := θ) (w := w) hl ys (i0 * l.length) (by omega)
    have hq := ih _ _ b1 g1
    simp only [List.range'_succ, Op.eqItems, Sem.run_bind, hx, hy, Result.andThen, hq]
    cases b1 with
    | false => simp
    | true =>
      simp only [Bool.not_true, Bool.false_eq_true, if_false, Bool.true_and]
      have e1 : i0 * l.length + l.length = (i0 + 1) * l.length := by rw [Nat.add_mul, Nat.one_mul]
      rw [List.drop_drop, List.drop_drop, e1] at g2
      exact items_equal hl ih n (i0 + 1) xs ys b2 (by omega) (by omega) g2

theorem flat_equal {P : Program} {θ : Th} {w : World} : ∀ (d : Nat) (t : TypeId) (ks : List EK), flatT P d t = some ks → ∀ (D : Nat), d ≤ D → EqAtT P θ w D t ks
  | 0, t, ks, h, _, _ => by cases h
  | d + 1, t, ks, h, D, hD => by
    intro xs ys b hb
    obtain ⟨D, rfl⟩ : ∃ m, D = m + 1 := ⟨D - 1, by omega⟩
    have one : ∀ {k}, ks = [k] → ∃ x y, xs = [x] ∧ ys = [y] ∧ cellEq k x y = some b := by
      intro k hk
      subst hk
      match xs, ys, hb with
      | [x], [y], hb =>
        simp only [cellsEq] at hb
        split at hb
        · rename_i a c h1 h2; cases h2; cases hb; exact ⟨x, y, rfl, rfl, by simpa using h1⟩
        · cases hb
      | [], _, hb => simp [cellsEq] at hb
      | _ :: _, [], hb => simp [cellsEq] at hb
      | _ :: _ :: _, _ :: _, hb => simp [cellsEq] at hb
      | [_], _ :: _ :: _, hb => simp [cellsEq] at hb
    simp only [flatT] at h
    split at h
    · rename_i h1 h2
      cases h
      obtain ⟨x, y, rfl, rfl, he⟩ := one rfl
      unfold valOf; rw [h1]
      simp only [List.headD_cons]
      cases x <;> cases y <;> simp only [cellEq] at he <;> first | (cases he; done) | skip
      cases he; simp only [AV.inst, Op.equalIn, Sem.run_bind, run_underlying h1, Result.andThen]; rfl
    · rename_i k h1 h2
      cases h
      obtain ⟨x, y, rfl, rfl, he⟩ := one rfl
      unfold valOf; rw [h1]
      simp only [List.headD_cons]
      cases x <;> cases y <;> simp only [cellEq] at he <;> first | (cases he; done) | skip
      split at he
      · rename_i e; subst e; cases he; simp only [AV.inst, Op.equalIn, Sem.run_bind, run_underlying h1, Result.andThen]; simp
      · cases he
    · rename_i h1 h2
      cases h
      obtain ⟨x, y, rfl, rfl, he⟩ := one rfl
      unfold valOf; rw [h1]
      simp only [List.headD_cons]
      cases x <;> cases y <;> simp only [cellEq] at he <;> first | (cases he; done) | skip
      cases he
      simp only [AV.inst]
      rw [run_equalIn_string w D t _ _ h1, ByteArray.toList_eq, ByteArray.toList_eq]
    · rename_i fs s h1 h2
      split at h
      · rename_i hst
        split at h
        · rename_i l hl
          split at h
          · rename_i hls
            cases h
            have hv : ∀ zs, valOf P θ t zs = .agg (AV.instL θ zs).toArray := fun zs => by unfold valOf; rw [h1]
            rw [hv, hv]
            have hfo : P.fieldsOf t = fs := by unfold Program.fieldsOf; rw [h1]
            rw [run_equalIn_struct w D t _ _ (by rw [hfo]; exact h1) hst, hfo]
            exact flatF_equal (fun t ks h => flat_equal d t ks h D (by omega)) fs.toList 0 _ hl xs ys b (by omega) (by omega) (by simpa using hb)
          · cases h
        · cases h
      · cases h
    · rename_i len e s h1 h2
      split at h
      · rename_i l hl
        split at h
        · cases h
          have hv : ∀ zs, valOf P θ t zs = .agg (AV.instL θ zs).toArray := fun zs => by unfold valOf; rw [h1]
          have hs := flatT_size hl
          cases hi : P.info? e with
          | none => rw [hi] at hs; cases hs
          | some i =>
            rw [hi] at hs
            have hc : P.cellsOf e = l.length := by
              unfold Program.cellsOf; rw [hi]; simpa using hs
            rw [hv, hv, run_equalIn_array w D _ _ h1 hi, hc, List.range_eq_range']
            exact items_equal hl (flat_equal d e l hl D (by omega)) len 0 xs ys b (by omega) (by omega) (by simpa using hb)
        · cases h
      · cases h
    · cases h

theorem binV_sound {P : Program} {k : EK} {t : TypeId} (hk : k.fits P t)
    {op : BinOp} {x y : AV} {r : AV} (h : binV k op x y = some r) (xo yo : Operand) (θ : Th) (w : World) :
    ((do eqGuard op t xo yo (x.inst θ) (y.inst θ); binOp op t (x.inst θ) (y.inst θ)) : Sem Value).run P w = .ok (r.inst θ) w ∧ ∀ n, r.ok n := by
  unfold binV at h
  split at h
  · rename_i k a k' b
    simp only [AV.inst, eqGuard_int, run_pure_bind]
    split at h
    · exact shOp_sound (.inl rfl) h θ w
    · exact shOp_sound (.inr rfl) h θ w
    · split at h
      · rename_i e; subst e; exact intOp_sound h θ w
      · cases h
  · simp only [AV.inst, eqGuard_at_string, run_pure_bind]
    exact strOp_sound h θ w
  · rename_i a b
    split at h <;> first | (cases h; done) | skip
    all_goals
      rename_i ks
      obtain ⟨hf, hg, hu⟩ := hk
      cases hc : cellsEq ks a b with
      | none => rw [hc] at h; cases h
      | some bb =>
        rw [hc] at h; cases h
        have hv : ∀ zs, valOf P θ t zs = .agg (AV.instL θ zs).toArray := by
          intro zs
          unfold valOf
          cases hd : P.underlying t with
          | none => rw [hd] at hu; cases hu
          | some de => rw [hd] at hu; cases de <;> first | rfl | (cases hu)
        have he := flat_equal (θ := θ) (w := w) 20 t ks hf 10000 (by omega) a b bb hc
        rw [hv, hv] at he
        refine ⟨?_, fun _ => trivial⟩
        simp only [AV.inst, Sem.run_bind, run_eqGuard_agg _ _ _ _ _ _ _ hg, Result.andThen, run_eql_struct, run_neq_struct, he]
  · rename_i a b
    split at h <;> first | (cases h; done) | skip
    all_goals
      cases h
      have hd : P.underlying t = some .bool := hk
      have := eqBin (P := P) (t := t) (x := .bool a) (y := .bool b) (b := a == b) (w := w) xo yo (fun op => eqGuard_at_bool ..) rfl rfl (fun n => by simp only [Op.equalIn, Sem.run_bind, run_underlying hd, Result.andThen, AV.inst, capOf]; simp)
      exact ⟨by first | exact this.1 | exact this.2, fun _ => trivial⟩
  · rename_i n1 c1 b n2 c2
    split at h <;> first | (cases h; done) | skip
    all_goals
      cases h
      obtain ⟨e, hd⟩ := hk
      have := eqBin (P := P) (t := t) (x := .slice none n1 (capOf θ none c1)) (y := .slice (b.map θ.addr) n2 (capOf θ b c2)) (b := b.isNone) (w := w) xo yo (fun op => eqGuard_at_slice ..) rfl rfl
        (fun n => by simp only [Op.equalIn, Sem.run_bind, run_underlying hd, Result.andThen, AV.inst, capOf]; simp)
      exact ⟨by first | exact this.1 | exact this.2, fun _ => trivial⟩
  · rename_i a n1 c1 n2 c2
    split at h <;> first | (cases h; done) | skip
    all_goals
      cases h
      obtain ⟨e, hd⟩ := hk
      have := eqBin (P := P) (t := t) (x := .slice (some (θ.addr a)) n1 (capOf θ (some a) c1)) (y := .slice none n2 (capOf θ none c2)) (b := false) (w := w) xo yo (fun op => eqGuard_at_slice ..) rfl rfl
        (fun n => by simp only [Op.equalIn, Sem.run_bind, run_underlying hd, Result.andThen, AV.inst, capOf]; simp)
      exact ⟨by first | exact this.1 | exact this.2, fun _ => trivial⟩
  · rename_i a len sz k n2 c2
    split at h <;> first | (cases h; done) | skip
    all_goals
      cases h
      obtain ⟨e, hd⟩ := hk
      have := eqBin (P := P) (t := t) (x := (AV.tail a len sz k).inst θ) (y := .slice none n2 (capOf θ none c2)) (b := false) (w := w) xo yo (fun op => eqGuard_at_slice ..) rfl rfl
        (fun n => by simp only [Op.equalIn, Sem.run_bind, run_underlying hd, Result.andThen, AV.inst, capOf]; simp)
      exact ⟨by first | exact this.1 | exact this.2, fun _ => trivial⟩
  · rename_i b
    split at h <;> first | (cases h; done) | skip
    all_goals
      cases h
      obtain ⟨e1, e2, hd⟩ := hk
      have := eqBin (P := P) (t := t) (x := .map none) (y := .map (b.map θ.blk)) (b := b.isNone) (w := w) xo yo (fun op => eqGuard_at_map ..) rfl rfl (fun n => by simp only [Op.equalIn, Sem.run_bind, run_underlying hd, Result.andThen, AV.inst, capOf]; simp)
      exact ⟨by first | exact this.1 | exact this.2, fun _ => trivial⟩
  · rename_i a
    split at h <;> first | (cases h; done) | skip
    all_goals
      cases h
      obtain ⟨e1, e2, hd⟩ := hk
      have := eqBin (P := P) (t := t) (x := .map (some (θ.blk a))) (y := .map none) (b := false) (w := w) xo yo (fun op => eqGuard_at_map ..) rfl rfl (fun n => by simp only [Op.equalIn, Sem.run_bind, run_underlying hd, Result.andThen, AV.inst, capOf]; simp)
      exact ⟨by first | exact this.1 | exact this.2, fun _ => trivial⟩
  · rename_i b
    split at h <;> first | (cases h; done) | skip
    all_goals
      cases h
      obtain ⟨e, hd⟩ := hk
      have := eqBin (P := P) (t := t) (x := .pointer none) (y := .pointer (b.map θ.addr)) (b := b.isNone) (w := w) xo yo (fun op => eqGuard_at_pointer ..) rfl rfl (fun n => by simp only [Op.equalIn, Sem.run_bind, run_underlying hd, Result.andThen, AV.inst, capOf]; simp)
      exact ⟨by first | exact this.1 | exact this.2, fun _ => trivial⟩
  · rename_i a
    split at h <;> first | (cases h; done) | skip
    all_goals
      cases h
      obtain ⟨e, hd⟩ := hk
      have := eqBin (P := P) (t := t) (x := .pointer (some (θ.addr a))) (y := .pointer none) (b := false) (w := w) xo yo (fun op => eqGuard_at_pointer ..) rfl rfl (fun n => by simp only [Op.equalIn, Sem.run_bind, run_underlying hd, Result.andThen, AV.inst, capOf]; simp)
      exact ⟨by first | exact this.1 | exact this.2, fun _ => trivial⟩
  · cases h
end Go.AM
