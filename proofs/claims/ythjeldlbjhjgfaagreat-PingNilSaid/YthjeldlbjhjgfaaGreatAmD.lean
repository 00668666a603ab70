/- The abstract machine, part D: operations that only read: their compiled form, and that the model's come to the same. -/
import Derived.Test.YthjeldlbjhjgfaaGreatAmC
namespace Go.AM
set_option linter.unusedSimpArgs false
set_option linter.unusedVariables false
open Go.RowKit

/-- Operations that only read. -/
inductive RR where
  | mv (x : AO)
  | pick (c a b : AO)
  | load1 (a : AO)
  | loadN (n : Nat) (a : AO)
  | nilck (x : AO)
  | bin (k : EK) (op : BinOp) (x y : AO)
  | un (op : UnOp) (x : AO)
  | toInt (k : IntKind) (x : AO)
  | bStr (x : AO)
  | same (x : AO)
  | ifc (t : TypeId) (x : AO)
  | fnv (fn : Fn) (first cap : List AO)
  | slS (x : AO) (lo hi : Option AO)
  | sl (sz : Nat) (x : AO) (lo hi mx : Option AO)
  | slA (n sz : Nat) (x : AO) (lo hi mx : Option AO)
  | fa (off : Nat) (x : AO)
  | fl1 (off : Nat) (x : AO)
  | flN (off n : Nat) (x : AO)
  | ia (sz : Nat) (x i : AO)
  | iaA (n sz : Nat) (x i : AO)
  | ixS (x i : AO)
  | ixA1 (n : Nat) (x i : AO)
  | ixAN (n sz : Nat) (x i : AO)
  | bld (zero : List AV) (parts : List (Nat × Nat × AO))
  | len (k : EK) (x : AO)
  | lenC (n : Nat)
  | cap (x : AO)
  | mx (x y : AO)
  | mn (x y : AO)
  | ext (x : AO) (i : Nat)
  | look (kk : EK) (zero : AV) (ok : Bool) (m k : AO)

/-! ### maps -/
def keyK : TypeDesc → Option EK
  | .int _ => some .num
  | .string => some .str
  | .bool => some .bool
  | _ => none
/-- Where a key stands among entries, and its value; none if it cannot be told. -/
def findA (kk : EK) (k : AV) : List (AV × AV × Nat) → Nat → Option (Option (Nat × AV))
  | [], _ => some none
  | e :: r, i => match cellEq kk k e.1 with
    | some true => some (some (i, e.2.1))
    | some false => findA kk k r (i + 1)
    | none => none
def lookR (ok : Bool) (v : AV) (b : Bool) : AV := if ok then .tuple [v, .bool b] else v
def lookA (H : AHeap) (kk : EK) (zero : AV) (ok : Bool) (m k : AV) : Option AV :=
  match m with
  | .map none => some (lookR ok zero false)
  | .map (some r) => match H.get r with
    | some (.map es _) => match findA kk k es 0 with
      | some (some (_, v)) => some (lookR ok v true)
      | some none => some (lookR ok zero false)
      | none => none
    | _ => none
  | _ => none

def bnd (x : Option AV) (y d : Nat) : Option Nat :=
  match x with
  | none => some d
  | some (.int _ i) => if 0 ≤ i ∧ i ≤ (y : Int) then some i.toNat else none
  | some _ => none

/-- Bytes out of cells. -/
def bytesOf : List AV → Option (List UInt8)
  | [] => some []
  | .int .u8 n :: r => (bytesOf r).map (UInt8.ofNat n.toNat :: ·)
  | _ => none

def fillA : List AV → List (Nat × Nat × AV) → Option (List AV)
  | cells, [] => some cells
  | cells, (off, n, v) :: r =>
    if v.cells.length = n ∧ off + n ≤ cells.length then fillA (cells.take off ++ v.cells ++ cells.drop (off + n)) r else none

/-- The cut of a slice whose room is known. -/
def slX (a : Option (Nat × Nat)) (len c sz : Nat) (lo hi mx : Option AV) : Option AV :=
  match bnd mx c c with
  | none => none
  | some m =>
    match (if mx.isSome then (if hi.isSome then bnd hi m len else none) else bnd hi c len) with
    | none => none
    | some h =>
      match bnd lo h 0 with
      | none => none
      | some l => some (.slice (if m = l then a else a.map fun p => (p.1, p.2 + l * sz)) (h - l) (.inl (m - l)))

/-- The cut of a slice whose room is not known: its block tells that there is some. -/
def slI (H : AHeap) (p : Nat × Nat) (len k sz : Nat) (lo hi mx : Option AV) : Option AV :=
  match H.get p.1 with
  | some (.cells cs (some sz')) =>
    if sz' = sz ∧ 0 < sz ∧ p.2 = k * sz ∧ p.2 + len * sz ≤ cs.length then
      match mx with
      | some _ =>
        match bnd mx len len with
        | none => none
        | some m =>
          match (if hi.isSome then bnd hi m len else none) with
          | none => none
          | some h =>
            match bnd lo h 0 with
            | none => none
            | some l => some (.slice (some (if m = l then p else (p.1, p.2 + l * sz))) (h - l) (.inl (m - l)))
      | none =>
        match bnd hi len len with
        | none => none
        | some h =>
          match bnd lo h 0 with
          | none => none
          | some l =>
            if l < len then some (.slice (some (p.1, p.2 + l * sz)) (h - l) (.inr (k + l)))
            else some (.tail p len sz k)
    else none
  | _ => none

def slV (H : AHeap) (sz : Nat) (v : AV) (lo hi mx : Option AV) : Option AV :=
  match v with
  | .slice a len (.inl c) => slX a len c sz lo hi mx
  | .slice (some p) len (.inr k) => slI H p len k sz lo hi mx
  | _ => none

def iaV (sz : Nat) (v i : AV) : Option AV :=
  match v, i with
  | .slice (some p) len _, .int _ j => if 0 ≤ j ∧ j < (len : Int) then some (.ptr (some (p.1, p.2 + j.toNat * sz))) else none
  | _, _ => none
def lenV (H : AHeap) (k : EK) (v : AV) : Option AV :=
  match k, v with
  | .str, .str s => some (.int .i64 s.size)
  | .slc, .slice _ n _ => some (.int .i64 n)
  | .slc, .tail _ _ _ _ => some (.int .i64 0)
  | .mp, .map none => some (.int .i64 0)
  | .mp, .map (some r) => match H.get r with
      | some (.map es _) => some (.int .i64 es.length)
      | _ => none
  | _, _ => none

def evR (r : RR) (ρ : AO → AV) (H : AHeap) : Option AV :=
  match r with
  | .mv x => some (ρ x)
  | .pick c a b => match ρ c with
    | .bool t => some (if t then ρ a else ρ b)
    | _ => none
  | .load1 a => match ρ a with
    | .ptr (some p) => H.cell p
    | _ => none
  | .loadN n a => match ρ a with
    | .ptr (some p) => (H.range p n).map .agg
    | _ => none
  | .nilck x => match ρ x with
    | .ptr (some p) => some (.ptr (some p))
    | .func (.func f) a c => some (.func (.func f) a c)
    | _ => none
  | .bin k op x y => binV k op (ρ x) (ρ y)
  | .un op x => match op, ρ x with
    | .neg, .int k n => some (.int k (k.wrap (0 - n)))
    | .not, .bool b => some (.bool !b)
    | .xor, .int k n => intOp .xor k (if k.signed then -1 else k.max) n
    | _, _ => none
  | .toInt k x => match ρ x with
    | .int _ n => some (.int k (k.wrap n))
    | _ => none
  | .bStr x => match ρ x with
    | .slice none _ _ => some (.str .empty)
    | .slice (some p) n _ => match H.range p n with
      | some l => (bytesOf l).map fun b => .str ⟨b.toArray⟩
      | none => none
    | _ => none
  | .same x => match ρ x with
    | .str s => some (.str s)
    | _ => none
  | .ifc t x => some (.iface t (ρ x))
  | .fnv fn first cap => some (.func fn (first.map ρ) (cap.map ρ))
  | .slS x lo hi => match ρ x with
    | .str s => match bnd (hi.map ρ) s.size s.size with
      | none => none
      | some h => match bnd (lo.map ρ) h 0 with
        | none => none
        | some l => some (.str (s.extract l h))
    | _ => none
  | .sl sz x lo hi mx => slV H sz (ρ x) (lo.map ρ) (hi.map ρ) (mx.map ρ)
  | .slA n sz x lo hi mx => match ρ x with
    | .ptr (some p) => slX (some p) n n sz (lo.map ρ) (hi.map ρ) (mx.map ρ)
    | _ => none
  | .fa off x => match ρ x with
    | .ptr (some p) => some (.ptr (some (p.1, p.2 + off)))
    | _ => none
  | .fl1 off x => match ρ x with
    | .agg cs => cs[off]?
    | _ => none
  | .flN off n x => match ρ x with
    | .agg cs => if off + n ≤ cs.length then some (.agg ((cs.drop off).take n)) else none
    | _ => none
  | .ia sz x i => iaV sz (ρ x) (ρ i)
  | .iaA n sz x i => match ρ x, ρ i with
    | .ptr (some p), .int _ j => if 0 ≤ j ∧ j < (n : Int) then some (.ptr (some (p.1, p.2 + j.toNat * sz))) else none
    | _, _ => none
  | .ixS x i => match ρ x, ρ i with
    | .str s, .int _ j => if 0 ≤ j then (s.data[j.toNat]?).map fun b => .int .u8 b.toNat else none
    | _, _ => none
  | .ixA1 n x i => match ρ x, ρ i with
    | .agg cs, .int _ j => if 0 ≤ j ∧ j < (n : Int) then cs[j.toNat]? else none
    | _, _ => none
  | .ixAN n sz x i => match ρ x, ρ i with
    | .agg cs, .int _ j => if 0 ≤ j ∧ j < (n : Int) ∧ j.toNat * sz + sz ≤ cs.length then some (.agg ((cs.drop (j.toNat * sz)).take sz)) else none
    | _, _ => none
  | .bld zero parts => (fillA zero (parts.map fun p => (p.1, p.2.1, ρ p.2.2))).map .agg
  | .len k x => lenV H k (ρ x)
  | .lenC n => some (.int .i64 n)
  | .cap x => match ρ x with
    | .slice _ _ (.inl c) => some (.int .i64 c)
    | _ => none
  | .mx x y => match ρ x, ρ y with
    | .int k a, .int _ b => some (.int k (if b > a then b else a))
    | _, _ => none
  | .mn x y => match ρ x, ρ y with
    | .int k a, .int _ b => some (.int k (if b < a then b else a))
    | _, _ => none
  | .ext x i => match ρ x with
    | .tuple vs => vs[i]?
    | _ => none
  | .look kk zero ok m k => lookA H kk zero ok (ρ m) (ρ k)

/-- Which block an operation reads. -/
def rdOf (r : RR) (ρ : AO → AV) : Option Nat :=
  match r with
  | .load1 a | .loadN _ a => match ρ a with
    | .ptr (some p) => some p.1
    | _ => none
  | .bStr x => match ρ x with
    | .slice (some p) _ _ => some p.1
    | _ => none
  | .sl _ x _ _ _ => match ρ x with
    | .slice (some p) _ (.inr _) => some p.1
    | _ => none
  | .len _ x => match ρ x with
    | .map (some r) => some r
    | _ => none
  | .look _ _ _ m _ => match ρ m with
    | .map (some r) => some r
    | _ => none
  | _ => none

/-! ### compiling -/
def szOf (P : Program) (t : TypeId) : Option Nat := (P.info? t).map (·.size)
def compOO : Option Operand → Option (Option AO)
  | none => some none
  | some x => (compO x).map some
def compParts : List (Nat × Operand) → (Nat → Option (Nat × Nat)) → Option (List (Nat × Nat × AO))
  | [], _ => some []
  | (i, x) :: r, pl => match pl i, compO x, compParts r pl with
    | some (off, n), some y, some l => some ((off, n, y) :: l)
    | _, _, _ => none
def placesOf (P : Program) : List Field → Option (List (Nat × Nat))
  | [] => some []
  | f :: r => match szOf P f.type, placesOf P r with
    | some n, some l => some ((f.offset, n) :: l)
    | _, _ => none
def ekOf : TypeDesc → Option EK
  | .bool => some .bool
  | .int _ => some .num
  | .string => some .str
  | .slice _ => some .slc
  | .map _ _ => some .mp
  | .pointer _ => some .ptr
  | _ => none
def ekT (P : Program) (t : TypeId) (d : TypeDesc) : Option EK :=
  if isAggD d then match flatT P 20 t with
    | some ks => if P.eqGuardType P.depth t = false then some (.agg ks) else none
    | none => none
  else ekOf d

def compR (P : Program) (o : Oper) : Option RR :=
  match o.op with
  | .move x | .assign x => (compO x).map .mv
  | .pick c a b => match compO c, compO a, compO b with
    | some c, some a, some b => some (.pick c a b)
    | _, _, _ => none
  | .load t a => match P.underlying t, szOf P t, compO a with
    | some d, some n, some a => some (if isAggD d then .loadN n a else .load1 a)
    | _, _, _ => none
  | .nilCheck x => (compO x).map .nilck
  | .binOp op t x y _ => match P.underlying t, compO x, compO y with
    | some d, some x, some y => (ekT P t d).map fun k => .bin k op x y
    | _, _, _ => none
  | .unOp op _ x => (compO x).map (.un op)
  | .convert s d x => match P.underlying s, P.underlying d, compO x with
    | some (.int _), some (.int k), some x => some (.toInt k x)
    | some .string, some .string, some x => some (.same x)
    | some (.slice e), some .string, some x => match P.underlying e with
      | some (.int .u8) => some (.bStr x)
      | _ => none
    | _, _, _ => none
  | .makeInterface t x => match P.underlying t, compO x with
    | some (.interface _), _ => none
    | some _, some x => some (.ifc t x)
    | _, _ => none
  | .makeFunc fn first captured => match compL first.toList, compL captured.toList with
    | some a, some b => some (.fnv fn a b)
    | _, _ => none
  | .slice t x lo hi mx => match P.underlying t, compO x, compOO lo, compOO hi, compOO mx with
    | some .string, some x, some lo, some hi, some none => some (.slS x lo hi)
    | some (.slice e), some x, some lo, some hi, some mx => (szOf P e).map fun n => .sl n x lo hi mx
    | some (.array n e), some x, some lo, some hi, some mx => (szOf P e).map fun s => .slA n s x lo hi mx
    | _, _, _, _, _ => none
  | .fieldAddr t x f => match P.underlying t, compO x with
    | some (.struct fs), some x => match fs[f]? with
      | some f => match szOf P f.type with
        | some n => if n = 0 then none else some (.fa f.offset x)
        | none => none
      | none => none
    | _, _ => none
  | .field t x f => match P.underlying t, compO x with
    | some (.struct fs), some x => match fs[f]? with
      | some f => match P.underlying f.type, szOf P f.type with
        | some d, some n => some (if isAggD d then .flN f.offset n x else .fl1 f.offset x)
        | _, _ => none
      | none => none
    | _, _ => none
  | .indexAddr t x i => match P.underlying t, compO x, compO i with
    | some (.slice e), some x, some i => (szOf P e).map fun n => .ia n x i
    | some (.array n e), some x, some i => (szOf P e).map fun s => .iaA n s x i
    | _, _, _ => none
  | .index t x i => match P.underlying t, compO x, compO i with
    | some .string, some x, some i => some (.ixS x i)
    | some (.array n e), some x, some i => match P.underlying e, szOf P e with
      | some d, some s => if isAggD d then some (.ixAN n s x i) else if s = 1 then some (.ixA1 n x i) else none
      | _, _ => none
    | _, _, _ => none
  | .build t parts => match (P.info? t).bind (·.zero) with
    | some z => match ground z, P.underlying t with
      | some z', some (.struct fs) => match placesOf P fs.toList with
        | some pl => (compParts parts.toList (pl[·]?)).map (.bld z'.cells)
        | none => none
      | some z', some (.array _ e) => match szOf P e with
        | some s => (compParts parts.toList (fun i => some (i * s, s))).map (.bld z'.cells)
        | none => none
      | _, _ => none
    | none => none
  | .extract x i => (compO x).map (.ext · i)
  | .lookup xt m k ok => match P.underlying xt, compO m, compO k with
    | some (.map kt et), some m, some k => match (P.underlying kt).bind keyK, ((P.info? et).bind (·.zero)).bind ground with
      | some kk, some z => some (.look kk z ok m k)
      | _, _ => none
    | _, _, _ => none
  | .call { callee := .builtin .len, args := args, argTypes := ts } => match ts[0]?.bind P.underlying, args.toList with
    | some .string, [x] => (compO x).map (.len .str)
    | some (.slice _), [x] => (compO x).map (.len .slc)
    | some (.map _ _), [x] => (compO x).map (.len .mp)
    | some (.array n _), [x] => (compO x).map fun _ => .lenC n
    | some (.pointer e), [x] => match P.underlying e, compO x with
      | some (.array n _), some _ => some (.lenC n)
      | _, _ => none
    | _, _ => none
  | .call { callee := .builtin .cap, args := args, argTypes := ts } => match ts[0]?.bind P.underlying, args.toList with
    | some (.slice _), [x] => (compO x).map .cap
    | _, _ => none
  | .call { callee := .builtin .max, args := args, argTypes := _ } => match args.toList with
    | [x, y] => match compO x, compO y with
      | some x, some y => some (.mx x y)
      | _, _ => none
    | _ => none
  | .call { callee := .builtin .min, args := args, argTypes := _ } => match args.toList with
    | [x, y] => match compO x, compO y with
      | some x, some y => some (.mn x y)
      | _, _ => none
    | _ => none
  | _ => none
end Go.AM
