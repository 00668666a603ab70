/- The abstract machine, part H: operations that make or turn memory. -/
import Derived.Test.YthjeldlbjhjgfaaGreatAmG
import Derived.Laws.AppendOwn
import Derived.Lib.ConvBytes
import Derived.Laws.MakeOwn
namespace Go.AM
set_option linter.unusedSimpArgs false
set_option linter.unusedVariables false
open Go.RowKit

inductive RX where
  | box (x : AO)
  | store (n : Nat) (a x : AO)
  | bslc (zs : List AV) (len : Nat) (parts : List (Nat × Nat × AO))
  | mks (sz bytes : Nat) (zero : List AV) (l c : AO)
  | mkm
  | app (sz bytes : Nat) (zero : List AV) (s x : AO)
  | strB (x : AO)
  | copy (sz : Nat) (d s : AO)
  | clr (sz : Nat) (zero : List AV) (x : AO)
  | mupd (kk : EK) (m k x : AO)
  | mdel (kk : EK) (m k : AO)
  | rng (str : Bool) (x : AO)
  | ent (x : AO)
  | nxs (x : AO)

def splice (cs : List AV) (off : Nat) (new : List AV) : List AV := cs.take off ++ new ++ cs.drop (off + new.length)
theorem splice_length {cs : List AV} {off : Nat} {new : List AV} (h : off + new.length ≤ cs.length) : (splice cs off new).length = cs.length := by
  simp [splice]; omega

/-- The cells that an append lays behind, and how many elements they are. -/
def srcOf (H : AHeap) (sz : Nat) : AV → Option (Nat × List AV)
  | .slice none 0 _ => some (0, [])
  | .slice (some p) m _ => (H.range p (m * sz)).map fun l => (m, l)
  | .tail _ _ _ _ => some (0, [])
  | .str s => if sz = 1 then some (s.size, s.data.toList.map fun b => .int .u8 b.toNat) else none
  | _ => none

/-- An append that moves: behind the old cells the new ones, in a new block whose room is not known. -/
def appMove (H : AHeap) (sz bytes : Nat) (old : List AV) (n m : Nat) (new : List AV) : Option (AV × AHeap) :=
  if (n + m) * bytes ≤ 140737488355328 ∧ n + m ≤ 9223372036854775807 then some (.slice (some (H.next, 0)) (n + m) (.inr 0), H.alloc (.cells (old ++ new) (some sz))) else none

def evApp (H : AHeap) (sz bytes : Nat) (s x : AV) : Option (AV × AHeap) :=
  match srcOf H sz x with
  | none => none
  | some (m, new) =>
    if !(new.all (·.one)) then none else
    match s with
    | .slice none 0 (.inl 0) => if m = 0 then some (.slice none 0 (.inl 0), H) else appMove H sz bytes [] 0 m new
    | .slice (some p) n (.inl c) =>
      if m = 0 ∧ n ≤ c then some (.slice (some p) n (.inl c), H)
      else if n + m ≤ c then
        match H.get p.1 with
        | some (.cells cs room) =>
          if H.base ≤ p.1 ∧ p.2 + n * sz + new.length ≤ cs.length then some (.slice (some p) (n + m) (.inl c), H.put p.1 (.cells (splice cs (p.2 + n * sz) new) room)) else none
        | _ => none
      else match H.range p (n * sz) with
        | some old => appMove H sz bytes old n m new
        | none => none
    | .slice (some p) n (.inr k) =>
      match H.get p.1 with
      | some (.cells cs (some sz')) =>
        if sz' = sz ∧ p.2 = k * sz ∧ p.2 + n * sz ≤ cs.length ∧ H.base ≤ p.1 then
          if m = 0 then some (.slice (some p) n (.inr k), H)
          else if p.2 + n * sz + new.length ≤ cs.length then some (.slice (some p) (n + m) (.inr k), H.put p.1 (.cells (splice cs (p.2 + n * sz) new) (some sz)))
          else if k = 0 then
            appMove (H.put p.1 .dead) sz bytes (cs.take (n * sz)) n m new
          else none
        else none
      | _ => none
    | _ => none

def evX (r : RX) (ρ : AO → AV) (H : AHeap) : Option (AV × AHeap) :=
  match r with
  | .box x => some (.ptr (some (H.next, 0)), H.alloc (.cells (ρ x).cells none))
  | .store n a x => match ρ a with
    | .ptr (some p) => match H.get p.1 with
      | some (.cells cs room) =>
        if H.base ≤ p.1 ∧ (ρ x).cells.length = n ∧ p.2 + n ≤ cs.length ∧ (ρ x).cells.all (·.one) = true then some (undefA, H.put p.1 (.cells (splice cs p.2 (ρ x).cells) room)) else none
      | _ => none
    | _ => none
  | .bslc zs len parts => match fillA zs (parts.map fun p => (p.1, p.2.1, ρ p.2.2)) with
    | some cells => some (.slice (some (H.next, 0)) len (.inl len), H.alloc (.cells cells none))
    | none => none
  | .mks sz bytes zero l c => match ρ l, ρ c with
    | .int _ l, .int _ c =>
      if 0 ≤ l ∧ l ≤ c ∧ c * bytes ≤ 140737488355328 ∧ c ≤ 9223372036854775807 ∧ zero.length = sz then
        some (.slice (some (H.next, 0)) l.toNat (.inl c.toNat), H.alloc (.cells (List.replicate c.toNat zero).flatten none))
      else none
    | _, _ => none
  | .mkm => some (.map (some H.next), H.alloc (.map [] 0))
  | .app sz bytes _ s x => evApp H sz bytes (ρ s) (ρ x)
  | .strB x => match ρ x with
    | .str s => some (.slice (some (H.next, 0)) s.size (.inr 0), H.alloc (.cells (s.data.toList.map fun b => .int .u8 b.toNat) (some 1)))
    | _ => none
  | .copy sz d s => match ρ d with
    | .slice (some p) n c => match srcOf H sz (ρ s) with
      | some (m, _) => match (match ρ s with
          | .slice (some q) _ _ => H.range q (min m n * sz)
          | .str b => some ((b.data.toList.take (min m n)).map fun (b : UInt8) => AV.int .u8 b.toNat)
          | _ => some []), H.get p.1 with
        | some new, some (.cells cs room) =>
          if H.base ≤ p.1 ∧ p.2 + new.length ≤ cs.length ∧ new.all (·.one) = true then some (.int .i64 (min m n), H.put p.1 (.cells (splice cs p.2 new) room)) else none
        | _, _ => none
      | none => none
    | .slice none 0 _ => match srcOf H sz (ρ s) with
      | some _ => some (.int .i64 0, H)
      | none => none
    | _ => none
  | .clr sz zero x => match ρ x with
    | .slice none _ _ => some (undefA, H)
    | .tail _ _ _ _ => some (undefA, H)
    | .slice (some p) n _ => if n = 0 then some (undefA, H) else match H.get p.1 with
      | some (.cells cs room) =>
        if H.base ≤ p.1 ∧ p.2 + (List.replicate n zero).flatten.length ≤ cs.length ∧ (List.replicate n zero).flatten.all (·.one) = true then some (undefA, H.put p.1 (.cells (splice cs p.2 (List.replicate n zero).flatten) room)) else none
      | _ => none
    | _ => none
  | .mupd kk m k x => match ρ m with
    | .map (some r) => match H.get r with
      | some (.map es ck) => if H.base ≤ r then match findA kk (ρ k) es 0 with
          | some (some (i, _)) => some (undefA, H.put r (.map (es.modify i fun e => (ρ k, ρ x, e.2.2)) ck))
          | some none => some (undefA, H.put r (.map (es ++ [(ρ k, ρ x, ck)]) (ck + 1)))
          | none => none
        else none
      | _ => none
    | _ => none
  | .mdel kk m k => match ρ m with
    | .map none => some (undefA, H)
    | .map (some r) => match H.get r with
      | some (.map es ck) => if H.base ≤ r then match findA kk (ρ k) es 0 with
          | some (some (i, _)) => some (undefA, H.put r (.map (es.eraseIdx i) ck))
          | some none => some (undefA, H.put r (.map es ck))
          | none => none
        else none
      | _ => none
    | _ => none
  | .rng str x => match str, ρ x with
    | true, .str s => some (.ptr (some (H.next, 0)), H.alloc (.strIter s 0))
    | false, .map none => some (.ptr (some (H.next, 0)), H.alloc (.mapIter none 0 [] 0))
    | false, .map (some m) => match H.get m with
      | some (.map _ ck) => some (.ptr (some (H.next, 0)), H.alloc (.mapIter (some m) ck [] ck))
      | _ => none
    | _, _ => none
  | .ent x => match ρ x with
    | .ptr (some (i, 0)) => match H.get i with
      | some (.mapIter (some m) _ seen stepped) => match H.get m, seen.getLast? with
        | some (.map es ck), some stamp => if ck = stepped then match es.find? (fun e => e.2.2 == stamp) with
            | some e => some (.tuple [e.1, e.2.1], H)
            | none => none
          else none
        | _, _ => none
      | _ => none
    | _ => none
  | .nxs x => match ρ x with
    | .ptr (some (i, 0)) => match H.get i with
      | some (.strIter s pos) =>
        if pos < s.size then
          if H.base ≤ i then some (.tuple [.bool true, .int .i64 pos, .int .i32 (Utf8.decode s pos).1], H.put i (.strIter s (pos + (Utf8.decode s pos).2))) else none
        else some (.tuple [.bool false], H)
      | _ => none
    | _ => none

/-! ### compiling -/
def isSrcD : TypeDesc → Bool
  | .slice _ | .string => true
  | _ => false
def compX (P : Program) (o : Oper) : Option RX :=
  match o.op with
  | .alloc t => match (P.info? t).bind (·.zero) with
    | some z => (ground z).map fun z => .box (.cst z)
    | none => none
  | .box _ x => (compO x).map .box
  | .store t a x => match szOf P t, compO a, compO x with
    | some n, some a, some x => some (.store n a x)
    | _, _, _ => none
  | .buildSlice t len parts => match P.underlying t with
    | some (.slice e) => match szOf P e, (P.info? e).bind (·.zero) with
      | some s, some z => if len * s ≤ 16777216 ∧ z.cells.size = s then
          match groundL z.cells.toList, compParts parts.toList (fun i => some (i * s, s)) with
          | some zs, some ps => some (.bslc (List.replicate len zs).flatten len ps)
          | _, _ => none
        else none
      | _, _ => none
    | _ => none
  | .makeSlice t l c => match P.underlying t, compO l, compO c with
    | some (.slice e), some l, some c => match P.info? e with
      | some i => match i.zero with
        | some z => if z.cells.size = i.size then (groundL z.cells.toList).map fun zs => .mks i.size i.bytes zs l c else none
        | none => none
      | none => none
    | _, _, _ => none
  | .makeMap _ none => some .mkm
  | .range t x => match P.underlying t, compO x with
    | some .string, some x => some (.rng true x)
    | some (.map _ _), some x => some (.rng false x)
    | _, _ => none
  | .entry x => (compO x).map .ent
  | .next x true => (compO x).map .nxs
  | .mapUpdate mt m k x | .insert mt m k x => match P.underlying mt, compO m, compO k, compO x with
    | some (.map kt _), some m, some k, some x => ((P.underlying kt).bind keyK).map fun kk => .mupd kk m k x
    | _, _, _, _ => none
  | .call { callee := .builtin .delete, args := args, argTypes := ts } => match args.toList, ts[0]?.bind P.underlying with
    | [m, k], some (.map kt _) => match (P.underlying kt).bind keyK, compO m, compO k with
      | some kk, some m, some k => some (.mdel kk m k)
      | _, _, _ => none
    | _, _ => none
  | .convert s d x => match P.underlying s, P.underlying d, compO x with
    | some .string, some (.slice e), some x => match P.underlying e with
      | some (.int .u8) => some (.strB x)
      | _ => none
    | _, _, _ => none
  | .call { callee := .builtin .copy, args := args, argTypes := ts } => match args.toList, ts[0]?.bind P.underlying with
    | [d, s], some (.slice e) => match szOf P e, compO d, compO s with
      | some n, some d, some s => some (.copy n d s)
      | _, _, _ => none
    | _, _ => none
  | .call { callee := .builtin .clear, args := args, argTypes := ts } => match args.toList, ts[0]?.bind P.underlying with
    | [x], some (.slice e) => match (P.info? e).bind (·.zero), compO x with
      | some z, some x => (groundL z.cells.toList).map fun zs => .clr z.cells.size zs x
      | _, _ => none
    | _, _ => none
  | .call { callee := .builtin .append, args := args, argTypes := ts } => match args.toList, ts.toList with
    | [s, x], [t, u] => match P.underlying t, P.underlying u, compO s, compO x with
      | some (.slice e), some d, some s, some x => match P.info? e with
        | some i => match i.zero with
          | some z => if z.cells.size = i.size ∧ 0 < i.size ∧ isSrcD d = true then
              (groundL z.cells.toList).map fun zs => .app i.size i.bytes zs s x
            else none
          | none => none
        | none => none
      | _, _, _, _ => none
    | _, _ => none
  | _ => none

def XSnd (P : Program) (o : Oper) (N : Nat) (t : Fr) (H : AHeap) (v : AV) (H' : AHeap) : Prop :=
  ∀ W0 θ a w, RelA θ H.next N t a → Own W0 θ H w → ∃ θ' w' nx, (execOp a.eval o).run P w = .ok nx w' ∧ (nx = .value (v.inst θ') ∨ (nx = .skip ∧ v = undefA)) ∧
    Th.Ext H.next θ θ' ∧ v.ok H'.next ∧ H.next ≤ H'.next ∧ H'.base = H.base ∧ Own W0 θ' H' w'

theorem run_v' {P : Program} {w w' : World} (s : Sem Value) {v : Value} (h : s.run P w = .ok v w') : (do pure (Next.value (← s)) : Sem Next).run P w = .ok (.value v) w' := by
  simp [h, Result.andThen]

theorem XSnd.of_value {P : Program} {o : Oper} {N : Nat} {t : Fr} {H H' : AHeap} {v : AV}
    (h : ∀ W0 θ a w, RelA θ H.next N t a → Own W0 θ H w → ∃ θ' w' s, execOp a.eval o = (do pure (Next.value (← s))) ∧ (s : Sem Value).run P w = .ok (v.inst θ') w' ∧
      Th.Ext H.next θ θ' ∧ v.ok H'.next ∧ H.next ≤ H'.next ∧ H'.base = H.base ∧ Own W0 θ' H' w') : XSnd P o N t H v H' := fun W0 θ a w hr ho =>
  have ⟨θ', w', s, h1, h2, h3⟩ := h W0 θ a w hr ho
  ⟨θ', w', _, by rw [h1]; exact run_v' _ h2, .inl rfl, h3⟩

theorem run_newVar (P : Program) (ty : TypeId) (v : Value) (w : World) : (newVar ty v).run P w = .ok ⟨w.heap.size, 0, none⟩ (w.alloc (.cells v.cells ty)) := by
  simp [newVar, newRow, newObj, Sem.run]

/-- Cells laid in a new block. -/
theorem BlkAt.new {θ : Th} {i : Nat} (cs : List AV) (ty : TypeId) : BlkAt θ i (.cells cs none) (some (.cells (cs.map (AV.inst θ)).toArray ty)) :=
  ⟨_, _, _, rfl, fun j v hj => by simp [hj], by simp, fun j _ => by simp⟩

theorem cells_okL {n : Nat} {v : AV} (h : v.ok n) : AV.okL n v.cells := by
  rw [AV.okL_iff]; intro u hu
  cases v with
  | agg cs => exact (AV.okL_iff n cs).1 h u hu
  | raw x => cases x <;> simp [AV.cells] at hu <;> first | (rw [hu]; exact trivial) | (obtain ⟨_, _, rfl⟩ := hu; exact trivial)
  | _ => simp only [AV.cells, List.mem_singleton] at hu; rw [hu]; exact h

theorem snd_box {P : Program} {o : Oper} {N : Nat} {t : Fr} {H H' : AHeap} {v : AV} {x : AO} (hex : ∀ (W0 : Giv) (θ : Th) (a : Act) (w : World), RelA θ H.next N t a → ∃ ty : TypeId, ∃ s : Sem Value, execOp a.eval o = (do pure (Next.value (← s))) ∧
      s.run P w = .ok (.pointer (some ⟨w.heap.size, 0, none⟩)) (w.alloc (.cells ((x.ev t).inst θ).cells ty)) ∧ (x.ev t).ok H.next)
    (h : evX (.box x) (AO.ev t) H = some (v, H')) : XSnd P o N t H v H' := by
  simp only [evX] at h; cases h
  refine XSnd.of_value fun W0 θ a w hr ho => ?_
  obtain ⟨ty, s, h1, h2, h3⟩ := hex W0 θ a w hr
  have hext := Th.set_ext θ H.next w.heap.size 0 0
  refine ⟨θ.set H.next w.heap.size 0 0, w.alloc (.cells ((x.ev t).inst θ).cells ty), s, h1, ?_, hext, ?_, by simp, rfl, ?_⟩
  · rw [h2]; simp [AV.inst, Th.addr]
  · simp [AV.ok]
  · refine ho.alloc _ _ _ (cells_okL h3) ?_
    rw [← AV.inst_ext hext _ h3, AV.cells_inst]
    exact BlkAt.new _ _

theorem run_storeCells_any (P : Program) (g o : Nat) (ty : TypeId) (fz : Nat × Nat) : ∀ (vs : List Value) (i : Nat) (cur : Array Value) (w : World), w.heap[g]? = some (.cells cur ty fz) → o + i + vs.length ≤ cur.size →
    (∀ j, j < cur.size → ¬ (fz.1 ≤ j ∧ j < fz.2)) → (∀ v ∈ vs, v.oneCell' = true) →
    (storeCells ⟨g, o, none⟩ vs i).run P w = .ok () (w.setRow g (cur.toList.take (o + i) ++ vs ++ cur.toList.drop (o + i + vs.length)).toArray)
  | [], i, cur, w, hg, _, _, _ => by
    simp only [storeCells, List.append_nil, List.length_nil, Nat.add_zero, List.take_append_drop, Array.toArray_toList]
    rw [setRow_self w g cur ty fz hg]
    rfl
  | v :: rest, i, cur, w, hg, hl, hf, h1 => by
    have hi : o + i < cur.size := by simp at hl; omega
    have hadd : (⟨g, o, none⟩ : Addr).add i = ⟨g, o + i, none⟩ := Addr.add_lit _ _ _
    have hcell : w.cell? ⟨g, o + i, none⟩ = some cur[o + i] := by simp [World.cell?, hg, hi]
    have hfro : w.frozen? ⟨g, o + i, none⟩ = false := by
      have := hf (o + i) hi
      simp only [World.frozen?, hg]
      cases hb : (decide (fz.1 ≤ o + i) && decide (o + i < fz.2)) with
      | false => rfl
      | true => simp at hb; exact absurd hb this
    have hst : (store ((⟨g, o, none⟩ : Addr).add i) v).run P w = .ok () (w.setRow g (cur.setIfInBounds (o + i) v)) := by
      rw [hadd, run_store P w _ v _ (h1 v (by simp)), hcell]
      simp [hfro, setCell_eq_setRow w g (o + i) cur ty fz v hg]
    have ih := run_storeCells_any P g o ty fz rest (i + 1) (cur.setIfInBounds (o + i) v) (w.setRow g (cur.setIfInBounds (o + i) v)) (setRow_heap w g cur _ ty _ hg) (by simp at hl ⊢; omega) (by simpa using hf) (fun x hx => h1 x (by simp [hx]))
    simp only [storeCells, Sem.run_bind, hst, Result.andThen_ok, ih, setRow_setRow]
    congr 3
    have e := list_seg_step cur.toList (o + i) v rest (by simp at hl ⊢; omega)
    simpa [Array.toList_setIfInBounds, Nat.add_assoc] using e

/-- Cells laid over cells of a block of one's own. -/
theorem Own.splice {W0 : Giv} {θ : Th} {H : AHeap} {w : World} (h : Own W0 θ H w) (P : Program) {p : Nat × Nat} {cs : List AV} {room : Option Nat} (hg : H.get p.1 = some (.cells cs room)) (hb : H.base ≤ p.1)
    {new : List AV} (hle : p.2 + new.length ≤ cs.length) (hok : AV.okL H.next new) (h1 : new.all (·.one) = true) :
    ∃ w', (storeCells (θ.addr p) (AV.instL θ new)).run P w = .ok () w' ∧ Own W0 θ (H.put p.1 (.cells (splice cs p.2 new) room)) w' := by
  obtain ⟨hn, h0, hrd, hbok, hbb⟩ := h.live _ _ hg rfl
  obtain ⟨c, e, f, ho, hc, hroom, hf⟩ := hrd.cells_at (hbb hb).2
  have hsz : cs.length ≤ c.size := by cases room with
    | none => simp only at hroom; omega
    | some sz => exact hroom.2
  have hrun := run_storeCells_any P (θ.blk p.1) p.2 e f (AV.instL θ new) 0 c w ho (by rw [AV.instL_eq, List.length_map]; omega) hf (fun v hv => by
    rw [AV.instL_eq] at hv
    obtain ⟨u, hu, rfl⟩ := List.mem_map.1 hv
    exact AV.one_inst (List.all_eq_true.1 h1 u hu))
  have haddr : θ.addr p = ⟨θ.blk p.1, p.2, none⟩ := by simp [Th.addr, h0]
  rw [haddr]
  refine ⟨_, hrun, ?_⟩
  have hheap := setRow_heap w (θ.blk p.1) c (c.toList.take (p.2 + 0) ++ AV.instL θ new ++ c.toList.drop (p.2 + 0 + (AV.instL θ new).length)).toArray e f ho
  have hlen : (AV.instL θ new).length = new.length := by rw [AV.instL_eq, List.length_map]
  refine h.put hg rfl hb ?_ ?_ rfl rfl rfl ?_ ?_
  · show AV.okL _ _
    rw [AV.okL_iff] at hok ⊢
    intro v hv
    simp only [AM.splice, List.mem_append] at hv
    rcases hv with (hv | hv) | hv
    · exact (AV.okL_iff _ cs).1 hbok v (List.mem_of_mem_take hv)
    · exact hok v hv
    · exact (AV.okL_iff _ cs).1 hbok v (List.mem_of_mem_drop hv)
  · refine ⟨_, e, f, hheap, fun j v hj => ?_, ?_, ?_⟩
    · simp only [Nat.add_zero, hlen]
      simp only [AM.splice, List.getElem?_append, List.length_append, List.length_take] at hj
      simp only [List.getElem?_toArray, List.getElem?_append, List.length_append, List.length_take, hlen, Array.length_toList]
      have e1 : min p.2 cs.length = p.2 := by omega
      have e2 : min p.2 c.size = p.2 := by omega
      simp only [e1] at hj
      simp only [e2]
      by_cases j1 : j < p.2 + new.length
      · rw [if_pos j1] at hj ⊢
        by_cases j2 : j < p.2
        · rw [if_pos j2] at hj ⊢
          rw [List.getElem?_take, if_pos j2] at hj ⊢
          rw [Array.getElem?_toList]; exact hc j v hj
        · rw [if_neg j2] at hj ⊢
          rw [AV.instL_eq, List.getElem?_map, hj]; rfl
      · rw [if_neg j1] at hj ⊢
        rw [List.getElem?_drop] at hj ⊢
        rw [Array.getElem?_toList]; exact hc _ v hj
    · have hs : (c.toList.take (p.2 + 0) ++ AV.instL θ new ++ c.toList.drop (p.2 + 0 + (AV.instL θ new).length)).toArray.size = c.size := by
        simp [hlen]; omega
      rw [hs]
      cases room with
      | none => simp only at hroom ⊢; rw [splice_length hle]; exact hroom
      | some sz => simp only at hroom ⊢; rw [splice_length hle]; exact hroom
    · intro j hj
      refine hf j ?_
      simp [hlen] at hj; omega
  · simp [World.setRow]
  · intro k hk
    exact setRow_other w (θ.blk p.1) k _ hk

theorem okL_all {n : Nat} {v : AV} (h : v.ok n) : AV.okL n v.cells := cells_okL h

theorem snd_store {P : Program} {o : Oper} {N : Nat} {t : Fr} {H H' : AHeap} {v : AV} {ty : TypeId} {x y : Operand} (hop : o.op = .store ty x y) {m : Nat} {x' y' : AO} (hs : szOf P ty = some m) (hx : compO x = some x') (hy : compO y = some y')
    (h : evX (.store m x' y') (AO.ev t) H = some (v, H')) : XSnd P o N t H v H' := by
  intro W0 θ a w hr ho
  obtain ⟨e1, e2⟩ := compO_sound hx hr
  obtain ⟨f1, f2⟩ := compO_sound hy hr
  simp only [evX] at h
  split at h
  · rename_i p hp
    split at h
    · rename_i cs room hg
      split at h
      · rename_i hc
        obtain ⟨hb, hlen, hle, h1⟩ := hc
        cases h
        obtain ⟨w', hw, hown⟩ := ho.splice P hg hb (by omega) (cells_okL f2) h1
        refine ⟨θ, w', .skip, ?_, .inr ⟨rfl, rfl⟩, Th.Ext.refl _ _, trivial, Nat.le_refl _, rfl, hown⟩
        simp only [execOp, hop, e1, f1, hp]
        have hcells : ((y'.ev t).inst θ).cells.toList = AV.instL θ (y'.ev t).cells := by rw [AV.cells_inst, AV.instL_eq]
        have hsize : ((y'.ev t).inst θ).cells.size = m := by rw [AV.cells_inst]; simpa using hlen
        simp only [Sem.run_bind, AV.inst, Option.map_some, Instr.storeAt, Instr.sureAddr, Sem.run_pure, Result.andThen, storeVar, run_sizeOf hs, hsize, ne_eq, not_true_eq_false, if_false, hcells, hw]
      · cases h
    · cases h
  · cases h

theorem fill_new {P : Program} {θ : Th} {n N : Nat} {t : Fr} {a : Act} {zs cells : List AV} {ps : List (Nat × Nat × AO)} {parts : Array (Nat × Operand)} {pl : Nat → Option (Nat × Nat)}
    (hf : fillA zs (ps.map fun p => (p.1, p.2.1, AO.ev t p.2.2)) = some cells) (hc : compParts parts.toList pl = some ps) (hr : RelA θ n N t a) (hz : AV.okL n zs) :
    Instr.fill pl (AV.instL θ zs).toArray (parts.map fun (i, x) => (i, a.eval x)).toList = some (AV.instL θ cells).toArray ∧ AV.okL n cells := by
  obtain ⟨hl, hk⟩ := compParts_sound hc hr
  refine ⟨fillA_sound (θ := θ) (ps.map fun p => (p.1, p.2.1, AO.ev t p.2.2)) zs cells (parts.map fun (i, x) => (i, a.eval x)).toList pl hf (by simp [hl]) (fun k i x hki => ?_), okL_fill _ _ _ hf hz (fun p hp => ?_)⟩
  · simp only [Array.toList_map, List.getElem?_map] at hki
    cases hq : parts.toList[k]? with
    | none => rw [hq] at hki; cases hki
    | some q =>
      obtain ⟨i0, x0⟩ := q
      rw [hq] at hki; cases hki
      obtain ⟨off, m, y, h1, h2, h3⟩ := hk k i0 x0 hq
      exact ⟨off, m, AO.ev t y, by simp [h1], h2, (compO_sound h3 hr).1⟩
  · obtain ⟨q, hq, rfl⟩ := List.mem_map.1 hp
    obtain ⟨k, hk', hkq⟩ := List.getElem_of_mem hq
    have hlt : k < parts.toList.length := by omega
    obtain ⟨off, m, y, h1, h2, h3⟩ := hk k (parts.toList[k]).1 (parts.toList[k]).2 (by rw [List.getElem?_eq_getElem hlt])
    rw [List.getElem?_eq_getElem hk', hkq] at h1
    cases h1
    exact (compO_sound h3 hr).2

theorem zeros_eq (z : Array Value) (len : Nat) (zs : List AV) (θ : Th) (hz : AV.instL θ zs = z.toList) :
    (Array.range (len * z.size)).map (fun i => z[i % z.size]!) = (AV.instL θ (List.replicate len zs).flatten).toArray := by
  have hlz : zs.length = z.size := by have := congrArg List.length hz; simpa [AV.instL_eq] using this
  apply Array.ext'
  rw [AV.instL_eq]
  simp only [Array.toList_map, Array.toList_range, List.map_flatten, List.map_replicate]
  rw [← AV.instL_eq, hz]
  rw [← Array.length_toList]
  generalize hL : z.toList = L
  have hget : ∀ i : Nat, z[i % L.length]! = L[i % L.length]! := by intro i; rw [← hL]; simp [getElem!_def]
  have : (List.range (len * L.length)).map (fun i => z[i % L.length]!) = (List.range (len * L.length)).map (fun i => L[i % L.length]!) := List.map_congr_left fun i _ => hget i
  rw [this]
  clear this hget hL hz hlz
  induction len with
  | zero => simp
  | succ k ih =>
    rw [Nat.succ_mul, List.range_add, List.map_append, ih, List.replicate_succ', List.flatten_append]
    congr 1
    simp only [List.flatten_cons, List.flatten_nil, List.append_nil, List.map_map]
    apply List.ext_getElem
    · simp
    · intro j h1 h2
      simp only [List.getElem_map, List.getElem_range, Function.comp]
      have hj : j < L.length := h2
      rw [Nat.mul_comm, Nat.mul_add_mod, Nat.mod_eq_of_lt hj]
      simp [hj]

theorem snd_bslc {P : Program} {o : Oper} {N : Nat} {t : Fr} {H H' : AHeap} {v : AV} {ty e : TypeId} {len : Nat} {parts : Array (Nat × Operand)} (hop : o.op = .buildSlice ty len parts) {s : Nat} {z : Value} {zs : List AV} {ps : List (Nat × Nat × AO)}
    (hd : P.underlying ty = some (.slice e)) (hs : szOf P e = some s) (hz : (P.info? e).bind (·.zero) = some z) (hle : len * s ≤ 16777216) (hzs : z.cells.size = s) (hg : groundL z.cells.toList = some zs)
    (hc : compParts parts.toList (fun i => some (i * s, s)) = some ps) (h : evX (.bslc (List.replicate len zs).flatten len ps) (AO.ev t) H = some (v, H')) : XSnd P o N t H v H' := by
  refine XSnd.of_value fun W0 θ a w hr ho => ?_
  simp only [evX] at h
  split at h
  · rename_i cells hf
    cases h
    have hzz := groundL_sound hg θ H.next
    have hzok : AV.okL H.next (List.replicate len zs).flatten := by
      rw [AV.okL_iff]; intro u hu
      obtain ⟨l, hl, hul⟩ := List.mem_flatten.1 hu
      rw [(List.mem_replicate.1 hl).2] at hul
      exact (AV.okL_iff _ zs).1 hzz.2 u hul
    obtain ⟨hfill, hcok⟩ := fill_new (P := P) hf hc hr hzok
    have hext := Th.set_ext θ H.next w.heap.size 0 0
    have hzeros := zeros_eq z.cells len zs θ hzz.1
    rw [hzs] at hzeros
    refine ⟨θ.set H.next w.heap.size 0 0, w.alloc (.cells (AV.instL θ cells).toArray e), Instr.buildSlice ty len (parts.map fun (i, x) => (i, a.eval x)), by simp only [execOp, hop], ?_, hext, by simp [AV.ok], by simp, rfl, ?_⟩
    · unfold Instr.buildSlice
      have hno : ¬ (len * s > 2 ^ 24) := by omega
      simp only [Sem.run_bind, run_underlying hd, Result.andThen, run_sizeOf hs, if_neg hno]
      have hmk : (do let a ← newRow e (AV.instL θ cells).toArray; pure (Value.slice (some a) len len) : Sem Value).run P w =
          .ok (.slice (some ⟨w.heap.size, 0, none⟩) len len) (w.alloc (.cells (AV.instL θ cells).toArray e)) := by
        simp [newRow, newObj, Sem.run, Result.andThen]
      have hres : AV.inst (θ.set H.next w.heap.size 0 0) (.slice (some (H.next, 0)) len (.inl len)) = .slice (some ⟨w.heap.size, 0, none⟩) len len := by
        simp [AV.inst, Th.addr, capOf]
      rw [hres]
      by_cases h0 : len * s = 0
      · simp only [h0, if_true, run_pure_bind]
        have : (Array.range 0).map (fun x => (#[] : Array Value)[x % (#[] : Array Value).size]!) = (AV.instL θ (List.replicate len zs).flatten).toArray := by
          rw [← hzeros, h0]; simp
        rw [this]
        have hf' := hfill
        simp only at hf'
        simp only [hf']
        exact hmk
      · simp only [h0, if_false, Sem.run_bind, run_zeroValue hz, Result.andThen, Sem.run_pure]
        rw [hzs, hzeros]
        simp only [hfill]
        simpa [Result.andThen] using hmk
    · have := ho.alloc (.cells cells none) (.cells (AV.instL θ cells).toArray e) 0 hcok (by
        rw [← AV.instL_ext hext cells hcok, AV.instL_eq]; exact BlkAt.new _ _)
      exact this
  · cases h
end Go.AM
