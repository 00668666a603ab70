/- The abstract machine, part I: make, append, conversions to bytes, copy. -/
import Derived.Test.YtjfjmlglgdhkoaaAmH
namespace Go.AM
set_option linter.unusedSimpArgs false
set_option linter.unusedVariables false
open Go.RowKit

theorem wrap_i64 {n : Int} (h0 : 0 ≤ n) (h : n ≤ 9223372036854775807) : IntKind.i64.wrap n = n := by
  unfold IntKind.wrap
  simp [IntKind.signed, IntKind.bits]
  omega

theorem okL_repl {n k : Nat} {zs : List AV} (h : AV.okL n zs) : AV.okL n (List.replicate k zs).flatten := by
  rw [AV.okL_iff]; intro u hu
  obtain ⟨l, hl, hul⟩ := List.mem_flatten.1 hu
  rw [(List.mem_replicate.1 hl).2] at hul
  exact (AV.okL_iff _ zs).1 h u hul

theorem snd_mks {P : Program} {o : Oper} {N : Nat} {t : Fr} {H H' : AHeap} {v : AV} {ty e : TypeId} {x y : Operand} (hop : o.op = .makeSlice ty x y) {i : TypeInfo} {z : Value} {zs : List AV} {x' y' : AO}
    (hd : P.underlying ty = some (.slice e)) (hx : compO x = some x') (hy : compO y = some y') (hi : P.info? e = some i) (hz : i.zero = some z) (hzs : z.cells.size = i.size) (hg : groundL z.cells.toList = some zs)
    (h : evX (.mks i.size i.bytes zs x' y') (AO.ev t) H = some (v, H')) : XSnd P o N t H v H' := by
  refine XSnd.of_value fun W0 θ a w hr ho => ?_
  obtain ⟨e1, e2⟩ := compO_sound hx hr
  obtain ⟨f1, f2⟩ := compO_sound hy hr
  simp only [evX] at h
  split at h
  · rename_i k l k' c hl hc
    split at h
    · rename_i hcond
      obtain ⟨hl0, hlc, hcb, hc63, hzl⟩ := hcond
      cases h
      have hzz := groundL_sound hg θ H.next
      have hext := Th.set_ext θ H.next w.heap.size 0 0
      have hcok : AV.okL H.next (List.replicate c.toNat zs).flatten := okL_repl hzz.2
      have hzeros := zeros_eq z.cells c.toNat zs θ hzz.1
      refine ⟨θ.set H.next w.heap.size 0 0, w.alloc (.cells (AV.instL θ (List.replicate c.toNat zs).flatten).toArray e), Instr.makeSlice ty (a.eval x) (a.eval y), by simp only [execOp, hop], ?_, hext, by simp [AV.ok], by simp, rfl, ?_⟩
      · rw [e1, f1, hl, hc]
        have hb : (i.bytes : Int) * c ≤ 281474976710656 := by rw [Int.mul_comm]; omega
        have := run_make (P := P) w ty e i z hd hi hz k k' l c hl0 hlc hb hc63
        simp only [AV.inst]
        rw [this]
        unfold madeCells
        rw [← hzs, hzeros]
        simp [AV.inst, Th.addr, capOf]
      · exact ho.alloc (.cells _ none) (.cells (AV.instL θ _).toArray e) 0 hcok (by
          rw [← AV.instL_ext hext _ hcok, AV.instL_eq]; exact BlkAt.new _ _)
    · cases h
  · cases h

theorem snd_mkm {P : Program} {o : Oper} {N : Nat} {t : Fr} {H H' : AHeap} {v : AV} {ty : TypeId} (hop : o.op = .makeMap ty none) (h : evX .mkm (AO.ev t) H = some (v, H')) : XSnd P o N t H v H' := by
  refine XSnd.of_value fun W0 θ a w hr ho => ?_
  simp only [evX] at h; cases h
  have hext := Th.set_ext θ H.next w.heap.size 0 0
  refine ⟨θ.set H.next w.heap.size 0 0, w.alloc (.map #[] 0), Instr.makeMap ty none, by simp only [execOp, hop]; rfl, ?_, hext, by simp [AV.ok], by simp, rfl, ?_⟩
  · simp [Instr.makeMap, newObj, Sem.run, Result.andThen, AV.inst]
  · exact ho.alloc (.map [] 0) (.map #[] 0) 0 (fun e he => by cases he) rfl

/-- The bytes of a string, as cells. -/
theorem instL_bytes (θ : Th) (l : List UInt8) : AV.instL θ (l.map fun b => AV.int .u8 b.toNat) = l.map fun b => Value.int .u8 b.toNat := by
  induction l with
  | nil => rfl
  | cons b l ih => simp only [List.map_cons, AV.instL, ih]; rfl
theorem okL_bytes (n : Nat) (l : List UInt8) : AV.okL n (l.map fun b => AV.int .u8 b.toNat) := by
  induction l with
  | nil => trivial
  | cons b l ih => exact ⟨trivial, ih⟩

theorem snd_strB {P : Program} {o : Oper} {N : Nat} {t : Fr} {H H' : AHeap} {v : AV} {s d e : TypeId} {x : Operand} (hop : o.op = .convert s d x) {y : AO}
    (hs : P.underlying s = some .string) (hd : P.underlying d = some (.slice e)) (he : P.underlying e = some (.int .u8)) (hx : compO x = some y)
    (h : evX (.strB y) (AO.ev t) H = some (v, H')) : XSnd P o N t H v H' := by
  refine XSnd.of_value fun W0 θ a w hr ho => ?_
  obtain ⟨e1, e2⟩ := compO_sound hx hr
  simp only [evX] at h
  split at h
  · rename_i b hp
    cases h
    have hext := Th.set_ext θ H.next w.heap.size 0 (grownCap w b.size 0 e)
    refine ⟨θ.set H.next w.heap.size 0 (grownCap w b.size 0 e), Lib.bytesWorld w e b, convert s d (a.eval x), by simp only [execOp, hop], ?_, hext, by simp [AV.ok], by simp, rfl, ?_⟩
    · rw [e1, hp]
      simp only [AV.inst]
      rw [Lib.run_convert_string_bytes w s d e b hs hd he]
      simp [Th.addr, capOf]
    · have hge : b.size ≤ grownCap w b.size 0 e := grownCap_ge w _ _ _
      have hsz : (Lib.bytesCells w e b).size = grownCap w b.size 0 e := by
        simp only [Lib.bytesCells, Array.size_append, Array.size_map, Array.size_replicate]
        have : b.data.size = b.size := rfl
        omega
      have := ho.drew.alloc (.cells (b.data.toList.map fun b => AV.int .u8 b.toNat) (some 1)) (.cells (Lib.bytesCells w e b) e ((Lib.bytesCells w e b).size, (Lib.bytesCells w e b).size + 1)) (grownCap w b.size 0 e) (okL_bytes _ _) (by
        refine ⟨_, _, _, rfl, fun j v hj => ?_, ⟨?_, ?_⟩, fun j hj => by omega⟩
        · rw [List.getElem?_map] at hj
          cases hq : b.data.toList[j]? with
          | none => rw [hq] at hj; cases hj
          | some u =>
            rw [hq] at hj; cases hj
            have hlt : j < b.data.size := by
              have := (List.getElem?_eq_some_iff.1 hq).1; simpa using this
            rw [Array.getElem?_toList] at hq
            simp only [Lib.bytesCells, Array.getElem?_append, Array.size_map, if_pos hlt, Array.getElem?_map, hq]
            rfl
        · rw [Th.set_cap, Nat.mul_one]; exact hsz
        · rw [hsz]; simp only [List.length_map, Array.length_toList]; exact hge)
      have heq : Lib.bytesWorld w e b = w.drew.alloc (.cells (Lib.bytesCells w e b) e ((Lib.bytesCells w e b).size, (Lib.bytesCells w e b).size + 1)) := by
        unfold Lib.bytesWorld World.freeze World.alloc
        simp only [Nat.one_ne_zero, if_false]
        congr 1
        apply Array.ext_getElem?
        intro k
        simp only [Array.getElem?_modify, Array.getElem?_push, World.size_drew]
        by_cases hk : k = w.heap.size
        · subst hk; simp
        · have : ¬ (w.heap.size = k) := fun hh => hk hh.symm
          simp [hk, this]
      rw [heq]; exact this
  · cases h
end Go.AM
