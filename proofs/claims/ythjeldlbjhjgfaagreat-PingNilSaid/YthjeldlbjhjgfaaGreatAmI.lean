/- The abstract machine, part I: make, append, conversions to bytes, copy. -/
import Derived.Test.YthjeldlbjhjgfaaGreatAmH
namespace Go.AM
set_option linter.unusedSimpArgs false
set_option linter.unusedVariables false
open Go.RowKit

theorem wrap_i64 {n : Int} (h0 : 0 ≤ n) (h : n ≤ 9223372036854775807) : IntKind.i64.wrap n = n := by
  unfold IntKind.wrap
  simp [IntKind.signed, IntKind.bits]
  omega

theorem okL_repl {n k : Nat} {zs : List AV} (h : AV.okL n zs) : AV.okL n (List.replicate k zs).flatten := by
  rw [AV.okL_iff]; intro u hu
  obtain ⟨l, hl, hul⟩ := List.mem_flatten.1 hu
  rw [(List.mem_replicate.1 hl).2] at hul
  exact (AV.okL_iff _ zs).1 h u hul

theorem snd_mks {P : Program} {o : Oper} {N : Nat} {t : Fr} {H H' : AHeap} {v : AV} {ty e : TypeId} {x y : Operand} (hop : o.op = .makeSlice ty x y) {i : TypeInfo} {z : Value} {zs : List AV} {x' y' : AO}
    (hd : P.underlying ty = some (.slice e)) (hx : compO x = some x') (hy : compO y = some y') (hi : P.info? e = some i) (hz : i.zero = some z) (hzs : z.cells.size = i.size) (hg : groundL z.cells.toList = some zs)
    (h : evX (.mks i.size i.bytes zs x' y') (AO.ev t) H = some (v, H')) : XSnd P o N t H v H' := by
  refine XSnd.of_value fun W0 θ a w hr ho => ?_
  obtain ⟨e1, e2⟩ := compO_sound hx hr
  obtain ⟨f1, f2⟩ := compO_sound hy hr
  simp only [evX] at h
  split at h
  · rename_i k l k' c hl hc
    split at h
    · rename_i hcond
      obtain ⟨hl0, hlc, hcb, hc63, hzl⟩ := hcond
      cases h
      have hzz := groundL_sound hg θ H.next
      have hext := Th.set_ext θ H.next w.heap.size 0 0
      have hcok : AV.okL H.next (List.replicate c.toNat zs).flatten := okL_repl hzz.2
      have hzeros := zeros_eq z.cells c.toNat zs θ hzz.1
      refine ⟨θ.set H.next w.heap.size 0 0, w.alloc (.cells (AV.instL θ (List.replicate c.toNat zs).flatten).toArray e), Instr.makeSlice ty (a.eval x) (a.eval y), by simp only [execOp, hop], ?_, hext, by simp [AV.ok], by simp, rfl, ?_⟩
      · rw [e1, f1, hl, hc]
        have hb : (i.bytes : Int) * c ≤ 281474976710656 := by rw [Int.mul_comm]; omega
        have := run_make (P := P) w ty e i z hd hi hz k k' l c hl0 hlc hb hc63
        simp only [AV.inst]
        rw [this]
        unfold madeCells
        rw [← hzs, hzeros]
        simp [AV.inst, Th.addr, capOf]
      · exact ho.alloc (.cells _ none) (.cells (AV.instL θ _).toArray e) 0 hcok (by
          rw [← AV.instL_ext hext _ hcok, AV.instL_eq]; exact BlkAt.new _ _)
    · cases h
  · cases h

theorem snd_mkm {P : Program} {o : Oper} {N : Nat} {t : Fr} {H H' : AHeap} {v : AV} {ty : TypeId} (hop : o.op = .makeMap ty none) (h : evX .mkm (AO.ev t) H = some (v, H')) : XSnd P o N t H v H' := by
  refine XSnd.of_value fun W0 θ a w hr ho => ?_
  simp only [evX] at h; cases h
  have hext := Th.set_ext θ H.next w.heap.size 0 0
  refine ⟨θ.set H.next w.heap.size 0 0, w.alloc (.map #[] 0), Instr.makeMap ty none, by simp only [execOp, hop]; rfl, ?_, hext, by simp [AV.ok], by simp, rfl, ?_⟩
  · simp [Instr.makeMap, newObj, Sem.run, Result.andThen, AV.inst]
  · exact ho.alloc (.map [] 0) (.map #[] 0) 0 (fun e he => by cases he) rfl

/-- The bytes of a string, as cells. -/
theorem instL_bytes (θ : Th) (l : List UInt8) : AV.instL θ (l.map fun b => AV.int .u8 b.toNat) = l.map fun b => Value.int .u8 b.toNat := by
  induction l with
  | nil => rfl
  | cons b l ih => simp only [List.map_cons, AV.instL, ih]; rfl
theorem okL_bytes (n : Nat) (l : List UInt8) : AV.okL n (l.map fun b => AV.int .u8 b.toNat) := by
  induction l with
  | nil => trivial
  | cons b l ih => exact ⟨trivial, ih⟩

theorem snd_strB {P : Program} {o : Oper} {N : Nat} {t : Fr} {H H' : AHeap} {v : AV} {s d e : TypeId} {x : Operand} (hop : o.op = .convert s d x) {y : AO}
    (hs : P.underlying s = some .string) (hd : P.underlying d = some (.slice e)) (he : P.underlying e = some (.int .u8)) (hx : compO x = some y)
    (h : evX (.strB y) (AO.ev t) H = some (v, H')) : XSnd P o N t H v H' := by
  refine XSnd.of_value fun W0 θ a w hr ho => ?_
  obtain ⟨e1, e2⟩ := compO_sound hx hr
  simp only [evX] at h
  split at h
  · rename_i b hp
    cases h
    have hext := Th.set_ext θ H.next w.heap.size 0 (grownCap w b.size 0 e)
    refine ⟨θ.set H.next w.heap.size 0 (grownCap w b.size 0 e), Lib.bytesWorld w e b, convert s d (a.eval x), by simp only [execOp, hop], ?_, hext, by simp [AV.ok], by simp, rfl, ?_⟩
    · rw [e1, hp]
      simp only [AV.inst]
      rw [Lib.run_convert_string_bytes w s d e b hs hd he]
      simp [Th.addr, capOf]
    · have hge : b.size ≤ grownCap w b.size 0 e := grownCap_ge w _ _ _
      have hsz : (Lib.bytesCells w e b).size = grownCap w b.size 0 e := by
        simp only [Lib.bytesCells, Array.size_append, Array.size_map, Array.size_replicate]
        have : b.data.size = b.size := rfl
        omega
      have := ho.drew.alloc (.cells (b.data.toList.map fun b => AV.int .u8 b.toNat) (some 1)) (.cells (Lib.bytesCells w e b) e ((Lib.bytesCells w e b).size, (Lib.bytesCells w e b).size + 1)) (grownCap w b.size 0 e) (okL_bytes _ _) (by
        refine ⟨_, _, _, rfl, fun j v hj => ?_, ⟨?_, ?_⟩, fun j hj => by omega⟩
        · rw [List.getElem?_map] at hj
          cases hq : b.data.toList[j]? with
          | none => rw [hq] at hj; cases hj
          | some u =>
            rw [hq] at hj; cases hj
            have hlt : j < b.data.size := by
              have := (List.getElem?_eq_some_iff.1 hq).1; simpa using this
            rw [Array.getElem?_toList] at hq
            simp only [Lib.bytesCells, Array.getElem?_append, Array.size_map, if_pos hlt, Array.getElem?_map, hq]
            rfl
        · rw [Th.set_cap, Nat.mul_one]; exact hsz
        · rw [hsz]; simp only [List.length_map, Array.length_toList]; exact hge)
      have heq : Lib.bytesWorld w e b = w.drew.alloc (.cells (Lib.bytesCells w e b) e ((Lib.bytesCells w e b).size, (Lib.bytesCells w e b).size + 1)) := by
        unfold Lib.bytesWorld World.freeze World.alloc
        simp only [Nat.one_ne_zero, if_false]
        congr 1
        apply Array.ext_getElem?
        intro k
        simp only [Array.getElem?_modify, Array.getElem?_push, World.size_drew]
        by_cases hk : k = w.heap.size
        · subst hk; simp
        · have : ¬ (w.heap.size = k) := fun hh => hk hh.symm
          simp [hk, this]
      rw [heq]; exact this
  · cases h

/-! ### maps that are written -/
theorem cellEq_inst {kk : EK} {x y : AV} (h : cellEq kk x y = some true) (θ : Th) : x.inst θ = y.inst θ := by
  cases kk <;> cases x <;> cases y <;> simp only [cellEq] at h <;> first | (cases h; done) | skip
  · simp only [Option.some.injEq, beq_iff_eq] at h; rw [h]
  · split at h
    · rename_i e
      simp only [Option.some.injEq, beq_iff_eq] at h
      rw [e, h]
    · cases h
  · rename_i a b
    simp only [Option.some.injEq, beq_iff_eq] at h
    have : a = b := by
      cases a; cases b
      exact congrArg _ (Array.toList_inj.1 h)
    rw [this]
theorem findA_at {kk : EK} {k : AV} : ∀ {es : List (AV × AV × Nat)} {i j : Nat} {v : AV}, findA kk k es i = some (some (j, v)) → ∃ d e, j = i + d ∧ es[d]? = some e ∧ cellEq kk k e.1 = some true
  | [], _, _, _, h => by simp only [findA] at h; cases h
  | e :: es, i, j, v, h => by
    simp only [findA] at h
    split at h
    · rename_i hc; cases h; exact ⟨0, e, rfl, rfl, hc⟩
    · obtain ⟨d, e', h1, h2, h3⟩ := findA_at h
      exact ⟨d + 1, e', by omega, by simpa using h2, h3⟩
    · cases h
theorem keeps_key {P : Program} {w : World} {kk : EK} {x y : AV} (h : cellEq kk x y = some true) (θ : Th) : (Instr.keyThatStays (y.inst θ) (x.inst θ)).run P w = .ok (x.inst θ) w := by
  rw [← cellEq_inst h θ]
  cases kk <;> cases x <;> cases y <;> simp only [cellEq] at h <;> first | (cases h; done) | skip
  · exact MapKept.run_keyThatStays (d := .bool) trivial
  · exact MapKept.run_keyThatStays (d := .int _) rfl
  · exact MapKept.run_keyThatStays (d := .string) trivial
theorem map_modify_inst (θ : Th) (es : List (AV × AV × Nat)) (i : Nat) (f : AV × AV × Nat → AV × AV × Nat) (g : MapEntry → MapEntry) (h : ∀ e, g (instE θ e) = instE θ (f e)) : (es.map (instE θ)).modify i g = (es.modify i f).map (instE θ) := by
  apply List.ext_getElem?
  intro j
  simp only [List.getElem?_modify, List.getElem?_map]
  cases es[j]? with
  | none => rfl
  | some e => by_cases hij : i = j <;> simp [hij, h]
theorem map_erase_inst (θ : Th) : ∀ (es : List (AV × AV × Nat)) (i : Nat), (es.map (instE θ)).eraseIdx i = (es.eraseIdx i).map (instE θ)
  | [], i => by simp
  | e :: es, 0 => by simp
  | e :: es, i + 1 => by simp [map_erase_inst θ es i]

/-- A map of one's own that is another one. -/
theorem Own.putMap {W0 : Giv} {θ : Th} {H : AHeap} {w : World} (h : Own W0 θ H w) {r : Nat} {es es' : List (AV × AV × Nat)} {ck ck' : Nat} (hg : H.get r = some (.map es ck)) (hb : H.base ≤ r) (hok : Blk.ok H.next (.map es' ck')) :
    Own W0 θ (H.put r (.map es' ck')) { w with heap := w.heap.setIfInBounds (θ.blk r) (.map (es'.map (instE θ)).toArray ck') } := by
  obtain ⟨_, _, hrd, _, _⟩ := h.live _ _ hg rfl
  have hrd' : w.heap[θ.blk r]? = some (.map (es.map (instE θ)).toArray ck) := hrd
  obtain ⟨h1, h2⟩ := MapKept.heap_set (w := w) (o' := .map (es'.map (instE θ)).toArray ck') hrd'
  exact h.put hg rfl hb hok h1 rfl rfl rfl (by simp) h2

theorem snd_mupd {P : Program} {o : Oper} {N : Nat} {t : Fr} {H H' : AHeap} {v : AV} {mt kt et : TypeId} {m k x : Operand} (hop : o.op = .mapUpdate mt m k x ∨ o.op = .insert mt m k x) {d : TypeDesc} {kk : EK} {ym yk yx : AO}
    (hd : P.underlying mt = some (.map kt et)) (hdk : P.underlying kt = some d) (hk : keyK d = some kk) (hm : compO m = some ym) (hkc : compO k = some yk) (hx : compO x = some yx)
    (h : evX (.mupd kk ym yk yx) (AO.ev t) H = some (v, H')) : XSnd P o N t H v H' := by
  intro W0 θ a w hr ho
  obtain ⟨e1, e2⟩ := compO_sound hm hr
  obtain ⟨f1, f2⟩ := compO_sound hkc hr
  obtain ⟨g1, g2⟩ := compO_sound hx hr
  have hck := fun e => checkKey_plain (P := P) (w := w) hdk hk ((AO.ev t yk).inst θ) e 9999
  have hex : ∀ {w' : World}, (Instr.mapUpdate mt ((AO.ev t ym).inst θ) ((AO.ev t yk).inst θ) ((AO.ev t yx).inst θ)).run P w = .ok () w' → (execOp a.eval o).run P w = .ok .skip w' := fun {w'} hh => by
    rcases hop with hop | hop <;> (simp only [execOp, hop, e1, f1, g1]; simp [hh, Result.andThen])
  simp only [evX] at h
  split at h
  · rename_i r hq
    split at h
    · rename_i es ck hg
      split at h
      · rename_i hb
        obtain ⟨hrn, _, hrd, hbok, _⟩ := ho.live _ _ hg rfl
        have hrd' : w.heap[θ.blk r]? = some (.map (es.map (instE θ)).toArray ck) := hrd
        have hbok' : ∀ e ∈ es, AV.ok H.next e.1 ∧ AV.ok H.next e.2.1 := hbok
        split at h
        · rename_i i u hfa
          cases h
          obtain ⟨dd, e, hj, hed, hce⟩ := findA_at hfa
          simp only [Nat.zero_add] at hj
          subst hj
          have hf : (Instr.findKey kt ((AO.ev t yk).inst θ) (es.map (instE θ))).run P w = .ok (some (i, u.inst θ)) w := by
            simp [Instr.findKey, run_underlying hdk, Result.andThen, findA_now hk θ hfa]
          have hkey : ((((es.map (instE θ)).toArray[i]?).map (·.key)).getD ((AO.ev t yk).inst θ)) = e.1.inst θ := by
            simp [hed, instE]
          have hown := ho.putMap (es' := es.modify i fun e => (AO.ev t yk, AO.ev t yx, e.2.2)) (ck' := ck) hg hb (fun e' he' => by
            obtain ⟨n, hn⟩ := List.getElem?_of_mem he'
            rw [List.getElem?_modify] at hn
            cases hen : es[n]? with
            | none => rw [hen] at hn; cases hn
            | some e0 =>
              rw [hen] at hn
              by_cases hin : i = n
              · simp [hin] at hn; rw [← hn]; exact ⟨f2, g2⟩
              · simp [hin] at hn; rw [← hn]; exact hbok' e0 (List.mem_of_getElem? hen))
          refine ⟨θ, _, .skip, hex ?_, .inr ⟨rfl, rfl⟩, Th.Ext.refl _ _, trivial, Nat.le_refl _, rfl, hown⟩
          rw [hq]
          have hmod := map_modify_inst θ es i (fun e => (AO.ev t yk, AO.ev t yx, e.2.2)) (fun e => { e with key := (AO.ev t yk).inst θ, val := (AO.ev t yx).inst θ }) (fun _ => rfl)
          simp only [Instr.mapUpdate, AV.inst, Option.map_some, Sem.run_bind, run_underlying hd, MapKept.run_getObj_map hrd', Result.andThen, hck, hf, hkey, keeps_key hce θ, MapKept.run_setObj_map _ hrd', List.modify_toArray, hmod]
        · rename_i hfa
          cases h
          have hf : (Instr.findKey kt ((AO.ev t yk).inst θ) (es.map (instE θ))).run P w = .ok none w := by
            simp [Instr.findKey, run_underlying hdk, Result.andThen, findA_now hk θ hfa]
          have hown := ho.putMap (es' := es ++ [(AO.ev t yk, AO.ev t yx, ck)]) (ck' := ck + 1) hg hb (fun e' he' => by
            rcases List.mem_append.1 he' with he' | he'
            · exact hbok' e' he'
            · have : e' = (AO.ev t yk, AO.ev t yx, ck) := by simpa using he'
              rw [this]; exact ⟨f2, g2⟩)
          refine ⟨θ, _, .skip, hex ?_, .inr ⟨rfl, rfl⟩, Th.Ext.refl _ _, trivial, Nat.le_refl _, rfl, hown⟩
          rw [hq]
          simp only [Instr.mapUpdate, AV.inst, Option.map_some, Sem.run_bind, run_underlying hd, MapKept.run_getObj_map hrd', Result.andThen, hck, hf, MapKept.run_setObj_map _ hrd', List.push_toArray, List.map_append, List.map_cons, List.map_nil, instE]
        · cases h
      · cases h
    · cases h
  · cases h

theorem snd_mdel {P : Program} {o : Oper} {N : Nat} {t : Fr} {H H' : AHeap} {v : AV} {kt et : TypeId} {m k : Operand} {args : Array Operand} {ts : Array TypeId} (hop : o.op = .call { callee := .builtin .delete, args := args, argTypes := ts }) (ha : args.toList = [m, k])
    (ht : ts[0]?.bind P.underlying = some (.map kt et)) {d : TypeDesc} {kk : EK} {ym yk : AO} (hdk : P.underlying kt = some d) (hk : keyK d = some kk) (hm : compO m = some ym) (hkc : compO k = some yk)
    (h : evX (.mdel kk ym yk) (AO.ev t) H = some (v, H')) : XSnd P o N t H v H' := by
  intro W0 θ a w hr ho
  obtain ⟨e1, e2⟩ := compO_sound hm hr
  obtain ⟨f1, f2⟩ := compO_sound hkc hr
  obtain rfl := args_two ha
  obtain ⟨ty, hty, hd⟩ := tys_one ht
  have hty' : (ts[0]? : Option TypeId) = some ty := hty
  have hck := fun e => checkKey_plain (P := P) (w := w) hdk hk ((AO.ev t yk).inst θ) e 9999
  have hv : undefA.inst θ = .tuple #[] := rfl
  have hex : ∀ {w' : World}, (Builtin.delete_ ts o.type #[(AO.ev t ym).inst θ, (AO.ev t yk).inst θ]).run P w = .ok (.tuple #[]) w' → (execOp a.eval o).run P w = .ok (.value (.tuple #[])) w' := fun {w'} hh => by
    obtain ⟨cs, he⟩ := exec_builtin (a := a) hop
    rw [he, run_pure_bind]
    simp only [invoke, builtin, List.map_toArray, List.map_cons, List.map_nil, e1, f1]
    exact run_v' _ hh
  simp only [evX] at h
  split at h
  · rename_i hq
    cases h
    refine ⟨θ, w, .value (.tuple #[]), hex ?_, .inl (by rw [hv]), Th.Ext.refl _ _, trivial, Nat.le_refl _, rfl, ho⟩
    rw [hq]
    simp [Builtin.delete_, hty', run_underlying hd, AV.inst, hck, Result.andThen]
  · rename_i r hq
    split at h
    · rename_i es ck hg
      split at h
      · rename_i hb
        obtain ⟨hrn, _, hrd, hbok, _⟩ := ho.live _ _ hg rfl
        have hrd' : w.heap[θ.blk r]? = some (.map (es.map (instE θ)).toArray ck) := hrd
        have hbok' : ∀ e ∈ es, AV.ok H.next e.1 ∧ AV.ok H.next e.2.1 := hbok
        split at h
        · rename_i i u hfa
          cases h
          have hf : (Instr.findKey kt ((AO.ev t yk).inst θ) (es.map (instE θ))).run P w = .ok (some (i, u.inst θ)) w := by
            simp [Instr.findKey, run_underlying hdk, Result.andThen, findA_now hk θ hfa]
          have hown := ho.putMap (es' := es.eraseIdx i) (ck' := ck) hg hb (fun e' he' => hbok' e' (List.mem_of_mem_eraseIdx he'))
          refine ⟨θ, _, .value (.tuple #[]), hex ?_, .inl (by rw [hv]), Th.Ext.refl _ _, trivial, Nat.le_refl _, rfl, hown⟩
          rw [hq]
          simp [Builtin.delete_, hty', run_underlying hd, AV.inst, MapKept.run_getObj_map hrd', Result.andThen, hck, hf, MapKept.run_setObj_map _ hrd', map_erase_inst]
        · rename_i hfa
          cases h
          have hf : (Instr.findKey kt ((AO.ev t yk).inst θ) (es.map (instE θ))).run P w = .ok none w := by
            simp [Instr.findKey, run_underlying hdk, Result.andThen, findA_now hk θ hfa]
          have hown := ho.putMap (es' := es) (ck' := ck) hg hb hbok'
          refine ⟨θ, _, .value (.tuple #[]), hex ?_, .inl (by rw [hv]), Th.Ext.refl _ _, trivial, Nat.le_refl _, rfl, hown⟩
          rw [hq]
          simp [Builtin.delete_, hty', run_underlying hd, AV.inst, MapKept.run_getObj_map hrd', Result.andThen, hck, hf, MapKept.run_setObj_map _ hrd']
        · cases h
      · cases h
    · cases h
  · cases h

/-! ### iterators -/
theorem snd_rng {P : Program} {o : Oper} {N : Nat} {t : Fr} {H H' : AHeap} {v : AV} {ty : TypeId} {x : Operand} (hop : o.op = .range ty x) {str : Bool} {y : AO}
    (hd : (str = true ∧ P.underlying ty = some .string) ∨ (str = false ∧ ∃ kt et, P.underlying ty = some (.map kt et))) (hx : compO x = some y) (h : evX (.rng str y) (AO.ev t) H = some (v, H')) : XSnd P o N t H v H' := by
  refine XSnd.of_value fun W0 θ a w hr ho => ?_
  obtain ⟨e1, e2⟩ := compO_sound hx hr
  have hext := Th.set_ext θ H.next w.heap.size 0 0
  simp only [evX] at h
  split at h
  · rename_i s hp
    cases h
    have hd' : P.underlying ty = some .string := by rcases hd with ⟨_, h⟩ | ⟨h, _⟩ <;> first | exact h | cases h
    refine ⟨θ.set H.next w.heap.size 0 0, w.alloc (.stringIter s 0), Instr.range ty (a.eval x), by simp only [execOp, hop], ?_, hext, by simp [AV.ok], by simp, rfl, ?_⟩
    · rw [e1, hp]
      simp [Instr.range, run_underlying hd', AV.inst, newObj, Sem.run, Result.andThen, Th.addr]
    · exact ho.alloc (.strIter s 0) (.stringIter s 0) 0 trivial rfl
  · rename_i hp
    cases h
    obtain ⟨kt, et, hd'⟩ : ∃ kt et, P.underlying ty = some (.map kt et) := by rcases hd with ⟨h, _⟩ | ⟨_, h⟩ <;> first | exact h | cases h
    refine ⟨θ.set H.next w.heap.size 0 0, w.alloc (.mapIter none 0 #[] 0), Instr.range ty (a.eval x), by simp only [execOp, hop], ?_, hext, by simp [AV.ok], by simp, rfl, ?_⟩
    · rw [e1, hp]
      simp [Instr.range, run_underlying hd', AV.inst, newObj, Sem.run, Result.andThen, Th.addr]
    · exact ho.alloc (.mapIter none 0 [] 0) (.mapIter none 0 #[] 0) 0 (fun r hr => by cases hr) rfl
  · rename_i m hp
    split at h
    · rename_i es ck hg
      cases h
      obtain ⟨kt, et, hd'⟩ : ∃ kt et, P.underlying ty = some (.map kt et) := by rcases hd with ⟨h, _⟩ | ⟨_, h⟩ <;> first | exact h | cases h
      obtain ⟨hrn, _, hrd, _, _⟩ := ho.live _ _ hg rfl
      have hrd' : w.heap[θ.blk m]? = some (.map (es.map (instE θ)).toArray ck) := hrd
      refine ⟨θ.set H.next w.heap.size 0 0, w.alloc (.mapIter (some (θ.blk m)) ck #[] ck), Instr.range ty (a.eval x), by simp only [execOp, hop], ?_, hext, by simp [AV.ok], by simp, rfl, ?_⟩
      · rw [e1, hp]
        simp [Instr.range, run_underlying hd', AV.inst, newObj, Sem.run, Result.andThen, Th.addr, MapKept.run_getObj_map hrd']
      · refine ho.alloc (.mapIter (some m) ck [] ck) (.mapIter (some (θ.blk m)) ck #[] ck) 0 (fun r hr => by cases hr; exact hrn) ?_
        show some _ = some _
        simp [(hext m hrn).1]
    · cases h
  · cases h

theorem snd_ent {P : Program} {o : Oper} {N : Nat} {t : Fr} {H H' : AHeap} {v : AV} {x : Operand} (hop : o.op = .entry x) {y : AO} (hx : compO x = some y) (h : evX (.ent y) (AO.ev t) H = some (v, H')) : XSnd P o N t H v H' := by
  refine XSnd.of_value fun W0 θ a w hr ho => ?_
  obtain ⟨e1, e2⟩ := compO_sound hx hr
  simp only [evX] at h
  split at h
  · rename_i i hp
    split at h
    · rename_i m since seen stepped hgi
      split at h
      · rename_i es ck stamp hgm hlast
        split at h
        · rename_i hck
          split at h
          · rename_i e hfind
            cases h
            obtain ⟨_, hoff, hrdi, _, _⟩ := ho.live _ _ hgi rfl
            obtain ⟨hmn, _, hrdm, hbok, _⟩ := ho.live _ _ hgm rfl
            have hi' : w.heap[θ.blk i]? = some (.mapIter (some (θ.blk m)) since seen.toArray stepped) := hrdi
            have hm' : w.heap[θ.blk m]? = some (.map (es.map (instE θ)).toArray ck) := hrdm
            have hbok' : ∀ e ∈ es, AV.ok H.next e.1 ∧ AV.ok H.next e.2.1 := hbok
            have hmem := List.mem_of_find?_eq_some hfind
            refine ⟨θ, w, Instr.entry (a.eval x), by simp only [execOp, hop], ?_, Th.Ext.refl _ _, ⟨(hbok' e hmem).1, (hbok' e hmem).2, trivial⟩, Nat.le_refl _, rfl, ho⟩
            rw [e1, hp]
            have hf : (es.map (instE θ)).find? (fun e => e.born == stamp) = some (instE θ e) := by
              rw [List.find?_map]
              have : ((fun e : MapEntry => e.born == stamp) ∘ instE θ) = fun e => e.2.2 == stamp := funext fun _ => rfl
              rw [this, hfind]; rfl
            have hback : seen.toArray.back? = some stamp := by simp [hlast]
            subst hck
            simp [Instr.entry, AV.inst, AV.instL, Th.addr, hoff, getObj, Sem.run, hi', hm', Result.andThen, hback, hf, instE, hlast]
          · cases h
        · cases h
      · cases h
    · cases h
  · cases h

/-- A block that is no cells turns. -/
theorem Own.putObj {W0 : Giv} {θ : Th} {H : AHeap} {w : World} (h : Own W0 θ H w) {r : Nat} {b b' : Blk} (o : Obj) (hg : H.get r = some b) (hl : b.live = true) (hb : H.base ≤ r) (hok : b'.ok H.next) (hat : BlkAt θ r b' (some o)) :
    Own W0 θ (H.put r b') { w with heap := w.heap.setIfInBounds (θ.blk r) o } := by
  have hlt := h.lt hg hl
  exact h.put hg hl hb hok (by simpa [hlt] using hat) rfl rfl rfl (by simp) (fun k hk => by simp [Array.getElem?_setIfInBounds_ne (Ne.symm hk)])

theorem snd_nxs {P : Program} {o : Oper} {N : Nat} {t : Fr} {H H' : AHeap} {v : AV} {x : Operand} (hop : o.op = .next x true) {y : AO} (hx : compO x = some y) (h : evX (.nxs y) (AO.ev t) H = some (v, H')) : XSnd P o N t H v H' := by
  refine XSnd.of_value fun W0 θ a w hr ho => ?_
  obtain ⟨e1, e2⟩ := compO_sound hx hr
  simp only [evX] at h
  split at h
  · rename_i i hp
    split at h
    · rename_i s pos hgi
      obtain ⟨_, hoff, hrdi, _, _⟩ := ho.live _ _ hgi rfl
      have hi' : w.heap[θ.blk i]? = some (.stringIter s pos) := hrdi
      split at h
      · rename_i hlt
        split at h
        · rename_i hb
          cases h
          refine ⟨θ, _, Instr.next (a.eval x) true o.type, by simp only [execOp, hop], ?_, Th.Ext.refl _ _, ⟨trivial, trivial, trivial, trivial⟩, Nat.le_refl _, rfl, ho.putObj (b' := .strIter s (pos + (Utf8.decode s pos).2)) (.stringIter s (pos + (Utf8.decode s pos).2)) hgi rfl hb trivial rfl⟩
          rw [e1, hp]
          simp [Instr.next, AV.inst, AV.instL, Th.addr, hoff, getObj, setObj, Sem.run, hi', Result.andThen, hlt, goInt]
        · cases h
      · rename_i hlt
        cases h
        refine ⟨θ, w, Instr.next (a.eval x) true o.type, by simp only [execOp, hop], ?_, Th.Ext.refl _ _, ⟨trivial, trivial⟩, Nat.le_refl _, rfl, ho⟩
        rw [e1, hp]
        simp [Instr.next, AV.inst, AV.instL, Th.addr, hoff, getObj, Sem.run, hi', Result.andThen, hlt]
    · cases h
  · cases h
end Go.AM
