/- The abstract machine, part F: the rest of the model's reading operations. -/
import Derived.Test.YthjeldlbjhjgfaaGreatAmE
import Derived.Laws.BytesString
import Derived.Laws.BytesArg
import Derived.MapKept
namespace Go.AM
set_option linter.unusedSimpArgs false
set_option linter.unusedVariables false
open Go.RowKit

section
variable {P : Program} {o : Oper} {θ : Th} {n N : Nat} {t : Fr} {a : Act} {H : AHeap} {w : World} {v : AV}

/-- What is to be shown of each. -/
def RSnd (P : Program) (o : Oper) (θ : Th) (n : Nat) (a : Act) (w : World) (v : AV) : Prop := (execOp a.eval o).run P w = .ok (.value (v.inst θ)) w ∧ v.ok n

theorem snd_mv {x : Operand} (ho : o.op = .move x ∨ o.op = .assign x) {y : AO} (hx : compO x = some y) (hr : RelA θ n N t a) (h : evR (.mv y) (AO.ev t) H = some v) : RSnd P o θ n a w v := by
  obtain ⟨e1, e2⟩ := compO_sound hx hr
  simp only [evR] at h; cases h
  refine ⟨?_, e2⟩
  rcases ho with ho | ho <;> (simp only [execOp, ho, e1]; rfl)

theorem snd_pick {c x x' : Operand} (ho : o.op = .pick c x x') {yc y y' : AO} (hc : compO c = some yc) (hx : compO x = some y) (hx' : compO x' = some y') (hr : RelA θ n N t a)
    (h : evR (.pick yc y y') (AO.ev t) H = some v) : RSnd P o θ n a w v := by
  obtain ⟨c1, c2⟩ := compO_sound hc hr
  obtain ⟨e1, e2⟩ := compO_sound hx hr
  obtain ⟨f1, f2⟩ := compO_sound hx' hr
  simp only [evR] at h
  split at h
  · rename_i b hb
    cases h
    refine ⟨?_, by split <;> assumption⟩
    simp only [execOp, ho, c1, e1, f1, hb, AV.inst, asBool]
    cases b <;> simp [Result.andThen]
  · cases h

theorem snd_nilck {x : Operand} (ho : o.op = .nilCheck x) {y : AO} (hx : compO x = some y) (hr : RelA θ n N t a) (h : evR (.nilck y) (AO.ev t) H = some v) : RSnd P o θ n a w v := by
  obtain ⟨e1, e2⟩ := compO_sound hx hr
  simp only [evR] at h
  split at h
  · rename_i p hp
    cases h
    rw [hp] at e2
    exact ⟨by simp only [execOp, ho, e1, hp, AV.inst]; rfl, e2⟩
  · rename_i f c d hp
    cases h
    rw [hp] at e2
    exact ⟨by simp only [execOp, ho, e1, hp, AV.inst]; rfl, e2⟩
  · cases h

theorem ekOf_fits {t : TypeId} {d : TypeDesc} {k : EK} (hd : P.underlying t = some d) (hk : ekOf d = some k) : k.fits P t := by
  cases d <;> simp only [ekOf] at hk <;> first | (cases hk; done) | skip
  all_goals cases hk
  all_goals first | exact hd | exact ⟨_, hd⟩ | exact ⟨_, _, hd⟩ | exact trivial

theorem ekT_fits {t : TypeId} {d : TypeDesc} {k : EK} (hd : P.underlying t = some d) (hk : ekT P t d = some k) : k.fits P t := by
  unfold ekT at hk
  split at hk
  · rename_i hag
    split at hk
    · rename_i ks hf
      split at hk
      · rename_i hg
        cases hk
        exact ⟨hf, hg, by rw [hd]; simp [hag]⟩
      · cases hk
    · cases hk
  · exact ekOf_fits hd hk

theorem snd_bin {op : BinOp} {ty ty' : TypeId} {x x' : Operand} (ho : o.op = .binOp op ty x x' ty') {d : TypeDesc} {k : EK} {y y' : AO} (hd : P.underlying ty = some d) (hk : ekT P ty d = some k)
    (hx : compO x = some y) (hx' : compO x' = some y') (hr : RelA θ n N t a) (h : evR (.bin k op y y') (AO.ev t) H = some v) : RSnd P o θ n a w v := by
  obtain ⟨e1, e2⟩ := compO_sound hx hr
  obtain ⟨f1, f2⟩ := compO_sound hx' hr
  simp only [evR] at h
  have := binV_sound (P := P) (ekT_fits hd hk) h x x' θ w
  refine ⟨?_, this.2 n⟩
  simp only [execOp, ho, e1, f1]
  exact run_v _ this.1

theorem snd_un {op : UnOp} {ty : TypeId} {x : Operand} (ho : o.op = .unOp op ty x) {y : AO} (hx : compO x = some y) (hr : RelA θ n N t a) (h : evR (.un op y) (AO.ev t) H = some v) : RSnd P o θ n a w v := by
  obtain ⟨e1, e2⟩ := compO_sound hx hr
  simp only [evR] at h
  simp only [RSnd, execOp, ho, e1]
  split at h
  · rename_i k m hp
    cases h
    rw [hp]
    exact ⟨run_v _ (by simp [Op.unary, AV.inst, Op.intArith]), trivial⟩
  · rename_i b hp
    cases h
    rw [hp]
    exact ⟨run_v _ (by simp [Op.unary, AV.inst]), trivial⟩
  · rename_i k m hp
    rw [hp]
    simp only [intOp] at h
    cases h
    exact ⟨run_v _ (by simp only [Op.unary, AV.inst, Op.intBits]; rfl), trivial⟩
  · cases h

theorem snd_toInt {s d : TypeId} {x : Operand} (ho : o.op = .convert s d x) {k0 k : IntKind} {y : AO} (hs : P.underlying s = some (.int k0)) (hd : P.underlying d = some (.int k))
    (hx : compO x = some y) (hr : RelA θ n N t a) (h : evR (.toInt k y) (AO.ev t) H = some v) : RSnd P o θ n a w v := by
  obtain ⟨e1, e2⟩ := compO_sound hx hr
  simp only [evR] at h
  simp only [RSnd, execOp, ho, e1]
  split at h
  · rename_i k' m hp
    cases h
    rw [hp]
    exact ⟨run_v _ (by simp [convert, AV.inst, run_underlying hs, run_underlying hd, Result.andThen, Conv.intToInt]), trivial⟩
  · cases h

theorem snd_same {s d : TypeId} {x : Operand} (ho : o.op = .convert s d x) {y : AO} (hs : P.underlying s = some .string) (hd : P.underlying d = some .string)
    (hx : compO x = some y) (hr : RelA θ n N t a) (h : evR (.same y) (AO.ev t) H = some v) : RSnd P o θ n a w v := by
  obtain ⟨e1, e2⟩ := compO_sound hx hr
  simp only [evR] at h
  simp only [RSnd, execOp, ho, e1]
  split at h
  · rename_i b hp
    cases h
    rw [hp]
    exact ⟨run_v _ (by simp [convert, AV.inst, run_underlying hs, run_underlying hd, Result.andThen]), trivial⟩
  · cases h

theorem bytesOf_nums : ∀ (l : List AV) (b : List UInt8), bytesOf l = some b → ∃ ns : List Int, AV.instL θ l = ns.map (Value.int .u8) ∧ b = ns.map fun n => UInt8.ofNat n.toNat
  | [], b, h => by simp only [bytesOf] at h; cases h; exact ⟨[], rfl, rfl⟩
  | x :: r, b, h => by
    cases x with
    | int k m =>
      cases k <;> simp only [bytesOf] at h <;> first | (cases h; done) | skip
      cases hb : bytesOf r with
      | none => rw [hb] at h; cases h
      | some b' =>
        rw [hb] at h; cases h
        obtain ⟨ns, h1, rfl⟩ := bytesOf_nums r b' hb
        exact ⟨m :: ns, by simp [AV.instL, AV.inst, h1], rfl⟩
    | _ => simp [bytesOf] at h

theorem snd_bStr {s d e : TypeId} {x : Operand} (ho : o.op = .convert s d x) {y : AO} (hs : P.underlying s = some (.slice e)) (he : P.underlying e = some (.int .u8)) (hd : P.underlying d = some .string)
    (hx : compO x = some y) (hr : RelA θ n N t a) (hrd : ∀ i, rdOf (.bStr y) (AO.ev t) = some i → Reads θ n H w i) (h : evR (.bStr y) (AO.ev t) H = some v) : RSnd P o θ n a w v := by
  obtain ⟨e1, e2⟩ := compO_sound hx hr
  simp only [evR] at h
  simp only [RSnd, execOp, ho, e1]
  split at h
  · rename_i l c hp
    cases h
    rw [hp]
    refine ⟨run_v _ ?_, trivial⟩
    simp only [AV.inst, Option.map_none]
    rw [run_convert_bytes_string w s d e _ _ _ hs he hd]
    simp [Conv.bytesToString]
  · rename_i p m c hp
    simp only [rdOf, hp] at hrd
    split at h
    · rename_i l hg
      cases hb : bytesOf l with
      | none => rw [hb] at h; cases h
      | some b =>
        rw [hb] at h; cases h
        rw [hp]
        refine ⟨run_v _ ?_, trivial⟩
        obtain ⟨h1, h2, h3⟩ := range_sound (hrd p.1 rfl) hg
        obtain ⟨ns, hn, rfl⟩ := bytesOf_nums (θ := θ) l b hb
        have hl := run_loadCells_list (P := P) w (θ.addr p) (AV.instL θ l) (fun j v hj => by
          rw [AV.instL_eq, List.getElem?_map] at hj
          cases hq : l[j]? with
          | none => rw [hq] at hj; cases hj
          | some u => rw [hq] at hj; cases hj; exact h2 j u hq)
        have hll : (AV.instL θ l).length = m := by rw [AV.instL_eq, List.length_map, h1]
        rw [hll, hn] at hl
        simp only [AV.inst, Option.map_some]
        rw [run_convert_bytes_string w s d e _ _ _ hs he hd, run_bytesToString w _ m _ ns hl, foldl_push_bytes]
        simp [ByteArray.empty, ByteArray.emptyWithCapacity]; rfl
    · cases h
  · cases h

theorem snd_ifc {ty : TypeId} {x : Operand} (ho : o.op = .makeInterface ty x) {d : TypeDesc} {y : AO} (hd : P.underlying ty = some d) (hn : ∀ ms, d ≠ .interface ms)
    (hx : compO x = some y) (hr : RelA θ n N t a) (h : evR (.ifc ty y) (AO.ev t) H = some v) : RSnd P o θ n a w v := by
  obtain ⟨e1, e2⟩ := compO_sound hx hr
  simp only [evR] at h
  cases h
  refine ⟨?_, e2⟩
  simp only [execOp, ho, e1]
  apply run_v
  simp only [Instr.makeInterface, Sem.run_bind, run_underlying hd, Result.andThen, AV.inst]
  cases d <;> first | rfl | exact absurd rfl (hn _)

theorem snd_fnv {fn : Fn} {first cap : Array Operand} (ho : o.op = .makeFunc fn first cap) {y y' : List AO} (hx : compL first.toList = some y) (hx' : compL cap.toList = some y')
    (hr : RelA θ n N t a) (h : evR (.fnv fn y y') (AO.ev t) H = some v) : RSnd P o θ n a w v := by
  obtain ⟨e1, e2⟩ := compL_sound hx hr
  obtain ⟨f1, f2⟩ := compL_sound hx' hr
  simp only [evR] at h
  cases h
  refine ⟨?_, e2, f2⟩
  simp only [execOp, ho]
  apply run_v
  have g1 : Array.map a.eval first = (AV.instL θ (y.map (AO.ev t))).toArray := by rw [← e1]; apply Array.ext'; simp
  have g2 : Array.map a.eval cap = (AV.instL θ (y'.map (AO.ev t))).toArray := by rw [← f1]; apply Array.ext'; simp
  simp [Instr.makeFunc, AV.inst, g1, g2]

theorem snd_slS {ty : TypeId} {x : Operand} {lo hi mx : Option Operand} (ho : o.op = .slice ty x lo hi mx) {y : AO} {lo' hi' : Option AO}
    (hd : P.underlying ty = some .string) (hx : compO x = some y) (hlo : compOO lo = some lo') (hhi : compOO hi = some hi') (hmx : compOO mx = some none)
    (hr : RelA θ n N t a) (h : evR (.slS y lo' hi') (AO.ev t) H = some v) : RSnd P o θ n a w v := by
  obtain ⟨e1, e2⟩ := compO_sound hx hr
  have elo := compOO_sound hlo hr
  have ehi := compOO_sound hhi hr
  have emx := compOO_sound hmx hr
  simp only [RSnd, execOp, ho, e1, elo, ehi, emx]
  simp only [evR] at h
  split at h
  · rename_i s hp
    rw [hp]
    split at h
    · cases h
    rename_i h' hh
    split at h
    · cases h
    rename_i l hl
    cases h
    refine ⟨run_v _ ?_, trivial⟩
    have := slBounds_run (P := P) (θ := θ) (len := s.size) (c := s.size) (mx := none) (m := s.size) rfl (by simpa using hh) hl false w
    simp only [AV.inst, Instr.sliceAt, Instr.slice, Sem.run_bind, run_underlying hd, Result.andThen, Option.map_none, Option.isSome_none]
    simp only [Option.map_none, Option.map_map] at this
    simp [this, Result.andThen]
  · cases h

theorem snd_slA {ty e : TypeId} {m sz : Nat} {x : Operand} {lo hi mx : Option Operand} (ho : o.op = .slice ty x lo hi mx) {y : AO} {lo' hi' mx' : Option AO}
    (hd : P.underlying ty = some (.array m e)) (hs : szOf P e = some sz) (hx : compO x = some y) (hlo : compOO lo = some lo') (hhi : compOO hi = some hi') (hmx : compOO mx = some mx')
    (hr : RelA θ n N t a) (h : evR (.slA m sz y lo' hi' mx') (AO.ev t) H = some v) : RSnd P o θ n a w v := by
  obtain ⟨e1, e2⟩ := compO_sound hx hr
  have elo := compOO_sound hlo hr
  have ehi := compOO_sound hhi hr
  have emx := compOO_sound hmx hr
  simp only [RSnd, execOp, ho, e1, elo, ehi, emx]
  simp only [evR] at h
  split at h
  · rename_i p hp
    rw [hp] at e2 ⊢
    obtain ⟨l, h', m', h1, h2, h3⟩ := slX_sound (P := P) (θ := θ) (n := n) h (fun q hq => by cases hq; exact e2) false w
    refine ⟨run_v _ ?_, h3⟩
    simp only [AV.inst, Option.map_some, Instr.sliceAt, Sem.run_bind, run_underlying hd, Result.andThen, Instr.sureAddr, Sem.run_pure, h1, run_sizeOf hs, h2]
    by_cases e : m' = l <;> simp [e]
  · cases h

theorem snd_fa {ty : TypeId} {x : Operand} {f : Nat} (ho : o.op = .fieldAddr ty x f) {fs : Array Field} {fd : Field} {y : AO} {m : Nat} (hd : P.underlying ty = some (.struct fs)) (hf : fs[f]? = some fd)
    (hs : szOf P fd.type = some m) (hm : m ≠ 0) (hx : compO x = some y) (hr : RelA θ n N t a) (h : evR (.fa fd.offset y) (AO.ev t) H = some v) : RSnd P o θ n a w v := by
  obtain ⟨e1, e2⟩ := compO_sound hx hr
  simp only [evR] at h
  simp only [RSnd, execOp, ho, e1]
  split at h
  · rename_i p hp
    cases h
    rw [hp] at e2 ⊢
    refine ⟨run_v _ ?_, e2⟩
    simp [AV.inst, Instr.fieldAt, run_underlying hd, Result.andThen, hf, Instr.sureAddr, fieldPlace, run_sizeOf hs, hm, addr_add]
  · cases h

theorem part_run {ty : TypeId} {d : TypeDesc} {m off : Nat} {cs : List AV} (hd : P.underlying ty = some d) (hs : szOf P ty = some m)
    (h : (if isAggD d then (if off + m ≤ cs.length then some (AV.agg ((cs.drop off).take m)) else none) else cs[off]?) = some v) (hok : AV.okL n cs) :
    (part ty (AV.instL θ cs).toArray off).run P w = .ok (v.inst θ) w ∧ v.ok n := by
  unfold part
  simp only [Sem.run_bind, run_isAgg hd, Result.andThen]
  cases hag : isAggD d with
  | true =>
    simp only [hag, if_true] at h ⊢
    split at h
    · rename_i hle
      cases h
      simp only [Sem.run_bind, run_sizeOf hs, Result.andThen, Sem.run_pure, AV.inst]
      refine ⟨?_, (AV.okL_iff n _).2 fun v hv => (AV.okL_iff n cs).1 hok v (List.mem_of_mem_drop (List.mem_of_mem_take hv))⟩
      congr 2
      apply Array.ext'
      simp [AV.instL_eq, List.drop_take, List.map_take, List.map_drop]
    · cases h
  | false =>
    simp only [hag, if_false, Bool.false_eq_true] at h ⊢
    refine ⟨?_, (AV.okL_iff n cs).1 hok v (List.mem_of_getElem? h)⟩
    have : (AV.instL θ cs).toArray[off]? = some (v.inst θ) := by simp [AV.instL_eq, h]
    simp only [this, Sem.run_pure]

theorem snd_fl {ty : TypeId} {x : Operand} {f : Nat} (ho : o.op = .field ty x f) {fs : Array Field} {fd : Field} {d : TypeDesc} {y : AO} {m : Nat} (hd : P.underlying ty = some (.struct fs)) (hf : fs[f]? = some fd)
    (hd' : P.underlying fd.type = some d) (hs : szOf P fd.type = some m) (hx : compO x = some y) (hr : RelA θ n N t a)
    (h : evR (if isAggD d then .flN fd.offset m y else .fl1 fd.offset y) (AO.ev t) H = some v) : RSnd P o θ n a w v := by
  obtain ⟨e1, e2⟩ := compO_sound hx hr
  simp only [RSnd, execOp, ho, e1]
  have key : ∀ cs, AO.ev t y = .agg cs → (if isAggD d then (if fd.offset + m ≤ cs.length then some (AV.agg ((cs.drop fd.offset).take m)) else none) else cs[fd.offset]?) = some v →
      (do pure (Next.value (← Instr.field ty ((AO.ev t y).inst θ) f)) : Sem Next).run P w = .ok (.value (v.inst θ)) w ∧ v.ok n := by
    intro cs hp h
    rw [hp] at e2 ⊢
    have := part_run (P := P) (θ := θ) (w := w) hd' hs h e2
    refine ⟨run_v _ ?_, this.2⟩
    simp [Instr.field, run_underlying hd, Result.andThen, hf, AV.inst, asAgg, this.1]
  cases hag : isAggD d with
  | true =>
    simp only [hag, if_true, evR] at h key
    split at h
    · rename_i cs hp; exact key cs hp h
    · cases h
  | false =>
    simp only [hag, if_false, Bool.false_eq_true, evR] at h key
    split at h
    · rename_i cs hp; exact key cs hp h
    · cases h

theorem snd_ia {ty e : TypeId} {x i : Operand} (ho : o.op = .indexAddr ty x i) {sz : Nat} {y y' : AO} (hd : P.underlying ty = some (.slice e)) (hs : szOf P e = some sz) (hx : compO x = some y) (hi : compO i = some y')
    (hr : RelA θ n N t a) (h : evR (.ia sz y y') (AO.ev t) H = some v) : RSnd P o θ n a w v := by
  obtain ⟨e1, e2⟩ := compO_sound hx hr
  obtain ⟨f1, f2⟩ := compO_sound hi hr
  simp only [evR, iaV] at h
  simp only [RSnd, execOp, ho, e1, f1]
  split at h
  · rename_i p len c k j hp hj
    split at h
    · rename_i hle
      cases h
      rw [hp] at e2 ⊢
      rw [hj]
      refine ⟨run_v _ ?_, e2⟩
      simp [AV.inst, Instr.indexAt, asIntOf, Result.andThen, run_underlying hd, hle, run_sizeOf hs, addr_add]
    · cases h
  · cases h

theorem snd_iaA {ty e : TypeId} {m : Nat} {x i : Operand} (ho : o.op = .indexAddr ty x i) {sz : Nat} {y y' : AO} (hd : P.underlying ty = some (.array m e)) (hs : szOf P e = some sz) (hx : compO x = some y) (hi : compO i = some y')
    (hr : RelA θ n N t a) (h : evR (.iaA m sz y y') (AO.ev t) H = some v) : RSnd P o θ n a w v := by
  obtain ⟨e1, e2⟩ := compO_sound hx hr
  obtain ⟨f1, f2⟩ := compO_sound hi hr
  simp only [evR] at h
  simp only [RSnd, execOp, ho, e1, f1]
  split at h
  · rename_i p k j hp hj
    split at h
    · rename_i hle
      cases h
      rw [hp] at e2 ⊢
      rw [hj]
      refine ⟨run_v _ ?_, e2⟩
      simp [AV.inst, Instr.indexAt, asIntOf, Result.andThen, run_underlying hd, hle, run_sizeOf hs, addr_add, Instr.sureAddr]
    · cases h
  · cases h

theorem snd_ixS {ty : TypeId} {x i : Operand} (ho : o.op = .index ty x i) {y y' : AO} (hd : P.underlying ty = some .string) (hx : compO x = some y) (hi : compO i = some y')
    (hr : RelA θ n N t a) (h : evR (.ixS y y') (AO.ev t) H = some v) : RSnd P o θ n a w v := by
  obtain ⟨e1, e2⟩ := compO_sound hx hr
  obtain ⟨f1, f2⟩ := compO_sound hi hr
  simp only [evR] at h
  simp only [RSnd, execOp, ho, e1, f1]
  split at h
  · rename_i s k j hp hj
    split at h
    · rename_i hle
      cases hb : s.data[j.toNat]? with
      | none => rw [hb] at h; cases h
      | some b =>
        rw [hb] at h; cases h
        rw [hp, hj]
        refine ⟨run_v _ ?_, trivial⟩
        have hlt : j.toNat < s.size := by
          have := (Array.getElem?_eq_some_iff.1 hb).1; exact this
        have hg : s[j.toNat]? = some b := by
          rw [getElem?_pos s j.toNat hlt]
          have := (Array.getElem?_eq_some_iff.1 hb).2
          exact congrArg some this
        simp [AV.inst, Instr.index, asIntOf, Result.andThen, run_underlying hd, hle, hg]
    · cases h
  · cases h

theorem snd_ixA {ty e : TypeId} {m : Nat} {x i : Operand} (ho : o.op = .index ty x i) {sz : Nat} {d : TypeDesc} {y y' : AO} (hd : P.underlying ty = some (.array m e)) (hd' : P.underlying e = some d) (hs : szOf P e = some sz)
    (hx : compO x = some y) (hi : compO i = some y') (hr : RelA θ n N t a)
    (h : (isAggD d = true ∧ evR (.ixAN m sz y y') (AO.ev t) H = some v) ∨ (isAggD d = false ∧ sz = 1 ∧ evR (.ixA1 m y y') (AO.ev t) H = some v)) : RSnd P o θ n a w v := by
  obtain ⟨e1, e2⟩ := compO_sound hx hr
  obtain ⟨f1, f2⟩ := compO_sound hi hr
  simp only [RSnd, execOp, ho, e1, f1]
  rcases h with ⟨hag, h⟩ | ⟨hag, rfl, h⟩
  · simp only [evR] at h
    split at h
    · rename_i cs k j hp hj
      split at h
      · rename_i hle
        rw [hp] at e2 ⊢
        rw [hj]
        have := part_run (P := P) (θ := θ) (w := w) (off := j.toNat * sz) (cs := cs) (v := v) (n := n) hd' hs (by simp only [hag, if_true]; rw [if_pos hle.2.2]; exact h) e2
        refine ⟨run_v _ ?_, this.2⟩
        simp [AV.inst, Instr.index, asIntOf, Result.andThen, run_underlying hd, hle.1, hle.2.1, run_sizeOf hs, this.1]
      · cases h
    · cases h
  · simp only [evR] at h
    split at h
    · rename_i cs k j hp hj
      split at h
      · rename_i hle
        rw [hp] at e2 ⊢
        rw [hj]
        have := part_run (P := P) (θ := θ) (w := w) (off := j.toNat) (cs := cs) (v := v) (n := n) hd' hs (by simp only [hag, if_false, Bool.false_eq_true]; exact h) e2
        refine ⟨run_v _ ?_, this.2⟩
        simp [AV.inst, Instr.index, asIntOf, Result.andThen, run_underlying hd, hle.1, hle.2, run_sizeOf hs, this.1]
      · cases h
    · cases h

theorem snd_ext {x : Operand} {i : Nat} (ho : o.op = .extract x i) {y : AO} (hx : compO x = some y) (hr : RelA θ n N t a) (h : evR (.ext y i) (AO.ev t) H = some v) : RSnd P o θ n a w v := by
  obtain ⟨e1, e2⟩ := compO_sound hx hr
  simp only [evR] at h
  simp only [RSnd, execOp, ho, e1]
  split at h
  · rename_i vs hp
    rw [hp] at e2 ⊢
    refine ⟨run_v _ ?_, (AV.okL_iff n vs).1 e2 v (List.mem_of_getElem? h)⟩
    have : (AV.instL θ vs).toArray[i]? = some (v.inst θ) := by simp [AV.instL_eq, h]
    simp only [AV.inst, Instr.extract, this, Sem.run_pure]
  · cases h

theorem args_one {args : Array Operand} {x : Operand} (h : args.toList = [x]) : args = #[x] := Array.ext' (by simpa using h)
theorem args_two {args : Array Operand} {x y : Operand} (h : args.toList = [x, y]) : args = #[x, y] := Array.ext' (by simpa using h)
theorem tys_one {ts : Array TypeId} {d : TypeDesc} (h : ts[0]?.bind P.underlying = some d) : ∃ ty, ts[0]? = some ty ∧ P.underlying ty = some d := by
  cases ht : ts[0]? with
  | none => rw [ht] at h; cases h
  | some ty => rw [ht] at h; exact ⟨ty, rfl, h⟩

theorem exec_builtin {b : Builtin} {args : Array Operand} {ts : Array TypeId} (ho : o.op = .call { callee := .builtin b, args := args, argTypes := ts }) :
    ∃ consts, execOp a.eval o = ((pure { target := .builtin b ts o.type consts, args := args.map a.eval } : Sem Deferred) >>= fun d => invoke d.target d.args) :=
  ⟨_, by simp only [execOp, ho, resolve]; rfl⟩

theorem snd_len {x : Operand} {args : Array Operand} {ts : Array TypeId} (ho : o.op = .call { callee := .builtin .len, args := args, argTypes := ts }) (ha : args.toList = [x]) {y : AO} {d : TypeDesc} {k : EK}
    (hd : ts[0]?.bind P.underlying = some d) (hk : (d = .string ∧ k = .str) ∨ ((∃ e, d = .slice e) ∧ k = .slc) ∨ ((∃ a b, d = .map a b) ∧ k = .mp)) (hx : compO x = some y) (hr : RelA θ n N t a)
    (hrd : ∀ i, rdOf (.len k y) (AO.ev t) = some i → Reads θ n H w i)
    (hv : evR (.len k y) (AO.ev t) H = some v) : RSnd P o θ n a w v := by
  obtain ⟨e1, e2⟩ := compO_sound hx hr
  obtain rfl := args_one ha
  obtain ⟨ty, ht, hd⟩ := tys_one hd
  have ht' : (ts[0]? : Option TypeId) = some ty := ht
  have key : (Builtin.len_ ts o.type #[(AO.ev t y).inst θ]).run P w = .ok (v.inst θ) w ∧ v.ok n → RSnd P o θ n a w v := fun hk => by
    refine ⟨?_, hk.2⟩
    obtain ⟨cs, he⟩ := exec_builtin (a := a) ho
    rw [he, run_pure_bind]
    simp only [invoke, builtin, List.map_toArray, List.map_cons, List.map_nil, e1]
    exact run_v _ hk.1
  apply key
  rcases hk with ⟨rfl, rfl⟩ | ⟨⟨e, rfl⟩, rfl⟩ | ⟨⟨ka, kb, rfl⟩, rfl⟩
  · cases hs : AO.ev t y <;> simp only [evR, lenV, hs] at hv <;> first | (cases hv; done) | skip
    cases hv
    refine ⟨?_, trivial⟩
    simp [Builtin.len_, ht', hs, AV.inst, run_underlying hd, Result.andThen, goInt]
  · cases hs : AO.ev t y <;> simp only [evR, lenV, hs] at hv <;> first | (cases hv; done) | skip
    all_goals
      cases hv
      refine ⟨?_, trivial⟩
      simp [Builtin.len_, ht', hs, AV.inst, run_underlying hd, Result.andThen, goInt]
  · cases hs : AO.ev t y <;> simp only [evR, lenV, hs] at hv <;> first | (cases hv; done) | skip
    rename_i r
    cases r with
    | none =>
      try simp only [lenV] at hv
      cases hv
      refine ⟨?_, trivial⟩
      simp [Builtin.len_, ht', hs, AV.inst, run_underlying hd, Result.andThen, goInt]
    | some r =>
      simp only [rdOf, hs] at hrd
      simp only [lenV] at hv
      split at hv
      · rename_i es ck hg
        cases hv
        obtain ⟨_, hb, _⟩ := hrd r rfl _ hg rfl
        have hb' : w.heap[θ.blk r]? = some (.map (es.map (instE θ)).toArray ck) := hb
        refine ⟨?_, trivial⟩
        simp [Builtin.len_, ht', hs, AV.inst, run_underlying hd, Result.andThen, goInt, getObj, Sem.run, hb']
      · cases hv

theorem snd_lenC {x : Operand} {args : Array Operand} {ts : Array TypeId} (ho : o.op = .call { callee := .builtin .len, args := args, argTypes := ts }) (ha : args.toList = [x]) {m : Nat}
    (hd : (∃ e, ts[0]?.bind P.underlying = some (.array m e)) ∨ ∃ e e', ts[0]?.bind P.underlying = some (.pointer e) ∧ P.underlying e = some (.array m e'))
    (h : evR (.lenC m) (AO.ev t) H = some v) : RSnd P o θ n a w v := by
  obtain rfl := args_one ha
  simp only [evR] at h; cases h
  refine ⟨?_, trivial⟩
  obtain ⟨cs, he⟩ := exec_builtin (a := a) ho
  rw [he, run_pure_bind]
  simp only [invoke, builtin, List.map_toArray, List.map_cons, List.map_nil]
  apply run_v
  rcases hd with ⟨e, hd⟩ | ⟨e, e', hd, hd'⟩
  · obtain ⟨ty, ht, hd⟩ := tys_one hd
    simp [Builtin.len_, ht, AV.inst, run_underlying hd, Result.andThen, goInt]
  · obtain ⟨ty, ht, hd⟩ := tys_one hd
    simp [Builtin.len_, ht, AV.inst, run_underlying hd, run_underlying hd', Result.andThen, goInt]

theorem snd_cap {x : Operand} {args : Array Operand} {ts : Array TypeId} (ho : o.op = .call { callee := .builtin .cap, args := args, argTypes := ts }) (ha : args.toList = [x]) {y : AO} {e : TypeId}
    (hd : ts[0]?.bind P.underlying = some (.slice e)) (hx : compO x = some y) (hr : RelA θ n N t a) (h : evR (.cap y) (AO.ev t) H = some v) : RSnd P o θ n a w v := by
  obtain ⟨e1, e2⟩ := compO_sound hx hr
  obtain rfl := args_one ha
  obtain ⟨ty, ht, hd⟩ := tys_one hd
  simp only [evR] at h
  split at h
  · rename_i b m c hs
    cases h
    refine ⟨?_, trivial⟩
    obtain ⟨cs, he⟩ := exec_builtin (a := a) ho
    rw [he, run_pure_bind]
    simp only [invoke, builtin, List.map_toArray, List.map_cons, List.map_nil, e1]
    apply run_v
    simp [Builtin.cap_, ht, hs, AV.inst, capOf, run_underlying hd, Result.andThen, goInt]
  · cases h

theorem snd_mx {x x' : Operand} {args : Array Operand} {ts : Array TypeId} (ho : o.op = .call { callee := .builtin .max, args := args, argTypes := ts }) (ha : args.toList = [x, x']) {y y' : AO}
    (hx : compO x = some y) (hx' : compO x' = some y') (hr : RelA θ n N t a) (h : evR (.mx y y') (AO.ev t) H = some v) : RSnd P o θ n a w v := by
  obtain ⟨e1, e2⟩ := compO_sound hx hr
  obtain ⟨f1, f2⟩ := compO_sound hx' hr
  obtain rfl := args_two ha
  simp only [evR] at h
  split at h
  · rename_i k b k' c hs hs'
    cases h
    refine ⟨?_, trivial⟩
    obtain ⟨cs, he⟩ := exec_builtin (a := a) ho
    rw [he, run_pure_bind]
    simp only [invoke, builtin, List.map_toArray, List.map_cons, List.map_nil, e1, f1]
    apply run_v
    simp [Builtin.max_, Builtin.max2, hs, hs', AV.inst]
  · cases h
theorem snd_mn {x x' : Operand} {args : Array Operand} {ts : Array TypeId} (ho : o.op = .call { callee := .builtin .min, args := args, argTypes := ts }) (ha : args.toList = [x, x']) {y y' : AO}
    (hx : compO x = some y) (hx' : compO x' = some y') (hr : RelA θ n N t a) (h : evR (.mn y y') (AO.ev t) H = some v) : RSnd P o θ n a w v := by
  obtain ⟨e1, e2⟩ := compO_sound hx hr
  obtain ⟨f1, f2⟩ := compO_sound hx' hr
  obtain rfl := args_two ha
  simp only [evR] at h
  split at h
  · rename_i k b k' c hs hs'
    cases h
    refine ⟨?_, trivial⟩
    obtain ⟨cs, he⟩ := exec_builtin (a := a) ho
    rw [he, run_pure_bind]
    simp only [invoke, builtin, List.map_toArray, List.map_cons, List.map_nil, e1, f1]
    apply run_v
    simp [Builtin.min_, Builtin.min2, hs, hs', AV.inst]
  · cases h

/-! ### build -/
theorem setAll (cs : List Value) : ∀ (l : List Value) (off : Nat), off + cs.length ≤ l.length →
    (cs.zipIdx.foldl (fun (acc : Array Value) (cj : Value × Nat) => acc.setIfInBounds (off + cj.2) cj.1) l.toArray) = (l.take off ++ cs ++ l.drop (off + cs.length)).toArray := by
  have gen : ∀ (cs : List Value) (k : Nat) (l : List Value) (off : Nat), off + k + cs.length ≤ l.length →
      ((cs.zipIdx k).foldl (fun (acc : Array Value) (cj : Value × Nat) => acc.setIfInBounds (off + cj.2) cj.1) l.toArray) = (l.take (off + k) ++ cs ++ l.drop (off + k + cs.length)).toArray := by
    intro cs
    induction cs with
    | nil => intro k l off h; simp
    | cons c cs ih =>
      intro k l off h
      simp only [List.zipIdx_cons, List.foldl_cons, List.setIfInBounds_toArray]
      rw [ih (k + 1) (l.set (off + k) c) off (by simp at h ⊢; omega)]
      congr 1
      simp only [List.length_cons] at h
      apply List.ext_getElem?
      intro j
      simp only [List.getElem?_append, List.getElem?_take, List.getElem?_drop, List.getElem?_set, List.length_append, List.length_take, List.length_set, List.length_cons, List.getElem?_cons]
      by_cases h1 : j < off + k
      · have : min (off + k) l.length = off + k := by omega
        have h2 : min (off + (k + 1)) l.length = off + k + 1 := by omega
        simp only [this, h2]
        rw [if_pos (by omega), if_pos (by omega), if_pos (by omega), if_neg (by omega), if_pos (by omega), if_pos (by omega), if_pos (by omega)]
      · have h3 : min (off + k) l.length = off + k := by omega
        have h2 : min (off + (k + 1)) l.length = off + k + 1 := by omega
        simp only [h3, h2]
        by_cases h4 : j = off + k
        · subst h4
          rw [if_pos (by omega), if_pos (by omega), if_pos (by omega), if_pos rfl, if_pos (by omega), if_pos (by omega), if_neg (by omega)]
          simp
        · by_cases h5 : j < off + k + 1 + cs.length
          · rw [if_pos (by omega), if_neg (by omega), if_pos (by omega), if_neg (by omega), if_neg (by omega)]
            first | (congr 1; done) | (congr 1; omega)
          · rw [if_neg (by omega), if_neg (by omega), if_neg (by omega)]
            first | (congr 1; done) | (congr 1; omega)
  intro l off h
  have := gen cs 0 l off (by omega)
  simpa using this

theorem fillA_sound : ∀ (parts : List (Nat × Nat × AV)) (cells r : List AV) (srcs : List (Nat × Value)) (place : Nat → Option (Nat × Nat)),
    fillA cells parts = some r → srcs.length = parts.length → (∀ (k i : Nat) (x : Value), srcs[k]? = some (i, x) → ∃ (off m : Nat) (v : AV), parts[k]? = some (off, m, v) ∧ place i = some (off, m) ∧ x = v.inst θ) →
    Instr.fill place (AV.instL θ cells).toArray srcs = some (AV.instL θ r).toArray := by
  intro parts
  induction parts with
  | nil =>
    intro cells r srcs place h hl hs
    simp only [fillA] at h; cases h
    cases srcs with
    | nil => rfl
    | cons _ _ => simp at hl
  | cons p parts ih =>
    intro cells r srcs place h hl hs
    cases srcs with
    | nil => simp at hl
    | cons q srcs =>
      obtain ⟨i, x⟩ := q
      obtain ⟨off, m, v⟩ := p
      simp only [fillA] at h
      split at h
      · rename_i hc
        obtain ⟨hc1, hc2⟩ := hc
        obtain ⟨off', m', v', hp, hpl, rfl⟩ := hs 0 i x rfl
        simp only [List.getElem?_cons_zero, Option.some.injEq, Prod.mk.injEq] at hp
        obtain ⟨rfl, rfl, rfl⟩ := hp
        simp only [Instr.fill, hpl, AV.cells_inst]
        have hvl : (v.cells.map (AV.inst θ)).length = m := by simpa using hc1
        rw [if_neg (by simp [AV.instL_eq, hc1]; omega)]
        have hset := setAll (v.cells.map (AV.inst θ)) (AV.instL θ cells) off (by rw [hvl, AV.instL_eq, List.length_map]; exact hc2)
        have he : (v.cells.map (AV.inst θ)).toArray.zipIdx.foldl (fun (cs : Array Value) (x : Value × Nat) => cs.setIfInBounds (off + x.2) x.1) (AV.instL θ cells).toArray
            = (AV.instL θ (cells.take off ++ v.cells ++ cells.drop (off + m))).toArray := by
          rw [← Array.foldl_toList, Array.toList_zipIdx]
          simp only [List.toList_toArray] at hset ⊢
          rw [hset]
          congr 1
          simp [AV.instL_eq, hc1, List.map_take, List.map_drop]
        have := ih (cells.take off ++ v.cells ++ cells.drop (off + m)) r srcs place h (by simpa using hl) (fun k i x hk => hs (k + 1) i x hk)
        rw [← this]
        congr 1
      · cases h

theorem compParts_sound : ∀ {l : List (Nat × Operand)} {pl : Nat → Option (Nat × Nat)} {ps : List (Nat × Nat × AO)}, compParts l pl = some ps → RelA θ n N t a →
    ps.length = l.length ∧ ∀ (k i : Nat) (x : Operand), l[k]? = some (i, x) → ∃ (off m : Nat) (y : AO), ps[k]? = some (off, m, y) ∧ pl i = some (off, m) ∧ compO x = some y
  | [], pl, ps, h, _ => by simp only [compParts] at h; cases h; exact ⟨rfl, fun k i x hk => by simp at hk⟩
  | (i, x) :: r, pl, ps, h, hr => by
    simp only [compParts] at h
    split at h
    · rename_i off m y l hp hx hl
      cases h
      obtain ⟨h1, h2⟩ := compParts_sound hl hr
      refine ⟨by simp [h1], fun k i' x' hk => ?_⟩
      cases k with
      | zero => simp only [List.getElem?_cons_zero, Option.some.injEq, Prod.mk.injEq] at hk; obtain ⟨rfl, rfl⟩ := hk; exact ⟨off, m, y, rfl, hp, hx⟩
      | succ k => exact h2 k i' x' hk
    · cases h

theorem okL_fill : ∀ (parts : List (Nat × Nat × AV)) (cells r : List AV), fillA cells parts = some r → AV.okL n cells → (∀ p ∈ parts, p.2.2.ok n) → AV.okL n r := by
  intro parts
  induction parts with
  | nil => intro cells r h hc _; simp only [fillA] at h; cases h; exact hc
  | cons p parts ih =>
    intro cells r h hc hp
    simp only [fillA] at h
    split at h
    · refine ih _ r h ?_ (fun q hq => hp q (List.mem_cons_of_mem _ hq))
      rw [AV.okL_iff] at hc ⊢
      intro v hv
      simp only [List.mem_append] at hv
      rcases hv with (hv | hv) | hv
      · exact hc v (List.mem_of_mem_take hv)
      · have hpp := hp p List.mem_cons_self
        cases hq : p.2.2 with
        | agg cs => rw [hq] at hv hpp; exact (AV.okL_iff n cs).1 hpp v hv
        | raw x =>
          rw [hq] at hv
          cases x <;> simp [AV.cells] at hv <;> first | (rw [hv]; exact trivial) | (obtain ⟨_, _, rfl⟩ := hv; exact trivial)
        | _ => rw [hq] at hv hpp; simp only [AV.cells, List.mem_singleton] at hv; rw [hv]; exact hpp
      · exact hc v (List.mem_of_mem_drop hv)
    · cases h

theorem placesOf_sound : ∀ {fs : List Field} {pl : List (Nat × Nat)}, placesOf P fs = some pl →
    (fs.mapM fun f => do pure (f.offset, ← sizeOf f.type) : Sem (List (Nat × Nat))).run P w = .ok pl w
  | [], pl, h => by simp only [placesOf] at h; cases h; simp
  | f :: r, pl, h => by
    simp only [placesOf] at h
    split at h
    · rename_i m l hm hl
      cases h
      simp only [List.mapM_cons, Sem.run_bind, run_sizeOf hm, Result.andThen, Sem.run_pure, placesOf_sound hl]
    · cases h

theorem snd_bld {ty : TypeId} {parts : Array (Nat × Operand)} (ho : o.op = .build ty parts) {z : Value} {z' : AV} (hz : (P.info? ty).bind (·.zero) = some z) (hg : ground z = some z')
    {ps : List (Nat × Nat × AO)} (hd : (∃ fs pl, P.underlying ty = some (.struct fs) ∧ placesOf P fs.toList = some pl ∧ compParts parts.toList (pl[·]?) = some ps) ∨
      ∃ m e s, P.underlying ty = some (.array m e) ∧ szOf P e = some s ∧ compParts parts.toList (fun i => some (i * s, s)) = some ps)
    (hr : RelA θ n N t a) (h : evR (.bld z'.cells ps) (AO.ev t) H = some v) : RSnd P o θ n a w v := by
  simp only [evR] at h
  cases hf : fillA z'.cells (ps.map fun p => (p.1, p.2.1, AO.ev t p.2.2)) with
  | none => rw [hf] at h; cases h
  | some r =>
    rw [hf] at h; cases h
    have hzz := ground_sound hg θ n
    have hzc : (AV.instL θ z'.cells).toArray = z.cells := by
      rw [← hzz.1, AV.cells_inst, AV.instL_eq]
    have hzok : AV.okL n z'.cells := by
      rw [AV.okL_iff]; intro v hv
      cases hq : z' with
      | agg cs => rw [hq] at hv hzz; exact (AV.okL_iff n cs).1 hzz.2 v hv
      | raw x => rw [hq] at hv; cases x <;> simp [AV.cells] at hv <;> first | (rw [hv]; exact trivial) | (obtain ⟨_, _, rfl⟩ := hv; exact trivial)
      | _ => rw [hq] at hv hzz; simp only [AV.cells, List.mem_singleton] at hv; rw [hv]; exact hzz.2
    have hcp : ∃ pl, compParts parts.toList pl = some ps ∧ (∀ r', Instr.fill pl z.cells (parts.map fun (i, x) => (i, a.eval x)).toList = some r' →
        (Instr.build ty (parts.map fun (i, x) => (i, a.eval x))).run P w = .ok (.agg r') w) := by
      rcases hd with ⟨fs, pl, hu, hp, hc⟩ | ⟨m, e, s, hu, hs, hc⟩
      · refine ⟨_, hc, fun r' hr' => ?_⟩
        have hp' : (Array.mapM (fun f => do pure (f.offset, ← sizeOf f.type)) fs : Sem (Array (Nat × Nat))).run P w = .ok pl.toArray w := by
          rw [← Array.toArray_toList (xs := fs), List.mapM_toArray]
          have h1 := placesOf_sound (w := w) hp
          simp at h1 ⊢
          simp [h1, Result.andThen]
        unfold Instr.build
        simp only [Sem.run_bind, run_zeroValue hz, Result.andThen, run_underlying hu, hp']
        have : (fun (x : Nat) => pl.toArray[x]?) = (fun (x : Nat) => pl[x]?) := by funext x; simp
        simp only [this, hr', Sem.run_pure]
      · refine ⟨_, hc, fun r' hr' => ?_⟩
        unfold Instr.build
        simp only [Sem.run_bind, run_zeroValue hz, Result.andThen, run_underlying hu, run_sizeOf hs, hr', Sem.run_pure]
    obtain ⟨pl, hc, hrun⟩ := hcp
    obtain ⟨hl, hk⟩ := compParts_sound hc hr
    have hfill := fillA_sound (θ := θ) (ps.map fun p => (p.1, p.2.1, AO.ev t p.2.2)) z'.cells r (parts.map fun (i, x) => (i, a.eval x)).toList pl hf (by simp [hl]) (fun k i x hki => by
      simp only [Array.toList_map, List.getElem?_map] at hki
      cases hq : parts.toList[k]? with
      | none => rw [hq] at hki; cases hki
      | some q =>
        obtain ⟨i0, x0⟩ := q
        rw [hq] at hki; cases hki
        obtain ⟨off, m, y, h1, h2, h3⟩ := hk k i0 x0 hq
        exact ⟨off, m, AO.ev t y, by simp [h1], h2, (compO_sound h3 hr).1⟩)
    rw [hzc] at hfill
    refine ⟨?_, okL_fill _ _ _ hf hzok (fun p hp => ?_)⟩
    · simp only [execOp, ho]
      apply run_v
      rw [hrun _ hfill]; rfl
    · obtain ⟨q, hq, rfl⟩ := List.mem_map.1 hp
      obtain ⟨k, hk', hkq⟩ := List.getElem_of_mem hq
      have hlt : k < parts.toList.length := by omega
      obtain ⟨off, m, y, h1, h2, h3⟩ := hk k (parts.toList[k]).1 (parts.toList[k]).2 (by rw [List.getElem?_eq_getElem hlt])
      rw [List.getElem?_eq_getElem hk', hkq] at h1
      cases h1
      exact (compO_sound h3 hr).2

theorem bytes_eq_list (a b : ByteArray) : (a == b) = (a.data.toList == b.data.toList) := by
  rw [Bool.eq_iff_iff, MapKept.bytes_beq, beq_iff_eq]
  constructor
  · intro h; rw [h]
  · intro h
    cases a; cases b
    rename_i x y
    exact congrArg _ (Array.toList_inj.1 h)
theorem cellEq_now {kk : EK} {d : TypeDesc} (hk : keyK d = some kk) {x y : AV} {b : Bool} (h : cellEq kk x y = some b) (θ : Th) : Instr.sameNow d (x.inst θ) (y.inst θ) = some b := by
  cases d <;> simp only [keyK] at hk <;> first | (cases hk; done) | skip
  all_goals
    cases hk
    cases x <;> cases y <;> simp only [cellEq] at h <;> first | (cases h; done) | skip
  · cases h; simp [Instr.sameNow, AV.inst]
  · split at h
    · rename_i e; cases h; subst e; simp [Instr.sameNow, AV.inst]
    · cases h
  · cases h; simp only [Instr.sameNow, AV.inst, bytes_eq_list]
theorem findA_now {kk : EK} {d : TypeDesc} (hk : keyK d = some kk) {k : AV} (θ : Th) : ∀ {es : List (AV × AV × Nat)} {i : Nat} {r : Option (Nat × AV)}, findA kk k es i = some r →
    Instr.findNow d (k.inst θ) (es.map (instE θ)) i = some (r.map fun p => (p.1, p.2.inst θ))
  | [], i, r, h => by simp only [findA] at h; cases h; rfl
  | e :: es, i, r, h => by
    simp only [findA] at h
    simp only [List.map_cons, Instr.findNow]
    split at h
    · rename_i hc; cases h
      have := cellEq_now hk hc θ
      simp only [instE, this]; rfl
    · rename_i hc
      have := cellEq_now hk hc θ
      simp only [instE] at this ⊢
      rw [this]
      exact findA_now hk θ h
    · cases h
theorem checkKey_plain {P : Program} {w : World} {kt : TypeId} {d : TypeDesc} {kk : EK} (hd : P.underlying kt = some d) (hk : keyK d = some kk) (v : Value) (e : Bool) (n : Nat) : (Instr.checkKey e (n + 1) kt v).run P w = .ok () w := by
  unfold Instr.checkKey
  simp only [Sem.run_bind, run_underlying hd, Result.andThen]
  cases d <;> simp only [keyK] at hk <;> first | (cases hk; done) | rfl
theorem snd_look {P : Program} {o : Oper} {θ : Th} {n N : Nat} {t : Fr} {a : Act} {H : AHeap} {w : World} {v : AV} {xt kt et : TypeId} {m k : Operand} {ok : Bool} (ho : o.op = .lookup xt m k ok) {ym yk : AO} {d : TypeDesc} {kk : EK} {z : Value} {z' : AV} (hd : P.underlying xt = some (.map kt et)) (hdk : P.underlying kt = some d) (hk : keyK d = some kk)
    (hz : (P.info? et).bind (·.zero) = some z) (hg : ground z = some z') (hm : compO m = some ym) (hkc : compO k = some yk) (hr : RelA θ n N t a)
    (hrd : ∀ i, rdOf (.look kk z' ok ym yk) (AO.ev t) = some i → Reads θ n H w i) (h : evR (.look kk z' ok ym yk) (AO.ev t) H = some v) : RSnd P o θ n a w v := by
  obtain ⟨e1, e2⟩ := compO_sound hm hr
  obtain ⟨f1, f2⟩ := compO_sound hkc hr
  obtain ⟨g1, g2⟩ := ground_sound hg θ n
  have hck := fun e => checkKey_plain (P := P) (w := w) hdk hk ((AO.ev t yk).inst θ) e 9999
  have hres : ∀ (u : AV) (b : Bool), (if ok then Value.tuple #[u.inst θ, .bool b] else u.inst θ) = (lookR ok u b).inst θ := fun u b => by
    cases ok <;> simp [lookR, AV.inst, AV.instL]
  have hok : ∀ (u : AV) (b : Bool), u.ok n → (lookR ok u b).ok n := fun u b hu => by
    cases ok <;> simp [lookR, AV.ok, AV.okL, hu]
  unfold RSnd
  simp only [execOp, ho, e1, f1]
  simp only [evR, lookA] at h
  split at h
  · rename_i hq
    cases h
    refine ⟨run_v _ ?_, hok _ _ g2⟩
    rw [hq]
    have hf : (Instr.findKey kt ((AO.ev t yk).inst θ) []).run P w = .ok none w := by
      simp [Instr.findKey, run_underlying hdk, Result.andThen, Instr.findNow]
    simp only [Instr.lookup, AV.inst, Option.map_none, Sem.run_bind, run_underlying hd, Sem.run_pure, Result.andThen, hck, hf, run_zeroValue hz]
    rw [← hres, g1]
  · rename_i r hq
    simp only [rdOf, hq] at hrd
    split at h
    · rename_i es ck hgt
      obtain ⟨_, hb, hbok⟩ := hrd r rfl _ hgt rfl
      have hb' : w.heap[θ.blk r]? = some (.map (es.map (instE θ)).toArray ck) := hb
      have hgo : (getObj (θ.blk r)).run P w = .ok (.map (es.map (instE θ)).toArray ck) w := by simp [getObj, Sem.run, hb']
      split at h
      · rename_i j u hfa
        cases h
        have hf : (Instr.findKey kt ((AO.ev t yk).inst θ) (es.map (instE θ))).run P w = .ok (some (j, u.inst θ)) w := by
          simp [Instr.findKey, run_underlying hdk, Result.andThen, findA_now hk θ hfa]
        have hmem : ∀ {es : List (AV × AV × Nat)} {i : Nat}, findA kk (AO.ev t yk) es i = some (some (j, u)) → ∃ e ∈ es, e.2.1 = u := by
          intro es
          induction es with
          | nil => intro i h; simp only [findA] at h; cases h
          | cons e es ih =>
            intro i h
            simp only [findA] at h
            split at h
            · cases h; exact ⟨e, List.mem_cons_self, rfl⟩
            · obtain ⟨e', h1, h2⟩ := ih h; exact ⟨e', List.mem_cons_of_mem _ h1, h2⟩
            · cases h
        obtain ⟨e, he, hu⟩ := hmem hfa
        refine ⟨run_v _ ?_, hok _ _ (hu ▸ (hbok e he).2)⟩
        rw [hq]
        simp only [Instr.lookup, AV.inst, Option.map_some, Sem.run_bind, run_underlying hd, hgo, Sem.run_pure, Result.andThen, hck, hf]
        rw [← hres]
      · rename_i hfa
        cases h
        have hf : (Instr.findKey kt ((AO.ev t yk).inst θ) (es.map (instE θ))).run P w = .ok none w := by
          simp [Instr.findKey, run_underlying hdk, Result.andThen, findA_now hk θ hfa]
        refine ⟨run_v _ ?_, hok _ _ g2⟩
        rw [hq]
        simp only [Instr.lookup, AV.inst, Option.map_some, Sem.run_bind, run_underlying hd, hgo, Sem.run_pure, Result.andThen, hck, hf, run_zeroValue hz]
        rw [← hres, g1]
      · cases h
    · cases h
  · cases h

end
end Go.AM
