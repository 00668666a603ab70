/- The abstract machine, part E: the model's reading operations come to what part D says. -/
import Derived.Test.YthjeldlbjhjgfaaGreatAmD
namespace Go.AM
set_option linter.unusedSimpArgs false
set_option linter.unusedVariables false
open Go.RowKit

section
variable {P : Program} {o : Oper} {θ : Th} {n N : Nat} {t : Fr} {a : Act} {H : AHeap} {w : World}

theorem run_v (s : Sem Value) {v : Value} (h : s.run P w = .ok v w) : (do pure (Next.value (← s)) : Sem Next).run P w = .ok (.value v) w := by
  simp [h, Result.andThen]

theorem run_isAgg {ty : TypeId} {d : TypeDesc} (hd : P.underlying ty = some d) : (isAgg ty).run P w = .ok (isAggD d) w := by
  unfold isAgg
  simp only [Sem.run_bind, run_underlying hd, Result.andThen]
  cases d <;> rfl
theorem run_sizeOf {ty : TypeId} {m : Nat} (hs : szOf P ty = some m) : (sizeOf ty).run P w = .ok m w := by
  unfold szOf at hs
  cases hi : P.info? ty with
  | none => rw [hi] at hs; cases hs
  | some i => rw [hi] at hs; cases hs; simp [sizeOf, typeInfo, hi, Result.andThen]
theorem run_zeroValue {ty : TypeId} {z : Value} (hz : (P.info? ty).bind (·.zero) = some z) : (zeroValue ty).run P w = .ok z w := by
  cases hi : P.info? ty with
  | none => rw [hi] at hz; cases hz
  | some i => rw [hi] at hz; have hz' : i.zero = some z := hz; simp [zeroValue, typeInfo, hi, hz', Result.andThen]

theorem addr_add (p : Nat × Nat) (m : Nat) : (θ.addr p).add m = θ.addr (p.1, p.2 + m) := by
  unfold Th.addr; rw [Addr.add_lit, Nat.add_assoc]

theorem snd_load {ty : TypeId} {x : Operand} (ho : o.op = .load ty x) {d : TypeDesc} {m : Nat} {y : AO} (hd : P.underlying ty = some d) (hs : szOf P ty = some m) (hx : compO x = some y)
    (hr : RelA θ n N t a) {v : AV}
    (hrd : ∀ i, rdOf (if isAggD d then .loadN m y else .load1 y) (AO.ev t) = some i → Reads θ n H w i)
    (h : evR (if isAggD d then .loadN m y else .load1 y) (AO.ev t) H = some v) : (execOp a.eval o).run P w = .ok (.value (v.inst θ)) w ∧ v.ok n := by
  obtain ⟨e1, e2⟩ := compO_sound hx hr
  simp only [execOp, ho, e1]
  cases hag : isAggD d with
  | true =>
    simp only [hag, if_true, evR, rdOf] at h hrd
    split at h
    · rename_i p hp
      simp only [hp] at hrd
      cases hg : H.range p m with
      | none => rw [hg] at h; cases h
      | some l =>
        rw [hg] at h; cases h
        obtain ⟨h1, h2, h3⟩ := range_sound (hrd p.1 rfl) hg
        refine ⟨?_, h3⟩
        apply run_v
        simp only [hp, AV.inst, Option.map_some, Instr.loadAt, Instr.sureAddr, Sem.run_bind, Sem.run_pure, Result.andThen, loadVar, run_isAgg hd, hag, if_true, run_sizeOf hs]
        have := run_loadCells_list (P := P) w (θ.addr p) (AV.instL θ l) (fun j v hj => by
          rw [AV.instL_eq, List.getElem?_map] at hj
          cases hq : l[j]? with
          | none => rw [hq] at hj; cases hj
          | some u => rw [hq] at hj; cases hj; exact h2 j u hq)
        rw [AV.instL_eq, List.length_map, h1, ← AV.instL_eq] at this
        simp only [this]
    · cases h
  | false =>
    simp only [hag, if_false, evR, rdOf, Bool.false_eq_true] at h hrd
    split at h
    · rename_i p hp
      simp only [hp] at hrd
      obtain ⟨h1, h2⟩ := cell_sound (hrd p.1 rfl) h
      refine ⟨?_, h2⟩
      apply run_v
      simp only [hp, AV.inst, Option.map_some, Instr.loadAt, Instr.sureAddr, Sem.run_bind, Sem.run_pure, Result.andThen, loadVar, run_isAgg hd, hag, if_false, Bool.false_eq_true]
      simp [load, Sem.run, h1]
    · cases h

theorem bnd_some {v : AV} {y m d : Nat} (h : bnd (some v) y d = some m) (code : BoundsCode) (w : World) :
    (Instr.sliceBound (v.inst θ) y code).run P w = .ok m w ∧ m ≤ y := by
  cases v with
  | int k i =>
    simp only [bnd] at h
    split at h
    · rename_i hle
      cases h
      refine ⟨?_, by omega⟩
      simp only [AV.inst]
      simp [Instr.sliceBound, asIntOf, Result.andThen, hle]
    · cases h
  | _ => simp [bnd] at h

theorem slBounds_run {len c l h m : Nat} {lo hi mx : Option AV} (hm : bnd mx c c = some m)
    (hh : (if mx.isSome then (if hi.isSome then bnd hi m len else none) else bnd hi c len) = some h) (hl : bnd lo h 0 = some l) (isS : Bool) (w : World) :
    (Instr.sliceBounds isS len c (lo.map (AV.inst θ)) (hi.map (AV.inst θ)) (mx.map (AV.inst θ))).run P w = .ok (l, h, m) w := by
  have hlo : (lo = none ∧ l = 0) ∨ ∃ v, lo = some v ∧ ∀ code, (Instr.sliceBound (v.inst θ) h code).run P w = .ok l w := by
    cases lo with
    | none => simp only [bnd] at hl; cases hl; exact .inl ⟨rfl, rfl⟩
    | some v => exact .inr ⟨v, rfl, fun code => (bnd_some hl code w).1⟩
  unfold Instr.sliceBounds
  cases mx with
  | none =>
    simp only [bnd] at hm; cases hm
    simp only [Option.isSome_none, Bool.false_eq_true, if_false] at hh
    cases hi with
    | none =>
      simp only [bnd] at hh; cases hh
      rcases hlo with ⟨rfl, rfl⟩ | ⟨v, rfl, hv⟩
      · simp [Result.andThen]
      · simp [Result.andThen, hv]
    | some u =>
      have hh' := fun code => (bnd_some (P := P) (θ := θ) hh code w).1
      rcases hlo with ⟨rfl, rfl⟩ | ⟨v, rfl, hv⟩
      · simp [Result.andThen, hh']
      · simp [Result.andThen, hh', hv]
  | some z =>
    have hm' := fun code => (bnd_some (P := P) (θ := θ) hm code w).1
    simp only [Option.isSome_some, if_true] at hh
    cases hi with
    | none => simp at hh
    | some u =>
      simp only [Option.isSome_some, if_true] at hh
      have hh' := fun code => (bnd_some (P := P) (θ := θ) hh code w).1
      rcases hlo with ⟨rfl, rfl⟩ | ⟨v, rfl, hv⟩
      · simp [Result.andThen, hm', hh']
      · simp [Result.andThen, hm', hh', hv]

theorem compOO_sound {x : Option Operand} {y : Option AO} (h : compOO x = some y) (hr : RelA θ n N t a) : x.map a.eval = (y.map (AO.ev t)).map (AV.inst θ) := by
  cases x with
  | none => simp only [compOO] at h; cases h; rfl
  | some x =>
    simp only [compOO] at h
    cases hx : compO x with
    | none => rw [hx] at h; cases h
    | some z => rw [hx] at h; cases h; simp [(compO_sound hx hr).1]

theorem slX_sound {p : Option (Nat × Nat)} {len c sz : Nat} {lo hi mx : Option AV} {v : AV} (h : slX p len c sz lo hi mx = some v) (hp : ∀ q, p = some q → q.1 < n) (isS : Bool) (w : World) :
    ∃ l h' m, (Instr.sliceBounds isS len c (lo.map (AV.inst θ)) (hi.map (AV.inst θ)) (mx.map (AV.inst θ))).run P w = .ok (l, h', m) w ∧
      v.inst θ = .slice (if m = l then p.map θ.addr else (p.map θ.addr).map (·.add (l * sz))) (h' - l) (m - l) ∧ v.ok n := by
  unfold slX at h
  split at h
  · cases h
  rename_i m hm
  split at h
  · cases h
  rename_i h' hh
  split at h
  · cases h
  rename_i l hl
  cases h
  refine ⟨l, h', m, slBounds_run hm hh hl isS w, ?_, ?_⟩
  · simp only [AV.inst, capOf]
    by_cases e : m = l
    · rw [if_pos e, if_pos e]
    · rw [if_neg e, if_neg e]
      cases p with
      | none => rfl
      | some q => simp [addr_add]
  · by_cases e : m = l
    · rw [if_pos e]; cases p with
      | none => trivial
      | some q => exact hp q rfl
    · rw [if_neg e]; cases p with
      | none => trivial
      | some q => exact hp q rfl

theorem snd_sl {ty e : TypeId} {x : Operand} {lo hi mx : Option Operand} (ho : o.op = .slice ty x lo hi mx) {sz : Nat} {y : AO} {lo' hi' mx' : Option AO}
    (hd : P.underlying ty = some (.slice e)) (hs : szOf P e = some sz) (hx : compO x = some y) (hlo : compOO lo = some lo') (hhi : compOO hi = some hi') (hmx : compOO mx = some mx')
    (hr : RelA θ n N t a) {v : AV} (hrd : ∀ i, rdOf (.sl sz y lo' hi' mx') (AO.ev t) = some i → Reads θ n H w i)
    (h : evR (.sl sz y lo' hi' mx') (AO.ev t) H = some v) : (execOp a.eval o).run P w = .ok (.value (v.inst θ)) w ∧ v.ok n := by
  obtain ⟨e1, e2⟩ := compO_sound hx hr
  have elo := compOO_sound hlo hr
  have ehi := compOO_sound hhi hr
  have emx := compOO_sound hmx hr
  simp only [execOp, ho, e1, elo, ehi, emx]
  simp only [evR, slV] at h
  split at h
  · rename_i p len c hp
    rw [hp] at e2 ⊢
    obtain ⟨l, h', m, h1, h2, h3⟩ := slX_sound (P := P) (θ := θ) (n := n) h (fun q hq => by subst hq; exact e2) true w
    refine ⟨run_v _ ?_, h3⟩
    simp only [AV.inst, capOf, Instr.sliceAt, Sem.run_bind, run_underlying hd, Result.andThen, Instr.slice, h1, run_sizeOf hs, h2]
    rfl
  · rename_i p len k hp
    rw [hp] at e2 ⊢
    simp only [rdOf, hp] at hrd
    have hR := hrd p.1 rfl
    unfold slI at h
    split at h
    · rename_i cs sz' hg
      split at h
      · rename_i hc
        obtain ⟨rfl, hsz, hpk, hle⟩ := hc
        obtain ⟨h0, ⟨c, e', f, hoo, hcc, hcap, hlen⟩, hok⟩ := hR _ hg rfl
        have hroom : k + len ≤ θ.cap p.1 := by
          have : (k + len) * sz' ≤ θ.cap p.1 * sz' := by rw [Nat.add_mul]; omega
          exact Nat.le_of_mul_le_mul_right this hsz
        have key : ∀ l h' m, (Instr.sliceBounds true len (θ.cap p.1 - k) ((lo'.map (AO.ev t)).map (AV.inst θ)) ((hi'.map (AO.ev t)).map (AV.inst θ)) ((mx'.map (AO.ev t)).map (AV.inst θ))).run P w = .ok (l, h', m) w →
            (v.inst θ = .slice (if m = l then some (θ.addr p) else some ((θ.addr p).add (l * sz'))) (h' - l) (m - l)) →
            ((do pure (Next.value (← Instr.sliceAt ty ((AV.slice (some p) len (.inr k)).inst θ) ((lo'.map (AO.ev t)).map (AV.inst θ)) ((hi'.map (AO.ev t)).map (AV.inst θ)) ((mx'.map (AO.ev t)).map (AV.inst θ))))) : Sem Next).run P w = .ok (.value (v.inst θ)) w := by
          intro l h' m h1 h2
          apply run_v
          simp only [AV.inst, capOf, Option.map_some, Instr.sliceAt, Sem.run_bind, run_underlying hd, Result.andThen, Instr.slice, h1, run_sizeOf hs, h2]
          by_cases e : m = l <;> simp [e]
        split at h
        · rename_i u hu
          split at h
          · cases h
          rename_i m hm
          split at h
          · cases h
          rename_i h' hh
          split at h
          · cases h
          rename_i l hl
          cases h
          have hm' : bnd (mx'.map (AO.ev t)) (θ.cap p.1 - k) (θ.cap p.1 - k) = some m := by
            rw [hu] at hm ⊢
            cases u with
            | int kk i =>
              simp only [bnd] at hm ⊢
              split at hm
              · rename_i hi; rw [if_pos (by omega)]; exact hm
              · cases hm
            | _ => simp [bnd] at hm
          have hh' : (if (mx'.map (AO.ev t)).isSome then (if (hi'.map (AO.ev t)).isSome then bnd (hi'.map (AO.ev t)) m len else none) else bnd (hi'.map (AO.ev t)) (θ.cap p.1 - k) len) = some h' := by
            rw [hu]; simpa using hh
          refine ⟨key l h' m (slBounds_run hm' hh' hl true w) ?_, ?_⟩
          · simp only [AV.inst, capOf, Option.map_some]
            by_cases e : m = l
            · rw [if_pos e, if_pos e]
            · rw [if_neg e, if_neg e, addr_add]
          · by_cases e : m = l
            · rw [if_pos e]; exact e2
            · rw [if_neg e]; exact e2
        · rename_i hu
          split at h
          · cases h
          rename_i h' hh
          split at h
          · cases h
          rename_i l hl
          have hm' : bnd (mx'.map (AO.ev t)) (θ.cap p.1 - k) (θ.cap p.1 - k) = some (θ.cap p.1 - k) := by rw [hu]; rfl
          have hh' : (if (mx'.map (AO.ev t)).isSome then (if (hi'.map (AO.ev t)).isSome then bnd (hi'.map (AO.ev t)) (θ.cap p.1 - k) len else none) else bnd (hi'.map (AO.ev t)) (θ.cap p.1 - k) len) = some h' := by
            rw [hu]; simp only [Option.isSome_none, Bool.false_eq_true, if_false]
            cases hq : hi'.map (AO.ev t) with
            | none => rw [hq] at hh; exact hh
            | some u =>
              rw [hq] at hh
              cases u with
              | int kk i =>
                simp only [bnd] at hh ⊢
                split at hh
                · rename_i hi; rw [if_pos (by omega)]; exact hh
                · cases hh
              | _ => simp [bnd] at hh
          have hhl : h' ≤ len := by
            cases hq : hi'.map (AO.ev t) with
            | none => rw [hq] at hh; simp only [bnd] at hh; cases hh; omega
            | some u => rw [hq] at hh; exact (bnd_some (P := P) (θ := θ) hh .index w).2
          have hll : l ≤ h' := by
            cases hq : lo'.map (AO.ev t) with
            | none => rw [hq] at hl; simp only [bnd] at hl; cases hl; omega
            | some u => rw [hq] at hl; exact (bnd_some (P := P) (θ := θ) hl .index w).2
          split at h
          · rename_i hlt
            cases h
            refine ⟨key l h' _ (slBounds_run hm' hh' hl true w) ?_, e2⟩
            simp only [AV.inst, capOf, Option.map_some]
            rw [if_neg (by omega), addr_add]
            congr 1
            omega
          · cases h
            have : l = len := by omega
            subst this
            have : h' = l := by omega
            subst this
            refine ⟨key h' h' _ (slBounds_run hm' hh' hl true w) ?_, e2⟩
            simp only [AV.inst, Nat.sub_self, addr_add]
            congr 1
            by_cases e : θ.cap p.1 - k = h' <;> simp [e]
      · cases h
    · cases h
  · cases h
end
end Go.AM
