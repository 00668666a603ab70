/- FolderStays returns true at every input, and the arguments read as they read before; there are no conditions. -/
import Derived.Test.YtjfjmlglgdhkoaaRows
import Derived.Test.YtjfjmlglgdhkoaaFdSt
import Derived.Test.YtjfjmlglgdhkoaaFdRow
import Derived.WalkKit
import Derived.ProofKit
import Derived.OpenShut
import Derived.ChangeOld
import Derived.Below
namespace Go.Proofs.Ytjfjmlglgdhkoaa.folderStays
open Go Go.AM Go.ChangeShapes Go.WideShapes Go.ChangeAt Go.RowKit
set_option linter.unusedVariables false

theorem own : ownKnob Try.prog.godebug = none := by kernel_rfl
theorem laidOut : laidOutB Try.prog = true := by kernel_rfl

theorem cells42 : Try.prog.cellsOf 42 = 5 := by kernel_rfl
theorem cells3 : Try.prog.cellsOf 3 = 1 := by kernel_rfl
def Ac.vs (a : Ac) : List Value := .int .i64 a.op :: a.f.vs
theorem ac_read {T : Type} {enc : TypeId × Value → T} {W : World} {b0 : Nat} {sp : Nat → Bool} {held : Bool} {n : Nat} {cs : List Value} {y : DataW T × List MemPlace} (h : DataW.trod enc Try.prog W b0 sp held n 42 cs = some y) : ∃ a : Ac, a.f.ok ∧ cs = Ac.vs a := by
  obtain ⟨xs, m, _, _, hl, hx, hf⟩ := DataW.trod_struct Try.underlying42 h
  rw [cells42] at hl
  match cs, hl with
  | [c0, c1, c2, c3, c4], _ =>
    have hx4 : xs.length = 2 := hx
    have h0 := hf 0 _ rfl
    have h1 := hf 1 _ rfl
    rw [List.getElem?_eq_getElem (by omega)] at h0 h1
    have k0 : DataW.trod enc Try.prog W b0 sp held m 3 [c0] = some xs[0] := by rw [show [c0] = ([c0, c1, c2, c3, c4].drop 0).take (Try.prog.cellsOf 3) by rw [cells3]; rfl]; exact h0
    have k1 : DataW.trod enc Try.prog W b0 sp held m 26 [c1, c2, c3, c4] = some xs[1] := by rw [show [c1, c2, c3, c4] = ([c0, c1, c2, c3, c4].drop 1).take (Try.prog.cellsOf 26) by rw [cells26]; rfl]; exact h1
    obtain ⟨n0, e0, _, w0⟩ := DataW.trod_int Try.underlying3 k0
    obtain ⟨f, hfok, hfc⟩ := fo_read k1
    simp only [List.cons.injEq, and_true] at e0
    subst e0
    exact ⟨⟨n0, f⟩, hfok, by rw [hfc]; rfl⟩

theorem ac_open {T : Type} {enc : TypeId × Value → T} {W : World} {base : Nat} {v : Value} {d : DataW T} {ps : List MemPlace} (hv : Value.okWide Try.prog W .any base 39 v) (h : DataW.Trod enc Try.prog W 0 (fun _ => true) true 39 v d ps) :
    ∃ (u : AV) (l : List Ac), v = u.inst th0 ∧ u.ok W.heap.size ∧ AcV (absH W) u l := by
  rcases abs_slice Try.underlying39 hv with rfl | ⟨b, o, len, cap, rfl, hlc, hb, cs, hg, ho⟩
  · exact ⟨.slice none 0 (.inl 0), [], rfl, trivial, ⟨fun _ => rfl, fun i hi => absurd hi (by simp)⟩⟩
  · have hel := trod_elems Try.underlying39 h
    simp only [cells42] at hel
    obtain ⟨l, hl, hp⟩ := list_of (fun i (a : Ac) => a.f.ok ∧ ∀ j (hj : j < 5), W.cell? ⟨b, o + i * 5 + j, none⟩ = (Ac.vs a)[j]?) len fun i hi => by
      obtain ⟨cs, y, n, h1, h2, h3⟩ := hel i hi
      obtain ⟨a, ha, rfl⟩ := ac_read h3
      exact ⟨a, ha, fun j hj => by rw [h2 j (by simpa [Ac.vs, Fo.vs] using hj)]; simp⟩
    subst hl
    refine ⟨.slice (some (b, o)) l.length (.inl cap), l, by simp [AV.inst, th0_addr, capOf], hb, ⟨fun _ => rfl, fun i hi _ => ⟨(hp i hi).1, (b, o + i * 5), fun kk => ?_, hb, ?_⟩⟩⟩
    · rw [iaV_slc, if_pos (by omega)]; simp
    · have hcell : ∀ j (hj : j < (l[i].cs).length), (absH W).cell (b, o + i * 5 + j) = some (l[i].cs)[j] := fun j hj => by
        have hj5 : j < 5 := by simpa [Ac.cs, Fo.cs] using hj
        have h1 := (hp i hi).2 j hj5
        have hm : l[i].cs = (Ac.vs l[i]).map (absV W.heap.size) := rfl
        have h2 : (l[i].cs)[j]? = (Ac.vs l[i])[j]?.map (absV W.heap.size) := by rw [hm, List.getElem?_map]
        rw [List.getElem?_eq_getElem hj] at h2
        cases hc : W.cell? ⟨b, o + i * 5 + j, none⟩ with
        | none => rw [hc] at h1; rw [← h1] at h2; cases h2
        | some u => rw [hc] at h1; rw [← h1] at h2; rw [abs_cell hc, h2]; rfl
      have hlen : (l[i].cs).length = 5 := rfl
      have hle : o + i * 5 ≤ cs.length := by
        have := hcell 0 (by omega)
        unfold AHeap.cell at this
        rw [hg] at this
        have := (List.getElem?_eq_some_iff.1 this).1
        simp only at this
        omega
      have := range_of_cells (H := absH W) (p := (b, o + i * 5)) hg hle hcell
      rw [hlen] at this
      exact this

theorem walk (W : World) {base : Nat} {T : Type} {enc : TypeId × Value → T} {v0 : Value} {d0 : DataW T} {p0 : List MemPlace}
    (hv0 : Value.okWide Try.prog W .any base 39 v0) (h0 : DataW.Trod enc Try.prog W 0 (fun _ => true) true 39 v0 d0 p0) :
    Calls Try.prog 4 #[v0] W fun e W' => e = .returned (.bool true) ∧ Below W.heap.size W W' := by
  obtain ⟨u, l, rfl, hu, hV⟩ := ac_open hv0 h0
  exact ACall.start (f4 hV rfl) ⟨hu, trivial⟩ (by simp [AV.instL])

set_option maxRecDepth 100000 in
theorem lifted (os : Os) (started : os.Started) (H : Type) (enc : TypeId × Value → H) :
    ReturnsInHanded {} Try.checked os 4 .any (Rows.folderStaysSpec.pre6 enc Try.prog Try.f4 Rows.folderStaysRow.domain false) (Rows.folderStaysSpec.post enc Try.prog Try.f4 false true false false) := by
  refine returnsInHanded_of_change (C := Try.checked) own started (by kernel_rfl) Try.func4
    (ChangeSpec.witness6 (enc := enc) (C := Try.checked) false ⟨#[], #[.slice none 0 0], []⟩ 8 (by kernel_rfl) (by kernel_rfl) (by kernel_rfl) (by kernel_rfl)) ?_
  intro W base args ds gs before hval0 hW hcnd _
  have hval : ∀ (j : Nat) t v, Try.f4.params[j]? = some t → args[j]? = some v → Value.okWide Try.prog W .any base t v := hval0
  have hW' := hW
  obtain ⟨p, q, hA0, hV, rfl, hfz, hnd⟩ := hW
  have hA : DataW.TrodAll enc Try.prog W 0 (fun _ => true) true Try.f4.params.toList args.toList ds p := hA0
  rw [Try.params4] at hA hval
  obtain ⟨v0, vs0, d0, ds0, p0, q0, hargs, rfl, rfl, h0, r0⟩ := trodAll_cons hA
  obtain ⟨rfl, rfl, rfl⟩ := trodAll_nil r0
  obtain rfl : args = #[v0] := by cases args; simp_all
  obtain ⟨rfl, rfl⟩ := trodVars_none hV
  have lt0 : ∀ x ∈ p0, x.block < W.heap.size := by obtain ⟨m, hm⟩ := h0; exact DataW.trod_lt m _ _ _ hm
  have hv0 := hval 0 39 v0 rfl rfl
  clear hA0 hval0
  refine (walk W hv0 h0).mono fun e W' ⟨he, bel⟩ => ?_
  subst he
  exact ⟨_, rfl, _, _, _, [], _, [], hW', trodAll_mk1 (shut_bool Try.underlying4 _),
    trodAll_cons_mk (Below.trod laidOut (by kernel_rfl) (of_decide_eq_true (by kernel_rfl)) h0 bel lt0) trodAll_mk0,
    rfl, bel.frame _, fun h => by cases h⟩

theorem over : Rows.folderStaysRow.holds Try.pinned (OpenSpec.ofChange Rows.folderStaysSpec) :=
  OpenClaim.holds_of_wide 4 Try.f4 rfl rfl rfl rfl rfl rfl rfl ⟨rfl, rfl, rfl, rfl, rfl⟩ rfl rfl rfl rfl rfl (by kernel_rfl) Try.func4 (by kernel_rfl)
    (of_decide_eq_true (by kernel_rfl)) (by unfold Func.isWrapper; first | (rw [if_pos (by decide +kernel)]; kernel_rfl) | (rw [if_neg (by decide +kernel)]; exact ⟨rfl, rfl⟩))
    (fun os started H enc _ => lifted os started H enc)

theorem proved : Rows.FolderStaysSaid := over
#print axioms proved
end Go.Proofs.Ytjfjmlglgdhkoaa.folderStays
namespace Go.Proofs.Ytjfjmlglgdhkoaa
/-- The row, under a short name, for the claim. -/
theorem folderStays_holds : Rows.FolderStaysSaid := folderStays.proved
end Go.Proofs.Ytjfjmlglgdhkoaa
