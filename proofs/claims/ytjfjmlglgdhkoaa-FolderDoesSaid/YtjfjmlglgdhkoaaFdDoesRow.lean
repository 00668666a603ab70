/- FolderDoes returns true at every input, and the arguments read as they read before; there are no conditions. -/
import Derived.Test.YtjfjmlglgdhkoaaRows
import Derived.Test.YtjfjmlglgdhkoaaRfF
import Derived.Test.YtjfjmlglgdhkoaaFdRow
import Derived.WalkKit
import Derived.ProofKit
import Derived.OpenShut
import Derived.ChangeOld
import Derived.Below
namespace Go.Proofs.Ytjfjmlglgdhkoaa.folderDoes
open Go Go.AM Go.ChangeShapes Go.WideShapes Go.ChangeAt Go.RowKit
set_option linter.unusedVariables false

theorem own : ownKnob Try.prog.godebug = none := by kernel_rfl
theorem laidOut : laidOutB Try.prog = true := by kernel_rfl

theorem walk (W : World) {base : Nat} {T : Type} {enc : TypeId × Value → T} {v0 v1 : Value} {d0 d1 : DataW T} {p0 p1 : List MemPlace}
    (hv0 : Value.okWide Try.prog W .any base 22 v0) (hv1 : Value.okWide Try.prog W .any base 26 v1)
    (h0 : DataW.Trod enc Try.prog W 0 (fun _ => true) true 22 v0 d0 p0) (h1 : DataW.Trod enc Try.prog W 0 (fun _ => true) true 26 v1 d1 p1) :
    Calls Try.prog 3 #[v0, v1] W fun e W' => e = .returned (.bool true) ∧ Below W.heap.size W W' := by
  obtain ⟨f, hf, rfl⟩ := fo_open hv1 h1
  have okf : ∀ (f : Fo) n, f.av.ok n := fun f n => by simp [Fo.av, Fo.cs, AV.ok, AV.okL]
  rcases fs_open hv0 h0 with rfl | ⟨b, o, cap, l, rfl, hlc, hb, hok, hF⟩
  · exact ACall.start (f3e (f := f) (FV.nil _) (fun _ _ => rfl) rfl) ⟨trivial, okf f _, trivial⟩ rfl
  · by_cases hl : l = []
    · subst hl
      have hF0 := hF (by simp)
      refine ACall.start (f3e (v := .slice (some (b, o)) 0 (.inl cap)) (f := f) hF0.fv (fun H' hle => ?_) rfl) ⟨hb, okf f _, trivial⟩ ?_
      · have := (hF0.trans hle).rg
        simp only [List.length_nil, List.flatMap_nil] at this
        simp only [srcOf, this, Option.map_some]
      · simp [AV.instL, AV.inst, th0_addr, capOf]
    · refine ACall.start (f3 (p := (b, o)) (l := l) (c := .inl cap) (f := f) rfl (List.length_pos_iff.2 hl) (fun h => hF (by omega)) hok hf rfl) ⟨hb, okf f _, trivial⟩ ?_
      simp [AV.instL, AV.inst, th0_addr, capOf]

set_option maxRecDepth 100000 in
theorem lifted (os : Os) (started : os.Started) (H : Type) (enc : TypeId × Value → H) :
    ReturnsInHanded {} Try.checked os 3 .any (Rows.folderDoesSpec.pre6 enc Try.prog Try.f3 Rows.folderDoesRow.domain false) (Rows.folderDoesSpec.post enc Try.prog Try.f3 false true false false) := by
  refine returnsInHanded_of_change (C := Try.checked) own started (by kernel_rfl) Try.func3
    (ChangeSpec.witness6 (enc := enc) (C := Try.checked) false ⟨#[], #[.slice none 0 0, .agg #[.int .u32 0, .int .u32 0, .string ByteArray.empty, .int .u64 0]], []⟩ 8 (by kernel_rfl) (by kernel_rfl) (by kernel_rfl) (by kernel_rfl)) ?_
  intro W base args ds gs before hval0 hW hcnd _
  have hval : ∀ (j : Nat) t v, Try.f3.params[j]? = some t → args[j]? = some v → Value.okWide Try.prog W .any base t v := hval0
  have hW' := hW
  obtain ⟨p, q, hA0, hV, rfl, hfz, hnd⟩ := hW
  have hA : DataW.TrodAll enc Try.prog W 0 (fun _ => true) true Try.f3.params.toList args.toList ds p := hA0
  rw [Try.params3] at hA hval
  obtain ⟨v0, vs0, d0, ds0, p0, q0, hargs, rfl, rfl, h0, r0⟩ := trodAll_cons hA
  obtain ⟨v1, vs1, d1, ds1, p1, q1, rfl, rfl, rfl, h1, r1⟩ := trodAll_cons r0
  obtain ⟨rfl, rfl, rfl⟩ := trodAll_nil r1
  obtain rfl : args = #[v0, v1] := by cases args; simp_all
  obtain ⟨rfl, rfl⟩ := trodVars_none hV
  have lt0 : ∀ x ∈ p0, x.block < W.heap.size := by obtain ⟨m, hm⟩ := h0; exact DataW.trod_lt m _ _ _ hm
  have lt1 : ∀ x ∈ p1, x.block < W.heap.size := by obtain ⟨m, hm⟩ := h1; exact DataW.trod_lt m _ _ _ hm
  have hv0 := hval 0 22 v0 rfl rfl
  have hv1 := hval 1 26 v1 rfl rfl
  clear hA0 hval0
  refine (walk W hv0 hv1 h0 h1).mono fun e W' ⟨he, bel⟩ => ?_
  subst he
  exact ⟨_, rfl, _, _, _, [], _, [], hW', trodAll_mk1 (shut_bool Try.underlying4 _),
    trodAll_cons_mk (Below.trod laidOut (by kernel_rfl) (of_decide_eq_true (by kernel_rfl)) h0 bel lt0) (trodAll_cons_mk (Below.trod laidOut (by kernel_rfl) (of_decide_eq_true (by kernel_rfl)) h1 bel lt1) trodAll_mk0),
    rfl, bel.frame _, fun h => by cases h⟩

theorem over : Rows.folderDoesRow.holds Try.pinned (OpenSpec.ofChange Rows.folderDoesSpec) :=
  OpenClaim.holds_of_wide 3 Try.f3 rfl rfl rfl rfl rfl rfl rfl ⟨rfl, rfl, rfl, rfl, rfl⟩ rfl rfl rfl rfl rfl (by kernel_rfl) Try.func3 (by kernel_rfl)
    (of_decide_eq_true (by kernel_rfl)) (by unfold Func.isWrapper; first | (rw [if_pos (by decide +kernel)]; kernel_rfl) | (rw [if_neg (by decide +kernel)]; exact ⟨rfl, rfl⟩))
    (fun os started H enc _ => lifted os started H enc)

theorem proved : Rows.FolderDoesSaid := over
#print axioms proved
end Go.Proofs.Ytjfjmlglgdhkoaa.folderDoes
namespace Go.Proofs.Ytjfjmlglgdhkoaa
/-- The row, under a short name, for the claim. -/
theorem folderDoes_holds : Rows.FolderDoesSaid := folderDoes.proved
end Go.Proofs.Ytjfjmlglgdhkoaa
