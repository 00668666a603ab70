/- FolderBack returns true at every input, and the arguments read as they read before; there are no conditions. -/
import Derived.Test.YtjfjmlglgdhkoaaRows
import Derived.Test.YtjfjmlglgdhkoaaFdBk
import Derived.Test.YtjfjmlglgdhkoaaFdRow
import Derived.WalkKit
import Derived.ProofKit
import Derived.OpenShut
import Derived.ChangeOld
import Derived.Below
namespace Go.Proofs.Ytjfjmlglgdhkoaa.folderBack
open Go Go.AM Go.ChangeShapes Go.WideShapes Go.ChangeAt Go.RowKit
set_option linter.unusedVariables false

theorem own : ownKnob Try.prog.godebug = none := by kernel_rfl
theorem laidOut : laidOutB Try.prog = true := by kernel_rfl

theorem walk (W : World) {base : Nat} {T : Type} {enc : TypeId × Value → T} {v0 v1 v2 : Value} {d0 d1 d2 : DataW T} {p0 p1 p2 : List MemPlace}
    (hv0 : Value.okWide Try.prog W .any base 22 v0) (hv1 : Value.okWide Try.prog W .any base 26 v1) (hv2 : Value.okWide Try.prog W .any base 26 v2)
    (h0 : DataW.Trod enc Try.prog W 0 (fun _ => true) true 22 v0 d0 p0) (h1 : DataW.Trod enc Try.prog W 0 (fun _ => true) true 26 v1 d1 p1) (h2 : DataW.Trod enc Try.prog W 0 (fun _ => true) true 26 v2 d2 p2) :
    Calls Try.prog 5 #[v0, v1, v2] W fun e W' => e = .returned (.bool true) ∧ Below W.heap.size W W' := by
  obtain ⟨f, hf, rfl⟩ := fo_open hv1 h1
  obtain ⟨g, hg, rfl⟩ := fo_open hv2 h2
  have okf : ∀ (f : Fo) n, f.av.ok n := fun f n => by simp [Fo.av, Fo.cs, AV.ok, AV.okL]
  rcases fs_open hv0 h0 with rfl | ⟨b, o, cap, l, rfl, hlc, hb, hok, hF⟩
  · exact ACall.start (f5n (f := f) (g := g) rfl) ⟨trivial, okf f _, okf g _, trivial⟩ rfl
  · refine ACall.start (f5 (p := (b, o)) (l := l) (c := .inl cap) (f := f) (g := g) rfl (fun h => hF (by omega)) hlc hok hf hg rfl) ⟨hb, okf f _, okf g _, trivial⟩ ?_
    simp [AV.instL, AV.inst, th0_addr, capOf]

set_option maxRecDepth 100000 in
theorem lifted (os : Os) (started : os.Started) (H : Type) (enc : TypeId × Value → H) :
    ReturnsInHanded {} Try.checked os 5 .any (Rows.folderBackSpec.pre6 enc Try.prog Try.f5 Rows.folderBackRow.domain false) (Rows.folderBackSpec.post enc Try.prog Try.f5 false true false false) := by
  refine returnsInHanded_of_change (C := Try.checked) own started (by kernel_rfl) Try.func5
    (ChangeSpec.witness6 (enc := enc) (C := Try.checked) false ⟨#[], #[.slice none 0 0, .agg #[.int .u32 0, .int .u32 0, .string ByteArray.empty, .int .u64 0], .agg #[.int .u32 0, .int .u32 0, .string ByteArray.empty, .int .u64 0]], []⟩ 8 (by kernel_rfl) (by kernel_rfl) (by kernel_rfl) (by kernel_rfl)) ?_
  intro W base args ds gs before hval0 hW hcnd _
  have hval : ∀ (j : Nat) t v, Try.f5.params[j]? = some t → args[j]? = some v → Value.okWide Try.prog W .any base t v := hval0
  have hW' := hW
  obtain ⟨p, q, hA0, hV, rfl, hfz, hnd⟩ := hW
  have hA : DataW.TrodAll enc Try.prog W 0 (fun _ => true) true Try.f5.params.toList args.toList ds p := hA0
  rw [Try.params5] at hA hval
  obtain ⟨v0, vs0, d0, ds0, p0, q0, hargs, rfl, rfl, h0, r0⟩ := trodAll_cons hA
  obtain ⟨v1, vs1, d1, ds1, p1, q1, rfl, rfl, rfl, h1, r1⟩ := trodAll_cons r0
  obtain ⟨v2, vs2, d2, ds2, p2, q2, rfl, rfl, rfl, h2, r2⟩ := trodAll_cons r1
  obtain ⟨rfl, rfl, rfl⟩ := trodAll_nil r2
  obtain rfl : args = #[v0, v1, v2] := by cases args; simp_all
  obtain ⟨rfl, rfl⟩ := trodVars_none hV
  have lt0 : ∀ x ∈ p0, x.block < W.heap.size := by obtain ⟨m, hm⟩ := h0; exact DataW.trod_lt m _ _ _ hm
  have lt1 : ∀ x ∈ p1, x.block < W.heap.size := by obtain ⟨m, hm⟩ := h1; exact DataW.trod_lt m _ _ _ hm
  have lt2 : ∀ x ∈ p2, x.block < W.heap.size := by obtain ⟨m, hm⟩ := h2; exact DataW.trod_lt m _ _ _ hm
  have hv0 := hval 0 22 v0 rfl rfl
  have hv1 := hval 1 26 v1 rfl rfl
  have hv2 := hval 2 26 v2 rfl rfl
  clear hA0 hval0
  refine (walk W hv0 hv1 hv2 h0 h1 h2).mono fun e W' ⟨he, bel⟩ => ?_
  subst he
  exact ⟨_, rfl, _, _, _, [], _, [], hW', trodAll_mk1 (shut_bool Try.underlying4 _),
    trodAll_cons_mk (Below.trod laidOut (by kernel_rfl) (of_decide_eq_true (by kernel_rfl)) h0 bel lt0) (trodAll_cons_mk (Below.trod laidOut (by kernel_rfl) (of_decide_eq_true (by kernel_rfl)) h1 bel lt1) (trodAll_cons_mk (Below.trod laidOut (by kernel_rfl) (of_decide_eq_true (by kernel_rfl)) h2 bel lt2) trodAll_mk0)),
    rfl, bel.frame _, fun h => by cases h⟩

theorem over : Rows.folderBackRow.holds Try.pinned (OpenSpec.ofChange Rows.folderBackSpec) :=
  OpenClaim.holds_of_wide 5 Try.f5 rfl rfl rfl rfl rfl rfl rfl ⟨rfl, rfl, rfl, rfl, rfl⟩ rfl rfl rfl rfl rfl (by kernel_rfl) Try.func5 (by kernel_rfl)
    (of_decide_eq_true (by kernel_rfl)) (by unfold Func.isWrapper; first | (rw [if_pos (by decide +kernel)]; kernel_rfl) | (rw [if_neg (by decide +kernel)]; exact ⟨rfl, rfl⟩))
    (fun os started H enc _ => lifted os started H enc)

theorem proved : Rows.FolderBackSaid := over
#print axioms proved
end Go.Proofs.Ytjfjmlglgdhkoaa.folderBack
namespace Go.Proofs.Ytjfjmlglgdhkoaa
/-- The row, under a short name, for the claim. -/
theorem folderBack_holds : Rows.FolderBackSaid := folderBack.proved
end Go.Proofs.Ytjfjmlglgdhkoaa
