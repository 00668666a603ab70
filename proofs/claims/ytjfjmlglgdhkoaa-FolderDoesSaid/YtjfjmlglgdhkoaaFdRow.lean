/- Folders: the folders that are given, read off the world. -/
import Derived.Test.YtjfjmlglgdhkoaaAmS
import Derived.Test.YtjfjmlglgdhkoaaFdA
import Derived.Test.YtjfjmlglgdhkoaaFdD
import Derived.KernelRfl
namespace Go.AM
open Go Go.Proofs Go.RowKit Go.WideShapes Go.ChangeShapes
set_option linter.unusedSimpArgs false
set_option linter.unusedVariables false
set_option maxRecDepth 100000

theorem cells26 : Try.prog.cellsOf 26 = 4 := by kernel_rfl
theorem cells23 : Try.prog.cellsOf 23 = 1 := by kernel_rfl
theorem cells24 : Try.prog.cellsOf 24 = 1 := by kernel_rfl
theorem cells9 : Try.prog.cellsOf 9 = 1 := by kernel_rfl

section
variable {T : Type} {enc : TypeId × Value → T} {W : World} {base : Nat}
def Fo.vs (f : Fo) : List Value := [.int .u32 f.id, .int .u32 f.par, .string f.name, .int .u64 f.rev]
theorem fo_read {b0 : Nat} {sp : Nat → Bool} {held : Bool} {n : Nat} {cs : List Value} {y : DataW T × List MemPlace} (h : DataW.trod enc Try.prog W b0 sp held n 26 cs = some y) : ∃ f : Fo, f.ok ∧ cs = f.vs := by
  obtain ⟨xs, m, _, _, hl, hx, hf⟩ := DataW.trod_struct Try.underlying26 h
  rw [cells26] at hl
  match cs, hl with
  | [c0, c1, c2, c3], _ =>
    have hx4 : xs.length = 4 := hx
    have h0 := hf 0 _ rfl
    have h1 := hf 1 _ rfl
    have h2 := hf 2 _ rfl
    have h3 := hf 3 _ rfl
    rw [List.getElem?_eq_getElem (by omega)] at h0 h1 h2 h3
    have k0 : DataW.trod enc Try.prog W b0 sp held m 23 [c0] = some xs[0] := by rw [show [c0] = ([c0, c1, c2, c3].drop 0).take (Try.prog.cellsOf 23) by rw [cells23]; rfl]; exact h0
    have k1 : DataW.trod enc Try.prog W b0 sp held m 23 [c1] = some xs[1] := by rw [show [c1] = ([c0, c1, c2, c3].drop 1).take (Try.prog.cellsOf 23) by rw [cells23]; rfl]; exact h1
    have k2 : DataW.trod enc Try.prog W b0 sp held m 9 [c2] = some xs[2] := by rw [show [c2] = ([c0, c1, c2, c3].drop 2).take (Try.prog.cellsOf 9) by rw [cells9]; rfl]; exact h2
    have k3 : DataW.trod enc Try.prog W b0 sp held m 24 [c3] = some xs[3] := by rw [show [c3] = ([c0, c1, c2, c3].drop 3).take (Try.prog.cellsOf 24) by rw [cells24]; rfl]; exact h3
    obtain ⟨n0, e0, _, w0⟩ := DataW.trod_int Try.underlying23 k0
    obtain ⟨n1, e1, _, w1⟩ := DataW.trod_int Try.underlying23 k1
    obtain ⟨s, e2, _, w2⟩ := DataW.trod_string Try.underlying9 k2
    obtain ⟨n3, e3, _, w3⟩ := DataW.trod_int Try.underlying24 k3
    have b0 := bounds_u32 w0
    have b1 := bounds_u32 w1
    simp only [List.cons.injEq, and_true] at e0 e1 e2 e3
    subst e0 e1 e2 e3
    exact ⟨⟨n0, n1, s, n3⟩, ⟨⟨b0.1, by have := b0.2; simp only; omega⟩, ⟨b1.1, by have := b1.2; simp only; omega⟩⟩, rfl⟩

/-- A folder that is given. -/
theorem fo_open {v : Value} {d : DataW T} {ps : List MemPlace} (hv : Value.okWide Try.prog W .any base 26 v) (h : DataW.Trod enc Try.prog W 0 (fun _ => true) true 26 v d ps) : ∃ f : Fo, f.ok ∧ v = f.av.inst th0 := by
  obtain ⟨cs, rfl, _⟩ := okWide_struct Try.underlying26 hv
  obtain ⟨n, hn⟩ := h
  obtain ⟨f, hf, hcs⟩ := fo_read hn
  refine ⟨f, hf, ?_⟩
  simp only [Value.cells] at hcs
  simp only [Fo.av, Fo.cs, AV.inst, AV.instL]
  congr 1
  apply Array.ext'
  exact hcs

theorem flat_get (l : List Fo) : ∀ (i j : Nat) (hi : i < l.length) (hj : j < 4), (l.flatMap Fo.cs)[i * 4 + j]? = l[i].cs[j]? := by
  intro i j hi hj
  have := drop_cs l i hi
  have h2 : (((l.flatMap Fo.cs).drop (i * 4)).take 4)[j]? = l[i].cs[j]? := by rw [this]
  rw [List.getElem?_take, if_pos hj, List.getElem?_drop] at h2
  exact h2

/-- A slice of folders that is given. -/
theorem fs_open {v : Value} {d : DataW T} {ps : List MemPlace} (hv : Value.okWide Try.prog W .any base 22 v) (h : DataW.Trod enc Try.prog W 0 (fun _ => true) true 22 v d ps) :
    v = .slice none 0 0 ∨ ∃ (b o cap : Nat) (l : List Fo), v = .slice (some ⟨b, o, none⟩) l.length cap ∧ l.length ≤ cap ∧ b < W.heap.size ∧ (∀ f ∈ l, f.ok) ∧ (l.length ≤ 1000 → FS (absH W) (b, o) l) := by
  rcases abs_slice Try.underlying22 hv with rfl | ⟨b, o, len, cap, rfl, hlc, hb, cs, hg, ho⟩
  · exact .inl rfl
  · right
    have hel := trod_elems Try.underlying22 h
    simp only [cells26] at hel
    obtain ⟨l, hl, hp⟩ := list_of (fun i (f : Fo) => f.ok ∧ ∀ j (hj : j < 4), W.cell? ⟨b, o + i * 4 + j, none⟩ = f.vs[j]?) len fun i hi => by
      obtain ⟨cs, y, n, h1, h2, h3⟩ := hel i hi
      obtain ⟨f, hf, rfl⟩ := fo_read h3
      exact ⟨f, hf, fun j hj => by rw [h2 j (by simpa [Fo.vs] using hj)]; simp⟩
    subst hl
    refine ⟨b, o, cap, l, rfl, hlc, hb, fun f hf => ?_, fun hle => ⟨hb, hle, ?_⟩⟩
    · obtain ⟨i, hi, rfl⟩ := List.getElem_of_mem hf
      exact (hp i hi).1
    · have key := range_of_cells (p := (b, o)) (l := l.flatMap Fo.cs) hg ho fun k hk => by
        rw [length_cs] at hk
        have hi : k / 4 < l.length := by omega
        have hj : k % 4 < 4 := by omega
        have hk2 : k = k / 4 * 4 + k % 4 := by omega
        have h1 := (hp (k / 4) hi).2 (k % 4) hj
        have h2 := flat_get l (k / 4) (k % 4) hi hj
        rw [← hk2] at h2
        rw [Nat.add_assoc, ← hk2] at h1
        have h3 : l[k / 4].cs[k % 4]? = l[k / 4].vs[k % 4]?.map (absV W.heap.size) := by
          have : l[k / 4].cs = l[k / 4].vs.map (absV W.heap.size) := rfl
          rw [this, List.getElem?_map]
        cases hc : W.cell? ⟨b, o + k, none⟩ with
        | none =>
          rw [hc] at h1
          rw [h3, ← h1] at h2
          rw [List.getElem?_eq_getElem (by rw [length_cs]; omega)] at h2
          cases h2
        | some u =>
          rw [abs_cell hc]
          rw [hc] at h1
          rw [h3, ← h1] at h2
          rw [List.getElem?_eq_getElem (by rw [length_cs]; omega)] at h2
          exact h2.symm
      rw [length_cs] at key
      exact key
end
end Go.AM
