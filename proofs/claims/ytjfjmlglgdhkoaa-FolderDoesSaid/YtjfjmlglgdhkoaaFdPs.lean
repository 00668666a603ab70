/- Folders, no program in sight: what is left when one is dropped may be; each level is one more than the parent's. -/
import Derived.Test.YtjfjmlglgdhkoaaFdPl
namespace Go.AM
set_option linter.unusedSimpArgs false
set_option linter.unusedVariables false

theorem inWay_iff {l : List Fo} {id : Int} {f : Fo} : inWay l id f = true ↔ ∃ w, wayF l 4 f.id [] = some w ∧ id ∈ w := by
  unfold inWay
  cases e : wayF l 4 f.id [] with
  | none => simp
  | some w =>
    simp only [Option.some.injEq, exists_eq_left', List.any_eq_true, beq_iff_eq]
    constructor
    · rintro ⟨x, hx, rfl⟩; exact hx
    · intro h; exact ⟨id, h, rfl⟩
theorem dropE_zero {l : List Fo} {id : Int} (h : dropE l id = 0) : MayP l ∧ (∃ f, look l id = some f) ∧ id ≠ 1 := by
  unfold dropE at h
  split at h
  · cases h
  rename_i h1
  split at h
  · cases h
  rename_i h2
  split at h
  · cases h
  rename_i h3
  exact ⟨may_iff.1 (by simpa using h1), Option.ne_none_iff_exists'.1 h2, h3⟩
/-- Who is dropped. -/
theorem gone_iff {l : List Fo} {id : Int} (hm : MayP l) {gone : List Int} (hp : gone.Perm (goneF l id)) {f : Fo} (hf : f ∈ l) : (gone.any fun y => f.id == y) = true ↔ f.id = id ∨ inWay l id f = true := by
  rw [List.any_eq_true]
  constructor
  · rintro ⟨y, hy, e⟩
    have e : f.id = y := by simpa using e
    subst e
    have := hp.mem_iff.1 hy
    simp only [goneF, List.mem_append, List.mem_singleton] at this
    rcases this with h | h
    · rw [beneathF, if_pos (may_iff.2 hm), List.mem_map] at h
      obtain ⟨g, hg, e⟩ := h
      rw [List.mem_filter] at hg
      have := hm.rise.one g hg.1 f hf e
      subst this
      simp only [Bool.and_eq_true] at hg
      exact .inr hg.2.2
    · exact .inl h
  · intro h
    refine ⟨f.id, hp.mem_iff.2 ?_, by simp⟩
    simp only [goneF, List.mem_append, List.mem_singleton]
    by_cases e : f.id = id
    · exact .inr e
    · left
      rw [beneathF, if_pos (may_iff.2 hm), List.mem_map]
      refine ⟨f, List.mem_filter.2 ⟨hf, ?_⟩, rfl⟩
      rcases h with h | h
      · exact absurd h e
      · simp [h, e]
theorem count_split {α : Type} (p q : α → Bool) : ∀ l : List α, (∀ x ∈ l, ¬ (p x = true ∧ q x = true)) → (l.filter fun x => p x || q x).length = (l.filter p).length + (l.filter q).length
  | [], _ => rfl
  | a :: l, h => by
    have ih := count_split p q l fun x hx => h x (List.mem_cons_of_mem _ hx)
    have ha := h a List.mem_cons_self
    simp only [List.filter_cons]
    cases hp : p a <;> cases hq : q a <;> simp_all <;> omega
theorem count_one {l : List Fo} (hr : Rise l) {f : Fo} (hf : f ∈ l) : (l.filter fun x => x.id == f.id).length = 1 := by
  have : l.filter (fun x => x.id == f.id) = l.filter (fun x => decide (x = f)) := List.filter_congr fun x hx => by
    rw [Bool.eq_iff_iff]
    simp only [beq_iff_eq, decide_eq_true_eq]
    exact ⟨fun e => hr.one x hx f hf e, fun e => by rw [e]⟩
  rw [this]
  clear this
  induction l with
  | nil => simp at hf
  | cons a l ih =>
    obtain ⟨h1, h2⟩ := List.pairwise_cons.1 hr
    rw [List.filter_cons]
    by_cases e : a = f
    · subst e
      have : l.filter (fun x => decide (x = a)) = [] := by
        rw [List.filter_eq_nil_iff]
        intro x hx e
        have e2 := h1 x hx
        rw [of_decide_eq_true e] at e2
        exact absurd e2 (by omega)
      simp [this]
    · rw [if_neg (by simpa using e)]
      rcases List.mem_cons.1 hf with h | h
      · exact absurd h.symm e
      · exact ih h2 h
theorem length_not {α : Type} (p : α → Bool) : ∀ l : List α, (l.filter p).length + (l.filter fun x => !p x).length = l.length
  | [] => rfl
  | a :: l => by
    have := length_not p l
    simp only [List.filter_cons]
    cases p a <;> simp <;> omega
/-- What is left. -/
theorem drop_may {l : List Fo} {id : Int} (h : dropE l id = 0) {gone : List Int} (hp : gone.Perm (goneF l id)) :
    MayP (l.filter fun f => !gone.any fun y => f.id == y) ∧ (l.filter fun f => !gone.any fun y => f.id == y).length + (beneathF l id).length + 1 = l.length ∧ gone.length = (beneathF l id).length + 1 := by
  obtain ⟨hm, ⟨g, hg⟩, h1⟩ := dropE_zero h
  obtain ⟨g1, g2⟩ := look_some hg
  have hself : ∀ f ∈ l, f.id = id → inWay l id f = true := fun f hf e => by
    obtain ⟨w, hw⟩ := hm.deep f hf
    exact inWay_iff.2 ⟨w, hw, by rw [← e]; exact (way_head hw).1⟩
  have hfil : (l.filter fun f => !gone.any fun y => f.id == y) = l.filter fun f => !inWay l id f := List.filter_congr fun f hf => by
    have := gone_iff hm hp hf
    rw [Bool.eq_iff_iff]
    simp only [Bool.not_eq_true', ← Bool.not_eq_true]
    rw [this]
    constructor
    · intro h h'; exact h (.inr h')
    · rintro h (h' | h')
      · exact h (hself f hf h')
      · exact h h'
  rw [hfil]
  have hr : Rise (l.filter fun f => !inWay l id f) := hm.rise.filter _
  refine ⟨⟨?_, hr, fun f hf => hm.named f (List.mem_filter.1 hf).1, fun f hf x hx => hm.twins f (List.mem_filter.1 hf).1 x (List.mem_filter.1 hx).1, fun f hf => ?_⟩, ?_, ?_⟩
  · obtain ⟨f0, r, rfl, k1, k2, k3⟩ := head_cases hm.head
    have hno : inWay (f0 :: r) id f0 = false := by
      rw [← Bool.not_eq_true, inWay_iff]
      rintro ⟨w, hw, hid⟩
      obtain ⟨f', hf', ⟨_, rfl⟩ | ⟨e, _⟩⟩ := way_cases hw
      · have : id = f0.id := by simpa using hid
        omega
      · have := look_mem hm.rise (f := f0) (by simp)
        rw [hf'] at this
        cases this
        exact e k3
    rw [List.filter_cons, if_pos (by simp [hno])]
    simp only [headF, Bool.and_eq_true, decide_eq_true_eq, beq_iff_eq]
    refine ⟨⟨?_, k2⟩, k3⟩
    have := List.length_filter_le (fun f => !inWay (f0 :: r) id f) r
    simp only [List.length_cons] at k1 ⊢
    omega
  · obtain ⟨f1, f2⟩ := List.mem_filter.1 hf
    obtain ⟨w, hw⟩ := hm.deep f f1
    have hnot : id ∉ w := fun hmem => by
      have := inWay_iff.2 ⟨w, hw, hmem⟩
      rw [this] at f2
      cases f2
    refine ⟨w, way_congr hw fun y hy => ?_⟩
    obtain ⟨e, he⟩ := way_looks hw y hy
    obtain ⟨e1, e2⟩ := look_some he
    obtain ⟨w', hw', hsub, _⟩ := way_part hw y hy
    have hke : inWay l id e = false := by
      rw [← Bool.not_eq_true, inWay_iff]
      rintro ⟨w2, hw2, hid⟩
      rw [e2, hw'] at hw2
      cases hw2
      exact hnot (hsub id hid)
    have := look_mem hr (List.mem_filter.2 ⟨e1, by simp [hke]⟩)
    rw [he, ← e2]; exact this
  · have hb : (beneathF l id).length = (l.filter fun f => f.id != id && inWay l id f).length := by rw [beneathF, if_pos (may_iff.2 hm), List.length_map]
    have hs := count_split (fun f : Fo => f.id != id && inWay l id f) (fun f => f.id == g.id) l fun x hx => by
      simp only [Bool.and_eq_true, bne_iff_ne, beq_iff_eq]
      rintro ⟨⟨a, _⟩, b⟩
      exact a (by omega)
    rw [count_one hm.rise g1] at hs
    have he : (l.filter fun f => f.id != id && inWay l id f || f.id == g.id) = l.filter fun f => inWay l id f := List.filter_congr fun f hf => by
      rw [Bool.eq_iff_iff]
      simp only [Bool.or_eq_true, Bool.and_eq_true, bne_iff_ne, beq_iff_eq]
      constructor
      · rintro (h | h)
        · exact h.2
        · exact hself f hf (by omega)
      · intro h
        by_cases e : f.id = id
        · exact .inr (by omega)
        · exact .inl ⟨e, h⟩
    rw [he] at hs
    have hl := length_not (fun f => inWay l id f) l
    omega
  · rw [hp.length_eq]; simp [goneF]

/-- Each level is one more than the parent's, four at most. -/
theorem level_one {l : List Fo} (hm : MayP l) {f : Fo} (hf : f ∈ l) : 1 ≤ levelF l f.id ∧ levelF l f.id ≤ 4 ∧ levelF l f.id = 1 + levelF l f.par := by
  have hmm := may_iff.2 hm
  obtain ⟨w, hw⟩ := hm.deep f hf
  have hlev : levelF l f.id = w.length := by simp [levelF, hmm, hw]
  have h4 := wayF_len l 4 f.id [] w hw
  have h1 := (way_head hw).2
  refine ⟨by omega, by simp at h4; omega, ?_⟩
  obtain ⟨f', hf', hcase⟩ := way_cases hw
  rw [look_mem hm.rise hf] at hf'
  cases hf'
  rcases hcase with ⟨e, rfl⟩ | ⟨e, w', e1, rfl⟩
  · have h0 : levelF l f.par = 0 := by
      have : look l f.par = none := look_none.2 fun x hx => by have := hm.ge x hx; omega
      have hn : wayF l 4 f.par [] = none := by rw [way_succ, this]
      simp [levelF, hmm, hn]
    rw [hlev, h0]; rfl
  · have h0 : levelF l f.par = w'.length := by simp [levelF, hmm, way_mono e1]
    rw [hlev, h0]; simp; omega
end Go.AM
