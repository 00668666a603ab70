/- Folders, no program in sight: what is dropped after it was added, what is moved back, and that hierarchies stay such. -/
import Derived.Test.YtjfjmlglgdhkoaaFdL
namespace Go.AM
set_option linter.unusedSimpArgs false
set_option linter.unusedVariables false

/-- The numbers rise. -/
def Rise (l : List Fo) : Prop := l.Pairwise (fun f g => f.id < g.id)
theorem Rise.one {l : List Fo} (h : Rise l) : ∀ f ∈ l, ∀ g ∈ l, f.id = g.id → f = g := by
  induction l with
  | nil => simp
  | cons a l ih =>
    obtain ⟨h1, h2⟩ := List.pairwise_cons.1 h
    intro f hf g hg e
    rcases List.mem_cons.1 hf with rfl | hf'
    · rcases List.mem_cons.1 hg with rfl | hg'
      · rfl
      · have := h1 g hg'; omega
    · rcases List.mem_cons.1 hg with rfl | hg'
      · have := h1 f hf'; omega
      · exact ih h2 f hf' g hg' e
theorem look_some {l : List Fo} {id : Int} {f : Fo} (h : look l id = some f) : f ∈ l ∧ f.id = id :=
  ⟨List.mem_of_find?_eq_some h, by simpa using List.find?_some h⟩
theorem look_mem {l : List Fo} (hr : Rise l) {f : Fo} (hf : f ∈ l) : look l f.id = some f := by
  cases h : look l f.id with
  | none =>
    have := List.find?_eq_none.1 h f hf
    simp at this
  | some g =>
    obtain ⟨h1, h2⟩ := look_some h
    rw [hr.one g h1 f hf h2]
theorem look_none {l : List Fo} {id : Int} : look l id = none ↔ ∀ f ∈ l, f.id ≠ id := by
  unfold look; rw [List.find?_eq_none]; simp
theorem look_congr {l l' : List Fo} (hr : Rise l) (hr' : Rise l') {y : Int} (h : ∀ f, f.id = y → (f ∈ l ↔ f ∈ l')) : look l' y = look l y := by
  cases e : look l y with
  | none =>
    rw [look_none] at e ⊢
    intro f hf hy
    exact e f ((h f hy).2 hf) hy
  | some f =>
    obtain ⟨h1, h2⟩ := look_some e
    have := look_mem hr' ((h f h2).1 h1)
    rw [h2] at this; exact this

theorem wayF_acc (l : List Fo) : ∀ (k : Nat) (id : Int) (acc : List Int), wayF l k id acc = (wayF l k id []).map (acc ++ ·)
  | 0, _, _ => rfl
  | k + 1, id, acc => by
    simp only [wayF]
    cases look l id with
    | none => rfl
    | some f =>
      simp only
      by_cases h : f.par = 0
      · simp [h]
      · rw [if_neg h, if_neg h, wayF_acc l k f.par (acc ++ [id]), wayF_acc l k f.par ([] ++ [id])]
        cases wayF l k f.par [] <;> simp
theorem way_succ (l : List Fo) (k : Nat) (id : Int) : wayF l (k + 1) id [] = match look l id with
    | none => none
    | some f => if f.par = 0 then some [id] else (wayF l k f.par []).map (id :: ·) := by
  simp only [wayF]
  cases look l id with
  | none => rfl
  | some f =>
    simp only
    by_cases h : f.par = 0
    · simp [h]
    · rw [if_neg h, if_neg h, wayF_acc]; rfl
theorem way_cases {l : List Fo} {k : Nat} {id : Int} {w : List Int} (h : wayF l (k + 1) id [] = some w) : ∃ f, look l id = some f ∧ ((f.par = 0 ∧ w = [id]) ∨ (f.par ≠ 0 ∧ ∃ w', wayF l k f.par [] = some w' ∧ w = id :: w')) := by
  rw [way_succ] at h
  cases e : look l id with
  | none => rw [e] at h; cases h
  | some f =>
    rw [e] at h
    simp only at h
    refine ⟨f, rfl, ?_⟩
    by_cases hp : f.par = 0
    · rw [if_pos hp] at h; cases h; exact .inl ⟨hp, rfl⟩
    · rw [if_neg hp] at h
      cases e2 : wayF l k f.par [] with
      | none => rw [e2] at h; cases h
      | some w' => rw [e2] at h; cases h; exact .inr ⟨hp, w', rfl, rfl⟩
theorem way_mono {l : List Fo} : ∀ {k : Nat} {id : Int} {w : List Int}, wayF l k id [] = some w → wayF l (k + 1) id [] = some w
  | 0, _, _, h => by cases h
  | k + 1, id, w, h => by
    obtain ⟨f, hf, h1 | ⟨h1, w', h2, h3⟩⟩ := way_cases h
    · rw [way_succ, hf]; simp [h1]
    · rw [way_succ, hf]; simp only [if_neg h1, way_mono h2, h3]; rfl
theorem way_head {l : List Fo} {k : Nat} {id : Int} {w : List Int} (h : wayF l k id [] = some w) : id ∈ w ∧ 0 < w.length := by
  cases k with
  | zero => cases h
  | succ k =>
    obtain ⟨f, hf, ⟨h1, rfl⟩ | ⟨h1, w', h2, rfl⟩⟩ := way_cases h <;> simp
/-- Whatever is on a way has a way that lies in it. -/
theorem way_part {l : List Fo} : ∀ {k : Nat} {id : Int} {w : List Int}, wayF l k id [] = some w → ∀ y ∈ w, ∃ w', wayF l k y [] = some w' ∧ (∀ z ∈ w', z ∈ w) ∧ (y ≠ id ∨ w' = w) ∧ (y ∈ w.tail → w'.length < w.length)
  | 0, _, _, h => by cases h
  | k + 1, id, w, h => by
    intro y hy
    obtain ⟨f, hf, ⟨h1, rfl⟩ | ⟨h1, w', h2, rfl⟩⟩ := way_cases h
    · have : y = id := by simpa using hy
      subst this
      exact ⟨_, h, by simp, by simp, by simp⟩
    · by_cases e : y ∈ w'
      · obtain ⟨w2, g1, g2, g3, g4⟩ := way_part h2 y e
        have hl : w2.length ≤ w'.length := by
          by_cases e2 : y ∈ w'.tail
          · have := g4 e2; omega
          · rcases g3 with g3 | g3
            · cases k with
              | zero => cases h2
              | succ k =>
                obtain ⟨f2, hf2, ⟨q1, rfl⟩ | ⟨q1, w4, q2, rfl⟩⟩ := way_cases h2
                · exact absurd (by simpa using e) g3
                · rcases List.mem_cons.1 e with e3 | e3
                  · exact absurd e3 g3
                  · exact absurd e3 e2
            · rw [g3]; exact Nat.le_refl _
        refine ⟨w2, way_mono g1, fun z hz => List.mem_cons_of_mem _ (g2 z hz), ?_, fun _ => by simp; omega⟩
        left
        intro e3
        subst e3
        have := way_mono g1
        rw [h] at this
        cases this
        simp at hl
        omega
      · have : y = id := by
          rcases List.mem_cons.1 hy with h' | h'
          · exact h'
          · exact absurd h' e
        subst this
        exact ⟨_, h, fun z hz => hz, .inr rfl, fun h' => absurd (by simpa using h') e⟩
theorem way_once {l : List Fo} {k : Nat} {id : Int} {w : List Int} (h : wayF l k id [] = some w) : id ∉ w.tail := by
  intro hm
  obtain ⟨w', g1, _, _, g4⟩ := way_part h id (List.mem_of_mem_tail hm)
  rw [h] at g1
  cases g1
  exact absurd (g4 hm) (by omega)
theorem way_congr {l l' : List Fo} : ∀ {k : Nat} {id : Int} {w : List Int}, wayF l k id [] = some w → (∀ y ∈ w, look l' y = look l y) → wayF l' k id [] = some w
  | 0, _, _, h, _ => by cases h
  | k + 1, id, w, h, hc => by
    obtain ⟨f, hf, ⟨h1, rfl⟩ | ⟨h1, w', h2, rfl⟩⟩ := way_cases h
    · rw [way_succ, hc id (by simp), hf]; simp [h1]
    · rw [way_succ, hc id (by simp), hf]
      simp only [if_neg h1, way_congr h2 fun y hy => hc y (List.mem_cons_of_mem _ hy)]; rfl
theorem way_looks {l : List Fo} {k : Nat} {id : Int} {w : List Int} (h : wayF l k id [] = some w) : ∀ y ∈ w, ∃ f, look l y = some f := by
  intro y hy
  obtain ⟨w', g1, _⟩ := way_part h y hy
  cases k with
  | zero => cases g1
  | succ k => obtain ⟨f, hf, _⟩ := way_cases g1; exact ⟨f, hf⟩

theorem any_false {l : List Fo} {p : Fo → Bool} : l.any p = false ↔ ∀ x ∈ l, p x = false := by
  rw [List.any_eq_false]; simp
/-- What a hierarchy that may be is. -/
structure MayP (l : List Fo) : Prop where
  head : headF l = true
  rise : Rise l
  named : ∀ f ∈ l, namedF f.name = true
  twins : ∀ f ∈ l, ∀ x ∈ l, same2 f x = false
  deep : ∀ f ∈ l, ∃ w, wayF l 4 f.id [] = some w
theorem deepF_iff {l : List Fo} : deepF l = true ↔ ∀ f ∈ l, ∃ w, wayF l 4 f.id [] = some w := by
  unfold deepF
  rw [Bool.not_eq_true', any_false]
  constructor
  · intro h f hf
    have := h f hf
    unfold noWay at this
    cases e : wayF l 4 f.id [] with
    | none => rw [e] at this; cases this
    | some w => exact ⟨w, rfl⟩
  · intro h f hf
    obtain ⟨w, hw⟩ := h f hf
    simp [noWay, hw]
theorem may_iff {l : List Fo} : mayF l = true ↔ MayP l := by
  constructor
  · intro h
    have hs := may_sorted h
    simp only [mayF, Bool.and_eq_true, List.all_eq_true, List.mem_range] at h
    obtain ⟨⟨h1, h2⟩, h3⟩ := h
    refine ⟨h1, List.pairwise_iff_getElem.2 fun i j hi hj hij => hs i j hi hj hij, fun f hf => ?_, fun f hf x hx => ?_, deepF_iff.1 h3⟩
    · obtain ⟨i, hi, rfl⟩ := List.getElem_of_mem hf
      have := h2 i hi
      simp only [goodAt, List.getElem?_eq_getElem hi, Bool.and_eq_true] at this
      exact this.1.2
    · obtain ⟨i, hi, rfl⟩ := List.getElem_of_mem hf
      have := h2 i hi
      simp only [goodAt, List.getElem?_eq_getElem hi, Bool.and_eq_true, Bool.not_eq_true'] at this
      exact any_false.1 this.2 x hx
  · rintro ⟨h1, h2, h3, h4, h5⟩
    simp only [mayF, Bool.and_eq_true, List.all_eq_true, List.mem_range]
    refine ⟨⟨h1, fun i hi => ?_⟩, deepF_iff.2 h5⟩
    simp only [goodAt, List.getElem?_eq_getElem hi, Bool.and_eq_true, Bool.not_eq_true']
    refine ⟨⟨?_, h3 _ (List.getElem_mem hi)⟩, any_false.2 (h4 _ (List.getElem_mem hi))⟩
    cases i with
    | zero => rfl
    | succ i =>
      have := List.pairwise_iff_getElem.1 h2 i (i + 1) (by omega) hi (by omega)
      simp only [riseAt, List.getElem?_eq_getElem hi, List.getElem?_eq_getElem (show i < l.length by omega), Bool.not_eq_true', decide_eq_false_iff_not]
      omega

theorem head_cases {l : List Fo} (h : headF l = true) : ∃ f r, l = f :: r ∧ l.length ≤ 16 ∧ f.id = 1 ∧ f.par = 0 := by
  cases l with
  | nil => cases h
  | cons f r =>
    simp only [headF, Bool.and_eq_true, decide_eq_true_eq, beq_iff_eq] at h
    exact ⟨f, r, rfl, h.1.1, h.1.2, h.2⟩
theorem MayP.ge {l : List Fo} (h : MayP l) : ∀ f ∈ l, 1 ≤ f.id := by
  obtain ⟨f0, r, rfl, _, h1, _⟩ := head_cases h.head
  intro f hf
  rcases List.mem_cons.1 hf with rfl | hf
  · omega
  · have := (List.pairwise_cons.1 h.rise).1 f hf; omega

/-! ### added -/
theorem mem_with {l : List Fo} {f x : Fo} : x ∈ withF l f ↔ x = f ∨ x ∈ l := by
  unfold withF
  conv => rhs; rw [← List.takeWhile_append_dropWhile (p := fun x : Fo => decide (x.id < f.id)) (l := l)]
  simp only [List.mem_append, List.mem_cons]
  grind
theorem drop_ge {l : List Fo} (h : Rise l) (n : Int) : ∀ x ∈ l.dropWhile (fun x => decide (x.id < n)), n ≤ x.id := by
  induction l with
  | nil => simp
  | cons a l ih =>
    obtain ⟨h1, h2⟩ := List.pairwise_cons.1 h
    rw [List.dropWhile_cons]
    split
    · exact ih h2
    · rename_i hn
      simp only [decide_eq_true_eq] at hn
      intro x hx
      rcases List.mem_cons.1 hx with rfl | hx
      · omega
      · have := h1 x hx; omega
theorem take_lt {l : List Fo} (n : Int) : ∀ x ∈ l.takeWhile (fun x => decide (x.id < n)), x.id < n := by
  induction l with
  | nil => simp
  | cons a l ih =>
    rw [List.takeWhile_cons]
    split
    · rename_i hn
      intro x hx
      rcases List.mem_cons.1 hx with rfl | hx
      · simpa using hn
      · exact ih x hx
    · simp
theorem with_rise {l : List Fo} (h : Rise l) {f : Fo} (hf : ∀ x ∈ l, x.id ≠ f.id) : Rise (withF l f) := by
  have hl := List.takeWhile_append_dropWhile (p := fun x : Fo => decide (x.id < f.id)) (l := l)
  have h' := h
  unfold Rise at h'
  rw [← hl, List.pairwise_append] at h'
  obtain ⟨h1, h2, h3⟩ := h'
  refine List.pairwise_append.2 ⟨h1, List.pairwise_cons.2 ⟨fun x hx => ?_, h2⟩, fun x hx y hy => ?_⟩
  · have a1 := drop_ge h f.id x hx
    have a2 := hf x (List.dropWhile_sublist _ |>.subset hx)
    omega
  · have a1 := take_lt f.id x hx
    rcases List.mem_cons.1 hy with rfl | hy
    · exact a1
    · exact h3 x hx y hy
theorem filter_with {l : List Fo} {f : Fo} (hf : ∀ x ∈ l, x.id ≠ f.id) : (withF l f).filter (fun x => ![f.id].any fun y => x.id == y) = l := by
  have key : ∀ m : List Fo, (∀ x ∈ m, x.id ≠ f.id) → m.filter (fun x => ![f.id].any fun y => x.id == y) = m := fun m hm =>
    List.filter_eq_self.2 fun x hx => by simp [hm x hx]
  unfold withF
  rw [List.filter_append, List.filter_cons]
  rw [if_neg (by simp), key _ fun x hx => hf x (List.takeWhile_sublist _ |>.subset hx), key _ fun x hx => hf x (List.dropWhile_sublist _ |>.subset hx)]
  exact List.takeWhile_append_dropWhile

theorem same2_symm (f x : Fo) : same2 f x = same2 x f := by
  unfold same2
  rw [Bool.eq_iff_iff]
  simp only [Bool.and_eq_true, bne_iff_ne, beq_iff_eq]
  constructor <;> (rintro ⟨⟨a, b⟩, c⟩; exact ⟨⟨fun h => a h.symm, b.symm⟩, c.symm⟩)

/-- What adding asks. -/
theorem addE_zero {l : List Fo} {f : Fo} (h : addE l f = 0) : MayP l ∧ f.id ≠ 0 ∧ namedF f.name = true ∧ look l f.id = none ∧ homeF l f = 0 ∧ (∀ x ∈ l, same2 f x = false) ∧ deepF (withF l f) = true ∧ (withF l f).length ≤ 16 := by
  unfold addE at h
  split at h
  · cases h
  rename_i h1
  split at h
  · cases h
  rename_i h2
  split at h
  · contradiction
  rename_i h3
  split at h
  · cases h
  rename_i h4
  split at h
  · cases h
  rename_i h5
  split at h
  · cases h
  rename_i h6
  simp only [not_or, Bool.not_eq_false, Bool.not_eq_true, Option.isSome_eq_false_iff, Option.isNone_iff_eq_none, ne_eq, Decidable.not_not] at h1 h2 h3 h4 h5
  exact ⟨may_iff.1 h1.1, h1.2.1, h1.2.2, h2, h3, any_false.1 h4, h5, by omega⟩
theorem add_may {l : List Fo} {f : Fo} (hok : f.ok) (h : addE l f = 0) : MayP (withF l f) ∧ f.id ≠ 1 := by
  obtain ⟨hm, h0, hn, hl, hh, ht, hd, hlen⟩ := addE_zero h
  have hl' := look_none.1 hl
  obtain ⟨f0, r, rfl, g1, g2, g3⟩ := head_cases hm.head
  have h1 : f.id ≠ 1 := fun e => hl' f0 (by simp) (by omega)
  have hge := hok.1.1
  refine ⟨⟨?_, with_rise hm.rise hl', fun x hx => ?_, fun x hx y hy => ?_, deepF_iff.1 hd⟩, h1⟩
  · have hd0 : decide (f0.id < f.id) = true := by simp; omega
    have : withF (f0 :: r) f = f0 :: (r.takeWhile (fun x => decide (x.id < f.id)) ++ f :: r.dropWhile (fun x => decide (x.id < f.id))) := by
      simp [withF, List.takeWhile_cons, List.dropWhile_cons, hd0]
    rw [this] at hlen ⊢
    simp only [headF, Bool.and_eq_true, decide_eq_true_eq, beq_iff_eq]
    exact ⟨⟨hlen, g2⟩, g3⟩
  · rcases mem_with.1 hx with rfl | hx
    · exact hn
    · exact hm.named x hx
  · rcases mem_with.1 hx with rfl | hx1
    · rcases mem_with.1 hy with rfl | hy
      · simp [same2]
      · exact ht y hy
    · rcases mem_with.1 hy with rfl | hy
      · rw [same2_symm]; exact ht x hx1
      · exact hm.twins x hx1 y hy
theorem look_with {l : List Fo} {f : Fo} (hm : MayP l) (hf : ∀ x ∈ l, x.id ≠ f.id) {y : Int} (hy : y ≠ f.id) : look (withF l f) y = look l y := by
  refine look_congr hm.rise (with_rise hm.rise hf) fun g hg => ?_
  rw [mem_with]
  constructor
  · exact .inr
  · rintro (rfl | h)
    · exact absurd hg (Ne.symm hy)
    · exact h
/-- Drop of what was added is as ahead of it. -/
theorem back_add {l : List Fo} {f : Fo} (hok : f.ok) (h : addE l f = 0) : dropE (withF l f) f.id = 0 ∧ goneF (withF l f) f.id = [f.id] ∧ (withF l f).filter (fun x => ![f.id].any fun y => x.id == y) = l := by
  obtain ⟨hm, h0, hn, hl, hh, ht, hd, hlen⟩ := addE_zero h
  have hl' := look_none.1 hl
  obtain ⟨hw, h1⟩ := add_may hok h
  have hwm := may_iff.2 hw
  refine ⟨?_, ?_, filter_with hl'⟩
  · rw [dropE, if_neg (by simp [hwm]), if_neg (by rw [look_mem hw.rise (mem_with.2 (.inl rfl))]; simp), if_neg h1]
  · have : (withF l f).filter (fun x => x.id != f.id && inWay (withF l f) f.id x) = [] := by
      rw [List.filter_eq_nil_iff]
      intro x hx
      rcases mem_with.1 hx with rfl | hx
      · simp
      · obtain ⟨w, hww⟩ := hm.deep x hx
        have hlk := way_looks hww
        have hnot : f.id ∉ w := fun hmem => by
          obtain ⟨g, hg⟩ := hlk _ hmem
          rw [hl] at hg; cases hg
        have hw2 : wayF (withF l f) 4 x.id [] = some w := way_congr hww fun y hy => look_with hm hl' fun e => hnot (e ▸ hy)
        have : (w.any fun y => f.id == y) = false := by
          rw [List.any_eq_false]; intro y hy e
          exact hnot (by rw [beq_iff_eq.1 e]; exact hy)
        simp [inWay, hw2, this]
    rw [goneF, beneathF, if_pos hwm, this]; rfl

/-! ### moved -/
theorem moveE_zero {l : List Fo} {f : Fo} (h : moveE l f = 0) : MayP l ∧ (∃ was, look l f.id = some was) ∧ f.id ≠ 1 ∧ namedF f.name = true ∧ homeF l f = 0 ∧ f.par ≠ f.id ∧ (∀ x ∈ l, same2 f x = false) ∧ deepF (moveF l f) = true := by
  unfold moveE at h
  split at h
  · cases h
  rename_i h1
  split at h
  · cases h
  rename_i h2
  split at h
  · cases h
  rename_i h3
  split at h
  · cases h
  rename_i h4
  split at h
  · contradiction
  rename_i h5
  split at h
  · cases h
  rename_i h6
  split at h
  · cases h
  rename_i h7
  split at h
  · cases h
  rename_i h8
  simp only [not_or, Bool.not_eq_false, Bool.not_eq_true, ne_eq, Decidable.not_not] at h1 h2 h4 h5 h6 h7 h8
  exact ⟨may_iff.1 h1, Option.ne_none_iff_exists'.1 h2, h3, h4, h5, h6.1, any_false.1 h7, h8⟩
theorem moveF_map {l : List Fo} (hr : Rise l) {f was : Fo} (hl : look l f.id = some was) : moveF l f = l.map fun x => if x.id = f.id then f else x := by
  rcases find_cases l f.id with ⟨_, d2⟩ | ⟨i, hi, d1, d2, d3⟩
  · rw [hl] at d2; cases d2
  · rw [moveF, d1]
    refine List.ext_getElem (by simp) fun k h1 h2 => ?_
    simp only [List.length_set, List.length_map] at h1 h2
    simp only [List.getElem_map, Int.toNat_natCast, List.getElem_set]
    by_cases e : i = k
    · subst e; rw [if_pos rfl, if_pos d3]
    · rw [if_neg e, if_neg]
      intro e2
      have := hr.one l[k] (List.getElem_mem _) l[i] (List.getElem_mem _) (by rw [e2, d3])
      have hlt : l[i].id = l[k].id := by rw [this]
      rcases Nat.lt_or_ge i k with h' | h'
      · have := List.pairwise_iff_getElem.1 hr i k hi h1 h'; omega
      · have := List.pairwise_iff_getElem.1 hr k i h1 hi (by omega); omega
theorem mapId {f : Fo} (x : Fo) : (if x.id = f.id then f else x).id = x.id := by
  by_cases h : x.id = f.id <;> simp [h]
theorem look_move {l : List Fo} (hr : Rise l) {f was : Fo} (hl : look l f.id = some was) (y : Int) : look (moveF l f) y = (look l y).map fun x => if x.id = f.id then f else x := by
  rw [moveF_map hr hl]
  unfold look
  rw [List.find?_map]
  congr 2
  funext x
  simp only [Function.comp, mapId]
theorem look_move_ne {l : List Fo} (hr : Rise l) {f was : Fo} (hl : look l f.id = some was) {y : Int} (hy : y ≠ f.id) : look (moveF l f) y = look l y := by
  rw [look_move hr hl]
  cases e : look l y with
  | none => rfl
  | some x =>
    have := (look_some e).2
    simp only [Option.map_some]
    rw [if_neg (by omega)]
theorem mem_move {l : List Fo} (hr : Rise l) {f was : Fo} (hl : look l f.id = some was) {x : Fo} (h : x ∈ moveF l f) : x = f ∨ (x ∈ l ∧ x.id ≠ f.id) := by
  rw [moveF_map hr hl] at h
  obtain ⟨z, hz, rfl⟩ := List.mem_map.1 h
  by_cases e : z.id = f.id
  · rw [if_pos e]; exact .inl rfl
  · rw [if_neg e]; exact .inr ⟨hz, e⟩
theorem move_rise {l : List Fo} (hr : Rise l) {f was : Fo} (hl : look l f.id = some was) : Rise (moveF l f) := by
  rw [moveF_map hr hl, Rise, List.pairwise_map]
  exact hr.imp fun {a b} h => by rw [mapId, mapId]; exact h
theorem move_may {l : List Fo} {f : Fo} (h : moveE l f = 0) : MayP (moveF l f) := by
  obtain ⟨hm, ⟨was, hl⟩, h1, hn, hh, hp, ht, hd⟩ := moveE_zero h
  refine ⟨?_, move_rise hm.rise hl, fun x hx => ?_, fun x hx y hy => ?_, deepF_iff.1 hd⟩
  · obtain ⟨f0, r, rfl, g1, g2, g3⟩ := head_cases hm.head
    rw [moveF_map hm.rise hl, List.map_cons, if_neg (by omega)]
    simp only [headF, Bool.and_eq_true, decide_eq_true_eq, beq_iff_eq]
    exact ⟨⟨by simpa using g1, g2⟩, g3⟩
  · rcases mem_move hm.rise hl hx with rfl | ⟨hx, _⟩
    · exact hn
    · exact hm.named x hx
  · rcases mem_move hm.rise hl hx with rfl | ⟨hx1, _⟩
    · rcases mem_move hm.rise hl hy with rfl | ⟨hy, _⟩
      · simp [same2]
      · exact ht y hy
    · rcases mem_move hm.rise hl hy with rfl | ⟨hy, _⟩
      · rw [same2_symm]; exact ht x hx1
      · exact hm.twins x hx1 y hy
/-- Move of a folder to where it was is as ahead of it. -/
theorem back_move {l : List Fo} {g : Fo} (h : moveE l g = 0) : ∃ was, look l g.id = some was ∧ moveE (moveF l g) was = 0 ∧ moveF (moveF l g) was = l := by
  obtain ⟨hm, ⟨was, hl⟩, h1, hn, hh, hp, ht, hd⟩ := moveE_zero h
  obtain ⟨w1, w2⟩ := look_some hl
  have hy := move_may h
  have hr := hm.rise
  have hlw : look (moveF l g) was.id = some g := by
    rw [w2, look_move hr hl, hl]; simp [w2]
  have hback : moveF (moveF l g) was = l := by
    rw [moveF_map hy.rise hlw, moveF_map hr hl, List.map_map]
    conv => rhs; rw [← List.map_id l]
    refine List.map_congr_left fun x hx => ?_
    simp only [Function.comp, mapId, w2]
    by_cases e : x.id = g.id
    · rw [if_pos e, hr.one x hx was w1 (by rw [e, w2])]; rfl
    · rw [if_neg e, if_neg e]; rfl
  refine ⟨was, hl, ?_, hback⟩
  have hym := may_iff.2 hy
  obtain ⟨wl, hwl⟩ := hm.deep was w1
  have honce := way_once hwl
  obtain ⟨f', hf', hcase⟩ := way_cases hwl
  have : f' = was := by rw [w2, hl] at hf'; exact (Option.some.inj hf').symm
  subst this
  have hpar : f'.par ≠ f'.id := by
    intro e
    rcases hcase with ⟨e0, _⟩ | ⟨e0, w', e1, rfl⟩
    · have := hm.ge f' w1; omega
    · rw [e] at e1
      exact honce (way_head e1).1
  have hpar2 : f'.par ≠ 0 → ∃ w', wayF l 3 f'.par [] = some w' ∧ f'.id ∉ w' := by
    intro e
    rcases hcase with ⟨e0, _⟩ | ⟨e0, w', e1, rfl⟩
    · exact absurd e0 e
    · exact ⟨w', e1, honce⟩
  rw [moveE, if_neg (by simp [hym]), if_neg (by simp [hlw]), if_neg (by omega), if_neg (by simp [hm.named f' w1]), if_neg, if_neg, if_neg, if_neg]
  · rw [hback]; simp [deepF_iff.2 hm.deep]
  · rw [Bool.not_eq_true, any_false]
    intro x hx
    rcases mem_move hr hl hx with rfl | ⟨hx, _⟩
    · simp [same2, w2]
    · exact hm.twins f' w1 x hx
  · rintro (e | e)
    · exact hpar e
    · rw [List.any_eq_true] at e
      obtain ⟨y, hy1, hy2⟩ := e
      rw [beneathF, if_pos hym, List.mem_map] at hy1
      obtain ⟨x, hx1, rfl⟩ := hy1
      rw [List.mem_filter] at hx1
      obtain ⟨hx1, hx2⟩ := hx1
      simp only [Bool.and_eq_true, bne_iff_ne] at hx2
      have hpx : f'.par = x.id := by simpa using hy2
      have hx0 := hy.ge x hx1
      obtain ⟨w', e1, e2⟩ := hpar2 (by omega)
      have e3 := way_mono e1
      have e4 : wayF (moveF l g) 4 f'.par [] = some w' := way_congr e3 fun y hy => look_move_ne hr hl fun e => e2 (by rw [w2, ← e]; exact hy)
      rw [hpx] at e4
      have hin := hx2.2
      rw [inWay, e4] at hin
      simp only [List.any_eq_true, beq_iff_eq] at hin
      obtain ⟨z, hz1, hz2⟩ := hin
      exact e2 (by rw [hz2]; exact hz1)
  · rw [homeF]
    rw [if_neg]
    · simp
    · rintro ⟨e1, e2⟩
      obtain ⟨w', g1, g2⟩ := hpar2 e1
      obtain ⟨z, hz⟩ := way_looks g1 _ (way_head g1).1
      have hne : f'.par ≠ g.id := by rw [← w2]; exact hpar
      rw [look_move_ne hr hl hne, hz] at e2
      cases e2
end Go.AM
