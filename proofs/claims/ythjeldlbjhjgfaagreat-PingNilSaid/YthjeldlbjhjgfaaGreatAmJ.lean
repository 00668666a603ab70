/- The abstract machine, part J: append and copy. -/
import Derived.Test.YthjeldlbjhjgfaaGreatAmI
namespace Go.AM
set_option linter.unusedSimpArgs false
set_option linter.unusedVariables false
set_option linter.unusedSectionVars false
open Go.RowKit

/-- What is laid behind: how many elements, and their cells, in every world with this heap. -/
structure Src (P : Program) (sz : Nat) (xv : Value) (m : Nat) (news : List Value) (heap : Array Obj) : Prop where
  len : ∀ w, (Builtin.lenOf xv).run P w = .ok m w
  cells : ∀ w : World, w.heap = heap → (Builtin.firstCells sz m xv).run P w = .ok news.toArray w

theorem srcOf_sound {P : Program} {W0 : Giv} {θ : Th} {H : AHeap} {w : World} (ho : Own W0 θ H w) {sz m : Nat} {x : AV} {new : List AV} (h : srcOf H sz x = some (m, new)) (hx : x.ok H.next) :
    Src P sz (x.inst θ) m (AV.instL θ new) w.heap ∧ new.length = m * sz ∧ AV.okL H.next new := by
  unfold srcOf at h
  split at h
  · rename_i c
    cases h
    exact ⟨⟨fun w => by simp [AV.inst, Builtin.lenOf], fun w _ => by simp [AV.inst, Builtin.firstCells, AV.instL]⟩, by simp, trivial⟩
  · rename_i p m' c
    obtain ⟨l, hl, he⟩ := map_some' h
    cases he
    refine ⟨⟨fun w => by simp [AV.inst, Builtin.lenOf], fun w' hw' => ?_⟩, (range_sound (ho.reads p.1) hl).1, (range_sound (ho.reads p.1) hl).2.2⟩
    have hr := range_sound (ho.reads p.1) hl
    have := run_firstCells_some (P := P) w' sz m (θ.addr p) m (capOf θ (some p) c) (AV.instL θ new) (by rw [AV.instL_eq, List.length_map]; exact hr.1) (fun j v hj => by
      rw [AV.instL_eq, List.getElem?_map] at hj
      cases hq : new[j]? with
      | none => rw [hq] at hj; cases hj
      | some u =>
        rw [hq] at hj; cases hj
        have := hr.2.1 j u hq
        unfold World.cell? at this ⊢
        rw [hw']; exact this)
    simpa [AV.inst] using this
  · rename_i a b c d
    cases h
    refine ⟨⟨fun w => by simp [AV.inst, Builtin.lenOf], fun w _ => by simp [AV.inst, Builtin.firstCells, AV.instL, loadCells, loadCellsFrom]⟩, by simp, trivial⟩
  · rename_i s
    split at h
    · rename_i h1
      cases h
      subst h1
      refine ⟨⟨fun w => by simp [AV.inst, Builtin.lenOf], fun w _ => ?_⟩, ?_, okL_bytes _ _⟩
      · simp only [AV.inst, Builtin.firstCells, Sem.run_pure]
        congr 1
        rw [instL_bytes]
        apply Array.ext'
        have : s.extract 0 s.size = s := by
          have h2 : (s.extract 0 s.size).data = s.data := by simp
          cases s; simp at h2 ⊢
        rw [this]; simp
      · simp
    · cases h
  · cases h

section
variable {P : Program} (w : World) (t u ty e : TypeId) (i : TypeInfo) (z : Value) (d : TypeDesc) (ht : P.underlying t = some (.slice e)) (hu : P.underlying u = some d) (hd : isSrcD d = true)
  (hi : P.info? e = some i) (hz : i.zero = some z)
include ht hu hd hi hz

theorem append_room {xv : Value} {m : Nat} {news : List Value} (hs : Src P i.size xv m news w.heap) (base : Option Addr) (sLen sCap : Nat) (hroom : sLen + m ≤ sCap) (w' : World)
    (hst : (match base with | some a => (storeCells (a.add (sLen * i.size)) news).run P w = .ok () w' | none => w' = w)) :
    (Builtin.append_ #[t, u] ty #[.slice base sLen sCap, xv]).run P w = .ok (.slice base (sLen + m) sCap) w' := by
  have h1 := hs.len w
  have h2 := hs.cells w rfl
  have hsz : (sizeOf e).run P w = .ok i.size w := run_sizeOf (by simp [szOf, hi])
  cases base with
  | none =>
    simp only at hst; subst hst
    unfold Builtin.append_
    simp only [Sem.run_bind, run_underlying ht, Result.andThen, hsz, run_underlying hu, List.getElem?_toArray, List.getElem?_cons_zero, List.getElem?_cons_succ]
    cases d <;> simp [isSrcD] at hd <;> simp [h1, h2, hroom, Result.andThen]
  | some a =>
    simp only at hst
    unfold Builtin.append_
    simp only [Sem.run_bind, run_underlying ht, Result.andThen, hsz, run_underlying hu, List.getElem?_toArray, List.getElem?_cons_zero, List.getElem?_cons_succ]
    cases d <;> simp [isSrcD] at hd <;> simp [h1, h2, hroom, Result.andThen, hst]

theorem append_grow {xv : Value} {m : Nat} {news : List Value} (hs : Src P i.size xv m news w.heap) (base : Option Addr) (sLen sCap : Nat) (olds : List Value)
    (hold : ∀ w' : World, w'.heap = w.heap → (Builtin.firstCells i.size sLen (.slice base sLen sCap)).run P w' = .ok olds.toArray w')
    (hg : sCap < sLen + m) (h63 : sLen + m ≤ 9223372036854775807) (hfit : (sLen + m) * i.bytes ≤ 140737488355328) :
    (Builtin.append_ #[t, u] ty #[.slice base sLen sCap, xv]).run P w =
      .ok (.slice (some ⟨w.heap.size, 0, none⟩) (sLen + m) (grownCap w (sLen + m) sCap e))
        (w.drew.alloc (.cells (olds.toArray ++ news.toArray ++ Builtin.zeroCells z.cells (grownCap w (sLen + m) sCap e - (sLen + m))) e)) := by
  have hn : ¬ (sLen + m ≤ sCap) := by omega
  have h63' : ¬ (9223372036854775807 < ((sLen : Int) + (m : Int))) := by omega
  have h48' : ¬ (281474976710656 < Builtin.nextslicecap (sLen + m) sCap * i.bytes) := by have := growslice_fits (old := sCap) (need := sLen + m) (bytes := i.bytes) hg hfit; omega
  have h1 := hs.len w
  have h2 := hs.cells w.drew rfl
  have h3 := hold w.drew rfl
  cases d <;> simp [isSrcD] at hd
  all_goals
    simp [Builtin.append_, run_underlying ht, run_underlying hu, sizeOf, typeInfo, zeroValue, hi, hz, h1, hn, h63', h48', Question.forced, h2, h3, newRow, grownCap]
    try (congr 2; apply Array.ext'; simp [List.append_assoc])
end

theorem own_move {P : Program} {W0 : Giv} {θ : Th} {H : AHeap} {w : World} (ho : Own W0 θ H w) {sz bytes n m : Nat} {old new : List AV} {v : AV} {H' : AHeap} (h : appMove H sz bytes old n m new = some (v, H'))
    (hlo : old.length = n * sz) (hln : new.length = m * sz) (hok : AV.okL H.next old) (hnk : AV.okL H.next new) (z : Array Value) (hzs : z.size = sz) (e : TypeId) (old' : Nat) :
    ∃ θ', v.inst θ' = .slice (some ⟨w.heap.size, 0, none⟩) (n + m) (grownCap w (n + m) old' e) ∧ Th.Ext H.next θ θ' ∧ v.ok H'.next ∧ H'.next = H.next + 1 ∧ H'.base = H.base ∧
      Own W0 θ' H' (w.drew.alloc (.cells ((AV.instL θ old).toArray ++ (AV.instL θ new).toArray ++ Builtin.zeroCells z (grownCap w (n + m) old' e - (n + m))) e)) ∧
      (n + m) * bytes ≤ 140737488355328 ∧ n + m ≤ 9223372036854775807 ∧ H' = H.alloc (.cells (old ++ new) (some sz)) ∧ v = .slice (some (H.next, 0)) (n + m) (.inr 0) ∧ θ'.blk H.next = w.heap.size := by
  unfold appMove at h
  split at h
  · rename_i hc
    cases h
    have hext := Th.set_ext θ H.next w.heap.size 0 (grownCap w (n + m) old' e)
    have hge := grownCap_ge w (n + m) old' e
    have hokk : AV.okL H.next (old ++ new) := by
      rw [AV.okL_iff] at hok hnk ⊢
      intro x hx
      rcases List.mem_append.1 hx with hx | hx
      · exact hok x hx
      · exact hnk x hx
    refine ⟨θ.set H.next w.heap.size 0 (grownCap w (n + m) old' e), ?_, hext, by simp [AV.ok], rfl, rfl, ?_, hc.1, hc.2, rfl, rfl, by simp⟩
    · simp [AV.inst, Th.addr, capOf]
    · refine ho.drew.alloc (.cells (old ++ new) (some sz)) _ (grownCap w (n + m) old' e) hokk ⟨_, _, _, rfl, fun j x hj => ?_, ⟨?_, ?_⟩, fun j _ => by simp⟩
      · have hx := (AV.okL_iff _ _).1 hokk x (List.mem_of_getElem? hj)
        simp only [World.size_drew]
        rw [AV.inst_ext hext x hx]
        have hlt : j < old.length + new.length := by
          have := (List.getElem?_eq_some_iff.1 hj).1; simpa using this
        have h1 : (AV.instL θ old).toArray ++ (AV.instL θ new).toArray = (AV.instL θ (old ++ new)).toArray := by simp [AV.instL_eq]
        rw [h1, Array.getElem?_append, if_pos (by simp [AV.instL_eq]; exact hlt)]
        rw [AV.instL_eq, List.getElem?_toArray, List.getElem?_map, hj]; rfl
      · simp only [Array.size_append, List.size_toArray, AV.instL_eq, List.length_map, hlo, hln, size_zeroCells, hzs, Th.set_cap]
        rw [← Nat.add_mul, ← Nat.add_mul]
        congr 1; omega
      · simp only [Array.size_append, List.size_toArray, AV.instL_eq, List.length_map, List.length_append]
        omega
  · cases h

/-- A new id for a block of one's own that no live id names. -/
theorem Own.adopt {W0 : Giv} {θ : Th} {H : AHeap} {w w' : World} (h : Own W0 θ H w) (b : Blk) (g cap : Nat) (hg : W0.W.heap.size ≤ g) (hgn : W0.G g = none) (hfree : ∀ i c, H.get i = some c → c.live = true → θ.blk i ≠ g) (hb : b.ok H.next)
    (hat : BlkAt (θ.set H.next g 0 cap) H.next b w'.heap[g]?) (hos : w'.os = w.os) (htape : w'.tape = w.tape) (hout : w'.output = w.output) (hsz : w'.heap.size = w.heap.size) (hother : ∀ k, k ≠ g → w'.heap[k]? = w.heap[k]?) :
    Own W0 (θ.set H.next g 0 cap) (H.alloc b) w' := by
  have hext := Th.set_ext θ H.next g 0 cap
  have hget := fun i => AHeap.get_alloc H b i h.next (by omega)
  refine ⟨?_, ?_, ?_, ?_, ?_, ?_, ?_⟩
  · refine h.below.trans ⟨hos, htape, hout, by omega, fun k hk => hother k ?_⟩
    have : k < W0.W.heap.size := hk
    omega
  · show W0.W.heap.size ≤ _; rw [hsz]; exact h.size
  · simp only [AHeap.base_alloc, AHeap.next_alloc]; have := h.next; omega
  · intro i c hc hl
    rw [hget] at hc
    by_cases e : i = H.next
    · subst e
      rw [if_pos rfl] at hc
      cases hc
      refine ⟨by simp, by simp, ?_, Blk.ok_mono (by simp) hb, fun _ => ⟨by simp only [Th.set_blk]; exact hg, by rw [Th.set_blk]; exact hat.free hl⟩⟩
      rw [Th.set_blk]; exact hat.rd
    · rw [if_neg e] at hc
      have ⟨h1, h2, h3, h4, h5⟩ := h.live i c hc hl
      have ⟨x, y, z⟩ := hext i h1
      refine ⟨by simp only [AHeap.next_alloc]; omega, y.trans h2, ?_, Blk.ok_mono (by simp) h4, fun hh => by rw [x, hother _ (hfree i c hc hl)]; exact h5 hh⟩
      rw [x, hother _ (hfree i c hc hl)]
      exact h3.ext hext h1 h4
  · intro i j c d hc hd hlc hld heq
    rw [hget] at hc hd
    by_cases ei : i = H.next
    · by_cases ej : j = H.next
      · omega
      · exfalso
        rw [if_neg ej] at hd
        have ⟨h1, _⟩ := h.live j d hd hld
        rw [ei, Th.set_blk, (hext j h1).1] at heq
        exact hfree j d hd hld heq.symm
    · by_cases ej : j = H.next
      · exfalso
        rw [if_neg ei] at hc
        have ⟨h1, _⟩ := h.live i c hc hlc
        rw [ej, Th.set_blk, (hext i h1).1] at heq
        exact hfree i c hc hlc heq
      · rw [if_neg ei] at hc
        rw [if_neg ej] at hd
        have ⟨h1, _⟩ := h.live i c hc hlc
        have ⟨h1', _⟩ := h.live j d hd hld
        rw [(hext i h1).1, (hext j h1').1] at heq
        exact h.inj i j c d hc hd hlc hld heq
  · intro k o hk
    rw [hother k (fun e => by rw [e, hgn] at hk; cases hk)]
    exact h.guard k o hk
  · intro i c hc hl
    rw [hget] at hc
    by_cases e : i = H.next
    · subst e; rw [Th.set_blk]; exact hgn
    · rw [if_neg e] at hc
      rw [(hext i (h.live i c hc hl).1).1]
      exact h.apart i c hc hl

theorem evApp_sound {P : Program} {t u ty e : TypeId} {i : TypeInfo} {z : Value} {d : TypeDesc} (ht : P.underlying t = some (.slice e)) (hu : P.underlying u = some d) (hd : isSrcD d = true)
    (hi : P.info? e = some i) (hz : i.zero = some z) (hzs : z.cells.size = i.size) (hpos : 0 < i.size) {W0 : Giv} {θ : Th} {H H' : AHeap} {w : World} (ho : Own W0 θ H w) {s x v : AV}
    (h : evApp H i.size i.bytes s x = some (v, H')) (hsk : s.ok H.next) (hxk : x.ok H.next) :
    ∃ θ' w', (Builtin.append_ #[t, u] ty #[s.inst θ, x.inst θ]).run P w = .ok (v.inst θ') w' ∧ Th.Ext H.next θ θ' ∧ v.ok H'.next ∧ H.next ≤ H'.next ∧ H'.base = H.base ∧ Own W0 θ' H' w' := by
  unfold evApp at h
  split at h
  · cases h
  rename_i m new hsrc
  obtain ⟨hS, hln, hnk⟩ := srcOf_sound (P := P) ho hsrc hxk
  split at h
  · cases h
  rename_i hall
  have h1 : new.all (·.one) = true := by simpa using hall
  have hrange : ∀ (p : Nat × Nat) (n : Nat) (l : List AV) (c : Nat), H.range p (n * i.size) = some l → ∀ w' : World, w'.heap = w.heap → (Builtin.firstCells i.size n (.slice (some (θ.addr p)) n c)).run P w' = .ok (AV.instL θ l).toArray w' := by
    intro p n l c hl w' hw'
    have hr := range_sound (ho.reads p.1) hl
    exact run_firstCells_some (P := P) w' i.size n (θ.addr p) n c (AV.instL θ l) (by rw [AV.instL_eq, List.length_map]; exact hr.1) (fun j v hj => by
      rw [AV.instL_eq, List.getElem?_map] at hj
      cases hq : l[j]? with
      | none => rw [hq] at hj; cases hj
      | some u =>
        rw [hq] at hj; cases hj
        have := hr.2.1 j u hq
        unfold World.cell? at this ⊢
        rw [hw']; exact this)
  split at h
  · -- nil
    split at h
    · rename_i hm
      subst hm
      cases h
      have hn : new = [] := List.eq_nil_of_length_eq_zero (by simpa using hln)
      refine ⟨θ, w, ?_, Th.Ext.refl _ _, trivial, Nat.le_refl _, rfl, ho⟩
      have := append_room (ty := ty) w t u e i z d ht hu hd hi hz hS none 0 0 (by omega) w rfl
      simpa [AV.inst, capOf] using this
    · rename_i hm
      obtain ⟨θ', hv, hext, hok, hnx, hb, hown, hc1, hc2, _, _, _⟩ := own_move (P := P) ho h (by simp) hln trivial hnk z.cells hzs e 0
      refine ⟨θ', _, ?_, hext, hok, by omega, hb, hown⟩
      have := append_grow (ty := ty) w t u e i z d ht hu hd hi hz hS none 0 0 [] (fun w' _ => by simp [Builtin.firstCells]) (by omega) (by omega) (by omega)
      rw [hv]
      simpa [AV.inst, capOf, AV.instL] using this
  · -- a room that is known
    rename_i p n c
    split at h
    · rename_i hc
      obtain ⟨rfl, hnc⟩ := hc
      cases h
      have hn : new = [] := List.eq_nil_of_length_eq_zero (by simpa using hln)
      refine ⟨θ, w, ?_, Th.Ext.refl _ _, hsk, Nat.le_refl _, rfl, ho⟩
      have := append_room (ty := ty) w t u e i z d ht hu hd hi hz hS (some (θ.addr p)) n c (by omega) w (by rw [hn]; simp [AV.instL, storeCells])
      simpa [AV.inst, capOf] using this
    · split at h
      · rename_i hroom
        split at h
        · rename_i cs room hg
          split at h
          · rename_i hc
            cases h
            obtain ⟨w', hw, hown⟩ := ho.splice P (p := (p.1, p.2 + n * i.size)) hg hc.1 (by simpa using hc.2) hnk h1
            refine ⟨θ, w', ?_, Th.Ext.refl _ _, hsk, Nat.le_refl _, rfl, hown⟩
            have := append_room (ty := ty) w t u e i z d ht hu hd hi hz hS (some (θ.addr p)) n c hroom w' (by show (storeCells ((θ.addr p).add (n * i.size)) _).run P w = _; rw [addr_add]; exact hw)
            simpa [AV.inst, capOf] using this
          · cases h
        · cases h
      · rename_i hroom
        split at h
        · rename_i old hold
          have hr := range_sound (ho.reads p.1) hold
          obtain ⟨θ', hv, hext, hok, hnx, hb, hown, hc1, hc2, _, _, _⟩ := own_move (P := P) ho h hr.1 hln hr.2.2 hnk z.cells hzs e c
          refine ⟨θ', _, ?_, hext, hok, by omega, hb, hown⟩
          have := append_grow (ty := ty) w t u e i z d ht hu hd hi hz hS (some (θ.addr p)) n c (AV.instL θ old) (fun w' hw' => hrange p n old c hold w' hw') (by omega) hc2 hc1
          rw [hv]
          simpa [AV.inst, capOf] using this
        · cases h
  · -- a room that is not known
    rename_i p n k
    split at h
    · rename_i cs sz' hg
      split at h
      · rename_i hc
        obtain ⟨rfl, hpk, hle, hbase⟩ := hc
        obtain ⟨hlt, h0, hrd, hbok, hbb⟩ := ho.live _ _ hg rfl
        obtain ⟨c, e', f, hoo, hcc, ⟨hcap, hlen⟩, hfz⟩ := hrd.cells_at (hbb hbase).2
        have hcapn : ∀ q, p.2 + q * i.size ≤ cs.length → q ≤ θ.cap p.1 - k := by
          intro q hq
          have : (k + q) * i.size ≤ θ.cap p.1 * i.size := by rw [Nat.add_mul]; omega
          have := Nat.le_of_mul_le_mul_right this hpos
          omega
        split at h
        · rename_i hm
          subst hm
          cases h
          have hn : new = [] := List.eq_nil_of_length_eq_zero (by simpa using hln)
          refine ⟨θ, w, ?_, Th.Ext.refl _ _, hsk, Nat.le_refl _, rfl, ho⟩
          have := append_room (ty := ty) w t u e i z d ht hu hd hi hz hS (some (θ.addr p)) n (θ.cap p.1 - k) (by have := hcapn n hle; omega) w (by rw [hn]; simp [AV.instL, storeCells])
          simpa [AV.inst, capOf] using this
        · rename_i hm
          split at h
          · rename_i hfit
            cases h
            obtain ⟨w', hw, hown⟩ := ho.splice P (p := (p.1, p.2 + n * i.size)) hg hbase (by simpa using hfit) hnk h1
            refine ⟨θ, w', ?_, Th.Ext.refl _ _, hsk, Nat.le_refl _, rfl, hown⟩
            have hroom : n + m ≤ θ.cap p.1 - k := hcapn (n + m) (by rw [Nat.add_mul]; omega)
            have := append_room (ty := ty) w t u e i z d ht hu hd hi hz hS (some (θ.addr p)) n (θ.cap p.1 - k) hroom w' (by show (storeCells ((θ.addr p).add (n * i.size)) _).run P w = _; rw [addr_add]; exact hw)
            simpa [AV.inst, capOf] using this
          · rename_i hfit
            split at h
            · rename_i hk
              subst hk
              have hp2 : p.2 = 0 := by omega
              have hkill := ho.kill hbase hlt
              have holdok : AV.okL H.next (cs.take (n * i.size)) := (AV.okL_iff _ _).2 fun v hv => (AV.okL_iff _ cs).1 hbok v (List.mem_of_mem_take hv)
              have hlo : (cs.take (n * i.size)).length = n * i.size := by simp; omega
              by_cases hroom : n + m ≤ θ.cap p.1
              · -- in place
                obtain ⟨hmv1, hmv2⟩ : v = .slice (some (H.next, 0)) (n + m) (.inr 0) ∧ H' = (H.put p.1 .dead).alloc (.cells (cs.take (n * i.size) ++ new) (some i.size)) := by
                  unfold appMove at h
                  split at h
                  · cases h; exact ⟨rfl, rfl⟩
                  · cases h
                subst hmv1 hmv2
                have hroomc : n * i.size + new.length ≤ c.size := by rw [hcap, hln, ← Nat.add_mul]; exact Nat.mul_le_mul_right _ hroom
                have hlenN : (AV.instL θ new).length = new.length := by rw [AV.instL_eq, List.length_map]
                have hrun := run_storeCells_any P (θ.blk p.1) (n * i.size) e' f (AV.instL θ new) 0 c w hoo (by rw [hlenN]; omega) hfz (fun v hv => by
                  rw [AV.instL_eq] at hv
                  obtain ⟨u, hu, rfl⟩ := List.mem_map.1 hv
                  exact AV.one_inst (List.all_eq_true.1 h1 u hu))
                have hheap := setRow_heap w (θ.blk p.1) c (c.toList.take (n * i.size + 0) ++ AV.instL θ new ++ c.toList.drop (n * i.size + 0 + (AV.instL θ new).length)).toArray e' f hoo
                have hext := Th.set_ext θ H.next (θ.blk p.1) 0 (θ.cap p.1)
                have hokk : AV.okL H.next (cs.take (n * i.size) ++ new) := by
                  rw [AV.okL_iff] at holdok hnk ⊢
                  intro x hx
                  rcases List.mem_append.1 hx with hx | hx
                  · exact holdok x hx
                  · exact hnk x hx
                refine ⟨θ.set H.next (θ.blk p.1) 0 (θ.cap p.1), w.setRow (θ.blk p.1) (c.toList.take (n * i.size + 0) ++ AV.instL θ new ++ c.toList.drop (n * i.size + 0 + (AV.instL θ new).length)).toArray, ?_, hext, by simp [AV.ok], by simp, rfl, ?_⟩
                · have := append_room (ty := ty) w t u e i z d ht hu hd hi hz hS (some (θ.addr p)) n (θ.cap p.1 - 0) (by omega) _ (by
                    show (storeCells ((θ.addr p).add (n * i.size)) _).run P w = _
                    have : (θ.addr p).add (n * i.size) = ⟨θ.blk p.1, n * i.size, none⟩ := by rw [addr_add]; simp [Th.addr, h0, hp2]
                    rw [this]; exact hrun)
                  have haddr : θ.addr p = ⟨θ.blk p.1, 0, none⟩ := by simp [Th.addr, h0, hp2]
                  have e1 : AV.inst (θ.set H.next (θ.blk p.1) 0 (θ.cap p.1)) (.slice (some (H.next, 0)) (n + m) (.inr 0)) = .slice (some (θ.addr p)) (n + m) (θ.cap p.1 - 0) := by
                    rw [haddr]; simp [AV.inst, Th.addr, capOf]
                  rw [e1]
                  exact this
                · refine hkill.adopt (.cells (cs.take (n * i.size) ++ new) (some i.size)) (θ.blk p.1) (θ.cap p.1) (hbb hbase).1 (ho.apart _ _ hg rfl) (fun j cc hj hlj => ?_) hokk ?_ rfl rfl rfl (by simp [World.setRow]) (fun k hk => setRow_other w (θ.blk p.1) k _ hk)
                  · rw [AHeap.get_put _ _ _ _ hbase hlt] at hj
                    by_cases ej : j = p.1
                    · rw [if_pos ej] at hj; cases hj; cases hlj
                    · rw [if_neg ej] at hj
                      exact fun hh => ej (ho.inj j p.1 cc _ hj hg hlj rfl hh)
                  · have hnx : (H.put p.1 .dead).next = H.next := rfl
                    rw [hnx]
                    refine ⟨_, e', f, hheap, fun j x hj => ?_, ⟨?_, ?_⟩, ?_⟩
                    · have hx := (AV.okL_iff _ _).1 hokk x (List.mem_of_getElem? hj)
                      rw [AV.inst_ext hext x hx]
                      simp only [List.getElem?_append, hlo] at hj
                      simp only [List.getElem?_toArray, Nat.add_zero, hlenN, List.getElem?_append, List.length_append, List.length_take, Array.length_toList]
                      have e2 : min (n * i.size) c.size = n * i.size := by omega
                      simp only [e2]
                      by_cases j2 : j < n * i.size
                      · rw [if_pos j2] at hj
                        rw [if_pos (by omega), if_pos j2]
                        rw [List.getElem?_take, if_pos j2] at hj ⊢
                        rw [Array.getElem?_toList]; exact hcc j x hj
                      · rw [if_neg j2] at hj
                        have hlt2 : j - n * i.size < new.length := (List.getElem?_eq_some_iff.1 hj).1
                        rw [if_pos (by omega), if_neg j2]
                        rw [AV.instL_eq, List.getElem?_map, hj]; rfl
                    · simp only [Th.set_cap, Nat.add_zero, hlenN, List.size_toArray, List.length_append, List.length_take, List.length_drop, Array.length_toList]
                      omega
                    · simp only [Nat.add_zero, hlenN, List.size_toArray, List.length_append, List.length_take, List.length_drop, Array.length_toList]
                      omega
                    · intro j hj
                      refine hfz j ?_
                      simp only [Nat.add_zero, hlenN, List.size_toArray, List.length_append, List.length_take, List.length_drop, Array.length_toList] at hj
                      omega
              · -- a new block
                obtain ⟨θ', hv, hext, hok, hnx, hb, hown, hc1, hc2, _, _, _⟩ := own_move (P := P) hkill h hlo hln holdok hnk z.cells hzs e (θ.cap p.1 - 0)
                refine ⟨θ', _, ?_, hext, hok, by rw [hnx]; exact Nat.le_succ _, hb, hown⟩
                have hold : H.range p (n * i.size) = some (cs.take (n * i.size)) := by
                  unfold AHeap.range; rw [hg]; simp only [hp2]; rw [if_pos (by omega)]; simp
                have := append_grow (ty := ty) w t u e i z d ht hu hd hi hz hS (some (θ.addr p)) n (θ.cap p.1 - 0) (AV.instL θ (cs.take (n * i.size))) (fun w' hw' => hrange p n _ _ hold w' hw') (by omega) hc2 hc1
                rw [hv]
                simpa [AV.inst, capOf] using this
            · cases h
      · cases h
    · cases h
  · cases h

theorem snd_app {P : Program} {o : Oper} {N : Nat} {t : Fr} {H H' : AHeap} {v : AV} {ty u e : TypeId} {s x : Operand} {args : Array Operand} {ts : Array TypeId} (hop : o.op = .call { callee := .builtin .append, args := args, argTypes := ts })
    (ha : args.toList = [s, x]) (hts : ts.toList = [ty, u]) {d : TypeDesc} {i : TypeInfo} {z : Value} {zs : List AV} {s' x' : AO} (ht : P.underlying ty = some (.slice e)) (hu : P.underlying u = some d) (hd : isSrcD d = true)
    (hi : P.info? e = some i) (hz : i.zero = some z) (hzs : z.cells.size = i.size) (hpos : 0 < i.size) (hs : compO s = some s') (hx : compO x = some x')
    (h : evX (.app i.size i.bytes zs s' x') (AO.ev t) H = some (v, H')) : XSnd P o N t H v H' := by
  refine XSnd.of_value fun W0 θ a w hr ho => ?_
  obtain ⟨e1, e2⟩ := compO_sound hs hr
  obtain ⟨f1, f2⟩ := compO_sound hx hr
  obtain rfl := args_two ha
  have hts' : ts = #[ty, u] := Array.ext' (by simpa using hts)
  subst hts'
  simp only [evX] at h
  obtain ⟨θ', w', h1, h2⟩ := evApp_sound (ty := o.type) ht hu hd hi hz hzs hpos ho h e2 f2
  obtain ⟨cs, he⟩ := exec_builtin (a := a) hop
  refine ⟨θ', w', Builtin.append_ #[ty, u] o.type #[(s'.ev t).inst θ, (x'.ev t).inst θ], ?_, h1, h2⟩
  rw [he]
  refine Eq.trans (show _ = invoke (.builtin .append #[ty, u] o.type cs) (Array.map a.eval #[s, x]) from rfl) ?_
  simp only [invoke, builtin, List.map_toArray, List.map_cons, List.map_nil, e1, f1]

theorem snd_copy {P : Program} {o : Oper} {N : Nat} {t : Fr} {H H' : AHeap} {v : AV} {e : TypeId} {d s : Operand} {args : Array Operand} {ts : Array TypeId} (hop : o.op = .call { callee := .builtin .copy, args := args, argTypes := ts })
    (ha : args.toList = [d, s]) {m : Nat} {d' s' : AO} (ht : ts[0]?.bind P.underlying = some (.slice e)) (hsz : szOf P e = some m) (hd : compO d = some d') (hs : compO s = some s')
    (h : evX (.copy m d' s') (AO.ev t) H = some (v, H')) : XSnd P o N t H v H' := by
  refine XSnd.of_value fun W0 θ a w hr ho => ?_
  obtain ⟨e1, e2⟩ := compO_sound hd hr
  obtain ⟨f1, f2⟩ := compO_sound hs hr
  obtain rfl := args_two ha
  obtain ⟨ty, hty, ht⟩ := tys_one ht
  obtain ⟨cs, he⟩ := exec_builtin (a := a) hop
  have hexec : execOp a.eval o = (do pure (Next.value (← Builtin.copy_ ts o.type #[(d'.ev t).inst θ, (s'.ev t).inst θ]))) := by
    rw [he]
    refine Eq.trans (show _ = invoke (.builtin .copy ts o.type cs) (Array.map a.eval #[d, s]) from rfl) ?_
    simp only [invoke, builtin, List.map_toArray, List.map_cons, List.map_nil, e1, f1]
  simp only [evX] at h
  split at h
  · rename_i p n c hp
    split at h
    · rename_i k nn hsrc
      obtain ⟨hS, hln, hnk⟩ := srcOf_sound (P := P) ho hsrc f2
      split at h
      · rename_i new cs' room hnew hg
        split at h
        · rename_i hc
          cases h
          obtain ⟨hb, hle, h1⟩ := hc
          have hcells : (Builtin.firstCells m (min k n) ((s'.ev t).inst θ)).run P w = .ok (AV.instL θ new).toArray w ∧ AV.okL H.next new := by
            split at hnew
            · rename_i q m' c' hq
              have hr' := range_sound (ho.reads q.1) hnew
              rw [hq]
              refine ⟨?_, hr'.2.2⟩
              exact run_firstCells_some (P := P) w m (min k n) (θ.addr q) m' _ (AV.instL θ new) (by rw [AV.instL_eq, List.length_map]; exact hr'.1) (fun j v hj => by
                rw [AV.instL_eq, List.getElem?_map] at hj
                cases hq : new[j]? with
                | none => rw [hq] at hj; cases hj
                | some u => rw [hq] at hj; cases hj; exact hr'.2.1 j u hq)
            · rename_i b hq
              cases hnew
              rw [hq]
              refine ⟨?_, okL_bytes _ _⟩
              simp only [AV.inst, Builtin.firstCells, Sem.run_pure]
              congr 1
              rw [instL_bytes]
              apply Array.ext'
              simp [ByteArray.data_extract]
            · cases hnew
              rename_i hno1 hno2
              refine ⟨?_, trivial⟩
              unfold srcOf at hsrc
              split at hsrc
              · rename_i c2 hq
                rw [hq]
                simp [AV.inst, Builtin.firstCells, AV.instL]
              · rename_i p2 m2 c2 hq; exact absurd hq (hno1 _ _ _)
              · rename_i a1 a2 a3 a4 hq
                cases hsrc
                rw [hq]
                simp [AV.inst, Builtin.firstCells, AV.instL, loadCells, loadCellsFrom]
              · rename_i s2 hq; exact absurd hq (hno2 _)
              · cases hsrc
          obtain ⟨w', hw, hown⟩ := ho.splice P hg hb hle hcells.2 h1
          refine ⟨θ, w', _, hexec, ?_, Th.Ext.refl _ _, trivial, Nat.le_refl _, rfl, hown⟩
          rw [hp]
          have hmin : k.min n = min k n := rfl
          simp [Builtin.copy_, hty, AV.inst, run_underlying ht, Result.andThen, hS.len, run_sizeOf hsz, hcells.1, hw, goInt, hmin]
          omega
        · cases h
      · cases h
    · cases h
  · rename_i c hp
    split at h
    · rename_i r hsrc
      obtain ⟨k, nn⟩ := r
      cases h
      obtain ⟨hS, hln, hnk⟩ := srcOf_sound (P := P) ho hsrc f2
      refine ⟨θ, w, _, hexec, ?_, Th.Ext.refl _ _, trivial, Nat.le_refl _, rfl, ho⟩
      rw [hp]
      have hmin : k.min 0 = 0 := Nat.min_zero k
      have h0 : (Builtin.firstCells m 0 ((s'.ev t).inst θ)).run P w = .ok #[] w := by
        unfold srcOf at hsrc
        split at hsrc
        · rename_i c2 hq; rw [hq]; simp [AV.inst, Builtin.firstCells]
        · rename_i p2 m2 c2 hq; rw [hq]; simp [AV.inst, Builtin.firstCells, loadCells, loadCellsFrom]
        · rename_i a1 a2 a3 a4 hq; rw [hq]; simp [AV.inst, Builtin.firstCells, loadCells, loadCellsFrom]
        · rename_i s2 hq; rw [hq]; simp [AV.inst, Builtin.firstCells]
        · cases hsrc
      simp [Builtin.copy_, hty, AV.inst, run_underlying ht, Result.andThen, hS.len, run_sizeOf hsz, hmin, h0, goInt]
    · cases h
  · cases h


theorem snd_clr {P : Program} {o : Oper} {N : Nat} {t : Fr} {H H' : AHeap} {v : AV} {e : TypeId} {x : Operand} {args : Array Operand} {ts : Array TypeId} (hop : o.op = .call { callee := .builtin .clear, args := args, argTypes := ts })
    (ha : args.toList = [x]) {x' : AO} (ht : ts[0]?.bind P.underlying = some (.slice e)) {z : Value} (hz : (P.info? e).bind (·.zero) = some z) (hx : compO x = some x') {zs : List AV} (hg0 : groundL z.cells.toList = some zs)
    (h : evX (.clr z.cells.size zs x') (AO.ev t) H = some (v, H')) : XSnd P o N t H v H' := by
  refine XSnd.of_value fun W0 θ a w hr ho => ?_
  obtain ⟨e1, e2⟩ := compO_sound hx hr
  obtain rfl := args_one ha
  obtain ⟨ty, hty, ht⟩ := tys_one ht
  obtain ⟨cs, he⟩ := exec_builtin (a := a) hop
  have hexec : execOp a.eval o = (do pure (Next.value (← Builtin.clear_ ts o.type #[(x'.ev t).inst θ]))) := by
    rw [he]
    refine Eq.trans (show _ = invoke (.builtin .clear ts o.type cs) (Array.map a.eval #[x]) from rfl) ?_
    simp only [invoke, builtin, List.map_toArray, List.map_cons, List.map_nil, e1]
  have hv : undefA.inst θ = .tuple #[] := rfl
  simp only [evX] at h
  split at h
  · rename_i n c hp
    cases h
    refine ⟨θ, w, _, hexec, ?_, Th.Ext.refl _ _, trivial, Nat.le_refl _, rfl, ho⟩
    rw [hp]
    simp [Builtin.clear_, hty, AV.inst, run_underlying ht, Result.andThen, hv]
  · rename_i a1 a2 a3 a4 hp
    cases h
    refine ⟨θ, w, _, hexec, ?_, Th.Ext.refl _ _, trivial, Nat.le_refl _, rfl, ho⟩
    rw [hp]
    simp [Builtin.clear_, hty, AV.inst, run_underlying ht, Result.andThen, hv]
  · rename_i p n c hp
    split at h
    · rename_i hn0
      cases h
      subst hn0
      refine ⟨θ, w, _, hexec, ?_, Th.Ext.refl _ _, trivial, Nat.le_refl _, rfl, ho⟩
      rw [hp]
      simp [Builtin.clear_, hty, AV.inst, run_underlying ht, Result.andThen, hv]
    · rename_i hn0
      split at h
      · rename_i cs' room hg
        split at h
        · rename_i hc
          cases h
          obtain ⟨hb, hle, h1⟩ := hc
          have hzz := groundL_sound hg0 θ H.next
          obtain ⟨w', hw, hown⟩ := ho.splice P hg hb hle (okL_repl hzz.2) h1
          refine ⟨θ, w', _, hexec, ?_, Th.Ext.refl _ _, trivial, Nat.le_refl _, rfl, hown⟩
          have hzc : (Builtin.zeroCells z.cells n).toList = AV.instL θ (List.replicate n zs).flatten := by
            unfold Builtin.zeroCells
            rw [zeros_eq z.cells n zs θ hzz.1]
          rw [hp]
          obtain ⟨n, rfl⟩ : ∃ m, n = m + 1 := ⟨n - 1, by omega⟩
          simp [Builtin.clear_, hty, AV.inst, run_underlying ht, Result.andThen, run_zeroValue hz, hzc, hw, hv]
        · cases h
      · cases h
  · cases h

theorem compX_sound {P : Program} {o : Oper} {r : RX} (hc : compX P o = some r) {N : Nat} {t : Fr} {H H' : AHeap} {v : AV} (h : evX r (AO.ev t) H = some (v, H')) : XSnd P o N t H v H' := by
  unfold compX at hc
  split at hc
  · rename_i ty hop
    split at hc
    · rename_i z hz
      obtain ⟨z', hg, rfl⟩ := map_some' hc
      refine snd_box (x := .cst z') (fun W0 θ a w hr => ⟨ty, Instr.alloc ty true (.tuple #[]), by simp only [execOp, hop], ?_, (ground_sound hg θ H.next).2⟩) h
      simp only [Instr.alloc, Sem.run_bind, run_zeroValue hz, Result.andThen, run_newVar, Sem.run_pure, AO.ev, (ground_sound hg θ H.next).1]
    · cases hc
  · rename_i ty x hop
    obtain ⟨y, hx, rfl⟩ := map_some' hc
    refine snd_box (x := y) (fun W0 θ a w hr => ⟨ty, Instr.box ty (a.eval x), by simp only [execOp, hop], ?_, (compO_sound hx hr).2⟩) h
    simp only [Instr.box, Sem.run_bind, Result.andThen, run_newVar, Sem.run_pure, (compO_sound hx hr).1]
  · rename_i ty x y hop
    split at hc
    · rename_i m x' y' hs hx hy; cases hc; exact snd_store hop hs hx hy h
    · cases hc
  · rename_i ty len parts hop
    split at hc
    · rename_i e hd
      split at hc
      · rename_i s z hs hz
        split at hc
        · rename_i hcond
          split at hc
          · rename_i zs ps hg hps; cases hc; exact snd_bslc hop hd hs hz hcond.1 hcond.2 hg hps h
          · cases hc
        · cases hc
      · cases hc
    · cases hc
  · rename_i ty x y hop
    split at hc
    · rename_i e x' y' hd hx hy
      split at hc
      · rename_i i hi
        split at hc
        · rename_i z hz
          split at hc
          · rename_i hzs
            obtain ⟨zs, hg, rfl⟩ := map_some' hc
            exact snd_mks hop hd hx hy hi hz hzs hg h
          · cases hc
        · cases hc
      · cases hc
    · cases hc
  · rename_i ty hop; cases hc; exact snd_mkm hop h
  · rename_i ty x hop
    split at hc
    · rename_i y hd hx; cases hc; exact snd_rng hop (.inl ⟨rfl, hd⟩) hx h
    · rename_i kt et y hd hx; cases hc; exact snd_rng hop (.inr ⟨rfl, kt, et, hd⟩) hx h
    · cases hc
  · rename_i x hop
    obtain ⟨y, hx, rfl⟩ := map_some' hc
    exact snd_ent hop hx h
  · rename_i x hop
    obtain ⟨y, hx, rfl⟩ := map_some' hc
    exact snd_nxs hop hx h
  · rename_i mt m k x hop
    split at hc
    · rename_i kt et ym yk yx hd hm hk hx
      obtain ⟨kk, hkk, rfl⟩ := map_some' hc
      cases hdk : P.underlying kt with
      | none => rw [hdk] at hkk; cases hkk
      | some d => rw [hdk] at hkk; exact snd_mupd (.inl hop) hd hdk hkk hm hk hx h
    · cases hc
  · rename_i mt m k x hop
    split at hc
    · rename_i kt et ym yk yx hd hm hk hx
      obtain ⟨kk, hkk, rfl⟩ := map_some' hc
      cases hdk : P.underlying kt with
      | none => rw [hdk] at hkk; cases hkk
      | some d => rw [hdk] at hkk; exact snd_mupd (.inr hop) hd hdk hkk hm hk hx h
    · cases hc
  · rename_i args ts hop
    split at hc
    · rename_i m k kt et ha ht
      split at hc
      · rename_i kk ym yk hkk hm hk
        cases hc
        cases hdk : P.underlying kt with
        | none => rw [hdk] at hkk; cases hkk
        | some d => rw [hdk] at hkk; exact snd_mdel hop ha ht hdk hkk hm hk h
      · cases hc
    · cases hc
  · rename_i s d x hop
    split at hc
    · rename_i e y hs hd hx
      split at hc
      · rename_i he; cases hc; exact snd_strB hop hs hd he hx h
      · cases hc
    · cases hc
  · rename_i args ts hop
    split at hc
    · rename_i d s e ha ht
      split at hc
      · rename_i m d' s' hsz hd hs; cases hc; exact snd_copy hop ha ht hsz hd hs h
      · cases hc
    · cases hc
  · rename_i args ts hop
    split at hc
    · rename_i x e ha ht
      split at hc
      · rename_i z x' hz hx
        obtain ⟨zs, hg, rfl⟩ := map_some' hc
        exact snd_clr hop ha ht hz hx hg h
      · cases hc
    · cases hc
  · rename_i args ts hop
    split at hc
    · rename_i s x ty u ha hts
      split at hc
      · rename_i e d s' x' ht hu hs hx
        split at hc
        · rename_i i hi
          split at hc
          · rename_i z hz
            split at hc
            · rename_i hcond
              obtain ⟨zs, hg, rfl⟩ := map_some' hc
              exact snd_app hop ha hts ht hu hcond.2.2 hi hz hcond.1 hcond.2.1 hs hx h
            · cases hc
          · cases hc
        · cases hc
      · cases hc
    · cases hc
  · cases hc
end Go.AM
