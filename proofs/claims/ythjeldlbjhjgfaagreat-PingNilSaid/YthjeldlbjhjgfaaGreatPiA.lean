/- Queues: the keys of a map, collected. -/
import Derived.Test.YthjeldlbjhjgfaaGreatFdE
import Derived.Test.YthjeldlbjhjgfaaGreatAmR
namespace Go.AM
open Go Go.Proofs
set_option linter.unusedSimpArgs false
set_option linter.unusedVariables false
set_option maxRecDepth 100000
set_option maxHeartbeats 4000000

def intsA (l : List Int) : List AV := l.map (.int .i64)
theorem okL_ints (n : Nat) (l : List Int) : AV.okL n (intsA l) := by
  rw [AV.okL_iff]; intro v hv
  obtain ⟨z, _, rfl⟩ := List.mem_map.1 hv
  trivial

/-- A slice of numbers in a block of one's own, from lo on. -/
def IntsO (H : AHeap) (lo : Nat) (v : AV) (l : List Int) : Prop :=
  (l = [] ∧ v = .slice none 0 (.inl 0)) ∨ ∃ a, v = .slice (some (a, 0)) l.length (.inr 0) ∧ lo ≤ a ∧ a < H.next ∧ H.base ≤ a ∧ H.get a = some (.cells (intsA l) (some 1)) ∧ 0 < l.length
theorem IntsO.trans {H H' : AHeap} {lo : Nat} {v : AV} {l : List Int} (h : IntsO H lo v l) (hle : H.Le H') : IntsO H' lo v l := by
  rcases h with h | ⟨a, h1, h2, h3, h4, h5, h6⟩
  · exact .inl h
  · exact .inr ⟨a, h1, h2, hle.lt h3, by rw [hle.base]; exact h4, by rw [hle.get a h3]; exact h5, h6⟩
theorem IntsO.ok {H : AHeap} {lo : Nat} {v : AV} {l : List Int} (h : IntsO H lo v l) : v.ok H.next := by
  rcases h with ⟨_, rfl⟩ | ⟨a, rfl, _, h3, _⟩
  · trivial
  · exact h3

/-- Ids from lo on may have turned. -/
structure Til (lo : Nat) (H H' : AHeap) : Prop where
  base : H'.base = H.base
  next : H.next ≤ H'.next
  get : ∀ i, i < lo → H'.get i = H.get i
theorem Til.refl (lo : Nat) (H : AHeap) : Til lo H H := ⟨rfl, Nat.le_refl _, fun _ _ => rfl⟩
theorem Til.trans {lo : Nat} {A B C : AHeap} (h : Til lo A B) (h' : Til lo B C) : Til lo A C := ⟨h'.base.trans h.base, Nat.le_trans h.next h'.next, fun i hi => (h'.get i hi).trans (h.get i hi)⟩
theorem AHeap.Le.til {H H' : AHeap} (h : H.Le H') {lo : Nat} (hlo : lo ≤ H.next) : Til lo H H' := ⟨h.base, h.next, fun i hi => h.get i (by omega)⟩
theorem Til.alloc {lo : Nat} {A H : AHeap} (h : Til lo A H) (hb : H.WF) (hlo : lo ≤ H.next) (b : Blk) : Til lo A (H.alloc b) := h.trans ((AHeap.Le.new hb).til hlo)
theorem Til.put {lo : Nat} {A H : AHeap} (h : Til lo A H) {i : Nat} (hi : lo ≤ i) (hb : H.base ≤ i) (hn : i < H.next) (b : Blk) : Til lo A (H.put i b) :=
  h.trans ⟨rfl, Nat.le_refl _, fun j hj => by rw [AHeap.get_put _ _ _ _ hb hn, if_neg (by omega)]⟩

/-- One number more. -/
theorem app_one {H : AHeap} (hb : H.WF) {lo bytes : Nat} {v x : AV} {ks : List Int} {k : Int} (hv : IntsO H lo v ks) (hx : srcOf H 1 x = some (1, [.int .i64 k])) (hs : (ks.length + 1) * bytes ≤ 140737488355328) (hlen : ks.length + 1 ≤ 9223372036854775807) :
    ∃ H' v', evApp H 1 bytes v x = some (v', H') ∧ H'.base = H.base ∧ H'.next = H.next + 1 ∧ H'.get H.next = some (.cells (intsA (ks ++ [k])) (some 1)) ∧ (∀ i, i < H.next → (∀ a, lo ≤ a → v = .slice (some (a, 0)) ks.length (.inr 0) → i ≠ a) → H'.get i = H.get i) ∧
      v' = .slice (some (H.next, 0)) (ks ++ [k]).length (.inr 0) := by
  have hone : ([.int .i64 k] : List AV).all (·.one) = true := rfl
  rcases hv with ⟨rfl, rfl⟩ | ⟨a, rfl, h2, h3, h4, h5, _⟩
  · refine ⟨H.alloc (.cells [.int .i64 k] (some 1)), .slice (some (H.next, 0)) 1 (.inr 0), ?_, rfl, by simp, by rw [AHeap.get_new hb]; rfl, fun i hi _ => AHeap.get_old hb hi, rfl⟩
    simp only [evApp, hx, hone, Bool.not_true, Bool.false_eq_true, if_false, if_neg (show ¬ (1 = 0) by omega), appMove, Nat.zero_add]
    rw [if_pos ⟨by simpa using hs, by omega⟩]
    rfl
  · have hput : ((H.put a .dead).alloc (.cells (intsA ks ++ [.int .i64 k]) (some 1))).WF := AHeap.wf_alloc (AHeap.wf_put hb)
    refine ⟨(H.put a .dead).alloc (.cells (intsA ks ++ [.int .i64 k]) (some 1)), .slice (some (H.next, 0)) (ks.length + 1) (.inr 0), ?_, rfl, by simp, ?_, fun i hi hne => ?_, by simp⟩
    · have hl : (intsA ks).length = ks.length := by simp [intsA]
      simp only [evApp, hx, hone, Bool.not_true, Bool.false_eq_true, if_false, h5, Nat.mul_one, Nat.zero_mul, Nat.zero_add, hl, Nat.le_refl, h4, and_self, if_true, if_neg (show ¬ (1 = 0) by omega), List.length_cons, List.length_nil, if_neg (show ¬ ks.length + 1 ≤ ks.length by omega), appMove, AHeap.next_put]
      rw [if_pos ⟨hs, hlen⟩, List.take_of_length_le (by omega)]
    · have : H.next = (H.put a .dead).next := rfl
      rw [this, AHeap.get_new (AHeap.wf_put hb)]; simp [intsA]
    · rw [AHeap.get_old (AHeap.wf_put hb) hi, AHeap.get_put _ _ _ _ h4 h3, if_neg (hne a h2 rfl)]

/-- The entries of a map of numbers. -/
structure En where
  key : Int
  val : AV
  born : Nat
def En.e (x : En) : AV × AV × Nat := (.int .i64 x.key, x.val, x.born)
structure Mp (H : AHeap) (m : Nat) (es : List En) (ck : Nat) : Prop where
  lt : m < H.next
  get : H.get m = some (.map (es.map En.e) ck)
  nd : (es.map En.born).Nodup
  old : ∀ x ∈ es, x.born < ck
  le : es.length ≤ 1000
theorem Mp.trans {H H' : AHeap} {m : Nat} {es : List En} {ck : Nat} (h : Mp H m es ck) (hle : H.Le H') : Mp H' m es ck := ⟨hle.lt h.lt, by rw [hle.get m h.lt]; exact h.get, h.nd, h.old, h.le⟩
theorem Mp.til {H H' : AHeap} {m lo : Nat} {es : List En} {ck : Nat} (h : Mp H m es ck) (hle : Til lo H H') (hlo : m < lo) : Mp H' m es ck := ⟨Nat.lt_of_lt_of_le h.lt hle.next, by rw [hle.get m hlo]; exact h.get, h.nd, h.old, h.le⟩

theorem find_born : ∀ {es : List En} {x : En}, (es.map En.born).Nodup → x ∈ es → (es.map En.e).find? (fun e => e.2.2 == x.born) = some x.e
  | y :: es, x, hn, hx => by
    simp only [List.map_cons, List.nodup_cons] at hn
    simp only [List.map_cons, List.find?_cons]
    rcases List.mem_cons.1 hx with rfl | hx
    · simp [En.e]
    · have hne : y.born ≠ x.born := fun e => hn.1 (e ▸ List.mem_map_of_mem hx)
      have : ((y.e).2.2 == x.born) = false := by simpa [En.e] using hne
      rw [this]
      exact find_born hn.2 hx

/-- What is left of a map: P was handed out. -/
structure Part (es P : List En) (rest : List En) : Prop where
  perm : (P ++ rest).Perm es
theorem Part.filter {es P rest : List En} (h : Part es P rest) (hn : (es.map En.born).Nodup) {x : AV × AV × Nat} (hx : x ∈ (es.map En.e).filter (fun e => !(P.map En.born).contains e.2.2)) : ∃ y ∈ rest, x = y.e := by
  obtain ⟨h1, h2⟩ := List.mem_filter.1 hx
  obtain ⟨y, hy, rfl⟩ := List.mem_map.1 h1
  have hy' := h.perm.mem_iff.2 hy
  rcases List.mem_append.1 hy' with hy' | hy'
  · exfalso
    have : (P.map En.born).contains y.e.2.2 = true := by
      rw [List.contains_iff_mem]; exact List.mem_map_of_mem (f := En.born) hy'
    rw [this] at h2; cases h2
  · exact ⟨y, hy', rfl⟩
theorem Part.empty {es P rest : List En} (h : Part es P rest) (hn : (es.map En.born).Nodup) (he : (es.map En.e).filter (fun e => !(P.map En.born).contains e.2.2) = []) : rest = [] := by
  cases rest with
  | nil => rfl
  | cons y r =>
    exfalso
    have hy : y ∈ es := h.perm.mem_iff.1 (by simp)
    have hnd : ((P ++ y :: r).map En.born).Nodup := (h.perm.map En.born).nodup_iff.2 hn
    have hny : y.born ∉ P.map En.born := by
      rw [List.map_append, List.map_cons, List.nodup_append] at hnd
      exact fun hh => (hnd.2.2 _ hh _ List.mem_cons_self) rfl
    have : y.e ∈ (es.map En.e).filter (fun e => !(P.map En.born).contains e.2.2) := by
      refine List.mem_filter.2 ⟨List.mem_map_of_mem hy, ?_⟩
      have : (P.map En.born).contains y.e.2.2 = false := by
        rw [← Bool.not_eq_true, List.contains_iff_mem]; exact hny
      rw [this]; rfl
    rw [he] at this
    cases this
theorem Part.step {es P rest : List En} (h : Part es P rest) {y : En} (hy : y ∈ rest) : ∃ rest', Part es (P ++ [y]) rest' := by
  obtain ⟨r1, r2, rfl⟩ := List.append_of_mem hy
  refine ⟨r1 ++ r2, ⟨List.Perm.trans ?_ h.perm⟩⟩
  simp only [List.append_assoc, List.singleton_append]
  exact List.Perm.append_left P List.perm_middle.symm

theorem f25 {H : AHeap} {Q : AE → AHeap → Prop} {v : AV} (h : ∀ H', H.Le H' → H.next < H'.next → H'.get H.next = some (.cells v.cells none) → Q (.ret (.func (.func 41) [] [.ptr (some (H.next, 0))])) H') : ACall Tryz.prog 25 [v] H Q := by
  refine ACall.comp [] mixed (by decide +kernel) fun F hF' => ?_
  cbv at hF'
  cases hF'
  refine ⟨by simp, fun hb ha => ?_⟩
  simp (decide := true) only [WP_skip, WP_ops, WP_seq, WP_block, WP_exit, WP_ret, WP_cond, CdC_true, CdC_false, seqQ_normal, seqQ_exit, seqQ_ret, seqQ_pan, blkQ_normal, blkQ_exit, blkQ_ret, blkQ_pan, bodyQ_ret, bodyQ_normal, bodyQ_pan, bodyK_some, WP_aops, WPa_nil, WPa_wr, WrA_new, CallA_new, WPa_rd, WPa_call, WPa_callv, WPa_gd, RdA_some, CallA_ret, WPs_nil, WPs_rd, WPs_wr, WPs_call, WPs_callv, WPs_gd, RdK_some, WrK_some, CallK_ret, CallV_func, GdS_tt, GdS_tf, GdS_ft, GdS_ff, GdA_tt, GdA_tf, GdA_ft, GdA_ff, evR, lenV_slc, lenV_tail, lenV_str, iaV_slc, evX, AO.ev, Fr.put_some, Fr.put_none, Fr.at_set, Fr.at_ofArgs, List.getD_cons_zero, List.getD_cons_succ, List.getD_nil, binV, intOp, strOp, AV.cells, AHeap.cell_new, AHeap.range_new, AHeap.cell_old, AHeap.range_old, AHeap.get_new, AHeap.get_old, AHeap.put_new, AHeap.lt_new, AHeap.lt_alloc, AHeap.wf_alloc, AHeap.base_new, AHeap.base_alloc, evRVs, evRV, tup, List.map_cons, List.map_nil, List.cons_append, List.nil_append, List.append_nil, List.getElem?_cons_zero, List.getElem?_cons_succ, Nat.zero_add, Option.map_some, Option.map_none, if_true, if_false, ↓reduceIte, Bool.false_eq_true, eq_self, Bool.not_false, Bool.not_true, decide_true, decide_false, Option.isNone_none, Option.isNone_some, WPs_nxt, CallV_yield, hb]
  exact .this (h _ (.new hb) (by simp) (AHeap.get_new hb))
end Go.AM
