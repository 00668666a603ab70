/- Folders: a list with one more. -/
import Derived.Test.YtjfjmlglgdhkoaaFdD
namespace Go.AM
open Go Go.Proofs
set_option linter.unusedSimpArgs false
set_option linter.unusedVariables false
set_option maxRecDepth 100000

theorem cs0 (f : Fo) : f.cs[0]? = some (.int .u32 f.id) := Eq.trans rfl rfl
theorem cs1 (f : Fo) : f.cs[1]? = some (.int .u32 f.par) := Eq.trans rfl rfl
theorem cs2 (f : Fo) : f.cs[2]? = some (.str f.name) := Eq.trans rfl rfl
theorem cs3 (f : Fo) : f.cs[3]? = some (.int .u64 f.rev) := Eq.trans rfl rfl
theorem cs_len (f : Fo) : f.cs.length = 4 := Eq.trans rfl rfl
theorem cs_take (f : Fo) : f.cs.take 4 = f.cs := Eq.trans rfl rfl
theorem one_f (f : Fo) : f.cs.all (·.one) = true := Eq.trans rfl rfl
theorem splice_f (f : Fo) (a b c d : AV) : splice [a, b, c, d] 0 f.cs = f.cs := Eq.trans rfl rfl
theorem fillA_f (f : Fo) (a b c d : AV) : fillA [a, b, c, d] [(0, 4, .agg f.cs)] = some f.cs := Eq.trans rfl rfl

theorem app_known {H : AHeap} {sz bytes i m : Nat} {p : Nat × Nat} {x : AV} {old new : List AV} (hx : srcOf H sz x = some (m, new)) (hone : new.all (·.one) = true) (hm : 0 < m) (hr : H.range p (i * sz) = some old)
    (hs : (i + m) * bytes ≤ 140737488355328) (hs2 : i + m ≤ 9223372036854775807) :
    evApp H sz bytes (.slice (some p) i (.inl i)) x = some (.slice (some (H.next, 0)) (i + m) (.inr 0), H.alloc (.cells (old ++ new) (some sz))) := by
  simp only [evApp, hx, hone, Bool.not_true, Bool.false_eq_true, if_false, if_neg (show ¬ (m = 0 ∧ i ≤ i) by omega), if_neg (show ¬ i + m ≤ i by omega), hr, appMove, hs, hs2, and_self, if_true]
theorem app_none {H : AHeap} {sz bytes n i : Nat} {x : AV} {cs : List AV} (hx : srcOf H sz x = some (0, [])) (hg : H.get i = some (.cells cs (some sz))) (hl : cs.length = n * sz) (hb : H.base ≤ i) :
    evApp H sz bytes (.slice (some (i, 0)) n (.inr 0)) x = some (.slice (some (i, 0)) n (.inr 0), H) := by
  simp only [evApp, hx, List.all_nil, Bool.not_true, Bool.false_eq_true, if_false, hg, Nat.zero_mul, Nat.zero_add, hl, Nat.le_refl, hb, and_self, if_true]
theorem okL_cs (n : Nat) (l : List Fo) : AV.okL n (l.flatMap Fo.cs) := by
  rw [AV.okL_iff]; intro v hv
  obtain ⟨f, _, hv⟩ := List.mem_flatMap.1 hv
  simp only [Fo.cs, List.mem_cons, List.not_mem_nil, or_false] at hv
  rcases hv with rfl | rfl | rfl | rfl <;> trivial
theorem one_cs (l : List Fo) : (l.flatMap Fo.cs).all (·.one) = true := by
  rw [List.all_eq_true]; intro v hv
  obtain ⟨f, _, hv⟩ := List.mem_flatMap.1 hv
  simp only [Fo.cs, List.mem_cons, List.not_mem_nil, or_false] at hv
  rcases hv with rfl | rfl | rfl | rfl <;> rfl
theorem take_cs (l : List Fo) (i : Nat) : (l.flatMap Fo.cs).take (i * 4) = (l.take i).flatMap Fo.cs := by
  induction l generalizing i with
  | nil => simp
  | cons f l ih =>
    cases i with
    | zero => simp
    | succ i =>
      have h4 : (i + 1) * 4 = f.cs.length + i * 4 := by simp [Fo.cs]; omega
      rw [List.flatMap_cons, h4, List.take_length_add_append, ih]
      simp
theorem dropAll_cs (l : List Fo) (i : Nat) : (l.flatMap Fo.cs).drop (i * 4) = (l.drop i).flatMap Fo.cs := by
  induction l generalizing i with
  | nil => simp
  | cons f l ih =>
    cases i with
    | zero => simp
    | succ i =>
      have h4 : (i + 1) * 4 = f.cs.length + i * 4 := by simp [Fo.cs]; omega
      rw [List.flatMap_cons, h4, List.drop_length_add_append, ih]
      simp

/-- A list with a folder more, by its number. -/
def withF (l : List Fo) (f : Fo) : List Fo := l.takeWhile (fun x => decide (x.id < f.id)) ++ f :: l.dropWhile (fun x => decide (x.id < f.id))
theorem withF_at {l : List Fo} {f : Fo} {i : Nat} (hi : i ≤ l.length) (hlo : ∀ k (hk : k < l.length), k < i → l[k].id < f.id) (hhi : ∀ k (hk : k < l.length), i ≤ k → f.id ≤ l[k].id) : withF l f = l.take i ++ f :: l.drop i := by
  have key : ∀ (l : List Fo) (i : Nat), i ≤ l.length → (∀ k (hk : k < l.length), k < i → l[k].id < f.id) → (∀ k (hk : k < l.length), i ≤ k → f.id ≤ l[k].id) →
      l.takeWhile (fun x => decide (x.id < f.id)) = l.take i ∧ l.dropWhile (fun x => decide (x.id < f.id)) = l.drop i := by
    intro l
    induction l with
    | nil => intro i hi _ _; simp at hi; subst hi; simp
    | cons g l ih =>
      intro i hi hlo hhi
      cases i with
      | zero =>
        have := hhi 0 (by simp) (by omega)
        simp only [List.getElem_cons_zero] at this
        have hd : decide (g.id < f.id) = false := by simp; omega
        simp [List.takeWhile_cons, List.dropWhile_cons, hd]
      | succ i =>
        have := hlo 0 (by simp) (by omega)
        simp only [List.getElem_cons_zero] at this
        have hd : decide (g.id < f.id) = true := by simpa using this
        obtain ⟨h1, h2⟩ := ih i (by simpa using hi) (fun k hk hki => by have := hlo (k + 1) (by simpa using hk) (by omega); simpa using this) (fun k hk hki => by have := hhi (k + 1) (by simpa using hk) (by omega); simpa using this)
        simp [List.takeWhile_cons, List.dropWhile_cons, hd, h1, h2]
  obtain ⟨h1, h2⟩ := key l i hi hlo hhi
  rw [withF, h1, h2]

theorem f25 {H : AHeap} {Q : AE → AHeap → Prop} {p : Nat × Nat} {l : List Fo} {n : Nat} (hn : n = l.length) {c : Nat ⊕ Nat} (hF : FS H p l) (hC : SC H 4 p n c) (hok : ∀ f ∈ l, f.ok) {f : Fo} (hf : f.ok)
    (hsort : ∀ j k (hj : j < l.length) (hk : k < l.length), j < k → l[j].id < l[k].id)
    (h : Q (.ret (.slice (some (H.next, 0)) (l.length + 1) (.inr 0))) (H.alloc (.cells ((withF l f).flatMap Fo.cs) (some 4)))) :
    ACall Try.prog 25 [.slice (some p) n c, f.av] H Q := by
  subst hn
  refine ACall.comp [] mixed (by decide +kernel) fun F hF' => ?_
  cbv at hF'
  cases hF'
  refine ⟨by simp, fun hb ha => ?_⟩
  simp (decide := true) only [WP_skip, WP_ops, WP_seq, WP_block, WP_exit, WP_ret, WP_cond, CdC_true, CdC_false, seqQ_normal, seqQ_exit, seqQ_ret, seqQ_pan, blkQ_normal, blkQ_exit, blkQ_ret, blkQ_pan, bodyQ_ret, bodyQ_normal, bodyQ_pan, bodyK_some, WP_aops, WPa_nil, WPa_wr, WrA_new, CallA_new, WPa_rd, WPa_call, WPa_callv, WPa_gd, RdA_some, CallA_ret, WPs_nil, WPs_rd, WPs_wr, WPs_call, WPs_callv, WPs_gd, RdK_some, WrK_some, CallK_ret, CallV_func, GdS_tt, GdS_tf, GdS_ft, GdS_ff, GdA_tt, GdA_tf, GdA_ft, GdA_ff, evR, lenV_slc, lenV_tail, lenV_str, iaV_slc, evX, AO.ev, Fr.put_some, Fr.put_none, Fr.at_set, Fr.at_ofArgs, List.getD_cons_zero, List.getD_cons_succ, List.getD_nil, binV, intOp, strOp, AV.cells, AHeap.cell_new, AHeap.range_new, AHeap.cell_old, AHeap.range_old, AHeap.get_new, AHeap.get_old, AHeap.put_new, AHeap.lt_new, AHeap.lt_alloc, AHeap.wf_alloc, AHeap.base_new, AHeap.base_alloc, evRVs, evRV, tup, List.map_cons, List.map_nil, List.cons_append, List.nil_append, List.append_nil, List.getElem?_cons_zero, List.getElem?_cons_succ, Nat.zero_add, Option.map_some, Option.map_none, if_true, if_false, ↓reduceIte, Bool.false_eq_true, eq_self, Bool.not_false, Bool.not_true, decide_true, decide_false, hb, Fo.av, cs0, cs1, cs2, cs3, cs_len, cs_take, List.drop_zero, one_f, splice_f, fillA_f, Nat.le_refl, and_self, Nat.add_zero]
  have hle := hF.le
  refine f45 rfl (hF.alloc hb) hok hf.1 hsort fun i b hi hlo hhi => ?_
  have hw1 : (H.alloc (.cells f.cs none)).WF := AHeap.wf_alloc hb
  have hw2 : ((H.alloc (.cells f.cs none)).alloc (.cells f.cs none)).WF := AHeap.wf_alloc hw1
  have hC1 : SC (H.alloc (.cells f.cs none)) 4 p l.length c := hC.trans hF.lt (.new hb)
  have hF2 := (hF.alloc hb (b := .cells f.cs none)).alloc hw1 (b := .cells f.cs none)
  have hr2 := AHeap.range_part (off := 0) (m := i * 4) hF2.rg (by omega)
  rw [List.drop_zero, take_cs] at hr2
  have happ := app_known (H := (H.alloc (.cells f.cs none)).alloc (.cells f.cs none)) (sz := 4) (bytes := 32) (i := i) (m := 1) (p := p) (x := .slice (some ((H.alloc (.cells f.cs none)).next, 0)) 1 (.inl 1)) (new := f.cs)
    (by simp only [srcOf, AHeap.range_new hw1, cs_len, Nat.zero_add, Nat.one_mul, Nat.le_refl, if_true, List.drop_zero, cs_take, Option.map_some]) rfl (by omega) hr2 (by omega) (by omega)
  have hhead := fun k => sl_head (k1 := k) (k2 := k) hC1 (by omega) hi
  obtain ⟨H3, hH3⟩ : ∃ H3, H3 = ((H.alloc (.cells f.cs none)).alloc (.cells f.cs none)).alloc (.cells ((l.take i).flatMap Fo.cs ++ f.cs) (some 4)) := ⟨_, rfl⟩
  have hw3 : H3.WF := by rw [hH3]; exact AHeap.wf_alloc hw2
  have hF3 : FS H3 p l := by rw [hH3]; exact hF2.alloc hw2
  have hC3 : SC H3 4 p l.length c := by rw [hH3]; exact (hC1.trans (AHeap.lt_alloc hF.lt) (.new hw1)).trans (AHeap.lt_alloc (AHeap.lt_alloc hF.lt)) (.new hw2)
  obtain ⟨v, hv1, hv2⟩ := sl_tail (k1 := .i64) hC3 (by omega) hF3.rg hi
  have hlt3 : ((H.alloc (.cells f.cs none)).alloc (.cells f.cs none)).Le H3 := by rw [hH3]; exact .new hw2
  have hg3 : H3.get ((H.alloc (.cells f.cs none)).alloc (.cells f.cs none)).next = some (.cells ((l.take i).flatMap Fo.cs ++ f.cs) (some 4)) := by rw [hH3]; exact AHeap.get_new hw2
  have hle03 : H.Le H3 := ((AHeap.Le.new hb).alloc' hb).trans hlt3
  have hnx : H.next ≤ ((H.alloc (.cells f.cs none)).alloc (.cells f.cs none)).next := by simp; omega
  have hlen3 : ((l.take i).flatMap Fo.cs ++ f.cs).length = (i + 1) * 4 := by rw [List.length_append, length_cs, cs_len, List.length_take, Nat.min_eq_left hi]; omega
  have hrow : RowV 4 H H3 (.slice (some (((H.alloc (.cells f.cs none)).alloc (.cells f.cs none)).next, 0)) (i + 1) (.inr 0)) (i + 1) ((l.take i).flatMap Fo.cs ++ f.cs) :=
    .inr ⟨by omega, _, hnx, by rw [hH3]; exact AHeap.lt_new, rfl, hg3, hlen3⟩
  have hdrop : ((l.flatMap Fo.cs).drop (i * 4)).take ((l.length - i) * 4) = (l.drop i).flatMap Fo.cs := by
    rw [dropAll_cs, List.take_of_length_le (by rw [length_cs, List.length_drop]; omega)]
  rw [hdrop] at hv2
  have hwith := withF_at hi hlo hhi
  have hall : (l.take i).flatMap Fo.cs ++ f.cs ++ (l.drop i).flatMap Fo.cs = (withF l f).flatMap Fo.cs := by rw [hwith]; simp
  by_cases hin : i < l.length
  · obtain ⟨v', H4, happ2, hrow2, hle4⟩ := hrow.app (x := v) (bytes := 32) hb hle03 hv2 (one_cs _) (by omega) (by rw [length_cs, List.length_drop]) (by omega) (by omega) (by omega)
    simp (decide := true) only [WP_skip, WP_ops, WP_seq, WP_block, WP_exit, WP_ret, WP_cond, CdC_true, CdC_false, seqQ_normal, seqQ_exit, seqQ_ret, seqQ_pan, blkQ_normal, blkQ_exit, blkQ_ret, blkQ_pan, bodyQ_ret, bodyQ_normal, bodyQ_pan, bodyK_some, WP_aops, WPa_nil, WPa_wr, WrA_new, CallA_new, WPa_rd, WPa_call, WPa_callv, WPa_gd, RdA_some, CallA_ret, WPs_nil, WPs_rd, WPs_wr, WPs_call, WPs_callv, WPs_gd, RdK_some, WrK_some, CallK_ret, CallV_func, GdS_tt, GdS_tf, GdS_ft, GdS_ff, GdA_tt, GdA_tf, GdA_ft, GdA_ff, evR, lenV_slc, lenV_tail, lenV_str, iaV_slc, evX, AO.ev, Fr.put_some, Fr.put_none, Fr.at_set, Fr.at_ofArgs, List.getD_cons_zero, List.getD_cons_succ, List.getD_nil, binV, intOp, strOp, AV.cells, AHeap.cell_new, AHeap.range_new, AHeap.cell_old, AHeap.range_old, AHeap.get_new, AHeap.get_old, AHeap.put_new, AHeap.lt_new, AHeap.lt_alloc, AHeap.wf_alloc, AHeap.base_new, AHeap.base_alloc, evRVs, evRV, tup, List.map_cons, List.map_nil, List.cons_append, List.nil_append, List.append_nil, List.getElem?_cons_zero, List.getElem?_cons_succ, Nat.zero_add, Option.map_some, Option.map_none, if_true, if_false, ↓reduceIte, Bool.false_eq_true, eq_self, Bool.not_false, Bool.not_true, decide_true, decide_false, hb, Fo.av, cs0, cs1, cs2, cs3, cs_len, cs_take, List.drop_zero, one_f, splice_f, fillA_f, Nat.le_refl, and_self, Nat.add_zero, hhead, List.replicate, List.flatten, happ, ← hH3, hv1, WrA_le hlt3 hw2, happ2]
    rw [hall] at hrow2
    rcases hrow2 with ⟨r0, _⟩ | ⟨r0, i2, r1, r2, rfl, r4, r5⟩
    · omega
    · refine .row hle4 r1 r4 (okL_cs _ _) ?_
      rw [show i + 1 + (l.length - i) = l.length + 1 by omega]; exact h
  · have hil : i = l.length := by omega
    have hv3 : srcOf H3 4 v = some (0, []) := by rw [hv2, hil]; simp
    have happ2 := app_none (bytes := 32) (n := i + 1) hv3 hg3 hlen3 (Nat.le_trans (by rw [hle03.base]; exact hb) hnx)
    simp (decide := true) only [WP_skip, WP_ops, WP_seq, WP_block, WP_exit, WP_ret, WP_cond, CdC_true, CdC_false, seqQ_normal, seqQ_exit, seqQ_ret, seqQ_pan, blkQ_normal, blkQ_exit, blkQ_ret, blkQ_pan, bodyQ_ret, bodyQ_normal, bodyQ_pan, bodyK_some, WP_aops, WPa_nil, WPa_wr, WrA_new, CallA_new, WPa_rd, WPa_call, WPa_callv, WPa_gd, RdA_some, CallA_ret, WPs_nil, WPs_rd, WPs_wr, WPs_call, WPs_callv, WPs_gd, RdK_some, WrK_some, CallK_ret, CallV_func, GdS_tt, GdS_tf, GdS_ft, GdS_ff, GdA_tt, GdA_tf, GdA_ft, GdA_ff, evR, lenV_slc, lenV_tail, lenV_str, iaV_slc, evX, AO.ev, Fr.put_some, Fr.put_none, Fr.at_set, Fr.at_ofArgs, List.getD_cons_zero, List.getD_cons_succ, List.getD_nil, binV, intOp, strOp, AV.cells, AHeap.cell_new, AHeap.range_new, AHeap.cell_old, AHeap.range_old, AHeap.get_new, AHeap.get_old, AHeap.put_new, AHeap.lt_new, AHeap.lt_alloc, AHeap.wf_alloc, AHeap.base_new, AHeap.base_alloc, evRVs, evRV, tup, List.map_cons, List.map_nil, List.cons_append, List.nil_append, List.append_nil, List.getElem?_cons_zero, List.getElem?_cons_succ, Nat.zero_add, Option.map_some, Option.map_none, if_true, if_false, ↓reduceIte, Bool.false_eq_true, eq_self, Bool.not_false, Bool.not_true, decide_true, decide_false, hb, Fo.av, cs0, cs1, cs2, cs3, cs_len, cs_take, List.drop_zero, one_f, splice_f, fillA_f, Nat.le_refl, and_self, Nat.add_zero, hhead, List.replicate, List.flatten, happ, ← hH3, hv1, WrA_le hlt3 hw2, happ2]
    refine .row (room := some 4) hle03 hnx (hg3.trans ?_) (okL_cs _ (withF l f)) ?_
    · rw [← hall, hil]; simp
    · rw [hil]; exact h
end Go.AM
