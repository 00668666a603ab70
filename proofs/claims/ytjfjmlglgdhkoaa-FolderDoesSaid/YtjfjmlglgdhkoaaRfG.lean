/- Folders: what is answered, in one form; of none; what is spoiled. -/
import Derived.Test.YtjfjmlglgdhkoaaRfDr
import Derived.Test.YtjfjmlglgdhkoaaFdBk
namespace Go.AM
open Go Go.Proofs
set_option linter.unusedSimpArgs false
set_option linter.unusedVariables false
set_option maxRecDepth 100000
set_option maxHeartbeats 8000000

/-- A slice of folders that is new: none, or the beginning of a block of one's own. -/
structure SpV (H0 H : AHeap) (v : AV) (w : List Fo) : Prop where
  fv : FV H v w
  own : (w = [] ∧ v = .slice none 0 (.inl 0)) ∨ ∃ b cs, H0.next ≤ b ∧ b < H.next ∧ v = .slice (some (b, 0)) w.length (.inr 0) ∧ H.get b = some (.cells cs (some 4)) ∧ w.length * 4 ≤ cs.length
theorem SpV.nil (H0 H : AHeap) : SpV H0 H (.slice none 0 (.inl 0)) [] := ⟨FV.nil H, .inl ⟨rfl, rfl⟩⟩
theorem SpV.new {H0 H : AHeap} (hb : H.WF) (h : H0.next ≤ H.next) {w : List Fo} (hw : w.length ≤ 1000) : SpV H0 (H.alloc (.cells (w.flatMap Fo.cs) (some 4))) (.slice (some (H.next, 0)) w.length (.inr 0)) w :=
  ⟨(FS.new hb hw).fv, .inr ⟨_, _, h, AHeap.lt_new, rfl, AHeap.get_new hb, by rw [length_cs]; omega⟩⟩

theorem f8g {H : AHeap} (hb : H.WF) {Q : AE → AHeap → Prop} {p : Nat × Nat} {l : List Fo} {n : Nat} (hn : n = l.length) {c : Nat ⊕ Nat} (hF : FS H p l) (hC : SC H 4 p n c) (hok : ∀ f ∈ l, f.ok) {f : Fo} (hf : f.ok)
    (h : ∀ av H', H.Le H' → SpV H H' av (if addE l f = 0 then withF l f else []) → Q (.ret (.tuple [av, .int .i64 (addE l f)])) H') : ACall Try.prog 8 [.slice (some p) n c, f.av] H Q := by
  refine f8 hn hF hC hok hf ?_
  by_cases e : addE l f = 0
  · rw [if_pos e]
    have := h (.slice (some (H.next, 0)) (withF l f).length (.inr 0)) _ (.new hb) (by rw [if_pos e]; exact SpV.new hb (Nat.le_refl _) (by have := (may_len (may_iff.2 (addE_zero e).1)).1; rw [withF_len]; omega))
    rw [withF_len, e] at this
    exact this
  · rw [if_neg e]
    exact h _ _ (.refl _) (by rw [if_neg e]; exact SpV.nil _ _)
theorem f9g {H : AHeap} (hb : H.WF) {Q : AE → AHeap → Prop} {v : AV} {l : List Fo} (hV : FV H v l) {f : Fo}
    (h : ∀ av H', H.Le H' → FV H' av (if addE l f = 0 then withF l f else []) → Q (.ret (.tuple [av, .int .i64 (addE l f)])) H') : ACall Try.prog 9 [v, f.av] H Q := by
  refine f9 hV ?_
  by_cases e : addE l f = 0
  · rw [if_pos e]
    have := h (.slice (some (H.next, 0)) (withF l f).length (.inr 0)) _ (.new hb) (by rw [if_pos e]; exact (SpV.new (H0 := H) hb (Nat.le_refl _) (by have := (may_len (may_iff.2 (addE_zero e).1)).1; rw [withF_len]; omega)).fv)
    rw [e] at this
    exact this
  · rw [if_neg e]
    exact h _ _ (.refl _) (by rw [if_neg e]; exact FV.nil _)
theorem f11g {H : AHeap} (hb : H.WF) {Q : AE → AHeap → Prop} {p : Nat × Nat} {l : List Fo} {n : Nat} (hn : n = l.length) {c : Nat ⊕ Nat} (hF : FS H p l) {f : Fo}
    (h : ∀ av H', H.Le H' → SpV H H' av (if moveE l f = 0 then moveF l f else []) → Q (.ret (.tuple [av, .int .i64 (moveE l f)])) H') : ACall Try.prog 11 [.slice (some p) n c, f.av] H Q := by
  refine f11 hn hF ?_
  have hml : (moveF l f).length = l.length := by simp [moveF]
  by_cases e : moveE l f = 0
  · rw [if_pos e]
    have := h (.slice (some (H.next, 0)) (moveF l f).length (.inr 0)) _ (.new hb) (by rw [if_pos e]; exact SpV.new hb (Nat.le_refl _) (by rw [hml]; exact hF.le))
    rw [hml, e] at this
    exact this
  · rw [if_neg e]
    exact h _ _ (.refl _) (by rw [if_neg e]; exact SpV.nil _ _)
theorem f12g {H : AHeap} (hb : H.WF) {Q : AE → AHeap → Prop} {v : AV} {l : List Fo} (hV : FV H v l) {f : Fo}
    (h : ∀ av H', H.Le H' → FV H' av (if moveE l f = 0 then moveF l f else []) → Q (.ret (.tuple [av, .int .i64 (moveE l f)])) H') : ACall Try.prog 12 [v, f.av] H Q := by
  refine f12 hV ?_
  have hml : (moveF l f).length = l.length := by simp [moveF]
  by_cases e : moveE l f = 0
  · rw [if_pos e]
    have := h (.slice (some (H.next, 0)) (moveF l f).length (.inr 0)) _ (.new hb) (by rw [if_pos e]; exact (SpV.new (H0 := H) hb (Nat.le_refl _) (by rw [hml]; exact hV.le)).fv)
    rw [e] at this
    exact this
  · rw [if_neg e]
    exact h _ _ (.refl _) (by rw [if_neg e]; exact FV.nil _)
def leftR (l : List Fo) (id : Int) : List Fo := l.filter fun x => !(goneR l id).any fun y => x.id == y
theorem f13g {H : AHeap} {Q : AE → AHeap → Prop} {p : Nat × Nat} {l : List Fo} {n : Nat} (hn : n = l.length) {c : Nat ⊕ Nat} (hF : FS H p l) {id : Int}
    (h : ∀ xv gv H', H.Le H' → SpV H H' xv (if dropE l id = 0 then leftR l id else []) → IV H' gv (if dropE l id = 0 then goneR l id else []) → Q (.ret (.tuple [xv, gv, .int .i64 (dropE l id)])) H') :
    ACall Try.prog 13 [.slice (some p) n c, .int .u32 id] H Q := by
  refine f13 hn hF (fun e => ?_) (fun e H' bo bg cs gone hle hbo hbg hp hr hN hgo hlt hcl hct => ?_)
  · exact h _ _ _ (.refl _) (by rw [if_neg e]; exact SpV.nil _ _) (by rw [if_neg e]; exact IV.nil _)
  · obtain ⟨hm, ⟨g, hg⟩, _⟩ := dropE_zero e
    obtain ⟨g1, g2⟩ := look_some hg
    have hge := gone_eq hm ⟨g, g1, g2⟩ hp hr
    subst hge
    have hl : (leftR l id).length ≤ l.length := List.length_filter_le _ _
    have := h (.slice (some (bo, 0)) (leftR l id).length (.inr 0)) (.slice (some (bg, 0)) (goneR l id).length (.inr 0)) H' hle
      (by
        rw [if_pos e]
        have hFo : FS H' (bo, 0) (leftR l id) := ⟨hlt, Nat.le_trans hl hF.le, by rw [AHeap.range_of hgo, if_pos (by omega), List.drop_zero]; exact congrArg some hct⟩
        exact ⟨hFo.fv, .inr ⟨bo, cs, hbo, hlt, rfl, hgo, by omega⟩⟩)
      (by
        rw [if_pos e]
        have hI : IS H' (bg, 0) (goneR l id) := ⟨hN.lt, hN.le, by rw [AHeap.range_of hN.get, if_pos (by simp [idsA]), List.drop_zero, List.take_of_length_le (by simp [idsA])]⟩
        exact hI.iv)
    rw [e] at this
    exact this
theorem f14g {H : AHeap} {Q : AE → AHeap → Prop} {v : AV} {l : List Fo} (hV : FV H v l) {id : Int}
    (h : ∀ xv gv H', H.Le H' → FV H' xv (if dropE l id = 0 then leftR l id else []) → IV H' gv (if dropE l id = 0 then goneR l id else []) → Q (.ret (.tuple [xv, gv, .int .i64 (dropE l id)])) H') :
    ACall Try.prog 14 [v, .int .u32 id] H Q := by
  refine f14 hV (fun e => ?_) (fun e H' xv gv hle hx hg => ?_)
  · exact h _ _ _ (.refl _) (by rw [if_neg e]; exact FV.nil _) (by rw [if_neg e]; exact IV.nil _)
  · have := h xv gv H' hle (by rw [if_pos e]; exact hx) (by rw [if_pos e]; exact hg)
    rw [e] at this
    exact this

/-! ### of none -/
theorem f43n {H : AHeap} {Q : AE → AHeap → Prop} {g : AV} (h : Q (.ret (.int .i64 (-1))) H) : ACall Try.prog 43 [.slice none 0 (.inl 0), g] H Q := by
  refine ACall.comp [] mixed (by decide +kernel) fun F hF' => ?_
  cbv at hF'
  cases hF'
  refine ⟨by simp, fun hb ha => ?_⟩
  simp (decide := true) only [WP_skip, WP_ops, WP_seq, WP_block, WP_exit, WP_ret, WP_cond, CdC_true, CdC_false, seqQ_normal, seqQ_exit, seqQ_ret, seqQ_pan, blkQ_normal, blkQ_exit, blkQ_ret, blkQ_pan, bodyQ_ret, bodyQ_normal, bodyQ_pan, bodyK_some, WP_aops, WPa_nil, WPa_wr, WrA_new, CallA_new, WPa_rd, WPa_call, WPa_callv, WPa_gd, RdA_some, CallA_ret, WPs_nil, WPs_rd, WPs_wr, WPs_call, WPs_callv, WPs_gd, RdK_some, WrK_some, CallK_ret, CallV_func, GdS_tt, GdS_tf, GdS_ft, GdS_ff, GdA_tt, GdA_tf, GdA_ft, GdA_ff, evR, lenV_slc, lenV_tail, lenV_str, iaV_slc, evX, AO.ev, Fr.put_some, Fr.put_none, Fr.at_set, Fr.at_ofArgs, List.getD_cons_zero, List.getD_cons_succ, List.getD_nil, binV, intOp, strOp, AV.cells, AHeap.cell_new, AHeap.range_new, AHeap.cell_old, AHeap.range_old, AHeap.get_new, AHeap.get_old, AHeap.put_new, AHeap.lt_new, AHeap.lt_alloc, AHeap.wf_alloc, AHeap.base_new, AHeap.base_alloc, evRVs, evRV, tup, List.map_cons, List.map_nil, List.cons_append, List.nil_append, List.append_nil, List.getElem?_cons_zero, List.getElem?_cons_succ, Nat.zero_add, Option.map_some, Option.map_none, if_true, if_false, ↓reduceIte, Bool.false_eq_true, eq_self, Bool.not_false, Bool.not_true, decide_true, decide_false, hb]
  refine WP_loop (fun t' H' => H' = H ∧ Fr.at t' 0 = .slice none 0 (.inl 0) ∧ Fr.at t' 7 = .int .i64 0 ∧ Fr.at t' 8 = .int .i64 0) (fun t' _ => 0) ?_ ?_
  · simp (decide := true) only [WP_skip, WP_ops, WP_seq, WP_block, WP_exit, WP_ret, WP_cond, CdC_true, CdC_false, seqQ_normal, seqQ_exit, seqQ_ret, seqQ_pan, blkQ_normal, blkQ_exit, blkQ_ret, blkQ_pan, bodyQ_ret, bodyQ_normal, bodyQ_pan, bodyK_some, WP_aops, WPa_nil, WPa_wr, WrA_new, CallA_new, WPa_rd, WPa_call, WPa_callv, WPa_gd, RdA_some, CallA_ret, WPs_nil, WPs_rd, WPs_wr, WPs_call, WPs_callv, WPs_gd, RdK_some, WrK_some, CallK_ret, CallV_func, GdS_tt, GdS_tf, GdS_ft, GdS_ff, GdA_tt, GdA_tf, GdA_ft, GdA_ff, evR, lenV_slc, lenV_tail, lenV_str, iaV_slc, evX, AO.ev, Fr.put_some, Fr.put_none, Fr.at_set, Fr.at_ofArgs, List.getD_cons_zero, List.getD_cons_succ, List.getD_nil, binV, intOp, strOp, AV.cells, AHeap.cell_new, AHeap.range_new, AHeap.cell_old, AHeap.range_old, AHeap.get_new, AHeap.get_old, AHeap.put_new, AHeap.lt_new, AHeap.lt_alloc, AHeap.wf_alloc, AHeap.base_new, AHeap.base_alloc, evRVs, evRV, tup, List.map_cons, List.map_nil, List.cons_append, List.nil_append, List.append_nil, List.getElem?_cons_zero, List.getElem?_cons_succ, Nat.zero_add, Option.map_some, Option.map_none, if_true, if_false, ↓reduceIte, Bool.false_eq_true, eq_self, Bool.not_false, Bool.not_true, decide_true, decide_false, hb, Int.natCast_zero, and_self]
  · rintro t H2 ⟨rfl, g0, g7, g8⟩
    have hI : ¬ (0 : Int) < 0 := by decide
    simp (decide := true) only [WP_skip, WP_ops, WP_seq, WP_block, WP_exit, WP_ret, WP_cond, CdC_true, CdC_false, seqQ_normal, seqQ_exit, seqQ_ret, seqQ_pan, blkQ_normal, blkQ_exit, blkQ_ret, blkQ_pan, bodyQ_ret, bodyQ_normal, bodyQ_pan, bodyK_some, WP_aops, WPa_nil, WPa_wr, WrA_new, CallA_new, WPa_rd, WPa_call, WPa_callv, WPa_gd, RdA_some, CallA_ret, WPs_nil, WPs_rd, WPs_wr, WPs_call, WPs_callv, WPs_gd, RdK_some, WrK_some, CallK_ret, CallV_func, GdS_tt, GdS_tf, GdS_ft, GdS_ff, GdA_tt, GdA_tf, GdA_ft, GdA_ff, evR, lenV_slc, lenV_tail, lenV_str, iaV_slc, evX, AO.ev, Fr.put_some, Fr.put_none, Fr.at_set, Fr.at_ofArgs, List.getD_cons_zero, List.getD_cons_succ, List.getD_nil, binV, intOp, strOp, AV.cells, AHeap.cell_new, AHeap.range_new, AHeap.cell_old, AHeap.range_old, AHeap.get_new, AHeap.get_old, AHeap.put_new, AHeap.lt_new, AHeap.lt_alloc, AHeap.wf_alloc, AHeap.base_new, AHeap.base_alloc, evRVs, evRV, tup, List.map_cons, List.map_nil, List.cons_append, List.nil_append, List.append_nil, List.getElem?_cons_zero, List.getElem?_cons_succ, Nat.zero_add, Option.map_some, Option.map_none, if_true, if_false, ↓reduceIte, Bool.false_eq_true, eq_self, Bool.not_false, Bool.not_true, decide_true, decide_false, hb, g0, g7, g8, hI]
    exact .this h
theorem f23n {H : AHeap} {Q : AE → AHeap → Prop} {id : Int} (h : Q (.ret (.tuple [.int .i64 0, .bool false])) H) : ACall Try.prog 23 [.slice none 0 (.inl 0), .int .u32 id] H Q := by
  refine ACall.comp [] mixed (by decide +kernel) fun F hF' => ?_
  cbv at hF'
  cases hF'
  refine ⟨by simp, fun hb ha => ?_⟩
  simp (decide := true) only [WP_skip, WP_ops, WP_seq, WP_block, WP_exit, WP_ret, WP_cond, CdC_true, CdC_false, seqQ_normal, seqQ_exit, seqQ_ret, seqQ_pan, blkQ_normal, blkQ_exit, blkQ_ret, blkQ_pan, bodyQ_ret, bodyQ_normal, bodyQ_pan, bodyK_some, WP_aops, WPa_nil, WPa_wr, WrA_new, CallA_new, WPa_rd, WPa_call, WPa_callv, WPa_gd, RdA_some, CallA_ret, WPs_nil, WPs_rd, WPs_wr, WPs_call, WPs_callv, WPs_gd, RdK_some, WrK_some, CallK_ret, CallV_func, GdS_tt, GdS_tf, GdS_ft, GdS_ff, GdA_tt, GdA_tf, GdA_ft, GdA_ff, evR, lenV_slc, lenV_tail, lenV_str, iaV_slc, evX, AO.ev, Fr.put_some, Fr.put_none, Fr.at_set, Fr.at_ofArgs, List.getD_cons_zero, List.getD_cons_succ, List.getD_nil, binV, intOp, strOp, AV.cells, AHeap.cell_new, AHeap.range_new, AHeap.cell_old, AHeap.range_old, AHeap.get_new, AHeap.get_old, AHeap.put_new, AHeap.lt_new, AHeap.lt_alloc, AHeap.wf_alloc, AHeap.base_new, AHeap.base_alloc, evRVs, evRV, tup, List.map_cons, List.map_nil, List.cons_append, List.nil_append, List.append_nil, List.getElem?_cons_zero, List.getElem?_cons_succ, Nat.zero_add, Option.map_some, Option.map_none, if_true, if_false, ↓reduceIte, Bool.false_eq_true, eq_self, Bool.not_false, Bool.not_true, decide_true, decide_false, hb]
  refine f43n ?_
  have e1 : (if (0 : Int) > -1 then (0 : Int) else -1) = 0 := by decide
  have e2 : decide ((-1 : Int) ≥ 0) = false := by decide
  simp (decide := true) only [WP_skip, WP_ops, WP_seq, WP_block, WP_exit, WP_ret, WP_cond, CdC_true, CdC_false, seqQ_normal, seqQ_exit, seqQ_ret, seqQ_pan, blkQ_normal, blkQ_exit, blkQ_ret, blkQ_pan, bodyQ_ret, bodyQ_normal, bodyQ_pan, bodyK_some, WP_aops, WPa_nil, WPa_wr, WrA_new, CallA_new, WPa_rd, WPa_call, WPa_callv, WPa_gd, RdA_some, CallA_ret, WPs_nil, WPs_rd, WPs_wr, WPs_call, WPs_callv, WPs_gd, RdK_some, WrK_some, CallK_ret, CallV_func, GdS_tt, GdS_tf, GdS_ft, GdS_ff, GdA_tt, GdA_tf, GdA_ft, GdA_ff, evR, lenV_slc, lenV_tail, lenV_str, iaV_slc, evX, AO.ev, Fr.put_some, Fr.put_none, Fr.at_set, Fr.at_ofArgs, List.getD_cons_zero, List.getD_cons_succ, List.getD_nil, binV, intOp, strOp, AV.cells, AHeap.cell_new, AHeap.range_new, AHeap.cell_old, AHeap.range_old, AHeap.get_new, AHeap.get_old, AHeap.put_new, AHeap.lt_new, AHeap.lt_alloc, AHeap.wf_alloc, AHeap.base_new, AHeap.base_alloc, evRVs, evRV, tup, List.map_cons, List.map_nil, List.cons_append, List.nil_append, List.append_nil, List.getElem?_cons_zero, List.getElem?_cons_succ, Nat.zero_add, Option.map_some, Option.map_none, if_true, if_false, ↓reduceIte, Bool.false_eq_true, eq_self, Bool.not_false, Bool.not_true, decide_true, decide_false, hb, e1, e2]
  exact .same (.new hb) (by simp [AV.ok, AV.okL]) h
theorem f8n {H : AHeap} {Q : AE → AHeap → Prop} {f : Fo} (h : Q (.ret (.tuple [.slice none 0 (.inl 0), .int .i64 2])) H) : ACall Try.prog 8 [.slice none 0 (.inl 0), f.av] H Q := by
  refine ACall.comp [] mixed (by decide +kernel) fun F hF' => ?_
  cbv at hF'
  cases hF'
  refine ⟨by simp, fun hb ha => ?_⟩
  simp (decide := true) only [WP_skip, WP_ops, WP_seq, WP_block, WP_exit, WP_ret, WP_cond, CdC_true, CdC_false, seqQ_normal, seqQ_exit, seqQ_ret, seqQ_pan, blkQ_normal, blkQ_exit, blkQ_ret, blkQ_pan, bodyQ_ret, bodyQ_normal, bodyQ_pan, bodyK_some, WP_aops, WPa_nil, WPa_wr, WrA_new, CallA_new, WPa_rd, WPa_call, WPa_callv, WPa_gd, RdA_some, CallA_ret, WPs_nil, WPs_rd, WPs_wr, WPs_call, WPs_callv, WPs_gd, RdK_some, WrK_some, CallK_ret, CallV_func, GdS_tt, GdS_tf, GdS_ft, GdS_ff, GdA_tt, GdA_tf, GdA_ft, GdA_ff, evR, lenV_slc, lenV_tail, lenV_str, iaV_slc, evX, AO.ev, Fr.put_some, Fr.put_none, Fr.at_set, Fr.at_ofArgs, List.getD_cons_zero, List.getD_cons_succ, List.getD_nil, binV, intOp, strOp, AV.cells, AHeap.cell_new, AHeap.range_new, AHeap.cell_old, AHeap.range_old, AHeap.get_new, AHeap.get_old, AHeap.put_new, AHeap.lt_new, AHeap.lt_alloc, AHeap.wf_alloc, AHeap.base_new, AHeap.base_alloc, evRVs, evRV, tup, List.map_cons, List.map_nil, List.cons_append, List.nil_append, List.append_nil, List.getElem?_cons_zero, List.getElem?_cons_succ, Nat.zero_add, Option.map_some, Option.map_none, if_true, if_false, ↓reduceIte, Bool.false_eq_true, eq_self, Bool.not_false, Bool.not_true, decide_true, decide_false, hb, Fo.av, cs0, cs1, cs2, cs3, cs_len, cs_take, List.drop_zero, one_f, splice_f, fillA_f, Nat.le_refl, and_self, Nat.add_zero]
  refine f19n ?_
  simp (decide := true) only [WP_skip, WP_ops, WP_seq, WP_block, WP_exit, WP_ret, WP_cond, CdC_true, CdC_false, seqQ_normal, seqQ_exit, seqQ_ret, seqQ_pan, blkQ_normal, blkQ_exit, blkQ_ret, blkQ_pan, bodyQ_ret, bodyQ_normal, bodyQ_pan, bodyK_some, WP_aops, WPa_nil, WPa_wr, WrA_new, CallA_new, WPa_rd, WPa_call, WPa_callv, WPa_gd, RdA_some, CallA_ret, WPs_nil, WPs_rd, WPs_wr, WPs_call, WPs_callv, WPs_gd, RdK_some, WrK_some, CallK_ret, CallV_func, GdS_tt, GdS_tf, GdS_ft, GdS_ff, GdA_tt, GdA_tf, GdA_ft, GdA_ff, evR, lenV_slc, lenV_tail, lenV_str, iaV_slc, evX, AO.ev, Fr.put_some, Fr.put_none, Fr.at_set, Fr.at_ofArgs, List.getD_cons_zero, List.getD_cons_succ, List.getD_nil, binV, intOp, strOp, AV.cells, AHeap.cell_new, AHeap.range_new, AHeap.cell_old, AHeap.range_old, AHeap.get_new, AHeap.get_old, AHeap.put_new, AHeap.lt_new, AHeap.lt_alloc, AHeap.wf_alloc, AHeap.base_new, AHeap.base_alloc, evRVs, evRV, tup, List.map_cons, List.map_nil, List.cons_append, List.nil_append, List.append_nil, List.getElem?_cons_zero, List.getElem?_cons_succ, Nat.zero_add, Option.map_some, Option.map_none, if_true, if_false, ↓reduceIte, Bool.false_eq_true, eq_self, Bool.not_false, Bool.not_true, decide_true, decide_false, hb, Fo.av, cs0, cs1, cs2, cs3, cs_len, cs_take, List.drop_zero, one_f, splice_f, fillA_f, Nat.le_refl, and_self, Nat.add_zero]
  exact .same (.new hb) (by simp [AV.ok, AV.okL]) h
theorem f11n {H : AHeap} {Q : AE → AHeap → Prop} {f : Fo} (h : Q (.ret (.tuple [.slice none 0 (.inl 0), .int .i64 2])) H) : ACall Try.prog 11 [.slice none 0 (.inl 0), f.av] H Q := by
  refine ACall.comp [(16, [⟨0, true, none⟩, ⟨1, true, none⟩, ⟨2, true, none⟩, ⟨4, true, none⟩, ⟨5, true, none⟩, ⟨3, false, some [0, 2]⟩, ⟨6, false, some [3, 5]⟩, ⟨7, false, none⟩])] mixed (by decide +kernel) fun F hF' => ?_
  cbv at hF'
  cases hF'
  refine ⟨by simp, fun hb ha => ?_⟩
  simp (decide := true) only [WP_skip, WP_ops, WP_seq, WP_block, WP_exit, WP_ret, WP_cond, CdC_true, CdC_false, seqQ_normal, seqQ_exit, seqQ_ret, seqQ_pan, blkQ_normal, blkQ_exit, blkQ_ret, blkQ_pan, bodyQ_ret, bodyQ_normal, bodyQ_pan, bodyK_some, WP_aops, WPa_nil, WPa_wr, WrA_new, CallA_new, WPa_rd, WPa_call, WPa_callv, WPa_gd, RdA_some, CallA_ret, WPs_nil, WPs_rd, WPs_wr, WPs_call, WPs_callv, WPs_gd, RdK_some, WrK_some, CallK_ret, CallV_func, GdS_tt, GdS_tf, GdS_ft, GdS_ff, GdA_tt, GdA_tf, GdA_ft, GdA_ff, evR, lenV_slc, lenV_tail, lenV_str, iaV_slc, evX, AO.ev, Fr.put_some, Fr.put_none, Fr.at_set, Fr.at_ofArgs, List.getD_cons_zero, List.getD_cons_succ, List.getD_nil, binV, intOp, strOp, AV.cells, AHeap.cell_new, AHeap.range_new, AHeap.cell_old, AHeap.range_old, AHeap.get_new, AHeap.get_old, AHeap.put_new, AHeap.lt_new, AHeap.lt_alloc, AHeap.wf_alloc, AHeap.base_new, AHeap.base_alloc, evRVs, evRV, tup, List.map_cons, List.map_nil, List.cons_append, List.nil_append, List.append_nil, List.getElem?_cons_zero, List.getElem?_cons_succ, Nat.zero_add, Option.map_some, Option.map_none, if_true, if_false, ↓reduceIte, Bool.false_eq_true, eq_self, Bool.not_false, Bool.not_true, decide_true, decide_false, hb, Fo.av, cs0, cs1, cs2, cs3, cs_len, cs_take, List.drop_zero, one_f, splice_f, fillA_f, Nat.le_refl, and_self, Nat.add_zero]
  refine f19n ?_
  simp (decide := true) only [WP_skip, WP_ops, WP_seq, WP_block, WP_exit, WP_ret, WP_cond, CdC_true, CdC_false, seqQ_normal, seqQ_exit, seqQ_ret, seqQ_pan, blkQ_normal, blkQ_exit, blkQ_ret, blkQ_pan, bodyQ_ret, bodyQ_normal, bodyQ_pan, bodyK_some, WP_aops, WPa_nil, WPa_wr, WrA_new, CallA_new, WPa_rd, WPa_call, WPa_callv, WPa_gd, RdA_some, CallA_ret, WPs_nil, WPs_rd, WPs_wr, WPs_call, WPs_callv, WPs_gd, RdK_some, WrK_some, CallK_ret, CallV_func, GdS_tt, GdS_tf, GdS_ft, GdS_ff, GdA_tt, GdA_tf, GdA_ft, GdA_ff, evR, lenV_slc, lenV_tail, lenV_str, iaV_slc, evX, AO.ev, Fr.put_some, Fr.put_none, Fr.at_set, Fr.at_ofArgs, List.getD_cons_zero, List.getD_cons_succ, List.getD_nil, binV, intOp, strOp, AV.cells, AHeap.cell_new, AHeap.range_new, AHeap.cell_old, AHeap.range_old, AHeap.get_new, AHeap.get_old, AHeap.put_new, AHeap.lt_new, AHeap.lt_alloc, AHeap.wf_alloc, AHeap.base_new, AHeap.base_alloc, evRVs, evRV, tup, List.map_cons, List.map_nil, List.cons_append, List.nil_append, List.append_nil, List.getElem?_cons_zero, List.getElem?_cons_succ, Nat.zero_add, Option.map_some, Option.map_none, if_true, if_false, ↓reduceIte, Bool.false_eq_true, eq_self, Bool.not_false, Bool.not_true, decide_true, decide_false, hb, Fo.av, cs0, cs1, cs2, cs3, cs_len, cs_take, List.drop_zero, one_f, splice_f, fillA_f, Nat.le_refl, and_self, Nat.add_zero]
  exact .same (.new hb) (by simp [AV.ok, AV.okL]) h
theorem f13n {H : AHeap} {Q : AE → AHeap → Prop} {id : Int} (h : Q (.ret (.tuple [.slice none 0 (.inl 0), .slice none 0 (.inl 0), .int .i64 2])) H) : ACall Try.prog 13 [.slice none 0 (.inl 0), .int .u32 id] H Q := by
  refine ACall.comp [] mixed (by decide +kernel) fun F hF' => ?_
  cbv at hF'
  cases hF'
  refine ⟨by simp, fun hb ha => ?_⟩
  simp (decide := true) only [WP_skip, WP_ops, WP_seq, WP_block, WP_exit, WP_ret, WP_cond, CdC_true, CdC_false, seqQ_normal, seqQ_exit, seqQ_ret, seqQ_pan, blkQ_normal, blkQ_exit, blkQ_ret, blkQ_pan, bodyQ_ret, bodyQ_normal, bodyQ_pan, bodyK_some, WP_aops, WPa_nil, WPa_wr, WrA_new, CallA_new, WPa_rd, WPa_call, WPa_callv, WPa_gd, RdA_some, CallA_ret, WPs_nil, WPs_rd, WPs_wr, WPs_call, WPs_callv, WPs_gd, RdK_some, WrK_some, CallK_ret, CallV_func, GdS_tt, GdS_tf, GdS_ft, GdS_ff, GdA_tt, GdA_tf, GdA_ft, GdA_ff, evR, lenV_slc, lenV_tail, lenV_str, iaV_slc, evX, AO.ev, Fr.put_some, Fr.put_none, Fr.at_set, Fr.at_ofArgs, List.getD_cons_zero, List.getD_cons_succ, List.getD_nil, binV, intOp, strOp, AV.cells, AHeap.cell_new, AHeap.range_new, AHeap.cell_old, AHeap.range_old, AHeap.get_new, AHeap.get_old, AHeap.put_new, AHeap.lt_new, AHeap.lt_alloc, AHeap.wf_alloc, AHeap.base_new, AHeap.base_alloc, evRVs, evRV, tup, List.map_cons, List.map_nil, List.cons_append, List.nil_append, List.append_nil, List.getElem?_cons_zero, List.getElem?_cons_succ, Nat.zero_add, Option.map_some, Option.map_none, if_true, if_false, ↓reduceIte, Bool.false_eq_true, eq_self, Bool.not_false, Bool.not_true, decide_true, decide_false, hb]
  refine f23n ?_
  simp (decide := true) only [WP_skip, WP_ops, WP_seq, WP_block, WP_exit, WP_ret, WP_cond, CdC_true, CdC_false, seqQ_normal, seqQ_exit, seqQ_ret, seqQ_pan, blkQ_normal, blkQ_exit, blkQ_ret, blkQ_pan, bodyQ_ret, bodyQ_normal, bodyQ_pan, bodyK_some, WP_aops, WPa_nil, WPa_wr, WrA_new, CallA_new, WPa_rd, WPa_call, WPa_callv, WPa_gd, RdA_some, CallA_ret, WPs_nil, WPs_rd, WPs_wr, WPs_call, WPs_callv, WPs_gd, RdK_some, WrK_some, CallK_ret, CallV_func, GdS_tt, GdS_tf, GdS_ft, GdS_ff, GdA_tt, GdA_tf, GdA_ft, GdA_ff, evR, lenV_slc, lenV_tail, lenV_str, iaV_slc, evX, AO.ev, Fr.put_some, Fr.put_none, Fr.at_set, Fr.at_ofArgs, List.getD_cons_zero, List.getD_cons_succ, List.getD_nil, binV, intOp, strOp, AV.cells, AHeap.cell_new, AHeap.range_new, AHeap.cell_old, AHeap.range_old, AHeap.get_new, AHeap.get_old, AHeap.put_new, AHeap.lt_new, AHeap.lt_alloc, AHeap.wf_alloc, AHeap.base_new, AHeap.base_alloc, evRVs, evRV, tup, List.map_cons, List.map_nil, List.cons_append, List.nil_append, List.append_nil, List.getElem?_cons_zero, List.getElem?_cons_succ, Nat.zero_add, Option.map_some, Option.map_none, if_true, if_false, ↓reduceIte, Bool.false_eq_true, eq_self, Bool.not_false, Bool.not_true, decide_true, decide_false, hb]
  refine f19n ?_
  simp (decide := true) only [WP_skip, WP_ops, WP_seq, WP_block, WP_exit, WP_ret, WP_cond, CdC_true, CdC_false, seqQ_normal, seqQ_exit, seqQ_ret, seqQ_pan, blkQ_normal, blkQ_exit, blkQ_ret, blkQ_pan, bodyQ_ret, bodyQ_normal, bodyQ_pan, bodyK_some, WP_aops, WPa_nil, WPa_wr, WrA_new, CallA_new, WPa_rd, WPa_call, WPa_callv, WPa_gd, RdA_some, CallA_ret, WPs_nil, WPs_rd, WPs_wr, WPs_call, WPs_callv, WPs_gd, RdK_some, WrK_some, CallK_ret, CallV_func, GdS_tt, GdS_tf, GdS_ft, GdS_ff, GdA_tt, GdA_tf, GdA_ft, GdA_ff, evR, lenV_slc, lenV_tail, lenV_str, iaV_slc, evX, AO.ev, Fr.put_some, Fr.put_none, Fr.at_set, Fr.at_ofArgs, List.getD_cons_zero, List.getD_cons_succ, List.getD_nil, binV, intOp, strOp, AV.cells, AHeap.cell_new, AHeap.range_new, AHeap.cell_old, AHeap.range_old, AHeap.get_new, AHeap.get_old, AHeap.put_new, AHeap.lt_new, AHeap.lt_alloc, AHeap.wf_alloc, AHeap.base_new, AHeap.base_alloc, evRVs, evRV, tup, List.map_cons, List.map_nil, List.cons_append, List.nil_append, List.append_nil, List.getElem?_cons_zero, List.getElem?_cons_succ, Nat.zero_add, Option.map_some, Option.map_none, if_true, if_false, ↓reduceIte, Bool.false_eq_true, eq_self, Bool.not_false, Bool.not_true, decide_true, decide_false, hb]
  exact .this h

/-! ### what is spoiled -/
theorem f16 {H : AHeap} (hb : H.WF) {Q : AE → AHeap → Prop} {b n : Nat} {cs : List AV} (hbb : H.base ≤ b) (hlt : b < H.next) (hg : H.get b = some (.cells cs (some 4))) (hn : n * 4 ≤ cs.length) (hn2 : n ≤ 1000)
    (h : ∀ H', LeX b H H' → Q (.ret (.tuple [])) H') : ACall Try.prog 16 [.slice (some (b, 0)) n (.inr 0)] H Q := by
  refine ACall.comp [] mixed (by decide +kernel) fun F hF' => ?_
  cbv at hF'
  cases hF'
  refine ⟨by simp, fun hb ha => ?_⟩
  simp (decide := true) only [WP_skip, WP_ops, WP_seq, WP_block, WP_exit, WP_ret, WP_cond, CdC_true, CdC_false, seqQ_normal, seqQ_exit, seqQ_ret, seqQ_pan, blkQ_normal, blkQ_exit, blkQ_ret, blkQ_pan, bodyQ_ret, bodyQ_normal, bodyQ_pan, bodyK_some, WP_aops, WPa_nil, WPa_wr, WrA_new, CallA_new, WPa_rd, WPa_call, WPa_callv, WPa_gd, RdA_some, CallA_ret, WPs_nil, WPs_rd, WPs_wr, WPs_call, WPs_callv, WPs_gd, RdK_some, WrK_some, CallK_ret, CallV_func, GdS_tt, GdS_tf, GdS_ft, GdS_ff, GdA_tt, GdA_tf, GdA_ft, GdA_ff, evR, lenV_slc, lenV_tail, lenV_str, iaV_slc, evX, AO.ev, Fr.put_some, Fr.put_none, Fr.at_set, Fr.at_ofArgs, List.getD_cons_zero, List.getD_cons_succ, List.getD_nil, binV, intOp, strOp, AV.cells, AHeap.cell_new, AHeap.range_new, AHeap.cell_old, AHeap.range_old, AHeap.get_new, AHeap.get_old, AHeap.put_new, AHeap.lt_new, AHeap.lt_alloc, AHeap.wf_alloc, AHeap.base_new, AHeap.base_alloc, evRVs, evRV, tup, List.map_cons, List.map_nil, List.cons_append, List.nil_append, List.append_nil, List.getElem?_cons_zero, List.getElem?_cons_succ, Nat.zero_add, Option.map_some, Option.map_none, if_true, if_false, ↓reduceIte, Bool.false_eq_true, eq_self, Bool.not_false, Bool.not_true, decide_true, decide_false, hb]
  refine WP_loop (fun t' H' => ∃ (i : Nat) (cs' : List AV), i ≤ n ∧ LeX b H H' ∧ H'.get b = some (.cells cs' (some 4)) ∧ cs'.length = cs.length ∧ Fr.at t' 0 = .slice (some (b, 0)) n (.inr 0) ∧ Fr.at t' 2 = .int .i64 i) (fun t' _ => ((n : Int) - numOf (Fr.at t' 2)).toNat) ?_ ?_
  · refine ⟨0, cs, by omega, LeX.refl b H, hg, rfl, ?_⟩
    simp (decide := true) only [WP_skip, WP_ops, WP_seq, WP_block, WP_exit, WP_ret, WP_cond, CdC_true, CdC_false, seqQ_normal, seqQ_exit, seqQ_ret, seqQ_pan, blkQ_normal, blkQ_exit, blkQ_ret, blkQ_pan, bodyQ_ret, bodyQ_normal, bodyQ_pan, bodyK_some, WP_aops, WPa_nil, WPa_wr, WrA_new, CallA_new, WPa_rd, WPa_call, WPa_callv, WPa_gd, RdA_some, CallA_ret, WPs_nil, WPs_rd, WPs_wr, WPs_call, WPs_callv, WPs_gd, RdK_some, WrK_some, CallK_ret, CallV_func, GdS_tt, GdS_tf, GdS_ft, GdS_ff, GdA_tt, GdA_tf, GdA_ft, GdA_ff, evR, lenV_slc, lenV_tail, lenV_str, iaV_slc, evX, AO.ev, Fr.put_some, Fr.put_none, Fr.at_set, Fr.at_ofArgs, List.getD_cons_zero, List.getD_cons_succ, List.getD_nil, binV, intOp, strOp, AV.cells, AHeap.cell_new, AHeap.range_new, AHeap.cell_old, AHeap.range_old, AHeap.get_new, AHeap.get_old, AHeap.put_new, AHeap.lt_new, AHeap.lt_alloc, AHeap.wf_alloc, AHeap.base_new, AHeap.base_alloc, evRVs, evRV, tup, List.map_cons, List.map_nil, List.cons_append, List.nil_append, List.append_nil, List.getElem?_cons_zero, List.getElem?_cons_succ, Nat.zero_add, Option.map_some, Option.map_none, if_true, if_false, ↓reduceIte, Bool.false_eq_true, eq_self, Bool.not_false, Bool.not_true, decide_true, decide_false, hb, Int.natCast_zero, and_self]
  · rintro t H2 ⟨i, cs', hi, hX, hg2, hl2, g0, g2⟩
    have hbb2 : H2.base ≤ b := by rw [hX.base]; exact hbb
    have hlt2 : b < H2.next := Nat.lt_of_lt_of_le hlt hX.next
    by_cases hlti : i < n
    · have hI : (i : Int) < (n : Int) := by omega
      have hI0 : 0 ≤ (i : Int) := by omega
      have hfil : fillA [.int .u32 0, .int .u32 0, .str ⟨⟨[]⟩⟩, .int .u64 0] [(0, 1, .int .u32 77)] = some (⟨77, 0, ⟨⟨[]⟩⟩, 0⟩ : Fo).cs := rfl
      have hfit : i * 4 + 4 ≤ cs'.length := by omega
      have hc4 : (⟨77, 0, ⟨⟨[]⟩⟩, 0⟩ : Fo).cs.length = 4 := rfl
      have hone : (⟨77, 0, ⟨⟨[]⟩⟩, 0⟩ : Fo).cs.all (·.one) = true := rfl
      obtain ⟨w, hw⟩ : ∃ w : Fo, (⟨77, 0, ⟨⟨[]⟩⟩, 0⟩ : Fo) = w := ⟨_, rfl⟩
      rw [hw] at hfil hc4 hone
      simp (decide := true) only [WP_skip, WP_ops, WP_seq, WP_block, WP_exit, WP_ret, WP_cond, CdC_true, CdC_false, seqQ_normal, seqQ_exit, seqQ_ret, seqQ_pan, blkQ_normal, blkQ_exit, blkQ_ret, blkQ_pan, bodyQ_ret, bodyQ_normal, bodyQ_pan, bodyK_some, WP_aops, WPa_nil, WPa_wr, WrA_new, CallA_new, WPa_rd, WPa_call, WPa_callv, WPa_gd, RdA_some, CallA_ret, WPs_nil, WPs_rd, WPs_wr, WPs_call, WPs_callv, WPs_gd, RdK_some, WrK_some, CallK_ret, CallV_func, GdS_tt, GdS_tf, GdS_ft, GdS_ff, GdA_tt, GdA_tf, GdA_ft, GdA_ff, evR, lenV_slc, lenV_tail, lenV_str, iaV_slc, evX, AO.ev, Fr.put_some, Fr.put_none, Fr.at_set, Fr.at_ofArgs, List.getD_cons_zero, List.getD_cons_succ, List.getD_nil, binV, intOp, strOp, AV.cells, AHeap.cell_new, AHeap.range_new, AHeap.cell_old, AHeap.range_old, AHeap.get_new, AHeap.get_old, AHeap.put_new, AHeap.lt_new, AHeap.lt_alloc, AHeap.wf_alloc, AHeap.base_new, AHeap.base_alloc, evRVs, evRV, tup, List.map_cons, List.map_nil, List.cons_append, List.nil_append, List.append_nil, List.getElem?_cons_zero, List.getElem?_cons_succ, Nat.zero_add, Option.map_some, Option.map_none, if_true, if_false, ↓reduceIte, Bool.false_eq_true, eq_self, Bool.not_false, Bool.not_true, decide_true, decide_false, hb, Fo.av, cs0, cs1, cs2, cs3, cs_len, cs_take, List.drop_zero, one_f, splice_f, fillA_f, Nat.le_refl, and_self, Nat.add_zero, g0, g2, hI, hI0, Int.toNat_natCast, hfil, hg2, hbb2, hfit, hone, hc4, and_self, wrapN i (by omega)]
      exact ⟨⟨i + 1, splice cs' (i * 4) w.cs, hlti, hX.put hbb hlt2, by rw [AHeap.get_put _ _ _ _ hbb2 hlt2, if_pos rfl], by simp [splice, hc4]; omega, by trivial, by trivial⟩, by simp only [numOf]; omega⟩
    · have hI : ¬ (i : Int) < (n : Int) := by omega
      simp (decide := true) only [WP_skip, WP_ops, WP_seq, WP_block, WP_exit, WP_ret, WP_cond, CdC_true, CdC_false, seqQ_normal, seqQ_exit, seqQ_ret, seqQ_pan, blkQ_normal, blkQ_exit, blkQ_ret, blkQ_pan, bodyQ_ret, bodyQ_normal, bodyQ_pan, bodyK_some, WP_aops, WPa_nil, WPa_wr, WrA_new, CallA_new, WPa_rd, WPa_call, WPa_callv, WPa_gd, RdA_some, CallA_ret, WPs_nil, WPs_rd, WPs_wr, WPs_call, WPs_callv, WPs_gd, RdK_some, WrK_some, CallK_ret, CallV_func, GdS_tt, GdS_tf, GdS_ft, GdS_ff, GdA_tt, GdA_tf, GdA_ft, GdA_ff, evR, lenV_slc, lenV_tail, lenV_str, iaV_slc, evX, AO.ev, Fr.put_some, Fr.put_none, Fr.at_set, Fr.at_ofArgs, List.getD_cons_zero, List.getD_cons_succ, List.getD_nil, binV, intOp, strOp, AV.cells, AHeap.cell_new, AHeap.range_new, AHeap.cell_old, AHeap.range_old, AHeap.get_new, AHeap.get_old, AHeap.put_new, AHeap.lt_new, AHeap.lt_alloc, AHeap.wf_alloc, AHeap.base_new, AHeap.base_alloc, evRVs, evRV, tup, List.map_cons, List.map_nil, List.cons_append, List.nil_append, List.append_nil, List.getElem?_cons_zero, List.getElem?_cons_succ, Nat.zero_add, Option.map_some, Option.map_none, if_true, if_false, ↓reduceIte, Bool.false_eq_true, eq_self, Bool.not_false, Bool.not_true, decide_true, decide_false, hb, Fo.av, cs0, cs1, cs2, cs3, cs_len, cs_take, List.drop_zero, one_f, splice_f, fillA_f, Nat.le_refl, and_self, Nat.add_zero, g0, g2, hI]
      exact .this (h _ hX)
theorem f16n {H : AHeap} {Q : AE → AHeap → Prop} (h : Q (.ret (.tuple [])) H) : ACall Try.prog 16 [.slice none 0 (.inl 0)] H Q := by
  refine ACall.comp [] mixed (by decide +kernel) fun F hF' => ?_
  cbv at hF'
  cases hF'
  refine ⟨by simp, fun hb ha => ?_⟩
  simp (decide := true) only [WP_skip, WP_ops, WP_seq, WP_block, WP_exit, WP_ret, WP_cond, CdC_true, CdC_false, seqQ_normal, seqQ_exit, seqQ_ret, seqQ_pan, blkQ_normal, blkQ_exit, blkQ_ret, blkQ_pan, bodyQ_ret, bodyQ_normal, bodyQ_pan, bodyK_some, WP_aops, WPa_nil, WPa_wr, WrA_new, CallA_new, WPa_rd, WPa_call, WPa_callv, WPa_gd, RdA_some, CallA_ret, WPs_nil, WPs_rd, WPs_wr, WPs_call, WPs_callv, WPs_gd, RdK_some, WrK_some, CallK_ret, CallV_func, GdS_tt, GdS_tf, GdS_ft, GdS_ff, GdA_tt, GdA_tf, GdA_ft, GdA_ff, evR, lenV_slc, lenV_tail, lenV_str, iaV_slc, evX, AO.ev, Fr.put_some, Fr.put_none, Fr.at_set, Fr.at_ofArgs, List.getD_cons_zero, List.getD_cons_succ, List.getD_nil, binV, intOp, strOp, AV.cells, AHeap.cell_new, AHeap.range_new, AHeap.cell_old, AHeap.range_old, AHeap.get_new, AHeap.get_old, AHeap.put_new, AHeap.lt_new, AHeap.lt_alloc, AHeap.wf_alloc, AHeap.base_new, AHeap.base_alloc, evRVs, evRV, tup, List.map_cons, List.map_nil, List.cons_append, List.nil_append, List.append_nil, List.getElem?_cons_zero, List.getElem?_cons_succ, Nat.zero_add, Option.map_some, Option.map_none, if_true, if_false, ↓reduceIte, Bool.false_eq_true, eq_self, Bool.not_false, Bool.not_true, decide_true, decide_false, hb]
  refine WP_loop (fun t' H' => H' = H ∧ Fr.at t' 0 = .slice none 0 (.inl 0) ∧ Fr.at t' 2 = .int .i64 0) (fun t' _ => 0) ?_ ?_
  · simp (decide := true) only [WP_skip, WP_ops, WP_seq, WP_block, WP_exit, WP_ret, WP_cond, CdC_true, CdC_false, seqQ_normal, seqQ_exit, seqQ_ret, seqQ_pan, blkQ_normal, blkQ_exit, blkQ_ret, blkQ_pan, bodyQ_ret, bodyQ_normal, bodyQ_pan, bodyK_some, WP_aops, WPa_nil, WPa_wr, WrA_new, CallA_new, WPa_rd, WPa_call, WPa_callv, WPa_gd, RdA_some, CallA_ret, WPs_nil, WPs_rd, WPs_wr, WPs_call, WPs_callv, WPs_gd, RdK_some, WrK_some, CallK_ret, CallV_func, GdS_tt, GdS_tf, GdS_ft, GdS_ff, GdA_tt, GdA_tf, GdA_ft, GdA_ff, evR, lenV_slc, lenV_tail, lenV_str, iaV_slc, evX, AO.ev, Fr.put_some, Fr.put_none, Fr.at_set, Fr.at_ofArgs, List.getD_cons_zero, List.getD_cons_succ, List.getD_nil, binV, intOp, strOp, AV.cells, AHeap.cell_new, AHeap.range_new, AHeap.cell_old, AHeap.range_old, AHeap.get_new, AHeap.get_old, AHeap.put_new, AHeap.lt_new, AHeap.lt_alloc, AHeap.wf_alloc, AHeap.base_new, AHeap.base_alloc, evRVs, evRV, tup, List.map_cons, List.map_nil, List.cons_append, List.nil_append, List.append_nil, List.getElem?_cons_zero, List.getElem?_cons_succ, Nat.zero_add, Option.map_some, Option.map_none, if_true, if_false, ↓reduceIte, Bool.false_eq_true, eq_self, Bool.not_false, Bool.not_true, decide_true, decide_false, hb, and_self]
  · rintro t H2 ⟨rfl, g0, g2⟩
    have hI : ¬ (0 : Int) < 0 := by decide
    simp (decide := true) only [WP_skip, WP_ops, WP_seq, WP_block, WP_exit, WP_ret, WP_cond, CdC_true, CdC_false, seqQ_normal, seqQ_exit, seqQ_ret, seqQ_pan, blkQ_normal, blkQ_exit, blkQ_ret, blkQ_pan, bodyQ_ret, bodyQ_normal, bodyQ_pan, bodyK_some, WP_aops, WPa_nil, WPa_wr, WrA_new, CallA_new, WPa_rd, WPa_call, WPa_callv, WPa_gd, RdA_some, CallA_ret, WPs_nil, WPs_rd, WPs_wr, WPs_call, WPs_callv, WPs_gd, RdK_some, WrK_some, CallK_ret, CallV_func, GdS_tt, GdS_tf, GdS_ft, GdS_ff, GdA_tt, GdA_tf, GdA_ft, GdA_ff, evR, lenV_slc, lenV_tail, lenV_str, iaV_slc, evX, AO.ev, Fr.put_some, Fr.put_none, Fr.at_set, Fr.at_ofArgs, List.getD_cons_zero, List.getD_cons_succ, List.getD_nil, binV, intOp, strOp, AV.cells, AHeap.cell_new, AHeap.range_new, AHeap.cell_old, AHeap.range_old, AHeap.get_new, AHeap.get_old, AHeap.put_new, AHeap.lt_new, AHeap.lt_alloc, AHeap.wf_alloc, AHeap.base_new, AHeap.base_alloc, evRVs, evRV, tup, List.map_cons, List.map_nil, List.cons_append, List.nil_append, List.append_nil, List.getElem?_cons_zero, List.getElem?_cons_succ, Nat.zero_add, Option.map_some, Option.map_none, if_true, if_false, ↓reduceIte, Bool.false_eq_true, eq_self, Bool.not_false, Bool.not_true, decide_true, decide_false, hb, g0, g2, Int.natCast_zero, hI]
    exact .this h
def blkOf : AV → Option Nat
  | .slice (some p) _ _ => some p.1
  | _ => none
/-- None, or the beginning of a block of one's own from lo on. -/
def SpO (lo : Nat) (H : AHeap) (v : AV) (w : List Fo) : Prop :=
  (w = [] ∧ v = .slice none 0 (.inl 0)) ∨ ∃ b cs, lo ≤ b ∧ b < H.next ∧ v = .slice (some (b, 0)) w.length (.inr 0) ∧ H.get b = some (.cells cs (some 4)) ∧ w.length * 4 ≤ cs.length
theorem SpO.keep {lo : Nat} {H H' : AHeap} {v : AV} {w : List Fo} (h : SpO lo H v w) (hn : H.next ≤ H'.next) (hg : ∀ i, lo ≤ i → i < H.next → H'.get i = H.get i) : SpO lo H' v w := by
  rcases h with h | ⟨b, cs, b1, b2, b3, b4, b5⟩
  · exact .inl h
  · exact .inr ⟨b, cs, b1, Nat.lt_of_lt_of_le b2 hn, b3, by rw [hg b b1 b2]; exact b4, b5⟩
theorem SpO.blk {lo : Nat} {H : AHeap} {v : AV} {w : List Fo} (h : SpO lo H v w) {b : Nat} (hb : blkOf v = some b) : lo ≤ b ∧ b < H.next := by
  rcases h with ⟨_, rfl⟩ | ⟨b', cs, b1, b2, rfl, b4, b5⟩
  · cases hb
  · cases hb; exact ⟨b1, b2⟩
theorem f16g {lo : Nat} {H : AHeap} (hb : H.WF) (hlo : H.base ≤ lo) {Q : AE → AHeap → Prop} {v : AV} {w : List Fo} (hS : SpO lo H v w) (hw : w.length ≤ 1000)
    (h : ∀ H', H'.base = H.base → H.next ≤ H'.next → (∀ i, i < H.next → blkOf v ≠ some i → H'.get i = H.get i) → Q (.ret (.tuple [])) H') : ACall Try.prog 16 [v] H Q := by
  rcases hS with ⟨_, rfl⟩ | ⟨b, cs, b1, b2, rfl, b3, b4⟩
  · exact f16n (h H rfl (Nat.le_refl _) fun _ _ _ => rfl)
  · refine f16 hb (Nat.le_trans hlo b1) b2 b3 b4 hw fun H' hX => ?_
    exact h H' hX.base hX.next fun i hi hne => hX.get i hi fun e => hne (e ▸ rfl)
/-- What was read before is read where what it is read off stands. -/
theorem FV.of_get {H H' : AHeap} {v : AV} {l : List Fo} (h : FV H v l) (hb : H.WF) (hg : ∀ i, i < H.next → H'.get i = H.get i) : FV H' v l :=
  ⟨h.le, lenV_any h.len, fun i hi => by
    obtain ⟨a, h1, h2⟩ := h.elem i hi
    refine ⟨a, h1, ?_⟩
    rw [AHeap.range_of_get (hg _ (AHeap.lt_of_range hb h2))]; exact h2⟩
end Go.AM
