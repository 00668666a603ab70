/- Folders: what the document tells of the first folders. -/
import Derived.Test.YtjfjmlglgdhkoaaFdDr
namespace Go.AM
open Go Go.Proofs
set_option linter.unusedSimpArgs false
set_option linter.unusedVariables false
set_option maxRecDepth 100000
set_option maxHeartbeats 8000000

/-- The first folder, and those that are tried. -/
def fo1 : Fo := ⟨1, 0, ⟨⟨[67, 111, 110, 116, 97, 99, 116, 115]⟩⟩, 0⟩
def fo2 : Fo := ⟨2, 1, ⟨⟨[87, 111, 114, 107]⟩⟩, 0⟩
def fo3 : Fo := ⟨3, 1, ⟨⟨[87, 111, 114, 107]⟩⟩, 0⟩
def fo4 : Fo := ⟨3, 9, ⟨⟨[88]⟩⟩, 0⟩
def fo5 : Fo := ⟨2, 2, ⟨⟨[87, 111, 114, 107]⟩⟩, 0⟩
theorem lv1 : addE [fo1] fo2 = 0 ∧ withF [fo1] fo2 = [fo1, fo2] ∧ addE [fo1, fo2] fo3 = 8 ∧ addE [fo1, fo2] fo4 = 7 ∧ moveE [fo1, fo2] fo5 = 2 ∧ dropE [fo1, fo2] 2 = 0 ∧ goneF [fo1, fo2] 2 = [2] := by decide +kernel

def zs : List AV := [.int .u32 0, .int .u32 0, .str ⟨⟨[]⟩⟩, .int .u64 0]
theorem fi1 : fillA [.int .u32 0, .int .u32 0, .str ⟨⟨[]⟩⟩, .int .u64 0] [(0, 1, .int .u32 1), (2, 1, .str ⟨⟨[67, 111, 110, 116, 97, 99, 116, 115]⟩⟩)] = some fo1.cs := rfl
theorem fi2 : fillA [.int .u32 0, .int .u32 0, .str ⟨⟨[]⟩⟩, .int .u64 0] [(0, 1, .int .u32 2), (1, 1, .int .u32 1), (2, 1, .str ⟨⟨[87, 111, 114, 107]⟩⟩)] = some fo2.cs := rfl
theorem fi3 : fillA [.int .u32 0, .int .u32 0, .str ⟨⟨[]⟩⟩, .int .u64 0] [(0, 1, .int .u32 3), (1, 1, .int .u32 1), (2, 1, .str ⟨⟨[87, 111, 114, 107]⟩⟩)] = some fo3.cs := rfl
theorem fi4 : fillA [.int .u32 0, .int .u32 0, .str ⟨⟨[]⟩⟩, .int .u64 0] [(0, 1, .int .u32 3), (1, 1, .int .u32 9), (2, 1, .str ⟨⟨[88]⟩⟩)] = some fo4.cs := rfl
theorem fi5 : fillA [.int .u32 0, .int .u32 0, .str ⟨⟨[]⟩⟩, .int .u64 0] [(0, 1, .int .u32 2), (1, 1, .int .u32 2), (2, 1, .str ⟨⟨[87, 111, 114, 107]⟩⟩)] = some fo5.cs := rfl
theorem fir (f : Fo) : fillA [.int .u32 0, .int .u32 0, .str ⟨⟨[]⟩⟩, .int .u64 0] [(0, 4, .agg f.cs)] = some f.cs := rfl
theorem fi6 : fillA [.int .u32 0] [(0, 1, .int .u32 2)] = some (idsA [2]) := rfl
theorem onecs (f : Fo) : f.cs.all (·.one) = true := rfl

theorem f17 {H : AHeap} {Q : AE → AHeap → Prop} (h : Q (.ret (.slice (some (H.next, 0)) 1 (.inl 1))) (H.alloc (.cells ([fo1].flatMap Fo.cs) none))) : ACall Try.prog 17 [] H Q := by
  refine ACall.comp [] mixed (by decide +kernel) fun F hF' => ?_
  cbv at hF'
  cases hF'
  refine ⟨by simp, fun hb ha => ?_⟩
  simp (decide := true) only [WP_skip, WP_ops, WP_seq, WP_block, WP_exit, WP_ret, WP_cond, CdC_true, CdC_false, seqQ_normal, seqQ_exit, seqQ_ret, seqQ_pan, blkQ_normal, blkQ_exit, blkQ_ret, blkQ_pan, bodyQ_ret, bodyQ_normal, bodyQ_pan, bodyK_some, WP_aops, WPa_nil, WPa_wr, WrA_new, CallA_new, WPa_rd, WPa_call, WPa_callv, WPa_gd, RdA_some, CallA_ret, WPs_nil, WPs_rd, WPs_wr, WPs_call, WPs_callv, WPs_gd, RdK_some, WrK_some, CallK_ret, CallV_func, GdS_tt, GdS_tf, GdS_ft, GdS_ff, GdA_tt, GdA_tf, GdA_ft, GdA_ff, evR, lenV_slc, lenV_tail, lenV_str, iaV_slc, evX, AO.ev, Fr.put_some, Fr.put_none, Fr.at_set, Fr.at_ofArgs, List.getD_cons_zero, List.getD_cons_succ, List.getD_nil, binV, intOp, strOp, AV.cells, AHeap.cell_new, AHeap.range_new, AHeap.cell_old, AHeap.range_old, AHeap.get_new, AHeap.get_old, AHeap.put_new, AHeap.lt_new, AHeap.lt_alloc, AHeap.wf_alloc, AHeap.base_new, AHeap.base_alloc, evRVs, evRV, tup, List.map_cons, List.map_nil, List.cons_append, List.nil_append, List.append_nil, List.getElem?_cons_zero, List.getElem?_cons_succ, Nat.zero_add, Option.map_some, Option.map_none, if_true, if_false, ↓reduceIte, Bool.false_eq_true, eq_self, Bool.not_false, Bool.not_true, decide_true, decide_false, hb, fi1, fir, onecs]
  exact .row (.new hb) (Nat.le_refl _) (AHeap.get_new hb) (okL_cs _ [fo1]) h

theorem riseL_one {gone : List Int} {x : Int} (h : gone.Perm [x]) : gone = [x] := List.perm_singleton.1 h
theorem fo_ok : fo1.ok ∧ fo2.ok ∧ fo3.ok ∧ fo4.ok ∧ fo5.ok := by simp [Fo.ok, fo1, fo2, fo3, fo4, fo5]

theorem f7 {H : AHeap} {Q : AE → AHeap → Prop} (h : Q (.ret (.bool true)) H) : ACall Try.prog 7 [] H Q := by
  obtain ⟨v1, v2, v3, v4, v5, v6, v7⟩ := lv1
  obtain ⟨o1, o2, o3, o4, o5⟩ := fo_ok
  refine ACall.comp [] mixed (by decide +kernel) fun F hF' => ?_
  cbv at hF'
  cases hF'
  refine ⟨by simp, fun hb ha => ?_⟩
  simp (decide := true) only [WP_skip, WP_ops, WP_seq, WP_block, WP_exit, WP_ret, WP_cond, CdC_true, CdC_false, seqQ_normal, seqQ_exit, seqQ_ret, seqQ_pan, blkQ_normal, blkQ_exit, blkQ_ret, blkQ_pan, bodyQ_ret, bodyQ_normal, bodyQ_pan, bodyK_some, WP_aops, WPa_nil, WPa_wr, WrA_new, CallA_new, WPa_rd, WPa_call, WPa_callv, WPa_gd, RdA_some, CallA_ret, WPs_nil, WPs_rd, WPs_wr, WPs_call, WPs_callv, WPs_gd, RdK_some, WrK_some, CallK_ret, CallV_func, GdS_tt, GdS_tf, GdS_ft, GdS_ff, GdA_tt, GdA_tf, GdA_ft, GdA_ff, evR, lenV_slc, lenV_tail, lenV_str, iaV_slc, evX, AO.ev, Fr.put_some, Fr.put_none, Fr.at_set, Fr.at_ofArgs, List.getD_cons_zero, List.getD_cons_succ, List.getD_nil, binV, intOp, strOp, AV.cells, AHeap.cell_new, AHeap.range_new, AHeap.cell_old, AHeap.range_old, AHeap.get_new, AHeap.get_old, AHeap.put_new, AHeap.lt_new, AHeap.lt_alloc, AHeap.wf_alloc, AHeap.base_new, AHeap.base_alloc, evRVs, evRV, tup, List.map_cons, List.map_nil, List.cons_append, List.nil_append, List.append_nil, List.getElem?_cons_zero, List.getElem?_cons_succ, Nat.zero_add, Option.map_some, Option.map_none, if_true, if_false, ↓reduceIte, Bool.false_eq_true, eq_self, Bool.not_false, Bool.not_true, decide_true, decide_false, hb]
  refine f17 ?_
  have hz : ∀ f : Fo, AV.agg f.cs = f.av := fun _ => rfl
  have hb1 := AHeap.wf_alloc hb (b := .cells ([fo1].flatMap Fo.cs) none)
  have hF1 : FS (H.alloc (.cells ([fo1].flatMap Fo.cs) none)) (H.next, 0) [fo1] := FS.new hb (by simp)
  have hle1 := AHeap.Le.new hb (b := .cells ([fo1].flatMap Fo.cs) none)
  generalize hH1 : H.alloc (.cells ([fo1].flatMap Fo.cs) none) = H1 at *
  simp (decide := true) only [WP_skip, WP_ops, WP_seq, WP_block, WP_exit, WP_ret, WP_cond, CdC_true, CdC_false, seqQ_normal, seqQ_exit, seqQ_ret, seqQ_pan, blkQ_normal, blkQ_exit, blkQ_ret, blkQ_pan, bodyQ_ret, bodyQ_normal, bodyQ_pan, bodyK_some, WP_aops, WPa_nil, WPa_wr, WrA_new, CallA_new, WPa_rd, WPa_call, WPa_callv, WPa_gd, RdA_some, CallA_ret, WPs_nil, WPs_rd, WPs_wr, WPs_call, WPs_callv, WPs_gd, RdK_some, WrK_some, CallK_ret, CallV_func, GdS_tt, GdS_tf, GdS_ft, GdS_ff, GdA_tt, GdA_tf, GdA_ft, GdA_ff, evR, lenV_slc, lenV_tail, lenV_str, iaV_slc, evX, AO.ev, Fr.put_some, Fr.put_none, Fr.at_set, Fr.at_ofArgs, List.getD_cons_zero, List.getD_cons_succ, List.getD_nil, binV, intOp, strOp, AV.cells, AHeap.cell_new, AHeap.range_new, AHeap.cell_old, AHeap.range_old, AHeap.get_new, AHeap.get_old, AHeap.put_new, AHeap.lt_new, AHeap.lt_alloc, AHeap.wf_alloc, AHeap.base_new, AHeap.base_alloc, evRVs, evRV, tup, List.map_cons, List.map_nil, List.cons_append, List.nil_append, List.append_nil, List.getElem?_cons_zero, List.getElem?_cons_succ, Nat.zero_add, Option.map_some, Option.map_none, if_true, if_false, ↓reduceIte, Bool.false_eq_true, eq_self, Bool.not_false, Bool.not_true, decide_true, decide_false, hb, fi2, hz]
  refine f8 (l := [fo1]) (f := fo2) rfl hF1 (show SC H1 4 (H.next, 0) 1 (.inl 1) from Nat.le_refl 1) (by simp [o1]) o2 ?_
  rw [if_pos v1, v2]
  have hb2 := AHeap.wf_alloc hb1 (b := .cells ([fo1, fo2].flatMap Fo.cs) (some 4))
  have hF2 : FS (H1.alloc (.cells ([fo1, fo2].flatMap Fo.cs) (some 4))) (H1.next, 0) [fo1, fo2] := FS.new hb1 (by simp)
  have hle2 := hle1.trans (AHeap.Le.new hb1 (b := .cells ([fo1, fo2].flatMap Fo.cs) (some 4)))
  have hC2 : SC (H1.alloc (.cells ([fo1, fo2].flatMap Fo.cs) (some 4))) 4 (H1.next, 0) 2 (.inr 0) := ⟨_, AHeap.get_new hb1, rfl, by simp [Fo.cs]⟩
  have hok2 : ∀ f ∈ [fo1, fo2], f.ok := by simp [o1, o2]
  generalize hH2 : H1.alloc (.cells ([fo1, fo2].flatMap Fo.cs) (some 4)) = H2 at *
  simp (decide := true) only [WP_skip, WP_ops, WP_seq, WP_block, WP_exit, WP_ret, WP_cond, CdC_true, CdC_false, seqQ_normal, seqQ_exit, seqQ_ret, seqQ_pan, blkQ_normal, blkQ_exit, blkQ_ret, blkQ_pan, bodyQ_ret, bodyQ_normal, bodyQ_pan, bodyK_some, WP_aops, WPa_nil, WPa_wr, WrA_new, CallA_new, WPa_rd, WPa_call, WPa_callv, WPa_gd, RdA_some, CallA_ret, WPs_nil, WPs_rd, WPs_wr, WPs_call, WPs_callv, WPs_gd, RdK_some, WrK_some, CallK_ret, CallV_func, GdS_tt, GdS_tf, GdS_ft, GdS_ff, GdA_tt, GdA_tf, GdA_ft, GdA_ff, evR, lenV_slc, lenV_tail, lenV_str, iaV_slc, evX, AO.ev, Fr.put_some, Fr.put_none, Fr.at_set, Fr.at_ofArgs, List.getD_cons_zero, List.getD_cons_succ, List.getD_nil, binV, intOp, strOp, AV.cells, AHeap.cell_new, AHeap.range_new, AHeap.cell_old, AHeap.range_old, AHeap.get_new, AHeap.get_old, AHeap.put_new, AHeap.lt_new, AHeap.lt_alloc, AHeap.wf_alloc, AHeap.base_new, AHeap.base_alloc, evRVs, evRV, tup, List.map_cons, List.map_nil, List.cons_append, List.nil_append, List.append_nil, List.getElem?_cons_zero, List.getElem?_cons_succ, Nat.zero_add, Option.map_some, Option.map_none, if_true, if_false, ↓reduceIte, Bool.false_eq_true, eq_self, Bool.not_false, Bool.not_true, decide_true, decide_false, hb, fi3, hz]
  refine f8 (l := [fo1, fo2]) (f := fo3) rfl hF2 hC2 hok2 o3 ?_
  rw [v3, if_neg (by decide)]
  simp (decide := true) only [WP_skip, WP_ops, WP_seq, WP_block, WP_exit, WP_ret, WP_cond, CdC_true, CdC_false, seqQ_normal, seqQ_exit, seqQ_ret, seqQ_pan, blkQ_normal, blkQ_exit, blkQ_ret, blkQ_pan, bodyQ_ret, bodyQ_normal, bodyQ_pan, bodyK_some, WP_aops, WPa_nil, WPa_wr, WrA_new, CallA_new, WPa_rd, WPa_call, WPa_callv, WPa_gd, RdA_some, CallA_ret, WPs_nil, WPs_rd, WPs_wr, WPs_call, WPs_callv, WPs_gd, RdK_some, WrK_some, CallK_ret, CallV_func, GdS_tt, GdS_tf, GdS_ft, GdS_ff, GdA_tt, GdA_tf, GdA_ft, GdA_ff, evR, lenV_slc, lenV_tail, lenV_str, iaV_slc, evX, AO.ev, Fr.put_some, Fr.put_none, Fr.at_set, Fr.at_ofArgs, List.getD_cons_zero, List.getD_cons_succ, List.getD_nil, binV, intOp, strOp, AV.cells, AHeap.cell_new, AHeap.range_new, AHeap.cell_old, AHeap.range_old, AHeap.get_new, AHeap.get_old, AHeap.put_new, AHeap.lt_new, AHeap.lt_alloc, AHeap.wf_alloc, AHeap.base_new, AHeap.base_alloc, evRVs, evRV, tup, List.map_cons, List.map_nil, List.cons_append, List.nil_append, List.append_nil, List.getElem?_cons_zero, List.getElem?_cons_succ, Nat.zero_add, Option.map_some, Option.map_none, if_true, if_false, ↓reduceIte, Bool.false_eq_true, eq_self, Bool.not_false, Bool.not_true, decide_true, decide_false, hb, fi4, hz]
  refine f8 (l := [fo1, fo2]) (f := fo4) rfl hF2 hC2 hok2 o4 ?_
  rw [v4, if_neg (by decide)]
  simp (decide := true) only [WP_skip, WP_ops, WP_seq, WP_block, WP_exit, WP_ret, WP_cond, CdC_true, CdC_false, seqQ_normal, seqQ_exit, seqQ_ret, seqQ_pan, blkQ_normal, blkQ_exit, blkQ_ret, blkQ_pan, bodyQ_ret, bodyQ_normal, bodyQ_pan, bodyK_some, WP_aops, WPa_nil, WPa_wr, WrA_new, CallA_new, WPa_rd, WPa_call, WPa_callv, WPa_gd, RdA_some, CallA_ret, WPs_nil, WPs_rd, WPs_wr, WPs_call, WPs_callv, WPs_gd, RdK_some, WrK_some, CallK_ret, CallV_func, GdS_tt, GdS_tf, GdS_ft, GdS_ff, GdA_tt, GdA_tf, GdA_ft, GdA_ff, evR, lenV_slc, lenV_tail, lenV_str, iaV_slc, evX, AO.ev, Fr.put_some, Fr.put_none, Fr.at_set, Fr.at_ofArgs, List.getD_cons_zero, List.getD_cons_succ, List.getD_nil, binV, intOp, strOp, AV.cells, AHeap.cell_new, AHeap.range_new, AHeap.cell_old, AHeap.range_old, AHeap.get_new, AHeap.get_old, AHeap.put_new, AHeap.lt_new, AHeap.lt_alloc, AHeap.wf_alloc, AHeap.base_new, AHeap.base_alloc, evRVs, evRV, tup, List.map_cons, List.map_nil, List.cons_append, List.nil_append, List.append_nil, List.getElem?_cons_zero, List.getElem?_cons_succ, Nat.zero_add, Option.map_some, Option.map_none, if_true, if_false, ↓reduceIte, Bool.false_eq_true, eq_self, Bool.not_false, Bool.not_true, decide_true, decide_false, hb, fi5, hz]
  refine f11 (l := [fo1, fo2]) (f := fo5) rfl hF2 ?_
  rw [v5, if_neg (by decide)]
  simp (decide := true) only [WP_skip, WP_ops, WP_seq, WP_block, WP_exit, WP_ret, WP_cond, CdC_true, CdC_false, seqQ_normal, seqQ_exit, seqQ_ret, seqQ_pan, blkQ_normal, blkQ_exit, blkQ_ret, blkQ_pan, bodyQ_ret, bodyQ_normal, bodyQ_pan, bodyK_some, WP_aops, WPa_nil, WPa_wr, WrA_new, CallA_new, WPa_rd, WPa_call, WPa_callv, WPa_gd, RdA_some, CallA_ret, WPs_nil, WPs_rd, WPs_wr, WPs_call, WPs_callv, WPs_gd, RdK_some, WrK_some, CallK_ret, CallV_func, GdS_tt, GdS_tf, GdS_ft, GdS_ff, GdA_tt, GdA_tf, GdA_ft, GdA_ff, evR, lenV_slc, lenV_tail, lenV_str, iaV_slc, evX, AO.ev, Fr.put_some, Fr.put_none, Fr.at_set, Fr.at_ofArgs, List.getD_cons_zero, List.getD_cons_succ, List.getD_nil, binV, intOp, strOp, AV.cells, AHeap.cell_new, AHeap.range_new, AHeap.cell_old, AHeap.range_old, AHeap.get_new, AHeap.get_old, AHeap.put_new, AHeap.lt_new, AHeap.lt_alloc, AHeap.wf_alloc, AHeap.base_new, AHeap.base_alloc, evRVs, evRV, tup, List.map_cons, List.map_nil, List.cons_append, List.nil_append, List.append_nil, List.getElem?_cons_zero, List.getElem?_cons_succ, Nat.zero_add, Option.map_some, Option.map_none, if_true, if_false, ↓reduceIte, Bool.false_eq_true, eq_self, Bool.not_false, Bool.not_true, decide_true, decide_false, hb]
  refine f13 (l := [fo1, fo2]) rfl hF2 (fun hne => absurd v6 hne) (fun _ H3 bo bg cs gone hle3 hbo hbg hperm hrise hNB hgo hbo3 hcl hct => ?_)
  rw [v7] at hperm
  have hg := riseL_one hperm
  subst hg
  have hb3 := hle3.wf hb2
  have hfl : (List.filter (fun f => !List.any [2] fun y => f.id == y) [fo1, fo2]).length = 1 := by decide
  rw [hfl]
  have e1 : (((1 : Nat) : Int) == 1) = true := rfl
  simp (decide := true) only [WP_skip, WP_ops, WP_seq, WP_block, WP_exit, WP_ret, WP_cond, CdC_true, CdC_false, seqQ_normal, seqQ_exit, seqQ_ret, seqQ_pan, blkQ_normal, blkQ_exit, blkQ_ret, blkQ_pan, bodyQ_ret, bodyQ_normal, bodyQ_pan, bodyK_some, WP_aops, WPa_nil, WPa_wr, WrA_new, CallA_new, WPa_rd, WPa_call, WPa_callv, WPa_gd, RdA_some, CallA_ret, WPs_nil, WPs_rd, WPs_wr, WPs_call, WPs_callv, WPs_gd, RdK_some, WrK_some, CallK_ret, CallV_func, GdS_tt, GdS_tf, GdS_ft, GdS_ff, GdA_tt, GdA_tf, GdA_ft, GdA_ff, evR, lenV_slc, lenV_tail, lenV_str, iaV_slc, evX, AO.ev, Fr.put_some, Fr.put_none, Fr.at_set, Fr.at_ofArgs, List.getD_cons_zero, List.getD_cons_succ, List.getD_nil, binV, intOp, strOp, AV.cells, AHeap.cell_new, AHeap.range_new, AHeap.cell_old, AHeap.range_old, AHeap.get_new, AHeap.get_old, AHeap.put_new, AHeap.lt_new, AHeap.lt_alloc, AHeap.wf_alloc, AHeap.base_new, AHeap.base_alloc, evRVs, evRV, tup, List.map_cons, List.map_nil, List.cons_append, List.nil_append, List.append_nil, List.getElem?_cons_zero, List.getElem?_cons_succ, Nat.zero_add, Option.map_some, Option.map_none, if_true, if_false, ↓reduceIte, Bool.false_eq_true, eq_self, Bool.not_false, Bool.not_true, decide_true, decide_false, hb, hb3, fi6, e1, beq_self_eq_true, List.length_cons, List.length_nil]
  refine f15 (la := [2]) (lb := [2]) ?_ ?_ ?_
  · have hI : IS (H3.alloc (.cells (idsA [2]) none)) (bg, 0) [2] := IS.trans ⟨hNB.lt, by simp, by rw [AHeap.range_of hNB.get, if_pos (by simp [idsA]), List.drop_zero, List.take_of_length_le (by simp [idsA])]⟩ (.new hb3)
    exact hI.iv
  · exact (IS.new hb3 (by simp)).iv
  simp (decide := true) only [WP_skip, WP_ops, WP_seq, WP_block, WP_exit, WP_ret, WP_cond, CdC_true, CdC_false, seqQ_normal, seqQ_exit, seqQ_ret, seqQ_pan, blkQ_normal, blkQ_exit, blkQ_ret, blkQ_pan, bodyQ_ret, bodyQ_normal, bodyQ_pan, bodyK_some, WP_aops, WPa_nil, WPa_wr, WrA_new, CallA_new, WPa_rd, WPa_call, WPa_callv, WPa_gd, RdA_some, CallA_ret, WPs_nil, WPs_rd, WPs_wr, WPs_call, WPs_callv, WPs_gd, RdK_some, WrK_some, CallK_ret, CallV_func, GdS_tt, GdS_tf, GdS_ft, GdS_ff, GdA_tt, GdA_tf, GdA_ft, GdA_ff, evR, lenV_slc, lenV_tail, lenV_str, iaV_slc, evX, AO.ev, Fr.put_some, Fr.put_none, Fr.at_set, Fr.at_ofArgs, List.getD_cons_zero, List.getD_cons_succ, List.getD_nil, binV, intOp, strOp, AV.cells, AHeap.cell_new, AHeap.range_new, AHeap.cell_old, AHeap.range_old, AHeap.get_new, AHeap.get_old, AHeap.put_new, AHeap.lt_new, AHeap.lt_alloc, AHeap.wf_alloc, AHeap.base_new, AHeap.base_alloc, evRVs, evRV, tup, List.map_cons, List.map_nil, List.cons_append, List.nil_append, List.append_nil, List.getElem?_cons_zero, List.getElem?_cons_succ, Nat.zero_add, Option.map_some, Option.map_none, if_true, if_false, ↓reduceIte, Bool.false_eq_true, eq_self, Bool.not_false, Bool.not_true, decide_true, decide_false, hb]
  exact .same ((hle2.trans hle3).trans (.new hb3)) trivial h
end Go.AM
