/- Queues: what the statements' lives comes to. -/
import Derived.Test.YthjeldlbjhjgfaaGreatPiM
namespace Go.AM
open Go Go.Proofs
set_option linter.unusedSimpArgs false
set_option linter.unusedVariables false
set_option maxRecDepth 100000
set_option maxHeartbeats 8000000

def sv0s : List AV := [.int .i64 0, .int .u32 0, .int .u32 0, .int .u64 0, .slice none 0 (.inl 0), .slice none 0 (.inl 0), .int .u32 0, .int .u32 0, .int .u32 0, .bool false, .int .u32 0, .int .u32 0, .int .u32 0, .bool false, .int .u32 0, .int .u32 0, .int .u32 0, .bool false, .int .u32 0, .int .u32 0, .int .u32 0, .bool false, .slice none 0 (.inl 0)]
theorem sv0s_len : 23 ≤ sv0s.length := by decide
theorem may0_new (n : Int) (fb : Nat) (h1 : 1 ≤ n) (h2 : n ≤ 40) : may0 (newSv n fb) [coFo] = true := by
  have e : (mayF [coFo] && [coFo].all (lastB (newSv 3 0))) = true := by decide +kernel
  simp only [may0, newSv, h1, h2, decide_true, Bool.true_and]
  exact e
theorem due_three : dueL (fun _ => true) [1, 9, 1] [] = [1, 9] := by decide
theorem FS.one {H : AHeap} {fb : Nat} (hlt : fb < H.next) (hg : H.get fb = some (.cells coFo.cs none)) : FS H (fb, 0) [coFo] := ⟨hlt, by simp, by rw [AHeap.range_of hg]; rfl⟩
/-- What is due of a new state. -/
theorem f9new {H : AHeap} {Q : AE → AHeap → Prop} {k : Int} {fb : Nat} (h1 : 1 ≤ k) (h2 : k ≤ 40) (hlt : fb < H.next) (hg : H.get fb = some (.cells coFo.cs none)) {n : Int} {v : AV} {L : List Int} (hv : IV H v L) (hvk : v.ok H.next) (hst : ∀ H', H.Le H' → IV H' v L)
    (h : rowQ H Q (if devB n then dueL (fun _ => true) L [] else [])) : ACall Tryz.prog 9 [.agg (newSv k fb).cs, .int .i64 n, v] H Q := by
  refine f9 (newSv_good k fb).ln true (fun _ => true) hv hvk hst (fun H' Q' hle hQ' => ?_) (fun H' Q' x hle _ hQ' => ?_) (by simpa using h)
  · have := may0_new k fb h1 h2
    refine f21n (newSv_good k fb) (p := (fb, 0)) (l := [coFo]) (c := .inl 1) rfl ((FS.one hlt hg).trans hle) rfl rfl ?_
    rw [this]; exact hQ'
  · exact f23n (newSv_good k fb) (p := (fb, 0)) (l := [coFo]) (c := .inl 1) rfl ((FS.one hlt hg).trans hle) rfl rfl hQ'

theorem f7 {H : AHeap} {Q : AE → AHeap → Prop} (h : Q (.ret (.bool true)) H) : ACall Tryz.prog 7 [] H Q := by
  refine ACall.comp [] mixed (by decide +kernel) fun F hF' => ?_
  cbv at hF'
  cases hF'
  refine ⟨by simp, fun hb ha => ?_⟩
  simp (decide := true) only [WP_skip, WP_ops, WP_seq, WP_block, WP_exit, WP_ret, WP_cond, CdC_true, CdC_false, seqQ_normal, seqQ_exit, seqQ_ret, seqQ_pan, blkQ_normal, blkQ_exit, blkQ_ret, blkQ_pan, bodyQ_ret, bodyQ_normal, bodyQ_pan, bodyK_some, WP_aops, WPa_nil, WPa_wr, WrA_new, CallA_new, WPa_rd, WPa_call, WPa_callv, WPa_gd, RdA_some, CallA_ret, WPs_nil, WPs_rd, WPs_wr, WPs_call, WPs_callv, WPs_gd, RdK_some, WrK_some, CallK_ret, CallV_func, GdS_tt, GdS_tf, GdS_ft, GdS_ff, GdA_tt, GdA_tf, GdA_ft, GdA_ff, evR, lenV_slc, lenV_tail, lenV_str, iaV_slc, evX, AO.ev, Fr.put_some, Fr.put_none, Fr.at_set, Fr.at_ofArgs, List.getD_cons_zero, List.getD_cons_succ, List.getD_nil, binV, intOp, strOp, AV.cells, AHeap.cell_new, AHeap.range_new, AHeap.cell_old, AHeap.range_old, AHeap.get_new, AHeap.get_old, AHeap.put_new, AHeap.lt_new, AHeap.lt_alloc, AHeap.wf_alloc, AHeap.base_new, AHeap.base_alloc, evRVs, evRV, tup, List.map_cons, List.map_nil, List.cons_append, List.nil_append, List.append_nil, List.getElem?_cons_zero, List.getElem?_cons_succ, Nat.zero_add, Option.map_some, Option.map_none, if_true, if_false, ↓reduceIte, Bool.false_eq_true, eq_self, Bool.not_false, Bool.not_true, decide_true, decide_false, Option.isNone_none, Option.isNone_some, WPs_nxt, CallV_yield, hb]
  refine f5 fun H1 hle1 hn1 hgm hgq => ?_
  have hb1 := hle1.wf hb
  simp (decide := true) only [WP_skip, WP_ops, WP_seq, WP_block, WP_exit, WP_ret, WP_cond, CdC_true, CdC_false, seqQ_normal, seqQ_exit, seqQ_ret, seqQ_pan, blkQ_normal, blkQ_exit, blkQ_ret, blkQ_pan, bodyQ_ret, bodyQ_normal, bodyQ_pan, bodyK_some, WP_aops, WPa_nil, WPa_wr, WrA_new, CallA_new, WPa_rd, WPa_call, WPa_callv, WPa_gd, RdA_some, CallA_ret, WPs_nil, WPs_rd, WPs_wr, WPs_call, WPs_callv, WPs_gd, RdK_some, WrK_some, CallK_ret, CallV_func, GdS_tt, GdS_tf, GdS_ft, GdS_ff, GdA_tt, GdA_tf, GdA_ft, GdA_ff, evR, lenV_slc, lenV_tail, lenV_str, iaV_slc, evX, AO.ev, Fr.put_some, Fr.put_none, Fr.at_set, Fr.at_ofArgs, List.getD_cons_zero, List.getD_cons_succ, List.getD_nil, binV, intOp, strOp, AV.cells, AHeap.cell_new, AHeap.range_new, AHeap.cell_old, AHeap.range_old, AHeap.get_new, AHeap.get_old, AHeap.put_new, AHeap.lt_new, AHeap.lt_alloc, AHeap.wf_alloc, AHeap.base_new, AHeap.base_alloc, evRVs, evRV, tup, List.map_cons, List.map_nil, List.cons_append, List.nil_append, List.append_nil, List.getElem?_cons_zero, List.getElem?_cons_succ, Nat.zero_add, Option.map_some, Option.map_none, if_true, if_false, ↓reduceIte, Bool.false_eq_true, eq_self, Bool.not_false, Bool.not_true, decide_true, decide_false, Option.isNone_none, Option.isNone_some, WPs_nxt, CallV_yield, hb]
  refine f19 (by omega) (by omega) fun H2 fb hle2 hf1 hf2 hfg => ?_
  have hb2 := hle2.wf hb1
  have q4 := (newSv_good 3 fb).ln
  have q5 : splice [.int .i64 0, .int .u32 0, .int .u32 0, .int .u64 0, .slice none 0 (.inl 0), .slice none 0 (.inl 0), .int .u32 0, .int .u32 0, .int .u32 0, .bool false, .int .u32 0, .int .u32 0, .int .u32 0, .bool false, .int .u32 0, .int .u32 0, .int .u32 0, .bool false, .int .u32 0, .int .u32 0, .int .u32 0, .bool false, .slice none 0 (.inl 0)] 0 (newSv 3 fb).cs = (newSv 3 fb).cs := (newSv_good 3 fb).sp
  have q6 := (newSv_good 3 fb).one
  have q8 : 0 + 23 ≤ ([.int .i64 0, .int .u32 0, .int .u32 0, .int .u64 0, .slice none 0 (.inl 0), .slice none 0 (.inl 0), .int .u32 0, .int .u32 0, .int .u32 0, .bool false, .int .u32 0, .int .u32 0, .int .u32 0, .bool false, .int .u32 0, .int .u32 0, .int .u32 0, .bool false, .int .u32 0, .int .u32 0, .int .u32 0, .bool false, .slice none 0 (.inl 0)] : List AV).length := by decide
  have gb2 : H2.base ≤ H2.next := hb2
  obtain ⟨H3, e3⟩ : ∃ H3, H3 = H2.alloc (.cells (newSv 3 fb).cs none) := ⟨_, rfl⟩
  have hle3 : H2.Le H3 := by rw [e3]; exact .new hb2
  have hn3 : H3.next = H2.next + 1 := by rw [e3]; rfl
  have hg3 : H3.get H2.next = some (.cells (newSv 3 fb).cs none) := by rw [e3]; exact AHeap.get_new hb2
  have hb3 := hle3.wf hb2
  obtain ⟨H4, e4⟩ : ∃ H4, H4 = H3.alloc (.cells [.int .u32 1] none) := ⟨_, rfl⟩
  have hle4 : H3.Le H4 := by rw [e4]; exact .new hb3
  have hn4 : H4.next = H3.next + 1 := by rw [e4]; rfl
  have f1 : fillA [.int .u32 0] [(0, 1, .int .u32 1)] = some [.int .u32 1] := rfl
  simp (decide := true) only [WP_skip, WP_ops, WP_seq, WP_block, WP_exit, WP_ret, WP_cond, CdC_true, CdC_false, seqQ_normal, seqQ_exit, seqQ_ret, seqQ_pan, blkQ_normal, blkQ_exit, blkQ_ret, blkQ_pan, bodyQ_ret, bodyQ_normal, bodyQ_pan, bodyK_some, WP_aops, WPa_nil, WPa_wr, WrA_new, CallA_new, WPa_rd, WPa_call, WPa_callv, WPa_gd, RdA_some, CallA_ret, WPs_nil, WPs_rd, WPs_wr, WPs_call, WPs_callv, WPs_gd, RdK_some, WrK_some, CallK_ret, CallV_func, GdS_tt, GdS_tf, GdS_ft, GdS_ff, GdA_tt, GdA_tf, GdA_ft, GdA_ff, evR, lenV_slc, lenV_tail, lenV_str, iaV_slc, evX, AO.ev, Fr.put_some, Fr.put_none, Fr.at_set, Fr.at_ofArgs, List.getD_cons_zero, List.getD_cons_succ, List.getD_nil, binV, intOp, strOp, AV.cells, AHeap.cell_new, AHeap.range_new, AHeap.cell_old, AHeap.range_old, AHeap.get_new, AHeap.get_old, AHeap.put_new, AHeap.lt_new, AHeap.lt_alloc, AHeap.wf_alloc, AHeap.base_new, AHeap.base_alloc, evRVs, evRV, tup, List.map_cons, List.map_nil, List.cons_append, List.nil_append, List.append_nil, List.getElem?_cons_zero, List.getElem?_cons_succ, Nat.zero_add, Option.map_some, Option.map_none, if_true, if_false, ↓reduceIte, Bool.false_eq_true, eq_self, Bool.not_false, Bool.not_true, decide_true, decide_false, Option.isNone_none, Option.isNone_some, WPs_nxt, CallV_yield, hb, hb2, q4, q5, q6, q8, gb2, and_self, ← e3, f1, ← e4]
  have hle14 : H1.Le H4 := hle2.trans (hle3.trans hle4)
  have hq0 : QS H1 H.next (H.next + 1) H.next [] 0 [1] :=
    ⟨by rw [hle1.base]; exact hb, by omega, by omega, by omega, hgq, ⟨by omega, hgm, by simp, by simp, by simp⟩, by simp, by simp, by simp, by simp⟩
  have hI4 : IS H4 (H3.next, 0) [1] := by rw [e4]; exact IS.new (l := [1]) hb3 (by simp)
  refine f6 (k := 1) (hq0.trans hle14) hI4 rfl (by decide) (by simp) (by simp) (by omega) fun H5 w hT5 hK5 hwk hwl hQ5 => ?_
  have hl1 := hle1.next; have hl2 := hle2.next
  have hT5n := hT5.next
  have keep5 : ∀ i, H.next < i → i < H4.next → H5.get i = H4.get i := fun i hi hi2 => hK5 i hi2 (by omega)
  simp (decide := true) only [WP_skip, WP_ops, WP_seq, WP_block, WP_exit, WP_ret, WP_cond, CdC_true, CdC_false, seqQ_normal, seqQ_exit, seqQ_ret, seqQ_pan, blkQ_normal, blkQ_exit, blkQ_ret, blkQ_pan, bodyQ_ret, bodyQ_normal, bodyQ_pan, bodyK_some, WP_aops, WPa_nil, WPa_wr, WrA_new, CallA_new, WPa_rd, WPa_call, WPa_callv, WPa_gd, RdA_some, CallA_ret, WPs_nil, WPs_rd, WPs_wr, WPs_call, WPs_callv, WPs_gd, RdK_some, WrK_some, CallK_ret, CallV_func, GdS_tt, GdS_tf, GdS_ft, GdS_ff, GdA_tt, GdA_tf, GdA_ft, GdA_ff, evR, lenV_slc, lenV_tail, lenV_str, iaV_slc, evX, AO.ev, Fr.put_some, Fr.put_none, Fr.at_set, Fr.at_ofArgs, List.getD_cons_zero, List.getD_cons_succ, List.getD_nil, binV, intOp, strOp, AV.cells, AHeap.cell_new, AHeap.range_new, AHeap.cell_old, AHeap.range_old, AHeap.get_new, AHeap.get_old, AHeap.put_new, AHeap.lt_new, AHeap.lt_alloc, AHeap.wf_alloc, AHeap.base_new, AHeap.base_alloc, evRVs, evRV, tup, List.map_cons, List.map_nil, List.cons_append, List.nil_append, List.append_nil, List.getElem?_cons_zero, List.getElem?_cons_succ, Nat.zero_add, Option.map_some, Option.map_none, if_true, if_false, ↓reduceIte, Bool.false_eq_true, eq_self, Bool.not_false, Bool.not_true, decide_true, decide_false, Option.isNone_none, Option.isNone_some, WPs_nxt, CallV_yield, hb]
  refine f6b hQ5.qget (by decide) ?_
  simp (decide := true) only [WP_skip, WP_ops, WP_seq, WP_block, WP_exit, WP_ret, WP_cond, CdC_true, CdC_false, seqQ_normal, seqQ_exit, seqQ_ret, seqQ_pan, blkQ_normal, blkQ_exit, blkQ_ret, blkQ_pan, bodyQ_ret, bodyQ_normal, bodyQ_pan, bodyK_some, WP_aops, WPa_nil, WPa_wr, WrA_new, CallA_new, WPa_rd, WPa_call, WPa_callv, WPa_gd, RdA_some, CallA_ret, WPs_nil, WPs_rd, WPs_wr, WPs_call, WPs_callv, WPs_gd, RdK_some, WrK_some, CallK_ret, CallV_func, GdS_tt, GdS_tf, GdS_ft, GdS_ff, GdA_tt, GdA_tf, GdA_ft, GdA_ff, evR, lenV_slc, lenV_tail, lenV_str, iaV_slc, evX, AO.ev, Fr.put_some, Fr.put_none, Fr.at_set, Fr.at_ofArgs, List.getD_cons_zero, List.getD_cons_succ, List.getD_nil, binV, intOp, strOp, AV.cells, AHeap.cell_new, AHeap.range_new, AHeap.cell_old, AHeap.range_old, AHeap.get_new, AHeap.get_old, AHeap.put_new, AHeap.lt_new, AHeap.lt_alloc, AHeap.wf_alloc, AHeap.base_new, AHeap.base_alloc, evRVs, evRV, tup, List.map_cons, List.map_nil, List.cons_append, List.nil_append, List.append_nil, List.getElem?_cons_zero, List.getElem?_cons_succ, Nat.zero_add, Option.map_some, Option.map_none, if_true, if_false, ↓reduceIte, Bool.false_eq_true, eq_self, Bool.not_false, Bool.not_true, decide_true, decide_false, Option.isNone_none, Option.isNone_some, WPs_nxt, CallV_yield, hb]
  refine f12 hQ5 (by simp) fun H6 v6 k6 hle6 hv6 hp6 hs6 => ?_
  have hk6 : k6 = [0] := by
    have : k6 = [w.key] := List.perm_singleton.1 (by simpa using hp6)
    rw [this, hwk]
  subst hk6
  simp (decide := true) only [WP_skip, WP_ops, WP_seq, WP_block, WP_exit, WP_ret, WP_cond, CdC_true, CdC_false, seqQ_normal, seqQ_exit, seqQ_ret, seqQ_pan, blkQ_normal, blkQ_exit, blkQ_ret, blkQ_pan, bodyQ_ret, bodyQ_normal, bodyQ_pan, bodyK_some, WP_aops, WPa_nil, WPa_wr, WrA_new, CallA_new, WPa_rd, WPa_call, WPa_callv, WPa_gd, RdA_some, CallA_ret, WPs_nil, WPs_rd, WPs_wr, WPs_call, WPs_callv, WPs_gd, RdK_some, WrK_some, CallK_ret, CallV_func, GdS_tt, GdS_tf, GdS_ft, GdS_ff, GdA_tt, GdA_tf, GdA_ft, GdA_ff, evR, lenV_slc, lenV_tail, lenV_str, iaV_slc, evX, AO.ev, Fr.put_some, Fr.put_none, Fr.at_set, Fr.at_ofArgs, List.getD_cons_zero, List.getD_cons_succ, List.getD_nil, binV, intOp, strOp, AV.cells, AHeap.cell_new, AHeap.range_new, AHeap.cell_old, AHeap.range_old, AHeap.get_new, AHeap.get_old, AHeap.put_new, AHeap.lt_new, AHeap.lt_alloc, AHeap.wf_alloc, AHeap.base_new, AHeap.base_alloc, evRVs, evRV, tup, List.map_cons, List.map_nil, List.cons_append, List.nil_append, List.append_nil, List.getElem?_cons_zero, List.getElem?_cons_succ, Nat.zero_add, Option.map_some, Option.map_none, if_true, if_false, ↓reduceIte, Bool.false_eq_true, eq_self, Bool.not_false, Bool.not_true, decide_true, decide_false, Option.isNone_none, Option.isNone_some, WPs_nxt, CallV_yield, hb]
  have hQ6 := hQ5.trans hle6
  refine f11 hQ6 (by simp) fun H7 v7 k7 hT7 hK7 hQ7 hp7 hs7 hv7 => ?_
  have ht7 : tickW ([] ++ [w]) = [{ w with left := 1 }] := by simp [tickW, decW, hwl]
  have hk7 : k7.filter (endsW ([] ++ [w])) = [] := by
    have : k7 = [w.key] := List.perm_singleton.1 (by simpa using hp7)
    rw [this]; simp [endsW, hwl]
  rw [ht7] at hQ7
  rw [hk7] at hv7
  simp (decide := true) only [WP_skip, WP_ops, WP_seq, WP_block, WP_exit, WP_ret, WP_cond, CdC_true, CdC_false, seqQ_normal, seqQ_exit, seqQ_ret, seqQ_pan, blkQ_normal, blkQ_exit, blkQ_ret, blkQ_pan, bodyQ_ret, bodyQ_normal, bodyQ_pan, bodyK_some, WP_aops, WPa_nil, WPa_wr, WrA_new, CallA_new, WPa_rd, WPa_call, WPa_callv, WPa_gd, RdA_some, CallA_ret, WPs_nil, WPs_rd, WPs_wr, WPs_call, WPs_callv, WPs_gd, RdK_some, WrK_some, CallK_ret, CallV_func, GdS_tt, GdS_tf, GdS_ft, GdS_ff, GdA_tt, GdA_tf, GdA_ft, GdA_ff, evR, lenV_slc, lenV_tail, lenV_str, iaV_slc, evX, AO.ev, Fr.put_some, Fr.put_none, Fr.at_set, Fr.at_ofArgs, List.getD_cons_zero, List.getD_cons_succ, List.getD_nil, binV, intOp, strOp, AV.cells, AHeap.cell_new, AHeap.range_new, AHeap.cell_old, AHeap.range_old, AHeap.get_new, AHeap.get_old, AHeap.put_new, AHeap.lt_new, AHeap.lt_alloc, AHeap.wf_alloc, AHeap.base_new, AHeap.base_alloc, evRVs, evRV, tup, List.map_cons, List.map_nil, List.cons_append, List.nil_append, List.append_nil, List.getElem?_cons_zero, List.getElem?_cons_succ, Nat.zero_add, Option.map_some, Option.map_none, if_true, if_false, ↓reduceIte, Bool.false_eq_true, eq_self, Bool.not_false, Bool.not_true, decide_true, decide_false, Option.isNone_none, Option.isNone_some, WPs_nxt, CallV_yield, hb]
  refine f11 hQ7 (by simp) fun H8 v8 k8 hT8 hK8 hQ8 hp8 hs8 hv8 => ?_
  have ht8 : tickW [{ w with left := 1 }] = [] := by simp [tickW, decW]
  have hk8 : k8.filter (endsW [{ w with left := 1 }]) = [0] := by
    have : k8 = [w.key] := List.perm_singleton.1 (by simpa using hp8)
    rw [this]; simp [endsW, hwk]
  rw [ht8] at hQ8
  rw [hk8] at hv8
  -- what stands from before
  obtain ⟨w1, w2, w3, w4, w5⟩ := hQ5.wt w (by simp)
  have hm5 := hQ5.mp.lt
  have hn6 := hle6.next; have hn7 := hT7.next; have hn8 := hT8.next
  have keep8 : ∀ i, i < H6.next → i ≠ H.next → i ≠ w.wb → H8.get i = H6.get i := fun i hi h1 h2 => by
    rw [hK8 i (by omega) h1 (by simpa using h2), hK7 i hi h1 (by simpa using h2)]
  have hbase8 : H8.base = H6.base := hT8.base.trans hT7.base
  have hv6' : IntsO H8 H5.next v6 [0] := hv6.til hbase8 (by omega) fun x hx1 hx2 => keep8 x hx2 (by omega) (by omega)
  have hS6 : H6.get H2.next = some (.cells (newSv 3 fb).cs none) := by
    rw [hle6.get _ (by omega), keep5 _ (by omega) (by omega), hle4.get _ (by omega), hg3]
  have hF6 : H6.get fb = some (.cells coFo.cs none) := by
    rw [hle6.get _ (by omega), keep5 _ (by omega) (by omega), hle4.get _ (by omega), hle3.get _ (by omega), hfg]
  have hW6 : H6.get w.wb = some (.cells (w.cs [1]) none) := by rw [hle6.get _ w2]; exact w3
  have hS8 : H8.get H2.next = some (.cells (newSv 3 fb).cs none) := by
    rw [keep8 _ (by omega) (by omega) (fun e => by rw [e, hW6] at hS6; simp [Wt.cs, Sv.cs] at hS6), hS6]
  have hF8 : H8.get fb = some (.cells coFo.cs none) := by
    rw [keep8 _ (by omega) (by omega) (fun e => by rw [e, hW6] at hF6; simp [Wt.cs, Fo.cs] at hF6), hF6]
  have hb8 : H8.WF := by have := hT5.base; have := hle14.base; have := hle1.base; have := hle6.base; unfold AHeap.WF at *; omega
  have f2 : fillA [.int .i64 0] [(0, 1, .int .i64 0)] = some [.int .i64 0] := rfl
  have d1 : decide (([0] : List Int) = [0]) = true := rfl
  have hlv7 : lenV H8 .slc v7 = some (.int .i64 0) := by
    rcases hv7 with ⟨_, rfl⟩ | ⟨_, _, _, _, _, _, h0⟩
    · rfl
    · simp at h0
  have hv8' := hv8.trans (.new hb8 (b := .cells [.int .i64 0] none))
  have hle9 : H8.Le (H8.alloc (.cells [.int .i64 0] none)) := .new hb8
  obtain ⟨H9, e9⟩ : ∃ H9, H9 = H8.alloc (.cells [.int .i64 0] none) := ⟨_, rfl⟩
  have hle9 : H8.Le H9 := by rw [e9]; exact .new hb8
  have hb9 := hle9.wf hb8
  have hj9 : JV H9 (.slice (some (H8.next, 0)) 1 (.inl 1)) [0] := by rw [e9]; exact .of (AHeap.get_new hb8) rfl (by simp)
  obtain ⟨H10, e10⟩ : ∃ H10, H10 = H9.alloc (.cells [.int .i64 0] none) := ⟨_, rfl⟩
  have hle10 : H9.Le H10 := by rw [e10]; exact .new hb9
  have hb10 := hle10.wf hb9
  have hj10 : JV H10 (.slice (some (H9.next, 0)) 1 (.inl 1)) [0] := by rw [e10]; exact .of (AHeap.get_new hb9) rfl (by simp)
  simp (decide := true) only [WP_skip, WP_ops, WP_seq, WP_block, WP_exit, WP_ret, WP_cond, CdC_true, CdC_false, seqQ_normal, seqQ_exit, seqQ_ret, seqQ_pan, blkQ_normal, blkQ_exit, blkQ_ret, blkQ_pan, bodyQ_ret, bodyQ_normal, bodyQ_pan, bodyK_some, WP_aops, WPa_nil, WPa_wr, WrA_new, CallA_new, WPa_rd, WPa_call, WPa_callv, WPa_gd, RdA_some, CallA_ret, WPs_nil, WPs_rd, WPs_wr, WPs_call, WPs_callv, WPs_gd, RdK_some, WrK_some, CallK_ret, CallV_func, GdS_tt, GdS_tf, GdS_ft, GdS_ff, GdA_tt, GdA_tf, GdA_ft, GdA_ff, evR, lenV_slc, lenV_tail, lenV_str, iaV_slc, evX, AO.ev, Fr.put_some, Fr.put_none, Fr.at_set, Fr.at_ofArgs, List.getD_cons_zero, List.getD_cons_succ, List.getD_nil, binV, intOp, strOp, AV.cells, AHeap.cell_new, AHeap.range_new, AHeap.cell_old, AHeap.range_old, AHeap.get_new, AHeap.get_old, AHeap.put_new, AHeap.lt_new, AHeap.lt_alloc, AHeap.wf_alloc, AHeap.base_new, AHeap.base_alloc, evRVs, evRV, tup, List.map_cons, List.map_nil, List.cons_append, List.nil_append, List.append_nil, List.getElem?_cons_zero, List.getElem?_cons_succ, Nat.zero_add, Option.map_some, Option.map_none, if_true, if_false, ↓reduceIte, Bool.false_eq_true, eq_self, Bool.not_false, Bool.not_true, decide_true, decide_false, Option.isNone_none, Option.isNone_some, WPs_nxt, CallV_yield, hb, beq_self_eq_true, f2, ← e9]
  refine f10 ((hv6'.trans hle9).jv (by simp)) hj9 ?_
  have hl7 : lenV H9 .slc v7 = some (.int .i64 0) := by
    rcases hv7 with ⟨_, rfl⟩ | ⟨_, _, _, _, _, _, h0⟩
    · rfl
    · simp at h0
  simp (decide := true) only [WP_skip, WP_ops, WP_seq, WP_block, WP_exit, WP_ret, WP_cond, CdC_true, CdC_false, seqQ_normal, seqQ_exit, seqQ_ret, seqQ_pan, blkQ_normal, blkQ_exit, blkQ_ret, blkQ_pan, bodyQ_ret, bodyQ_normal, bodyQ_pan, bodyK_some, WP_aops, WPa_nil, WPa_wr, WrA_new, CallA_new, WPa_rd, WPa_call, WPa_callv, WPa_gd, RdA_some, CallA_ret, WPs_nil, WPs_rd, WPs_wr, WPs_call, WPs_callv, WPs_gd, RdK_some, WrK_some, CallK_ret, CallV_func, GdS_tt, GdS_tf, GdS_ft, GdS_ff, GdA_tt, GdA_tf, GdA_ft, GdA_ff, evR, lenV_slc, lenV_tail, lenV_str, iaV_slc, evX, AO.ev, Fr.put_some, Fr.put_none, Fr.at_set, Fr.at_ofArgs, List.getD_cons_zero, List.getD_cons_succ, List.getD_nil, binV, intOp, strOp, AV.cells, AHeap.cell_new, AHeap.range_new, AHeap.cell_old, AHeap.range_old, AHeap.get_new, AHeap.get_old, AHeap.put_new, AHeap.lt_new, AHeap.lt_alloc, AHeap.wf_alloc, AHeap.base_new, AHeap.base_alloc, evRVs, evRV, tup, List.map_cons, List.map_nil, List.cons_append, List.nil_append, List.append_nil, List.getElem?_cons_zero, List.getElem?_cons_succ, Nat.zero_add, Option.map_some, Option.map_none, if_true, if_false, ↓reduceIte, Bool.false_eq_true, eq_self, Bool.not_false, Bool.not_true, decide_true, decide_false, Option.isNone_none, Option.isNone_some, WPs_nxt, CallV_yield, hb, beq_self_eq_true, d1, hl7, f2, ← e10]
  refine f10 ((hv8.trans (hle9.trans hle10)).jv (by simp)) hj10 ?_
  simp (decide := true) only [WP_skip, WP_ops, WP_seq, WP_block, WP_exit, WP_ret, WP_cond, CdC_true, CdC_false, seqQ_normal, seqQ_exit, seqQ_ret, seqQ_pan, blkQ_normal, blkQ_exit, blkQ_ret, blkQ_pan, bodyQ_ret, bodyQ_normal, bodyQ_pan, bodyK_some, WP_aops, WPa_nil, WPa_wr, WrA_new, CallA_new, WPa_rd, WPa_call, WPa_callv, WPa_gd, RdA_some, CallA_ret, WPs_nil, WPs_rd, WPs_wr, WPs_call, WPs_callv, WPs_gd, RdK_some, WrK_some, CallK_ret, CallV_func, GdS_tt, GdS_tf, GdS_ft, GdS_ff, GdA_tt, GdA_tf, GdA_ft, GdA_ff, evR, lenV_slc, lenV_tail, lenV_str, iaV_slc, evX, AO.ev, Fr.put_some, Fr.put_none, Fr.at_set, Fr.at_ofArgs, List.getD_cons_zero, List.getD_cons_succ, List.getD_nil, binV, intOp, strOp, AV.cells, AHeap.cell_new, AHeap.range_new, AHeap.cell_old, AHeap.range_old, AHeap.get_new, AHeap.get_old, AHeap.put_new, AHeap.lt_new, AHeap.lt_alloc, AHeap.wf_alloc, AHeap.base_new, AHeap.base_alloc, evRVs, evRV, tup, List.map_cons, List.map_nil, List.cons_append, List.nil_append, List.append_nil, List.getElem?_cons_zero, List.getElem?_cons_succ, Nat.zero_add, Option.map_some, Option.map_none, if_true, if_false, ↓reduceIte, Bool.false_eq_true, eq_self, Bool.not_false, Bool.not_true, decide_true, decide_false, Option.isNone_none, Option.isNone_some, WPs_nxt, CallV_yield, hb, d1]
  refine f12 (hQ8.trans (hle9.trans hle10)) (by simp) fun H11 v11 k11 hle11 hv11 hp11 _ => ?_
  have hk11 : k11 = [] := by simpa using hp11
  subst hk11
  have hlv11 : lenV H11 .slc v11 = some (.int .i64 0) := by
    rcases hv11 with ⟨_, rfl⟩ | ⟨_, _, _, _, _, _, h0⟩
    · rfl
    · simp at h0
  have hle811 : H8.Le H11 := hle9.trans (hle10.trans hle11)
  have hb11 := hle811.wf hb8
  have f3 : fillA [.int .u32 0, .int .u32 0, .int .u32 0] [(0, 1, .int .u32 1), (1, 1, .int .u32 9), (2, 1, .int .u32 1)] = some (idsA [1, 9, 1]) := rfl
  have hS11 : H11.range (H2.next, 0) 23 = some (newSv 3 fb).cs := by
    rw [AHeap.range_of (by rw [hle811.get _ (by omega)]; exact hS8), if_pos (by rw [q4]; omega), List.drop_zero, (newSv_good 3 fb).tk]
  obtain ⟨H12, e12⟩ : ∃ H12, H12 = H11.alloc (.cells (idsA [1, 9, 1]) none) := ⟨_, rfl⟩
  have hle12 : H11.Le H12 := by rw [e12]; exact .new hb11
  have hn12 : H12.next = H11.next + 1 := by rw [e12]; rfl
  have hI12 : IS H12 (H11.next, 0) [1, 9, 1] := by rw [e12]; exact IS.new (l := [1, 9, 1]) hb11 (by simp)
  have hle812 : H8.Le H12 := hle811.trans hle12
  have hn811 := hle811.next
  have hb12 := hle12.wf hb11
  simp (decide := true) only [WP_skip, WP_ops, WP_seq, WP_block, WP_exit, WP_ret, WP_cond, CdC_true, CdC_false, seqQ_normal, seqQ_exit, seqQ_ret, seqQ_pan, blkQ_normal, blkQ_exit, blkQ_ret, blkQ_pan, bodyQ_ret, bodyQ_normal, bodyQ_pan, bodyK_some, WP_aops, WPa_nil, WPa_wr, WrA_new, CallA_new, WPa_rd, WPa_call, WPa_callv, WPa_gd, RdA_some, CallA_ret, WPs_nil, WPs_rd, WPs_wr, WPs_call, WPs_callv, WPs_gd, RdK_some, WrK_some, CallK_ret, CallV_func, GdS_tt, GdS_tf, GdS_ft, GdS_ff, GdA_tt, GdA_tf, GdA_ft, GdA_ff, evR, lenV_slc, lenV_tail, lenV_str, iaV_slc, evX, AO.ev, Fr.put_some, Fr.put_none, Fr.at_set, Fr.at_ofArgs, List.getD_cons_zero, List.getD_cons_succ, List.getD_nil, binV, intOp, strOp, AV.cells, AHeap.cell_new, AHeap.range_new, AHeap.cell_old, AHeap.range_old, AHeap.get_new, AHeap.get_old, AHeap.put_new, AHeap.lt_new, AHeap.lt_alloc, AHeap.wf_alloc, AHeap.base_new, AHeap.base_alloc, evRVs, evRV, tup, List.map_cons, List.map_nil, List.cons_append, List.nil_append, List.append_nil, List.getElem?_cons_zero, List.getElem?_cons_succ, Nat.zero_add, Option.map_some, Option.map_none, if_true, if_false, ↓reduceIte, Bool.false_eq_true, eq_self, Bool.not_false, Bool.not_true, decide_true, decide_false, Option.isNone_none, Option.isNone_some, WPs_nxt, CallV_yield, hb, hlv11, beq_self_eq_true, hS11, f3, ← e12]
  refine f9new (by omega) (by omega) (by omega) (by rw [hle812.get _ (by omega)]; exact hF8) (hI12.iv (c := .inl 3)) (by show H11.next < H12.next; omega) (fun H' hle => (hI12.trans hle).iv) ?_
  have e9' : (if devB 0 = true then dueL (fun _ => true) [1, 9, 1] [] else []) = [1, 9] := by decide
  rw [e9', rowQ, if_neg (by simp)]
  obtain ⟨H13, e13⟩ : ∃ H13, H13 = H12.alloc (.cells (idsA [1, 9]) (some 1)) := ⟨_, rfl⟩
  have hle13 : H12.Le H13 := by rw [e13]; exact .new hb12
  have hb13 := hle13.wf hb12
  have hI13 : IS H13 (H12.next, 0) [1, 9] := by rw [e13]; exact IS.new (l := [1, 9]) hb12 (by simp)
  obtain ⟨H14, e14⟩ : ∃ H14, H14 = H13.alloc (.cells (idsA [1, 9]) none) := ⟨_, rfl⟩
  have hle14' : H13.Le H14 := by rw [e14]; exact .new hb13
  have hI14 : IS H14 (H13.next, 0) [1, 9] := by rw [e14]; exact IS.new (l := [1, 9]) hb13 (by simp)
  have f4 : fillA [.int .u32 0, .int .u32 0] [(0, 1, .int .u32 1), (1, 1, .int .u32 9)] = some (idsA [1, 9]) := rfl
  have d2 : decide (([1, 9] : List Int) = [1, 9]) = true := rfl
  simp (decide := true) only [WP_skip, WP_ops, WP_seq, WP_block, WP_exit, WP_ret, WP_cond, CdC_true, CdC_false, seqQ_normal, seqQ_exit, seqQ_ret, seqQ_pan, blkQ_normal, blkQ_exit, blkQ_ret, blkQ_pan, bodyQ_ret, bodyQ_normal, bodyQ_pan, bodyK_some, WP_aops, WPa_nil, WPa_wr, WrA_new, CallA_new, WPa_rd, WPa_call, WPa_callv, WPa_gd, RdA_some, CallA_ret, WPs_nil, WPs_rd, WPs_wr, WPs_call, WPs_callv, WPs_gd, RdK_some, WrK_some, CallK_ret, CallV_func, GdS_tt, GdS_tf, GdS_ft, GdS_ff, GdA_tt, GdA_tf, GdA_ft, GdA_ff, evR, lenV_slc, lenV_tail, lenV_str, iaV_slc, evX, AO.ev, Fr.put_some, Fr.put_none, Fr.at_set, Fr.at_ofArgs, List.getD_cons_zero, List.getD_cons_succ, List.getD_nil, binV, intOp, strOp, AV.cells, AHeap.cell_new, AHeap.range_new, AHeap.cell_old, AHeap.range_old, AHeap.get_new, AHeap.get_old, AHeap.put_new, AHeap.lt_new, AHeap.lt_alloc, AHeap.wf_alloc, AHeap.base_new, AHeap.base_alloc, evRVs, evRV, tup, List.map_cons, List.map_nil, List.cons_append, List.nil_append, List.append_nil, List.getElem?_cons_zero, List.getElem?_cons_succ, Nat.zero_add, Option.map_some, Option.map_none, if_true, if_false, ↓reduceIte, Bool.false_eq_true, eq_self, Bool.not_false, Bool.not_true, decide_true, decide_false, Option.isNone_none, Option.isNone_some, WPs_nxt, CallV_yield, hb, ← e13, f4, ← e14]
  refine f20 (hI13.trans hle14').iv hI14.iv ?_
  simp (decide := true) only [WP_skip, WP_ops, WP_seq, WP_block, WP_exit, WP_ret, WP_cond, CdC_true, CdC_false, seqQ_normal, seqQ_exit, seqQ_ret, seqQ_pan, blkQ_normal, blkQ_exit, blkQ_ret, blkQ_pan, bodyQ_ret, bodyQ_normal, bodyQ_pan, bodyK_some, WP_aops, WPa_nil, WPa_wr, WrA_new, CallA_new, WPa_rd, WPa_call, WPa_callv, WPa_gd, RdA_some, CallA_ret, WPs_nil, WPs_rd, WPs_wr, WPs_call, WPs_callv, WPs_gd, RdK_some, WrK_some, CallK_ret, CallV_func, GdS_tt, GdS_tf, GdS_ft, GdS_ff, GdA_tt, GdA_tf, GdA_ft, GdA_ff, evR, lenV_slc, lenV_tail, lenV_str, iaV_slc, evX, AO.ev, Fr.put_some, Fr.put_none, Fr.at_set, Fr.at_ofArgs, List.getD_cons_zero, List.getD_cons_succ, List.getD_nil, binV, intOp, strOp, AV.cells, AHeap.cell_new, AHeap.range_new, AHeap.cell_old, AHeap.range_old, AHeap.get_new, AHeap.get_old, AHeap.put_new, AHeap.lt_new, AHeap.lt_alloc, AHeap.wf_alloc, AHeap.base_new, AHeap.base_alloc, evRVs, evRV, tup, List.map_cons, List.map_nil, List.cons_append, List.nil_append, List.append_nil, List.getElem?_cons_zero, List.getElem?_cons_succ, Nat.zero_add, Option.map_some, Option.map_none, if_true, if_false, ↓reduceIte, Bool.false_eq_true, eq_self, Bool.not_false, Bool.not_true, decide_true, decide_false, Option.isNone_none, Option.isNone_some, WPs_nxt, CallV_yield, hb, d2]
  refine .same (v := .bool true) (H' := H14) ?_ trivial h
  have hb5 := hT5.base; have hb7 := hT7.base; have hb8' := hT8.base
  have hb1' := hle1.base; have hb14 := hle14.base; have hb6 := hle6.base
  have hle814 : H8.Le H14 := hle812.trans (hle13.trans hle14')
  have hb814 := hle814.base; have hn814 := hle814.next
  refine ⟨by omega, by omega, fun i hi => ?_⟩
  rw [hle814.get i (by omega), hT8.get i hi, hT7.get i hi, hle6.get i (by omega), hT5.get i hi, hle14.get i (by omega), hle1.get i hi]
end Go.AM
