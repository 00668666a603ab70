/- Queues: the keys of a map, handed out. -/
import Derived.Test.YthjeldlbjhjgfaaGreatPiA
namespace Go.AM
open Go Go.Proofs
set_option linter.unusedSimpArgs false
set_option linter.unusedVariables false
set_option maxRecDepth 100000
set_option maxHeartbeats 4000000

theorem f41 {H : AHeap} {Q : AE → AHeap → Prop} {l mb m ck : Nat} {es : List En} (I : List Int → AHeap → Prop) (hmb : H.get mb = some (.cells [.map (some m)] none)) (hmblt : mb < H.next) (hM : Mp H m es ck)
    (h0 : I [] (H.alloc (.mapIter (some m) ck [] ck)))
    (hst : ∀ ks H' s, I ks H' → I ks (H'.put H.next (.mapIter (some m) ck s ck)))
    (hI : ∀ ks H', I ks H' → H'.base = H.base ∧ H.next < H'.next ∧ H'.get m = H.get m)
    (hround : ∀ ks k H' (Q' : AV → AHeap → Prop), I ks H' → ks.length < es.length → (∀ H'', I (ks ++ [k]) H'' → H''.get H.next = H'.get H.next → Q' (.bool true) H'') → AYield Tryz.prog l [.int .i64 k] H' Q')
    (h : ∀ H' ks, I ks H' → ks.Perm (es.map En.key) → Q (.ret (.tuple [])) H') :
    ACall Tryz.prog 41 [.yield l, .ptr (some (mb, 0))] H Q := by
  refine ACall.comp [] mixed (by decide +kernel) fun F hF' => ?_
  cbv at hF'
  cases hF'
  refine ⟨by simp, fun hb ha => ?_⟩
  have hc1 := AHeap.cell_of (k := 0) hmb
  have hg1 := hM.get
  have hlt1 := hM.lt
  simp (decide := true) only [WP_skip, WP_ops, WP_seq, WP_block, WP_exit, WP_ret, WP_cond, CdC_true, CdC_false, seqQ_normal, seqQ_exit, seqQ_ret, seqQ_pan, blkQ_normal, blkQ_exit, blkQ_ret, blkQ_pan, bodyQ_ret, bodyQ_normal, bodyQ_pan, bodyK_some, WP_aops, WPa_nil, WPa_wr, WrA_new, CallA_new, WPa_rd, WPa_call, WPa_callv, WPa_gd, RdA_some, CallA_ret, WPs_nil, WPs_rd, WPs_wr, WPs_call, WPs_callv, WPs_gd, RdK_some, WrK_some, CallK_ret, CallV_func, GdS_tt, GdS_tf, GdS_ft, GdS_ff, GdA_tt, GdA_tf, GdA_ft, GdA_ff, evR, lenV_slc, lenV_tail, lenV_str, iaV_slc, evX, AO.ev, Fr.put_some, Fr.put_none, Fr.at_set, Fr.at_ofArgs, List.getD_cons_zero, List.getD_cons_succ, List.getD_nil, binV, intOp, strOp, AV.cells, AHeap.cell_new, AHeap.range_new, AHeap.cell_old, AHeap.range_old, AHeap.get_new, AHeap.get_old, AHeap.put_new, AHeap.lt_new, AHeap.lt_alloc, AHeap.wf_alloc, AHeap.base_new, AHeap.base_alloc, evRVs, evRV, tup, List.map_cons, List.map_nil, List.cons_append, List.nil_append, List.append_nil, List.getElem?_cons_zero, List.getElem?_cons_succ, Nat.zero_add, Option.map_some, Option.map_none, if_true, if_false, ↓reduceIte, Bool.false_eq_true, eq_self, Bool.not_false, Bool.not_true, decide_true, decide_false, Option.isNone_none, Option.isNone_some, WPs_nxt, CallV_yield, hb, WPs_nxt, CallV_yield, hmblt, AHeap.Le.new, hc1, hg1, hlt1]
  refine WP_loop (fun t' H' => ∃ P rest, Part es P rest ∧ I (P.map En.key) H' ∧ H'.get H.next = some (.mapIter (some m) ck (P.map En.born) ck) ∧ Fr.at t' 0 = .yield l ∧ Fr.at t' 5 = .ptr (some (H.next, 0)) ∧ numOf (Fr.at t' 5) = 0)
    (fun t' H' => match H'.get H.next with | some (.mapIter _ _ s _) => es.length - s.length | _ => 0) ?_ ?_
  · refine ⟨[], es, ⟨by simp⟩, h0, AHeap.get_new hb, ?_, ?_, ?_⟩ <;> simp (decide := true) only [WP_skip, WP_ops, WP_seq, WP_block, WP_exit, WP_ret, WP_cond, CdC_true, CdC_false, seqQ_normal, seqQ_exit, seqQ_ret, seqQ_pan, blkQ_normal, blkQ_exit, blkQ_ret, blkQ_pan, bodyQ_ret, bodyQ_normal, bodyQ_pan, bodyK_some, WP_aops, WPa_nil, WPa_wr, WrA_new, CallA_new, WPa_rd, WPa_call, WPa_callv, WPa_gd, RdA_some, CallA_ret, WPs_nil, WPs_rd, WPs_wr, WPs_call, WPs_callv, WPs_gd, RdK_some, WrK_some, CallK_ret, CallV_func, GdS_tt, GdS_tf, GdS_ft, GdS_ff, GdA_tt, GdA_tf, GdA_ft, GdA_ff, evR, lenV_slc, lenV_tail, lenV_str, iaV_slc, evX, AO.ev, Fr.put_some, Fr.put_none, Fr.at_set, Fr.at_ofArgs, List.getD_cons_zero, List.getD_cons_succ, List.getD_nil, binV, intOp, strOp, AV.cells, AHeap.cell_new, AHeap.range_new, AHeap.cell_old, AHeap.range_old, AHeap.get_new, AHeap.get_old, AHeap.put_new, AHeap.lt_new, AHeap.lt_alloc, AHeap.wf_alloc, AHeap.base_new, AHeap.base_alloc, evRVs, evRV, tup, List.map_cons, List.map_nil, List.cons_append, List.nil_append, List.append_nil, List.getElem?_cons_zero, List.getElem?_cons_succ, Nat.zero_add, Option.map_some, Option.map_none, if_true, if_false, ↓reduceIte, Bool.false_eq_true, eq_self, Bool.not_false, Bool.not_true, decide_true, decide_false, Option.isNone_none, Option.isNone_some, WPs_nxt, CallV_yield, hb, numOf]
  · rintro t' H' ⟨P, rest, hP, hIP, hit, g0, g5, _⟩
    obtain ⟨hbase, hnx, hmm⟩ := hI _ _ hIP
    have hb' : H'.WF := by unfold AHeap.WF at *; omega
    have hlen : P.length + rest.length = es.length := by have := hP.perm.length_eq; simpa using this
    simp (decide := true) only [WP_skip, WP_ops, WP_seq, WP_block, WP_exit, WP_ret, WP_cond, CdC_true, CdC_false, seqQ_normal, seqQ_exit, seqQ_ret, seqQ_pan, blkQ_normal, blkQ_exit, blkQ_ret, blkQ_pan, bodyQ_ret, bodyQ_normal, bodyQ_pan, bodyK_some, WP_aops, WPa_nil, WPa_wr, WrA_new, CallA_new, WPa_rd, WPa_call, WPa_callv, WPa_gd, RdA_some, CallA_ret, WPs_nil, WPs_rd, WPs_wr, WPs_call, WPs_callv, WPs_gd, RdK_some, WrK_some, CallK_ret, CallV_func, GdS_tt, GdS_tf, GdS_ft, GdS_ff, GdA_tt, GdA_tf, GdA_ft, GdA_ff, evR, lenV_slc, lenV_tail, lenV_str, iaV_slc, evX, AO.ev, Fr.put_some, Fr.put_none, Fr.at_set, Fr.at_ofArgs, List.getD_cons_zero, List.getD_cons_succ, List.getD_nil, binV, intOp, strOp, AV.cells, AHeap.cell_new, AHeap.range_new, AHeap.cell_old, AHeap.range_old, AHeap.get_new, AHeap.get_old, AHeap.put_new, AHeap.lt_new, AHeap.lt_alloc, AHeap.wf_alloc, AHeap.base_new, AHeap.base_alloc, evRVs, evRV, tup, List.map_cons, List.map_nil, List.cons_append, List.nil_append, List.append_nil, List.getElem?_cons_zero, List.getElem?_cons_succ, Nat.zero_add, Option.map_some, Option.map_none, if_true, if_false, ↓reduceIte, Bool.false_eq_true, eq_self, Bool.not_false, Bool.not_true, decide_true, decide_false, Option.isNone_none, Option.isNone_some, WPs_nxt, CallV_yield, hb, WPs_nxt, g5]
    refine ANext_map hit (by rw [hmm]; exact hg1) (by unfold AHeap.WF at hb; omega) (fun e he => ?_) (fun he => ?_) (fun e he => ?_)
    · obtain ⟨x, hx, rfl⟩ := List.mem_map.1 he
      exact ⟨hM.old x hx, hM.old x hx⟩
    · have hr := hP.empty hM.nd he
      simp (decide := true) only [WP_skip, WP_ops, WP_seq, WP_block, WP_exit, WP_ret, WP_cond, CdC_true, CdC_false, seqQ_normal, seqQ_exit, seqQ_ret, seqQ_pan, blkQ_normal, blkQ_exit, blkQ_ret, blkQ_pan, bodyQ_ret, bodyQ_normal, bodyQ_pan, bodyK_some, WP_aops, WPa_nil, WPa_wr, WrA_new, CallA_new, WPa_rd, WPa_call, WPa_callv, WPa_gd, RdA_some, CallA_ret, WPs_nil, WPs_rd, WPs_wr, WPs_call, WPs_callv, WPs_gd, RdK_some, WrK_some, CallK_ret, CallV_func, GdS_tt, GdS_tf, GdS_ft, GdS_ff, GdA_tt, GdA_tf, GdA_ft, GdA_ff, evR, lenV_slc, lenV_tail, lenV_str, iaV_slc, evX, AO.ev, Fr.put_some, Fr.put_none, Fr.at_set, Fr.at_ofArgs, List.getD_cons_zero, List.getD_cons_succ, List.getD_nil, binV, intOp, strOp, AV.cells, AHeap.cell_new, AHeap.range_new, AHeap.cell_old, AHeap.range_old, AHeap.get_new, AHeap.get_old, AHeap.put_new, AHeap.lt_new, AHeap.lt_alloc, AHeap.wf_alloc, AHeap.base_new, AHeap.base_alloc, evRVs, evRV, tup, List.map_cons, List.map_nil, List.cons_append, List.nil_append, List.append_nil, List.getElem?_cons_zero, List.getElem?_cons_succ, Nat.zero_add, Option.map_some, Option.map_none, if_true, if_false, ↓reduceIte, Bool.false_eq_true, eq_self, Bool.not_false, Bool.not_true, decide_true, decide_false, Option.isNone_none, Option.isNone_some, WPs_nxt, CallV_yield, hb]
      subst hr
      refine .this (h _ _ hIP ?_)
      have := hP.perm.map En.key
      simpa using this
    · obtain ⟨y, hy, rfl⟩ := hP.filter hM.nd he
      obtain ⟨rest', hP'⟩ := hP.step hy
      have hyes : y ∈ es := hP.perm.mem_iff.1 (List.mem_append_right _ hy)
      have hfind := find_born hM.nd hyes
      have hHb : H'.base ≤ H.next := by unfold AHeap.WF at hb; omega
      have hne : m ≠ H.next := by omega
      have q1 : (H'.put H.next (.mapIter (some m) ck (P.map En.born ++ [y.born]) ck)).get H.next = some (.mapIter (some m) ck (P.map En.born ++ [y.born]) ck) := by
        rw [AHeap.get_put _ _ _ _ hHb hnx, if_pos rfl]
      have q2 : (H'.put H.next (.mapIter (some m) ck (P.map En.born ++ [y.born]) ck)).get m = some (.map (es.map En.e) ck) := by
        rw [AHeap.get_put _ _ _ _ hHb hnx, if_neg hne, hmm]; exact hg1
      have q3 : (P.map En.born ++ [y.born]).getLast? = some y.born := by simp
      simp (decide := true) only [WP_skip, WP_ops, WP_seq, WP_block, WP_exit, WP_ret, WP_cond, CdC_true, CdC_false, seqQ_normal, seqQ_exit, seqQ_ret, seqQ_pan, blkQ_normal, blkQ_exit, blkQ_ret, blkQ_pan, bodyQ_ret, bodyQ_normal, bodyQ_pan, bodyK_some, WP_aops, WPa_nil, WPa_wr, WrA_new, CallA_new, WPa_rd, WPa_call, WPa_callv, WPa_gd, RdA_some, CallA_ret, WPs_nil, WPs_rd, WPs_wr, WPs_call, WPs_callv, WPs_gd, RdK_some, WrK_some, CallK_ret, CallV_func, GdS_tt, GdS_tf, GdS_ft, GdS_ff, GdA_tt, GdA_tf, GdA_ft, GdA_ff, evR, lenV_slc, lenV_tail, lenV_str, iaV_slc, evX, AO.ev, Fr.put_some, Fr.put_none, Fr.at_set, Fr.at_ofArgs, List.getD_cons_zero, List.getD_cons_succ, List.getD_nil, binV, intOp, strOp, AV.cells, AHeap.cell_new, AHeap.range_new, AHeap.cell_old, AHeap.range_old, AHeap.get_new, AHeap.get_old, AHeap.put_new, AHeap.lt_new, AHeap.lt_alloc, AHeap.wf_alloc, AHeap.base_new, AHeap.base_alloc, evRVs, evRV, tup, List.map_cons, List.map_nil, List.cons_append, List.nil_append, List.append_nil, List.getElem?_cons_zero, List.getElem?_cons_succ, Nat.zero_add, Option.map_some, Option.map_none, if_true, if_false, ↓reduceIte, Bool.false_eq_true, eq_self, Bool.not_false, Bool.not_true, decide_true, decide_false, Option.isNone_none, Option.isNone_some, WPs_nxt, CallV_yield, hb, WPs_nxt, CallV_yield, g0, g5, q1, q2, q3, hfind, En.e]
      refine hround (P.map En.key) y.key _ _ (hst _ _ _ hIP) (by have : 0 < rest.length := List.length_pos_of_mem hy; simp; omega) fun H'' hI'' hit'' => ?_
      simp (decide := true) only [WP_skip, WP_ops, WP_seq, WP_block, WP_exit, WP_ret, WP_cond, CdC_true, CdC_false, seqQ_normal, seqQ_exit, seqQ_ret, seqQ_pan, blkQ_normal, blkQ_exit, blkQ_ret, blkQ_pan, bodyQ_ret, bodyQ_normal, bodyQ_pan, bodyK_some, WP_aops, WPa_nil, WPa_wr, WrA_new, CallA_new, WPa_rd, WPa_call, WPa_callv, WPa_gd, RdA_some, CallA_ret, WPs_nil, WPs_rd, WPs_wr, WPs_call, WPs_callv, WPs_gd, RdK_some, WrK_some, CallK_ret, CallV_func, GdS_tt, GdS_tf, GdS_ft, GdS_ff, GdA_tt, GdA_tf, GdA_ft, GdA_ff, evR, lenV_slc, lenV_tail, lenV_str, iaV_slc, evX, AO.ev, Fr.put_some, Fr.put_none, Fr.at_set, Fr.at_ofArgs, List.getD_cons_zero, List.getD_cons_succ, List.getD_nil, binV, intOp, strOp, AV.cells, AHeap.cell_new, AHeap.range_new, AHeap.cell_old, AHeap.range_old, AHeap.get_new, AHeap.get_old, AHeap.put_new, AHeap.lt_new, AHeap.lt_alloc, AHeap.wf_alloc, AHeap.base_new, AHeap.base_alloc, evRVs, evRV, tup, List.map_cons, List.map_nil, List.cons_append, List.nil_append, List.append_nil, List.getElem?_cons_zero, List.getElem?_cons_succ, Nat.zero_add, Option.map_some, Option.map_none, if_true, if_false, ↓reduceIte, Bool.false_eq_true, eq_self, Bool.not_false, Bool.not_true, decide_true, decide_false, Option.isNone_none, Option.isNone_some, WPs_nxt, CallV_yield, hb, g0, g5]
      have hit3 : H''.get H.next = some (.mapIter (some m) ck ((P ++ [y]).map En.born) ck) := by
        rw [hit'', q1]; simp [En.e]
      refine ⟨⟨P ++ [y], rest', hP', by simpa using hI'', hit3, trivial, trivial, rfl⟩, ?_⟩
      rw [hit3, hit]
      have : 0 < rest.length := List.length_pos_of_mem hy
      simp only [List.length_map, List.length_append, List.length_cons, List.length_nil]
      omega
end Go.AM
