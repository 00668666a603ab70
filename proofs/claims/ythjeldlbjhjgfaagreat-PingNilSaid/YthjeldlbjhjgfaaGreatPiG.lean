/- Queues: to wait. -/
import Derived.Test.YthjeldlbjhjgfaaGreatPiF
namespace Go.AM
open Go Go.Proofs
set_option linter.unusedSimpArgs false
set_option linter.unusedVariables false
set_option maxRecDepth 100000
set_option maxHeartbeats 4000000

/-- What may be waited for. -/
def waitB (n : Int) (k : Nat) (beat : Int) : Bool := (decide (0 ≤ n) && decide (n < 4)) && !decide (k = 0) && !decide (8 < k) && !decide (beat = 0) && !decide (60 < beat)
theorem f6b {H : AHeap} {Q : AE → AHeap → Prop} {q : Nat} {r : Nat} (hq : H.get q = some (.cells [.map (some r)] none)) {a : Option (Nat × Nat)} {k : Nat} {c : Nat ⊕ Nat} {n beat : Int} (hw : waitB n k beat = false) (h : Q (.ret (.int .i64 2)) H) :
    ACall Tryz.prog 6 [.ptr (some (q, 0)), .int .i64 n, .slice a k c, .int .u32 beat] H Q := by
  refine ACall.comp [(5, [⟨0, true, none⟩, ⟨1, true, none⟩, ⟨2, true, none⟩, ⟨3, true, none⟩, ⟨4, true, none⟩, ⟨5, true, none⟩, ⟨7, true, none⟩, ⟨6, false, some [5]⟩, ⟨8, false, none⟩, ⟨9, false, some [8]⟩, ⟨10, false, some [0, 1, 2, 3, 4, 5, 6, 7, 8, 9]⟩])] mixed (by decide +kernel) fun F hF' => ?_
  cbv at hF'
  cases hF'
  refine ⟨by simp, fun hb ha => ?_⟩
  simp (decide := true) only [WP_skip, WP_ops, WP_seq, WP_block, WP_exit, WP_ret, WP_cond, CdC_true, CdC_false, seqQ_normal, seqQ_exit, seqQ_ret, seqQ_pan, blkQ_normal, blkQ_exit, blkQ_ret, blkQ_pan, bodyQ_ret, bodyQ_normal, bodyQ_pan, bodyK_some, WP_aops, WPa_nil, WPa_wr, WrA_new, CallA_new, WPa_rd, WPa_call, WPa_callv, WPa_gd, RdA_some, CallA_ret, WPs_nil, WPs_rd, WPs_wr, WPs_call, WPs_callv, WPs_gd, RdK_some, WrK_some, CallK_ret, CallV_func, GdS_tt, GdS_tf, GdS_ft, GdS_ff, GdA_tt, GdA_tf, GdA_ft, GdA_ff, evR, lenV_slc, lenV_tail, lenV_str, iaV_slc, evX, AO.ev, Fr.put_some, Fr.put_none, Fr.at_set, Fr.at_ofArgs, List.getD_cons_zero, List.getD_cons_succ, List.getD_nil, binV, intOp, strOp, AV.cells, AHeap.cell_new, AHeap.range_new, AHeap.cell_old, AHeap.range_old, AHeap.get_new, AHeap.get_old, AHeap.put_new, AHeap.lt_new, AHeap.lt_alloc, AHeap.wf_alloc, AHeap.base_new, AHeap.base_alloc, evRVs, evRV, tup, List.map_cons, List.map_nil, List.cons_append, List.nil_append, List.append_nil, List.getElem?_cons_zero, List.getElem?_cons_succ, Nat.zero_add, Option.map_some, Option.map_none, if_true, if_false, ↓reduceIte, Bool.false_eq_true, eq_self, Bool.not_false, Bool.not_true, decide_true, decide_false, Option.isNone_none, Option.isNone_some, WPs_nxt, CallV_yield, hb]
  refine f16 hq ?_
  simp (decide := true) only [WP_skip, WP_ops, WP_seq, WP_block, WP_exit, WP_ret, WP_cond, CdC_true, CdC_false, seqQ_normal, seqQ_exit, seqQ_ret, seqQ_pan, blkQ_normal, blkQ_exit, blkQ_ret, blkQ_pan, bodyQ_ret, bodyQ_normal, bodyQ_pan, bodyK_some, WP_aops, WPa_nil, WPa_wr, WrA_new, CallA_new, WPa_rd, WPa_call, WPa_callv, WPa_gd, RdA_some, CallA_ret, WPs_nil, WPs_rd, WPs_wr, WPs_call, WPs_callv, WPs_gd, RdK_some, WrK_some, CallK_ret, CallV_func, GdS_tt, GdS_tf, GdS_ft, GdS_ff, GdA_tt, GdA_tf, GdA_ft, GdA_ff, evR, lenV_slc, lenV_tail, lenV_str, iaV_slc, evX, AO.ev, Fr.put_some, Fr.put_none, Fr.at_set, Fr.at_ofArgs, List.getD_cons_zero, List.getD_cons_succ, List.getD_nil, binV, intOp, strOp, AV.cells, AHeap.cell_new, AHeap.range_new, AHeap.cell_old, AHeap.range_old, AHeap.get_new, AHeap.get_old, AHeap.put_new, AHeap.lt_new, AHeap.lt_alloc, AHeap.wf_alloc, AHeap.base_new, AHeap.base_alloc, evRVs, evRV, tup, List.map_cons, List.map_nil, List.cons_append, List.nil_append, List.append_nil, List.getElem?_cons_zero, List.getElem?_cons_succ, Nat.zero_add, Option.map_some, Option.map_none, if_true, if_false, ↓reduceIte, Bool.false_eq_true, eq_self, Bool.not_false, Bool.not_true, decide_true, decide_false, Option.isNone_none, Option.isNone_some, WPs_nxt, CallV_yield, hb]
  refine f17 ?_
  unfold waitB at hw
  cases h1 : (decide (0 ≤ n) && decide (n < 4)) with
  | false =>
    simp (decide := true) only [WP_skip, WP_ops, WP_seq, WP_block, WP_exit, WP_ret, WP_cond, CdC_true, CdC_false, seqQ_normal, seqQ_exit, seqQ_ret, seqQ_pan, blkQ_normal, blkQ_exit, blkQ_ret, blkQ_pan, bodyQ_ret, bodyQ_normal, bodyQ_pan, bodyK_some, WP_aops, WPa_nil, WPa_wr, WrA_new, CallA_new, WPa_rd, WPa_call, WPa_callv, WPa_gd, RdA_some, CallA_ret, WPs_nil, WPs_rd, WPs_wr, WPs_call, WPs_callv, WPs_gd, RdK_some, WrK_some, CallK_ret, CallV_func, GdS_tt, GdS_tf, GdS_ft, GdS_ff, GdA_tt, GdA_tf, GdA_ft, GdA_ff, evR, lenV_slc, lenV_tail, lenV_str, iaV_slc, evX, AO.ev, Fr.put_some, Fr.put_none, Fr.at_set, Fr.at_ofArgs, List.getD_cons_zero, List.getD_cons_succ, List.getD_nil, binV, intOp, strOp, AV.cells, AHeap.cell_new, AHeap.range_new, AHeap.cell_old, AHeap.range_old, AHeap.get_new, AHeap.get_old, AHeap.put_new, AHeap.lt_new, AHeap.lt_alloc, AHeap.wf_alloc, AHeap.base_new, AHeap.base_alloc, evRVs, evRV, tup, List.map_cons, List.map_nil, List.cons_append, List.nil_append, List.append_nil, List.getElem?_cons_zero, List.getElem?_cons_succ, Nat.zero_add, Option.map_some, Option.map_none, if_true, if_false, ↓reduceIte, Bool.false_eq_true, eq_self, Bool.not_false, Bool.not_true, decide_true, decide_false, Option.isNone_none, Option.isNone_some, WPs_nxt, CallV_yield, hb, h1]
    exact .same (.refl _) trivial h
  | true =>
    rw [h1] at hw
    by_cases h2 : k = 0
    · have e2 : ((k : Int) == 0) = true := by simp [h2]
      simp (decide := true) only [WP_skip, WP_ops, WP_seq, WP_block, WP_exit, WP_ret, WP_cond, CdC_true, CdC_false, seqQ_normal, seqQ_exit, seqQ_ret, seqQ_pan, blkQ_normal, blkQ_exit, blkQ_ret, blkQ_pan, bodyQ_ret, bodyQ_normal, bodyQ_pan, bodyK_some, WP_aops, WPa_nil, WPa_wr, WrA_new, CallA_new, WPa_rd, WPa_call, WPa_callv, WPa_gd, RdA_some, CallA_ret, WPs_nil, WPs_rd, WPs_wr, WPs_call, WPs_callv, WPs_gd, RdK_some, WrK_some, CallK_ret, CallV_func, GdS_tt, GdS_tf, GdS_ft, GdS_ff, GdA_tt, GdA_tf, GdA_ft, GdA_ff, evR, lenV_slc, lenV_tail, lenV_str, iaV_slc, evX, AO.ev, Fr.put_some, Fr.put_none, Fr.at_set, Fr.at_ofArgs, List.getD_cons_zero, List.getD_cons_succ, List.getD_nil, binV, intOp, strOp, AV.cells, AHeap.cell_new, AHeap.range_new, AHeap.cell_old, AHeap.range_old, AHeap.get_new, AHeap.get_old, AHeap.put_new, AHeap.lt_new, AHeap.lt_alloc, AHeap.wf_alloc, AHeap.base_new, AHeap.base_alloc, evRVs, evRV, tup, List.map_cons, List.map_nil, List.cons_append, List.nil_append, List.append_nil, List.getElem?_cons_zero, List.getElem?_cons_succ, Nat.zero_add, Option.map_some, Option.map_none, if_true, if_false, ↓reduceIte, Bool.false_eq_true, eq_self, Bool.not_false, Bool.not_true, decide_true, decide_false, Option.isNone_none, Option.isNone_some, WPs_nxt, CallV_yield, hb, h1, e2]
      exact .same (.refl _) trivial h
    · have e2 : ((k : Int) == 0) = false := beq_false_of_ne (by omega)
      by_cases h3 : 8 < k
      · have e3 : decide ((k : Int) > 8) = true := by simp; omega
        simp (decide := true) only [WP_skip, WP_ops, WP_seq, WP_block, WP_exit, WP_ret, WP_cond, CdC_true, CdC_false, seqQ_normal, seqQ_exit, seqQ_ret, seqQ_pan, blkQ_normal, blkQ_exit, blkQ_ret, blkQ_pan, bodyQ_ret, bodyQ_normal, bodyQ_pan, bodyK_some, WP_aops, WPa_nil, WPa_wr, WrA_new, CallA_new, WPa_rd, WPa_call, WPa_callv, WPa_gd, RdA_some, CallA_ret, WPs_nil, WPs_rd, WPs_wr, WPs_call, WPs_callv, WPs_gd, RdK_some, WrK_some, CallK_ret, CallV_func, GdS_tt, GdS_tf, GdS_ft, GdS_ff, GdA_tt, GdA_tf, GdA_ft, GdA_ff, evR, lenV_slc, lenV_tail, lenV_str, iaV_slc, evX, AO.ev, Fr.put_some, Fr.put_none, Fr.at_set, Fr.at_ofArgs, List.getD_cons_zero, List.getD_cons_succ, List.getD_nil, binV, intOp, strOp, AV.cells, AHeap.cell_new, AHeap.range_new, AHeap.cell_old, AHeap.range_old, AHeap.get_new, AHeap.get_old, AHeap.put_new, AHeap.lt_new, AHeap.lt_alloc, AHeap.wf_alloc, AHeap.base_new, AHeap.base_alloc, evRVs, evRV, tup, List.map_cons, List.map_nil, List.cons_append, List.nil_append, List.append_nil, List.getElem?_cons_zero, List.getElem?_cons_succ, Nat.zero_add, Option.map_some, Option.map_none, if_true, if_false, ↓reduceIte, Bool.false_eq_true, eq_self, Bool.not_false, Bool.not_true, decide_true, decide_false, Option.isNone_none, Option.isNone_some, WPs_nxt, CallV_yield, hb, h1, e2, e3]
        exact .same (.refl _) trivial h
      · have e3 : decide ((k : Int) > 8) = false := by simp; omega
        by_cases h4 : beat = 0
        · have e4 : (beat == 0) = true := by simp [h4]
          simp (decide := true) only [WP_skip, WP_ops, WP_seq, WP_block, WP_exit, WP_ret, WP_cond, CdC_true, CdC_false, seqQ_normal, seqQ_exit, seqQ_ret, seqQ_pan, blkQ_normal, blkQ_exit, blkQ_ret, blkQ_pan, bodyQ_ret, bodyQ_normal, bodyQ_pan, bodyK_some, WP_aops, WPa_nil, WPa_wr, WrA_new, CallA_new, WPa_rd, WPa_call, WPa_callv, WPa_gd, RdA_some, CallA_ret, WPs_nil, WPs_rd, WPs_wr, WPs_call, WPs_callv, WPs_gd, RdK_some, WrK_some, CallK_ret, CallV_func, GdS_tt, GdS_tf, GdS_ft, GdS_ff, GdA_tt, GdA_tf, GdA_ft, GdA_ff, evR, lenV_slc, lenV_tail, lenV_str, iaV_slc, evX, AO.ev, Fr.put_some, Fr.put_none, Fr.at_set, Fr.at_ofArgs, List.getD_cons_zero, List.getD_cons_succ, List.getD_nil, binV, intOp, strOp, AV.cells, AHeap.cell_new, AHeap.range_new, AHeap.cell_old, AHeap.range_old, AHeap.get_new, AHeap.get_old, AHeap.put_new, AHeap.lt_new, AHeap.lt_alloc, AHeap.wf_alloc, AHeap.base_new, AHeap.base_alloc, evRVs, evRV, tup, List.map_cons, List.map_nil, List.cons_append, List.nil_append, List.append_nil, List.getElem?_cons_zero, List.getElem?_cons_succ, Nat.zero_add, Option.map_some, Option.map_none, if_true, if_false, ↓reduceIte, Bool.false_eq_true, eq_self, Bool.not_false, Bool.not_true, decide_true, decide_false, Option.isNone_none, Option.isNone_some, WPs_nxt, CallV_yield, hb, h1, e2, e3, e4]
          exact .same (.refl _) trivial h
        · have e4 : (beat == 0) = false := by simp [h4]
          by_cases h5 : 60 < beat
          · have e5 : decide (beat > 60) = true := by simpa using h5
            simp (decide := true) only [WP_skip, WP_ops, WP_seq, WP_block, WP_exit, WP_ret, WP_cond, CdC_true, CdC_false, seqQ_normal, seqQ_exit, seqQ_ret, seqQ_pan, blkQ_normal, blkQ_exit, blkQ_ret, blkQ_pan, bodyQ_ret, bodyQ_normal, bodyQ_pan, bodyK_some, WP_aops, WPa_nil, WPa_wr, WrA_new, CallA_new, WPa_rd, WPa_call, WPa_callv, WPa_gd, RdA_some, CallA_ret, WPs_nil, WPs_rd, WPs_wr, WPs_call, WPs_callv, WPs_gd, RdK_some, WrK_some, CallK_ret, CallV_func, GdS_tt, GdS_tf, GdS_ft, GdS_ff, GdA_tt, GdA_tf, GdA_ft, GdA_ff, evR, lenV_slc, lenV_tail, lenV_str, iaV_slc, evX, AO.ev, Fr.put_some, Fr.put_none, Fr.at_set, Fr.at_ofArgs, List.getD_cons_zero, List.getD_cons_succ, List.getD_nil, binV, intOp, strOp, AV.cells, AHeap.cell_new, AHeap.range_new, AHeap.cell_old, AHeap.range_old, AHeap.get_new, AHeap.get_old, AHeap.put_new, AHeap.lt_new, AHeap.lt_alloc, AHeap.wf_alloc, AHeap.base_new, AHeap.base_alloc, evRVs, evRV, tup, List.map_cons, List.map_nil, List.cons_append, List.nil_append, List.append_nil, List.getElem?_cons_zero, List.getElem?_cons_succ, Nat.zero_add, Option.map_some, Option.map_none, if_true, if_false, ↓reduceIte, Bool.false_eq_true, eq_self, Bool.not_false, Bool.not_true, decide_true, decide_false, Option.isNone_none, Option.isNone_some, WPs_nxt, CallV_yield, hb, h1, e2, e3, e4, e5]
            exact .same (.refl _) trivial h
          · simp [h2, h3, h4, h5] at hw

/-- Where a key is not. -/
theorem findA_not {k : Int} : ∀ {es : List En} {i : Nat}, k ∉ es.map En.key → findA .num (.int .i64 k) (es.map En.e) i = some none
  | [], i, _ => rfl
  | x :: es, i, h => by
    simp only [List.map_cons, List.mem_cons, not_or] at h
    have hx : (k == x.key) = false := by simp [h.1]
    simp only [List.map_cons, findA, En.e, cellEq, if_true, hx]
    exact findA_not h.2

theorem f6 {H : AHeap} {Q : AE → AHeap → Prop} {lo q m ck : Nat} {ws : List Wt} {L : List Int} (hQ : QS H lo q m ws ck L) {p : Nat × Nat} {c : Nat ⊕ Nat} (hI : IS H p L) {k : Nat} (hk : k = L.length) {n beat : Int} (hw : waitB n k beat = true) (hnew : n ∉ ws.map Wt.key) (h12 : ws.length ≤ 12) (hb0 : 0 ≤ beat)
    (h : ∀ H' w, Til lo H H' → (∀ i, i < H.next → i ≠ m → H'.get i = H.get i) → w.key = n → w.left = beat → QS H' lo q m (ws ++ [w]) (ck + 1) L → Q (.ret (.int .i64 0)) H') :
    ACall Tryz.prog 6 [.ptr (some (q, 0)), .int .i64 n, .slice (some p) k c, .int .u32 beat] H Q := by
  subst hk
  refine ACall.comp [(5, [⟨0, true, none⟩, ⟨1, true, none⟩, ⟨2, true, none⟩, ⟨3, true, none⟩, ⟨4, true, none⟩, ⟨5, true, none⟩, ⟨7, true, none⟩, ⟨6, false, some [5]⟩, ⟨8, false, none⟩, ⟨9, false, some [8]⟩, ⟨10, false, some [0, 1, 2, 3, 4, 5, 6, 7, 8, 9]⟩])] mixed (by decide +kernel) fun F hF' => ?_
  cbv at hF'
  cases hF'
  refine ⟨by simp, fun hb ha => ?_⟩
  unfold waitB at hw
  simp only [Bool.and_eq_true, Bool.not_eq_true', decide_eq_false_iff_not, decide_eq_true_eq] at hw
  obtain ⟨⟨⟨⟨⟨w1, w2⟩, w3⟩, w4⟩, w5⟩, w6⟩ := hw
  have e1 : (decide (0 ≤ n) && decide (n < 4)) = true := by simp [w1, w2]
  have e2 : ((L.length : Int) == 0) = false := beq_false_of_ne (by omega)
  have e3 : decide ((L.length : Int) > 8) = false := by simp; omega
  have e4 : (beat == 0) = false := by simp [w5]
  have e5 : decide (beat > 60) = false := by simpa using w6
  simp (decide := true) only [WP_skip, WP_ops, WP_seq, WP_block, WP_exit, WP_ret, WP_cond, CdC_true, CdC_false, seqQ_normal, seqQ_exit, seqQ_ret, seqQ_pan, blkQ_normal, blkQ_exit, blkQ_ret, blkQ_pan, bodyQ_ret, bodyQ_normal, bodyQ_pan, bodyK_some, WP_aops, WPa_nil, WPa_wr, WrA_new, CallA_new, WPa_rd, WPa_call, WPa_callv, WPa_gd, RdA_some, CallA_ret, WPs_nil, WPs_rd, WPs_wr, WPs_call, WPs_callv, WPs_gd, RdK_some, WrK_some, CallK_ret, CallV_func, GdS_tt, GdS_tf, GdS_ft, GdS_ff, GdA_tt, GdA_tf, GdA_ft, GdA_ff, evR, lenV_slc, lenV_tail, lenV_str, iaV_slc, evX, AO.ev, Fr.put_some, Fr.put_none, Fr.at_set, Fr.at_ofArgs, List.getD_cons_zero, List.getD_cons_succ, List.getD_nil, binV, intOp, strOp, AV.cells, AHeap.cell_new, AHeap.range_new, AHeap.cell_old, AHeap.range_old, AHeap.get_new, AHeap.get_old, AHeap.put_new, AHeap.lt_new, AHeap.lt_alloc, AHeap.wf_alloc, AHeap.base_new, AHeap.base_alloc, evRVs, evRV, tup, List.map_cons, List.map_nil, List.cons_append, List.nil_append, List.append_nil, List.getElem?_cons_zero, List.getElem?_cons_succ, Nat.zero_add, Option.map_some, Option.map_none, if_true, if_false, ↓reduceIte, Bool.false_eq_true, eq_self, Bool.not_false, Bool.not_true, decide_true, decide_false, Option.isNone_none, Option.isNone_some, WPs_nxt, CallV_yield, hb]
  refine f16 hQ.qget ?_
  simp (decide := true) only [WP_skip, WP_ops, WP_seq, WP_block, WP_exit, WP_ret, WP_cond, CdC_true, CdC_false, seqQ_normal, seqQ_exit, seqQ_ret, seqQ_pan, blkQ_normal, blkQ_exit, blkQ_ret, blkQ_pan, bodyQ_ret, bodyQ_normal, bodyQ_pan, bodyK_some, WP_aops, WPa_nil, WPa_wr, WrA_new, CallA_new, WPa_rd, WPa_call, WPa_callv, WPa_gd, RdA_some, CallA_ret, WPs_nil, WPs_rd, WPs_wr, WPs_call, WPs_callv, WPs_gd, RdK_some, WrK_some, CallK_ret, CallV_func, GdS_tt, GdS_tf, GdS_ft, GdS_ff, GdA_tt, GdA_tf, GdA_ft, GdA_ff, evR, lenV_slc, lenV_tail, lenV_str, iaV_slc, evX, AO.ev, Fr.put_some, Fr.put_none, Fr.at_set, Fr.at_ofArgs, List.getD_cons_zero, List.getD_cons_succ, List.getD_nil, binV, intOp, strOp, AV.cells, AHeap.cell_new, AHeap.range_new, AHeap.cell_old, AHeap.range_old, AHeap.get_new, AHeap.get_old, AHeap.put_new, AHeap.lt_new, AHeap.lt_alloc, AHeap.wf_alloc, AHeap.base_new, AHeap.base_alloc, evRVs, evRV, tup, List.map_cons, List.map_nil, List.cons_append, List.nil_append, List.append_nil, List.getElem?_cons_zero, List.getElem?_cons_succ, Nat.zero_add, Option.map_some, Option.map_none, if_true, if_false, ↓reduceIte, Bool.false_eq_true, eq_self, Bool.not_false, Bool.not_true, decide_true, decide_false, Option.isNone_none, Option.isNone_some, WPs_nxt, CallV_yield, hb]
  refine f17 ?_
  have hc := AHeap.cell_of (k := 0) hQ.qget
  simp (decide := true) only [WP_skip, WP_ops, WP_seq, WP_block, WP_exit, WP_ret, WP_cond, CdC_true, CdC_false, seqQ_normal, seqQ_exit, seqQ_ret, seqQ_pan, blkQ_normal, blkQ_exit, blkQ_ret, blkQ_pan, bodyQ_ret, bodyQ_normal, bodyQ_pan, bodyK_some, WP_aops, WPa_nil, WPa_wr, WrA_new, CallA_new, WPa_rd, WPa_call, WPa_callv, WPa_gd, RdA_some, CallA_ret, WPs_nil, WPs_rd, WPs_wr, WPs_call, WPs_callv, WPs_gd, RdK_some, WrK_some, CallK_ret, CallV_func, GdS_tt, GdS_tf, GdS_ft, GdS_ff, GdA_tt, GdA_tf, GdA_ft, GdA_ff, evR, lenV_slc, lenV_tail, lenV_str, iaV_slc, evX, AO.ev, Fr.put_some, Fr.put_none, Fr.at_set, Fr.at_ofArgs, List.getD_cons_zero, List.getD_cons_succ, List.getD_nil, binV, intOp, strOp, AV.cells, AHeap.cell_new, AHeap.range_new, AHeap.cell_old, AHeap.range_old, AHeap.get_new, AHeap.get_old, AHeap.put_new, AHeap.lt_new, AHeap.lt_alloc, AHeap.wf_alloc, AHeap.base_new, AHeap.base_alloc, evRVs, evRV, tup, List.map_cons, List.map_nil, List.cons_append, List.nil_append, List.append_nil, List.getElem?_cons_zero, List.getElem?_cons_succ, Nat.zero_add, Option.map_some, Option.map_none, if_true, if_false, ↓reduceIte, Bool.false_eq_true, eq_self, Bool.not_false, Bool.not_true, decide_true, decide_false, Option.isNone_none, Option.isNone_some, WPs_nxt, CallV_yield, hb, e1, e2, e3, e4, e5, WP_dops, WPd_nil, RdD_some, WPd_tf, WPd_tt, WPd_lct, WPd_lwt, rdOf, hc, TT]
  refine f18 rfl (by omega) hI fun H' hle hnx hg => ?_
  have hQ' := hQ.trans hle
  have hm := hQ'.mp.get
  have hb' := hle.wf hb
  have hfit : fillA [.slice none 0 (.inl 0), .int .u32 0] [(0, 1, .slice (some (H.next + 1, 0)) L.length (.inr 0)), (1, 1, .int .u32 beat)] = some [.slice (some (H.next + 1, 0)) L.length (.inr 0), .int .u32 beat] := rfl
  have hnew' : n ∉ (ws.map Wt.en).map En.key := by simpa [Wt.en] using hnew
  have hfa := findA_not (i := 0) hnew'
  have hm2 : (H'.alloc (.cells [.slice (some (H.next + 1, 0)) L.length (.inr 0), .int .u32 beat] none)).get m = some (.map ((ws.map Wt.en).map En.e) ck) := by rw [AHeap.get_old hb' hQ'.mp.lt]; exact hm
  have hmb : H'.base ≤ m := Nat.le_trans hQ'.base hQ'.mlo
  simp only [CallT_ret]
  refine ⟨fun x hx _ => ?_, ?_⟩
  · simp only [List.mem_singleton] at hx
    subst hx
    exact hle.get q hQ.qlt
  simp (decide := true) only [WP_skip, WP_ops, WP_seq, WP_block, WP_exit, WP_ret, WP_cond, CdC_true, CdC_false, seqQ_normal, seqQ_exit, seqQ_ret, seqQ_pan, blkQ_normal, blkQ_exit, blkQ_ret, blkQ_pan, bodyQ_ret, bodyQ_normal, bodyQ_pan, bodyK_some, WP_aops, WPa_nil, WPa_wr, WrA_new, CallA_new, WPa_rd, WPa_call, WPa_callv, WPa_gd, RdA_some, CallA_ret, WPs_nil, WPs_rd, WPs_wr, WPs_call, WPs_callv, WPs_gd, RdK_some, WrK_some, CallK_ret, CallV_func, GdS_tt, GdS_tf, GdS_ft, GdS_ff, GdA_tt, GdA_tf, GdA_ft, GdA_ff, evR, lenV_slc, lenV_tail, lenV_str, iaV_slc, evX, AO.ev, Fr.put_some, Fr.put_none, Fr.at_set, Fr.at_ofArgs, List.getD_cons_zero, List.getD_cons_succ, List.getD_nil, binV, intOp, strOp, AV.cells, AHeap.cell_new, AHeap.range_new, AHeap.cell_old, AHeap.range_old, AHeap.get_new, AHeap.get_old, AHeap.put_new, AHeap.lt_new, AHeap.lt_alloc, AHeap.wf_alloc, AHeap.base_new, AHeap.base_alloc, evRVs, evRV, tup, List.map_cons, List.map_nil, List.cons_append, List.nil_append, List.append_nil, List.getElem?_cons_zero, List.getElem?_cons_succ, Nat.zero_add, Option.map_some, Option.map_none, if_true, if_false, ↓reduceIte, Bool.false_eq_true, eq_self, Bool.not_false, Bool.not_true, decide_true, decide_false, Option.isNone_none, Option.isNone_some, WPs_nxt, CallV_yield, hb, WP_dops, WPd_nil, RdD_some, WPd_tf, WPd_tt, WPd_lct, WPd_lwt, rdOf, TT, hfit, WrT_some]
  refine ⟨fun x hx _ => ?_, ?_⟩
  · have hx' := (List.mem_filter.1 hx).1
    simp only [List.mem_singleton] at hx'
    subst hx'
    exact AHeap.get_old hb' hQ'.qlt
  simp (decide := true) only [WP_skip, WP_ops, WP_seq, WP_block, WP_exit, WP_ret, WP_cond, CdC_true, CdC_false, seqQ_normal, seqQ_exit, seqQ_ret, seqQ_pan, blkQ_normal, blkQ_exit, blkQ_ret, blkQ_pan, bodyQ_ret, bodyQ_normal, bodyQ_pan, bodyK_some, WP_aops, WPa_nil, WPa_wr, WrA_new, CallA_new, WPa_rd, WPa_call, WPa_callv, WPa_gd, RdA_some, CallA_ret, WPs_nil, WPs_rd, WPs_wr, WPs_call, WPs_callv, WPs_gd, RdK_some, WrK_some, CallK_ret, CallV_func, GdS_tt, GdS_tf, GdS_ft, GdS_ff, GdA_tt, GdA_tf, GdA_ft, GdA_ff, evR, lenV_slc, lenV_tail, lenV_str, iaV_slc, evX, AO.ev, Fr.put_some, Fr.put_none, Fr.at_set, Fr.at_ofArgs, List.getD_cons_zero, List.getD_cons_succ, List.getD_nil, binV, intOp, strOp, AV.cells, AHeap.cell_new, AHeap.range_new, AHeap.cell_old, AHeap.range_old, AHeap.get_new, AHeap.get_old, AHeap.put_new, AHeap.lt_new, AHeap.lt_alloc, AHeap.wf_alloc, AHeap.base_new, AHeap.base_alloc, evRVs, evRV, tup, List.map_cons, List.map_nil, List.cons_append, List.nil_append, List.append_nil, List.getElem?_cons_zero, List.getElem?_cons_succ, Nat.zero_add, Option.map_some, Option.map_none, if_true, if_false, ↓reduceIte, Bool.false_eq_true, eq_self, Bool.not_false, Bool.not_true, decide_true, decide_false, Option.isNone_none, Option.isNone_some, WPs_nxt, CallV_yield, hb, WP_dops, WPd_nil, RdD_some, WPd_tf, WPd_tt, WPd_lct, WPd_lwt, rdOf, TT, hm2, hmb, hfa, WrT_some]
  refine ⟨fun x hx hx2 => ?_, ?_⟩
  · have hx' := (List.mem_filter.1 (List.mem_filter.1 hx).1).1
    simp only [List.mem_singleton] at hx'
    subst hx'
    cases hx2
  have hb2 : (H'.alloc (.cells [.slice (some (H.next + 1, 0)) L.length (.inr 0), .int .u32 beat] none)).WF := AHeap.wf_alloc hb'
  have hlom : lo ≤ m := hQ.mlo
  have hmlt : m < H'.next := hQ'.mp.lt
  have hbl : H'.base ≤ lo := hQ'.base
  have put : ∀ (b : Blk) i, i ≠ m → ((H'.alloc (.cells [.slice (some (H.next + 1, 0)) L.length (.inr 0), .int .u32 beat] none)).put m b).get i = (H'.alloc (.cells [.slice (some (H.next + 1, 0)) L.length (.inr 0), .int .u32 beat] none)).get i := fun b i hi => by
    rw [AHeap.get_put _ _ _ _ (by show H'.base ≤ m; omega) (by show m < H'.next + 1; omega), if_neg hi]
  have old : ∀ (b : Blk) i, i < H'.next → i ≠ m → ((H'.alloc (.cells [.slice (some (H.next + 1, 0)) L.length (.inr 0), .int .u32 beat] none)).put m b).get i = H'.get i := fun b i hi hn => by
    rw [put b i hn, AHeap.get_old hb' hi]
  have kind : ∀ {i : Nat} {cs : List AV} {room : Option Nat}, H'.get i = some (.cells cs room) → i ≠ m := fun {i cs room} hi e => by
    rw [e, hm] at hi; cases hi
  refine .this (h _ ⟨n, ck, H'.next, H.next + 1, beat⟩ ⟨hle.base, by show H.next ≤ H'.next + 1; have := hle.next; omega, fun i hi => ?_⟩ (fun i hi hn => by rw [old _ i (Nat.lt_of_lt_of_le hi hle.next) hn]; exact hle.get i hi) rfl rfl ⟨?_, hQ'.qlo, hQ'.mlo, ?_, ?_, ⟨?_, ?_, ?_, ?_, ?_⟩, fun w hw => ?_, ?_, ?_, ?_⟩)
  · rw [old _ i (by omega) (by omega)]
    exact hle.get i (by have := hQ.mp.lt; omega)
  · exact hQ'.base
  · show q < H'.next + 1; have := hQ'.qlt; omega
  · rw [old _ q hQ'.qlt (kind hQ'.qget)]; exact hQ'.qget
  · show m < H'.next + 1; omega
  · rw [AHeap.get_put _ _ _ _ (by show H'.base ≤ m; omega) (by show m < H'.next + 1; omega), if_pos rfl]
    simp [Wt.en, En.e]
  · rw [List.map_append, List.map_append, List.nodup_append]
    refine ⟨hQ'.mp.nd, by simp, fun a ha b hb e => ?_⟩
    obtain ⟨x, hx, rfl⟩ := List.mem_map.1 ha
    have := hQ'.mp.old x hx
    simp [Wt.en] at hb
    omega
  · intro x hx
    rw [List.map_append] at hx
    rcases List.mem_append.1 hx with hx | hx
    · have := hQ'.mp.old x hx; omega
    · simp [Wt.en] at hx; subst hx; simp
  · simp; omega
  · rcases List.mem_append.1 hw with hw | hw
    · obtain ⟨h1, h2, h3, h4, h5⟩ := hQ'.wt w hw
      exact ⟨h1, by show _ < H'.next + 1; omega, by rw [old _ _ h2 (kind h3)]; exact h3, by show _ < H'.next + 1; omega, by rw [old _ _ h4 (kind h5)]; exact h5⟩
    · simp only [List.mem_singleton] at hw
      subst hw
      refine ⟨by show lo ≤ H'.next; omega, by show H'.next < H'.next + 1; omega, ?_, by show H.next + 1 < H'.next + 1; omega, ?_⟩
      · show AHeap.get _ H'.next = _
        rw [put _ _ (by omega), AHeap.get_new hb']; rfl
      · show AHeap.get _ (H.next + 1) = _
        rw [old _ _ (by omega) (kind hg)]; exact hg
  · rw [List.map_append, List.nodup_append]
    refine ⟨hQ'.ndw, by simp, fun a ha b hb e => ?_⟩
    obtain ⟨x, hx, rfl⟩ := List.mem_map.1 ha
    have := (hQ'.wt x hx).2.1
    simp at hb
    omega
  · rw [List.map_append, List.nodup_append]
    refine ⟨hQ'.ndk, by simp, fun x1 hx1 y1 hy1 e => ?_⟩
    have hy2 : y1 = n := by simpa using hy1
    rw [e, hy2] at hx1
    exact hnew hx1
  · intro w hw
    rcases List.mem_append.1 hw with hw | hw
    · exact hQ'.pos w hw
    · simp only [List.mem_singleton] at hw
      subst hw
      exact ⟨by show 1 ≤ beat; omega, by show beat ≤ 60; omega⟩
end Go.AM
