/- Queues: the tick. -/
import Derived.Test.YthjeldlbjhjgfaaGreatPiH
namespace Go.AM
open Go Go.Proofs
set_option linter.unusedSimpArgs false
set_option linter.unusedVariables false
set_option maxRecDepth 100000
set_option maxHeartbeats 8000000

theorem IntsO.low {H : AHeap} {lo lo' : Nat} {v : AV} {l : List Int} (h : IntsO H lo v l) (hle : lo' ≤ lo) : IntsO H lo' v l := by
  rcases h with h | ⟨a, h1, h2, h3⟩
  · exact .inl h
  · exact .inr ⟨a, h1, by omega, h3⟩
/-- What is turned below stays out of it. -/
theorem IntsO.til {H H' : AHeap} {lo : Nat} {v : AV} {l : List Int} (h : IntsO H lo v l) (hb : H'.base = H.base) (hn : H.next ≤ H'.next) (hg : ∀ i, lo ≤ i → i < H.next → H'.get i = H.get i) : IntsO H' lo v l := by
  rcases h with h | ⟨a, h1, h2, h3, h4, h5, h6⟩
  · exact .inl h
  · exact .inr ⟨a, h1, h2, by omega, by omega, by rw [hg a h2 h3]; exact h5, h6⟩

/-- Its blocks lie below. -/
def QB (hi q m : Nat) (ws : List Wt) : Prop := q < hi ∧ m < hi ∧ ∀ w ∈ ws, w.wb < hi ∧ w.fb < hi
theorem QS.qb {H : AHeap} {lo q m ck : Nat} {ws : List Wt} {L : List Int} (h : QS H lo q m ws ck L) : QB H.next q m ws := ⟨h.qlt, h.mp.lt, fun w hw => have ⟨_, h2, _, h4, _⟩ := h.wt w hw; ⟨h2, h4⟩⟩
theorem QB.step {hi q m : Nat} {ws : List Wt} (h : QB hi q m ws) (k : Int) : QB hi q m (stepW k ws) := by
  refine ⟨h.1, h.2.1, fun w hw => ?_⟩
  obtain ⟨x, hx, he⟩ := List.mem_filterMap.1 hw
  split at he
  · unfold decW at he
    split at he
    · cases he
    · cases he; exact h.2.2 x hx
  · cases he; exact h.2.2 w hx
theorem QB.run {hi q m : Nat} : ∀ {l : List Int} {ws : List Wt}, QB hi q m ws → QB hi q m (runW l ws)
  | [], _, h => h
  | k :: l, _, h => QB.run (l := l) (h.step k)
theorem QS.move {H H' : AHeap} {lo hi q m ck : Nat} {ws : List Wt} {L : List Int} (h : QS H lo q m ws ck L) (hq : QB hi q m ws) (hb : H'.base = H.base) (hn : H.next ≤ H'.next) (hg : ∀ i, i < hi → H'.get i = H.get i) : QS H' lo q m ws ck L :=
  ⟨by rw [hb]; exact h.base, h.qlo, h.mlo, Nat.lt_of_lt_of_le h.qlt hn, by rw [hg q hq.1]; exact h.qget, ⟨Nat.lt_of_lt_of_le h.mp.lt hn, by rw [hg m hq.2.1]; exact h.mp.get, h.mp.nd, h.mp.old, h.mp.le⟩,
    fun w hw => have ⟨h1, h2, h3, h4, h5⟩ := h.wt w hw; have ⟨k1, k2⟩ := hq.2.2 w hw; ⟨h1, Nat.lt_of_lt_of_le h2 hn, by rw [hg _ k1]; exact h3, Nat.lt_of_lt_of_le h4 hn, by rw [hg _ k2]; exact h5⟩, h.ndw, h.ndk, h.pos⟩

theorem f11 {H : AHeap} {Q : AE → AHeap → Prop} {lo q m ck : Nat} {ws : List Wt} {L : List Int} (hQ : QS H lo q m ws ck L) (h12 : ws.length ≤ 12)
    (h : ∀ (H' : AHeap) (v : AV) (ks : List Int), Til lo H H' → (∀ x, x < H.next → x ≠ m → (∀ w ∈ ws, x ≠ w.wb) → H'.get x = H.get x) → QS H' lo q m (tickW ws) ck L → ks.Perm (ws.map Wt.key) → (∀ k (h1 : k + 1 < ks.length), ks[k] ≤ ks[k + 1]) → IntsO H' lo v (ks.filter (endsW ws)) → Q (.ret v) H') :
    ACall Tryz.prog 11 [.ptr (some (q, 0))] H Q := by
  refine ACall.comp [] mixed (by decide +kernel) fun F hF' => ?_
  cbv at hF'
  cases hF'
  refine ⟨by simp, fun hb ha => ?_⟩
  simp (decide := true) only [WP_skip, WP_ops, WP_seq, WP_block, WP_exit, WP_ret, WP_cond, CdC_true, CdC_false, seqQ_normal, seqQ_exit, seqQ_ret, seqQ_pan, blkQ_normal, blkQ_exit, blkQ_ret, blkQ_pan, bodyQ_ret, bodyQ_normal, bodyQ_pan, bodyK_some, WP_aops, WPa_nil, WPa_wr, WrA_new, CallA_new, WPa_rd, WPa_call, WPa_callv, WPa_gd, RdA_some, CallA_ret, WPs_nil, WPs_rd, WPs_wr, WPs_call, WPs_callv, WPs_gd, RdK_some, WrK_some, CallK_ret, CallV_func, GdS_tt, GdS_tf, GdS_ft, GdS_ff, GdA_tt, GdA_tf, GdA_ft, GdA_ff, evR, lenV_slc, lenV_tail, lenV_str, iaV_slc, evX, AO.ev, Fr.put_some, Fr.put_none, Fr.at_set, Fr.at_ofArgs, List.getD_cons_zero, List.getD_cons_succ, List.getD_nil, binV, intOp, strOp, AV.cells, AHeap.cell_new, AHeap.range_new, AHeap.cell_old, AHeap.range_old, AHeap.get_new, AHeap.get_old, AHeap.put_new, AHeap.lt_new, AHeap.lt_alloc, AHeap.wf_alloc, AHeap.base_new, AHeap.base_alloc, evRVs, evRV, tup, List.map_cons, List.map_nil, List.cons_append, List.nil_append, List.append_nil, List.getElem?_cons_zero, List.getElem?_cons_succ, Nat.zero_add, Option.map_some, Option.map_none, if_true, if_false, ↓reduceIte, Bool.false_eq_true, eq_self, Bool.not_false, Bool.not_true, decide_true, decide_false, Option.isNone_none, Option.isNone_some, WPs_nxt, CallV_yield, hb]
  refine f12 hQ h12 fun H1 v ks hle1 hv hperm hsort => ?_
  have hb1 := hle1.wf hb
  have hlen : ks.length = ws.length := by simpa using hperm.length_eq
  have hnd : ks.Nodup := hperm.nodup_iff.2 hQ.ndk
  have hlv : lenV H1 .slc v = some (.int .i64 ks.length) := by
    rcases hv with ⟨rfl, rfl⟩ | ⟨a, rfl, _⟩ <;> rfl
  simp (decide := true) only [WP_skip, WP_ops, WP_seq, WP_block, WP_exit, WP_ret, WP_cond, CdC_true, CdC_false, seqQ_normal, seqQ_exit, seqQ_ret, seqQ_pan, blkQ_normal, blkQ_exit, blkQ_ret, blkQ_pan, bodyQ_ret, bodyQ_normal, bodyQ_pan, bodyK_some, WP_aops, WPa_nil, WPa_wr, WrA_new, CallA_new, WPa_rd, WPa_call, WPa_callv, WPa_gd, RdA_some, CallA_ret, WPs_nil, WPs_rd, WPs_wr, WPs_call, WPs_callv, WPs_gd, RdK_some, WrK_some, CallK_ret, CallV_func, GdS_tt, GdS_tf, GdS_ft, GdS_ff, GdA_tt, GdA_tf, GdA_ft, GdA_ff, evR, lenV_slc, lenV_tail, lenV_str, iaV_slc, evX, AO.ev, Fr.put_some, Fr.put_none, Fr.at_set, Fr.at_ofArgs, List.getD_cons_zero, List.getD_cons_succ, List.getD_nil, binV, intOp, strOp, AV.cells, AHeap.cell_new, AHeap.range_new, AHeap.cell_old, AHeap.range_old, AHeap.get_new, AHeap.get_old, AHeap.put_new, AHeap.lt_new, AHeap.lt_alloc, AHeap.wf_alloc, AHeap.base_new, AHeap.base_alloc, evRVs, evRV, tup, List.map_cons, List.map_nil, List.cons_append, List.nil_append, List.append_nil, List.getElem?_cons_zero, List.getElem?_cons_succ, Nat.zero_add, Option.map_some, Option.map_none, if_true, if_false, ↓reduceIte, Bool.false_eq_true, eq_self, Bool.not_false, Bool.not_true, decide_true, decide_false, Option.isNone_none, Option.isNone_some, WPs_nxt, CallV_yield, hb, hlv]
  refine WP_loop (fun t' H' => ∃ (i : Nat) (ov : AV), i ≤ ks.length ∧ Til lo H H' ∧ (∀ x, x < H.next → x ≠ m → (∀ w ∈ ws, x ≠ w.wb) → H'.get x = H.get x) ∧ (∀ x, H.next ≤ x → x < H1.next → H'.get x = H1.get x) ∧ H1.next ≤ H'.next ∧ QS H' lo q m (runW (ks.take i) ws) ck L ∧ IntsO H' H1.next ov ((ks.take i).filter (endsW ws)) ∧
    Fr.at t' 0 = .ptr (some (q, 0)) ∧ Fr.at t' 3 = ov ∧ Fr.at t' 8 = v ∧ Fr.at t' 9 = .int .i64 ks.length ∧ Fr.at t' 10 = .int .i64 i) (fun t' _ => ((ks.length : Int) - numOf (Fr.at t' 10)).toNat) ?_ ?_
  · refine ⟨0, _, Nat.zero_le _, hle1.til (by have := hQ.qlt; have := hQ.qlo; omega), fun x hx _ _ => hle1.get x hx, fun x _ _ => rfl, Nat.le_refl _, ?_, .inl ⟨by simp, rfl⟩, ?_⟩
    · simpa [runW] using hQ.trans hle1
    · simp (decide := true) only [WP_skip, WP_ops, WP_seq, WP_block, WP_exit, WP_ret, WP_cond, CdC_true, CdC_false, seqQ_normal, seqQ_exit, seqQ_ret, seqQ_pan, blkQ_normal, blkQ_exit, blkQ_ret, blkQ_pan, bodyQ_ret, bodyQ_normal, bodyQ_pan, bodyK_some, WP_aops, WPa_nil, WPa_wr, WrA_new, CallA_new, WPa_rd, WPa_call, WPa_callv, WPa_gd, RdA_some, CallA_ret, WPs_nil, WPs_rd, WPs_wr, WPs_call, WPs_callv, WPs_gd, RdK_some, WrK_some, CallK_ret, CallV_func, GdS_tt, GdS_tf, GdS_ft, GdS_ff, GdA_tt, GdA_tf, GdA_ft, GdA_ff, evR, lenV_slc, lenV_tail, lenV_str, iaV_slc, evX, AO.ev, Fr.put_some, Fr.put_none, Fr.at_set, Fr.at_ofArgs, List.getD_cons_zero, List.getD_cons_succ, List.getD_nil, binV, intOp, strOp, AV.cells, AHeap.cell_new, AHeap.range_new, AHeap.cell_old, AHeap.range_old, AHeap.get_new, AHeap.get_old, AHeap.put_new, AHeap.lt_new, AHeap.lt_alloc, AHeap.wf_alloc, AHeap.base_new, AHeap.base_alloc, evRVs, evRV, tup, List.map_cons, List.map_nil, List.cons_append, List.nil_append, List.append_nil, List.getElem?_cons_zero, List.getElem?_cons_succ, Nat.zero_add, Option.map_some, Option.map_none, if_true, if_false, ↓reduceIte, Bool.false_eq_true, eq_self, Bool.not_false, Bool.not_true, decide_true, decide_false, Option.isNone_none, Option.isNone_some, WPs_nxt, CallV_yield, hb, Int.natCast_zero, and_self]
  · rintro t' H' ⟨i, ov, hi, hT, hkeep, hsame, hnx, hQ', hO, g0, g3, g8, g9, g10⟩
    have hb' : H'.WF := by unfold AHeap.WF at *; have := hT.base; have := hle1.base; omega
    by_cases hlt : i < ks.length
    · have hI : (i : Int) < (ks.length : Int) := by omega
      have hi0 : 0 ≤ (i : Int) := by omega
      -- the one whose turn it is
      have hkm : ks[i] ∈ ws.map Wt.key := hperm.mem_iff.1 (List.getElem_mem hlt)
      obtain ⟨w, hw, hwk⟩ := List.mem_map.1 hkm
      have hnot : ks[i] ∉ ks.take i := by
        intro hm
        obtain ⟨k, hk, hke⟩ := List.getElem_of_mem hm
        simp only [List.length_take] at hk
        rw [List.getElem_take] at hke
        have := (List.getElem_inj (h₀ := by omega) (h₁ := hlt) hnd).1 hke
        omega
      have hwr : w ∈ runW (ks.take i) ws := runW_mem hw (by rw [hwk]; exact hnot)
      obtain ⟨j, hj, hjw⟩ := List.getElem_of_mem hwr
      obtain ⟨R, hR⟩ : ∃ R, R = runW (ks.take i) ws := ⟨_, rfl⟩
      rw [← hR] at hQ' hj hwr
      have hjw' : R[j] = w := by simp only [hR]; exact hjw
      have hjk : R[j].key = ks[i] := by rw [hjw', hwk]
      have hstep := stepW_at hj hjk hQ'.ndk
      have htake : ks.take (i + 1) = ks.take i ++ [ks[i]] := by rw [List.take_succ_eq_append_getElem hlt]
      have hrun : runW (ks.take (i + 1)) ws = stepW ks[i] R := by rw [htake, runW, List.foldl_append, hR]; rfl
      have hends : endsW ws ks[i] = (w.left == 1) := by rw [← hwk]; exact endsW_at hQ.ndk hw
      obtain ⟨a1, a2, a3, a4, a5⟩ := hQ'.wt _ (List.getElem_mem hj)
      have hpos := hQ'.pos _ (List.getElem_mem hj)
      have hwbb : H'.base ≤ R[j].wb := Nat.le_trans hQ'.base a1
      have hmb : H'.base ≤ m := Nat.le_trans hQ'.base hQ'.mlo
      -- the slice's cell
      obtain ⟨a, hva, ha1, ha2, ha3, ha4, _⟩ : ∃ a, v = .slice (some (a, 0)) ks.length (.inr 0) ∧ H.next ≤ a ∧ a < H1.next ∧ H1.base ≤ a ∧ H1.get a = some (.cells (intsA ks) (some 1)) ∧ 0 < ks.length := by
        rcases hv with ⟨hn, _⟩ | hv
        · rw [hn] at hlt; simp at hlt
        · exact hv
      have hca : H'.cell (a, i) = some (.int .i64 ks[i]) := by
        rw [AHeap.cell_of (by rw [hsame a ha1 ha2]; exact ha4)]; simp [intsA, hlt]
      have hcq := AHeap.cell_of (k := 0) hQ'.qget
      have hmg := hQ'.mp.get
      have hfa := findA_here (k := ks[i]) (es := R.map Wt.en) (j := j) (by simpa using hj) (by simpa [Wt.en] using hjk) (by have := hQ'.ndk; simpa [Wt.en, Function.comp_def] using this) 0
      have hfv : ((R.map Wt.en)[j]'(by simpa using hj)).val = .ptr (some (R[j].wb, 0)) := by simp [Wt.en]
      rw [hfv, Nat.zero_add] at hfa
      have hcw : H'.cell (R[j].wb, 1) = some (.int .u32 R[j].left) := by rw [AHeap.cell_of a3]; rfl
      have hcs : splice (R[j].cs L) 1 [.int .u32 (R[j].left - 1)] = [.slice (some (R[j].fb, 0)) L.length (.inr 0), .int .u32 (R[j].left - 1)] := rfl
      have hclen : 1 + 1 ≤ (R[j].cs L).length := by show 1 + 1 ≤ 2; omega
      have hwrap : IntKind.u32.wrap (R[j].left - 1) = R[j].left - 1 := by rw [IntKind.wrap_u32]; omega
      have hcw2 : (H'.put R[j].wb (.cells [.slice (some (R[j].fb, 0)) L.length (.inr 0), .int .u32 (R[j].left - 1)] none)).cell (R[j].wb, 1) = some (.int .u32 (R[j].left - 1)) := by
        rw [AHeap.cell_of (by rw [AHeap.get_put _ _ _ _ hwbb a2, if_pos rfl])]; rfl
      simp (decide := true) only [WP_skip, WP_ops, WP_seq, WP_block, WP_exit, WP_ret, WP_cond, CdC_true, CdC_false, seqQ_normal, seqQ_exit, seqQ_ret, seqQ_pan, blkQ_normal, blkQ_exit, blkQ_ret, blkQ_pan, bodyQ_ret, bodyQ_normal, bodyQ_pan, bodyK_some, WP_aops, WPa_nil, WPa_wr, WrA_new, CallA_new, WPa_rd, WPa_call, WPa_callv, WPa_gd, RdA_some, CallA_ret, WPs_nil, WPs_rd, WPs_wr, WPs_call, WPs_callv, WPs_gd, RdK_some, WrK_some, CallK_ret, CallV_func, GdS_tt, GdS_tf, GdS_ft, GdS_ff, GdA_tt, GdA_tf, GdA_ft, GdA_ff, evR, lenV_slc, lenV_tail, lenV_str, iaV_slc, evX, AO.ev, Fr.put_some, Fr.put_none, Fr.at_set, Fr.at_ofArgs, List.getD_cons_zero, List.getD_cons_succ, List.getD_nil, binV, intOp, strOp, AV.cells, AHeap.cell_new, AHeap.range_new, AHeap.cell_old, AHeap.range_old, AHeap.get_new, AHeap.get_old, AHeap.put_new, AHeap.lt_new, AHeap.lt_alloc, AHeap.wf_alloc, AHeap.base_new, AHeap.base_alloc, evRVs, evRV, tup, List.map_cons, List.map_nil, List.cons_append, List.nil_append, List.append_nil, List.getElem?_cons_zero, List.getElem?_cons_succ, Nat.zero_add, Option.map_some, Option.map_none, if_true, if_false, ↓reduceIte, Bool.false_eq_true, eq_self, Bool.not_false, Bool.not_true, decide_true, decide_false, Option.isNone_none, Option.isNone_some, WPs_nxt, CallV_yield, hb, g0, g3, g8, g9, g10, hva, hI, hi0, and_self, Int.toNat_natCast, Nat.mul_one, hca, hcq, lookA, lookR, hmg, hfa, hcw, hwrap, a3, hwbb, hclen, hcs, hcw2, List.length_cons, List.length_nil, List.all_cons, List.all_nil, AV.one, Bool.and_true]
      have hqb : QB H.next q m R := by rw [hR]; exact hQ.qb.run
      obtain ⟨hqb1, hqb2, hqb3⟩ := hqb
      obtain ⟨hwlt, hflt⟩ := hqb3 _ (List.getElem_mem hj)
      have hmlo := hQ'.mlo
      have hH1 := hle1.next
      by_cases hone : w.left = 1
      · have hz : (R[j].left - 1 == 0) = true := by rw [hjw', hone]; rfl
        have hdec : decW R[j] = none := by rw [hjw', decW, if_pos hone]
        rw [hdec] at hstep
        have hcq2 : (H'.put R[j].wb (.cells [.slice (some (R[j].fb, 0)) L.length (.inr 0), .int .u32 (R[j].left - 1)] none)).cell (q, 0) = some (.map (some m)) := by
          rw [AHeap.cell_of (by rw [AHeap.get_put _ _ _ _ hwbb a2, if_neg (fun e => by have := hQ'.qget; rw [e, a3] at this; simp [Wt.cs] at this)]; exact hQ'.qget)]; rfl
        have hmg2 : (H'.put R[j].wb (.cells [.slice (some (R[j].fb, 0)) L.length (.inr 0), .int .u32 (R[j].left - 1)] none)).get m = some (.map ((R.map Wt.en).map En.e) ck) := by
          rw [AHeap.get_put _ _ _ _ hwbb a2, if_neg (fun e => hQ'.kind a3 e.symm)]; exact hmg
        obtain ⟨H3, hH3⟩ : ∃ H3, H3 = (H'.put R[j].wb (.cells [.slice (some (R[j].fb, 0)) L.length (.inr 0), .int .u32 (R[j].left - 1)] none)).put m (.map (((R.map Wt.en).map En.e).eraseIdx j) ck) := ⟨_, rfl⟩
        have h3b : H3.base = H'.base := by rw [hH3]; rfl
        have h3n : H3.next = H'.next := by rw [hH3]; rfl
        have h3g : ∀ x, x ≠ R[j].wb → x ≠ m → H3.get x = H'.get x := fun x hx1 hx2 => by
          rw [hH3, AHeap.get_put _ _ _ _ (by exact hmb) (by exact hQ'.mp.lt), if_neg hx2, AHeap.get_put _ _ _ _ hwbb a2, if_neg hx1]
        have hQ3 : QS H3 lo q m (R.eraseIdx j) ck L := by rw [hH3]; exact hQ'.drop hj _
        have hb3 : H3.WF := by unfold AHeap.WF at *; omega
        have hO3 : IntsO H3 H1.next ov ((ks.take i).filter (endsW ws)) := hO.til h3b (by omega) fun x hx1 _ => h3g x (by omega) (by omega)
        have hO4 := hO3.trans (AHeap.Le.new hb3 (b := .cells [.int .i64 ks[i]] none))
        have hx : srcOf (H3.alloc (.cells [.int .i64 ks[i]] none)) 1 (.slice (some (H3.next, 0)) 1 (.inl 1)) = some (1, [.int .i64 ks[i]]) := by
          have := AHeap.range_new (n := 1 * 1) (k := 0) hb3 (cs := [.int .i64 ks[i]]) (room := none)
          simp only [srcOf, this]; rfl
        have hfl : ((ks.take i).filter (endsW ws)).length ≤ 12 := by
          refine Nat.le_trans (List.length_filter_le _ _) ?_
          rw [List.length_take]; omega
        obtain ⟨H5, v5, happ, b1, b2, b3, b4, b5⟩ := app_one (bytes := 8) (k := ks[i]) (AHeap.wf_alloc hb3) hO4 hx (by omega) (by omega)
        simp only [AHeap.base_alloc, AHeap.next_alloc] at b1 b2 b3 b4 b5
        simp (decide := true) only [WP_skip, WP_ops, WP_seq, WP_block, WP_exit, WP_ret, WP_cond, CdC_true, CdC_false, seqQ_normal, seqQ_exit, seqQ_ret, seqQ_pan, blkQ_normal, blkQ_exit, blkQ_ret, blkQ_pan, bodyQ_ret, bodyQ_normal, bodyQ_pan, bodyK_some, WP_aops, WPa_nil, WPa_wr, WrA_new, CallA_new, WPa_rd, WPa_call, WPa_callv, WPa_gd, RdA_some, CallA_ret, WPs_nil, WPs_rd, WPs_wr, WPs_call, WPs_callv, WPs_gd, RdK_some, WrK_some, CallK_ret, CallV_func, GdS_tt, GdS_tf, GdS_ft, GdS_ff, GdA_tt, GdA_tf, GdA_ft, GdA_ff, evR, lenV_slc, lenV_tail, lenV_str, iaV_slc, evX, AO.ev, Fr.put_some, Fr.put_none, Fr.at_set, Fr.at_ofArgs, List.getD_cons_zero, List.getD_cons_succ, List.getD_nil, binV, intOp, strOp, AV.cells, AHeap.cell_new, AHeap.range_new, AHeap.cell_old, AHeap.range_old, AHeap.get_new, AHeap.get_old, AHeap.put_new, AHeap.lt_new, AHeap.lt_alloc, AHeap.wf_alloc, AHeap.base_new, AHeap.base_alloc, evRVs, evRV, tup, List.map_cons, List.map_nil, List.cons_append, List.nil_append, List.append_nil, List.getElem?_cons_zero, List.getElem?_cons_succ, Nat.zero_add, Option.map_some, Option.map_none, if_true, if_false, ↓reduceIte, Bool.false_eq_true, eq_self, Bool.not_false, Bool.not_true, decide_true, decide_false, Option.isNone_none, Option.isNone_some, WPs_nxt, CallV_yield, hb, g0, g3, g8, g9, g10, hz, hcq2, hmg2, hmb, hfa, AHeap.base_put, ← hH3, fill1, happ, wrapN i (by omega)]
        have h5g : ∀ x, x < H1.next → H5.get x = H3.get x := fun x hx => by rw [b4 x (by omega) (fun a0 ha0 _ => by omega), AHeap.get_old hb3 (by omega)]
        have hout : (ks.take (i + 1)).filter (endsW ws) = (ks.take i).filter (endsW ws) ++ [ks[i]] := by
          rw [htake, List.filter_append]
          simp [hends, hone]
        refine ⟨⟨i + 1, v5, hlt, ⟨by rw [b1, h3b]; exact hT.base, by have := hT.next; omega, fun x hx => ?_⟩, fun x hx1 hx2 hx3 => ?_, fun x hx1 hx2 => ?_, by omega, ?_, .inr ⟨H3.next + 1, by rw [hout]; exact b5, by omega, by omega, by unfold AHeap.WF at *; omega, by rw [hout]; exact b3, by rw [hout]; simp⟩, trivial, rfl, hva, trivial, ?_⟩, ?_⟩
        · rw [h5g x (by omega), h3g x (by omega) (by omega)]; exact hT.get x hx
        · rw [h5g x (by omega), h3g x (by rw [hjw']; exact hx3 w hw) hx2]; exact hkeep x hx1 hx2 hx3
        · rw [h5g x hx2, h3g x (by omega) (by omega)]; exact hsame x hx1 hx2
        · rw [hrun, hstep]
          exact hQ3.move (hi := H.next) ⟨hqb1, hqb2, fun x hx => hqb3 x (List.mem_of_mem_eraseIdx hx)⟩ b1 (by omega) fun x hx => h5g x (by omega)
        · rfl
        · simp only [numOf]; omega
      · have hz : (R[j].left - 1 == 0) = false := beq_false_of_ne (by rw [hjw']; omega)
        have hdec : decW R[j] = some { R[j] with left := R[j].left - 1 } := by rw [decW, if_neg (by rw [hjw']; exact hone)]
        rw [hdec] at hstep
        obtain ⟨H3, hH3⟩ : ∃ H3, H3 = H'.put R[j].wb (.cells [.slice (some (R[j].fb, 0)) L.length (.inr 0), .int .u32 (R[j].left - 1)] none) := ⟨_, rfl⟩
        have h3b : H3.base = H'.base := by rw [hH3]; rfl
        have h3n : H3.next = H'.next := by rw [hH3]; rfl
        have h3g : ∀ x, x ≠ R[j].wb → H3.get x = H'.get x := fun x hx1 => by rw [hH3, AHeap.get_put _ _ _ _ hwbb a2, if_neg hx1]
        have hQ3 : QS H3 lo q m (R.set j { R[j] with left := R[j].left - 1 }) ck L := by
          rw [hH3]; exact hQ'.dec hj _ (by rw [hjw'] at hpos ⊢; omega)
        have hO3 : IntsO H3 H1.next ov ((ks.take i).filter (endsW ws)) := hO.til h3b (by omega) fun x hx1 _ => h3g x (by omega)
        simp (decide := true) only [WP_skip, WP_ops, WP_seq, WP_block, WP_exit, WP_ret, WP_cond, CdC_true, CdC_false, seqQ_normal, seqQ_exit, seqQ_ret, seqQ_pan, blkQ_normal, blkQ_exit, blkQ_ret, blkQ_pan, bodyQ_ret, bodyQ_normal, bodyQ_pan, bodyK_some, WP_aops, WPa_nil, WPa_wr, WrA_new, CallA_new, WPa_rd, WPa_call, WPa_callv, WPa_gd, RdA_some, CallA_ret, WPs_nil, WPs_rd, WPs_wr, WPs_call, WPs_callv, WPs_gd, RdK_some, WrK_some, CallK_ret, CallV_func, GdS_tt, GdS_tf, GdS_ft, GdS_ff, GdA_tt, GdA_tf, GdA_ft, GdA_ff, evR, lenV_slc, lenV_tail, lenV_str, iaV_slc, evX, AO.ev, Fr.put_some, Fr.put_none, Fr.at_set, Fr.at_ofArgs, List.getD_cons_zero, List.getD_cons_succ, List.getD_nil, binV, intOp, strOp, AV.cells, AHeap.cell_new, AHeap.range_new, AHeap.cell_old, AHeap.range_old, AHeap.get_new, AHeap.get_old, AHeap.put_new, AHeap.lt_new, AHeap.lt_alloc, AHeap.wf_alloc, AHeap.base_new, AHeap.base_alloc, evRVs, evRV, tup, List.map_cons, List.map_nil, List.cons_append, List.nil_append, List.append_nil, List.getElem?_cons_zero, List.getElem?_cons_succ, Nat.zero_add, Option.map_some, Option.map_none, if_true, if_false, ↓reduceIte, Bool.false_eq_true, eq_self, Bool.not_false, Bool.not_true, decide_true, decide_false, Option.isNone_none, Option.isNone_some, WPs_nxt, CallV_yield, hb, g0, g3, g8, g9, g10, hz, ← hH3, wrapN i (by omega)]
        have hout : (ks.take (i + 1)).filter (endsW ws) = (ks.take i).filter (endsW ws) := by
          rw [htake, List.filter_append]
          simp [hends, hone]
        refine ⟨⟨i + 1, ov, hlt, ⟨by rw [h3b]; exact hT.base, by have := hT.next; omega, fun x hx => ?_⟩, fun x hx1 hx2 hx3 => ?_, fun x hx1 hx2 => ?_, by omega, ?_, by rw [hout]; exact hO3, trivial, rfl, hva, trivial, ?_⟩, ?_⟩
        · rw [h3g x (by omega)]; exact hT.get x hx
        · rw [h3g x (by rw [hjw']; exact hx3 w hw)]; exact hkeep x hx1 hx2 hx3
        · rw [h3g x (by omega)]; exact hsame x hx1 hx2
        · rw [hrun, hstep]; exact hQ3
        · rfl
        · simp only [numOf]; omega
    · have hI : ¬ (i : Int) < (ks.length : Int) := by omega
      have hie : i = ks.length := by omega
      subst hie
      rw [List.take_length] at hQ' hO
      rw [runW_all hQ.ndk hperm] at hQ'
      simp (decide := true) only [WP_skip, WP_ops, WP_seq, WP_block, WP_exit, WP_ret, WP_cond, CdC_true, CdC_false, seqQ_normal, seqQ_exit, seqQ_ret, seqQ_pan, blkQ_normal, blkQ_exit, blkQ_ret, blkQ_pan, bodyQ_ret, bodyQ_normal, bodyQ_pan, bodyK_some, WP_aops, WPa_nil, WPa_wr, WrA_new, CallA_new, WPa_rd, WPa_call, WPa_callv, WPa_gd, RdA_some, CallA_ret, WPs_nil, WPs_rd, WPs_wr, WPs_call, WPs_callv, WPs_gd, RdK_some, WrK_some, CallK_ret, CallV_func, GdS_tt, GdS_tf, GdS_ft, GdS_ff, GdA_tt, GdA_tf, GdA_ft, GdA_ff, evR, lenV_slc, lenV_tail, lenV_str, iaV_slc, evX, AO.ev, Fr.put_some, Fr.put_none, Fr.at_set, Fr.at_ofArgs, List.getD_cons_zero, List.getD_cons_succ, List.getD_nil, binV, intOp, strOp, AV.cells, AHeap.cell_new, AHeap.range_new, AHeap.cell_old, AHeap.range_old, AHeap.get_new, AHeap.get_old, AHeap.put_new, AHeap.lt_new, AHeap.lt_alloc, AHeap.wf_alloc, AHeap.base_new, AHeap.base_alloc, evRVs, evRV, tup, List.map_cons, List.map_nil, List.cons_append, List.nil_append, List.append_nil, List.getElem?_cons_zero, List.getElem?_cons_succ, Nat.zero_add, Option.map_some, Option.map_none, if_true, if_false, ↓reduceIte, Bool.false_eq_true, eq_self, Bool.not_false, Bool.not_true, decide_true, decide_false, Option.isNone_none, Option.isNone_some, WPs_nxt, CallV_yield, hb, g0, g3, g8, g9, g10, hI]
      exact .this (h _ _ ks hT hkeep hQ' hperm hsort (hO.low (by have := hQ.qlt; have := hQ.qlo; have := hle1.next; omega)))
end Go.AM
