/- Sorting numbers: the insertion sort. -/
import Derived.Test.YtjfjmlglgdhkoaaFdV
namespace Go.AM
open Go Go.Proofs
set_option linter.unusedSimpArgs false
set_option linter.unusedVariables false
set_option maxRecDepth 100000
set_option maxHeartbeats 4000000

def swapL (L : List Int) (i j : Nat) : List Int := (L.set i (L.getD j 0)).set j (L.getD i 0)
theorem swapL_len (L : List Int) (i j : Nat) : (swapL L i j).length = L.length := by simp [swapL]
theorem swapL_perm (L : List Int) (i j : Nat) (hi : i < L.length) (hj : j < L.length) : (swapL L i j).Perm L := by
  unfold swapL
  simp only [List.getD_eq_getElem?_getD, List.getElem?_eq_getElem hi, List.getElem?_eq_getElem hj, Option.getD_some]
  exact List.set_set_perm hi hj
theorem swapL_get (L : List Int) (i j k : Nat) (hi : i < L.length) (hj : j < L.length) (hk : k < L.length) : (swapL L i j)[k]'(by rw [swapL_len]; exact hk) = if k = j then L[i] else if k = i then L[j] else L[k] := by
  simp only [swapL, List.getD_eq_getElem?_getD, List.getElem?_eq_getElem hi, List.getElem?_eq_getElem hj, Option.getD_some, List.getElem_set]
  by_cases e1 : j = k
  · simp [e1]
  · by_cases e2 : i = k
    · subst e2; simp [e1, Ne.symm e1]
    · simp [e1, e2, Ne.symm e1, Ne.symm e2]

theorem f56 {H : AHeap} {Q : AE → AHeap → Prop} {b : Nat} {l : List Int} {n a e : Nat} (hn : n = l.length) (hN : NB H b l) (hae : a < e) (he : e ≤ l.length)
    (h : ∀ (H' : AHeap) (L : List Int), LeX b H H' → H'.next = H.next → NB H' b L → L.Perm l → (∀ k (h1 : k < L.length) (h2 : k < l.length), (k < a ∨ e ≤ k) → L[k] = l[k]) → (∀ k (h1 : k + 1 < L.length), a ≤ k → k + 1 < e → L[k] ≤ L[k + 1]) → Q (.ret (.tuple [])) H') :
    ACall Try.prog 56 [.slice (some (b, 0)) n (.inr 0), .int .i64 (a : Nat), .int .i64 (e : Nat)] H Q := by
  subst hn
  refine ACall.comp [(6, [⟨0, false, none⟩, ⟨1, false, none⟩, ⟨2, true, none⟩, ⟨3, true, none⟩, ⟨4, true, none⟩, ⟨5, false, none⟩, ⟨6, false, none⟩, ⟨7, false, none⟩, ⟨8, false, none⟩, ⟨9, false, none⟩, ⟨10, true, none⟩, ⟨11, true, none⟩, ⟨12, true, none⟩, ⟨13, false, none⟩, ⟨14, false, none⟩, ⟨15, false, some [0, 1, 5, 6, 7, 8, 9, 13, 14]⟩, ⟨16, false, none⟩, ⟨17, false, some [0, 1, 2, 3, 4, 5, 6, 7, 8, 9, 10, 11, 12, 13, 14, 15, 16]⟩])] mixed (by decide +kernel) fun F hF' => ?_
  cbv at hF'
  cases hF'
  refine ⟨by simp, fun hb ha => ?_⟩
  have hle := hN.le
  simp (decide := true) only [WP_skip, WP_ops, WP_seq, WP_block, WP_exit, WP_ret, WP_cond, CdC_true, CdC_false, seqQ_normal, seqQ_exit, seqQ_ret, seqQ_pan, blkQ_normal, blkQ_exit, blkQ_ret, blkQ_pan, bodyQ_ret, bodyQ_normal, bodyQ_pan, bodyK_some, WP_aops, WPa_nil, WPa_wr, WrA_new, CallA_new, WPa_rd, WPa_call, WPa_callv, WPa_gd, RdA_some, CallA_ret, WPs_nil, WPs_rd, WPs_wr, WPs_call, WPs_callv, WPs_gd, RdK_some, WrK_some, CallK_ret, CallV_func, GdS_tt, GdS_tf, GdS_ft, GdS_ff, GdA_tt, GdA_tf, GdA_ft, GdA_ff, evR, lenV_slc, lenV_tail, lenV_str, iaV_slc, evX, AO.ev, Fr.put_some, Fr.put_none, Fr.at_set, Fr.at_ofArgs, List.getD_cons_zero, List.getD_cons_succ, List.getD_nil, binV, intOp, strOp, AV.cells, AHeap.cell_new, AHeap.range_new, AHeap.cell_old, AHeap.range_old, AHeap.get_new, AHeap.get_old, AHeap.put_new, AHeap.lt_new, AHeap.lt_alloc, AHeap.wf_alloc, AHeap.base_new, AHeap.base_alloc, evRVs, evRV, tup, List.map_cons, List.map_nil, List.cons_append, List.nil_append, List.append_nil, List.getElem?_cons_zero, List.getElem?_cons_succ, Nat.zero_add, Option.map_some, Option.map_none, if_true, if_false, ↓reduceIte, Bool.false_eq_true, eq_self, Bool.not_false, Bool.not_true, decide_true, decide_false, hb, wrapN a (by omega)]
  refine WP_loop (fun t' H' => ∃ (i : Nat) (L : List Int), LeX b H H' ∧ H'.next = H.next ∧ NB H' b L ∧ L.length = l.length ∧ L.Perm l ∧ a < i ∧ i ≤ e ∧ (∀ k (h1 : k < L.length) (h2 : k < l.length), (k < a ∨ i ≤ k) → L[k] = l[k]) ∧ (∀ k (h1 : k + 1 < L.length), a ≤ k → k + 1 < i → L[k] ≤ L[k + 1]) ∧
    Fr.at t' 0 = .slice (some (b, 0)) l.length (.inr 0) ∧ Fr.at t' 1 = .int .i64 (a : Nat) ∧ Fr.at t' 2 = .int .i64 (e : Nat) ∧ Fr.at t' 6 = .int .i64 (i : Nat)) (fun t' _ => ((e : Int) - numOf (Fr.at t' 6)).toNat) ?_ ?_
  · refine ⟨a + 1, l, .refl b H, rfl, hN, rfl, .refl _, by omega, by omega, fun k _ _ _ => rfl, fun k h1 h2 h3 => by omega, ?_⟩
    simp (decide := true) only [WP_skip, WP_ops, WP_seq, WP_block, WP_exit, WP_ret, WP_cond, CdC_true, CdC_false, seqQ_normal, seqQ_exit, seqQ_ret, seqQ_pan, blkQ_normal, blkQ_exit, blkQ_ret, blkQ_pan, bodyQ_ret, bodyQ_normal, bodyQ_pan, bodyK_some, WP_aops, WPa_nil, WPa_wr, WrA_new, CallA_new, WPa_rd, WPa_call, WPa_callv, WPa_gd, RdA_some, CallA_ret, WPs_nil, WPs_rd, WPs_wr, WPs_call, WPs_callv, WPs_gd, RdK_some, WrK_some, CallK_ret, CallV_func, GdS_tt, GdS_tf, GdS_ft, GdS_ff, GdA_tt, GdA_tf, GdA_ft, GdA_ff, evR, lenV_slc, lenV_tail, lenV_str, iaV_slc, evX, AO.ev, Fr.put_some, Fr.put_none, Fr.at_set, Fr.at_ofArgs, List.getD_cons_zero, List.getD_cons_succ, List.getD_nil, binV, intOp, strOp, AV.cells, AHeap.cell_new, AHeap.range_new, AHeap.cell_old, AHeap.range_old, AHeap.get_new, AHeap.get_old, AHeap.put_new, AHeap.lt_new, AHeap.lt_alloc, AHeap.wf_alloc, AHeap.base_new, AHeap.base_alloc, evRVs, evRV, tup, List.map_cons, List.map_nil, List.cons_append, List.nil_append, List.append_nil, List.getElem?_cons_zero, List.getElem?_cons_succ, Nat.zero_add, Option.map_some, Option.map_none, if_true, if_false, ↓reduceIte, Bool.false_eq_true, eq_self, Bool.not_false, Bool.not_true, decide_true, decide_false, hb, and_self]
  · rintro t' H' ⟨i, L, hX, hnx, hNL, hL, hperm, hai, hie, hout, hsort, g0, g1, g2, g6⟩
    by_cases hlt : i < e
    · have hI : (i : Int) < (e : Int) := by omega
      simp (decide := true) only [WP_skip, WP_ops, WP_seq, WP_block, WP_exit, WP_ret, WP_cond, CdC_true, CdC_false, seqQ_normal, seqQ_exit, seqQ_ret, seqQ_pan, blkQ_normal, blkQ_exit, blkQ_ret, blkQ_pan, bodyQ_ret, bodyQ_normal, bodyQ_pan, bodyK_some, WP_aops, WPa_nil, WPa_wr, WrA_new, CallA_new, WPa_rd, WPa_call, WPa_callv, WPa_gd, RdA_some, CallA_ret, WPs_nil, WPs_rd, WPs_wr, WPs_call, WPs_callv, WPs_gd, RdK_some, WrK_some, CallK_ret, CallV_func, GdS_tt, GdS_tf, GdS_ft, GdS_ff, GdA_tt, GdA_tf, GdA_ft, GdA_ff, evR, lenV_slc, lenV_tail, lenV_str, iaV_slc, evX, AO.ev, Fr.put_some, Fr.put_none, Fr.at_set, Fr.at_ofArgs, List.getD_cons_zero, List.getD_cons_succ, List.getD_nil, binV, intOp, strOp, AV.cells, AHeap.cell_new, AHeap.range_new, AHeap.cell_old, AHeap.range_old, AHeap.get_new, AHeap.get_old, AHeap.put_new, AHeap.lt_new, AHeap.lt_alloc, AHeap.wf_alloc, AHeap.base_new, AHeap.base_alloc, evRVs, evRV, tup, List.map_cons, List.map_nil, List.cons_append, List.nil_append, List.append_nil, List.getElem?_cons_zero, List.getElem?_cons_succ, Nat.zero_add, Option.map_some, Option.map_none, if_true, if_false, ↓reduceIte, Bool.false_eq_true, eq_self, Bool.not_false, Bool.not_true, decide_true, decide_false, hb, g0, g1, g2, g6, hI]
      refine WP_loop (fun t2 H2 => ∃ (j : Nat) (L2 : List Int), LeX b H H2 ∧ H2.next = H.next ∧ NB H2 b L2 ∧ L2.length = l.length ∧ L2.Perm l ∧ a ≤ j ∧ j ≤ i ∧ (∀ k (h1 : k < L2.length) (h2 : k < l.length), (k < a ∨ i + 1 ≤ k) → L2[k] = l[k]) ∧
        (∀ k (h1 : k + 1 < L2.length), a ≤ k → k + 1 ≤ i → k + 1 ≠ j → L2[k] ≤ L2[k + 1]) ∧ (∀ (h1 : j + 1 < L2.length), a < j → j < i → L2[j - 1] ≤ L2[j + 1]) ∧
        Fr.at t2 0 = .slice (some (b, 0)) l.length (.inr 0) ∧ Fr.at t2 1 = .int .i64 (a : Nat) ∧ Fr.at t2 2 = .int .i64 (e : Nat) ∧ Fr.at t2 6 = .int .i64 (i : Nat) ∧ Fr.at t2 7 = .int .i64 (j : Nat)) (fun t2 _ => (numOf (Fr.at t2 7)).toNat) ?_ ?_
      · refine ⟨i, L, hX, hnx, hNL, hL, hperm, by omega, by omega, fun k h1 h2 h3 => hout k h1 h2 (by omega), fun k h1 h2 h3 h4 => hsort k h1 h2 (by omega), fun h1 h2 h3 => by omega, ?_⟩
        simp (decide := true) only [WP_skip, WP_ops, WP_seq, WP_block, WP_exit, WP_ret, WP_cond, CdC_true, CdC_false, seqQ_normal, seqQ_exit, seqQ_ret, seqQ_pan, blkQ_normal, blkQ_exit, blkQ_ret, blkQ_pan, bodyQ_ret, bodyQ_normal, bodyQ_pan, bodyK_some, WP_aops, WPa_nil, WPa_wr, WrA_new, CallA_new, WPa_rd, WPa_call, WPa_callv, WPa_gd, RdA_some, CallA_ret, WPs_nil, WPs_rd, WPs_wr, WPs_call, WPs_callv, WPs_gd, RdK_some, WrK_some, CallK_ret, CallV_func, GdS_tt, GdS_tf, GdS_ft, GdS_ff, GdA_tt, GdA_tf, GdA_ft, GdA_ff, evR, lenV_slc, lenV_tail, lenV_str, iaV_slc, evX, AO.ev, Fr.put_some, Fr.put_none, Fr.at_set, Fr.at_ofArgs, List.getD_cons_zero, List.getD_cons_succ, List.getD_nil, binV, intOp, strOp, AV.cells, AHeap.cell_new, AHeap.range_new, AHeap.cell_old, AHeap.range_old, AHeap.get_new, AHeap.get_old, AHeap.put_new, AHeap.lt_new, AHeap.lt_alloc, AHeap.wf_alloc, AHeap.base_new, AHeap.base_alloc, evRVs, evRV, tup, List.map_cons, List.map_nil, List.cons_append, List.nil_append, List.append_nil, List.getElem?_cons_zero, List.getElem?_cons_succ, Nat.zero_add, Option.map_some, Option.map_none, if_true, if_false, ↓reduceIte, Bool.false_eq_true, eq_self, Bool.not_false, Bool.not_true, decide_true, decide_false, hb, g0, g1, g2, g6, and_self]
      · rintro t2 H2 ⟨j, L2, hX2, hnx2, hN2, hL2, hperm2, haj, hji, hout2, hs2, hs3, k0, k1, k2, k6, k7⟩
        have hb2 := hX2.wf hb
        have done : (j = a ∨ ∃ (h1 : j < L2.length), a < j ∧ L2[j - 1] ≤ L2[j]) → ∃ (i_1 : Nat) (L : List Int), LeX b H H2 ∧ H2.next = H.next ∧ NB H2 b L ∧ L.length = l.length ∧ L.Perm l ∧ a < i_1 ∧ i_1 ≤ e ∧ (∀ k (h1 : k < L.length) (h2 : k < l.length), (k < a ∨ i_1 ≤ k) → L[k] = l[k]) ∧ (∀ k (h1 : k + 1 < L.length), a ≤ k → k + 1 < i_1 → L[k] ≤ L[k + 1]) ∧ i_1 = i + 1 := fun hd => by
          refine ⟨i + 1, L2, hX2, hnx2, hN2, hL2, hperm2, by omega, by omega, hout2, fun k h1 h2 h3 => ?_, rfl⟩
          by_cases e1 : k + 1 = j
          · subst e1
            rcases hd with hd | ⟨q1, q2, q3⟩
            · omega
            · simpa using q3
          · exact hs2 k h1 h2 (by omega) e1
        by_cases hja : a < j
        · have e1 : decide ((j : Int) > (a : Int)) = true := by simp; omega
          have hjl : j < l.length := by omega
          have hjl2 : j < L2.length := by omega
          have hj1 : j - 1 < L2.length := by omega
          have e2 : 0 ≤ (j : Int) := by omega
          have e3 : (j : Int) < (l.length : Int) := by omega
          have e4 : IntKind.i64.wrap ((j : Int) - 1) = ((j - 1 : Nat) : Int) := by rw [IntKind.wrap_i64]; omega
          have e5 : 0 ≤ ((j - 1 : Nat) : Int) := by omega
          have e6 : ((j - 1 : Nat) : Int) < (l.length : Int) := by omega
          have c1 := hN2.cell hjl2
          have c2 := hN2.cell hj1
          simp (decide := true) only [WP_skip, WP_ops, WP_seq, WP_block, WP_exit, WP_ret, WP_cond, CdC_true, CdC_false, seqQ_normal, seqQ_exit, seqQ_ret, seqQ_pan, blkQ_normal, blkQ_exit, blkQ_ret, blkQ_pan, bodyQ_ret, bodyQ_normal, bodyQ_pan, bodyK_some, WP_aops, WPa_nil, WPa_wr, WrA_new, CallA_new, WPa_rd, WPa_call, WPa_callv, WPa_gd, RdA_some, CallA_ret, WPs_nil, WPs_rd, WPs_wr, WPs_call, WPs_callv, WPs_gd, RdK_some, WrK_some, CallK_ret, CallV_func, GdS_tt, GdS_tf, GdS_ft, GdS_ff, GdA_tt, GdA_tf, GdA_ft, GdA_ff, evR, lenV_slc, lenV_tail, lenV_str, iaV_slc, evX, AO.ev, Fr.put_some, Fr.put_none, Fr.at_set, Fr.at_ofArgs, List.getD_cons_zero, List.getD_cons_succ, List.getD_nil, binV, intOp, strOp, AV.cells, AHeap.cell_new, AHeap.range_new, AHeap.cell_old, AHeap.range_old, AHeap.get_new, AHeap.get_old, AHeap.put_new, AHeap.lt_new, AHeap.lt_alloc, AHeap.wf_alloc, AHeap.base_new, AHeap.base_alloc, evRVs, evRV, tup, List.map_cons, List.map_nil, List.cons_append, List.nil_append, List.append_nil, List.getElem?_cons_zero, List.getElem?_cons_succ, Nat.zero_add, Option.map_some, Option.map_none, if_true, if_false, ↓reduceIte, Bool.false_eq_true, eq_self, Bool.not_false, Bool.not_true, decide_true, decide_false, hb, hb2, k0, k1, k2, k6, k7, e1, e2, e3, e4, e5, e6, and_self, Int.toNat_natCast, Nat.mul_one, c1, c2]
          refine f62 ?_
          by_cases hls : L2[j] < L2[j - 1]
          · have e7 : decide (L2[j] < L2[j - 1]) = true := by simpa using hls
            have hg2 := hN2.get
            have hown := hN2.own
            have hlt2 := hN2.lt
            have hfit1 : j + 1 ≤ (idsA L2).length := by simp [idsA]; omega
            have hfit2 : j - 1 + 1 ≤ (idsA (L2.set j L2[j - 1])).length := by simp [idsA]; omega
            have hsp1 := splice_one L2 j L2[j - 1] hjl2
            have hsp2 := splice_one (L2.set j L2[j - 1]) (j - 1) L2[j] (by simpa using hj1)
            have hp1 := (hN2.put (L2.set j L2[j - 1]) (by simp)).get
            have hpp := hN2.putput (.cells (idsA (L2.set j L2[j - 1])) (some 1)) (.cells (idsA ((L2.set j L2[j - 1]).set (j - 1) L2[j])) (some 1))
            have hsw : (L2.set j L2[j - 1]).set (j - 1) L2[j] = swapL L2 j (j - 1) := by simp [swapL, hjl2, hj1]
            rw [hsw] at hsp2 hpp
            simp (decide := true) only [WP_skip, WP_ops, WP_seq, WP_block, WP_exit, WP_ret, WP_cond, CdC_true, CdC_false, seqQ_normal, seqQ_exit, seqQ_ret, seqQ_pan, blkQ_normal, blkQ_exit, blkQ_ret, blkQ_pan, bodyQ_ret, bodyQ_normal, bodyQ_pan, bodyK_some, WP_aops, WPa_nil, WPa_wr, WrA_new, CallA_new, WPa_rd, WPa_call, WPa_callv, WPa_gd, RdA_some, CallA_ret, WPs_nil, WPs_rd, WPs_wr, WPs_call, WPs_callv, WPs_gd, RdK_some, WrK_some, CallK_ret, CallV_func, GdS_tt, GdS_tf, GdS_ft, GdS_ff, GdA_tt, GdA_tf, GdA_ft, GdA_ff, evR, lenV_slc, lenV_tail, lenV_str, iaV_slc, evX, AO.ev, Fr.put_some, Fr.put_none, Fr.at_set, Fr.at_ofArgs, List.getD_cons_zero, List.getD_cons_succ, List.getD_nil, binV, intOp, strOp, AV.cells, AHeap.cell_new, AHeap.range_new, AHeap.cell_old, AHeap.range_old, AHeap.get_new, AHeap.get_old, AHeap.put_new, AHeap.lt_new, AHeap.lt_alloc, AHeap.wf_alloc, AHeap.base_new, AHeap.base_alloc, evRVs, evRV, tup, List.map_cons, List.map_nil, List.cons_append, List.nil_append, List.append_nil, List.getElem?_cons_zero, List.getElem?_cons_succ, Nat.zero_add, Option.map_some, Option.map_none, if_true, if_false, ↓reduceIte, Bool.false_eq_true, eq_self, Bool.not_false, Bool.not_true, decide_true, decide_false, hb, WP_dops, WPd_nil, RdD_some, WrD_some, CallD_ret, WPd_tf, WPd_tt, TT_none, WPd_lw, WPd_lr, WPd_lc, rdOf, hb2, k0, k1, k2, k6, k7, e2, e3, e4, e5, e6, e7, and_self, Int.toNat_natCast, Nat.mul_one, c1, c2, hg2, hown, hfit1, hfit2, hsp1, hsp2, hp1, hpp, AHeap.base_put, List.length_cons, List.length_nil, List.all_cons, List.all_nil, AV.one, Bool.and_true]
            have hgt := fun k hk => swapL_get L2 j (j - 1) k hjl2 hj1 hk
            have hN3 := hN2.put (swapL L2 j (j - 1)) (swapL_len L2 j (j - 1))
            refine ⟨⟨j - 1, swapL L2 j (j - 1), hX2.put (by rw [← hX2.base]; exact hown) hlt2, by simpa using hnx2, hN3, by rw [swapL_len]; exact hL2, (swapL_perm L2 j (j - 1) hjl2 hj1).trans hperm2, by omega, by omega, fun k h1 h2 h3 => ?_, fun k h1 h2 h3 h4 => ?_, fun h1 h2 h3 => ?_, trivial, trivial, trivial, trivial, rfl⟩, by simp only [numOf]; omega⟩
            · rw [swapL_len] at h1
              rw [hgt k h1, if_neg (by omega), if_neg (by omega)]
              exact hout2 k h1 h2 h3
            · rw [swapL_len] at h1
              rw [hgt k (by omega), hgt (k + 1) h1]
              by_cases q1 : k = j
              · subst q1
                rw [if_neg (by omega), if_pos rfl, if_neg (by omega), if_neg (by omega)]
                exact hs3 (by rw [swapL_len] at h1; exact h1) (by omega) (by omega)
              · by_cases q2 : k = j - 1
                · subst q2
                  rw [if_pos rfl, if_neg (by omega), if_pos (by omega)]
                  omega
                · rw [if_neg q2, if_neg q1, if_neg (by omega), if_neg (by omega)]
                  exact hs2 k h1 h2 h3 (by omega)
            · rw [swapL_len] at h1
              rw [hgt (j - 1 - 1) (by omega), hgt (j - 1 + 1) h1, if_neg (by omega), if_neg (by omega), if_neg (by omega), if_pos (by omega)]
              have := hs2 (j - 1 - 1) (by omega) (by omega) (by omega) (by omega)
              simpa [show j - 1 - 1 + 1 = j - 1 by omega] using this
          · have e7 : decide (L2[j] < L2[j - 1]) = false := by simpa using hls
            simp (decide := true) only [WP_skip, WP_ops, WP_seq, WP_block, WP_exit, WP_ret, WP_cond, CdC_true, CdC_false, seqQ_normal, seqQ_exit, seqQ_ret, seqQ_pan, blkQ_normal, blkQ_exit, blkQ_ret, blkQ_pan, bodyQ_ret, bodyQ_normal, bodyQ_pan, bodyK_some, WP_aops, WPa_nil, WPa_wr, WrA_new, CallA_new, WPa_rd, WPa_call, WPa_callv, WPa_gd, RdA_some, CallA_ret, WPs_nil, WPs_rd, WPs_wr, WPs_call, WPs_callv, WPs_gd, RdK_some, WrK_some, CallK_ret, CallV_func, GdS_tt, GdS_tf, GdS_ft, GdS_ff, GdA_tt, GdA_tf, GdA_ft, GdA_ff, evR, lenV_slc, lenV_tail, lenV_str, iaV_slc, evX, AO.ev, Fr.put_some, Fr.put_none, Fr.at_set, Fr.at_ofArgs, List.getD_cons_zero, List.getD_cons_succ, List.getD_nil, binV, intOp, strOp, AV.cells, AHeap.cell_new, AHeap.range_new, AHeap.cell_old, AHeap.range_old, AHeap.get_new, AHeap.get_old, AHeap.put_new, AHeap.lt_new, AHeap.lt_alloc, AHeap.wf_alloc, AHeap.base_new, AHeap.base_alloc, evRVs, evRV, tup, List.map_cons, List.map_nil, List.cons_append, List.nil_append, List.append_nil, List.getElem?_cons_zero, List.getElem?_cons_succ, Nat.zero_add, Option.map_some, Option.map_none, if_true, if_false, ↓reduceIte, Bool.false_eq_true, eq_self, Bool.not_false, Bool.not_true, decide_true, decide_false, hb, hb2, k0, k1, k2, k6, k7, e7, wrapN i (by omega)]
            obtain ⟨_, L3, q1, q2, q3, q4, q5, q6, q7, q8, q9, rfl⟩ := done (.inr ⟨hjl2, hja, by omega⟩)
            exact ⟨⟨i + 1, L3, q1, q2, q3, q4, q5, q6, q7, q8, q9, trivial, trivial, trivial, rfl⟩, by simp only [numOf]; omega⟩
        · have e1 : decide ((j : Int) > (a : Int)) = false := by simp; omega
          simp (decide := true) only [WP_skip, WP_ops, WP_seq, WP_block, WP_exit, WP_ret, WP_cond, CdC_true, CdC_false, seqQ_normal, seqQ_exit, seqQ_ret, seqQ_pan, blkQ_normal, blkQ_exit, blkQ_ret, blkQ_pan, bodyQ_ret, bodyQ_normal, bodyQ_pan, bodyK_some, WP_aops, WPa_nil, WPa_wr, WrA_new, CallA_new, WPa_rd, WPa_call, WPa_callv, WPa_gd, RdA_some, CallA_ret, WPs_nil, WPs_rd, WPs_wr, WPs_call, WPs_callv, WPs_gd, RdK_some, WrK_some, CallK_ret, CallV_func, GdS_tt, GdS_tf, GdS_ft, GdS_ff, GdA_tt, GdA_tf, GdA_ft, GdA_ff, evR, lenV_slc, lenV_tail, lenV_str, iaV_slc, evX, AO.ev, Fr.put_some, Fr.put_none, Fr.at_set, Fr.at_ofArgs, List.getD_cons_zero, List.getD_cons_succ, List.getD_nil, binV, intOp, strOp, AV.cells, AHeap.cell_new, AHeap.range_new, AHeap.cell_old, AHeap.range_old, AHeap.get_new, AHeap.get_old, AHeap.put_new, AHeap.lt_new, AHeap.lt_alloc, AHeap.wf_alloc, AHeap.base_new, AHeap.base_alloc, evRVs, evRV, tup, List.map_cons, List.map_nil, List.cons_append, List.nil_append, List.append_nil, List.getElem?_cons_zero, List.getElem?_cons_succ, Nat.zero_add, Option.map_some, Option.map_none, if_true, if_false, ↓reduceIte, Bool.false_eq_true, eq_self, Bool.not_false, Bool.not_true, decide_true, decide_false, hb, hb2, k0, k1, k2, k6, k7, e1, wrapN i (by omega)]
          obtain ⟨_, L3, q1, q2, q3, q4, q5, q6, q7, q8, q9, rfl⟩ := done (.inl (by omega))
          exact ⟨⟨i + 1, L3, q1, q2, q3, q4, q5, q6, q7, q8, q9, trivial, trivial, trivial, rfl⟩, by simp only [numOf]; omega⟩
    · have hI : ¬ (i : Int) < (e : Int) := by omega
      simp (decide := true) only [WP_skip, WP_ops, WP_seq, WP_block, WP_exit, WP_ret, WP_cond, CdC_true, CdC_false, seqQ_normal, seqQ_exit, seqQ_ret, seqQ_pan, blkQ_normal, blkQ_exit, blkQ_ret, blkQ_pan, bodyQ_ret, bodyQ_normal, bodyQ_pan, bodyK_some, WP_aops, WPa_nil, WPa_wr, WrA_new, CallA_new, WPa_rd, WPa_call, WPa_callv, WPa_gd, RdA_some, CallA_ret, WPs_nil, WPs_rd, WPs_wr, WPs_call, WPs_callv, WPs_gd, RdK_some, WrK_some, CallK_ret, CallV_func, GdS_tt, GdS_tf, GdS_ft, GdS_ff, GdA_tt, GdA_tf, GdA_ft, GdA_ff, evR, lenV_slc, lenV_tail, lenV_str, iaV_slc, evX, AO.ev, Fr.put_some, Fr.put_none, Fr.at_set, Fr.at_ofArgs, List.getD_cons_zero, List.getD_cons_succ, List.getD_nil, binV, intOp, strOp, AV.cells, AHeap.cell_new, AHeap.range_new, AHeap.cell_old, AHeap.range_old, AHeap.get_new, AHeap.get_old, AHeap.put_new, AHeap.lt_new, AHeap.lt_alloc, AHeap.wf_alloc, AHeap.base_new, AHeap.base_alloc, evRVs, evRV, tup, List.map_cons, List.map_nil, List.cons_append, List.nil_append, List.append_nil, List.getElem?_cons_zero, List.getElem?_cons_succ, Nat.zero_add, Option.map_some, Option.map_none, if_true, if_false, ↓reduceIte, Bool.false_eq_true, eq_self, Bool.not_false, Bool.not_true, decide_true, decide_false, hb, g0, g1, g2, g6, hI]
      refine .this (h H' L hX hnx hNL hperm (fun k h1 h2 h3 => ?_) (fun k h1 h2 h3 => hsort k h1 h2 (by omega)))
      exact hout k h1 h2 (by omega)
end Go.AM
