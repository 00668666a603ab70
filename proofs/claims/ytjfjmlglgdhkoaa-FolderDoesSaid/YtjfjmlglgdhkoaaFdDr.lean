/- Folders: dropping. -/
import Derived.Test.YtjfjmlglgdhkoaaFdSB
namespace Go.AM
open Go Go.Proofs
set_option linter.unusedSimpArgs false
set_option linter.unusedVariables false
set_option maxRecDepth 100000
set_option maxHeartbeats 8000000

/-- What dropping answers: 0, or what is wrong. -/
def dropE (l : List Fo) (id : Int) : Int :=
  if mayF l = false then 2 else if look l id = none then 7 else if id = 1 then 14 else 0
def goneF (l : List Fo) (id : Int) : List Int := beneathF l id ++ [id]
theorem beneath_rise {l : List Fo} {id : Int} (h : mayF l = true) : ∀ j k (hj : j < (beneathF l id).length) (hk : k < (beneathF l id).length), j < k → (beneathF l id)[j] < (beneathF l id)[k] := by
  have hs := may_sorted h
  have hp : l.Pairwise (fun f g => f.id < g.id) := List.pairwise_iff_getElem.2 fun i j hi hj hij => hs i j hi hj hij
  have hb : (beneathF l id).Pairwise (· < ·) := by
    rw [beneathF, if_pos h, List.pairwise_map]
    exact hp.filter _
  intro j k hj hk hjk
  exact List.pairwise_iff_getElem.1 hb j k hj hk hjk
theorem gone_rise {l : List Fo} {id : Int} (h : mayF l = true) : ∀ j k (hj : j < (goneF l id).length) (hk : k < (goneF l id).length), j < k → k + 1 < (goneF l id).length → (goneF l id)[j] < (goneF l id)[k] := by
  intro j k hj hk hjk hlt
  simp only [goneF, List.length_append, List.length_cons, List.length_nil] at hj hk hlt
  simp only [goneF]
  rw [List.getElem_append_left (by omega), List.getElem_append_left (by omega)]
  exact beneath_rise h j k _ _ hjk

theorem f18r {H : AHeap} (hb : H.WF) {Q : AE → AHeap → Prop} {p : Nat × Nat} {l : List Fo} {n : Nat} (hn : n = l.length) {c : Nat ⊕ Nat} (hF : FS H p l) {id : Int}
    (h : ∀ (v : AV) (Hb : AHeap), H.Le Hb → RowV 1 H Hb v (beneathF l id).length (idsA (beneathF l id)) → Q (.ret v) Hb) : ACall Try.prog 18 [.slice (some p) n c, .int .u32 id] H Q := by
  refine f18 hn hF ?_
  unfold rowQ
  split
  · rename_i e
    refine h _ H (.refl H) ?_
    rw [e]; exact RowV.nil 1 H H
  · rename_i e
    refine h _ _ (.new hb) (.inr ⟨List.length_pos_iff.2 e, H.next, Nat.le_refl _, AHeap.lt_new, rfl, AHeap.get_new hb, by simp [idsA]⟩)

theorem f13 {H : AHeap} {Q : AE → AHeap → Prop} {p : Nat × Nat} {l : List Fo} {n : Nat} (hn : n = l.length) {c : Nat ⊕ Nat} (hF : FS H p l) {id : Int}
    (herr : dropE l id ≠ 0 → Q (.ret (.tuple [.slice none 0 (.inl 0), .slice none 0 (.inl 0), .int .i64 (dropE l id)])) H)
    (hok : dropE l id = 0 → ∀ (H' : AHeap) (bo bg : Nat) (cs : List AV) (gone : List Int), H.Le H' → H.next ≤ bo → H.next ≤ bg → gone.Perm (goneF l id) → riseL gone → NB H' bg gone →
      H'.get bo = some (.cells cs (some 4)) → bo < H'.next → cs.length = l.length * 4 → cs.take ((l.filter fun f => !gone.any fun y => f.id == y).length * 4) = (l.filter fun f => !gone.any fun y => f.id == y).flatMap Fo.cs →
      Q (.ret (.tuple [.slice (some (bo, 0)) (l.filter fun f => !gone.any fun y => f.id == y).length (.inr 0), .slice (some (bg, 0)) gone.length (.inr 0), .int .i64 0])) H') :
    ACall Try.prog 13 [.slice (some p) n c, .int .u32 id] H Q := by
  subst hn
  refine ACall.comp [] mixed (by decide +kernel) fun F hF' => ?_
  cbv at hF'
  cases hF'
  refine ⟨by simp, fun hb ha => ?_⟩
  have hle := hF.le
  have err : ∀ (e : Int), dropE l id = e → e ≠ 0 → Gc H Q (.ret (.tuple [.slice none 0 (.inl 0), .slice none 0 (.inl 0), .int .i64 e])) H := fun e he hne => by
    have := herr (by rw [he]; exact hne)
    rw [he] at this
    exact .this this
  have hA : dropE l id = dropE l id := rfl
  conv at hA => rhs; rw [dropE]
  simp (decide := true) only [WP_skip, WP_ops, WP_seq, WP_block, WP_exit, WP_ret, WP_cond, CdC_true, CdC_false, seqQ_normal, seqQ_exit, seqQ_ret, seqQ_pan, blkQ_normal, blkQ_exit, blkQ_ret, blkQ_pan, bodyQ_ret, bodyQ_normal, bodyQ_pan, bodyK_some, WP_aops, WPa_nil, WPa_wr, WrA_new, CallA_new, WPa_rd, WPa_call, WPa_callv, WPa_gd, RdA_some, CallA_ret, WPs_nil, WPs_rd, WPs_wr, WPs_call, WPs_callv, WPs_gd, RdK_some, WrK_some, CallK_ret, CallV_func, GdS_tt, GdS_tf, GdS_ft, GdS_ff, GdA_tt, GdA_tf, GdA_ft, GdA_ff, evR, lenV_slc, lenV_tail, lenV_str, iaV_slc, evX, AO.ev, Fr.put_some, Fr.put_none, Fr.at_set, Fr.at_ofArgs, List.getD_cons_zero, List.getD_cons_succ, List.getD_nil, binV, intOp, strOp, AV.cells, AHeap.cell_new, AHeap.range_new, AHeap.cell_old, AHeap.range_old, AHeap.get_new, AHeap.get_old, AHeap.put_new, AHeap.lt_new, AHeap.lt_alloc, AHeap.wf_alloc, AHeap.base_new, AHeap.base_alloc, evRVs, evRV, tup, List.map_cons, List.map_nil, List.cons_append, List.nil_append, List.append_nil, List.getElem?_cons_zero, List.getElem?_cons_succ, Nat.zero_add, Option.map_some, Option.map_none, if_true, if_false, ↓reduceIte, Bool.false_eq_true, eq_self, Bool.not_false, Bool.not_true, decide_true, decide_false, hb]
  refine f23 rfl hF ?_
  have hfi : ∃ (x : Int) (y : Bool), (if 0 > findI l id then 0 else findI l id) = x ∧ decide (findI l id ≥ 0) = y ∧ (y = (look l id).isSome) := by
    refine ⟨_, _, rfl, rfl, ?_⟩
    rcases find_cases l id with ⟨d1, d2⟩ | ⟨j, hj, d1, d2, d3⟩
    · rw [d1, d2]; rfl
    · rw [d1, d2]; simp
  obtain ⟨x, y, hx, hy, hyl⟩ := hfi
  simp (decide := true) only [WP_skip, WP_ops, WP_seq, WP_block, WP_exit, WP_ret, WP_cond, CdC_true, CdC_false, seqQ_normal, seqQ_exit, seqQ_ret, seqQ_pan, blkQ_normal, blkQ_exit, blkQ_ret, blkQ_pan, bodyQ_ret, bodyQ_normal, bodyQ_pan, bodyK_some, WP_aops, WPa_nil, WPa_wr, WrA_new, CallA_new, WPa_rd, WPa_call, WPa_callv, WPa_gd, RdA_some, CallA_ret, WPs_nil, WPs_rd, WPs_wr, WPs_call, WPs_callv, WPs_gd, RdK_some, WrK_some, CallK_ret, CallV_func, GdS_tt, GdS_tf, GdS_ft, GdS_ff, GdA_tt, GdA_tf, GdA_ft, GdA_ff, evR, lenV_slc, lenV_tail, lenV_str, iaV_slc, evX, AO.ev, Fr.put_some, Fr.put_none, Fr.at_set, Fr.at_ofArgs, List.getD_cons_zero, List.getD_cons_succ, List.getD_nil, binV, intOp, strOp, AV.cells, AHeap.cell_new, AHeap.range_new, AHeap.cell_old, AHeap.range_old, AHeap.get_new, AHeap.get_old, AHeap.put_new, AHeap.lt_new, AHeap.lt_alloc, AHeap.wf_alloc, AHeap.base_new, AHeap.base_alloc, evRVs, evRV, tup, List.map_cons, List.map_nil, List.cons_append, List.nil_append, List.append_nil, List.getElem?_cons_zero, List.getElem?_cons_succ, Nat.zero_add, Option.map_some, Option.map_none, if_true, if_false, ↓reduceIte, Bool.false_eq_true, eq_self, Bool.not_false, Bool.not_true, decide_true, decide_false, hb, hx, hy]
  refine f19 rfl hF ?_
  cases hm : mayF l with
  | false =>
    rw [if_pos hm] at hA
    simp (decide := true) only [WP_skip, WP_ops, WP_seq, WP_block, WP_exit, WP_ret, WP_cond, CdC_true, CdC_false, seqQ_normal, seqQ_exit, seqQ_ret, seqQ_pan, blkQ_normal, blkQ_exit, blkQ_ret, blkQ_pan, bodyQ_ret, bodyQ_normal, bodyQ_pan, bodyK_some, WP_aops, WPa_nil, WPa_wr, WrA_new, CallA_new, WPa_rd, WPa_call, WPa_callv, WPa_gd, RdA_some, CallA_ret, WPs_nil, WPs_rd, WPs_wr, WPs_call, WPs_callv, WPs_gd, RdK_some, WrK_some, CallK_ret, CallV_func, GdS_tt, GdS_tf, GdS_ft, GdS_ff, GdA_tt, GdA_tf, GdA_ft, GdA_ff, evR, lenV_slc, lenV_tail, lenV_str, iaV_slc, evX, AO.ev, Fr.put_some, Fr.put_none, Fr.at_set, Fr.at_ofArgs, List.getD_cons_zero, List.getD_cons_succ, List.getD_nil, binV, intOp, strOp, AV.cells, AHeap.cell_new, AHeap.range_new, AHeap.cell_old, AHeap.range_old, AHeap.get_new, AHeap.get_old, AHeap.put_new, AHeap.lt_new, AHeap.lt_alloc, AHeap.wf_alloc, AHeap.base_new, AHeap.base_alloc, evRVs, evRV, tup, List.map_cons, List.map_nil, List.cons_append, List.nil_append, List.append_nil, List.getElem?_cons_zero, List.getElem?_cons_succ, Nat.zero_add, Option.map_some, Option.map_none, if_true, if_false, ↓reduceIte, Bool.false_eq_true, eq_self, Bool.not_false, Bool.not_true, decide_true, decide_false, hb]
    exact err 2 hA (by decide)
  | true =>
    rw [if_neg (by simp [hm])] at hA
    cases hl : look l id with
    | none =>
      rw [hl] at hyl
      have hy0 : y = false := by simpa using hyl
      rw [if_pos hl] at hA
      simp (decide := true) only [WP_skip, WP_ops, WP_seq, WP_block, WP_exit, WP_ret, WP_cond, CdC_true, CdC_false, seqQ_normal, seqQ_exit, seqQ_ret, seqQ_pan, blkQ_normal, blkQ_exit, blkQ_ret, blkQ_pan, bodyQ_ret, bodyQ_normal, bodyQ_pan, bodyK_some, WP_aops, WPa_nil, WPa_wr, WrA_new, CallA_new, WPa_rd, WPa_call, WPa_callv, WPa_gd, RdA_some, CallA_ret, WPs_nil, WPs_rd, WPs_wr, WPs_call, WPs_callv, WPs_gd, RdK_some, WrK_some, CallK_ret, CallV_func, GdS_tt, GdS_tf, GdS_ft, GdS_ff, GdA_tt, GdA_tf, GdA_ft, GdA_ff, evR, lenV_slc, lenV_tail, lenV_str, iaV_slc, evX, AO.ev, Fr.put_some, Fr.put_none, Fr.at_set, Fr.at_ofArgs, List.getD_cons_zero, List.getD_cons_succ, List.getD_nil, binV, intOp, strOp, AV.cells, AHeap.cell_new, AHeap.range_new, AHeap.cell_old, AHeap.range_old, AHeap.get_new, AHeap.get_old, AHeap.put_new, AHeap.lt_new, AHeap.lt_alloc, AHeap.wf_alloc, AHeap.base_new, AHeap.base_alloc, evRVs, evRV, tup, List.map_cons, List.map_nil, List.cons_append, List.nil_append, List.append_nil, List.getElem?_cons_zero, List.getElem?_cons_succ, Nat.zero_add, Option.map_some, Option.map_none, if_true, if_false, ↓reduceIte, Bool.false_eq_true, eq_self, Bool.not_false, Bool.not_true, decide_true, decide_false, hb, hy0]
      exact err 7 hA (by decide)
    | some f0 =>
      rw [hl] at hyl
      have hy0 : y = true := by simpa using hyl
      rw [if_neg (by simp [hl])] at hA
      by_cases h1 : id = 1
      · have e1 : (id == 1) = true := by simpa using h1
        rw [if_pos h1] at hA
        simp (decide := true) only [WP_skip, WP_ops, WP_seq, WP_block, WP_exit, WP_ret, WP_cond, CdC_true, CdC_false, seqQ_normal, seqQ_exit, seqQ_ret, seqQ_pan, blkQ_normal, blkQ_exit, blkQ_ret, blkQ_pan, bodyQ_ret, bodyQ_normal, bodyQ_pan, bodyK_some, WP_aops, WPa_nil, WPa_wr, WrA_new, CallA_new, WPa_rd, WPa_call, WPa_callv, WPa_gd, RdA_some, CallA_ret, WPs_nil, WPs_rd, WPs_wr, WPs_call, WPs_callv, WPs_gd, RdK_some, WrK_some, CallK_ret, CallV_func, GdS_tt, GdS_tf, GdS_ft, GdS_ff, GdA_tt, GdA_tf, GdA_ft, GdA_ff, evR, lenV_slc, lenV_tail, lenV_str, iaV_slc, evX, AO.ev, Fr.put_some, Fr.put_none, Fr.at_set, Fr.at_ofArgs, List.getD_cons_zero, List.getD_cons_succ, List.getD_nil, binV, intOp, strOp, AV.cells, AHeap.cell_new, AHeap.range_new, AHeap.cell_old, AHeap.range_old, AHeap.get_new, AHeap.get_old, AHeap.put_new, AHeap.lt_new, AHeap.lt_alloc, AHeap.wf_alloc, AHeap.base_new, AHeap.base_alloc, evRVs, evRV, tup, List.map_cons, List.map_nil, List.cons_append, List.nil_append, List.append_nil, List.getElem?_cons_zero, List.getElem?_cons_succ, Nat.zero_add, Option.map_some, Option.map_none, if_true, if_false, ↓reduceIte, Bool.false_eq_true, eq_self, Bool.not_false, Bool.not_true, decide_true, decide_false, hb, hy0, e1]
        exact err 14 hA (by decide)
      · have e1 : (id == 1) = false := by simpa using h1
        rw [if_neg h1] at hA
        simp (decide := true) only [WP_skip, WP_ops, WP_seq, WP_block, WP_exit, WP_ret, WP_cond, CdC_true, CdC_false, seqQ_normal, seqQ_exit, seqQ_ret, seqQ_pan, blkQ_normal, blkQ_exit, blkQ_ret, blkQ_pan, bodyQ_ret, bodyQ_normal, bodyQ_pan, bodyK_some, WP_aops, WPa_nil, WPa_wr, WrA_new, CallA_new, WPa_rd, WPa_call, WPa_callv, WPa_gd, RdA_some, CallA_ret, WPs_nil, WPs_rd, WPs_wr, WPs_call, WPs_callv, WPs_gd, RdK_some, WrK_some, CallK_ret, CallV_func, GdS_tt, GdS_tf, GdS_ft, GdS_ff, GdA_tt, GdA_tf, GdA_ft, GdA_ff, evR, lenV_slc, lenV_tail, lenV_str, iaV_slc, evX, AO.ev, Fr.put_some, Fr.put_none, Fr.at_set, Fr.at_ofArgs, List.getD_cons_zero, List.getD_cons_succ, List.getD_nil, binV, intOp, strOp, AV.cells, AHeap.cell_new, AHeap.range_new, AHeap.cell_old, AHeap.range_old, AHeap.get_new, AHeap.get_old, AHeap.put_new, AHeap.lt_new, AHeap.lt_alloc, AHeap.wf_alloc, AHeap.base_new, AHeap.base_alloc, evRVs, evRV, tup, List.map_cons, List.map_nil, List.cons_append, List.nil_append, List.append_nil, List.getElem?_cons_zero, List.getElem?_cons_succ, Nat.zero_add, Option.map_some, Option.map_none, if_true, if_false, ↓reduceIte, Bool.false_eq_true, eq_self, Bool.not_false, Bool.not_true, decide_true, decide_false, hb, hy0, e1]
        refine f18r hb rfl hF fun v Hb hlb hrow => ?_
        have hbl : (beneathF l id).length ≤ 15 := by
          have hmem := List.mem_of_find?_eq_some hl
          have hid := List.find?_some hl
          rw [beneathF, if_pos hm, List.length_map]
          have : (l.filter fun f => f.id != id && inWay l id f).length < l.length := by
            rw [List.length_filter_lt_length_iff_exists]
            exact ⟨f0, hmem, by simp only [beq_iff_eq] at hid; simp [hid]⟩
          have := (may_len hm).1
          omega
        have hbb := hlb.wf hb
        obtain ⟨v', H4, happ, hrow4, hle4⟩ := (hrow.trans (.new hbb (b := .cells [.int .u32 id] none))).app (x := .slice (some (Hb.next, 0)) 1 (.inl 1)) (bytes := 4) (m := 1) (new := [.int .u32 id]) hb (hlb.alloc' hb)
          (by simp only [srcOf, AHeap.range_new hbb]; rfl) rfl (by omega) rfl (by omega) (by omega) (by omega)
        have hids : idsA (beneathF l id) ++ [.int .u32 id] = idsA (goneF l id) := by simp [idsA, goneF]
        rw [hids] at hrow4
        have hgl : (goneF l id).length = (beneathF l id).length + 1 := by simp [goneF]
        rcases hrow4 with ⟨r0, _⟩ | ⟨r0, bg, r1, r2, rfl, r4, r5⟩
        · omega
        have hb4 := hle4.wf hb
        rw [← hgl] at happ
        have hN4 : NB H4 bg (goneF l id) := ⟨r2, Nat.le_trans (by rw [hle4.base]; exact hb) r1, by omega, r4⟩
        have hN5 := hN4.alloc hb4 (x := .cells [.slice (some (bg, 0)) (goneF l id).length (.inr 0)] none)
        have hb5 := AHeap.wf_alloc hb4 (b := .cells [.slice (some (bg, 0)) (goneF l id).length (.inr 0)] none)
        have hspl : ∀ a v : AV, splice [a] 0 [v] = [v] := fun a v => rfl
        simp (decide := true) only [WP_skip, WP_ops, WP_seq, WP_block, WP_exit, WP_ret, WP_cond, CdC_true, CdC_false, seqQ_normal, seqQ_exit, seqQ_ret, seqQ_pan, blkQ_normal, blkQ_exit, blkQ_ret, blkQ_pan, bodyQ_ret, bodyQ_normal, bodyQ_pan, bodyK_some, WP_aops, WPa_nil, WPa_wr, WrA_new, CallA_new, WPa_rd, WPa_call, WPa_callv, WPa_gd, RdA_some, CallA_ret, WPs_nil, WPs_rd, WPs_wr, WPs_call, WPs_callv, WPs_gd, RdK_some, WrK_some, CallK_ret, CallV_func, GdS_tt, GdS_tf, GdS_ft, GdS_ff, GdA_tt, GdA_tf, GdA_ft, GdA_ff, evR, lenV_slc, lenV_tail, lenV_str, iaV_slc, evX, AO.ev, Fr.put_some, Fr.put_none, Fr.at_set, Fr.at_ofArgs, List.getD_cons_zero, List.getD_cons_succ, List.getD_nil, binV, intOp, strOp, AV.cells, AHeap.cell_new, AHeap.range_new, AHeap.cell_old, AHeap.range_old, AHeap.get_new, AHeap.get_old, AHeap.put_new, AHeap.lt_new, AHeap.lt_alloc, AHeap.wf_alloc, AHeap.base_new, AHeap.base_alloc, evRVs, evRV, tup, List.map_cons, List.map_nil, List.cons_append, List.nil_append, List.append_nil, List.getElem?_cons_zero, List.getElem?_cons_succ, Nat.zero_add, Option.map_some, Option.map_none, if_true, if_false, ↓reduceIte, Bool.false_eq_true, eq_self, Bool.not_false, Bool.not_true, decide_true, decide_false, hb, hbb, hb4, hb5, happ, fillA, List.replicate, List.flatten, List.length_cons, List.length_nil, List.take, List.drop, hspl, List.all_cons, List.all_nil, AV.one, Bool.and_true, Nat.le_refl, and_self]
        refine f38 rfl hN5 (by rw [hgl]; omega) (by rw [hgl]; omega) (gone_rise hm) fun H6 gone k1 k2 k3 k4 k5 => ?_
        have hb6 : H6.WF := k1.wf hb5
        have hbox5 : (H4.alloc (.cells [.slice (some (bg, 0)) (goneF l id).length (.inr 0)] none)).get H4.next = some (.cells [.slice (some (bg, 0)) (goneF l id).length (.inr 0)] none) := AHeap.get_new hb4
        have hbox6 : H6.get H4.next = some (.cells [.slice (some (bg, 0)) (goneF l id).length (.inr 0)] none) := by rw [k1.get _ AHeap.lt_new (by omega)]; exact hbox5
        have hlt6 : H4.next < H6.next := Nat.lt_of_lt_of_le AHeap.lt_new k1.next
        have hc6 : H6.cell (H4.next, 0) = some (.slice (some (bg, 0)) (goneF l id).length (.inr 0)) := by rw [AHeap.cell_of hbox6]; rfl
        have hp6 : p.1 ≠ bg := by have := hF.lt; omega
        have hpl : p.1 < H4.next := hle4.lt hF.lt
        have hF6 : FS H6 p l := ⟨Nat.lt_trans hpl hlt6, hle, by
          rw [AHeap.range_of_get (k1.get _ (AHeap.lt_alloc hpl) hp6), AHeap.range_old hb4 hpl, hle4.range hF.lt]; exact hF.rg⟩
        simp (decide := true) only [WP_skip, WP_ops, WP_seq, WP_block, WP_exit, WP_ret, WP_cond, CdC_true, CdC_false, seqQ_normal, seqQ_exit, seqQ_ret, seqQ_pan, blkQ_normal, blkQ_exit, blkQ_ret, blkQ_pan, bodyQ_ret, bodyQ_normal, bodyQ_pan, bodyK_some, WP_aops, WPa_nil, WPa_wr, WrA_new, CallA_new, WPa_rd, WPa_call, WPa_callv, WPa_gd, RdA_some, CallA_ret, WPs_nil, WPs_rd, WPs_wr, WPs_call, WPs_callv, WPs_gd, RdK_some, WrK_some, CallK_ret, CallV_func, GdS_tt, GdS_tf, GdS_ft, GdS_ff, GdA_tt, GdA_tf, GdA_ft, GdA_ff, evR, lenV_slc, lenV_tail, lenV_str, iaV_slc, evX, AO.ev, Fr.put_some, Fr.put_none, Fr.at_set, Fr.at_ofArgs, List.getD_cons_zero, List.getD_cons_succ, List.getD_nil, binV, intOp, strOp, AV.cells, AHeap.cell_new, AHeap.range_new, AHeap.cell_old, AHeap.range_old, AHeap.get_new, AHeap.get_old, AHeap.put_new, AHeap.lt_new, AHeap.lt_alloc, AHeap.wf_alloc, AHeap.base_new, AHeap.base_alloc, evRVs, evRV, tup, List.map_cons, List.map_nil, List.cons_append, List.nil_append, List.append_nil, List.getElem?_cons_zero, List.getElem?_cons_succ, Nat.zero_add, Option.map_some, Option.map_none, if_true, if_false, ↓reduceIte, Bool.false_eq_true, eq_self, Bool.not_false, Bool.not_true, decide_true, decide_false, hb, hbb, hb4, hb5, hb6, hc6]
        refine f34 rfl (may_len hm).2 hF6 ?_
        simp (decide := true) only [WP_skip, WP_ops, WP_seq, WP_block, WP_exit, WP_ret, WP_cond, CdC_true, CdC_false, seqQ_normal, seqQ_exit, seqQ_ret, seqQ_pan, blkQ_normal, blkQ_exit, blkQ_ret, blkQ_pan, bodyQ_ret, bodyQ_normal, bodyQ_pan, bodyK_some, WP_aops, WPa_nil, WPa_wr, WrA_new, CallA_new, WPa_rd, WPa_call, WPa_callv, WPa_gd, RdA_some, CallA_ret, WPs_nil, WPs_rd, WPs_wr, WPs_call, WPs_callv, WPs_gd, RdK_some, WrK_some, CallK_ret, CallV_func, GdS_tt, GdS_tf, GdS_ft, GdS_ff, GdA_tt, GdA_tf, GdA_ft, GdA_ff, evR, lenV_slc, lenV_tail, lenV_str, iaV_slc, evX, AO.ev, Fr.put_some, Fr.put_none, Fr.at_set, Fr.at_ofArgs, List.getD_cons_zero, List.getD_cons_succ, List.getD_nil, binV, intOp, strOp, AV.cells, AHeap.cell_new, AHeap.range_new, AHeap.cell_old, AHeap.range_old, AHeap.get_new, AHeap.get_old, AHeap.put_new, AHeap.lt_new, AHeap.lt_alloc, AHeap.wf_alloc, AHeap.base_new, AHeap.base_alloc, evRVs, evRV, tup, List.map_cons, List.map_nil, List.cons_append, List.nil_append, List.append_nil, List.getElem?_cons_zero, List.getElem?_cons_succ, Nat.zero_add, Option.map_some, Option.map_none, if_true, if_false, ↓reduceIte, Bool.false_eq_true, eq_self, Bool.not_false, Bool.not_true, decide_true, decide_false, hb, hbb, hb4, hb5, hb6, hc6]
        have hb7 := AHeap.wf_alloc hb6 (b := .cells (l.flatMap Fo.cs) (some 4))
        have hl7 := AHeap.Le.new hb6 (b := .cells (l.flatMap Fo.cs) (some 4))
        have hgl2 : (goneF l id).length = gone.length := k4.length_eq.symm
        have hbg6 : bg < H6.next := k3.lt
        have hcell : ∀ H' : AHeap, LeX H6.next (H6.alloc (.cells (l.flatMap Fo.cs) (some 4))) H' → H'.cell (H4.next, 0) = some (.slice (some (bg, 0)) (goneF l id).length (.inr 0)) ∧ H4.next < H'.next ∧ H'.get bg = H6.get bg ∧ bg < H'.next := fun H' hX => by
          have e1 := hX.get H4.next (AHeap.lt_alloc hlt6) (by omega)
          have e2 := hX.get bg (AHeap.lt_alloc hbg6) (by omega)
          rw [AHeap.get_old hb6 hlt6] at e1
          rw [AHeap.get_old hb6 hbg6] at e2
          refine ⟨by rw [AHeap.cell_of (e1.trans hbox6)]; rfl, ?_, e2, ?_⟩
          · have := hX.next; simp at this; omega
          · have := hX.next; simp at this; omega
        refine f39 (b := H6.next) rfl AHeap.lt_new hb6 (AHeap.get_new hb6) hle (fun f => gone.any fun y => f.id == y) (fun f hf H' hX Q' hQ' => ?_) (fun H8 cs hX8 hg8 hcl hct => ?_)
        · obtain ⟨z1, z2, z3, z4⟩ := hcell H' hX
          exact f40 (by omega) z1 z2 ⟨z4, k3.le, by rw [AHeap.range_of (z3.trans k3.get), if_pos (by simp [idsA]), List.drop_zero, List.take_of_length_le (by simp [idsA])]⟩ hQ'
        · obtain ⟨z1, z2, z3, z4⟩ := hcell H8 hX8
          simp (decide := true) only [WP_skip, WP_ops, WP_seq, WP_block, WP_exit, WP_ret, WP_cond, CdC_true, CdC_false, seqQ_normal, seqQ_exit, seqQ_ret, seqQ_pan, blkQ_normal, blkQ_exit, blkQ_ret, blkQ_pan, bodyQ_ret, bodyQ_normal, bodyQ_pan, bodyK_some, WP_aops, WPa_nil, WPa_wr, WrA_new, CallA_new, WPa_rd, WPa_call, WPa_callv, WPa_gd, RdA_some, CallA_ret, WPs_nil, WPs_rd, WPs_wr, WPs_call, WPs_callv, WPs_gd, RdK_some, WrK_some, CallK_ret, CallV_func, GdS_tt, GdS_tf, GdS_ft, GdS_ff, GdA_tt, GdA_tf, GdA_ft, GdA_ff, evR, lenV_slc, lenV_tail, lenV_str, iaV_slc, evX, AO.ev, Fr.put_some, Fr.put_none, Fr.at_set, Fr.at_ofArgs, List.getD_cons_zero, List.getD_cons_succ, List.getD_nil, binV, intOp, strOp, AV.cells, AHeap.cell_new, AHeap.range_new, AHeap.cell_old, AHeap.range_old, AHeap.get_new, AHeap.get_old, AHeap.put_new, AHeap.lt_new, AHeap.lt_alloc, AHeap.wf_alloc, AHeap.base_new, AHeap.base_alloc, evRVs, evRV, tup, List.map_cons, List.map_nil, List.cons_append, List.nil_append, List.append_nil, List.getElem?_cons_zero, List.getElem?_cons_succ, Nat.zero_add, Option.map_some, Option.map_none, if_true, if_false, ↓reduceIte, Bool.false_eq_true, eq_self, Bool.not_false, Bool.not_true, decide_true, decide_false, hb, hbb, hb4, hb5, hb6, z1]
          have n4 := hle4.next
          have n6 := k1.next
          have n8 := hX8.next
          simp only [AHeap.next_alloc] at n6 n8
          have hle8 : H.Le H8 := ⟨by rw [hX8.base, AHeap.base_alloc, k1.base, AHeap.base_alloc, hle4.base], by omega, fun i hi => by
            rw [hX8.get i (by simp; omega) (by omega), AHeap.get_old hb6 (by omega), k1.get i (by simp; omega) (by omega), AHeap.get_old hb4 (by omega), hle4.get i hi]⟩
          rw [hgl2]
          exact .this (hok hA H8 H6.next bg cs gone hle8 (by omega) r1 k4 k5 ⟨z4, by rw [hle8.base]; exact Nat.le_trans hb r1, k3.le, z3.trans k3.get⟩ hg8 (by omega) hcl hct)
end Go.AM
