/- The document's folders: dropping. -/
import Derived.Test.YtjfjmlglgdhkoaaRfMo
namespace Go.AM
open Go Go.Proofs
set_option linter.unusedSimpArgs false
set_option linter.unusedVariables false
set_option maxRecDepth 100000
set_option maxHeartbeats 8000000

/-- Who is dropped, in the folders' order. -/
def goneR (l : List Fo) (id : Int) : List Int := (l.filter fun x => x.id == id || underF l 4 x.id id).map (·.id)
theorem rise_le {l : List Int} (h : riseL l) : l.Pairwise (· ≤ ·) := by
  rw [List.pairwise_iff_getElem]
  intro i j hi hj hij
  obtain ⟨d, rfl⟩ : ∃ d, j = i + 1 + d := ⟨j - i - 1, by omega⟩
  clear hij
  induction d with
  | zero => exact h i hj
  | succ d ih =>
    have := ih (by omega)
    have := h (i + 1 + d) hj
    exact Int.le_trans (by assumption) this
/-- Who is dropped is the same, in whatever order it was told. -/
theorem gone_eq {l : List Fo} {id : Int} (hm : MayP l) (hin : ∃ g ∈ l, g.id = id) {gone : List Int} (hp : gone.Perm (goneF l id)) (hr : riseL gone) : gone = goneR l id := by
  have hs : ((l.filter fun x => x.id == id || underF l 4 x.id id).map (·.id)).Pairwise (· < ·) := by
    rw [List.pairwise_map]; exact hm.rise.filter _
  have hbs : (beneathF l id).Pairwise (· < ·) := by
    rw [beneathF, if_pos (may_iff.2 hm), List.pairwise_map]; exact hm.rise.filter _
  have hmem : ∀ y, y ∈ goneF l id ↔ y ∈ goneR l id := by
    intro y
    simp only [goneF, goneR, beneathF, if_pos (may_iff.2 hm), List.mem_append, List.mem_map, List.mem_filter, List.mem_singleton, Bool.and_eq_true, bne_iff_ne, Bool.or_eq_true, beq_iff_eq]
    constructor
    · rintro (⟨x, ⟨x1, x2, x3⟩, rfl⟩ | rfl)
      · exact ⟨x, ⟨x1, .inr (by rw [← under_inWay hm x1 x2]; exact x3)⟩, rfl⟩
      · obtain ⟨g, g1, g2⟩ := hin
        exact ⟨g, ⟨g1, .inl g2⟩, g2⟩
    · rintro ⟨x, ⟨x1, x2⟩, rfl⟩
      by_cases e : x.id = id
      · exact .inr e
      · rcases x2 with h | h
        · exact absurd h e
        · exact .inl ⟨x, ⟨x1, e, by rw [under_inWay hm x1 e]; exact h⟩, rfl⟩
  have hnd1 : (goneF l id).Nodup := by
    rw [goneF, List.nodup_append]
    refine ⟨hbs.imp fun {a b} h => by omega, by simp, fun a ha b hb => ?_⟩
    rw [beneathF, if_pos (may_iff.2 hm), List.mem_map] at ha
    obtain ⟨x, hx, rfl⟩ := ha
    have := (List.mem_filter.1 hx).2
    simp only [Bool.and_eq_true, bne_iff_ne] at this
    have hb' : b = id := by simpa using hb
    rw [hb']; exact this.1
  have hnd2 : (goneR l id).Nodup := hs.imp fun {a b} h => by omega
  have hperm : gone.Perm (goneR l id) := hp.trans ((List.perm_ext_iff_of_nodup hnd1 hnd2).2 hmem)
  exact List.Perm.eq_of_pairwise (le := (· ≤ ·)) (fun a b _ _ h1 h2 => Int.le_antisymm h1 h2) (rise_le hr) (hs.imp fun {a b} h => by omega) hperm

theorem f14 {H : AHeap} {Q : AE → AHeap → Prop} {v : AV} {l : List Fo} (hV : FV H v l) {id : Int}
    (herr : dropE l id ≠ 0 → Q (.ret (.tuple [.slice none 0 (.inl 0), .slice none 0 (.inl 0), .int .i64 (dropE l id)])) H)
    (hok : dropE l id = 0 → ∀ (H' : AHeap) (xv gv : AV), H.Le H' → FV H' xv (l.filter fun x => !(goneR l id).any fun y => x.id == y) → IV H' gv (goneR l id) → Q (.ret (.tuple [xv, gv, .int .i64 0])) H') :
    ACall Try.prog 14 [v, .int .u32 id] H Q := by
  refine ACall.comp [] mixed (by decide +kernel) fun F hF' => ?_
  cbv at hF'
  cases hF'
  refine ⟨by simp, fun hb ha => ?_⟩
  have hle := hV.le
  have hbn : H.base ≤ H.next := hb
  have err : ∀ (e : Int) (H' : AHeap), H.Le H' → dropE l id = e → e ≠ 0 → Gc H Q (.ret (.tuple [.slice none 0 (.inl 0), .slice none 0 (.inl 0), .int .i64 e])) H' := fun e H' hl he hne => by
    have := herr (by rw [he]; exact hne)
    rw [he] at this
    exact .same hl (by simp [AV.ok, AV.okL]) this
  have hA : dropE l id = dropE l id := rfl
  conv at hA => rhs; rw [dropE]
  simp (decide := true) only [WP_skip, WP_ops, WP_seq, WP_block, WP_exit, WP_ret, WP_cond, CdC_true, CdC_false, seqQ_normal, seqQ_exit, seqQ_ret, seqQ_pan, blkQ_normal, blkQ_exit, blkQ_ret, blkQ_pan, bodyQ_ret, bodyQ_normal, bodyQ_pan, bodyK_some, WP_aops, WPa_nil, WPa_wr, WrA_new, CallA_new, WPa_rd, WPa_call, WPa_callv, WPa_gd, RdA_some, CallA_ret, WPs_nil, WPs_rd, WPs_wr, WPs_call, WPs_callv, WPs_gd, RdK_some, WrK_some, CallK_ret, CallV_func, GdS_tt, GdS_tf, GdS_ft, GdS_ff, GdA_tt, GdA_tf, GdA_ft, GdA_ff, evR, lenV_slc, lenV_tail, lenV_str, iaV_slc, evX, AO.ev, Fr.put_some, Fr.put_none, Fr.at_set, Fr.at_ofArgs, List.getD_cons_zero, List.getD_cons_succ, List.getD_nil, binV, intOp, strOp, AV.cells, AHeap.cell_new, AHeap.range_new, AHeap.cell_old, AHeap.range_old, AHeap.get_new, AHeap.get_old, AHeap.put_new, AHeap.lt_new, AHeap.lt_alloc, AHeap.wf_alloc, AHeap.base_new, AHeap.base_alloc, evRVs, evRV, tup, List.map_cons, List.map_nil, List.cons_append, List.nil_append, List.append_nil, List.getElem?_cons_zero, List.getElem?_cons_succ, Nat.zero_add, Option.map_some, Option.map_none, if_true, if_false, ↓reduceIte, Bool.false_eq_true, eq_self, Bool.not_false, Bool.not_true, decide_true, decide_false, hb]
  refine f28 hV ?_
  cases hm : mayF l with
  | false =>
    rw [if_pos hm] at hA
    simp (decide := true) only [WP_skip, WP_ops, WP_seq, WP_block, WP_exit, WP_ret, WP_cond, CdC_true, CdC_false, seqQ_normal, seqQ_exit, seqQ_ret, seqQ_pan, blkQ_normal, blkQ_exit, blkQ_ret, blkQ_pan, bodyQ_ret, bodyQ_normal, bodyQ_pan, bodyK_some, WP_aops, WPa_nil, WPa_wr, WrA_new, CallA_new, WPa_rd, WPa_call, WPa_callv, WPa_gd, RdA_some, CallA_ret, WPs_nil, WPs_rd, WPs_wr, WPs_call, WPs_callv, WPs_gd, RdK_some, WrK_some, CallK_ret, CallV_func, GdS_tt, GdS_tf, GdS_ft, GdS_ff, GdA_tt, GdA_tf, GdA_ft, GdA_ff, evR, lenV_slc, lenV_tail, lenV_str, iaV_slc, evX, AO.ev, Fr.put_some, Fr.put_none, Fr.at_set, Fr.at_ofArgs, List.getD_cons_zero, List.getD_cons_succ, List.getD_nil, binV, intOp, strOp, AV.cells, AHeap.cell_new, AHeap.range_new, AHeap.cell_old, AHeap.range_old, AHeap.get_new, AHeap.get_old, AHeap.put_new, AHeap.lt_new, AHeap.lt_alloc, AHeap.wf_alloc, AHeap.base_new, AHeap.base_alloc, evRVs, evRV, tup, List.map_cons, List.map_nil, List.cons_append, List.nil_append, List.append_nil, List.getElem?_cons_zero, List.getElem?_cons_succ, Nat.zero_add, Option.map_some, Option.map_none, if_true, if_false, ↓reduceIte, Bool.false_eq_true, eq_self, Bool.not_false, Bool.not_true, decide_true, decide_false, hb, Fo.av, cs0, cs1, cs2, cs3, cs_len, cs_take, List.drop_zero, one_f, splice_f, fillA_f, Nat.le_refl, and_self, Nat.add_zero]
    exact err 2 _ (.refl _) hA (by decide)
  | true =>
    have hmp := may_iff.1 hm
    rw [if_neg (by simp [hm])] at hA
    simp (decide := true) only [WP_skip, WP_ops, WP_seq, WP_block, WP_exit, WP_ret, WP_cond, CdC_true, CdC_false, seqQ_normal, seqQ_exit, seqQ_ret, seqQ_pan, blkQ_normal, blkQ_exit, blkQ_ret, blkQ_pan, bodyQ_ret, bodyQ_normal, bodyQ_pan, bodyK_some, WP_aops, WPa_nil, WPa_wr, WrA_new, CallA_new, WPa_rd, WPa_call, WPa_callv, WPa_gd, RdA_some, CallA_ret, WPs_nil, WPs_rd, WPs_wr, WPs_call, WPs_callv, WPs_gd, RdK_some, WrK_some, CallK_ret, CallV_func, GdS_tt, GdS_tf, GdS_ft, GdS_ff, GdA_tt, GdA_tf, GdA_ft, GdA_ff, evR, lenV_slc, lenV_tail, lenV_str, iaV_slc, evX, AO.ev, Fr.put_some, Fr.put_none, Fr.at_set, Fr.at_ofArgs, List.getD_cons_zero, List.getD_cons_succ, List.getD_nil, binV, intOp, strOp, AV.cells, AHeap.cell_new, AHeap.range_new, AHeap.cell_old, AHeap.range_old, AHeap.get_new, AHeap.get_old, AHeap.put_new, AHeap.lt_new, AHeap.lt_alloc, AHeap.wf_alloc, AHeap.base_new, AHeap.base_alloc, evRVs, evRV, tup, List.map_cons, List.map_nil, List.cons_append, List.nil_append, List.append_nil, List.getElem?_cons_zero, List.getElem?_cons_succ, Nat.zero_add, Option.map_some, Option.map_none, if_true, if_false, ↓reduceIte, Bool.false_eq_true, eq_self, Bool.not_false, Bool.not_true, decide_true, decide_false, hb, Fo.av, cs0, cs1, cs2, cs3, cs_len, cs_take, List.drop_zero, one_f, splice_f, fillA_f, Nat.le_refl, and_self, Nat.add_zero]
    refine f30 hV ?_
    obtain ⟨g1, hg1⟩ : ∃ g, (look l id).getD zeroFo = g := ⟨_, rfl⟩
    rw [hg1]
    have hb1 := AHeap.wf_alloc hb (b := .cells g1.cs none)
    have hle1 := AHeap.Le.new hb (b := .cells g1.cs none)
    cases hl : look l id with
    | none =>
      rw [if_pos hl] at hA
      simp (decide := true) only [WP_skip, WP_ops, WP_seq, WP_block, WP_exit, WP_ret, WP_cond, CdC_true, CdC_false, seqQ_normal, seqQ_exit, seqQ_ret, seqQ_pan, blkQ_normal, blkQ_exit, blkQ_ret, blkQ_pan, bodyQ_ret, bodyQ_normal, bodyQ_pan, bodyK_some, WP_aops, WPa_nil, WPa_wr, WrA_new, CallA_new, WPa_rd, WPa_call, WPa_callv, WPa_gd, RdA_some, CallA_ret, WPs_nil, WPs_rd, WPs_wr, WPs_call, WPs_callv, WPs_gd, RdK_some, WrK_some, CallK_ret, CallV_func, GdS_tt, GdS_tf, GdS_ft, GdS_ff, GdA_tt, GdA_tf, GdA_ft, GdA_ff, evR, lenV_slc, lenV_tail, lenV_str, iaV_slc, evX, AO.ev, Fr.put_some, Fr.put_none, Fr.at_set, Fr.at_ofArgs, List.getD_cons_zero, List.getD_cons_succ, List.getD_nil, binV, intOp, strOp, AV.cells, AHeap.cell_new, AHeap.range_new, AHeap.cell_old, AHeap.range_old, AHeap.get_new, AHeap.get_old, AHeap.put_new, AHeap.lt_new, AHeap.lt_alloc, AHeap.wf_alloc, AHeap.base_new, AHeap.base_alloc, evRVs, evRV, tup, List.map_cons, List.map_nil, List.cons_append, List.nil_append, List.append_nil, List.getElem?_cons_zero, List.getElem?_cons_succ, Nat.zero_add, Option.map_some, Option.map_none, if_true, if_false, ↓reduceIte, Bool.false_eq_true, eq_self, Bool.not_false, Bool.not_true, decide_true, decide_false, hb, Fo.av, cs0, cs1, cs2, cs3, cs_len, cs_take, List.drop_zero, one_f, splice_f, fillA_f, Nat.le_refl, and_self, Nat.add_zero, zcs, zsp, Option.isSome_none]
      exact err 7 _ hle1 hA (by decide)
    | some was =>
      rw [if_neg (by simp [hl])] at hA
      by_cases h1 : id = 1
      · have e1 : (id == 1) = true := by simpa using h1
        rw [if_pos h1] at hA
        simp (decide := true) only [WP_skip, WP_ops, WP_seq, WP_block, WP_exit, WP_ret, WP_cond, CdC_true, CdC_false, seqQ_normal, seqQ_exit, seqQ_ret, seqQ_pan, blkQ_normal, blkQ_exit, blkQ_ret, blkQ_pan, bodyQ_ret, bodyQ_normal, bodyQ_pan, bodyK_some, WP_aops, WPa_nil, WPa_wr, WrA_new, CallA_new, WPa_rd, WPa_call, WPa_callv, WPa_gd, RdA_some, CallA_ret, WPs_nil, WPs_rd, WPs_wr, WPs_call, WPs_callv, WPs_gd, RdK_some, WrK_some, CallK_ret, CallV_func, GdS_tt, GdS_tf, GdS_ft, GdS_ff, GdA_tt, GdA_tf, GdA_ft, GdA_ff, evR, lenV_slc, lenV_tail, lenV_str, iaV_slc, evX, AO.ev, Fr.put_some, Fr.put_none, Fr.at_set, Fr.at_ofArgs, List.getD_cons_zero, List.getD_cons_succ, List.getD_nil, binV, intOp, strOp, AV.cells, AHeap.cell_new, AHeap.range_new, AHeap.cell_old, AHeap.range_old, AHeap.get_new, AHeap.get_old, AHeap.put_new, AHeap.lt_new, AHeap.lt_alloc, AHeap.wf_alloc, AHeap.base_new, AHeap.base_alloc, evRVs, evRV, tup, List.map_cons, List.map_nil, List.cons_append, List.nil_append, List.append_nil, List.getElem?_cons_zero, List.getElem?_cons_succ, Nat.zero_add, Option.map_some, Option.map_none, if_true, if_false, ↓reduceIte, Bool.false_eq_true, eq_self, Bool.not_false, Bool.not_true, decide_true, decide_false, hb, Fo.av, cs0, cs1, cs2, cs3, cs_len, cs_take, List.drop_zero, one_f, splice_f, fillA_f, Nat.le_refl, and_self, Nat.add_zero, zcs, zsp, Option.isSome_some, e1]
        exact err 14 _ hle1 hA (by decide)
      · have e1 : (id == 1) = false := by simpa using h1
        rw [if_neg h1] at hA
        simp (decide := true) only [WP_skip, WP_ops, WP_seq, WP_block, WP_exit, WP_ret, WP_cond, CdC_true, CdC_false, seqQ_normal, seqQ_exit, seqQ_ret, seqQ_pan, blkQ_normal, blkQ_exit, blkQ_ret, blkQ_pan, bodyQ_ret, bodyQ_normal, bodyQ_pan, bodyK_some, WP_aops, WPa_nil, WPa_wr, WrA_new, CallA_new, WPa_rd, WPa_call, WPa_callv, WPa_gd, RdA_some, CallA_ret, WPs_nil, WPs_rd, WPs_wr, WPs_call, WPs_callv, WPs_gd, RdK_some, WrK_some, CallK_ret, CallV_func, GdS_tt, GdS_tf, GdS_ft, GdS_ff, GdA_tt, GdA_tf, GdA_ft, GdA_ff, evR, lenV_slc, lenV_tail, lenV_str, iaV_slc, evX, AO.ev, Fr.put_some, Fr.put_none, Fr.at_set, Fr.at_ofArgs, List.getD_cons_zero, List.getD_cons_succ, List.getD_nil, binV, intOp, strOp, AV.cells, AHeap.cell_new, AHeap.range_new, AHeap.cell_old, AHeap.range_old, AHeap.get_new, AHeap.get_old, AHeap.put_new, AHeap.lt_new, AHeap.lt_alloc, AHeap.wf_alloc, AHeap.base_new, AHeap.base_alloc, evRVs, evRV, tup, List.map_cons, List.map_nil, List.cons_append, List.nil_append, List.append_nil, List.getElem?_cons_zero, List.getElem?_cons_succ, Nat.zero_add, Option.map_some, Option.map_none, if_true, if_false, ↓reduceIte, Bool.false_eq_true, eq_self, Bool.not_false, Bool.not_true, decide_true, decide_false, hb, Fo.av, cs0, cs1, cs2, cs3, cs_len, cs_take, List.drop_zero, one_f, splice_f, fillA_f, Nat.le_refl, and_self, Nat.add_zero, zcs, zsp, Option.isSome_some, e1]
        generalize hH1 : H.alloc (.cells g1.cs none) = H1 at *
        refine WP_loop (fun t' H' => ∃ (i : Nat) (acc : List Int) (r : AV), H1.Le H' ∧ i ≤ l.length ∧ acc = ((l.take i).filter fun x => x.id == id || underF l 4 x.id id).map (·.id) ∧ RowV 1 H1 H' r acc.length (idsA acc) ∧ Fr.at t' 0 = v ∧ Fr.at t' 1 = .int .u32 id ∧ Fr.at t' 9 = r ∧ Fr.at t' 10 = .int .i64 i)
          (fun t' _ => ((l.length : Int) - numOf (Fr.at t' 10)).toNat) ?_ ?_
        · refine ⟨0, [], .slice none 0 (.inl 0), .refl _, by omega, by simp, RowV.nil 1 H1 H1, ?_⟩
          simp (decide := true) only [WP_skip, WP_ops, WP_seq, WP_block, WP_exit, WP_ret, WP_cond, CdC_true, CdC_false, seqQ_normal, seqQ_exit, seqQ_ret, seqQ_pan, blkQ_normal, blkQ_exit, blkQ_ret, blkQ_pan, bodyQ_ret, bodyQ_normal, bodyQ_pan, bodyK_some, WP_aops, WPa_nil, WPa_wr, WrA_new, CallA_new, WPa_rd, WPa_call, WPa_callv, WPa_gd, RdA_some, CallA_ret, WPs_nil, WPs_rd, WPs_wr, WPs_call, WPs_callv, WPs_gd, RdK_some, WrK_some, CallK_ret, CallV_func, GdS_tt, GdS_tf, GdS_ft, GdS_ff, GdA_tt, GdA_tf, GdA_ft, GdA_ff, evR, lenV_slc, lenV_tail, lenV_str, iaV_slc, evX, AO.ev, Fr.put_some, Fr.put_none, Fr.at_set, Fr.at_ofArgs, List.getD_cons_zero, List.getD_cons_succ, List.getD_nil, binV, intOp, strOp, AV.cells, AHeap.cell_new, AHeap.range_new, AHeap.cell_old, AHeap.range_old, AHeap.get_new, AHeap.get_old, AHeap.put_new, AHeap.lt_new, AHeap.lt_alloc, AHeap.wf_alloc, AHeap.base_new, AHeap.base_alloc, evRVs, evRV, tup, List.map_cons, List.map_nil, List.cons_append, List.nil_append, List.append_nil, List.getElem?_cons_zero, List.getElem?_cons_succ, Nat.zero_add, Option.map_some, Option.map_none, if_true, if_false, ↓reduceIte, Bool.false_eq_true, eq_self, Bool.not_false, Bool.not_true, decide_true, decide_false, hb, Int.natCast_zero, and_self]
        · rintro t H2 ⟨i, acc, r, hle2, hi, hacc, hrow, g0, g1', g9, g10⟩
          have hb2 := hle2.wf hb1
          have hV2 := hV.trans hb (hle1.trans hle2)
          have hlen := hV2.len
          by_cases hlt : i < l.length
          · have hI : (i : Int) < (l.length : Int) := by omega
            obtain ⟨a, a1, a2, a3, a4, a5⟩ := hV2.flds hlt
            have hal : acc.length ≤ i := by
              rw [hacc, List.length_map]; exact Nat.le_trans (List.length_filter_le _ _) (by rw [List.length_take]; omega)
            have htk : ((l.take (i + 1)).filter fun x => x.id == id || underF l 4 x.id id).map (·.id) = acc ++ if (l[i].id == id || underF l 4 l[i].id id) = true then [l[i].id] else [] := by
              rw [List.take_add_one, List.getElem?_eq_getElem hlt, List.filter_append, List.map_append, ← hacc]
              cases hx : (l[i].id == id || underF l 4 l[i].id id) <;> simp only [Option.toList_some, List.filter_cons, hx, if_true, List.filter_nil, List.map_cons, List.map_nil, Bool.false_eq_true, if_false]
            have hb2n : H2.base ≤ H2.next := hb2
            obtain ⟨r', H3, ev, hrow3, hle3⟩ := (hrow.trans (.new hb2 (b := .cells [.int .u32 l[i].id] none))).app (x := .slice (some (H2.next, 0)) 1 (.inl 1)) (bytes := 4) (m := 1) (new := [.int .u32 l[i].id]) hb1 (hle2.alloc' hb1)
              (by simp [srcOf, AHeap.range_new hb2]) rfl (by omega) rfl (by omega) (by omega) (by omega)
            have hids : idsA acc ++ [.int .u32 l[i].id] = idsA (acc ++ [l[i].id]) := by simp [idsA]
            rw [hids] at hrow3
            have hfil : fillA [AV.int .u32 0] [(0, 1, .int .u32 l[i].id)] = some [.int .u32 l[i].id] := rfl
            cases c1 : (l[i].id == id) with
            | true =>
              rw [c1, Bool.true_or, if_pos rfl] at htk
              simp (decide := true) only [WP_skip, WP_ops, WP_seq, WP_block, WP_exit, WP_ret, WP_cond, CdC_true, CdC_false, seqQ_normal, seqQ_exit, seqQ_ret, seqQ_pan, blkQ_normal, blkQ_exit, blkQ_ret, blkQ_pan, bodyQ_ret, bodyQ_normal, bodyQ_pan, bodyK_some, WP_aops, WPa_nil, WPa_wr, WrA_new, CallA_new, WPa_rd, WPa_call, WPa_callv, WPa_gd, RdA_some, CallA_ret, WPs_nil, WPs_rd, WPs_wr, WPs_call, WPs_callv, WPs_gd, RdK_some, WrK_some, CallK_ret, CallV_func, GdS_tt, GdS_tf, GdS_ft, GdS_ff, GdA_tt, GdA_tf, GdA_ft, GdA_ff, evR, lenV_slc, lenV_tail, lenV_str, iaV_slc, evX, AO.ev, Fr.put_some, Fr.put_none, Fr.at_set, Fr.at_ofArgs, List.getD_cons_zero, List.getD_cons_succ, List.getD_nil, binV, intOp, strOp, AV.cells, AHeap.cell_new, AHeap.range_new, AHeap.cell_old, AHeap.range_old, AHeap.get_new, AHeap.get_old, AHeap.put_new, AHeap.lt_new, AHeap.lt_alloc, AHeap.wf_alloc, AHeap.base_new, AHeap.base_alloc, evRVs, evRV, tup, List.map_cons, List.map_nil, List.cons_append, List.nil_append, List.append_nil, List.getElem?_cons_zero, List.getElem?_cons_succ, Nat.zero_add, Option.map_some, Option.map_none, if_true, if_false, ↓reduceIte, Bool.false_eq_true, eq_self, Bool.not_false, Bool.not_true, decide_true, decide_false, hb, Fo.av, cs0, cs1, cs2, cs3, cs_len, cs_take, List.drop_zero, one_f, splice_f, fillA_f, Nat.le_refl, and_self, Nat.add_zero, GdS_u, g0, g1', g9, g10, hlen, hI, hb2, a1, a3, c1, hfil, ev, wrapN i (by omega)]
              exact ⟨⟨i + 1, acc ++ [l[i].id], r', hle3, hlt, htk.symm, by simpa using hrow3, by trivial, by trivial, by trivial, by trivial⟩, by simp only [numOf]; omega⟩
            | false =>
              rw [c1, Bool.false_or] at htk
              simp (decide := true) only [WP_skip, WP_ops, WP_seq, WP_block, WP_exit, WP_ret, WP_cond, CdC_true, CdC_false, seqQ_normal, seqQ_exit, seqQ_ret, seqQ_pan, blkQ_normal, blkQ_exit, blkQ_ret, blkQ_pan, bodyQ_ret, bodyQ_normal, bodyQ_pan, bodyK_some, WP_aops, WPa_nil, WPa_wr, WrA_new, CallA_new, WPa_rd, WPa_call, WPa_callv, WPa_gd, RdA_some, CallA_ret, WPs_nil, WPs_rd, WPs_wr, WPs_call, WPs_callv, WPs_gd, RdK_some, WrK_some, CallK_ret, CallV_func, GdS_tt, GdS_tf, GdS_ft, GdS_ff, GdA_tt, GdA_tf, GdA_ft, GdA_ff, evR, lenV_slc, lenV_tail, lenV_str, iaV_slc, evX, AO.ev, Fr.put_some, Fr.put_none, Fr.at_set, Fr.at_ofArgs, List.getD_cons_zero, List.getD_cons_succ, List.getD_nil, binV, intOp, strOp, AV.cells, AHeap.cell_new, AHeap.range_new, AHeap.cell_old, AHeap.range_old, AHeap.get_new, AHeap.get_old, AHeap.put_new, AHeap.lt_new, AHeap.lt_alloc, AHeap.wf_alloc, AHeap.base_new, AHeap.base_alloc, evRVs, evRV, tup, List.map_cons, List.map_nil, List.cons_append, List.nil_append, List.append_nil, List.getElem?_cons_zero, List.getElem?_cons_succ, Nat.zero_add, Option.map_some, Option.map_none, if_true, if_false, ↓reduceIte, Bool.false_eq_true, eq_self, Bool.not_false, Bool.not_true, decide_true, decide_false, hb, Fo.av, cs0, cs1, cs2, cs3, cs_len, cs_take, List.drop_zero, one_f, splice_f, fillA_f, Nat.le_refl, and_self, Nat.add_zero, GdS_u, g0, g1', g9, g10, hlen, hI, hb2, a1, a3, c1]
              refine f36 hV2 ?_
              cases c2 : underF l 4 l[i].id id with
              | true =>
                rw [c2, if_pos rfl] at htk
                simp (decide := true) only [WP_skip, WP_ops, WP_seq, WP_block, WP_exit, WP_ret, WP_cond, CdC_true, CdC_false, seqQ_normal, seqQ_exit, seqQ_ret, seqQ_pan, blkQ_normal, blkQ_exit, blkQ_ret, blkQ_pan, bodyQ_ret, bodyQ_normal, bodyQ_pan, bodyK_some, WP_aops, WPa_nil, WPa_wr, WrA_new, CallA_new, WPa_rd, WPa_call, WPa_callv, WPa_gd, RdA_some, CallA_ret, WPs_nil, WPs_rd, WPs_wr, WPs_call, WPs_callv, WPs_gd, RdK_some, WrK_some, CallK_ret, CallV_func, GdS_tt, GdS_tf, GdS_ft, GdS_ff, GdA_tt, GdA_tf, GdA_ft, GdA_ff, evR, lenV_slc, lenV_tail, lenV_str, iaV_slc, evX, AO.ev, Fr.put_some, Fr.put_none, Fr.at_set, Fr.at_ofArgs, List.getD_cons_zero, List.getD_cons_succ, List.getD_nil, binV, intOp, strOp, AV.cells, AHeap.cell_new, AHeap.range_new, AHeap.cell_old, AHeap.range_old, AHeap.get_new, AHeap.get_old, AHeap.put_new, AHeap.lt_new, AHeap.lt_alloc, AHeap.wf_alloc, AHeap.base_new, AHeap.base_alloc, evRVs, evRV, tup, List.map_cons, List.map_nil, List.cons_append, List.nil_append, List.append_nil, List.getElem?_cons_zero, List.getElem?_cons_succ, Nat.zero_add, Option.map_some, Option.map_none, if_true, if_false, ↓reduceIte, Bool.false_eq_true, eq_self, Bool.not_false, Bool.not_true, decide_true, decide_false, hb, Fo.av, cs0, cs1, cs2, cs3, cs_len, cs_take, List.drop_zero, one_f, splice_f, fillA_f, Nat.le_refl, and_self, Nat.add_zero, g0, g1', g9, g10, hlen, hI, hb2, a1, a3, hfil, ev, wrapN i (by omega)]
                exact ⟨⟨i + 1, acc ++ [l[i].id], r', hle3, hlt, htk.symm, by simpa using hrow3, by trivial, by trivial, by trivial, by trivial⟩, by simp only [numOf]; omega⟩
              | false =>
                rw [c2, if_neg (by simp), List.append_nil] at htk
                simp (decide := true) only [WP_skip, WP_ops, WP_seq, WP_block, WP_exit, WP_ret, WP_cond, CdC_true, CdC_false, seqQ_normal, seqQ_exit, seqQ_ret, seqQ_pan, blkQ_normal, blkQ_exit, blkQ_ret, blkQ_pan, bodyQ_ret, bodyQ_normal, bodyQ_pan, bodyK_some, WP_aops, WPa_nil, WPa_wr, WrA_new, CallA_new, WPa_rd, WPa_call, WPa_callv, WPa_gd, RdA_some, CallA_ret, WPs_nil, WPs_rd, WPs_wr, WPs_call, WPs_callv, WPs_gd, RdK_some, WrK_some, CallK_ret, CallV_func, GdS_tt, GdS_tf, GdS_ft, GdS_ff, GdA_tt, GdA_tf, GdA_ft, GdA_ff, evR, lenV_slc, lenV_tail, lenV_str, iaV_slc, evX, AO.ev, Fr.put_some, Fr.put_none, Fr.at_set, Fr.at_ofArgs, List.getD_cons_zero, List.getD_cons_succ, List.getD_nil, binV, intOp, strOp, AV.cells, AHeap.cell_new, AHeap.range_new, AHeap.cell_old, AHeap.range_old, AHeap.get_new, AHeap.get_old, AHeap.put_new, AHeap.lt_new, AHeap.lt_alloc, AHeap.wf_alloc, AHeap.base_new, AHeap.base_alloc, evRVs, evRV, tup, List.map_cons, List.map_nil, List.cons_append, List.nil_append, List.append_nil, List.getElem?_cons_zero, List.getElem?_cons_succ, Nat.zero_add, Option.map_some, Option.map_none, if_true, if_false, ↓reduceIte, Bool.false_eq_true, eq_self, Bool.not_false, Bool.not_true, decide_true, decide_false, hb, Fo.av, cs0, cs1, cs2, cs3, cs_len, cs_take, List.drop_zero, one_f, splice_f, fillA_f, Nat.le_refl, and_self, Nat.add_zero, g0, g1', g9, g10, hlen, hI, hb2, a1, a3, wrapN i (by omega)]
                exact ⟨⟨i + 1, acc, r, hle2, hlt, htk.symm, hrow, by trivial, by trivial, by trivial, by trivial⟩, by simp only [numOf]; omega⟩
          · have hI : ¬ (i : Int) < (l.length : Int) := by omega
            have hil : i = l.length := by omega
            rw [hil, List.take_length] at hacc
            have hacc' : acc = goneR l id := hacc
            subst hacc'
            have hgl : (goneR l id).length ≤ 1000 := by
              rw [goneR, List.length_map]; exact Nat.le_trans (List.length_filter_le _ _) hle
            have hU2 : IV H2 r (goneR l id) := by
              rcases hrow with ⟨r0, _, rfl⟩ | ⟨r0, i2, r1, r2, rfl, r4, r5⟩
              · have : goneR l id = [] := List.eq_nil_of_length_eq_zero r0
                rw [this]; exact IV.nil _
              · have hI : IS H2 (i2, 0) (goneR l id) := ⟨r2, hgl, by rw [AHeap.range_of r4, if_pos (by simp [idsA]), List.drop_zero, List.take_of_length_le (by simp [idsA])]⟩
                exact hI.iv
            have hle02 := hle1.trans hle2
            simp (decide := true) only [WP_skip, WP_ops, WP_seq, WP_block, WP_exit, WP_ret, WP_cond, CdC_true, CdC_false, seqQ_normal, seqQ_exit, seqQ_ret, seqQ_pan, blkQ_normal, blkQ_exit, blkQ_ret, blkQ_pan, bodyQ_ret, bodyQ_normal, bodyQ_pan, bodyK_some, WP_aops, WPa_nil, WPa_wr, WrA_new, CallA_new, WPa_rd, WPa_call, WPa_callv, WPa_gd, RdA_some, CallA_ret, WPs_nil, WPs_rd, WPs_wr, WPs_call, WPs_callv, WPs_gd, RdK_some, WrK_some, CallK_ret, CallV_func, GdS_tt, GdS_tf, GdS_ft, GdS_ff, GdA_tt, GdA_tf, GdA_ft, GdA_ff, evR, lenV_slc, lenV_tail, lenV_str, iaV_slc, evX, AO.ev, Fr.put_some, Fr.put_none, Fr.at_set, Fr.at_ofArgs, List.getD_cons_zero, List.getD_cons_succ, List.getD_nil, binV, intOp, strOp, AV.cells, AHeap.cell_new, AHeap.range_new, AHeap.cell_old, AHeap.range_old, AHeap.get_new, AHeap.get_old, AHeap.put_new, AHeap.lt_new, AHeap.lt_alloc, AHeap.wf_alloc, AHeap.base_new, AHeap.base_alloc, evRVs, evRV, tup, List.map_cons, List.map_nil, List.cons_append, List.nil_append, List.append_nil, List.getElem?_cons_zero, List.getElem?_cons_succ, Nat.zero_add, Option.map_some, Option.map_none, if_true, if_false, ↓reduceIte, Bool.false_eq_true, eq_self, Bool.not_false, Bool.not_true, decide_true, decide_false, hb, Fo.av, cs0, cs1, cs2, cs3, cs_len, cs_take, List.drop_zero, one_f, splice_f, fillA_f, Nat.le_refl, and_self, Nat.add_zero, g0, g1', g9, g10, hlen, hI]
            refine f37 hV2 hU2 ?_
            rw [rowFQ]
            split
            · rename_i e
              simp (decide := true) only [WP_skip, WP_ops, WP_seq, WP_block, WP_exit, WP_ret, WP_cond, CdC_true, CdC_false, seqQ_normal, seqQ_exit, seqQ_ret, seqQ_pan, blkQ_normal, blkQ_exit, blkQ_ret, blkQ_pan, bodyQ_ret, bodyQ_normal, bodyQ_pan, bodyK_some, WP_aops, WPa_nil, WPa_wr, WrA_new, CallA_new, WPa_rd, WPa_call, WPa_callv, WPa_gd, RdA_some, CallA_ret, WPs_nil, WPs_rd, WPs_wr, WPs_call, WPs_callv, WPs_gd, RdK_some, WrK_some, CallK_ret, CallV_func, GdS_tt, GdS_tf, GdS_ft, GdS_ff, GdA_tt, GdA_tf, GdA_ft, GdA_ff, evR, lenV_slc, lenV_tail, lenV_str, iaV_slc, evX, AO.ev, Fr.put_some, Fr.put_none, Fr.at_set, Fr.at_ofArgs, List.getD_cons_zero, List.getD_cons_succ, List.getD_nil, binV, intOp, strOp, AV.cells, AHeap.cell_new, AHeap.range_new, AHeap.cell_old, AHeap.range_old, AHeap.get_new, AHeap.get_old, AHeap.put_new, AHeap.lt_new, AHeap.lt_alloc, AHeap.wf_alloc, AHeap.base_new, AHeap.base_alloc, evRVs, evRV, tup, List.map_cons, List.map_nil, List.cons_append, List.nil_append, List.append_nil, List.getElem?_cons_zero, List.getElem?_cons_succ, Nat.zero_add, Option.map_some, Option.map_none, if_true, if_false, ↓reduceIte, Bool.false_eq_true, eq_self, Bool.not_false, Bool.not_true, decide_true, decide_false, hb, Fo.av, cs0, cs1, cs2, cs3, cs_len, cs_take, List.drop_zero, one_f, splice_f, fillA_f, Nat.le_refl, and_self, Nat.add_zero, g0, g1', g9, g10]
              refine .this (hok hA H2 _ _ hle02 ?_ hU2)
              rw [e]; exact FV.nil _
            · rename_i e
              have hl23 := AHeap.Le.new hb2 (b := .cells ((l.filter fun x => !(goneR l id).any fun y => x.id == y).flatMap Fo.cs) (some 4))
              simp (decide := true) only [WP_skip, WP_ops, WP_seq, WP_block, WP_exit, WP_ret, WP_cond, CdC_true, CdC_false, seqQ_normal, seqQ_exit, seqQ_ret, seqQ_pan, blkQ_normal, blkQ_exit, blkQ_ret, blkQ_pan, bodyQ_ret, bodyQ_normal, bodyQ_pan, bodyK_some, WP_aops, WPa_nil, WPa_wr, WrA_new, CallA_new, WPa_rd, WPa_call, WPa_callv, WPa_gd, RdA_some, CallA_ret, WPs_nil, WPs_rd, WPs_wr, WPs_call, WPs_callv, WPs_gd, RdK_some, WrK_some, CallK_ret, CallV_func, GdS_tt, GdS_tf, GdS_ft, GdS_ff, GdA_tt, GdA_tf, GdA_ft, GdA_ff, evR, lenV_slc, lenV_tail, lenV_str, iaV_slc, evX, AO.ev, Fr.put_some, Fr.put_none, Fr.at_set, Fr.at_ofArgs, List.getD_cons_zero, List.getD_cons_succ, List.getD_nil, binV, intOp, strOp, AV.cells, AHeap.cell_new, AHeap.range_new, AHeap.cell_old, AHeap.range_old, AHeap.get_new, AHeap.get_old, AHeap.put_new, AHeap.lt_new, AHeap.lt_alloc, AHeap.wf_alloc, AHeap.base_new, AHeap.base_alloc, evRVs, evRV, tup, List.map_cons, List.map_nil, List.cons_append, List.nil_append, List.append_nil, List.getElem?_cons_zero, List.getElem?_cons_succ, Nat.zero_add, Option.map_some, Option.map_none, if_true, if_false, ↓reduceIte, Bool.false_eq_true, eq_self, Bool.not_false, Bool.not_true, decide_true, decide_false, hb, Fo.av, cs0, cs1, cs2, cs3, cs_len, cs_take, List.drop_zero, one_f, splice_f, fillA_f, Nat.le_refl, and_self, Nat.add_zero, g0, g1', g9, g10]
              exact .this (hok hA _ _ _ (hle02.trans hl23) (FS.new hb2 (Nat.le_trans (List.length_filter_le _ _) hle)).fv (hU2.trans hb2 hl23))
end Go.AM
