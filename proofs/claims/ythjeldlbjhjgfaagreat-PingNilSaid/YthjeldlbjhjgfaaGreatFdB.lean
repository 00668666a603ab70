/- Folders: rows that grow; whether one is among many; the way up. -/
import Derived.Test.YthjeldlbjhjgfaaGreatFdA
namespace Go.AM
open Go Go.Proofs
set_option linter.unusedSimpArgs false
set_option linter.unusedVariables false
set_option maxRecDepth 100000

theorem idx_any {α : Type} (pr : α → Bool) (l : List α) : decide (idx pr l ≥ 0) = l.any pr := by
  unfold idx
  cases h : l.findIdx? pr with
  | none =>
    rw [List.findIdx?_eq_none_iff] at h
    have : l.any pr = false := by
      rw [List.any_eq_false]; intro x hx; simp [h x hx]
    simp [this]
  | some i =>
    obtain ⟨h1, h2, _⟩ := List.findIdx?_eq_some_iff_getElem.1 h
    have : l.any pr = true := List.any_eq_true.2 ⟨l[i], List.getElem_mem h1, h2⟩
    simp [this]

theorem f34 {H : AHeap} {Q : AE → AHeap → Prop} {p : Nat × Nat} {l : List Fo} {n : Nat} (hn : n = l.length) {c : Nat ⊕ Nat} (hF : FS H p l) {g : FuncId} {first cap : List AV} (pr : Fo → Bool)
    (hcall : ∀ f ∈ l, ∀ (Q : AE → AHeap → Prop), Q (.ret (.bool (pr f))) H → ACall Tryz.prog g (first ++ [f.av] ++ cap) H Q) (h : Q (.ret (.bool (l.any pr))) H) :
    ACall Tryz.prog 34 [.slice (some p) n c, .func (.func g) first cap] H Q := by
  refine ACall.comp [] mixed (by decide +kernel) fun F hF' => ?_
  cbv at hF'
  cases hF'
  refine ⟨by simp, fun hb ha => ?_⟩
  simp (decide := true) only [WP_skip, WP_ops, WP_seq, WP_block, WP_exit, WP_ret, WP_cond, CdC_true, CdC_false, seqQ_normal, seqQ_exit, seqQ_ret, seqQ_pan, blkQ_normal, blkQ_exit, blkQ_ret, blkQ_pan, bodyQ_ret, bodyQ_normal, bodyQ_pan, bodyK_some, WP_aops, WPa_nil, WPa_wr, WrA_new, CallA_new, WPa_rd, WPa_call, WPa_callv, WPa_gd, RdA_some, CallA_ret, WPs_nil, WPs_rd, WPs_wr, WPs_call, WPs_callv, WPs_gd, RdK_some, WrK_some, CallK_ret, CallV_func, GdS_tt, GdS_tf, GdS_ft, GdS_ff, GdA_tt, GdA_tf, GdA_ft, GdA_ff, evR, lenV_slc, lenV_tail, lenV_str, iaV_slc, evX, AO.ev, Fr.put_some, Fr.put_none, Fr.at_set, Fr.at_ofArgs, List.getD_cons_zero, List.getD_cons_succ, List.getD_nil, binV, intOp, strOp, AV.cells, AHeap.cell_new, AHeap.range_new, AHeap.cell_old, AHeap.range_old, AHeap.get_new, AHeap.get_old, AHeap.put_new, AHeap.lt_new, AHeap.lt_alloc, AHeap.wf_alloc, AHeap.base_new, AHeap.base_alloc, evRVs, evRV, tup, List.map_cons, List.map_nil, List.cons_append, List.nil_append, List.append_nil, List.getElem?_cons_zero, List.getElem?_cons_succ, Nat.zero_add, Option.map_some, Option.map_none, if_true, if_false, ↓reduceIte, Bool.false_eq_true, eq_self, Bool.not_false, Bool.not_true, decide_true, decide_false, Option.isNone_none, Option.isNone_some, WPs_nxt, CallV_yield, hb]
  refine f51 hn hF pr hcall ?_
  simp (decide := true) only [WP_skip, WP_ops, WP_seq, WP_block, WP_exit, WP_ret, WP_cond, CdC_true, CdC_false, seqQ_normal, seqQ_exit, seqQ_ret, seqQ_pan, blkQ_normal, blkQ_exit, blkQ_ret, blkQ_pan, bodyQ_ret, bodyQ_normal, bodyQ_pan, bodyK_some, WP_aops, WPa_nil, WPa_wr, WrA_new, CallA_new, WPa_rd, WPa_call, WPa_callv, WPa_gd, RdA_some, CallA_ret, WPs_nil, WPs_rd, WPs_wr, WPs_call, WPs_callv, WPs_gd, RdK_some, WrK_some, CallK_ret, CallV_func, GdS_tt, GdS_tf, GdS_ft, GdS_ff, GdA_tt, GdA_tf, GdA_ft, GdA_ff, evR, lenV_slc, lenV_tail, lenV_str, iaV_slc, evX, AO.ev, Fr.put_some, Fr.put_none, Fr.at_set, Fr.at_ofArgs, List.getD_cons_zero, List.getD_cons_succ, List.getD_nil, binV, intOp, strOp, AV.cells, AHeap.cell_new, AHeap.range_new, AHeap.cell_old, AHeap.range_old, AHeap.get_new, AHeap.get_old, AHeap.put_new, AHeap.lt_new, AHeap.lt_alloc, AHeap.wf_alloc, AHeap.base_new, AHeap.base_alloc, evRVs, evRV, tup, List.map_cons, List.map_nil, List.cons_append, List.nil_append, List.append_nil, List.getElem?_cons_zero, List.getElem?_cons_succ, Nat.zero_add, Option.map_some, Option.map_none, if_true, if_false, ↓reduceIte, Bool.false_eq_true, eq_self, Bool.not_false, Bool.not_true, decide_true, decide_false, Option.isNone_none, Option.isNone_some, WPs_nxt, CallV_yield, hb, idx_any]
  exact .same (.refl _) trivial h

/-- A folder by its number. -/
def look (l : List Fo) (id : Int) : Option Fo := l.find? fun f => f.id == id
theorem find_cases (l : List Fo) (id : Int) : (findI l id = -1 ∧ look l id = none) ∨ ∃ (i : Nat) (hi : i < l.length), findI l id = i ∧ look l id = some l[i] ∧ l[i].id = id := by
  unfold findI idx look
  cases h : l.findIdx? (fun f => f.id == id) with
  | none =>
    rw [List.findIdx?_eq_none_iff] at h
    exact .inl ⟨rfl, List.find?_eq_none.2 fun x hx => by simp [h x hx]⟩
  | some i =>
    obtain ⟨h1, h2, h3⟩ := List.findIdx?_eq_some_iff_getElem.1 h
    refine .inr ⟨i, h1, rfl, List.find?_eq_some_iff_getElem.2 ⟨h2, i, h1, rfl, fun j hj => by simpa using h3 j hj⟩, by simpa using h2⟩

theorem FS.fid {H : AHeap} {p : Nat × Nat} {l : List Fo} (h : FS H p l) {i : Nat} (hi : i < l.length) : H.cell (p.1, p.2 + i * 4 + 0) = some (.int .u32 l[i].id) := h.fld (k := 0) hi (by omega)
theorem FS.fpar {H : AHeap} {p : Nat × Nat} {l : List Fo} (h : FS H p l) {i : Nat} (hi : i < l.length) : H.cell (p.1, p.2 + i * 4 + 1) = some (.int .u32 l[i].par) := h.fld (k := 1) hi (by omega)
theorem FS.fname {H : AHeap} {p : Nat × Nat} {l : List Fo} (h : FS H p l) {i : Nat} (hi : i < l.length) : H.cell (p.1, p.2 + i * 4 + 2) = some (.str l[i].name) := h.fld (k := 2) hi (by omega)

/-! ### a row that grows -/
def RowV (sz : Nat) (H0 H : AHeap) (v : AV) (n : Nat) (cs : List AV) : Prop :=
  (n = 0 ∧ cs = [] ∧ v = .slice none 0 (.inl 0)) ∨
  (0 < n ∧ ∃ i, H0.next ≤ i ∧ i < H.next ∧ v = .slice (some (i, 0)) n (.inr 0) ∧ H.get i = some (.cells cs (some sz)) ∧ cs.length = n * sz)
theorem RowV.nil (sz : Nat) (H0 H : AHeap) : RowV sz H0 H (.slice none 0 (.inl 0)) 0 [] := .inl ⟨rfl, rfl, rfl⟩
theorem RowV.trans {sz : Nat} {H0 H H' : AHeap} {v : AV} {n : Nat} {cs : List AV} (h : RowV sz H0 H v n cs) (hle : H.Le H') : RowV sz H0 H' v n cs := by
  rcases h with h | ⟨h0, i, h1, h2, h3, h4, h5⟩
  · exact .inl h
  · exact .inr ⟨h0, i, h1, hle.lt h2, h3, by rw [hle.get i h2]; exact h4, h5⟩
theorem RowV.app {sz bytes : Nat} {H0 H : AHeap} {v x : AV} {n m : Nat} {cs new : List AV} (h : RowV sz H0 H v n cs) (hb : H0.WF) (hle : H0.Le H) (hx : srcOf H sz x = some (m, new)) (hone : new.all (·.one) = true)
    (hm : 0 < m) (hnew : new.length = m * sz) (hsz : 0 < sz) (hsmall : (n + m) * bytes ≤ 140737488355328) (hsmall2 : n + m ≤ 9223372036854775807) :
    ∃ v' H', evApp H sz bytes v x = some (v', H') ∧ RowV sz H0 H' v' (n + m) (cs ++ new) ∧ H0.Le H' := by
  have hwf := hle.wf hb
  rcases h with ⟨rfl, rfl, rfl⟩ | ⟨h0, i, h1, h2, rfl, h4, h5⟩
  · refine ⟨.slice (some (H.next, 0)) (0 + m) (.inr 0), H.alloc (.cells ([] ++ new) (some sz)), ?_, .inr ⟨by omega, H.next, hle.next, AHeap.lt_new, rfl, AHeap.get_new hwf, by simpa using hnew⟩, hle.alloc' hb⟩
    simp only [evApp, hx, hone, Bool.not_true, Bool.false_eq_true, if_false, if_neg (show ¬ m = 0 by omega), appMove, hsmall, hsmall2, and_self, if_true]
  · have hnd : H0.base ≤ i := Nat.le_trans hb h1
    have hbi : H.base ≤ i := by rw [hle.base]; exact hnd
    have hmul : 0 < m * sz := Nat.mul_pos hm hsz
    refine ⟨.slice (some (H.next, 0)) (n + m) (.inr 0), (H.put i .dead).alloc (.cells (cs ++ new) (some sz)), ?_, .inr ⟨by omega, H.next, hle.next, by simp, rfl, AHeap.get_new (H := H.put i .dead) hwf, by rw [List.length_append, h5, hnew, Nat.add_mul]⟩, ?_⟩
    · have htake : cs.take (n * sz) = cs := List.take_of_length_le (by omega)
      simp only [evApp, hx, hone, Bool.not_true, Bool.false_eq_true, if_false, h4, Nat.zero_mul, Nat.zero_add, true_and, h5, Nat.le_refl, hbi, and_self, if_true, if_neg (show ¬ m = 0 by omega), hnew, if_neg (show ¬ n * sz + m * sz ≤ n * sz by omega), appMove, hsmall, hsmall2, htake]
      rfl
    · exact (hle.put' hb h1 h2).alloc' hb

/-- The folders from one up to the first, four at most. -/
def wayF (l : List Fo) : Nat → Int → List Int → Option (List Int)
  | 0, _, _ => none
  | k + 1, id, acc => match look l id with
    | none => none
    | some f => if f.par = 0 then some (acc ++ [id]) else wayF l k f.par (acc ++ [id])
theorem wayF_some {l : List Fo} {k : Nat} {id : Int} {acc : List Int} {f : Fo} (h : look l id = some f) : wayF l (k + 1) id acc = if f.par = 0 then some (acc ++ [id]) else wayF l k f.par (acc ++ [id]) := by
  rw [wayF, h]
def idsA (l : List Int) : List AV := l.map (.int .u32)

/-- What the row's call answers. -/
def rowR (H : AHeap) (l : List Int) : AV := if l = [] then .slice none 0 (.inl 0) else .slice (some (H.next, 0)) l.length (.inr 0)
def rowH (H : AHeap) (l : List Int) : AHeap := if l = [] then H else H.alloc (.cells (idsA l) (some 1))
theorem okL_ids (n : Nat) (l : List Int) : AV.okL n (idsA l) := by
  rw [AV.okL_iff]; intro v hv
  obtain ⟨x, _, rfl⟩ := List.mem_map.1 hv
  trivial

theorem f65 {H : AHeap} {Q : AE → AHeap → Prop} {p : Nat × Nat} {l : List Fo} {n : Nat} (hn : n = l.length) {c : Nat ⊕ Nat} (hF : FS H p l) {id : Int}
    (h : match wayF l 4 id [] with
      | some w => Q (.ret (.tuple [.slice (some (H.next, 0)) w.length (.inr 0), .bool true])) (H.alloc (.cells (idsA w) (some 1)))
      | none => Q (.ret (.tuple [.slice none 0 (.inl 0), .bool false])) H) :
    ACall Tryz.prog 65 [.slice (some p) n c, .int .u32 id] H Q := by
  refine ACall.comp [] mixed (by decide +kernel) fun F hF' => ?_
  cbv at hF'
  cases hF'
  refine ⟨by simp, fun hb ha => ?_⟩
  simp (decide := true) only [WP_skip, WP_ops, WP_seq, WP_block, WP_exit, WP_ret, WP_cond, CdC_true, CdC_false, seqQ_normal, seqQ_exit, seqQ_ret, seqQ_pan, blkQ_normal, blkQ_exit, blkQ_ret, blkQ_pan, bodyQ_ret, bodyQ_normal, bodyQ_pan, bodyK_some, WP_aops, WPa_nil, WPa_wr, WrA_new, CallA_new, WPa_rd, WPa_call, WPa_callv, WPa_gd, RdA_some, CallA_ret, WPs_nil, WPs_rd, WPs_wr, WPs_call, WPs_callv, WPs_gd, RdK_some, WrK_some, CallK_ret, CallV_func, GdS_tt, GdS_tf, GdS_ft, GdS_ff, GdA_tt, GdA_tf, GdA_ft, GdA_ff, evR, lenV_slc, lenV_tail, lenV_str, iaV_slc, evX, AO.ev, Fr.put_some, Fr.put_none, Fr.at_set, Fr.at_ofArgs, List.getD_cons_zero, List.getD_cons_succ, List.getD_nil, binV, intOp, strOp, AV.cells, AHeap.cell_new, AHeap.range_new, AHeap.cell_old, AHeap.range_old, AHeap.get_new, AHeap.get_old, AHeap.put_new, AHeap.lt_new, AHeap.lt_alloc, AHeap.wf_alloc, AHeap.base_new, AHeap.base_alloc, evRVs, evRV, tup, List.map_cons, List.map_nil, List.cons_append, List.nil_append, List.append_nil, List.getElem?_cons_zero, List.getElem?_cons_succ, Nat.zero_add, Option.map_some, Option.map_none, if_true, if_false, ↓reduceIte, Bool.false_eq_true, eq_self, Bool.not_false, Bool.not_true, decide_true, decide_false, Option.isNone_none, Option.isNone_some, WPs_nxt, CallV_yield, hb]
  refine WP_loop (fun t' H' => ∃ (k : Nat) (i : Int) (acc : List Int) (v : AV), H.Le H' ∧ k ≤ 4 ∧ wayF l (4 - k) i acc = wayF l 4 id [] ∧ acc.length = k ∧ RowV 1 H H' v acc.length (idsA acc) ∧
    Fr.at t' 0 = .slice (some p) n c ∧ Fr.at t' 1 = .int .u32 i ∧ Fr.at t' 6 = v ∧ Fr.at t' 9 = .int .i64 k) (fun t' _ => (4 - numOf (Fr.at t' 9)).toNat) ?_ ?_
  · refine ⟨0, id, [], _, .refl _, by omega, rfl, rfl, RowV.nil 1 H H, ?_⟩
    simp (decide := true) only [WP_skip, WP_ops, WP_seq, WP_block, WP_exit, WP_ret, WP_cond, CdC_true, CdC_false, seqQ_normal, seqQ_exit, seqQ_ret, seqQ_pan, blkQ_normal, blkQ_exit, blkQ_ret, blkQ_pan, bodyQ_ret, bodyQ_normal, bodyQ_pan, bodyK_some, WP_aops, WPa_nil, WPa_wr, WrA_new, CallA_new, WPa_rd, WPa_call, WPa_callv, WPa_gd, RdA_some, CallA_ret, WPs_nil, WPs_rd, WPs_wr, WPs_call, WPs_callv, WPs_gd, RdK_some, WrK_some, CallK_ret, CallV_func, GdS_tt, GdS_tf, GdS_ft, GdS_ff, GdA_tt, GdA_tf, GdA_ft, GdA_ff, evR, lenV_slc, lenV_tail, lenV_str, iaV_slc, evX, AO.ev, Fr.put_some, Fr.put_none, Fr.at_set, Fr.at_ofArgs, List.getD_cons_zero, List.getD_cons_succ, List.getD_nil, binV, intOp, strOp, AV.cells, AHeap.cell_new, AHeap.range_new, AHeap.cell_old, AHeap.range_old, AHeap.get_new, AHeap.get_old, AHeap.put_new, AHeap.lt_new, AHeap.lt_alloc, AHeap.wf_alloc, AHeap.base_new, AHeap.base_alloc, evRVs, evRV, tup, List.map_cons, List.map_nil, List.cons_append, List.nil_append, List.append_nil, List.getElem?_cons_zero, List.getElem?_cons_succ, Nat.zero_add, Option.map_some, Option.map_none, if_true, if_false, ↓reduceIte, Bool.false_eq_true, eq_self, Bool.not_false, Bool.not_true, decide_true, decide_false, Option.isNone_none, Option.isNone_some, WPs_nxt, CallV_yield, hb, Int.natCast_zero, and_self]
  · rintro t' H' ⟨k, i, acc, v, hle, hk, hw, hacc, hrow, h0, h1, h6, h9⟩
    have hb' := hle.wf hb
    by_cases hlt : k < 4
    · have hI : (k : Int) < 4 := by omega
      simp (decide := true) only [WP_skip, WP_ops, WP_seq, WP_block, WP_exit, WP_ret, WP_cond, CdC_true, CdC_false, seqQ_normal, seqQ_exit, seqQ_ret, seqQ_pan, blkQ_normal, blkQ_exit, blkQ_ret, blkQ_pan, bodyQ_ret, bodyQ_normal, bodyQ_pan, bodyK_some, WP_aops, WPa_nil, WPa_wr, WrA_new, CallA_new, WPa_rd, WPa_call, WPa_callv, WPa_gd, RdA_some, CallA_ret, WPs_nil, WPs_rd, WPs_wr, WPs_call, WPs_callv, WPs_gd, RdK_some, WrK_some, CallK_ret, CallV_func, GdS_tt, GdS_tf, GdS_ft, GdS_ff, GdA_tt, GdA_tf, GdA_ft, GdA_ff, evR, lenV_slc, lenV_tail, lenV_str, iaV_slc, evX, AO.ev, Fr.put_some, Fr.put_none, Fr.at_set, Fr.at_ofArgs, List.getD_cons_zero, List.getD_cons_succ, List.getD_nil, binV, intOp, strOp, AV.cells, AHeap.cell_new, AHeap.range_new, AHeap.cell_old, AHeap.range_old, AHeap.get_new, AHeap.get_old, AHeap.put_new, AHeap.lt_new, AHeap.lt_alloc, AHeap.wf_alloc, AHeap.base_new, AHeap.base_alloc, evRVs, evRV, tup, List.map_cons, List.map_nil, List.cons_append, List.nil_append, List.append_nil, List.getElem?_cons_zero, List.getElem?_cons_succ, Nat.zero_add, Option.map_some, Option.map_none, if_true, if_false, ↓reduceIte, Bool.false_eq_true, eq_self, Bool.not_false, Bool.not_true, decide_true, decide_false, Option.isNone_none, Option.isNone_some, WPs_nxt, CallV_yield, hb, h0, h1, h6, h9, hI, decide_true]
      refine f45 hn (hF.trans hle) ?_
      have hlen := hF.le
      rcases find_cases l i with ⟨e1, e2⟩ | ⟨j, hj, e1, e2, e3⟩
      · have hw0 : wayF l 4 id [] = none := by
          rw [← hw, show 4 - k = (3 - k) + 1 by omega]; simp only [wayF, e2]
        rw [hw0] at h
        simp (decide := true) only [WP_skip, WP_ops, WP_seq, WP_block, WP_exit, WP_ret, WP_cond, CdC_true, CdC_false, seqQ_normal, seqQ_exit, seqQ_ret, seqQ_pan, blkQ_normal, blkQ_exit, blkQ_ret, blkQ_pan, bodyQ_ret, bodyQ_normal, bodyQ_pan, bodyK_some, WP_aops, WPa_nil, WPa_wr, WrA_new, CallA_new, WPa_rd, WPa_call, WPa_callv, WPa_gd, RdA_some, CallA_ret, WPs_nil, WPs_rd, WPs_wr, WPs_call, WPs_callv, WPs_gd, RdK_some, WrK_some, CallK_ret, CallV_func, GdS_tt, GdS_tf, GdS_ft, GdS_ff, GdA_tt, GdA_tf, GdA_ft, GdA_ff, evR, lenV_slc, lenV_tail, lenV_str, iaV_slc, evX, AO.ev, Fr.put_some, Fr.put_none, Fr.at_set, Fr.at_ofArgs, List.getD_cons_zero, List.getD_cons_succ, List.getD_nil, binV, intOp, strOp, AV.cells, AHeap.cell_new, AHeap.range_new, AHeap.cell_old, AHeap.range_old, AHeap.get_new, AHeap.get_old, AHeap.put_new, AHeap.lt_new, AHeap.lt_alloc, AHeap.wf_alloc, AHeap.base_new, AHeap.base_alloc, evRVs, evRV, tup, List.map_cons, List.map_nil, List.cons_append, List.nil_append, List.append_nil, List.getElem?_cons_zero, List.getElem?_cons_succ, Nat.zero_add, Option.map_some, Option.map_none, if_true, if_false, ↓reduceIte, Bool.false_eq_true, eq_self, Bool.not_false, Bool.not_true, decide_true, decide_false, Option.isNone_none, Option.isNone_some, WPs_nxt, CallV_yield, hb, h0, h1, h6, h9, e1]
        exact .same hle (by simp [AV.ok, AV.okL]) h
      · obtain ⟨v', H2, happ, hrow2, hle2⟩ := (hrow.trans (.new hb' (b := .cells [.int .u32 i] none))).app (x := .slice (some (H'.next, 0)) 1 (.inl 1)) (bytes := 4) (m := 1) (new := [.int .u32 i]) hb (hle.alloc' hb)
          (by simp [srcOf, AHeap.range_new hb']) rfl (by omega) rfl (by omega) (by omega) (by omega)
        have hj' : (j : Int) < (n : Int) := by omega
        have hj0 : 0 ≤ (j : Int) := by omega
        have hj1 : ¬ 0 > (j : Int) := by omega
        have hj2 : (j : Int) ≥ 0 := by omega
        have hF2 := hF.trans hle2
        have hfld := hF2.fpar hj
        simp (decide := true) only [WP_skip, WP_ops, WP_seq, WP_block, WP_exit, WP_ret, WP_cond, CdC_true, CdC_false, seqQ_normal, seqQ_exit, seqQ_ret, seqQ_pan, blkQ_normal, blkQ_exit, blkQ_ret, blkQ_pan, bodyQ_ret, bodyQ_normal, bodyQ_pan, bodyK_some, WP_aops, WPa_nil, WPa_wr, WrA_new, CallA_new, WPa_rd, WPa_call, WPa_callv, WPa_gd, RdA_some, CallA_ret, WPs_nil, WPs_rd, WPs_wr, WPs_call, WPs_callv, WPs_gd, RdK_some, WrK_some, CallK_ret, CallV_func, GdS_tt, GdS_tf, GdS_ft, GdS_ff, GdA_tt, GdA_tf, GdA_ft, GdA_ff, evR, lenV_slc, lenV_tail, lenV_str, iaV_slc, evX, AO.ev, Fr.put_some, Fr.put_none, Fr.at_set, Fr.at_ofArgs, List.getD_cons_zero, List.getD_cons_succ, List.getD_nil, binV, intOp, strOp, AV.cells, AHeap.cell_new, AHeap.range_new, AHeap.cell_old, AHeap.range_old, AHeap.get_new, AHeap.get_old, AHeap.put_new, AHeap.lt_new, AHeap.lt_alloc, AHeap.wf_alloc, AHeap.base_new, AHeap.base_alloc, evRVs, evRV, tup, List.map_cons, List.map_nil, List.cons_append, List.nil_append, List.append_nil, List.getElem?_cons_zero, List.getElem?_cons_succ, Nat.zero_add, Option.map_some, Option.map_none, if_true, if_false, ↓reduceIte, Bool.false_eq_true, eq_self, Bool.not_false, Bool.not_true, decide_true, decide_false, Option.isNone_none, Option.isNone_some, WPs_nxt, CallV_yield, hb, CdC_sym, h0, h1, h6, h9, e1, hj', hj0, hj1, hj2, decide_true, fillA, List.replicate, List.flatten, List.length_cons, List.length_nil, List.take, List.drop, Int.toNat_natCast, and_self, hfld, happ]
        have hids : idsA acc ++ [.int .u32 i] = idsA (acc ++ [i]) := by simp [idsA]
        rw [hids] at hrow2
        have hw' : wayF l 4 id [] = if l[j].par = 0 then some (acc ++ [i]) else wayF l (3 - k) l[j].par (acc ++ [i]) := by
          rw [← hw, show 4 - k = (3 - k) + 1 by omega, wayF_some e2]
        by_cases hz : l[j].par = 0
        · rw [hw', if_pos hz] at h
          rw [if_pos (by simpa using hz)]
          rcases hrow2 with ⟨r0, _⟩ | ⟨r0, i2, r1, r2, rfl, r4, r5⟩
          · omega
          · refine .row2 hle2 r1 r4 (okL_ids _ _) trivial ?_
            simpa using h
        · rw [if_neg hz] at hw'
          rw [if_neg (by simpa using hz), wrapN k (by omega)]
          refine ⟨⟨k + 1, _, acc ++ [i], _, hle2, hlt, ?_, by simp [hacc], by simpa using hrow2, trivial, rfl, rfl, rfl⟩, by simp only [numOf]; omega⟩
          rw [hw']; congr 1; omega
    · have hI : ¬ (k : Int) < 4 := by omega
      simp (decide := true) only [WP_skip, WP_ops, WP_seq, WP_block, WP_exit, WP_ret, WP_cond, CdC_true, CdC_false, seqQ_normal, seqQ_exit, seqQ_ret, seqQ_pan, blkQ_normal, blkQ_exit, blkQ_ret, blkQ_pan, bodyQ_ret, bodyQ_normal, bodyQ_pan, bodyK_some, WP_aops, WPa_nil, WPa_wr, WrA_new, CallA_new, WPa_rd, WPa_call, WPa_callv, WPa_gd, RdA_some, CallA_ret, WPs_nil, WPs_rd, WPs_wr, WPs_call, WPs_callv, WPs_gd, RdK_some, WrK_some, CallK_ret, CallV_func, GdS_tt, GdS_tf, GdS_ft, GdS_ff, GdA_tt, GdA_tf, GdA_ft, GdA_ff, evR, lenV_slc, lenV_tail, lenV_str, iaV_slc, evX, AO.ev, Fr.put_some, Fr.put_none, Fr.at_set, Fr.at_ofArgs, List.getD_cons_zero, List.getD_cons_succ, List.getD_nil, binV, intOp, strOp, AV.cells, AHeap.cell_new, AHeap.range_new, AHeap.cell_old, AHeap.range_old, AHeap.get_new, AHeap.get_old, AHeap.put_new, AHeap.lt_new, AHeap.lt_alloc, AHeap.wf_alloc, AHeap.base_new, AHeap.base_alloc, evRVs, evRV, tup, List.map_cons, List.map_nil, List.cons_append, List.nil_append, List.append_nil, List.getElem?_cons_zero, List.getElem?_cons_succ, Nat.zero_add, Option.map_some, Option.map_none, if_true, if_false, ↓reduceIte, Bool.false_eq_true, eq_self, Bool.not_false, Bool.not_true, decide_true, decide_false, Option.isNone_none, Option.isNone_some, WPs_nxt, CallV_yield, hb, h0, h1, h6, h9, hI, decide_false]
      have hk4 : k = 4 := by omega
      subst hk4
      have hw0 : wayF l 4 id [] = none := hw.symm
      rw [hw0] at h
      exact .same hle (by simp [AV.ok, AV.okL]) h
end Go.AM
