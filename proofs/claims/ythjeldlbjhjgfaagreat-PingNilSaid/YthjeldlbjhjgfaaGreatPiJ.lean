/- States: as cells; a new one; whether one may be (without items and Gens). -/
import Derived.Test.YthjeldlbjhjgfaaGreatPiI
import Derived.Test.YthjeldlbjhjgfaaGreatFdM
import Derived.Test.YthjeldlbjhjgfaaGreatFdN
namespace Go.AM
open Go Go.Proofs
set_option linter.unusedSimpArgs false
set_option linter.unusedVariables false
set_option maxRecDepth 100000
set_option maxHeartbeats 8000000

/-- A state's cells. -/
structure Sv where
  quota : Int
  lastId : Int
  lastKey : Int
  lastSeq : Int
  fv : AV
  iv : AV
  devs : List AV
  gv : AV
def Sv.cs (s : Sv) : List AV := .int .i64 s.quota :: .int .u32 s.lastId :: .int .u32 s.lastKey :: .int .u64 s.lastSeq :: s.fv :: s.iv :: (s.devs ++ [s.gv])
structure Sv.good (s : Sv) : Prop where
  len : s.devs.length = 16
  one : s.cs.all (·.one) = true
theorem sv0 (s : Sv) : s.cs[0]? = some (.int .i64 s.quota) := Eq.trans rfl rfl
theorem sv1 (s : Sv) : s.cs[1]? = some (.int .u32 s.lastId) := Eq.trans rfl rfl
theorem sv3 (s : Sv) : s.cs[3]? = some (.int .u64 s.lastSeq) := Eq.trans rfl rfl
theorem sv4 (s : Sv) : s.cs[4]? = some s.fv := Eq.trans rfl rfl
theorem sv5 (s : Sv) : s.cs[5]? = some s.iv := Eq.trans rfl rfl
theorem Sv.good.g22 {s : Sv} (h : s.good) : s.cs[22]? = some s.gv := by
  have := h.len
  simp [Sv.cs, List.getElem?_append, h.len]
theorem Sv.good.ln {s : Sv} (h : s.good) : s.cs.length = 23 := by simp [Sv.cs, h.len]
theorem Sv.good.tk {s : Sv} (h : s.good) : s.cs.take 23 = s.cs := List.take_of_length_le (by rw [h.ln]; omega)
theorem Sv.good.sp {s : Sv} (h : s.good) : splice [.int .i64 0, .int .u32 0, .int .u32 0, .int .u64 0, .slice none 0 (.inl 0), .slice none 0 (.inl 0), .int .u32 0, .int .u32 0, .int .u32 0, .bool false, .int .u32 0, .int .u32 0, .int .u32 0, .bool false, .int .u32 0, .int .u32 0, .int .u32 0, .bool false, .int .u32 0, .int .u32 0, .int .u32 0, .bool false, .slice none 0 (.inl 0)] 0 s.cs = s.cs := by
  have := h.ln
  simp [splice, this]

def contactsB : ByteArray := ⟨⟨[67, 111, 110, 116, 97, 99, 116, 115]⟩⟩
def coFo : Fo := ⟨1, 0, contactsB, 1⟩
/-- A new state. -/
def newSv (n : Int) (fb : Nat) : Sv := ⟨n, 1, 0, 1, .slice (some (fb, 0)) 1 (.inl 1), .slice none 0 (.inl 0), [.int .u32 0, .int .u32 0, .int .u32 0, .bool false, .int .u32 0, .int .u32 0, .int .u32 0, .bool false, .int .u32 0, .int .u32 0, .int .u32 0, .bool false, .int .u32 0, .int .u32 0, .int .u32 0, .bool false], .slice none 0 (.inl 0)⟩
theorem newSv_good (n : Int) (fb : Nat) : (newSv n fb).good := ⟨rfl, rfl⟩

theorem f19 {H : AHeap} {Q : AE → AHeap → Prop} {n : Int} (h1 : 1 ≤ n) (h2 : n ≤ 40) (h : ∀ (H' : AHeap) (fb : Nat), H.Le H' → H.next ≤ fb → fb < H'.next → H'.get fb = some (.cells coFo.cs none) → Q (.ret (.tuple [.agg (newSv n fb).cs, .int .i64 0])) H') : ACall Tryz.prog 19 [.int .i64 n] H Q := by
  refine ACall.comp [] mixed (by decide +kernel) fun F hF' => ?_
  cbv at hF'
  cases hF'
  refine ⟨by simp, fun hb ha => ?_⟩
  have e1 : decide (n < 1) = false := by simp; omega
  have e2 : decide (n > 40) = false := by simp; omega
  have q1 : fillA [.int .u32 0, .int .u32 0, .str ⟨⟨[]⟩⟩, .int .u64 0] [(0, 1, .int .u32 1), (2, 1, .str ⟨⟨[67, 111, 110, 116, 97, 99, 116, 115]⟩⟩), (3, 1, .int .u64 1)] = some coFo.cs := rfl
  have q2 : fillA [.int .u32 0, .int .u32 0, .str ⟨⟨[]⟩⟩, .int .u64 0] [(0, 4, .agg coFo.cs)] = some coFo.cs := rfl
  have q3 : ∀ fb, fillA [.int .i64 0, .int .u32 0, .int .u32 0, .int .u64 0, .slice none 0 (.inl 0), .slice none 0 (.inl 0), .int .u32 0, .int .u32 0, .int .u32 0, .bool false, .int .u32 0, .int .u32 0, .int .u32 0, .bool false, .int .u32 0, .int .u32 0, .int .u32 0, .bool false, .int .u32 0, .int .u32 0, .int .u32 0, .bool false, .slice none 0 (.inl 0)] [(0, 1, .int .i64 n), (1, 1, .int .u32 1), (3, 1, .int .u64 1), (4, 1, .slice (some (fb, 0)) 1 (.inl 1))] = some (newSv n fb).cs := fun fb => rfl
  have q4 := fun fb => (newSv_good n fb).ln
  have q5 := fun fb => (newSv_good n fb).sp
  have q6 := fun fb => (newSv_good n fb).one
  have q7 := fun fb => (newSv_good n fb).tk
  have q8 : 0 + 23 ≤ ([.int .i64 0, .int .u32 0, .int .u32 0, .int .u64 0, .slice none 0 (.inl 0), .slice none 0 (.inl 0), .int .u32 0, .int .u32 0, .int .u32 0, .bool false, .int .u32 0, .int .u32 0, .int .u32 0, .bool false, .int .u32 0, .int .u32 0, .int .u32 0, .bool false, .int .u32 0, .int .u32 0, .int .u32 0, .bool false, .slice none 0 (.inl 0)] : List AV).length := by decide
  have hb1 : (H.alloc (.cells [.int .i64 0, .int .u32 0, .int .u32 0, .int .u64 0, .slice none 0 (.inl 0), .slice none 0 (.inl 0), .int .u32 0, .int .u32 0, .int .u32 0, .bool false, .int .u32 0, .int .u32 0, .int .u32 0, .bool false, .int .u32 0, .int .u32 0, .int .u32 0, .bool false, .int .u32 0, .int .u32 0, .int .u32 0, .bool false, .slice none 0 (.inl 0)] none)).WF := AHeap.wf_alloc hb
  have hb2 : ((H.alloc (.cells [.int .i64 0, .int .u32 0, .int .u32 0, .int .u64 0, .slice none 0 (.inl 0), .slice none 0 (.inl 0), .int .u32 0, .int .u32 0, .int .u32 0, .bool false, .int .u32 0, .int .u32 0, .int .u32 0, .bool false, .int .u32 0, .int .u32 0, .int .u32 0, .bool false, .int .u32 0, .int .u32 0, .int .u32 0, .bool false, .slice none 0 (.inl 0)] none)).alloc (.cells coFo.cs none)).WF := AHeap.wf_alloc hb1
  have g1 : ((H.alloc (.cells [.int .i64 0, .int .u32 0, .int .u32 0, .int .u64 0, .slice none 0 (.inl 0), .slice none 0 (.inl 0), .int .u32 0, .int .u32 0, .int .u32 0, .bool false, .int .u32 0, .int .u32 0, .int .u32 0, .bool false, .int .u32 0, .int .u32 0, .int .u32 0, .bool false, .int .u32 0, .int .u32 0, .int .u32 0, .bool false, .slice none 0 (.inl 0)] none)).alloc (.cells coFo.cs none)).get H.next = some (.cells [.int .i64 0, .int .u32 0, .int .u32 0, .int .u64 0, .slice none 0 (.inl 0), .slice none 0 (.inl 0), .int .u32 0, .int .u32 0, .int .u32 0, .bool false, .int .u32 0, .int .u32 0, .int .u32 0, .bool false, .int .u32 0, .int .u32 0, .int .u32 0, .bool false, .int .u32 0, .int .u32 0, .int .u32 0, .bool false, .slice none 0 (.inl 0)] none) := by rw [AHeap.get_old hb1 AHeap.lt_new, AHeap.get_new hb]
  have gb : ((H.alloc (.cells [.int .i64 0, .int .u32 0, .int .u32 0, .int .u64 0, .slice none 0 (.inl 0), .slice none 0 (.inl 0), .int .u32 0, .int .u32 0, .int .u32 0, .bool false, .int .u32 0, .int .u32 0, .int .u32 0, .bool false, .int .u32 0, .int .u32 0, .int .u32 0, .bool false, .int .u32 0, .int .u32 0, .int .u32 0, .bool false, .slice none 0 (.inl 0)] none)).alloc (.cells coFo.cs none)).base ≤ H.next := hb
  have gn : H.next < ((H.alloc (.cells [.int .i64 0, .int .u32 0, .int .u32 0, .int .u64 0, .slice none 0 (.inl 0), .slice none 0 (.inl 0), .int .u32 0, .int .u32 0, .int .u32 0, .bool false, .int .u32 0, .int .u32 0, .int .u32 0, .bool false, .int .u32 0, .int .u32 0, .int .u32 0, .bool false, .int .u32 0, .int .u32 0, .int .u32 0, .bool false, .slice none 0 (.inl 0)] none)).alloc (.cells coFo.cs none)).next := by simp; omega
  simp (decide := true) only [WP_skip, WP_ops, WP_seq, WP_block, WP_exit, WP_ret, WP_cond, CdC_true, CdC_false, seqQ_normal, seqQ_exit, seqQ_ret, seqQ_pan, blkQ_normal, blkQ_exit, blkQ_ret, blkQ_pan, bodyQ_ret, bodyQ_normal, bodyQ_pan, bodyK_some, WP_aops, WPa_nil, WPa_wr, WrA_new, CallA_new, WPa_rd, WPa_call, WPa_callv, WPa_gd, RdA_some, CallA_ret, WPs_nil, WPs_rd, WPs_wr, WPs_call, WPs_callv, WPs_gd, RdK_some, WrK_some, CallK_ret, CallV_func, GdS_tt, GdS_tf, GdS_ft, GdS_ff, GdA_tt, GdA_tf, GdA_ft, GdA_ff, evR, lenV_slc, lenV_tail, lenV_str, iaV_slc, evX, AO.ev, Fr.put_some, Fr.put_none, Fr.at_set, Fr.at_ofArgs, List.getD_cons_zero, List.getD_cons_succ, List.getD_nil, binV, intOp, strOp, AV.cells, AHeap.cell_new, AHeap.range_new, AHeap.cell_old, AHeap.range_old, AHeap.get_new, AHeap.get_old, AHeap.put_new, AHeap.lt_new, AHeap.lt_alloc, AHeap.wf_alloc, AHeap.base_new, AHeap.base_alloc, evRVs, evRV, tup, List.map_cons, List.map_nil, List.cons_append, List.nil_append, List.append_nil, List.getElem?_cons_zero, List.getElem?_cons_succ, Nat.zero_add, Option.map_some, Option.map_none, if_true, if_false, ↓reduceIte, Bool.false_eq_true, eq_self, Bool.not_false, Bool.not_true, decide_true, decide_false, Option.isNone_none, Option.isNone_some, WPs_nxt, CallV_yield, hb, e1, e2, q1, q2, q3, q4, q5, q6, q8, g1, gb, and_self, AHeap.next_alloc]
  have hg : (((H.alloc (.cells [.int .i64 0, .int .u32 0, .int .u32 0, .int .u64 0, .slice none 0 (.inl 0), .slice none 0 (.inl 0), .int .u32 0, .int .u32 0, .int .u32 0, .bool false, .int .u32 0, .int .u32 0, .int .u32 0, .bool false, .int .u32 0, .int .u32 0, .int .u32 0, .bool false, .int .u32 0, .int .u32 0, .int .u32 0, .bool false, .slice none 0 (.inl 0)] none)).alloc (.cells coFo.cs none)).put H.next (.cells (newSv n (H.next + 1)).cs none)).range (H.next, 0) 23 = some (newSv n (H.next + 1)).cs := by
    rw [AHeap.range_of (by rw [AHeap.get_put _ _ _ _ gb gn, if_pos rfl]), if_pos (by rw [q4]; omega), List.drop_zero, q7]
  simp (decide := true) only [WP_skip, WP_ops, WP_seq, WP_block, WP_exit, WP_ret, WP_cond, CdC_true, CdC_false, seqQ_normal, seqQ_exit, seqQ_ret, seqQ_pan, blkQ_normal, blkQ_exit, blkQ_ret, blkQ_pan, bodyQ_ret, bodyQ_normal, bodyQ_pan, bodyK_some, WP_aops, WPa_nil, WPa_wr, WrA_new, CallA_new, WPa_rd, WPa_call, WPa_callv, WPa_gd, RdA_some, CallA_ret, WPs_nil, WPs_rd, WPs_wr, WPs_call, WPs_callv, WPs_gd, RdK_some, WrK_some, CallK_ret, CallV_func, GdS_tt, GdS_tf, GdS_ft, GdS_ff, GdA_tt, GdA_tf, GdA_ft, GdA_ff, evR, lenV_slc, lenV_tail, lenV_str, iaV_slc, evX, AO.ev, Fr.put_some, Fr.put_none, Fr.at_set, Fr.at_ofArgs, List.getD_cons_zero, List.getD_cons_succ, List.getD_nil, binV, intOp, strOp, AV.cells, AHeap.cell_new, AHeap.range_new, AHeap.cell_old, AHeap.range_old, AHeap.get_new, AHeap.get_old, AHeap.put_new, AHeap.lt_new, AHeap.lt_alloc, AHeap.wf_alloc, AHeap.base_new, AHeap.base_alloc, evRVs, evRV, tup, List.map_cons, List.map_nil, List.cons_append, List.nil_append, List.append_nil, List.getElem?_cons_zero, List.getElem?_cons_succ, Nat.zero_add, Option.map_some, Option.map_none, if_true, if_false, ↓reduceIte, Bool.false_eq_true, eq_self, Bool.not_false, Bool.not_true, decide_true, decide_false, Option.isNone_none, Option.isNone_some, WPs_nxt, CallV_yield, hb, hg]
  have hle : H.Le (((H.alloc (.cells [.int .i64 0, .int .u32 0, .int .u32 0, .int .u64 0, .slice none 0 (.inl 0), .slice none 0 (.inl 0), .int .u32 0, .int .u32 0, .int .u32 0, .bool false, .int .u32 0, .int .u32 0, .int .u32 0, .bool false, .int .u32 0, .int .u32 0, .int .u32 0, .bool false, .int .u32 0, .int .u32 0, .int .u32 0, .bool false, .slice none 0 (.inl 0)] none)).alloc (.cells coFo.cs none)).put H.next (.cells (newSv n (H.next + 1)).cs none)) := (((AHeap.Le.new hb).alloc' hb)).put' hb (Nat.le_refl _) gn
  refine .this (h _ (H.next + 1) hle (by omega) (by show _ < H.next + 1 + 1; omega) ?_)
  rw [AHeap.get_put _ _ _ _ gb gn, if_neg (by omega), show H.next + 1 = (H.alloc (.cells [.int .i64 0, .int .u32 0, .int .u32 0, .int .u64 0, .slice none 0 (.inl 0), .slice none 0 (.inl 0), .int .u32 0, .int .u32 0, .int .u32 0, .bool false, .int .u32 0, .int .u32 0, .int .u32 0, .bool false, .int .u32 0, .int .u32 0, .int .u32 0, .bool false, .int .u32 0, .int .u32 0, .int .u32 0, .bool false, .slice none 0 (.inl 0)] none)).next from rfl, AHeap.get_new hb1]

theorem f13 {H : AHeap} {Q : AE → AHeap → Prop} {n : Int} (h1 : 1 ≤ n) (h2 : n ≤ 40) (h : ∀ (H' : AHeap) (fb : Nat), H.Le H' → H.next ≤ fb → fb < H'.next → H'.get fb = some (.cells coFo.cs none) → Q (.ret (.tuple [.agg (newSv n fb).cs, .int .i64 0])) H') : ACall Tryz.prog 13 [.int .i64 n] H Q := by
  refine ACall.comp [] mixed (by decide +kernel) fun F hF' => ?_
  cbv at hF'
  cases hF'
  refine ⟨by simp, fun hb ha => ?_⟩
  have e1 : decide (n < 1) = false := by simp; omega
  have e2 : decide (n > 40) = false := by simp; omega
  have q1 : fillA [.int .u32 0, .int .u32 0, .str ⟨⟨[]⟩⟩, .int .u64 0] [(0, 1, .int .u32 1), (2, 1, .str ⟨⟨[67, 111, 110, 116, 97, 99, 116, 115]⟩⟩), (3, 1, .int .u64 1)] = some coFo.cs := rfl
  have q2 : fillA [.int .u32 0, .int .u32 0, .str ⟨⟨[]⟩⟩, .int .u64 0] [(0, 4, .agg coFo.cs)] = some coFo.cs := rfl
  have q3 : ∀ fb, fillA [.int .i64 0, .int .u32 0, .int .u32 0, .int .u64 0, .slice none 0 (.inl 0), .slice none 0 (.inl 0), .int .u32 0, .int .u32 0, .int .u32 0, .bool false, .int .u32 0, .int .u32 0, .int .u32 0, .bool false, .int .u32 0, .int .u32 0, .int .u32 0, .bool false, .int .u32 0, .int .u32 0, .int .u32 0, .bool false, .slice none 0 (.inl 0)] [(0, 1, .int .i64 n), (1, 1, .int .u32 1), (3, 1, .int .u64 1), (4, 1, .slice (some (fb, 0)) 1 (.inl 1))] = some (newSv n fb).cs := fun fb => rfl
  have q4 := fun fb => (newSv_good n fb).ln
  have q5 := fun fb => (newSv_good n fb).sp
  have q6 := fun fb => (newSv_good n fb).one
  have q7 := fun fb => (newSv_good n fb).tk
  have q8 : 0 + 23 ≤ ([.int .i64 0, .int .u32 0, .int .u32 0, .int .u64 0, .slice none 0 (.inl 0), .slice none 0 (.inl 0), .int .u32 0, .int .u32 0, .int .u32 0, .bool false, .int .u32 0, .int .u32 0, .int .u32 0, .bool false, .int .u32 0, .int .u32 0, .int .u32 0, .bool false, .int .u32 0, .int .u32 0, .int .u32 0, .bool false, .slice none 0 (.inl 0)] : List AV).length := by decide
  have hb1 : (H.alloc (.cells [.int .i64 0, .int .u32 0, .int .u32 0, .int .u64 0, .slice none 0 (.inl 0), .slice none 0 (.inl 0), .int .u32 0, .int .u32 0, .int .u32 0, .bool false, .int .u32 0, .int .u32 0, .int .u32 0, .bool false, .int .u32 0, .int .u32 0, .int .u32 0, .bool false, .int .u32 0, .int .u32 0, .int .u32 0, .bool false, .slice none 0 (.inl 0)] none)).WF := AHeap.wf_alloc hb
  have hb2 : ((H.alloc (.cells [.int .i64 0, .int .u32 0, .int .u32 0, .int .u64 0, .slice none 0 (.inl 0), .slice none 0 (.inl 0), .int .u32 0, .int .u32 0, .int .u32 0, .bool false, .int .u32 0, .int .u32 0, .int .u32 0, .bool false, .int .u32 0, .int .u32 0, .int .u32 0, .bool false, .int .u32 0, .int .u32 0, .int .u32 0, .bool false, .slice none 0 (.inl 0)] none)).alloc (.cells coFo.cs none)).WF := AHeap.wf_alloc hb1
  have g1 : ((H.alloc (.cells [.int .i64 0, .int .u32 0, .int .u32 0, .int .u64 0, .slice none 0 (.inl 0), .slice none 0 (.inl 0), .int .u32 0, .int .u32 0, .int .u32 0, .bool false, .int .u32 0, .int .u32 0, .int .u32 0, .bool false, .int .u32 0, .int .u32 0, .int .u32 0, .bool false, .int .u32 0, .int .u32 0, .int .u32 0, .bool false, .slice none 0 (.inl 0)] none)).alloc (.cells coFo.cs none)).get H.next = some (.cells [.int .i64 0, .int .u32 0, .int .u32 0, .int .u64 0, .slice none 0 (.inl 0), .slice none 0 (.inl 0), .int .u32 0, .int .u32 0, .int .u32 0, .bool false, .int .u32 0, .int .u32 0, .int .u32 0, .bool false, .int .u32 0, .int .u32 0, .int .u32 0, .bool false, .int .u32 0, .int .u32 0, .int .u32 0, .bool false, .slice none 0 (.inl 0)] none) := by rw [AHeap.get_old hb1 AHeap.lt_new, AHeap.get_new hb]
  have gb : ((H.alloc (.cells [.int .i64 0, .int .u32 0, .int .u32 0, .int .u64 0, .slice none 0 (.inl 0), .slice none 0 (.inl 0), .int .u32 0, .int .u32 0, .int .u32 0, .bool false, .int .u32 0, .int .u32 0, .int .u32 0, .bool false, .int .u32 0, .int .u32 0, .int .u32 0, .bool false, .int .u32 0, .int .u32 0, .int .u32 0, .bool false, .slice none 0 (.inl 0)] none)).alloc (.cells coFo.cs none)).base ≤ H.next := hb
  have gn : H.next < ((H.alloc (.cells [.int .i64 0, .int .u32 0, .int .u32 0, .int .u64 0, .slice none 0 (.inl 0), .slice none 0 (.inl 0), .int .u32 0, .int .u32 0, .int .u32 0, .bool false, .int .u32 0, .int .u32 0, .int .u32 0, .bool false, .int .u32 0, .int .u32 0, .int .u32 0, .bool false, .int .u32 0, .int .u32 0, .int .u32 0, .bool false, .slice none 0 (.inl 0)] none)).alloc (.cells coFo.cs none)).next := by simp; omega
  simp (decide := true) only [WP_skip, WP_ops, WP_seq, WP_block, WP_exit, WP_ret, WP_cond, CdC_true, CdC_false, seqQ_normal, seqQ_exit, seqQ_ret, seqQ_pan, blkQ_normal, blkQ_exit, blkQ_ret, blkQ_pan, bodyQ_ret, bodyQ_normal, bodyQ_pan, bodyK_some, WP_aops, WPa_nil, WPa_wr, WrA_new, CallA_new, WPa_rd, WPa_call, WPa_callv, WPa_gd, RdA_some, CallA_ret, WPs_nil, WPs_rd, WPs_wr, WPs_call, WPs_callv, WPs_gd, RdK_some, WrK_some, CallK_ret, CallV_func, GdS_tt, GdS_tf, GdS_ft, GdS_ff, GdA_tt, GdA_tf, GdA_ft, GdA_ff, evR, lenV_slc, lenV_tail, lenV_str, iaV_slc, evX, AO.ev, Fr.put_some, Fr.put_none, Fr.at_set, Fr.at_ofArgs, List.getD_cons_zero, List.getD_cons_succ, List.getD_nil, binV, intOp, strOp, AV.cells, AHeap.cell_new, AHeap.range_new, AHeap.cell_old, AHeap.range_old, AHeap.get_new, AHeap.get_old, AHeap.put_new, AHeap.lt_new, AHeap.lt_alloc, AHeap.wf_alloc, AHeap.base_new, AHeap.base_alloc, evRVs, evRV, tup, List.map_cons, List.map_nil, List.cons_append, List.nil_append, List.append_nil, List.getElem?_cons_zero, List.getElem?_cons_succ, Nat.zero_add, Option.map_some, Option.map_none, if_true, if_false, ↓reduceIte, Bool.false_eq_true, eq_self, Bool.not_false, Bool.not_true, decide_true, decide_false, Option.isNone_none, Option.isNone_some, WPs_nxt, CallV_yield, hb, e1, e2, q1, q2, q3, q4, q5, q6, q8, g1, gb, and_self, AHeap.next_alloc]
  have hg : (((H.alloc (.cells [.int .i64 0, .int .u32 0, .int .u32 0, .int .u64 0, .slice none 0 (.inl 0), .slice none 0 (.inl 0), .int .u32 0, .int .u32 0, .int .u32 0, .bool false, .int .u32 0, .int .u32 0, .int .u32 0, .bool false, .int .u32 0, .int .u32 0, .int .u32 0, .bool false, .int .u32 0, .int .u32 0, .int .u32 0, .bool false, .slice none 0 (.inl 0)] none)).alloc (.cells coFo.cs none)).put H.next (.cells (newSv n (H.next + 1)).cs none)).range (H.next, 0) 23 = some (newSv n (H.next + 1)).cs := by
    rw [AHeap.range_of (by rw [AHeap.get_put _ _ _ _ gb gn, if_pos rfl]), if_pos (by rw [q4]; omega), List.drop_zero, q7]
  simp (decide := true) only [WP_skip, WP_ops, WP_seq, WP_block, WP_exit, WP_ret, WP_cond, CdC_true, CdC_false, seqQ_normal, seqQ_exit, seqQ_ret, seqQ_pan, blkQ_normal, blkQ_exit, blkQ_ret, blkQ_pan, bodyQ_ret, bodyQ_normal, bodyQ_pan, bodyK_some, WP_aops, WPa_nil, WPa_wr, WrA_new, CallA_new, WPa_rd, WPa_call, WPa_callv, WPa_gd, RdA_some, CallA_ret, WPs_nil, WPs_rd, WPs_wr, WPs_call, WPs_callv, WPs_gd, RdK_some, WrK_some, CallK_ret, CallV_func, GdS_tt, GdS_tf, GdS_ft, GdS_ff, GdA_tt, GdA_tf, GdA_ft, GdA_ff, evR, lenV_slc, lenV_tail, lenV_str, iaV_slc, evX, AO.ev, Fr.put_some, Fr.put_none, Fr.at_set, Fr.at_ofArgs, List.getD_cons_zero, List.getD_cons_succ, List.getD_nil, binV, intOp, strOp, AV.cells, AHeap.cell_new, AHeap.range_new, AHeap.cell_old, AHeap.range_old, AHeap.get_new, AHeap.get_old, AHeap.put_new, AHeap.lt_new, AHeap.lt_alloc, AHeap.wf_alloc, AHeap.base_new, AHeap.base_alloc, evRVs, evRV, tup, List.map_cons, List.map_nil, List.cons_append, List.nil_append, List.append_nil, List.getElem?_cons_zero, List.getElem?_cons_succ, Nat.zero_add, Option.map_some, Option.map_none, if_true, if_false, ↓reduceIte, Bool.false_eq_true, eq_self, Bool.not_false, Bool.not_true, decide_true, decide_false, Option.isNone_none, Option.isNone_some, WPs_nxt, CallV_yield, hb, hg]
  have hle : H.Le (((H.alloc (.cells [.int .i64 0, .int .u32 0, .int .u32 0, .int .u64 0, .slice none 0 (.inl 0), .slice none 0 (.inl 0), .int .u32 0, .int .u32 0, .int .u32 0, .bool false, .int .u32 0, .int .u32 0, .int .u32 0, .bool false, .int .u32 0, .int .u32 0, .int .u32 0, .bool false, .int .u32 0, .int .u32 0, .int .u32 0, .bool false, .slice none 0 (.inl 0)] none)).alloc (.cells coFo.cs none)).put H.next (.cells (newSv n (H.next + 1)).cs none)) := (((AHeap.Le.new hb).alloc' hb)).put' hb (Nat.le_refl _) gn
  refine .this (h _ (H.next + 1) hle (by omega) (by show _ < H.next + 1 + 1; omega) ?_)
  rw [AHeap.get_put _ _ _ _ gb gn, if_neg (by omega), show H.next + 1 = (H.alloc (.cells [.int .i64 0, .int .u32 0, .int .u32 0, .int .u64 0, .slice none 0 (.inl 0), .slice none 0 (.inl 0), .int .u32 0, .int .u32 0, .int .u32 0, .bool false, .int .u32 0, .int .u32 0, .int .u32 0, .bool false, .int .u32 0, .int .u32 0, .int .u32 0, .bool false, .int .u32 0, .int .u32 0, .int .u32 0, .bool false, .slice none 0 (.inl 0)] none)).next from rfl, AHeap.get_new hb1]

end Go.AM
