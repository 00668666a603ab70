/- Queues: a tick. -/
import Derived.Test.YthjeldlbjhjgfaaGreatPiG
namespace Go.AM
open Go Go.Proofs
set_option linter.unusedSimpArgs false
set_option linter.unusedVariables false
set_option maxRecDepth 100000
set_option maxHeartbeats 8000000

theorem filterMap_same {α β : Type} {f g : α → Option β} : ∀ {l : List α}, (∀ x ∈ l, f x = g x) → l.filterMap f = l.filterMap g
  | [], _ => rfl
  | x :: l, h => by
    simp only [List.filterMap_cons, h x List.mem_cons_self, filterMap_same fun y hy => h y (List.mem_cons_of_mem _ hy)]

def decW (w : Wt) : Option Wt := if w.left = 1 then none else some { w with left := w.left - 1 }
/-- One's tick. -/
def stepW (k : Int) (ws : List Wt) : List Wt := ws.filterMap fun w => if w.key = k then decW w else some w
/-- All are a tick older. -/
def tickW (ws : List Wt) : List Wt := ws.filterMap decW

theorem stepW_none {k : Int} : ∀ {ws : List Wt}, k ∉ ws.map Wt.key → stepW k ws = ws
  | [], _ => rfl
  | w :: ws, h => by
    simp only [List.map_cons, List.mem_cons, not_or] at h
    have ih := stepW_none h.2
    simp only [stepW, List.filterMap_cons, if_neg (Ne.symm h.1)] at ih ⊢
    rw [ih]
theorem stepW_at {k : Int} : ∀ {ws : List Wt} {j : Nat} (hj : j < ws.length), ws[j].key = k → (ws.map Wt.key).Nodup → stepW k ws = match decW ws[j] with | none => ws.eraseIdx j | some w => ws.set j w
  | w :: ws, 0, hj, hk, hn => by
    simp only [List.map_cons, List.nodup_cons] at hn
    have hk' : w.key = k := hk
    have ih := stepW_none (k := k) (ws := ws) (by rw [← hk']; exact hn.1)
    simp only [stepW, List.filterMap_cons, hk', if_true, List.getElem_cons_zero] at ih ⊢
    cases decW w with
    | none => simpa using ih
    | some x => simpa using ih
  | w :: ws, j + 1, hj, hk, hn => by
    simp only [List.map_cons, List.nodup_cons] at hn
    have hj' : j < ws.length := by simpa using hj
    have hk' : ws[j].key = k := hk
    have hne : w.key ≠ k := fun e => hn.1 (by rw [e, ← hk']; exact List.mem_map_of_mem (List.getElem_mem hj'))
    have ih := stepW_at hj' hk' hn.2
    simp only [stepW, List.filterMap_cons, if_neg hne, List.getElem_cons_succ] at ih ⊢
    rw [ih]
    cases decW ws[j] with
    | none => simp
    | some x => simp
theorem stepW_mem {k : Int} {ws : List Wt} {w : Wt} (hw : w ∈ ws) (hk : w.key ≠ k) : w ∈ stepW k ws := by
  unfold stepW
  rw [List.mem_filterMap]
  exact ⟨w, hw, by rw [if_neg hk]⟩
def runW (l : List Int) (ws : List Wt) : List Wt := l.foldl (fun ws k => stepW k ws) ws
theorem runW_mem : ∀ {l : List Int} {ws : List Wt} {w : Wt}, w ∈ ws → w.key ∉ l → w ∈ runW l ws
  | [], _, _, hw, _ => hw
  | k :: l, ws, w, hw, hk => by
    simp only [List.mem_cons, not_or] at hk
    exact runW_mem (l := l) (stepW_mem hw hk.1) hk.2
theorem decW_key {w x : Wt} (h : decW w = some x) : x.key = w.key := by
  unfold decW at h
  split at h
  · cases h
  · cases h; rfl
theorem runW_eq : ∀ {l : List Int} {ws : List Wt}, l.Nodup → runW l ws = ws.filterMap fun w => if w.key ∈ l then decW w else some w
  | [], ws, _ => by simp [runW]
  | k :: l, ws, h => by
    simp only [List.nodup_cons] at h
    show runW l (stepW k ws) = _
    rw [runW_eq h.2, stepW, List.filterMap_filterMap]
    refine filterMap_same fun w _ => ?_
    by_cases hk : w.key = k
    · simp only [hk, if_true, List.mem_cons, true_or]
      cases hd : decW w with
      | none => rfl
      | some x =>
        simp only [Option.bind_some]
        rw [if_neg (by rw [decW_key hd, hk]; exact h.1)]
    · simp only [hk, if_false, Option.bind_some, List.mem_cons, false_or]
theorem runW_all {l : List Int} {ws : List Wt} (hn : (ws.map Wt.key).Nodup) (hp : l.Perm (ws.map Wt.key)) : runW l ws = tickW ws := by
  rw [runW_eq (hp.nodup_iff.2 hn), tickW]
  refine filterMap_same fun w hw => ?_
  rw [if_pos (hp.mem_iff.2 (List.mem_map_of_mem hw))]
/-- Does one's time end? -/
def endsW (ws : List Wt) (k : Int) : Bool := ws.any fun w => w.key == k && w.left == 1
theorem endsW_at {ws : List Wt} {w : Wt} (hn : (ws.map Wt.key).Nodup) (hw : w ∈ ws) : endsW ws w.key = (w.left == 1) := by
  cases h : (w.left == 1) with
  | true =>
    rw [endsW, List.any_eq_true]
    exact ⟨w, hw, by simp [h]⟩
  | false =>
    rw [endsW, List.any_eq_false]
    intro x hx
    by_cases hk : x.key = w.key
    · have : x = w := by
        obtain ⟨i, hi, rfl⟩ := List.getElem_of_mem hx
        obtain ⟨j, hj, rfl⟩ := List.getElem_of_mem hw
        have hij : i = j := by
          have := (List.getElem_inj (h₀ := by simpa using hi) (h₁ := by simpa using hj) hn).1 (by simpa using hk)
          exact this
        subst hij; rfl
      subst this
      simp [h]
    · simp [hk]

/-- Where a key is. -/
theorem findA_here {k : Int} : ∀ {es : List En} {j : Nat} (hj : j < es.length), es[j].key = k → (es.map En.key).Nodup → ∀ i, findA .num (.int .i64 k) (es.map En.e) i = some (some (i + j, es[j].val))
  | x :: es, 0, _, hk, _, i => by
    have hk' : x.key = k := hk
    have hx : (k == x.key) = true := by simp [hk']
    simp only [List.map_cons, findA, En.e, cellEq, if_true, hx]
    rfl
  | x :: es, j + 1, hj, hk, hn, i => by
    simp only [List.map_cons, List.nodup_cons] at hn
    have hj' : j < es.length := by simpa using hj
    have hk' : es[j].key = k := hk
    have hx : (k == x.key) = false := by
      simp only [beq_eq_false_iff_ne]
      exact fun e => hn.1 (by rw [← e, ← hk']; exact List.mem_map_of_mem (List.getElem_mem hj'))
    have ih := findA_here hj' hk' hn.2 (i + 1)
    simp only [List.map_cons, findA, En.e, cellEq, if_true, hx] at ih ⊢
    rw [show (List.map En.e es) = List.map (fun x => (AV.int .i64 x.key, x.val, x.born)) es from rfl] at ih ⊢
    simp only [List.getElem_cons_succ]
    rw [ih]
    congr 3
    omega

theorem QS.til {H H' : AHeap} {lo hi q m ck : Nat} {ws : List Wt} {L : List Int} (h : QS H lo q m ws ck L) (hle : Til hi H H') (hhi : H.next ≤ hi) : QS H' lo q m ws ck L := by
  have hg : ∀ i, i < H.next → H'.get i = H.get i := fun i hi => hle.get i (by omega)
  have hn := hle.next
  exact ⟨by rw [hle.base]; exact h.base, h.qlo, h.mlo, Nat.lt_of_lt_of_le h.qlt hn, by rw [hg q h.qlt]; exact h.qget, ⟨Nat.lt_of_lt_of_le h.mp.lt hn, by rw [hg m h.mp.lt]; exact h.mp.get, h.mp.nd, h.mp.old, h.mp.le⟩,
    fun w hw => have ⟨h1, h2, h3, h4, h5⟩ := h.wt w hw; ⟨h1, Nat.lt_of_lt_of_le h2 hn, by rw [hg _ h2]; exact h3, Nat.lt_of_lt_of_le h4 hn, by rw [hg _ h4]; exact h5⟩, h.ndw, h.ndk, h.pos⟩
theorem QS.kind {H : AHeap} {lo q m ck : Nat} {ws : List Wt} {L : List Int} (h : QS H lo q m ws ck L) {i : Nat} {cs : List AV} {room : Option Nat} (hi : H.get i = some (.cells cs room)) : i ≠ m := fun e => by
  rw [e, h.mp.get] at hi; cases hi
theorem Wt.inj {H : AHeap} {lo q m ck : Nat} {ws : List Wt} {L : List Int} (h : QS H lo q m ws ck L) {i j : Nat} (hi : i < ws.length) (hj : j < ws.length) (he : ws[i].wb = ws[j].wb) : i = j :=
  (List.getElem_inj (h₀ := by simpa using hi) (h₁ := by simpa using hj) h.ndw).1 (by simpa using he)

theorem map_set_same {α β : Type} (f : α → β) : ∀ (l : List α) (j : Nat) (x : α) (hj : j < l.length), f x = f l[j] → (l.set j x).map f = l.map f
  | a :: l, 0, x, _, h => by
    have h' : f x = f a := h
    simp [h']
  | a :: l, j + 1, x, hj, h => by
    have hj' : j < l.length := by simpa using hj
    simp only [List.set_cons_succ, List.map_cons]
    rw [map_set_same f l j x hj' h]
theorem map_erase {α β : Type} (f : α → β) : ∀ (l : List α) (j : Nat), (l.eraseIdx j).map f = (l.map f).eraseIdx j
  | [], j => by simp
  | a :: l, 0 => by simp
  | a :: l, j + 1 => by simp [map_erase f l j]

/-- One's count is set. -/
theorem QS.dec {H : AHeap} {lo q m ck : Nat} {ws : List Wt} {L : List Int} (h : QS H lo q m ws ck L) {j : Nat} (hj : j < ws.length) (x : Int) (hx : 1 ≤ x ∧ x ≤ 60) :
    QS (H.put ws[j].wb (.cells [.slice (some (ws[j].fb, 0)) L.length (.inr 0), .int .u32 x] none)) lo q m (ws.set j { ws[j] with left := x }) ck L := by
  obtain ⟨a1, a2, a3, a4, a5⟩ := h.wt _ (List.getElem_mem hj)
  have hb : H.base ≤ ws[j].wb := Nat.le_trans h.base a1
  have hg : ∀ (b : Blk) i, i ≠ ws[j].wb → (H.put ws[j].wb b).get i = H.get i := fun b i hi => by rw [AHeap.get_put _ _ _ _ hb a2, if_neg hi]
  have hen : (ws.set j { ws[j] with left := x }).map Wt.en = ws.map Wt.en := map_set_same _ _ _ _ hj rfl
  have hkey : (ws.set j { ws[j] with left := x }).map Wt.key = ws.map Wt.key := map_set_same _ _ _ _ hj rfl
  have hwb : (ws.set j { ws[j] with left := x }).map Wt.wb = ws.map Wt.wb := map_set_same _ _ _ _ hj rfl
  refine ⟨h.base, h.qlo, h.mlo, h.qlt, ?_, ⟨h.mp.lt, ?_, ?_, ?_, ?_⟩, fun w hw => ?_, ?_, ?_, fun w hw => ?_⟩
  · rw [hg _ q (fun e => by have := h.qget; rw [e, a3] at this; simp [Wt.cs] at this)]; exact h.qget
  · rw [hg _ m (fun e => h.kind a3 e.symm), hen]; exact h.mp.get
  · rw [hen]; exact h.mp.nd
  · rw [hen]; exact h.mp.old
  · rw [hen]; exact h.mp.le
  · obtain ⟨i, hi, rfl⟩ := List.getElem_of_mem hw
    rw [List.getElem_set]
    split
    · refine ⟨a1, a2, ?_, a4, ?_⟩
      · show AHeap.get _ ws[j].wb = _
        rw [AHeap.get_put _ _ _ _ hb a2, if_pos rfl]; rfl
      · show AHeap.get _ ws[j].fb = _
        rw [hg _ _ (fun e => by rw [e, a3] at a5; simp at a5)]; exact a5
    · rename_i hne
      have hi' : i < ws.length := by simpa using hi
      obtain ⟨b1, b2, b3, b4, b5⟩ := h.wt _ (List.getElem_mem hi')
      refine ⟨b1, b2, ?_, b4, ?_⟩
      · rw [hg _ _ (fun e => hne (Wt.inj h hi' hj e).symm)]; exact b3
      · rw [hg _ _ (fun e => by rw [e, a3] at b5; simp at b5)]; exact b5
  · rw [hwb]; exact h.ndw
  · rw [hkey]; exact h.ndk
  · obtain ⟨i, hi, rfl⟩ := List.getElem_of_mem hw
    rw [List.getElem_set]
    split
    · exact hx
    · exact h.pos _ (List.getElem_mem (by simpa using hi))
/-- One is dropped, whatever its count is set to. -/
theorem QS.drop {H : AHeap} {lo q m ck : Nat} {ws : List Wt} {L : List Int} (h : QS H lo q m ws ck L) {j : Nat} (hj : j < ws.length) (b : Blk) :
    QS ((H.put ws[j].wb b).put m (.map (((ws.map Wt.en).map En.e).eraseIdx j) ck)) lo q m (ws.eraseIdx j) ck L := by
  obtain ⟨a1, a2, a3, a4, a5⟩ := h.wt _ (List.getElem_mem hj)
  have hb : H.base ≤ ws[j].wb := Nat.le_trans h.base a1
  have hbm : H.base ≤ m := Nat.le_trans h.base h.mlo
  have hg : ∀ (x : Blk) i, i ≠ ws[j].wb → i ≠ m → ((H.put ws[j].wb b).put m x).get i = H.get i := fun x i hi hm => by
    rw [AHeap.get_put _ _ _ _ (by exact hbm) (by exact h.mp.lt), if_neg hm, AHeap.get_put _ _ _ _ hb a2, if_neg hi]
  have her : ∀ {α : Type} (f : Wt → α), (ws.eraseIdx j).map f = (ws.map f).eraseIdx j := fun f => map_erase f _ _
  have hmem : ∀ {i : Nat} (hi : i < (ws.eraseIdx j).length), ∃ (k : Nat) (hk : k < ws.length), k ≠ j ∧ (ws.eraseIdx j)[i] = ws[k] := fun {i} hi => by
    rw [List.getElem_eraseIdx]
    have hl := List.length_eraseIdx_of_lt hj
    split
    · exact ⟨i, by omega, by omega, rfl⟩
    · exact ⟨i + 1, by omega, by omega, rfl⟩
  refine ⟨h.base, h.qlo, h.mlo, h.qlt, ?_, ⟨h.mp.lt, ?_, ?_, fun x hx => ?_, ?_⟩, fun w hw => ?_, ?_, ?_, fun w hw => ?_⟩
  · rw [hg _ q (fun e => by have := h.qget; rw [e, a3] at this; simp [Wt.cs] at this) (h.kind h.qget)]; exact h.qget
  · rw [AHeap.get_put _ _ _ _ (by exact hbm) (by exact h.mp.lt), if_pos rfl, map_erase, map_erase]
  · rw [her, map_erase]; exact h.mp.nd.sublist (List.eraseIdx_sublist _ _)
  · rw [her] at hx; exact h.mp.old x (List.mem_of_mem_eraseIdx hx)
  · rw [her]; exact Nat.le_trans (List.eraseIdx_sublist _ _).length_le h.mp.le
  · obtain ⟨i, hi, rfl⟩ := List.getElem_of_mem hw
    obtain ⟨k, hk, hkj, he⟩ := hmem hi
    rw [he]
    obtain ⟨b1, b2, b3, b4, b5⟩ := h.wt _ (List.getElem_mem hk)
    refine ⟨b1, b2, ?_, b4, ?_⟩
    · rw [hg _ _ (fun e => hkj (Wt.inj h hk hj e)) (h.kind b3)]; exact b3
    · rw [hg _ _ (fun e => by rw [e, a3] at b5; simp at b5) (h.kind b5)]; exact b5
  · rw [her]; exact h.ndw.sublist (List.eraseIdx_sublist _ _)
  · rw [her]; exact h.ndk.sublist (List.eraseIdx_sublist _ _)
  · exact h.pos w (List.mem_of_mem_eraseIdx hw)
end Go.AM
