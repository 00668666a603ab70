/- The abstract machine, part G: whatever reading operation is compiled, the model's comes to what the compiled one says. -/
import Derived.Test.YthjeldlbjhjgfaaGreatAmF
namespace Go.AM
set_option linter.unusedSimpArgs false
set_option linter.unusedVariables false
open Go.RowKit

theorem map_some' {α β : Type} {x : Option α} {f : α → β} {r : β} (h : x.map f = some r) : ∃ y, x = some y ∧ f y = r := by
  cases x with
  | none => cases h
  | some y => cases h; exact ⟨y, rfl, rfl⟩

theorem compR_sound {P : Program} {o : Oper} {r : RR} (hc : compR P o = some r) {θ : Th} {n N : Nat} {t : Fr} {a : Act} {H : AHeap} {w : World} {v : AV} (hr : RelA θ n N t a)
    (hrd : ∀ i, rdOf r (AO.ev t) = some i → Reads θ n H w i) (h : evR r (AO.ev t) H = some v) : RSnd P o θ n a w v := by
  unfold compR at hc
  split at hc
  · rename_i x ho
    obtain ⟨y, hx, rfl⟩ := map_some' hc
    exact snd_mv (.inl ho) hx hr h
  · rename_i x ho
    obtain ⟨y, hx, rfl⟩ := map_some' hc
    exact snd_mv (.inr ho) hx hr h
  · rename_i c x x' ho
    split at hc
    · rename_i y1 y2 y3 h1 h2 h3; cases hc; exact snd_pick ho h1 h2 h3 hr h
    · cases hc
  · rename_i ty x ho
    split at hc
    · rename_i d m y hd hs hx; cases hc; exact snd_load ho hd hs hx hr hrd h
    · cases hc
  · rename_i x ho
    obtain ⟨y, hx, rfl⟩ := map_some' hc
    exact snd_nilck ho hx hr h
  · rename_i op ty x x' ty' ho
    split at hc
    · rename_i d y y' hd hx hx'
      obtain ⟨k, hk, rfl⟩ := map_some' hc
      exact snd_bin ho hd hk hx hx' hr h
    · cases hc
  · rename_i op ty x ho
    obtain ⟨y, hx, rfl⟩ := map_some' hc
    exact snd_un ho hx hr h
  · rename_i s d x ho
    split at hc
    · rename_i k0 k y hs hd hx; cases hc; exact snd_toInt ho hs hd hx hr h
    · rename_i y hs hd hx; cases hc; exact snd_same ho hs hd hx hr h
    · rename_i e y hs hd hx
      split at hc
      · rename_i he; cases hc; exact snd_bStr ho hs he hd hx hr hrd h
      · cases hc
    · cases hc
  · rename_i ty x ho
    split at hc
    · cases hc
    · rename_i d y hne hd hx
      cases hc
      exact snd_ifc ho hd (fun ms he => by subst he; exact hne ms rfl) hx hr h
    · cases hc
  · rename_i fn first cap ho
    split at hc
    · rename_i y y' hx hx'; cases hc; exact snd_fnv ho hx hx' hr h
    · cases hc
  · rename_i ty x lo hi mx ho
    split at hc
    · rename_i y lo' hi' hd hx hlo hhi hmx; cases hc; exact snd_slS ho hd hx hlo hhi hmx hr h
    · rename_i e y lo' hi' mx' hd hx hlo hhi hmx
      obtain ⟨sz, hs, rfl⟩ := map_some' hc
      exact snd_sl ho hd hs hx hlo hhi hmx hr hrd h
    · rename_i m e y lo' hi' mx' hd hx hlo hhi hmx
      obtain ⟨sz, hs, rfl⟩ := map_some' hc
      exact snd_slA ho hd hs hx hlo hhi hmx hr h
    · cases hc
  · rename_i ty x f ho
    split at hc
    · rename_i fs y hd hx
      split at hc
      · rename_i fd hf
        split at hc
        · rename_i m hs
          split at hc
          · cases hc
          · rename_i hm; cases hc; exact snd_fa ho hd hf hs hm hx hr h
        · cases hc
      · cases hc
    · cases hc
  · rename_i ty x f ho
    split at hc
    · rename_i fs y hd hx
      split at hc
      · rename_i fd hf
        split at hc
        · rename_i d m hd' hs; cases hc; exact snd_fl ho hd hf hd' hs hx hr h
        · cases hc
      · cases hc
    · cases hc
  · rename_i ty x i ho
    split at hc
    · rename_i e y y' hd hx hi
      obtain ⟨sz, hs, rfl⟩ := map_some' hc
      exact snd_ia ho hd hs hx hi hr h
    · rename_i m e y y' hd hx hi
      obtain ⟨sz, hs, rfl⟩ := map_some' hc
      exact snd_iaA ho hd hs hx hi hr h
    · cases hc
  · rename_i ty x i ho
    split at hc
    · rename_i y y' hd hx hi; cases hc; exact snd_ixS ho hd hx hi hr h
    · rename_i m e y y' hd hx hi
      split at hc
      · rename_i d s hd' hs
        split at hc
        · rename_i hag; cases hc; exact snd_ixA ho hd hd' hs hx hi hr (.inl ⟨hag, h⟩)
        · rename_i hag
          split at hc
          · rename_i h1; cases hc; exact snd_ixA ho hd hd' hs hx hi hr (.inr ⟨by simpa using hag, h1, h⟩)
          · cases hc
      · cases hc
    · cases hc
  · rename_i ty parts ho
    split at hc
    · rename_i z hz
      split at hc
      · rename_i z' fs hg hu
        split at hc
        · rename_i pl hp
          obtain ⟨ps, hps, rfl⟩ := map_some' hc
          exact snd_bld ho hz hg (.inl ⟨fs, pl, hu, hp, hps⟩) hr h
        · cases hc
      · rename_i z' m e hg hu
        split at hc
        · rename_i s hs
          obtain ⟨ps, hps, rfl⟩ := map_some' hc
          exact snd_bld ho hz hg (.inr ⟨m, e, s, hu, hs, hps⟩) hr h
        · cases hc
      · cases hc
    · cases hc
  · rename_i x i ho
    obtain ⟨y, hx, rfl⟩ := map_some' hc
    exact snd_ext ho hx hr h
  · rename_i xt m k ok ho
    split at hc
    · rename_i kt et ym yk hd hm hk
      split at hc
      · rename_i kk z hkk hz
        cases hc
        cases hdk : P.underlying kt with
        | none => rw [hdk] at hkk; cases hkk
        | some d =>
          rw [hdk] at hkk
          cases hzz : (P.info? et).bind (·.zero) with
          | none => rw [hzz] at hz; cases hz
          | some zz =>
            rw [hzz] at hz
            exact snd_look ho hd hdk hkk hzz hz hm hk hr hrd h
      · cases hc
    · cases hc
  · rename_i args ts ho
    split at hc
    · rename_i x hd ha
      obtain ⟨y, hx, rfl⟩ := map_some' hc
      exact snd_len ho ha hd (.inl ⟨rfl, rfl⟩) hx hr hrd h
    · rename_i e x hd ha
      obtain ⟨y, hx, rfl⟩ := map_some' hc
      exact snd_len ho ha hd (.inr (.inl ⟨⟨e, rfl⟩, rfl⟩)) hx hr hrd h
    · rename_i k e x hd ha
      obtain ⟨y, hx, rfl⟩ := map_some' hc
      exact snd_len ho ha hd (.inr (.inr ⟨⟨k, e, rfl⟩, rfl⟩)) hx hr hrd h
    · rename_i m e x hd ha
      obtain ⟨y, hx, rfl⟩ := map_some' hc
      exact snd_lenC ho ha (.inl ⟨e, hd⟩) h
    · rename_i e x hd ha
      split at hc
      · rename_i m e' y hd' hx; cases hc; exact snd_lenC ho ha (.inr ⟨e, e', hd, hd'⟩) h
      · cases hc
    · cases hc
  · rename_i args ts ho
    split at hc
    · rename_i e x hd ha
      obtain ⟨y, hx, rfl⟩ := map_some' hc
      exact snd_cap ho ha hd hx hr h
    · cases hc
  · rename_i args ts ho
    split at hc
    · rename_i x x' ha
      split at hc
      · rename_i y y' hx hx'; cases hc; exact snd_mx ho ha hx hx' hr h
      · cases hc
    · cases hc
  · rename_i args ts ho
    split at hc
    · rename_i x x' ha
      split at hc
      · rename_i y y' hx hx'; cases hc; exact snd_mn ho ha hx hx' hr h
      · cases hc
    · cases hc
  · cases hc
end Go.AM
