/- The block of SHA-256 over Nat, and that the walk's block is its castZ. No function of the program in sight. Conditions: every number is below 2 to the 32nd. -/
import Derived.Test.YtmaoaljohjkjeaaNat
namespace Go.Proofs.Ytmaoaljohjkjeaa

/-- a list of natural numbers as one of the walk -/
def castZ (L : List Nat) : List Int := L.map (fun (n : Nat) => (n : Int))
theorem castZ_length (L : List Nat) : (castZ L).length = L.length := by simp [castZ]
theorem castZ_getD (L : List Nat) (i : Nat) : (castZ L).getD i 0 = (L.getD i 0 : Nat) := by
  unfold castZ
  simp only [List.getD_eq_getElem?_getD, List.getElem?_map]
  cases L[i]? <;> rfl
theorem castZ_set (L : List Nat) (i n : Nat) : (castZ L).set i (n : Int) = castZ (L.set i n) := by
  unfold castZ
  rw [List.map_set]

def Small (L : List Nat) : Prop := ∀ i, L.getD i 0 < 4294967296

def stepN (L : List Nat) (n : Nat) : Nat := (s1N (L.getD (n - 2) 0) + L.getD (n - 7) 0 + s0N (L.getD (n - 15) 0) + L.getD (n - 16) 0) % 4294967296
/-- the first n numbers of the schedule -/
def wsN (f : Nat → Nat) : Nat → List Nat
  | 0 => []
  | n + 1 => wsN f n ++ [if n < 16 then f n else stepN (wsN f n) n]
def wordN (f : Nat → Nat) (j : Nat) : Nat := (wsN f (j + 1)).getD j 0
theorem wsN_length (f : Nat → Nat) : ∀ n, (wsN f n).length = n
  | 0 => rfl
  | n + 1 => by rw [wsN, List.length_append, wsN_length f n]; rfl
theorem getD_left (L M : List Nat) (j : Nat) (h : j < L.length) : (L ++ M).getD j 0 = L.getD j 0 := by
  rw [List.getD_eq_getElem?_getD, List.getD_eq_getElem?_getD, List.getElem?_append_left h]
theorem getD_end (L : List Nat) (x j : Nat) (h : j = L.length) : (L ++ [x]).getD j 0 = x := by
  subst h
  simp
theorem wsN_getD (f : Nat → Nat) (j : Nat) : ∀ n, j < n → (wsN f n).getD j 0 = wordN f j
  | 0, h => absurd h (by omega)
  | n + 1, h => by
    rcases Nat.lt_or_ge j n with h1 | h1
    · rw [wsN, getD_left _ _ _ (by rw [wsN_length]; exact h1)]
      exact wsN_getD f j n h1
    · rw [show n = j by omega]; rfl
theorem wordN_eq (f : Nat → Nat) (j : Nat) : wordN f j = if j < 16 then f j else (s1N (wordN f (j - 2)) + wordN f (j - 7) + s0N (wordN f (j - 15)) + wordN f (j - 16)) % 4294967296 := by
  conv => lhs; unfold wordN; rw [wsN]
  rw [getD_end _ _ _ (wsN_length f j).symm]
  by_cases h : j < 16
  · rw [if_pos h, if_pos h]
  · rw [if_neg h, if_neg h, stepN, wsN_getD f _ _ (by omega), wsN_getD f _ _ (by omega), wsN_getD f _ _ (by omega), wsN_getD f _ _ (by omega)]
theorem wordN_lt (f : Nat → Nat) (hf : ∀ t, t < 16 → f t < 4294967296) (j : Nat) : wordN f j < 4294967296 := by
  rw [wordN_eq]
  split
  · exact hf j ‹_›
  · exact Nat.mod_lt _ (by decide)

/-- a round -/
def roundN (k x : Nat) (S : List Nat) : List Nat :=
  [(oneN (S.getD 4 0) (S.getD 5 0) (S.getD 6 0) (S.getD 7 0) k x + twoN (S.getD 0 0) (S.getD 1 0) (S.getD 2 0)) % 4294967296, S.getD 0 0, S.getD 1 0, S.getD 2 0,
   (S.getD 3 0 + oneN (S.getD 4 0) (S.getD 5 0) (S.getD 6 0) (S.getD 7 0) k x) % 4294967296, S.getD 4 0, S.getD 5 0, S.getD 6 0]
def roundsN (K : List Nat) (w : Nat → Nat) (H : List Nat) : Nat → List Nat
  | 0 => H
  | t + 1 => roundN (K.getD t 0) (w t) (roundsN K w H t)
def sumN (S H : List Nat) : List Nat := (List.range 8).map fun i => (S.getD i 0 + H.getD i 0) % 4294967296
def blockN (K : List Nat) (w : Nat → Nat) (H : List Nat) : List Nat := sumN (roundsN K w H 64) H
def hashN (K : List Nat) (w : Nat → Nat → Nat) (H : List Nat) : Nat → List Nat
  | 0 => H
  | i + 1 => blockN K (w i) (hashN K w H i)

theorem small8 {a b c d e f g h : Nat} (ha : a < 4294967296) (hb : b < 4294967296) (hc : c < 4294967296) (hd : d < 4294967296) (he : e < 4294967296) (hf : f < 4294967296) (hg : g < 4294967296) (hh : h < 4294967296) : Small [a, b, c, d, e, f, g, h] := by
  intro i
  match i with
  | 0 => exact ha
  | 1 => exact hb
  | 2 => exact hc
  | 3 => exact hd
  | 4 => exact he
  | 5 => exact hf
  | 6 => exact hg
  | 7 => exact hh
  | _ + 8 => exact (by decide : 0 < 4294967296)
theorem roundN_small (k x : Nat) (S : List Nat) (h : Small S) : Small (roundN k x S) :=
  small8 (Nat.mod_lt _ (by decide)) (h 0) (h 1) (h 2) (Nat.mod_lt _ (by decide)) (h 4) (h 5) (h 6)
theorem roundsN_small (K : List Nat) (w : Nat → Nat) (H : List Nat) (h : Small H) : ∀ t, Small (roundsN K w H t)
  | 0 => h
  | t + 1 => roundN_small _ _ _ (roundsN_small K w H h t)
theorem sumN_small (S H : List Nat) : Small (sumN S H) := small8 (Nat.mod_lt _ (by decide)) (Nat.mod_lt _ (by decide)) (Nat.mod_lt _ (by decide)) (Nat.mod_lt _ (by decide)) (Nat.mod_lt _ (by decide)) (Nat.mod_lt _ (by decide)) (Nat.mod_lt _ (by decide)) (Nat.mod_lt _ (by decide))
theorem hashN_small (K : List Nat) (w : Nat → Nat → Nat) (H : List Nat) (h : Small H) : ∀ i, Small (hashN K w H i)
  | 0 => h
  | _ + 1 => sumN_small _ _
theorem roundN_length (k x : Nat) (S : List Nat) : (roundN k x S).length = 8 := rfl
theorem roundsN_length (K : List Nat) (w : Nat → Nat) (H : List Nat) (h : H.length = 8) : ∀ t, (roundsN K w H t).length = 8
  | 0 => h
  | _ + 1 => rfl
theorem hashN_length (K : List Nat) (w : Nat → Nat → Nat) (H : List Nat) (h : H.length = 8) : ∀ t, (hashN K w H t).length = 8
  | 0 => h
  | _ + 1 => rfl

/-- the walk's ring of 16 numbers holds the schedule -/
theorem ring (f : Nat → Int) (g : Nat → Nat) (hg : ∀ t, t < 16 → f t = (g t : Nat)) (hs : ∀ t, t < 16 → g t < 4294967296) (K H : List Int) : ∀ t, (roundsZ f K H t).1.length = 16 ∧ ∀ j, j < t → t ≤ j + 16 → (roundsZ f K H t).1.getD (j % 16) 0 = (wordN g j : Nat)
  | 0 => ⟨rfl, fun j hj => absurd hj (by omega)⟩
  | t + 1 => by
    obtain ⟨hl, hr⟩ := ring f g hg hs K H t
    have key : (roundsZ f K H (t + 1)).1 = (roundsZ f K H t).1.set (t % 16) (wordN g t : Nat) := by
      show schedZ f (roundsZ f K H t).1 t = _
      rw [schedZ, wordN_eq]
      by_cases h : t < 16
      · rw [if_pos h, if_pos h, hg t h, Nat.mod_eq_of_lt h]
      · rw [if_neg h, if_neg h]
        have a1 := hr (t - 16) (by omega) (by omega)
        have a2 := hr (t - 15) (by omega) (by omega)
        have a3 := hr (t - 2) (by omega) (by omega)
        have a4 := hr (t - 7) (by omega) (by omega)
        rw [show (t - 16) % 16 = t % 16 by omega] at a1
        rw [show (t - 15) % 16 = (t + 1) % 16 by omega] at a2
        rw [show (t - 2) % 16 = (t + 14) % 16 by omega] at a3
        rw [show (t - 7) % 16 = (t + 9) % 16 by omega] at a4
        rw [a1, a2, a3, a4, s0Z_nat _ (wordN_lt g hs _), s1Z_nat _ (wordN_lt g hs _)]
        congr 1
        generalize s0N (wordN g (t - 15)) = p
        generalize s1N (wordN g (t - 2)) = q
        generalize wordN g (t - 16) = r
        generalize wordN g (t - 7) = s
        omega
    rw [key]
    refine ⟨by rw [List.length_set]; exact hl, fun j hj h16 => ?_⟩
    rcases Nat.lt_or_ge j t with h1 | h1
    · rw [getD_set_other _ _ _ _ (by omega)]
      exact hr j h1 (by omega)
    · rw [show j = t by omega, getD_set_same _ _ _ (by omega)]

theorem rounds_nat (f : Nat → Int) (g : Nat → Nat) (hg : ∀ t, t < 16 → f t = (g t : Nat)) (hs : ∀ t, t < 16 → g t < 4294967296) (K H : List Nat) (hH : Small H) : ∀ t, (roundsZ f (castZ K) (castZ H) t).2 = castZ (roundsN K (wordN g) H t)
  | 0 => rfl
  | t + 1 => by
    have ih := rounds_nat f g hg hs K H hH t
    have hw := (ring f g hg hs (castZ K) (castZ H) (t + 1)).2 t (by omega) (by omega)
    have hw : (schedZ f (roundsZ f (castZ K) (castZ H) t).1 t).getD (t % 16) 0 = (wordN g t : Nat) := hw
    have hS := roundsN_small K (wordN g) H hH t
    rw [roundsZ, roundZ, roundsN, roundN]
    simp only []
    rw [ih, hw]
    simp only [castZ_getD]
    rw [oneZ_nat _ _ _ _ _ _ (hS 4) (hS 5) (hS 6), twoZ_nat _ _ _ (hS 0) (hS 1) (hS 2)]
    rw [castZ]
    simp only [List.map_cons, List.map_nil]
    rfl

theorem block_nat (f : Nat → Int) (g : Nat → Nat) (hg : ∀ t, t < 16 → f t = (g t : Nat)) (hs : ∀ t, t < 16 → g t < 4294967296) (K H : List Nat) (hH : Small H) (hl : H.length = 8) : blockZ f (castZ K) (castZ H) = castZ (blockN K (wordN g) H) := by
  rw [blockZ, rounds_nat f g hg hs K H hH, blockN]
  have h1 := roundsN_length K (wordN g) H hl 64
  generalize roundsN K (wordN g) H 64 = S at h1
  match S, H, h1, hl with
  | [a, b, c, d, e, f, g, h], [a', b', c', d', e', f', g', h'], _, _ => rfl
end Go.Proofs.Ytmaoaljohjkjeaa
