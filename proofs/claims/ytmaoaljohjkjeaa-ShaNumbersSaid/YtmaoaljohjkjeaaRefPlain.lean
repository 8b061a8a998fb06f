/- Plain laws of the document's hash: its padded numbers are those of the walk of sha.Of, and its bytes come out alike. No function of the program in sight. Conditions: bytes are below 256; at most 2 to the 40th of them. -/
import Derived.Test.YtmaoaljohjkjeaaRefWords
import Derived.Test.YtmaoaljohjkjeaaFast
namespace Go.Proofs.Ytmaoaljohjkjeaa

/-- the byte at a place when k bytes are added -/
def partT (zs : List Int) (k j : Nat) : Int := if j < k then markT zs j else 0
theorem partT_other (zs : List Int) (k j : Nat) (h : j ≠ k) : partT zs (k + 1) j = partT zs k j := by
  unfold partT
  by_cases h1 : j < k
  · rw [if_pos h1, if_pos (by omega)]
  · rw [if_neg h1, if_neg (by omega)]
theorem partT_new (zs : List Int) (k : Nat) : partT zs (k + 1) k = markT zs k := by unfold partT; rw [if_pos (by omega)]
theorem partT_old (zs : List Int) (k : Nat) : partT zs k k = 0 := by unfold partT; rw [if_neg (by omega)]
theorem markT_range (zs : List Int) (hr : ∀ i, i < zs.length → 0 ≤ zs.getD i 0 ∧ zs.getD i 0 < 256) (j : Nat) : 0 ≤ markT zs j ∧ markT zs j < 256 := by
  unfold markT
  by_cases h : j < zs.length
  · rw [if_pos h]; exact hr j h
  · rw [if_neg h]; decide
theorem partT_range (zs : List Int) (hr : ∀ i, i < zs.length → 0 ≤ zs.getD i 0 ∧ zs.getD i 0 < 256) (k j : Nat) : 0 ≤ partT zs k j ∧ partT zs k j < 256 := by
  unfold partT
  by_cases h : j < k
  · rw [if_pos h]; exact markT_range zs hr j
  · rw [if_neg h]; decide

theorem wordsT_getD (zs : List Int) (hr : ∀ i, i < zs.length → 0 ≤ zs.getD i 0 ∧ zs.getD i 0 < 256) (m : Nat) (hm : m < (zs.length + 72) / 64 * 16) :
    ∀ k, (wordsT zs k).getD m 0 = partT zs k (4 * m) * 16777216 + partT zs k (4 * m + 1) * 65536 + partT zs k (4 * m + 2) * 256 + partT zs k (4 * m + 3)
  | 0 => by
    have : ∀ j, partT zs 0 j = 0 := fun j => by unfold partT; rw [if_neg (by omega)]
    rw [this, this, this, this, wordsT, List.getD_eq_getElem?_getD, List.getElem?_replicate, if_pos hm]
    rfl
  | k + 1 => by
    have ih := wordsT_getD zs hr m hm k
    have r0 := partT_range zs hr k (4 * m)
    have r1 := partT_range zs hr k (4 * m + 1)
    have r2 := partT_range zs hr k (4 * m + 2)
    have r3 := partT_range zs hr k (4 * m + 3)
    have rm := markT_range zs hr k
    have ll := wordsT_length zs k
    rw [wordsT]
    by_cases hk : k / 4 = m
    · rw [hk, getD_set_same _ _ _ (by rw [ll]; exact hm), ih]
      have hn := partT_new zs k
      have ho := partT_old zs k
      rcases (show k = 4 * m ∨ k = 4 * m + 1 ∨ k = 4 * m + 2 ∨ k = 4 * m + 3 by omega) with h | h | h | h
      · have o1 := partT_other zs k (4 * m + 1) (by omega)
        have o2 := partT_other zs k (4 * m + 2) (by omega)
        have o3 := partT_other zs k (4 * m + 3) (by omega)
        rw [o1, o2, o3]
        have e : k % 4 = 0 := by omega
        rw [h] at hn ho
        rw [e, h, hn, ho]
        rw [h] at r0 r1 r2 r3 rm
        show _ % 4294967296 = _
        simp only [Nat.zero_mul, Nat.sub_zero]
        generalize partT zs (4 * m) (4 * m + 1) = p1 at *
        generalize partT zs (4 * m) (4 * m + 2) = p2 at *
        generalize partT zs (4 * m) (4 * m + 3) = p3 at *
        generalize markT zs (4 * m) = x at *
        omega
      · have o1 := partT_other zs k (4 * m) (by omega)
        have o2 := partT_other zs k (4 * m + 2) (by omega)
        have o3 := partT_other zs k (4 * m + 3) (by omega)
        rw [o1, o2, o3]
        have e : k % 4 = 1 := by omega
        rw [h] at hn ho
        rw [e, h, hn, ho]
        rw [h] at r0 r1 r2 r3 rm
        show _ % 4294967296 = _
        simp only [show (24 - 1 * 8) = 16 from rfl]
        generalize partT zs (4 * m + 1) (4 * m) = p1 at *
        generalize partT zs (4 * m + 1) (4 * m + 2) = p2 at *
        generalize partT zs (4 * m + 1) (4 * m + 3) = p3 at *
        generalize markT zs (4 * m + 1) = x at *
        omega
      · have o1 := partT_other zs k (4 * m) (by omega)
        have o2 := partT_other zs k (4 * m + 1) (by omega)
        have o3 := partT_other zs k (4 * m + 3) (by omega)
        rw [o1, o2, o3]
        have e : k % 4 = 2 := by omega
        rw [h] at hn ho
        rw [e, h, hn, ho]
        rw [h] at r0 r1 r2 r3 rm
        show _ % 4294967296 = _
        simp only [show (24 - 2 * 8) = 8 from rfl]
        generalize partT zs (4 * m + 2) (4 * m) = p1 at *
        generalize partT zs (4 * m + 2) (4 * m + 1) = p2 at *
        generalize partT zs (4 * m + 2) (4 * m + 3) = p3 at *
        generalize markT zs (4 * m + 2) = x at *
        omega
      · have o1 := partT_other zs k (4 * m) (by omega)
        have o2 := partT_other zs k (4 * m + 1) (by omega)
        have o3 := partT_other zs k (4 * m + 2) (by omega)
        rw [o1, o2, o3]
        have e : k % 4 = 3 := by omega
        rw [h] at hn ho
        rw [e, h, hn, ho]
        rw [h] at r0 r1 r2 r3 rm
        show _ % 4294967296 = _
        simp only [show (24 - 3 * 8) = 0 from rfl]
        generalize partT zs (4 * m + 3) (4 * m) = p1 at *
        generalize partT zs (4 * m + 3) (4 * m + 1) = p2 at *
        generalize partT zs (4 * m + 3) (4 * m + 2) = p3 at *
        generalize markT zs (4 * m + 3) = x at *
        omega
    · rw [getD_set_other _ _ _ _ (by omega), ih, partT_other _ _ _ (by omega), partT_other _ _ _ (by omega), partT_other _ _ _ (by omega), partT_other _ _ _ (by omega)]

theorem padZ_part (zs : List Int) (B j : Nat) (h : j + 8 < 64 * B) : padZ zs B j = partT zs (zs.length + 1) j := by
  unfold padZ partT markT
  by_cases h1 : j < zs.length
  · rw [if_pos h1, if_pos (by omega), if_pos h1]
  · rw [if_neg h1, if_neg h1]
    by_cases h2 : j = zs.length
    · rw [if_pos h2, if_pos (by omega)]
    · rw [if_neg h2, if_neg (by omega), if_neg (by omega)]
theorem padZ_bits (zs : List Int) (B j e : Nat) (h : 64 * B ≤ j + 8) (h1 : zs.length < j) (he : B * 64 - 8 + 7 - j = e) : padZ zs B j = (zs.length * 8 : Int) / 2 ^ (8 * e) % 256 := by
  unfold padZ
  rw [if_neg (by omega), if_neg (by omega), if_pos h, he]

theorem wordTo_four (zs : List Int) (B m : Nat) (p0 p1 p2 p3 : Int) (h0 : padZ zs B (4 * m) = p0) (h1 : padZ zs B (4 * m + 1) = p1) (h2 : padZ zs B (4 * m + 2) = p2) (h3 : padZ zs B (4 * m + 3) = p3)
    (r0 : 0 ≤ p0 ∧ p0 < 256) (r1 : 0 ≤ p1 ∧ p1 < 256) (r2 : 0 ≤ p2 ∧ p2 < 256) (r3 : 0 ≤ p3 ∧ p3 < 256) : wordTo zs B m 4 = p0 * 16777216 + p1 * 65536 + p2 * 256 + p3 := by
  rw [wordTo, wordTo, wordTo, wordTo, wordTo, Nat.add_zero, h0, h1, h2, h3]
  omega

theorem last_word (zs : List Int) (hr : ∀ i, i < zs.length → 0 ≤ zs.getD i 0 ∧ zs.getD i 0 < 256) (hl : zs.length ≤ 1099511627776) (B : Nat) (hB : B = (zs.length + 72) / 64) (m : Nat) (hm : m < 16 * B) : (lastT zs).getD m 0 = wordTo zs B m 4 := by
  have hd : lastT zs = ((wordsT zs (zs.length + 1)).set (16 * B - 2) ((zs.length * 8 : Int) / 4294967296)).set (16 * B - 1) ((zs.length * 8 : Int) % 4294967296) := by
    rw [hB, Nat.mul_comm 16]; rfl
  have ll := wordsT_length zs (zs.length + 1)
  have h8 : zs.length + 8 < 64 * B := by omega
  rw [hd]
  by_cases h1 : m = 16 * B - 1
  · rw [h1, getD_set_same _ _ _ (by rw [List.length_set, ll]; omega)]
    have b := fun r (hr : r < 4) => padZ_bits zs B (4 * (16 * B - 1) + r) (3 - r) (by omega) (by omega) (by omega)
    have b0 := b 0 (by omega)
    have b1 := b 1 (by omega)
    have b2 := b 2 (by omega)
    have b3 := b 3 (by omega)
    rw [wordTo_four zs B _ _ _ _ _ b0 b1 b2 b3 (by omega) (by omega) (by omega) (by omega)]
    simp only [Nat.reduceSub, Nat.reduceMul, Int.reducePow]
    omega
  · rw [getD_set_other _ _ _ _ (by omega)]
    by_cases h2 : m = 16 * B - 2
    · rw [h2, getD_set_same _ _ _ (by rw [ll]; omega)]
      have b := fun r (hr : r < 4) => padZ_bits zs B (4 * (16 * B - 2) + r) (7 - r) (by omega) (by omega) (by omega)
      have b0 := b 0 (by omega)
      have b1 := b 1 (by omega)
      have b2 := b 2 (by omega)
      have b3 := b 3 (by omega)
      rw [wordTo_four zs B _ _ _ _ _ b0 b1 b2 b3 (by omega) (by omega) (by omega) (by omega)]
      simp only [Nat.reduceSub, Nat.reduceMul, Int.reducePow]
      omega
    · rw [getD_set_other _ _ _ _ (by omega), wordsT_getD zs hr m (by omega)]
      have p := fun r (hr : r < 4) => padZ_part zs B (4 * m + r) (by omega)
      have r := partT_range zs hr (zs.length + 1)
      rw [wordTo_four zs B m _ _ _ _ (p 0 (by omega)) (p 1 (by omega)) (p 2 (by omega)) (p 3 (by omega)) (r _) (r _) (r _) (r _)]
      rfl

/-- the last loop of the document's hash: its numbers and its bytes behind k steps -/
def hRef (H : List Int) : Nat → List Int
  | 0 => H
  | k + 1 => (hRef H k).set ((31 - k) / 4) ((hRef H k).getD ((31 - k) / 4) 0 / 256)
def oRef (H : List Int) : Nat → List Int
  | 0 => List.replicate 32 0
  | k + 1 => (oRef H k).set (31 - k) ((hRef H k).getD ((31 - k) / 4) 0 % 256)
theorem hRef_length (H : List Int) : ∀ k, (hRef H k).length = H.length
  | 0 => rfl
  | k + 1 => by rw [hRef, List.length_set]; exact hRef_length H k
theorem oRef_length (H : List Int) : ∀ k, (oRef H k).length = 32
  | 0 => List.length_replicate
  | k + 1 => by rw [oRef, List.length_set]; exact oRef_length H k
def bytesR (x : Int) : List Int := [x / 256 / 256 / 256 % 256, x / 256 / 256 % 256, x / 256 % 256, x % 256]
def bytesP (x : Int) : List Int := [x / 2 ^ (8 * 3) % 256, x / 2 ^ (8 * 2) % 256, x / 2 ^ (8 * 1) % 256, x / 2 ^ (8 * 0) % 256]
theorem bytesR_eq (x : Int) : bytesR x = bytesP x := by
  unfold bytesR bytesP
  simp only [Nat.reduceMul, Int.reducePow]
  congr 1
  · omega
  · congr 1
    · omega
    · congr 2
      omega
theorem oRef_list (a b c d e f g k : Int) : oRef [a, b, c, d, e, f, g, k] 32 = bytesR a ++ bytesR b ++ bytesR c ++ bytesR d ++ bytesR e ++ bytesR f ++ bytesR g ++ bytesR k := by kernel_rfl
theorem outTo_list (a b c d e f g k : Int) : outTo [a, b, c, d, e, f, g, k] 32 = bytesP a ++ bytesP b ++ bytesP c ++ bytesP d ++ bytesP e ++ bytesP f ++ bytesP g ++ bytesP k := by kernel_rfl
theorem oRef_eq (H : List Int) (h : H.length = 8) : oRef H 32 = outTo H 32 := by
  obtain ⟨a, b, c, d, e, f, g, k, rfl⟩ := eight H h
  rw [oRef_list, outTo_list]
  simp only [bytesR_eq]
end Go.Proofs.Ytmaoaljohjkjeaa
