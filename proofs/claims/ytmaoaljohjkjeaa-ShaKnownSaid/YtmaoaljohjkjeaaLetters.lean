/- The hash of a million letters a, of 56 letters, and their texts. No function of the program in sight. Conditions: none. -/
import Derived.Test.YtmaoaljohjkjeaaMillion
import Derived.Test.YtmaoaljohjkjeaaAwake
namespace Go.Proofs.Ytmaoaljohjkjeaa

theorem pad_in (zs : List Int) (hl : zs.length = 1000000) (hz : ∀ i, i < 1000000 → zs.getD i 0 = 97) (B i : Nat) (h : i < 1000000) : padZ zs B i = 97 := by
  rw [padZ, hl, if_pos h, hz i h]
theorem pad_out (zs : List Int) (hl : zs.length = 1000000) (i : Nat) (h : 1000000 ≤ i) : padZ zs 15626 i = if i = 1000000 then 128 else if 1000064 ≤ i + 8 then 8000000 / 2 ^ (8 * (1000063 - i)) % 256 else 0 := by
  rw [padZ, hl, if_neg (by omega)]
  rfl
theorem word_in (zs : List Int) (hl : zs.length = 1000000) (hz : ∀ i, i < 1000000 → zs.getD i 0 = 97) (i t : Nat) (hi : i < 15625) (ht : t < 16) : wN zs 15626 i t = aN t := by
  have p := pad_in zs hl hz 15626
  rw [wN, wordTo, wordTo, wordTo, wordTo, wordTo, p _ (by omega), p _ (by omega), p _ (by omega), p _ (by omega)]
  unfold aN; decide
theorem word_end (zs : List Int) (hl : zs.length = 1000000) (t : Nat) (ht : t < 16) : wN zs 15626 15625 t = pN t := by
  have p := pad_out zs hl
  rw [wN, wordTo, wordTo, wordTo, wordTo, wordTo, p _ (by omega), p _ (by omega), p _ (by omega), p _ (by omega)]
  revert ht t
  decide +kernel
theorem mil_hash (zs : List Int) (hl : zs.length = 1000000) (hz : ∀ i, i < 1000000 → zs.getD i 0 = 97) : ofZ zs = outTo (castZ milN) 32 := by
  have hb : blocksOf zs.length = 15625 + 1 := by rw [hl]; decide
  have hall : hashN kN (fun i => wordN (wN zs 15626 i)) hN 15625 = blocksN kwA 15625 hN :=
    hashN_same kN _ kwA hN 15625 (fun i hi => by
      rw [← sumsA]
      apply List.map_congr_left
      intro t _
      rw [wordN_congr _ aN (fun t ht => word_in zs hl hz i t hi ht) t]) 15625 (Nat.le_refl _)
  have hlast : ((List.range 64).map fun t => kN.getD t 0 + wordN (wN zs 15626 15625) t) = kwP := by
    rw [← sumsP]
    apply List.map_congr_left
    intro t _
    rw [wordN_congr _ pN (fun t ht => word_end zs hl t ht) t]
  have hend := mil_last
  rw [← mil_all, ← hall] at hend
  have h1 : blockN kN (wordN (wN zs 15626 15625)) (hashN kN (fun i => wordN (wN zs 15626 i)) hN 15625) = milN := by
    rw [blockN, roundsN_fold, hlast]
    exact hend
  rw [ofZ, hb, hashTo_nat, hashN, h1]
theorem hex_mil : hexTo (outTo (castZ milN) 32) 64 = [99, 100, 99, 55, 54, 101, 53, 99, 57, 57, 49, 52, 102, 98, 57, 50, 56, 49, 97, 49, 99, 55, 101, 50, 56, 52, 100, 55, 51, 101, 54, 55, 102, 49, 56, 48, 57, 97, 52, 56, 97, 52, 57, 55, 50, 48, 48, 101, 48, 52, 54, 100, 51, 57, 99, 99, 99, 55, 49, 49, 50, 99, 100, 48] := by decide +kernel
theorem eq_mil (zs : List Int) (hl : zs.length = 1000000) (hz : ∀ i, i < 1000000 → zs.getD i 0 = 97) : ((hexS (ofZ zs)).toList == [99, 100, 99, 55, 54, 101, 53, 99, 57, 57, 49, 52, 102, 98, 57, 50, 56, 49, 97, 49, 99, 55, 101, 50, 56, 52, 100, 55, 51, 101, 54, 55, 102, 49, 56, 48, 57, 97, 52, 56, 97, 52, 57, 55, 50, 48, 48, 101, 48, 52, 54, 100, 51, 57, 99, 99, 99, 55, 49, 49, 50, 99, 100, 48]) = true := by
  rw [hexS, strZ_toList, mil_hash zs hl hz, hex_mil]; decide +kernel

/-- the 56 letters -/
def lettersZ : List Int := [97, 98, 99, 100, 98, 99, 100, 101, 99, 100, 101, 102, 100, 101, 102, 103, 101, 102, 103, 104, 102, 103, 104, 105, 103, 104, 105, 106, 104, 105, 106, 107, 105, 106, 107, 108, 106, 107, 108, 109, 107, 108, 109, 110, 108, 109, 110, 111, 109, 110, 111, 112, 110, 111, 112, 113]
theorem hex_letters : hexTo (ofZ lettersZ) 64 = [50, 52, 56, 100, 54, 97, 54, 49, 100, 50, 48, 54, 51, 56, 98, 56, 101, 53, 99, 48, 50, 54, 57, 51, 48, 99, 51, 101, 54, 48, 51, 57, 97, 51, 51, 99, 101, 52, 53, 57, 54, 52, 102, 102, 50, 49, 54, 55, 102, 54, 101, 99, 101, 100, 100, 52, 49, 57, 100, 98, 48, 54, 99, 49] := by decide +kernel
theorem eq_letters : ((hexS (ofZ lettersZ)).toList == [50, 52, 56, 100, 54, 97, 54, 49, 100, 50, 48, 54, 51, 56, 98, 56, 101, 53, 99, 48, 50, 54, 57, 51, 48, 99, 51, 101, 54, 48, 51, 57, 97, 51, 51, 99, 101, 52, 53, 57, 54, 52, 102, 102, 50, 49, 54, 55, 102, 54, 101, 99, 101, 100, 100, 52, 49, 57, 100, 98, 48, 54, 99, 49]) = true := by
  rw [hexS, strZ_toList, hex_letters]; decide +kernel
end Go.Proofs.Ytmaoaljohjkjeaa
