/- The table of the document's hash: the roots of the first 64 primes are the numbers k and h of the walk of sha.Of. No function of the program in sight; no conditions. -/
import Derived.Test.YtmaoaljohjkjeaaRefRoot
import Derived.Test.YtmaoaljohjkjeaaRefPrimes
import Derived.Test.YtmaoaljohjkjeaaFast
namespace Go.Proofs.Ytmaoaljohjkjeaa

def primesL : List Int := [2, 3, 5, 7, 11, 13, 17, 19, 23, 29, 31, 37, 41, 43, 47, 53, 59, 61, 67, 71, 73, 79, 83, 89, 97, 101, 103, 107, 109, 113, 127, 131, 137, 139, 149, 151, 157, 163, 167, 173, 179, 181, 191, 193, 197, 199, 211, 223, 227, 229, 233, 239, 241, 251, 257, 263, 269, 271, 277, 281, 283, 293, 307, 311]
theorem primesL_eq : primesT 310 = primesL := by decide +kernel
def rootOf (p : Int) (n : Nat) : Int := (rootT p n 36).getD 0 0 % 4294967296
theorem roots3_0 : (List.range 8).map (fun i => rootOf (primesL.getD (0 + i) 0) 3) = (List.range 8).map (fun i => ((kN.getD (0 + i) 0 : Nat) : Int)) := by decide +kernel
theorem roots3_1 : (List.range 8).map (fun i => rootOf (primesL.getD (8 + i) 0) 3) = (List.range 8).map (fun i => ((kN.getD (8 + i) 0 : Nat) : Int)) := by decide +kernel
theorem roots3_2 : (List.range 8).map (fun i => rootOf (primesL.getD (16 + i) 0) 3) = (List.range 8).map (fun i => ((kN.getD (16 + i) 0 : Nat) : Int)) := by decide +kernel
theorem roots3_3 : (List.range 8).map (fun i => rootOf (primesL.getD (24 + i) 0) 3) = (List.range 8).map (fun i => ((kN.getD (24 + i) 0 : Nat) : Int)) := by decide +kernel
theorem roots3_4 : (List.range 8).map (fun i => rootOf (primesL.getD (32 + i) 0) 3) = (List.range 8).map (fun i => ((kN.getD (32 + i) 0 : Nat) : Int)) := by decide +kernel
theorem roots3_5 : (List.range 8).map (fun i => rootOf (primesL.getD (40 + i) 0) 3) = (List.range 8).map (fun i => ((kN.getD (40 + i) 0 : Nat) : Int)) := by decide +kernel
theorem roots3_6 : (List.range 8).map (fun i => rootOf (primesL.getD (48 + i) 0) 3) = (List.range 8).map (fun i => ((kN.getD (48 + i) 0 : Nat) : Int)) := by decide +kernel
theorem roots3_7 : (List.range 8).map (fun i => rootOf (primesL.getD (56 + i) 0) 3) = (List.range 8).map (fun i => ((kN.getD (56 + i) 0 : Nat) : Int)) := by decide +kernel
theorem roots2 : (List.range 8).map (fun i => rootOf (primesL.getD (0 + i) 0) 2) = (List.range 8).map (fun i => ((hN.getD (0 + i) 0 : Nat) : Int)) := by decide +kernel
theorem at8 {f g : Nat → Int} (h : (List.range 8).map f = (List.range 8).map g) (i : Nat) (hi : i < 8) : f i = g i := by
  have := congrArg (fun l => l[i]?) h
  simp only [List.getElem?_map, List.getElem?_range hi, Option.map_some, Option.some.injEq] at this
  exact this
theorem rootK (i : Nat) (hi : i < 64) : rootOf (primesL.getD i 0) 3 = ((kN.getD i 0 : Nat) : Int) := by
  obtain ⟨c, j, hj, hc, rfl⟩ : ∃ c j, j < 8 ∧ c < 8 ∧ i = 8 * c + j := ⟨i / 8, i % 8, by omega, by omega, by omega⟩
  match c, hc with
  | 0, _ => exact at8 roots3_0 j hj
  | 1, _ => exact at8 roots3_1 j hj
  | 2, _ => exact at8 roots3_2 j hj
  | 3, _ => exact at8 roots3_3 j hj
  | 4, _ => exact at8 roots3_4 j hj
  | 5, _ => exact at8 roots3_5 j hj
  | 6, _ => exact at8 roots3_6 j hj
  | 7, _ => exact at8 roots3_7 j hj
theorem rootH (i : Nat) (hi : i < 8) : rootOf (primesL.getD i 0) 2 = ((hN.getD i 0 : Nat) : Int) := by
  have := at8 roots2 i hi
  rwa [Nat.zero_add] at this
theorem primesL_range (i : Nat) (hi : i < 64) : 0 ≤ primesL.getD i 0 ∧ primesL.getD i 0 < 1000 := by
  have h : ∀ i, i < 64 → 0 ≤ primesL.getD i 0 ∧ primesL.getD i 0 < 1000 := by decide +kernel
  exact h i hi
end Go.Proofs.Ytmaoaljohjkjeaa
