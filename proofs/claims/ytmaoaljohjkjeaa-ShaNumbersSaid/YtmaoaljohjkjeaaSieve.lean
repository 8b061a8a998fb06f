/- The plain law of sha.found: the sieve of 312 places, and what the tables K and H hold behind it. No conditions. -/
import Derived.Test.YtmaoaljohjkjeaaFound
namespace Go.Proofs.Ytmaoaljohjkjeaa

def strikeGo (n : Nat) : Nat → List Bool → Nat → List Bool
  | 0, l, _ => l
  | fuel + 1, l, m => if m ≤ 311 then strikeGo n fuel (l.set m true) (m + n) else l

/-- what is struck ahead of round n -/
def struckTo : Nat → List Bool
  | 0 => List.replicate 312 false
  | n + 1 => if n < 2 ∨ (struckTo n).getD n true = true then struckTo n else strikeGo n 312 (struckTo n) (n * n)
def isPr (n : Nat) : Bool := !(decide (n < 2) || (struckTo n).getD n true)
def countTo : Nat → Nat
  | 0 => 0
  | n + 1 => countTo n + (isPr n).toNat
def kTo : Nat → List Int
  | 0 => List.replicate 64 0
  | n + 1 => if isPr n = true then (kTo n).set (countTo n) (behindZ n 3) else kTo n
def hTo : Nat → List Int
  | 0 => List.replicate 8 0
  | n + 1 => if isPr n = true ∧ countTo n < 8 then (hTo n).set (countTo n) (behindZ n 2) else hTo n

def kTab : List Int := [1116352408, 1899447441, 3049323471, 3921009573, 961987163, 1508970993, 2453635748, 2870763221, 3624381080, 310598401, 607225278, 1426881987, 1925078388, 2162078206, 2614888103, 3248222580, 3835390401, 4022224774, 264347078, 604807628, 770255983, 1249150122, 1555081692, 1996064986, 2554220882, 2821834349, 2952996808, 3210313671, 3336571891, 3584528711, 113926993, 338241895, 666307205, 773529912, 1294757372, 1396182291, 1695183700, 1986661051, 2177026350, 2456956037, 2730485921, 2820302411, 3259730800, 3345764771, 3516065817, 3600352804, 4094571909, 275423344, 430227734, 506948616, 659060556, 883997877, 958139571, 1322822218, 1537002063, 1747873779, 1955562222, 2024104815, 2227730452, 2361852424, 2428436474, 2756734187, 3204031479, 3329325298]
def hTab : List Int := [1779033703, 3144134277, 1013904242, 2773480762, 1359893119, 2600822924, 528734635, 1541459225]
theorem count_all : countTo 312 = 64 := by decide +kernel
theorem k_all : kTo 312 = kTab := by decide +kernel
theorem h_all : hTo 312 = hTab := by decide +kernel

theorem strikeGo_length (n : Nat) : ∀ (fuel : Nat) (l : List Bool) (m : Nat), (strikeGo n fuel l m).length = l.length
  | 0, _, _ => rfl
  | fuel + 1, l, m => by
    unfold strikeGo; split
    · rw [strikeGo_length n fuel]; simp
    · rfl
theorem struckTo_length : ∀ n, (struckTo n).length = 312
  | 0 => List.length_replicate
  | n + 1 => by
    unfold struckTo; split
    · exact struckTo_length n
    · rw [strikeGo_length]; exact struckTo_length n
theorem kTo_length : ∀ n, (kTo n).length = 64
  | 0 => by simp [kTo]
  | n + 1 => by unfold kTo; split <;> simp [kTo_length n]
theorem hTo_length : ∀ n, (hTo n).length = 8
  | 0 => by simp [hTo]
  | n + 1 => by unfold hTo; split <;> simp [hTo_length n]
theorem count_mono (n d : Nat) : countTo n ≤ countTo (n + d) := by
  induction d with
  | zero => exact Nat.le_refl _
  | succ d ih => exact Nat.le_trans ih (Nat.le_add_right _ _)
theorem isPr_lt (n : Nat) (hn : n < 312) (h : isPr n = true) : countTo n < 64 := by
  have h1 := count_mono (n + 1) (312 - (n + 1))
  rw [show n + 1 + (312 - (n + 1)) = 312 by omega, count_all] at h1
  have h2 : countTo (n + 1) = countTo n + 1 := by rw [countTo, h]; rfl
  omega
theorem isPr_of (n : Nat) (h1 : ¬ n < 2) (h2 : (struckTo n).getD n true = false) : isPr n = true := by
  rw [isPr, decide_eq_false h1, h2]; rfl
theorem isPr_not (n : Nat) (h : n < 2 ∨ (struckTo n).getD n true = true) : isPr n = false := by
  unfold isPr
  rcases h with h | h
  · simp [h]
  · rw [h]; simp
end Go.Proofs.Ytmaoaljohjkjeaa
