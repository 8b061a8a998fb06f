/- Plain laws of SHA-256 over Nat: the numbers of the walk (Int) as natural numbers below 2 to the 32nd. No function of the program in sight. Conditions: every number is below 2 to the 32nd. -/
import Derived.Test.YtmaoaljohjkjeaaOf
import Derived.Laws.BitsAllLaws
namespace Go.Proofs.Ytmaoaljohjkjeaa

def rotN (x n : Nat) : Nat := x * 4294967297 / 2 ^ n % 4294967296

theorem rotN_lt (x n : Nat) : rotN x n < 4294967296 := Nat.mod_lt _ (by decide)

theorem rotN_or (x n : Nat) (hx : x < 4294967296) (h0 : 1 ≤ n) (h1 : n ≤ 31) : rotN x n = x * 2 ^ (32 - n) % 4294967296 ||| x / 2 ^ n := by
  have hp : 2 ^ (32 - n) * 2 ^ n = 4294967296 := by rw [← Nat.pow_add, show 32 - n + n = 32 by omega]
  have hn : 0 < 2 ^ n := Nat.two_pow_pos n
  have e1 : x * 4294967297 = x * 2 ^ (32 - n) * 2 ^ n + x := by rw [Nat.mul_assoc, hp]; omega
  have e2 : x * 4294967297 / 2 ^ n = x * 2 ^ (32 - n) + x / 2 ^ n := by
    rw [e1, Nat.add_comm, Nat.add_mul_div_right _ _ hn, Nat.add_comm]
  have hy : x / 2 ^ n < 2 ^ (32 - n) := by
    rw [Nat.div_lt_iff_lt_mul hn, hp]; exact hx
  have hm : x * 2 ^ (32 - n) % 4294967296 % 2 ^ (32 - n) = 0 := by
    rw [Nat.mod_mod_of_dvd _ ⟨2 ^ n, by rw [hp]⟩, Nat.mul_mod_left]
  rw [nat_join (32 - n) _ _ hm hy, rotN, e2, Nat.add_mod]
  have hlt : x * 2 ^ (32 - n) % 4294967296 + x / 2 ^ n < 4294967296 := by
    have hd : 2 ^ (32 - n) ∣ 4294967296 - x * 2 ^ (32 - n) % 4294967296 :=
      Nat.dvd_sub ⟨2 ^ n, by rw [hp]⟩ (Nat.dvd_of_mod_eq_zero hm)
    have hl : x * 2 ^ (32 - n) % 4294967296 < 4294967296 := Nat.mod_lt _ (by decide)
    have := Nat.le_of_dvd (by omega) hd
    omega
  have h2 : x / 2 ^ n % 4294967296 = x / 2 ^ n := Nat.mod_eq_of_lt (by omega)
  rw [h2]
  exact Nat.mod_eq_of_lt hlt

theorem rotZ_nat (x n : Nat) (hx : x < 4294967296) (h0 : 1 ≤ n) (h1 : n ≤ 31) : rotZ (x : Int) (n : Int) = (rotN x n : Nat) := by
  rw [rotN_or x n hx h0 h1, rotZ]
  rw [show (32 - (n : Int)).toNat = 32 - n by omega, show (32 - (32 - (n : Int))).toNat = n by omega]
  have hd : x / 2 ^ n < 4294967296 := Nat.lt_of_le_of_lt (Nat.div_le_self _ _) hx
  have := u32_or_nat (x * 2 ^ (32 - n) % 4294967296) (x / 2 ^ n) (Nat.mod_lt _ (by decide)) hd
  rw [← this]
  congr 1

theorem xor_lt {a b : Nat} (ha : a < 4294967296) (hb : b < 4294967296) : a ^^^ b < 4294967296 := Nat.xor_lt_two_pow (n := 32) ha hb
theorem and_lt {a b : Nat} (ha : a < 4294967296) : a &&& b < 4294967296 := Nat.lt_of_le_of_lt Nat.and_le_left ha

theorem turnZ_nat (x a n : Nat) (hx : x < 4294967296) (ha : a < 4294967296) (h0 : 1 ≤ n) (h1 : n ≤ 31) : turnZ (x : Int) (a : Int) (n : Int) = (a ^^^ rotN x n : Nat) := by
  rw [turnZ, rotZ_nat x n hx h0 h1, u32_xor_nat a _ ha (rotN_lt _ _)]

def s0N (x : Nat) : Nat := rotN x 7 ^^^ rotN x 18 ^^^ x / 8
def s1N (x : Nat) : Nat := rotN x 17 ^^^ rotN x 19 ^^^ x / 1024
def bS1N (x : Nat) : Nat := rotN x 6 ^^^ rotN x 11 ^^^ rotN x 25
def bS0N (x : Nat) : Nat := rotN x 2 ^^^ rotN x 13 ^^^ rotN x 22

theorem three_nat (x i j k : Nat) (hx : x < 4294967296) (hi : 1 ≤ i ∧ i ≤ 31) (hj : 1 ≤ j ∧ j ≤ 31) (hk : 1 ≤ k ∧ k ≤ 31) : [(i : Int), (j : Int), (k : Int)].foldl (turnZ (x : Int)) 0 = (rotN x i ^^^ rotN x j ^^^ rotN x k : Nat) := by
  simp only [List.foldl_cons, List.foldl_nil]
  rw [show (0 : Int) = ((0 : Nat) : Int) from rfl, turnZ_nat x 0 i hx (by decide) hi.1 hi.2, Nat.zero_xor, turnZ_nat x _ j hx (rotN_lt _ _) hj.1 hj.2, turnZ_nat x _ k hx (xor_lt (rotN_lt _ _) (rotN_lt _ _)) hk.1 hk.2]
theorem two_nat (x i j : Nat) (hx : x < 4294967296) (hi : 1 ≤ i ∧ i ≤ 31) (hj : 1 ≤ j ∧ j ≤ 31) : [(i : Int), (j : Int)].foldl (turnZ (x : Int)) 0 = (rotN x i ^^^ rotN x j : Nat) := by
  simp only [List.foldl_cons, List.foldl_nil]
  rw [show (0 : Int) = ((0 : Nat) : Int) from rfl, turnZ_nat x 0 i hx (by decide) hi.1 hi.2, Nat.zero_xor, turnZ_nat x _ j hx (rotN_lt _ _) hj.1 hj.2]

theorem bS1Z_nat (x : Nat) (hx : x < 4294967296) : bS1Z (x : Int) = (bS1N x : Nat) := three_nat x 6 11 25 hx (by decide) (by decide) (by decide)
theorem bS0Z_nat (x : Nat) (hx : x < 4294967296) : bS0Z (x : Int) = (bS0N x : Nat) := three_nat x 2 13 22 hx (by decide) (by decide) (by decide)
theorem s0Z_nat (x : Nat) (hx : x < 4294967296) : s0Z (x : Int) = (s0N x : Nat) := by
  have h := two_nat x 7 18 hx (by decide) (by decide)
  have hd : (x : Int) / 8 = (x / 8 : Nat) := by omega
  rw [s0Z, hd, show ([7, 18] : List Int) = [((7 : Nat) : Int), ((18 : Nat) : Int)] from rfl, h, u32_xor_nat _ _ (xor_lt (rotN_lt _ _) (rotN_lt _ _)) (by omega)]
  rfl
theorem s1Z_nat (x : Nat) (hx : x < 4294967296) : s1Z (x : Int) = (s1N x : Nat) := by
  have h := two_nat x 17 19 hx (by decide) (by decide)
  have hd : (x : Int) / 1024 = (x / 1024 : Nat) := by omega
  rw [s1Z, hd, show ([17, 19] : List Int) = [((17 : Nat) : Int), ((19 : Nat) : Int)] from rfl, h, u32_xor_nat _ _ (xor_lt (rotN_lt _ _) (rotN_lt _ _)) (by omega)]
  rfl

def chN (e f g : Nat) : Nat := g ^^^ (e &&& (f ^^^ g))
def majN (a b c : Nat) : Nat := (a &&& (b ^^^ c)) ^^^ (b &&& c)

theorem not_bit (b i : Nat) (hb : b < 4294967296) : (4294967295 - b).testBit i = (decide (i < 32) && !b.testBit i) := by
  have := Nat.testBit_two_pow_sub_succ (x := b) (n := 32) (by simpa using hb) i
  rw [← this]
  congr 1
  omega

theorem high_bit {b : Nat} (hb : b < 4294967296) {i : Nat} (hi : ¬ i < 32) : b.testBit i = false :=
  Nat.testBit_lt_two_pow (Nat.lt_of_lt_of_le hb (Nat.pow_le_pow_right (n := 2) (by omega) (show 32 ≤ i by omega)))

theorem chZ_nat (e f g : Nat) (he : e < 4294967296) (hf : f < 4294967296) (hg : g < 4294967296) : chZ (e : Int) (f : Int) (g : Int) = (chN e f g : Nat) := by
  rw [chZ, u32_and_nat e f he hf, u32_andNot_nat g e hg he, u32_or_nat _ _ (and_lt he) (and_lt hg)]
  congr 1
  unfold chN
  apply Nat.eq_of_testBit_eq
  intro i
  simp only [Nat.testBit_or, Nat.testBit_and, Nat.testBit_xor, not_bit e i he]
  by_cases hi : i < 32
  · simp only [hi, decide_true, Bool.true_and]
    cases e.testBit i <;> cases f.testBit i <;> cases g.testBit i <;> rfl
  · rw [high_bit he hi, high_bit hf hi, high_bit hg hi]; simp
theorem majZ_nat (a b c : Nat) (ha : a < 4294967296) (hb : b < 4294967296) (hc : c < 4294967296) : majZ (a : Int) (b : Int) (c : Int) = (majN a b c : Nat) := by
  rw [majZ, u32_xor_nat b c hb hc, u32_and_nat a _ ha (xor_lt hb hc), u32_and_nat b c hb hc, u32_xor_nat _ _ (and_lt ha) (and_lt hb)]
  rfl
theorem chN_lt (e f g : Nat) (he : e < 4294967296) (hg : g < 4294967296) : chN e f g < 4294967296 := xor_lt hg (and_lt he)

def oneN (e f g h k x : Nat) : Nat := (h + bS1N e + chN e f g + (k + x)) % 4294967296
def twoN (a b c : Nat) : Nat := (bS0N a + majN a b c) % 4294967296
theorem oneZ_nat (e f g h k x : Nat) (he : e < 4294967296) (hf : f < 4294967296) (hg : g < 4294967296) : oneZ (e : Int) (f : Int) (g : Int) (h : Int) (k : Int) (x : Int) = (oneN e f g h k x : Nat) := by
  rw [oneZ, bS1Z_nat e he, chZ_nat e f g he hf hg, oneN]
  generalize bS1N e = p
  generalize chN e f g = q
  omega
theorem twoZ_nat (a b c : Nat) (ha : a < 4294967296) (hb : b < 4294967296) (hc : c < 4294967296) : twoZ (a : Int) (b : Int) (c : Int) = (twoN a b c : Nat) := by
  rw [twoZ, bS0Z_nat a ha, majZ_nat a b c ha hb hc, twoN]
  generalize bS0N a = p
  generalize majN a b c = q
  omega
end Go.Proofs.Ytmaoaljohjkjeaa
