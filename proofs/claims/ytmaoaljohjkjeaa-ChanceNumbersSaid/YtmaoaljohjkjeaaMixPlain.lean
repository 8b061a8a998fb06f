/- Plain laws of the numbers of 64 bits: Mix as a function of BitVec 64, and that it can be undone. No conditions. -/
import Derived.Laws.Bits64
namespace Go.Proofs.Ytmaoaljohjkjeaa

def shB (k : Nat) (x : BitVec 64) : BitVec 64 := x ^^^ x >>> k
def unB (k : Nat) (x : BitVec 64) : BitVec 64 := x ^^^ x >>> k ^^^ x >>> (2 * k)

theorem far (k : Nat) (h : 64 ≤ 3 * k) (x : BitVec 64) : x >>> (k + 2 * k) = 0#64 := by
  apply BitVec.eq_of_toNat_eq
  rw [BitVec.toNat_ushiftRight, Nat.shiftRight_eq_div_pow]
  have h1 : x.toNat < 2 ^ 64 := x.isLt
  have h2 : 2 ^ 64 ≤ 2 ^ (k + 2 * k) := Nat.pow_le_pow_right (by omega) (by omega)
  simp
  exact Nat.lt_of_lt_of_le h1 h2

theorem un_sh (k : Nat) (h : 64 ≤ 3 * k) (x : BitVec 64) : unB k (shB k x) = x := by
  unfold unB shB
  rw [BitVec.ushiftRight_xor_distrib, BitVec.ushiftRight_xor_distrib, ← BitVec.shiftRight_add, ← BitVec.shiftRight_add, far k h, show 2 * k = k + k by omega]
  generalize x >>> k = y
  generalize x >>> (k + k) = z
  rw [BitVec.xor_zero]
  ext i hi
  simp only [BitVec.getElem_xor]
  cases x[i] <;> cases y[i] <;> cases z[i] <;> rfl

theorem sh_un (k : Nat) (h : 64 ≤ 3 * k) (x : BitVec 64) : shB k (unB k x) = x := by
  unfold unB shB
  rw [BitVec.ushiftRight_xor_distrib, BitVec.ushiftRight_xor_distrib, ← BitVec.shiftRight_add, ← BitVec.shiftRight_add, show 2 * k + k = k + 2 * k by omega, far k h, show 2 * k = k + k by omega]
  generalize x >>> k = y
  generalize x >>> (k + k) = z
  rw [BitVec.xor_zero]
  ext i hi
  simp only [BitVec.getElem_xor]
  cases x[i] <;> cases y[i] <;> cases z[i] <;> rfl

def mixB (x : BitVec 64) : BitVec 64 := shB 31 (shB 27 (shB 30 x * 13787848793156543929#64) * 10723151780598845931#64)
def unmixB (x : BitVec 64) : BitVec 64 := unB 30 (unB 27 (unB 31 x * 3573116690164977347#64) * 10871156337175269513#64)

theorem mul_back (x c d : BitVec 64) (h : c * d = 1#64) : x * c * d = x := by
  rw [BitVec.mul_assoc, h, BitVec.mul_one]

theorem unmixB_mixB (x : BitVec 64) : unmixB (mixB x) = x := by
  unfold unmixB mixB
  rw [un_sh 31 (by omega), mul_back _ _ _ (by decide), un_sh 27 (by omega), mul_back _ _ _ (by decide), un_sh 30 (by omega)]

theorem mixB_unmixB (x : BitVec 64) : mixB (unmixB x) = x := by
  unfold unmixB mixB
  rw [sh_un 30 (by omega), mul_back _ _ _ (by decide), sh_un 27 (by omega), mul_back _ _ _ (by decide), sh_un 31 (by omega)]

theorem mixB_inj {x y : BitVec 64} (h : mixB x = mixB y) : x = y := by rw [← unmixB_mixB x, h, unmixB_mixB]

/-- an unsigned number of 64 bits, as the walk has it -/
def z64 (x : BitVec 64) : Int := (x.toNat : Int)

theorem wrap_z64 (n : Int) : IntKind.u64.wrap n = z64 (BitVec.ofInt 64 n) := by
  rw [IntKind.wrap_u64, z64, BitVec.toNat_ofInt]; simp; omega
theorem z64_ofInt (n : Int) (h0 : 0 ≤ n) (h1 : n < 18446744073709551616) : z64 (BitVec.ofInt 64 n) = n := by
  rw [z64, BitVec.toNat_ofInt]; simp; omega
theorem ofInt_z64 (x : BitVec 64) : BitVec.ofInt 64 (z64 x) = x := by
  apply BitVec.eq_of_toNat_eq; rw [z64, BitVec.toNat_ofInt]; have := x.isLt; simp; omega
theorem z64_lt (x : BitVec 64) : 0 ≤ z64 x ∧ z64 x < 18446744073709551616 := ⟨by unfold z64; omega, by have := x.isLt; unfold z64; omega⟩
theorem z64_inj {x y : BitVec 64} (h : z64 x = z64 y) : x = y := by rw [← ofInt_z64 x, h, ofInt_z64]

theorem div_z64 (x : BitVec 64) (k : Nat) (p : Int) (hp : p = ((2 ^ k : Nat) : Int)) : z64 x / p = z64 (x >>> k) := by
  subst hp
  rw [z64, z64, BitVec.toNat_ushiftRight, Nat.shiftRight_eq_div_pow, Int.natCast_ediv]
theorem xor_z64 (x y : BitVec 64) : bits .xor .u64 (z64 x) (z64 y) = z64 (x ^^^ y) := by
  rw [z64, z64, bits_xor_u64_nat _ _ (by have := x.isLt; omega) (by have := y.isLt; omega), z64, BitVec.toNat_xor]
theorem mul_z64 (x : BitVec 64) (c : Int) : IntKind.u64.wrap (z64 x * c) = z64 (x * BitVec.ofInt 64 c) := by
  rw [wrap_z64, BitVec.ofInt_mul, ofInt_z64]
theorem add_z64 (x : BitVec 64) (c : Int) : IntKind.u64.wrap (z64 x + c) = z64 (x + BitVec.ofInt 64 c) := by
  rw [wrap_z64, BitVec.ofInt_add, ofInt_z64]
theorem xsh_z64 (x : BitVec 64) (k : Nat) (p : Int) (hp : p = ((2 ^ k : Nat) : Int)) : bits .xor .u64 (z64 x) (z64 x / p) = z64 (shB k x) := by
  rw [div_z64 x k p hp, xor_z64]; rfl
theorem unx_z64 (x : BitVec 64) (k : Nat) (p q : Int) (hp : p = ((2 ^ k : Nat) : Int)) (hq : q = ((2 ^ (2 * k) : Nat) : Int)) :
    bits .xor .u64 (bits .xor .u64 (z64 x) (z64 x / p)) (z64 x / q) = z64 (unB k x) := by
  rw [div_z64 x k p hp, div_z64 x (2 * k) q hq, xor_z64, xor_z64]; rfl
/-- Go's own division, of a number that is not negative -/
theorem tdiv_z64 (x : BitVec 64) (p : Int) (h0 : 0 < p) : IntKind.u64.wrap ((z64 x).tdiv p) = z64 x / p := by
  have h := z64_lt x
  rw [Int.tdiv_eq_ediv_of_nonneg h.1, IntKind.wrap_u64]
  have h2 : 0 ≤ z64 x / p := Int.ediv_nonneg h.1 (by omega)
  have h3 : z64 x / p ≤ z64 x := Int.ediv_le_self _ h.1
  exact Int.emod_eq_of_lt h2 (by omega)
end Go.Proofs.Ytmaoaljohjkjeaa
