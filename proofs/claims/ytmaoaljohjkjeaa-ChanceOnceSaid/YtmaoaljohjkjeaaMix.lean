/- Contracts of chance.Mix, mixed, Draw, of the reference and of the laws own helpers: what each call answers, in the numbers of the walk; then the same as functions of BitVec 64. No conditions but that integers fit their kinds. -/
import Derived.Test.YtmaoaljohjkjeaaRows
import Derived.WalkKit
import Derived.ProofKit
import Derived.OpenShut
import Derived.WalkSpells
import Derived.WalkLawsBesides
import Derived.Lib.Hide
import Derived.Test.YtmaoaljohjkjeaaMixPlain
namespace Go.Proofs.Ytmaoaljohjkjeaa
open Go.ChangeShapes Go.WideShapes Go.ChangeAt Go.RowKit

/-- chance.Mix as the walk has it -/
def mixZ (x : Int) : Int :=
  let a := IntKind.u64.wrap (bits BinOp.xor IntKind.u64 x (x / 1073741824) * 13787848793156543929)
  let b := IntKind.u64.wrap (bits BinOp.xor IntKind.u64 a (a / 134217728) * 10723151780598845931)
  bits BinOp.xor IntKind.u64 b (b / 2147483648)

theorem mix_any (x : Int) (w : World) : Calls Try.prog 16 #[.int .u64 x] w fun e w' => e = .returned (.int .u64 (mixZ x)) ∧ w = w' := by
  go_enter Try.func16, Try.ntmps16
  go_wp2
  go_ret
  exact ⟨rfl, rfl⟩

/-- lightwellref03.Mix as the walk has it -/
def refMixZ (x : Int) : Int :=
  let a := IntKind.u64.wrap (bits BinOp.xor IntKind.u64 x (IntKind.u64.wrap (x.tdiv 1073741824)) * 13787848793156543929)
  let b := IntKind.u64.wrap (bits BinOp.xor IntKind.u64 a (IntKind.u64.wrap (a.tdiv 134217728)) * 10723151780598845931)
  bits BinOp.xor IntKind.u64 b (IntKind.u64.wrap (b.tdiv 2147483648))

theorem refMix_any (x : Int) (w : World) : Calls Try.prog 28 #[.int .u64 x] w fun e w' => e = .returned (.int .u64 (refMixZ x)) ∧ w = w' := by
  go_enter Try.func28, Try.ntmps28
  go_wp2
  go_ret
  exact ⟨rfl, rfl⟩

/-- the law's unmix as the walk has it -/
def unmixZ (x : Int) : Int :=
  let a := bits BinOp.xor IntKind.u64 (bits BinOp.xor IntKind.u64 x (x / 2147483648)) (x / 4611686018427387904)
  let b := IntKind.u64.wrap (a * 3573116690164977347)
  let c := bits BinOp.xor IntKind.u64 (bits BinOp.xor IntKind.u64 b (b / 134217728)) (b / 18014398509481984)
  let d := IntKind.u64.wrap (c * 10871156337175269513)
  bits BinOp.xor IntKind.u64 (bits BinOp.xor IntKind.u64 d (d / 1073741824)) (d / 1152921504606846976)

theorem unmix_any (x : Int) (w : World) : Calls Try.prog 15 #[.int .u64 x] w fun e w' => e = .returned (.int .u64 (unmixZ x)) ∧ w = w' := by
  go_enter Try.func15, Try.ntmps15
  go_wp2
  go_ret
  exact ⟨rfl, rfl⟩

/-- one number mixed in -/
def stepZ (x n : Int) : Int := mixZ (IntKind.u64.wrap (IntKind.u64.wrap (x + IntKind.u64.wrap n) + 11400714819323198485))

theorem take_succ_getD (zs : List Int) (k : Nat) (h : k < zs.length) : zs.take (k + 1) = zs.take k ++ [zs.getD k 0] := by
  rw [List.take_succ_eq_append_getElem h]; simp [h]

theorem mixed_any (x : Int) (zs : List Int) (b off cap : Nat) (w : World) (hlen : zs.length < 4611686018427387904)
    (hc : ∀ i, i < zs.length → w.cell? ⟨b, off + i, none⟩ = some (.int .i64 (zs.getD i 0))) :
    Calls Try.prog 27 #[.int .u64 x, .slice (some ⟨b, off, none⟩) zs.length cap] w fun e w' => e = .returned (.int .u64 (zs.foldl stepZ x)) ∧ w = w' := by
  have HC := Lib.hid hc
  clear hc
  go_enter Try.func27, Try.ntmps27
  go_wp2_with fail
  go_loop [0, 9] (fun v i => ∃ k : Nat, k ≤ zs.length ∧ i = .int .i64 k ∧ v = .int .u64 ((zs.take k).foldl stepZ x)) (fun _ i => zs.length - (intOf i).toNat)
  case atStart => exact ⟨0, Nat.zero_le _, rfl, rfl⟩
  case round =>
    obtain ⟨k, hk, rfl, rfl⟩ := hrel
    by_cases hlt : k < zs.length
    · have hcell := HC.out k hlt
      have hs : (zs.take (k + 1)).foldl stepZ x = stepZ ((zs.take k).foldl stepZ x) (zs.getD k 0) := by rw [take_succ_getD zs k hlt, List.foldl_append]; rfl
      generalize zs.getD k 0 = n at hcell hs
      have HS := Lib.hid hs
      clear hs
      go_wp2_with (go_at_call 16; refine (mix_any _ _).mono ?_; rintro e w' ⟨rfl, rfl⟩)
      go_round
      case rel => exact ⟨k + 1, by omega, by go_num, by rw [HS.out]; rfl⟩
      case measure => simp [intOf]; omega
    · obtain rfl : k = zs.length := by omega
      go_wp2_with fail
      go_ret
      exact ⟨rfl, rfl⟩

/-- three numbers in a new block: how each reads -/
theorem cells3 (p s d : Int) (w : World) : ∀ i, i < [p, s, d].length → (w.alloc (.cells #[.int .i64 p, .int .i64 s, .int .i64 d] 3)).cell? ⟨w.heap.size, 0 + i, none⟩ = some (.int .i64 ([p, s, d].getD i 0)) := by
  intro i hi
  match i, hi with
  | 0, _ => simp [go_sem]
  | 1, _ => simp [go_sem]
  | 2, _ => simp [go_sem]

theorem mixed3 (x p s d : Int) (w : World) : Calls Try.prog 27 #[.int .u64 x, .slice (some ⟨w.heap.size, 0, none⟩) 3 3] (w.alloc (.cells #[.int .i64 p, .int .i64 s, .int .i64 d] 3)) fun e w' => e = .returned (.int .u64 ([p, s, d].foldl stepZ x)) ∧ w.alloc (.cells #[.int .i64 p, .int .i64 s, .int .i64 d] 3) = w' :=
  mixed_any x [p, s, d] w.heap.size 0 3 _ (by simp) (cells3 p s d w)

/-- the upper half of a number, as an int64 -/
def halfZ (x : Int) : Int := wrap64 (x / 4294967296)

def drawZ (seed p s d : Int) : Int := halfZ ([p, s, d].foldl stepZ (mixZ (IntKind.u64.wrap (seed + 11400714819323198485))))

theorem draw_any (seed p s d : Int) (w : World) : Calls Try.prog 12 #[.int .u64 seed, .int .i64 p, .int .i64 s, .int .i64 d] w fun e w' => e = .returned (.int .i64 (drawZ seed p s d)) ∧ Below w.heap.size w w' := by
  go_enter Try.func12, Try.ntmps12
  go_wp2_with (first | (go_at_call 16; refine (mix_any _ _).mono ?_; rintro e w' ⟨rfl, rfl⟩) | (go_at_call 27; refine (mixed3 _ _ _ _ _).mono ?_; rintro e w' ⟨rfl, rfl⟩))
  go_ret
  exact ⟨rfl, (Below.refl _ _).alloc (Nat.le_refl _) _⟩

/-- lightwellref03.Draw as the walk has it -/
def refStepZ (x n : Int) : Int := refMixZ (IntKind.u64.wrap (IntKind.u64.wrap (x + IntKind.u64.wrap n) + 11400714819323198485))
def refDrawZ (seed p s d : Int) : Int := wrap64 (IntKind.u64.wrap (([p, s, d].foldl refStepZ (refMixZ (IntKind.u64.wrap (seed + 11400714819323198485)))).tdiv 4294967296))

theorem refDraw_any (seed p s d : Int) (w : World) : Calls Try.prog 13 #[.int .u64 seed, .int .i64 p, .int .i64 s, .int .i64 d] w fun e w' => e = .returned (.int .i64 (refDrawZ seed p s d)) ∧ w = w' := by
  go_enter Try.func13, Try.ntmps13
  go_wp2_with (first | (go_at_call 28; refine (refMix_any _ _).mono ?_; rintro e w' ⟨rfl, rfl⟩))
  go_ret
  exact ⟨rfl, rfl⟩

/-- the law's last: the last Mix of a draw -/
def lastZ (seed p s d : Int) : Int := [p, s, d].foldl stepZ (mixZ (IntKind.u64.wrap (seed + 11400714819323198485)))

theorem last_any (seed : Int) (zs : List Int) (b off cap : Nat) (w : World) (hlen : zs.length < 4611686018427387904)
    (hc : ∀ i, i < zs.length → w.cell? ⟨b, off + i, none⟩ = some (.int .i64 (zs.getD i 0))) :
    Calls Try.prog 17 #[.int .u64 seed, .slice (some ⟨b, off, none⟩) zs.length cap] w fun e w' => e = .returned (.int .u64 (zs.foldl stepZ (mixZ (IntKind.u64.wrap (seed + 11400714819323198485))))) ∧ w = w' := by
  have HC := Lib.hid hc
  clear hc
  go_enter Try.func17, Try.ntmps17
  go_wp2_with (go_at_call 16; refine (mix_any _ _).mono ?_; rintro e w' ⟨rfl, rfl⟩)
  generalize hx : mixZ (IntKind.u64.wrap (seed + 11400714819323198485)) = x
  have HX := Lib.hid hx
  clear hx
  go_loop [5, 13] (fun v i => ∃ k : Nat, k ≤ zs.length ∧ i = .int .i64 k ∧ v = .int .u64 ((zs.take k).foldl stepZ x)) (fun _ i => zs.length - (intOf i).toNat)
  case atStart => exact ⟨0, Nat.zero_le _, rfl, rfl⟩
  case round =>
    obtain ⟨k, hk, rfl, rfl⟩ := hrel
    by_cases hlt : k < zs.length
    · have hcell := HC.out k hlt
      have hs : (zs.take (k + 1)).foldl stepZ x = stepZ ((zs.take k).foldl stepZ x) (zs.getD k 0) := by rw [take_succ_getD zs k hlt, List.foldl_append]; rfl
      generalize zs.getD k 0 = n at hcell hs
      have HS := Lib.hid hs
      clear hs
      go_wp2_with (go_at_call 16; refine (mix_any _ _).mono ?_; rintro e w' ⟨rfl, rfl⟩)
      go_round
      case rel => exact ⟨k + 1, by omega, by go_num, by rw [HS.out]; rfl⟩
      case measure => simp [intOf]; omega
    · obtain rfl : k = zs.length := by omega
      go_wp2_with fail
      go_ret
      exact ⟨by rw [HX.out]; rfl, rfl⟩

theorem last3 (seed p s d : Int) (B : Nat) (w : World) (hB : B = w.heap.size) : Calls Try.prog 17 #[.int .u64 seed, .slice (some ⟨B, 0, none⟩) 3 3] (w.alloc (.cells #[.int .i64 p, .int .i64 s, .int .i64 d] 3)) fun e w' => e = .returned (.int .u64 (lastZ seed p s d)) ∧ w.alloc (.cells #[.int .i64 p, .int .i64 s, .int .i64 d] 3) = w' := by
  subst hB
  exact last_any seed [p, s, d] w.heap.size 0 3 _ (by simp) (cells3 p s d w)

/-! ### the laws -/
/-- one call behind another -/
theorem bthen {a b c : World} (h : Below a.heap.size a b) (k : Below b.heap.size b c) : Below a.heap.size a c := h.trans (k.mono h.size)

/-- one new block -/
theorem balloc (w : World) (o : Obj) : Below w.heap.size w (w.alloc o) := (Below.refl _ _).alloc (Nat.le_refl _) _

theorem awake_any (w : World) : Calls Try.prog 14 #[] w fun e w' => e = .returned (.bool true) ∧ Below w.heap.size w w' := by
  have h0 : (mixZ 0 == 0) = true := by decide +kernel
  have h1 : (mixZ 1 == 6238072747940578789) = true := by decide +kernel
  have h2 : (drawZ 1 2 3 4 == refDrawZ 1 2 3 4) = true := by decide +kernel
  have h3 : (drawZ 1 2 3 4 != 0) = true := by decide +kernel
  go_enter Try.func14, Try.ntmps14
  go_wp2_with (first | (go_at_call 16; refine (mix_any _ _).mono ?_; rintro e w' ⟨rfl, rfl⟩) | (go_at_call 12; refine (draw_any _ _ _ _ _).mono ?_; rintro e w' ⟨rfl, hb⟩) | (go_at_call 13; refine (refDraw_any _ _ _ _ _).mono ?_; rintro e w' ⟨rfl, rfl⟩))
  go_ret
  exact ⟨rfl, bthen (by assumption) (by assumption)⟩

theorem mixZ_z64 (x : BitVec 64) : mixZ (z64 x) = z64 (mixB x) := by
  unfold mixZ mixB
  simp only [xsh_z64 _ 30 1073741824 (by decide), xsh_z64 _ 27 134217728 (by decide), xsh_z64 _ 31 2147483648 (by decide), mul_z64]
  rfl

theorem refMixZ_z64 (x : BitVec 64) : refMixZ (z64 x) = z64 (mixB x) := by
  unfold refMixZ mixB
  simp only [tdiv_z64 _ 1073741824 (by decide), tdiv_z64 _ 134217728 (by decide), tdiv_z64 _ 2147483648 (by decide), xsh_z64 _ 30 1073741824 (by decide), xsh_z64 _ 27 134217728 (by decide), xsh_z64 _ 31 2147483648 (by decide), mul_z64]
  rfl

theorem unmixZ_z64 (x : BitVec 64) : unmixZ (z64 x) = z64 (unmixB x) := by
  unfold unmixZ unmixB
  simp only [unx_z64 _ 30 1073741824 1152921504606846976 (by decide) (by decide), unx_z64 _ 27 134217728 18014398509481984 (by decide) (by decide), unx_z64 _ 31 2147483648 4611686018427387904 (by decide) (by decide), mul_z64]
  rfl

/-- one number mixed in -/
def stepB (x : BitVec 64) (n : Int) : BitVec 64 := mixB (x + BitVec.ofInt 64 n + 11400714819323198485#64)
def lastB (seed p s d : Int) : BitVec 64 := stepB (stepB (stepB (mixB (BitVec.ofInt 64 seed + 11400714819323198485#64)) p) s) d

theorem stepZ_z64 (x : BitVec 64) (n : Int) : stepZ (z64 x) n = z64 (stepB x n) := by
  unfold stepZ stepB
  rw [wrap_z64 n, wrap_z64 (z64 x + _), BitVec.ofInt_add, ofInt_z64, ofInt_z64, add_z64, mixZ_z64]
  rfl

theorem refStepZ_z64 (x : BitVec 64) (n : Int) : refStepZ (z64 x) n = z64 (stepB x n) := by
  unfold refStepZ stepB
  rw [wrap_z64 n, wrap_z64 (z64 x + _), BitVec.ofInt_add, ofInt_z64, ofInt_z64, add_z64, refMixZ_z64]
  rfl

theorem lastZ_eq (seed p s d : Int) : lastZ seed p s d = z64 (lastB seed p s d) := by
  unfold lastZ lastB
  simp only [List.foldl_cons, List.foldl_nil]
  rw [wrap_z64, BitVec.ofInt_add, mixZ_z64, stepZ_z64, stepZ_z64, stepZ_z64]
  rfl

theorem drawZ_eq (seed p s d : Int) : drawZ seed p s d = halfZ (z64 (lastB seed p s d)) := by
  rw [← lastZ_eq]; rfl

theorem refDrawZ_eq (seed p s d : Int) : refDrawZ seed p s d = halfZ (z64 (lastB seed p s d)) := by
  unfold refDrawZ halfZ lastB
  simp only [List.foldl_cons, List.foldl_nil]
  rw [wrap_z64 (seed + _), BitVec.ofInt_add, refMixZ_z64, refStepZ_z64, refStepZ_z64, refStepZ_z64, tdiv_z64 _ _ (by decide)]
  rfl

theorem halfZ_in (x : BitVec 64) : 0 ≤ halfZ (z64 x) ∧ halfZ (z64 x) < 4294967296 := by
  have := z64_lt x
  unfold halfZ wrap64
  omega

theorem drawZ_in (seed p s d : Int) : 0 ≤ drawZ seed p s d ∧ drawZ seed p s d < 4294967296 := by
  rw [drawZ_eq]; exact halfZ_in _

theorem wf_u64 {n : Int} (h : (Lit.int .u64 n).wf = true) : 0 ≤ n ∧ n < 18446744073709551616 := by
  simp [Lit.wf, IntKind.min, IntKind.max, IntKind.signed, IntKind.bits] at h
  omega

theorem wf_i64 {n : Int} (h : (Lit.int .i64 n).wf = true) : -9223372036854775808 ≤ n ∧ n < 9223372036854775808 := by
  simp [Lit.wf, IntKind.min, IntKind.max, IntKind.signed, IntKind.bits] at h
  omega

/-- as numbers modulo 2 to the 64th two int64 are the same only if they are -/
theorem ofInt_inj64 {a b : Int} (ha : -9223372036854775808 ≤ a ∧ a < 9223372036854775808) (hb : -9223372036854775808 ≤ b ∧ b < 9223372036854775808)
    (h : BitVec.ofInt 64 a = BitVec.ofInt 64 b) : a = b := by
  have h2 := congrArg BitVec.toInt h
  rw [BitVec.toInt_ofInt, BitVec.toInt_ofInt] at h2
  simp [Int.bmod] at h2
  omega

theorem add_inj {x y c : BitVec 64} (h : x + c = y + c) : x = y := by
  have := congrArg (· - c) h
  simpa using this

theorem stepB_left {x y : BitVec 64} {n : Int} (h : stepB x n = stepB y n) : x = y :=
  add_inj (add_inj (mixB_inj h))
theorem stepB_right {x : BitVec 64} {m n : Int} (h : stepB x m = stepB x n) : BitVec.ofInt 64 m = BitVec.ofInt 64 n := by
  have h2 := add_inj (mixB_inj h)
  rw [BitVec.add_comm, BitVec.add_comm x] at h2
  exact add_inj h2
theorem start_inj {a b : Int} (h : mixB (BitVec.ofInt 64 a + 11400714819323198485#64) = mixB (BitVec.ofInt 64 b + 11400714819323198485#64)) : BitVec.ofInt 64 a = BitVec.ofInt 64 b :=
  add_inj (mixB_inj h)

theorem last_seed {a b p s d : Int} (ha : 0 ≤ a ∧ a < 18446744073709551616) (hb : 0 ≤ b ∧ b < 18446744073709551616) (h : lastZ a p s d = lastZ b p s d) : a = b := by
  rw [lastZ_eq, lastZ_eq] at h
  have h2 := start_inj (stepB_left (stepB_left (stepB_left (z64_inj h))))
  rw [← z64_ofInt a ha.1 ha.2, h2, z64_ofInt b hb.1 hb.2]
theorem last_p {seed a b s d : Int} (ha : -9223372036854775808 ≤ a ∧ a < 9223372036854775808) (hb : -9223372036854775808 ≤ b ∧ b < 9223372036854775808) (h : lastZ seed a s d = lastZ seed b s d) : a = b := by
  rw [lastZ_eq, lastZ_eq] at h
  exact ofInt_inj64 ha hb (stepB_right (stepB_left (stepB_left (z64_inj h))))
theorem last_s {seed p a b d : Int} (ha : -9223372036854775808 ≤ a ∧ a < 9223372036854775808) (hb : -9223372036854775808 ≤ b ∧ b < 9223372036854775808) (h : lastZ seed p a d = lastZ seed p b d) : a = b := by
  rw [lastZ_eq, lastZ_eq] at h
  exact ofInt_inj64 ha hb (stepB_right (stepB_left (z64_inj h)))
theorem last_d {seed p s a b : Int} (ha : -9223372036854775808 ≤ a ∧ a < 9223372036854775808) (hb : -9223372036854775808 ≤ b ∧ b < 9223372036854775808) (h : lastZ seed p s a = lastZ seed p s b) : a = b := by
  rw [lastZ_eq, lastZ_eq] at h
  exact ofInt_inj64 ha hb (stepB_right (z64_inj h))

/-- a test, and what it says where it holds -/
theorem test_of {α : Type} [DecidableEq α] {a b : α} {x y : Int} (h : x = y → a = b) : (a != b) = false ∨ ((a != b) = true ∧ (x == y) = false) := by
  by_cases e : a = b
  · exact .inl (by simp [e])
  · exact .inr ⟨by simp [e], by simp; exact fun k => e (h k)⟩
end Go.Proofs.Ytmaoaljohjkjeaa
