/- ChanceNumbers: for every input the law returns true and leaves its arguments as they were. No conditions. (The frame was written by the kit's proof-skeleton.mjs; the walk is ours.) -/
import Derived.Test.YtmaoaljohjkjeaaRows
import Derived.WalkKit
import Derived.ProofKit
import Derived.OpenShut
import Derived.Test.YtmaoaljohjkjeaaMix
namespace Go.Proofs.Ytmaoaljohjkjeaa.chanceNumbers
open Go.ChangeShapes Go.WideShapes Go.ChangeAt Go.RowKit
set_option linter.unusedVariables false      -- a walk need not use every 'w<i>' (that an integer argument fits its kind)

theorem own : ownKnob Try.prog.godebug = none := by kernel_rfl

/-! the walk -/
/-- how many of the first draws are below a half; their sum -/
def dN (k : Nat) : Int := drawZ 7 (k / 16 : Nat) (k % 16 : Nat) 0
def lowN : Nat → Int
  | 0 => 0
  | k + 1 => lowN k + if dN k < 2147483648 then 1 else 0
def sumN : Nat → Int
  | 0 => 0
  | k + 1 => sumN k + dN k / 1024

theorem lowN_in (k : Nat) : 0 ≤ lowN k ∧ lowN k ≤ k := by
  induction k with
  | zero => exact ⟨Int.le_refl _, Int.le_refl _⟩
  | succ k ih => unfold lowN; split <;> omega
theorem sumN_in (k : Nat) : 0 ≤ sumN k ∧ sumN k ≤ k * 4194304 := by
  induction k with
  | zero => exact ⟨Int.le_refl _, Int.le_refl _⟩
  | succ k ih =>
    have := drawZ_in 7 (k / 16 : Nat) (k % 16 : Nat) 0
    unfold sumN dN; omega
theorem low_all : lowN 1024 = 520 := by decide +kernel
theorem sum_all : sumN 1024 = 2170379258 := by decide +kernel
theorem dN_at (p s : Nat) (hs : s < 16) : drawZ 7 p s 0 = dN (16 * p + s) := by
  unfold dN
  rw [show (16 * p + s) / 16 = p by omega, show (16 * p + s) % 16 = s by omega]

/-- behind k draws: how many were below a half, and their sum -/
structure Told (k : Nat) (lo su : Int) : Prop where
  low : lo = lowN k
  sum : su = sumN k
theorem Told.bounds {k : Nat} {lo su : Int} (h : Told k lo su) : 0 ≤ lo ∧ lo ≤ k ∧ 0 ≤ su ∧ su ≤ k * 4194304 := by
  obtain ⟨rfl, rfl⟩ := h
  have := lowN_in k
  have := sumN_in k
  omega
theorem Told.less {k : Nat} {lo su d : Int} (h : Told k lo su) (hd : d = dN k) (hh : d < 2147483648) : Told (k + 1) (lo + 1) (su + d / 1024) := by
  obtain ⟨rfl, rfl⟩ := h
  subst hd
  exact ⟨by rw [lowN, if_pos hh], rfl⟩
theorem Told.more {k : Nat} {lo su d : Int} (h : Told k lo su) (hd : d = dN k) (hh : ¬ d < 2147483648) : Told (k + 1) lo (su + d / 1024) := by
  obtain ⟨rfl, rfl⟩ := h
  subst hd
  exact ⟨by rw [lowN, if_neg hh, Int.add_zero], rfl⟩
/-- one draw of the loop, its number behind a name -/
theorem draw_one (p s : Nat) (hs : s < 16) : ∃ d : Int, d = dN (16 * p + s) ∧ 0 ≤ d ∧ d < 4294967296 ∧ ∀ w, Calls Try.prog 12 #[.int .u64 7, .int .i64 p, .int .i64 s, .int .i64 0] w fun e w' => e = .returned (.int .i64 d) ∧ Below w.heap.size w w' :=
  ⟨drawZ 7 p s 0, dN_at p s hs, (drawZ_in _ _ _ _).1, (drawZ_in _ _ _ _).2, fun w => draw_any 7 p s 0 w⟩
/-- the draws at the edges, their numbers behind a name -/
theorem draw_edge : ∃ a b : Int, a = b ∧ (∀ w, Calls Try.prog 12 #[.int .u64 18446744073709551615, .int .i64 (-1), .int .i64 (-9223372036854775808), .int .i64 9223372036854775807] w fun e w' => e = .returned (.int .i64 a) ∧ Below w.heap.size w w') ∧
    ∀ w, Calls Try.prog 13 #[.int .u64 18446744073709551615, .int .i64 (-1), .int .i64 (-9223372036854775808), .int .i64 9223372036854775807] w fun e w' => e = .returned (.int .i64 b) ∧ w = w' :=
  ⟨_, _, by rw [drawZ_eq, refDrawZ_eq], fun w => draw_any _ _ _ _ w, fun w => refDraw_any _ _ _ _ w⟩

set_option maxHeartbeats 1000000 in
theorem walk  (w : World) :
    Calls Try.prog 3 #[] w fun e w' => e = .returned (.bool true) ∧ Below w.heap.size w w' := by
  go_enter Try.func3, Try.ntmps3
  go_wp2_with fail
  go_loopw [1, 2, 3, 4, 5] (fun low sum pv _ _ wr => ∃ (p : Nat) (lo su : Int), p ≤ 64 ∧ pv = .int .i64 p ∧ low = .int .i64 lo ∧ sum = .int .i64 su ∧ Told (16 * p) lo su ∧ Below w.heap.size w wr) (fun _ _ pv _ _ _ => 64 - (intOf pv).toNat)
  case atStart => exact ⟨0, 0, 0, by omega, rfl, rfl, rfl, ⟨rfl, rfl⟩, Below.refl _ _⟩
  case round =>
    obtain ⟨p, lo0, su0, hp, rfl, rfl, rfl, ht, hb⟩ := hrel
    obtain ⟨wo, rfl⟩ : ∃ wo : World, wo = wr := ⟨_, rfl⟩
    by_cases hlt : p < 64
    · have hp' : decide ((p : Int) < 64) = true := by simp; omega
      go_wp2_with fail
      go_loopw [1, 2, 4, 5] (fun low sum sv _ wr => ∃ (s : Nat) (lo su : Int), s ≤ 16 ∧ sv = .int .i64 s ∧ low = .int .i64 lo ∧ sum = .int .i64 su ∧ Told (16 * p + s) lo su ∧ Below w.heap.size w wr) (fun _ _ sv _ _ => 16 - (intOf sv).toNat)
      case atStart => exact ⟨0, _, _, by omega, rfl, rfl, rfl, ht, hb⟩
      case round =>
        obtain ⟨s, lo, su, hs, rfl, rfl, rfl, ht2, hb2⟩ := hrel
        obtain ⟨b1, b2, b3, b4⟩ := ht2.bounds
        by_cases hlt2 : s < 16
        · obtain ⟨d, hd, d0, d1, C⟩ := draw_one p s hlt2
          have HD := Lib.hid hd
          have HC := Lib.hid C
          clear hd C
          by_cases hh : d < 2147483648
          · go_wp2_with (go_at_call 12; refine (HC.out _).mono ?_; rintro e w' ⟨rfl, hb3⟩)
            go_roundw
            case rel => exact ⟨s + 1, _, _, by omega, by go_num, rfl, rfl, ht2.less HD.out hh, hb2.trans (hb3.mono hb2.size)⟩
            case measure => simp [intOf]; omega
          · go_wp2_with (go_at_call 12; refine (HC.out _).mono ?_; rintro e w' ⟨rfl, hb3⟩)
            go_roundw
            case rel => exact ⟨s + 1, _, _, by omega, by go_num, rfl, rfl, ht2.more HD.out (by omega), hb2.trans (hb3.mono hb2.size)⟩
            case measure => simp [intOf]; omega
        · obtain rfl : s = 16 := by omega
          go_wp2_with fail
          go_roundw
          case rel => exact ⟨p + 1, _, _, by omega, by go_num, rfl, rfl, ht2, hb2⟩
          case measure => simp [intOf]; omega
    · obtain rfl : p = 64 := by omega
      obtain ⟨a, b, hab, C1, C2⟩ := draw_edge
      subst hab
      have H1 := Lib.hid C1
      have H2 := Lib.hid C2
      clear C1 C2
      have hl : lo0 = 520 := ht.low.trans low_all
      have hs : su0 = 2170379258 := ht.sum.trans sum_all
      subst hl hs
      go_wp2_with (first | (go_at_call 12; refine (H1.out _).mono ?_; rintro e w' ⟨rfl, hb3⟩) | (go_at_call 13; refine (H2.out _).mono ?_; rintro e w' ⟨rfl, rfl⟩) | (go_at_call 14; refine (awake_any _).mono ?_; rintro e w' ⟨rfl, hb4⟩))
      go_ret
      exact ⟨rfl, hb.trans ((bthen (by assumption) (by assumption)).mono hb.size)⟩

/-! the row -/
set_option maxRecDepth 100000 in
theorem lifted (os : Os) (started : os.Started) (H : Type) (enc : TypeId × Value → H) :
    ReturnsInHanded {} Try.checked os 3 .any (Rows.chanceNumbersSpec.pre6 enc Try.prog Try.f3 Rows.chanceNumbersRow.domain false) (Rows.chanceNumbersSpec.post enc Try.prog Try.f3 false true false false) := by
  refine returnsInHanded_of_change (C := Try.checked) own started (by kernel_rfl) Try.func3
    (ChangeSpec.witness6 (enc := enc) (C := Try.checked) false ⟨#[], #[], []⟩ 8 (by kernel_rfl) (by kernel_rfl) (by kernel_rfl) (by kernel_rfl)) ?_
  intro W base args ds gs before hval0 hW hcnd _
  have hval : ∀ (j : Nat) t v, Try.f3.params[j]? = some t → args[j]? = some v → Value.okWide Try.prog W .any base t v := hval0
  have hW' := hW
  obtain ⟨p, q, hA0, hV, rfl, hfz, hnd⟩ := hW
  have hA : DataW.TrodAll enc Try.prog W 0 (fun _ => true) true Try.f3.params.toList args.toList ds p := hA0
  rw [Try.params3] at hA hval
  obtain ⟨rfl, rfl, rfl⟩ := trodAll_none hA
  obtain ⟨rfl, rfl⟩ := trodVars_none hV
  clear hA0 hval0
  simp only [List.append_nil] at hW'
  refine (walk  W).mono fun e W' ⟨he, hg⟩ => ?_
  subst he
  exact ⟨_, rfl, _, _, _, [], [], [], hW', (trodAll_cons_mk (shut_bool Try.underlying4 _) trodAll_mk0), rfl, rfl, hg.frame _, fun h => by cases h⟩

theorem over : Rows.chanceNumbersRow.holds Try.pinned (OpenSpec.ofChange Rows.chanceNumbersSpec) :=
  OpenClaim.holds_of_wide 3 Try.f3 rfl rfl rfl rfl rfl rfl rfl ⟨rfl, rfl, rfl, rfl, rfl⟩ rfl rfl rfl rfl rfl (by kernel_rfl) Try.func3 (by kernel_rfl)
    (of_decide_eq_true (by kernel_rfl)) (by unfold Func.isWrapper; first | (rw [if_pos (by decide +kernel)]; kernel_rfl) | (rw [if_neg (by decide +kernel)]; exact ⟨rfl, rfl⟩))
    (fun os started H enc _ => lifted os started H enc)

/-- the statement -/
theorem proved : Rows.ChanceNumbersSaid :=
  over
#print axioms proved
end Go.Proofs.Ytmaoaljohjkjeaa.chanceNumbers
