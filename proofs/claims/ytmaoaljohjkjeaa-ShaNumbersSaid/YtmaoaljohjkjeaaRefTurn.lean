/- The contracts of the document's turn, S0, S1, s0, s1, over Nat. Condition: the number is below 2 to the 32nd. -/
import Derived.Test.YtmaoaljohjkjeaaNatBlock
import Derived.Test.YtmaoaljohjkjeaaBlock
namespace Go.Proofs.Ytmaoaljohjkjeaa
open Go.ChangeShapes Go.WideShapes Go.ChangeAt Go.RowKit

theorem turnref (x n : Nat) (hx : x < 4294967296) (h0 : 1 ≤ n) (h1 : n ≤ 31) (w : World) : Calls Try.prog 50 #[.int .u32 (x : Int), .int .u32 (n : Int)] w fun e w' => e = .returned (.int .u32 (rotN x n : Nat)) ∧ w = w' := by
  have hr := rotN_or x n hx h0 h1
  have HR : Keep _ := ⟨hr⟩
  clear hr
  go_enter Try.func50, Try.ntmps50
  go_wp2
  go_ret
  refine ⟨?_, rfl⟩
  have hd : x / 2 ^ n < 4294967296 := Nat.lt_of_le_of_lt (Nat.div_le_self _ _) hx
  have hor := u32_or_nat (x / 2 ^ n) (x * 2 ^ (32 - n) % 4294967296) hd (Nat.mod_lt _ (by decide))
  rw [HR.out, Nat.or_comm, ← hor]
  show Ending.returned (Value.int IntKind.u32 _) = _
  congr 2

theorem s1ref_any (x : Nat) (hx : x < 4294967296) (w : World) : Calls Try.prog 42 #[.int .u32 (x : Int)] w fun e w' => e = .returned (.int .u32 (s1N x : Nat)) ∧ w = w' := by
  have T1 : Keep _ := ⟨fun w => turnref x 17 hx (by decide) (by decide) w⟩
  have T2 : Keep _ := ⟨fun w => turnref x 19 hx (by decide) (by decide) w⟩
  have e1 : Keep _ := ⟨u32_xor_nat (rotN x 17) (rotN x 19) (rotN_lt _ _) (rotN_lt _ _)⟩
  have e2 : Keep _ := ⟨u32_xor_nat (rotN x 17 ^^^ rotN x 19) (x / 1024) (xor_lt (rotN_lt _ _) (rotN_lt _ _)) (by omega)⟩
  have e3 : Keep ((x : Int) / 1024 = ((x / 1024 : Nat) : Int)) := ⟨by omega⟩
  have hd : Keep (s1N x = rotN x 17 ^^^ rotN x 19 ^^^ x / 1024) := ⟨rfl⟩
  rw [hd.out, ← e2.out, ← e1.out]
  clear e1 e2 hd
  generalize rotN x 17 = p at T1 ⊢
  generalize rotN x 19 = q at T2 ⊢
  go_enter Try.func42, Try.ntmps42
  go_wp2_with fail
  refine (T1.out _).mono ?_
  rintro e1 w1 ⟨rfl, rfl⟩
  go_wp2_with fail
  refine (T2.out _).mono ?_
  rintro e1 w1 ⟨rfl, rfl⟩
  go_wp2_with fail
  go_ret
  exact ⟨by rw [← e3.out]; rfl, rfl⟩

theorem s0ref_any (x : Nat) (hx : x < 4294967296) (w : World) : Calls Try.prog 43 #[.int .u32 (x : Int)] w fun e w' => e = .returned (.int .u32 (s0N x : Nat)) ∧ w = w' := by
  have T1 : Keep _ := ⟨fun w => turnref x 7 hx (by decide) (by decide) w⟩
  have T2 : Keep _ := ⟨fun w => turnref x 18 hx (by decide) (by decide) w⟩
  have e1 : Keep _ := ⟨u32_xor_nat (rotN x 7) (rotN x 18) (rotN_lt _ _) (rotN_lt _ _)⟩
  have e2 : Keep _ := ⟨u32_xor_nat (rotN x 7 ^^^ rotN x 18) (x / 8) (xor_lt (rotN_lt _ _) (rotN_lt _ _)) (by omega)⟩
  have e3 : Keep ((x : Int) / 8 = ((x / 8 : Nat) : Int)) := ⟨by omega⟩
  have hd : Keep (s0N x = rotN x 7 ^^^ rotN x 18 ^^^ x / 8) := ⟨rfl⟩
  rw [hd.out, ← e2.out, ← e1.out]
  clear e1 e2 hd
  generalize rotN x 7 = p at T1 ⊢
  generalize rotN x 18 = q at T2 ⊢
  go_enter Try.func43, Try.ntmps43
  go_wp2_with fail
  refine (T1.out _).mono ?_
  rintro e1 w1 ⟨rfl, rfl⟩
  go_wp2_with fail
  refine (T2.out _).mono ?_
  rintro e1 w1 ⟨rfl, rfl⟩
  go_wp2_with fail
  go_ret
  exact ⟨by rw [← e3.out]; rfl, rfl⟩

theorem bS1ref_any (x : Nat) (hx : x < 4294967296) (w : World) : Calls Try.prog 44 #[.int .u32 (x : Int)] w fun e w' => e = .returned (.int .u32 (bS1N x : Nat)) ∧ w = w' := by
  have T1 : Keep _ := ⟨fun w => turnref x 6 hx (by decide) (by decide) w⟩
  have T2 : Keep _ := ⟨fun w => turnref x 11 hx (by decide) (by decide) w⟩
  have T3 : Keep _ := ⟨fun w => turnref x 25 hx (by decide) (by decide) w⟩
  have e1 : Keep _ := ⟨u32_xor_nat (rotN x 6) (rotN x 11) (rotN_lt _ _) (rotN_lt _ _)⟩
  have e2 : Keep _ := ⟨u32_xor_nat (rotN x 6 ^^^ rotN x 11) (rotN x 25) (xor_lt (rotN_lt _ _) (rotN_lt _ _)) (rotN_lt _ _)⟩
  have hd : Keep (bS1N x = rotN x 6 ^^^ rotN x 11 ^^^ rotN x 25) := ⟨rfl⟩
  rw [hd.out, ← e2.out, ← e1.out]
  clear e1 e2 hd
  generalize rotN x 6 = p at T1 ⊢
  generalize rotN x 11 = q at T2 ⊢
  generalize rotN x 25 = r at T3 ⊢
  go_enter Try.func44, Try.ntmps44
  go_wp2_with fail
  refine (T1.out _).mono ?_
  rintro e1 w1 ⟨rfl, rfl⟩
  go_wp2_with fail
  refine (T2.out _).mono ?_
  rintro e1 w1 ⟨rfl, rfl⟩
  go_wp2_with fail
  refine (T3.out _).mono ?_
  rintro e1 w1 ⟨rfl, rfl⟩
  go_wp2_with fail
  go_ret
  exact ⟨rfl, rfl⟩

theorem bS0ref_any (x : Nat) (hx : x < 4294967296) (w : World) : Calls Try.prog 45 #[.int .u32 (x : Int)] w fun e w' => e = .returned (.int .u32 (bS0N x : Nat)) ∧ w = w' := by
  have T1 : Keep _ := ⟨fun w => turnref x 2 hx (by decide) (by decide) w⟩
  have T2 : Keep _ := ⟨fun w => turnref x 13 hx (by decide) (by decide) w⟩
  have T3 : Keep _ := ⟨fun w => turnref x 22 hx (by decide) (by decide) w⟩
  have e1 : Keep _ := ⟨u32_xor_nat (rotN x 2) (rotN x 13) (rotN_lt _ _) (rotN_lt _ _)⟩
  have e2 : Keep _ := ⟨u32_xor_nat (rotN x 2 ^^^ rotN x 13) (rotN x 22) (xor_lt (rotN_lt _ _) (rotN_lt _ _)) (rotN_lt _ _)⟩
  have hd : Keep (bS0N x = rotN x 2 ^^^ rotN x 13 ^^^ rotN x 22) := ⟨rfl⟩
  rw [hd.out, ← e2.out, ← e1.out]
  clear e1 e2 hd
  generalize rotN x 2 = p at T1 ⊢
  generalize rotN x 13 = q at T2 ⊢
  generalize rotN x 22 = r at T3 ⊢
  go_enter Try.func45, Try.ntmps45
  go_wp2_with fail
  refine (T1.out _).mono ?_
  rintro e1 w1 ⟨rfl, rfl⟩
  go_wp2_with fail
  refine (T2.out _).mono ?_
  rintro e1 w1 ⟨rfl, rfl⟩
  go_wp2_with fail
  refine (T3.out _).mono ?_
  rintro e1 w1 ⟨rfl, rfl⟩
  go_wp2_with fail
  go_ret
  exact ⟨rfl, rfl⟩

end Go.Proofs.Ytmaoaljohjkjeaa
