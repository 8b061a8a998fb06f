/- The walk of ShaNumbers: it answers true and turns nothing that was there. No conditions. -/
import Derived.Test.YtmaoaljohjkjeaaRefOf
import Derived.Lib.SlBytesConst
namespace Go.Proofs.Ytmaoaljohjkjeaa
open Go.ChangeShapes Go.WideShapes Go.ChangeAt Go.RowKit

/-- the 56 letters -/
def wideZ : List Int := [97, 98, 99, 100, 98, 99, 100, 101, 99, 100, 101, 102, 100, 101, 102, 103, 101, 102, 103, 104, 102, 103, 104, 105, 103, 104, 105, 106, 104, 105, 106, 107, 105, 106, 107, 108, 106, 107, 108, 109, 107, 108, 109, 110, 108, 109, 110, 111, 109, 110, 111, 112, 110, 111, 112, 113]
theorem hex_wide : hexTo (ofZ wideZ) 64 = [50, 52, 56, 100, 54, 97, 54, 49, 100, 50, 48, 54, 51, 56, 98, 56, 101, 53, 99, 48, 50, 54, 57, 51, 48, 99, 51, 101, 54, 48, 51, 57, 97, 51, 51, 99, 101, 52, 53, 57, 54, 52, 102, 102, 50, 49, 54, 55, 102, 54, 101, 99, 101, 100, 100, 52, 49, 57, 100, 98, 48, 54, 99, 49] := by decide +kernel
theorem eq_wide : ((hexS (ofZ wideZ)).toList == [50, 52, 56, 100, 54, 97, 54, 49, 100, 50, 48, 54, 51, 56, 98, 56, 101, 53, 99, 48, 50, 54, 57, 51, 48, 99, 51, 101, 54, 48, 51, 57, 97, 51, 51, 99, 101, 52, 53, 57, 54, 52, 102, 102, 50, 49, 54, 55, 102, 54, 101, 99, 101, 100, 100, 52, 49, 57, 100, 98, 48, 54, 99, 49]) = true := by
  rw [hexS, strZ_toList, hex_wide]; decide +kernel

/-- the bytes of the squares below n -/
def sqZ (n : Nat) : List Int := (List.range n).map fun (i : Nat) => ((i : Int) * (i : Int)) % 256
theorem sqZ_length (n : Nat) : (sqZ n).length = n := by simp [sqZ]
theorem sqZ_succ (n : Nat) : sqZ (n + 1) = sqZ n ++ [((n : Int) * (n : Int)) % 256] := by
  unfold sqZ
  rw [List.range_succ, List.map_append]
  rfl
theorem sqZ_range (n i : Nat) (hi : i < (sqZ n).length) : 0 ≤ (sqZ n).getD i 0 ∧ (sqZ n).getD i 0 < 256 := by
  rw [sqZ_length] at hi
  have : (sqZ n).getD i 0 = ((i : Int) * (i : Int)) % 256 := by
    rw [List.getD_eq_getElem?_getD, sqZ, List.getElem?_map, List.getElem?_range hi]; rfl
  rw [this]; omega

set_option maxRecDepth 100000 in
set_option maxHeartbeats 4000000 in
theorem numbers_core (w : World) : Calls Try.prog 7 #[] w fun e w' => e = .returned (.bool true) ∧ Below w.heap.size w w' := by
  have e3 := eq_wide
  have kc := fun (w : World) (C : Array Value) (n c : Nat) => Lib.run_convert_bytes_const (P := Try.prog) w 34 5 C n c Try.underlying34 Try.underlying5
  obtain ⟨i0, hi, hz0, hz1, hz2⟩ := info_parts info5
  have I0 : Keep _ := ⟨hi⟩
  have I1 : Keep _ := ⟨hz0⟩
  have I2 : Keep _ := ⟨hz1⟩
  have I3 : Keep _ := ⟨hz2⟩
  clear hi hz0 hz1 hz2
  go_enter Try.func7, Try.ntmps7
  go_wp2_with fail
  refine (of_any wideZ _ 56 _ (bytes_marked wideZ w _ rfl 5 (56, 57)) (by decide)).mono ?_
  rintro e w1 ⟨rfl, hb1⟩
  go_wp2_with fail
  refine (hex_of _ _).mono ?_
  rintro e w2 ⟨rfl, hb2⟩
  have hbw := bthen (balloc w _) (bthen hb1 hb2)
  have HBW : Keep _ := ⟨hbw⟩
  clear hbw hb1 hb2
  go_wp2_with fail
  go_loopw [1, 2] (fun v nv wr => ∃ n : Nat, n ≤ 200 ∧ nv = .int .i64 n ∧ wr.ownsRow w2.heap.size 5 1 v n ((sqZ n).map (Value.int .u8)) ∧ Below w2.heap.size w2 wr) (fun _ nv _ => 200 - (intOf nv).toNat)
  case atStart => exact ⟨0, by omega, rfl, World.ownsRow_nil _ _ _ _, Below.refl _ _⟩
  case round =>
    obtain ⟨n, hn, rfl, hown, hb⟩ := hrel
    by_cases hlt : n < 200
    · have gn : decide ((n : Int) < 200) = true := by simp; omega
      have hl := sqZ_length n
      have hrg := sqZ_range n
      have hst := sqZ_succ n
      obtain ⟨zs, hzs⟩ : ∃ zs, zs = sqZ n := ⟨_, rfl⟩
      rw [← hzs] at hown hl hrg hst
      clear hzs
      obtain ⟨A, cap, rfl, hby⟩ := bytes_own (zs := zs) (by rw [hl]; exact hown)
      rw [hl] at hown
      have HOWN : Keep _ := ⟨hown⟩
      have HB : Keep _ := ⟨hb⟩
      have HBY : Keep _ := ⟨hby⟩
      have HRG : Keep _ := ⟨hrg⟩
      obtain ⟨Z, eZ⟩ : ∃ Z, IsCells (ofZ zs) Z := ⟨_, ⟨rfl⟩⟩
      have hneq : ∀ W : World, (binOp .neq 32 (.agg Z.toArray) (.agg Z.toArray)).run Try.prog W = .ok (.bool false) W := fun W => by
        rw [← eZ.eq, neq_hash _ _ W (ofZ_length _) (ofZ_length _)]; simp
      have CO : Keep _ := ⟨fun (W : World) (h : Bytes W A zs) => of_any zs A cap W h (by omega)⟩
      have CP : Keep _ := ⟨fun (W : World) (h : Bytes W A zs) => ofref_any zs A cap W h HRG.out (by omega)⟩
      rw [eZ.eq] at CO CP
      clear hown hb hby hrg
      rw [hl] at CO CP ⊢
      have m0 : (0 : Int) ≤ (n : Int) * (n : Int) := Int.mul_nonneg (by omega) (by omega)
      have m1 : (n : Int) * (n : Int) ≤ 40000 := by
        have := Nat.mul_le_mul hn hn
        have h2 : ((n * n : Nat) : Int) = (n : Int) * (n : Int) := by simp
        omega
      have hbs := HB.out.size
      have HST : Keep _ := ⟨hst⟩
      have q2 : Keep (∀ u ∈ [Value.int .u8 ((n : Int) * (n : Int) % 256)], u.oneCell' = true) := ⟨by simp [Value.oneCell']⟩
      have q3 : Keep (n + 1 ≤ maxLen) := ⟨by unfold maxLen; omega⟩
      have q4 : Keep ((n + 1) * 1 ≤ 140737488355328) := ⟨by omega⟩
      clear hst
      go_upto_region 9 with (first | (go_at_call 19; refine (CO.out _ HBY.out).mono ?_; rintro e w3 ⟨rfl, hb3⟩) | (go_at_call 20; refine (CP.out _ (HBY.out.below hb3)).mono ?_; rintro e w4 ⟨rfl, hb4⟩))
      have hown4 := own_under (own_under HOWN.out hb3) hb4
      have hbel4 := HB.out.trans ((bthen hb3 hb4).mono hbs)
      have hs4 := hbel4.size
      have HOWN4 : Keep _ := ⟨hown4⟩
      have HBEL4 : Keep _ := ⟨hbel4⟩
      have q5 : Keep (w2.heap.size ≤ (w4.alloc (.cells #[.int .u8 ((n : Int) * (n : Int) % 256)] 5)).heap.size) := ⟨by simp; omega⟩
      clear hb3 hb4 hown4 hbel4
      go_wp2_with (at_builtin; refine wpList_append_own _ rfl (.tmp 17) (.tmp 22) 34 rfl w2.heap.size 5 i0 (.int .u8 0) 1 1 Try.underlying34 I0.out I1.out I2.out I3.out rfl (by decide) _ n _ rfl (HOWN4.out.alloc _) ⟨w4.heap.size, 0, none⟩ 1 1 [.int .u8 ((n : Int) * (n : Int) % 256)] rfl rfl (cell_one_new _ _ _) q2.out q3.out q4.out q5.out ?_; intro v' w6 hown6 hgrow _)
      go_roundw
      case rel => exact ⟨n + 1, by omega, by go_num, by rw [HST.out, List.map_append]; exact hown6, (HBEL4.out.trans ((balloc _ _).mono hs4)).grown hgrow q5.out (fun g hg => (HOWN4.out.lt g hg).1)⟩
      case measure => simp [intOf]; omega
    · obtain rfl : n = 200 := by omega
      go_wp2_with (go_at_call 21; refine (awake_any _).mono ?_; rintro e w3 ⟨rfl, hb3⟩)
      go_ret
      exact ⟨rfl, bthen HBW.out (bthen hb hb3)⟩
end Go.Proofs.Ytmaoaljohjkjeaa
