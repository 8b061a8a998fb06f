/- The contract of many: a slice of n bytes alike. Condition: n is at most 2 to the 40th. -/
import Derived.Test.YtmaoaljohjkjeaaCopy
import Derived.Deep.OwnRows
namespace Go.Proofs.Ytmaoaljohjkjeaa
open Go.ChangeShapes Go.WideShapes Go.ChangeAt Go.RowKit

/-- what many has laid behind k rounds -/
def laidZ (b : Int) (n k : Nat) : List Int := List.replicate k b ++ List.replicate (n - k) 0
theorem laidZ_length (b : Int) (n k : Nat) (h : k ≤ n) : (laidZ b n k).length = n := by
  rw [laidZ, List.length_append, List.length_replicate, List.length_replicate]; omega
theorem laidZ_set (b : Int) (n k : Nat) (h : k < n) : (laidZ b n k).set k b = laidZ b n (k + 1) := by
  have e : List.replicate (n - k) (0 : Int) = 0 :: List.replicate (n - (k + 1)) 0 := by
    rw [show n - k = (n - (k + 1)) + 1 by omega, List.replicate_succ]
  rw [laidZ, laidZ, e, List.replicate_succ', List.set_append_right _ _ (by simp)]
  simp

theorem rep_getD (b : Int) (n i : Nat) (h : i < n) : (List.replicate n b).getD i 0 = b := by simp [h]

set_option maxHeartbeats 1000000 in
theorem many_any (b : Int) (n : Nat) (hn : n ≤ 1099511627776) (w : World) :
    Calls Try.prog 26 #[.int .u8 b, .int .i64 n] w fun e w' => ∃ A, e = .returned (.slice A n n) ∧ Bytes w' A (List.replicate n b) ∧ Below w.heap.size w w' := by
  have hmk := run_make_row' (P := Try.prog) 34 5 (.int .u8 0) 1 Try.underlying34 info5 rfl .i64 .i64 n (by omega) (by omega)
  go_enter Try.func26, Try.ntmps26
  go_wp2_with fail
  go_loopw [11] (fun iv wr => ∃ k : Nat, k ≤ n ∧ iv = .int .i64 k ∧ Holds wr w.heap.size 5 ((laidZ b n k).map (Value.int .u8)) ∧ Below w.heap.size w wr) (fun iv _ => n - (intOf iv).toNat)
  case atStart =>
    refine ⟨0, by omega, rfl, ?_, balloc _ _⟩
    have e : (madeCells #[Value.int .u8 0] n) = ((laidZ b n 0).map (Value.int .u8)).toArray := by
      apply Array.toList_inj.1
      rw [toList_madeCells_one]
      simp [laidZ]
    rw [e]
    exact Holds.made w 5 _
  case round =>
    obtain ⟨k, hk, rfl, hh, hb⟩ := hrel
    by_cases hlt : k < n
    · have c := (hh.cell k).trans (map_cell (Value.int .u8) (laidZ b n k) k (by rw [laidZ_length b n k hk]; exact hlt) 0)
      have hfr := hh.free k
      have hd : decide ((k : Int) < (n : Int)) = true := by simp; omega
      have H1 : Keep _ := ⟨hh.store k (.int .u8 b)⟩
      clear hh
      go_wp2_with fail
      go_roundw
      case rel =>
        refine ⟨k + 1, by omega, by go_num, ?_, hb.setCell (Nat.le_refl _) _⟩
        have := H1.out
        rw [← List.map_set, laidZ_set b n k hlt] at this
        exact this
      case measure => simp [intOf]; omega
    · obtain rfl : k = n := by omega
      have hd : decide ((k : Int) < (k : Int)) = false := by simp
      go_wp2_with fail
      go_ret
      refine ⟨_, rfl, .inr ⟨w.heap.size, 0, rfl, fun i hi => ?_⟩, hb⟩
      have e : laidZ b k k = List.replicate k b := by simp [laidZ]
      rw [e] at hh
      rw [Nat.zero_add, hh.cell i]
      exact map_cell (Value.int .u8) _ i hi 0
end Go.Proofs.Ytmaoaljohjkjeaa
