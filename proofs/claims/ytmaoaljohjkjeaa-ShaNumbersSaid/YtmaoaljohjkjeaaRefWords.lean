/- The contract of the document's words: bytes and their padding as numbers. Condition: at most 2 to the 40th bytes. -/
import Derived.Test.YtmaoaljohjkjeaaRefPrimes
import Derived.Deep.OwnRows
namespace Go.Proofs.Ytmaoaljohjkjeaa
open Go.ChangeShapes Go.WideShapes Go.ChangeAt Go.RowKit

theorem info44 : (Try.prog.info? 44).map (fun i => (i.zero, i.size, i.bytes)) = some (some (.int .u32 0), 1, 4) := by kernel_rfl
/-- the byte that words adds at a place -/
def markT (zs : List Int) (i : Nat) : Int := if i < zs.length then zs.getD i 0 else 128
/-- the numbers behind the first k bytes -/
def wordsT (zs : List Int) : Nat → List Int
  | 0 => List.replicate ((zs.length + 72) / 64 * 16) 0
  | k + 1 => (wordsT zs k).set (k / 4) (((wordsT zs k).getD (k / 4) 0 + markT zs k * 2 ^ (24 - k % 4 * 8)) % 4294967296)
theorem wordsT_length (zs : List Int) : ∀ k, (wordsT zs k).length = (zs.length + 72) / 64 * 16
  | 0 => List.length_replicate
  | k + 1 => by rw [wordsT, List.length_set]; exact wordsT_length zs k
def lastT (zs : List Int) : List Int :=
  let n := (zs.length + 72) / 64 * 16
  ((wordsT zs (zs.length + 1)).set (n - 2) ((zs.length * 8 : Int) / 4294967296)).set (n - 1) ((zs.length * 8 : Int) % 4294967296)

set_option maxRecDepth 100000 in
set_option maxHeartbeats 4000000 in
theorem wordsref_any (zs : List Int) (A : Option Addr) (cap : Nat) (w : World) (hz : Bytes w A zs) (hr : ∀ i, i < zs.length → 0 ≤ zs.getD i 0 ∧ zs.getD i 0 < 256) (hl : zs.length ≤ 1099511627776) :
    Calls Try.prog 36 #[.slice A zs.length cap] w fun e w' => ∃ B, e = .returned (.slice (some ⟨B, 0, none⟩) (lastT zs).length (lastT zs).length) ∧ Holds w' B 44 ((lastT zs).map (Value.int .u32)) ∧ w.heap.size ≤ B ∧ Below w.heap.size w w' := by
  have HZ : Keep _ := ⟨hz⟩
  have HR : Keep _ := ⟨hr⟩
  clear hz hr
  obtain ⟨N, hN⟩ : ∃ N, N = (zs.length + 72) / 64 * 16 := ⟨_, rfl⟩
  have hN1 : 16 ≤ N := by omega
  have hN2 : zs.length + 8 < 4 * N := by omega
  have hN3 : N ≤ 1099511627776 := by omega
  obtain ⟨Q, hQ⟩ : ∃ Q : Nat, Q = (zs.length + 72) / 64 := ⟨_, rfl⟩
  have hQi : ((zs.length : Int) + 72) / 64 = (Q : Int) := by omega
  have hNi : (Q : Int) * 16 = (N : Int) := by omega
  have hQ3 : Q ≤ 1099511627776 := by omega
  have HN : Keep (N = (zs.length + 72) / 64 * 16) := ⟨hN⟩
  clear hQ hN
  have hmk := run_make_row' (P := Try.prog) 55 44 (.int .u32 0) 4 Try.underlying55 info44 rfl .i64 .i64 N (by omega) (by omega)
  go_enter Try.func36, Try.ntmps36
  go_wp2_with fail
  go_loopw [5] (fun iv wr => ∃ k : Nat, k ≤ zs.length + 1 ∧ iv = .int .i64 k ∧ Holds wr w.heap.size 44 ((wordsT zs k).map (Value.int .u32)) ∧ Below w.heap.size w wr) (fun iv _ => zs.length + 1 - (intOf iv).toNat)
  case atStart =>
    refine ⟨0, by omega, rfl, ?_, balloc _ _⟩
    have e : (madeCells #[Value.int .u32 0] N) = ((wordsT zs 0).map (Value.int .u32)).toArray := by
      apply Array.toList_inj.1
      rw [toList_madeCells_one]
      simp [wordsT, HN.out]
    rw [e]
    exact Holds.made w 44 _
  case round =>
    obtain ⟨k, hk, rfl, hh, hb⟩ := hrel
    have HH : Keep _ := ⟨hh⟩
    have HB : Keep _ := ⟨hb⟩
    have lT := wordsT_length zs k
    rw [← HN.out] at lT
    by_cases hlt : k ≤ zs.length
    · have hs : wordsT zs (k + 1) = (wordsT zs k).set (k / 4) (((wordsT zs k).getD (k / 4) 0 + markT zs k * 2 ^ (24 - k % 4 * 8)) % 4294967296) := rfl
      have co := (hh.cell (k / 4)).trans (map_cell (Value.int .u32) (wordsT zs k) (k / 4) (by rw [lT]; omega) 0)
      have fo := hh.free (k / 4)
      generalize wordsT zs k = L at hs HH co lT
      generalize L.getD (k / 4) 0 = z at hs co
      clear hh hb
      have gk : decide ((k : Int) ≤ (zs.length : Int)) = true := by simp; omega
      by_cases hlt2 : k < zs.length
      · obtain ⟨b, off, rfl, cz⟩ := (HZ.out.below HB.out).at_ k hlt2
        have gk2 : decide ((k : Int) < (zs.length : Int)) = true := by simp; omega
        have hx := HR.out k hlt2
        have hm : markT zs k = zs.getD k 0 := by rw [markT, if_pos hlt2]
        rw [hm] at hs
        clear hm
        generalize zs.getD k 0 = x at hx hs cz
        have HS : Keep _ := ⟨hs⟩
        clear hs
        go_wp2_with fail
        go_roundw
        case rel => exact ⟨k + 1, by omega, by go_num, by rw [HS.out, List.map_set]; exact HH.out.store (k / 4) _, HB.out.setCell (Nat.le_refl _) _⟩
        case measure => simp [intOf]; omega
      · have gk2 : decide ((k : Int) < (zs.length : Int)) = false := by simp; omega
        have hm : markT zs k = 128 := by rw [markT, if_neg hlt2]
        rw [hm] at hs
        have HS : Keep _ := ⟨hs⟩
        clear hs hm
        go_wp2_with fail
        go_roundw
        case rel => exact ⟨k + 1, by omega, by go_num, by rw [HS.out, List.map_set]; exact HH.out.store (k / 4) _, HB.out.setCell (Nat.le_refl _) _⟩
        case measure => simp [intOf]; omega
    · obtain rfl : k = zs.length + 1 := by omega
      have gk : decide ((zs.length : Int) + 1 ≤ (zs.length : Int)) = false := by simp; omega
      have hlast : lastT zs = ((wordsT zs (zs.length + 1)).set (N - 2) ((zs.length * 8 : Int) / 4294967296)).set (N - 1) ((zs.length * 8 : Int) % 4294967296) := by rw [HN.out]; rfl
      have cells := map_cell (Value.int .u32) (wordsT zs (zs.length + 1))
      have c1 := (hh.cell (N - 2)).trans (cells (N - 2) (by omega) 0)
      have c2 := (hh.cell (N - 1)).trans (cells (N - 1) (by omega) 0)
      generalize wordsT zs (zs.length + 1) = L at hh HH lT c1 c2 hlast
      have f1 := hh.free (N - 2)
      have f2 := hh.free (N - 1)
      have HL : Keep _ := ⟨hlast⟩
      have lN : Keep ((lastT zs).length = N) := ⟨by rw [hlast, List.length_set, List.length_set, lT]⟩
      obtain ⟨m, hm⟩ : ∃ m : Nat, N = m + 2 := ⟨N - 2, by omega⟩
      have HM : Keep _ := ⟨hm⟩
      clear hh hb hlast cells
      generalize L.getD (N - 2) 0 = z1 at c1
      generalize L.getD (N - 1) 0 = z2 at c2
      have e1 : (N : Int) - 2 = (m : Int) := by omega
      have e2 : (N : Int) - 1 = ((m + 1 : Nat) : Int) := by omega
      rw [show N - 2 = m by omega] at c1 f1
      rw [show N - 1 = m + 1 by omega] at c2 f2
      clear hm
      go_wp2_with fail
      go_ret
      refine ⟨w.heap.size, by rw [lN.out]; rfl, ?_, Nat.le_refl _, (HB.out.setCell (Nat.le_refl _) _).setCell (Nat.le_refl _) _⟩
      have hm2 := HM.out
      rw [HL.out, List.map_set, List.map_set, show N - 2 = m by omega, show N - 1 = m + 1 by omega]
      exact (HH.out.store m _).store (m + 1) _
end Go.Proofs.Ytmaoaljohjkjeaa
