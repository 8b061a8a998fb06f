/- The contract of the document's times: what it answers, in the numbers of the walk. Condition: four numbers and two. -/
import Derived.Test.YtmaoaljohjkjeaaOf
import Derived.BigQuiet
import Derived.Deep.QuietTactic
namespace Go.Proofs.Ytmaoaljohjkjeaa
open Go.ChangeShapes Go.WideShapes Go.ChangeAt Go.RowKit

def prodT (a b O : List Int) (m : Int) (i j : Nat) : Int := IntKind.u64.wrap (IntKind.u64.wrap (IntKind.u64.wrap (a.getD i 0 * b.getD j 0) + O.getD (i + j) 0) + m)
/-- row i behind its first j digits -/
def rowT (a b O : List Int) (i : Nat) : Nat → List Int × Int
  | 0 => (O, 0)
  | j + 1 =>
    let s := rowT a b O i j
    if i + j < 4 then (s.1.set (i + j) (prodT a b s.1 s.2 i j % 4294967296), prodT a b s.1 s.2 i j / 4294967296) else s
def rowsT (a b : List Int) : Nat → List Int
  | 0 => [0, 0, 0, 0]
  | i + 1 => if i < 2 then (rowT a b (rowsT a b i) i 2).1.set (i + 2) (rowT a b (rowsT a b i) i 2).2 else (rowT a b (rowsT a b i) i 2).1
theorem rowT_length (a b O : List Int) (i : Nat) : ∀ j, (rowT a b O i j).1.length = O.length
  | 0 => rfl
  | j + 1 => by
    rw [rowT]
    split
    · rw [List.length_set]; exact rowT_length a b O i j
    · exact rowT_length a b O i j
theorem rowsT_length (a b : List Int) : ∀ i, (rowsT a b i).length = 4
  | 0 => rfl
  | i + 1 => by
    rw [rowsT]
    split
    · rw [List.length_set, rowT_length]; exact rowsT_length a b i
    · rw [rowT_length]; exact rowsT_length a b i

/-- the blocks of a call of times -/
structure InTimes (w wr : World) (a b O : List Int) : Prop where
  ha : Holds wr w.heap.size 66 (a.map (Value.int .u64))
  hb : Holds wr (w.heap.size + 1) 65 (b.map (Value.int .u64))
  hr : ∃ Z, Z.length = 4 ∧ Holds wr (w.heap.size + 1 + 1) 66 Z
  ho : Holds wr (w.heap.size + 1 + 1 + 1) 66 (O.map (Value.int .u64))
  below : Below w.heap.size w wr
theorem InTimes.drewN {w wr : World} {a b O : List Int} (h : InTimes w wr a b O) (n : Nat) : InTimes w (wr.drewN n) a b O := by
  obtain ⟨h1, h2, ⟨Z, hz, h3⟩, h4, h5⟩ := h
  exact ⟨h1, h2, ⟨Z, hz, h3⟩, h4, below_drewN h5 n⟩
theorem InTimes.setO {w wr : World} {a b O : List Int} (h : InTimes w wr a b O) (i : Nat) (x : Int) : InTimes w (wr.setCell ⟨w.heap.size + 1 + 1 + 1, i, none⟩ (.int .u64 x)) a b (O.set i x) := by
  obtain ⟨h1, h2, ⟨Z, hz, h3⟩, h4, h5⟩ := h
  exact ⟨h1.apart (by simp; omega) _, h2.apart (by simp) _, ⟨Z, hz, h3.apart (by simp) _⟩, by rw [List.map_set]; exact h4.store i _, h5.setCell (by simp; omega) _⟩
theorem size66 : (Try.prog.info? 66).map (·.size) = some 4 := by kernel_rfl

set_option maxRecDepth 100000 in
set_option maxHeartbeats 4000000 in
theorem timesref_any (a b : List Int) (ha : a.length = 4) (hb : b.length = 2) (w : World) :
    Calls Try.prog 41 #[.agg (a.map (Value.int .u64)).toArray, .agg (b.map (Value.int .u64)).toArray] w fun e w' => e = .returned (.agg ((rowsT a b 4).map (Value.int .u64)).toArray) ∧ Below w.heap.size w w' := by
  have LA : Keep _ := ⟨ha⟩
  have LB : Keep _ := ⟨hb⟩
  clear ha hb
  go_enter Try.func41, Try.ntmps41
  go_wp2_with fail
  go_loopw [6] (fun iv wr => ∃ i : Nat, i ≤ 4 ∧ iv = .int .i64 i ∧ InTimes w wr a b (rowsT a b i)) (fun iv _ => 4 - (intOf iv).toNat)
  case atStart =>
    refine ⟨0, by omega, rfl, (Holds.made w 66 _).alloc _ |>.alloc _ |>.alloc _, (Holds.made' (by simp) 65 _).alloc _ |>.alloc _, ⟨_, ?_, (Holds.made' (by simp) 66 [.int .u64 0, .int .u64 0, .int .u64 0, .int .u64 0]).alloc _⟩, Holds.made' (by simp) 66 [.int .u64 0, .int .u64 0, .int .u64 0, .int .u64 0], bthen (bthen (balloc _ _) (balloc _ _)) (bthen (balloc _ _) (balloc _ _))⟩
    rfl
  case round =>
    obtain ⟨i, hi, rfl, hin⟩ := hrel
    by_cases hlt : i < 4
    · have HIN : Keep _ := ⟨hin⟩
      have LO := rowsT_length a b i
      have HS : Keep _ := ⟨show rowsT a b (i + 1) = if i < 2 then (rowT a b (rowsT a b i) i 2).1.set (i + 2) (rowT a b (rowsT a b i) i 2).2 else (rowT a b (rowsT a b i) i 2).1 from rfl⟩
      generalize rowsT a b i = O at HIN HS LO
      clear hin
      go_wp2_with fail
      go_loopw [7, 8] (fun mv jv wr => ∃ j : Nat, j ≤ 2 ∧ jv = .int .i64 j ∧ mv = .int .u64 (rowT a b O i j).2 ∧ InTimes w wr a b (rowT a b O i j).1) (fun _ jv _ => 2 - (intOf jv).toNat)
      case atStart => exact ⟨0, by omega, rfl, rfl, HIN.out⟩
      case round =>
        obtain ⟨j, hj, rfl, rfl, hin⟩ := hrel
        have HIN2 : Keep _ := ⟨hin⟩
        by_cases hlt2 : j < 2 ∧ i + j < 4
        · have g1 : decide ((j : Int) < 2) = true := by simp; omega
          have g2 : decide ((i : Int) + (j : Int) < 4) = true := by simp; omega
          have hs : rowT a b O i (j + 1) = ((rowT a b O i j).1.set (i + j) (prodT a b (rowT a b O i j).1 (rowT a b O i j).2 i j % 4294967296), prodT a b (rowT a b O i j).1 (rowT a b O i j).2 i j / 4294967296) := by
            rw [rowT, if_pos hlt2.2]
          have hl := rowT_length a b O i j
          rw [LO] at hl
          generalize (rowT a b O i j).1 = P at hs hl HIN2 hin
          generalize (rowT a b O i j).2 = m at hs
          unfold prodT at hs
          have ca := (hin.ha.cell i).trans (map_cell (Value.int .u64) a i (by rw [LA.out]; omega) 0)
          have cb := (hin.hb.cell j).trans (map_cell (Value.int .u64) b j (by rw [LB.out]; omega) 0)
          have co := (hin.ho.cell (i + j)).trans (map_cell (Value.int .u64) P (i + j) (by rw [hl]; omega) 0)
          have fo := hin.ho.free (i + j)
          generalize a.getD i 0 = x at hs ca
          generalize b.getD j 0 = y at hs cb
          generalize P.getD (i + j) 0 = z at hs co
          obtain ⟨n, hn, hn0, hn1⟩ : ∃ n, IntKind.u64.wrap (IntKind.u64.wrap (IntKind.u64.wrap (x * y) + z) + m) = n ∧ 0 ≤ n ∧ n < 18446744073709551616 := ⟨_, rfl, by rw [IntKind.wrap_u64]; omega, by rw [IntKind.wrap_u64]; omega⟩
          rw [hn] at hs
          have HSS : Keep _ := ⟨hs⟩
          have HN : Keep _ := ⟨hn⟩
          clear hs hin hn
          have g3 : (i : Int) + (j : Int) < 4 := by omega
          go_wp2_with fail
          go_quiet (fail)
          rw [HN.out]
          go_wp2_with fail
          go_roundw
          case rel => exact ⟨j + 1, by omega, by go_num, by rw [HSS.out], by rw [HSS.out]; exact (HIN2.out.drewN _).setO (i + j) _⟩
          case measure => simp [intOf]; omega
        · have hsame : rowT a b O i j = rowT a b O i 2 := by
            by_cases h2 : j = 2
            · rw [h2]
            · have e1 : j + 1 = 2 := by omega
              rw [← e1, rowT, if_neg (by omega)]
          have HX : Keep _ := ⟨hsame⟩
          have hl := rowT_length a b O i j
          rw [LO] at hl
          clear hsame hin
          generalize rowT a b O i j = P at HX HIN2 hl
          by_cases hi2 : i < 2
          · have g3 : decide ((i : Int) < 2) = true := by simp; omega
            have gj : decide ((j : Int) < 2) = false := by simp; omega
            have co := (HIN2.out.ho.cell (i + 2)).trans (map_cell (Value.int .u64) P.1 (i + 2) (by rw [hl]; omega) 0)
            have fo := HIN2.out.ho.free (i + 2)
            generalize P.1.getD (i + 2) 0 = z at co
            have HS2 : Keep _ := ⟨by have := HS.out; rw [if_pos hi2, ← HX.out] at this; exact this⟩
            go_wp2_with fail
            go_roundw
            case rel => exact ⟨i + 1, by omega, by go_num, by rw [HS2.out]; exact HIN2.out.setO (i + 2) _⟩
            case measure => simp [intOf]; omega
          · have g3 : decide ((i : Int) < 2) = false := by simp; omega
            have HS2 : Keep _ := ⟨by have := HS.out; rw [if_neg hi2, ← HX.out] at this; exact this⟩
            by_cases gj : j < 2
            · have g1 : decide ((j : Int) < 2) = true := by simp; omega
              have g2 : decide ((i : Int) + (j : Int) < 4) = false := by simp; omega
              go_wp2_with fail
              go_roundw
              case rel => exact ⟨i + 1, by omega, by go_num, by rw [HS2.out]; exact HIN2.out⟩
              case measure => simp [intOf]; omega
            · have g1 : decide ((j : Int) < 2) = false := by simp; omega
              go_wp2_with fail
              go_roundw
              case rel => exact ⟨i + 1, by omega, by go_num, by rw [HS2.out]; exact HIN2.out⟩
              case measure => simp [intOf]; omega
    · obtain rfl : i = 4 := by omega
      obtain ⟨_, _, ⟨Z, hz, hr⟩, ho, hbl⟩ := hin
      have hlen : ((rowsT a b 4).map (Value.int .u64)).length = 4 := by rw [List.length_map, rowsT_length]
      have hone := ones (rowsT a b 4) .u64
      generalize hL : (rowsT a b 4).map (Value.int .u64) = L at ho hlen hone
      have HLL : Keep _ := ⟨hL⟩
      have HO : Keep _ := ⟨ho⟩
      have HR : Keep _ := ⟨hr⟩
      have HZ : Keep _ := ⟨hz⟩
      have HL : Keep _ := ⟨hlen⟩
      have HONE : Keep _ := ⟨hone⟩
      have S66 : Keep ((Try.prog.info? 66).map (·.size) = some L.length) := ⟨by rw [hlen]; exact size66⟩
      have T66 : Keep (wr.there (w.heap.size + 1 + 1) 0 L.toArray.size) := ⟨show wr.there (w.heap.size + 1 + 1) 0 L.length by rw [hlen, ← hz]; exact hr.there'⟩
      clear ho hr hz hlen hone hL
      go_wp2_with (first | (refine wpList_load_mid rfl 66 (.tmp 5) rfl (w.heap.size + 1 + 1 + 1) 0 rfl L _ HO.out.range Try.underlying66 rfl S66.out ?_) | (refine wpList_store_mid rfl 66 (.tmp 4) (.tmp 53) rfl (w.heap.size + 1 + 1) 0 L.toArray rfl rfl T66.out S66.out (all_oneCell_toArray HONE.out) ?_))
      exact bodyPost_ret (v := .agg L.toArray) (results_cell1 (p := 4) Try.results41 _ _ (w.heap.size + 1 + 1) 66 L _ rfl (HR.out.laid0 L (by rw [HL.out, HZ.out])) Try.underlying66 rfl S66.out) rfl ⟨by rw [HLL.out], Below.setCells (by omega) _ _ _ hbl⟩
end Go.Proofs.Ytmaoaljohjkjeaa
