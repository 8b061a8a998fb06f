/- The contract of the document's Hex: it is the text of sha's. Condition: 32 bytes. (A part was printed by a small program of ours, genregion.py.) -/
import Derived.Test.YtmaoaljohjkjeaaSum
import Derived.Test.YtmaoaljohjkjeaaTexts
import Derived.Deep.QuietTactic
import Derived.BigQuiet
import Derived.Laws.Concat
namespace Go.Proofs.Ytmaoaljohjkjeaa
open Go.ChangeShapes Go.WideShapes Go.ChangeAt Go.RowKit

def hexD : ByteArray := { data := #[48, 49, 50, 51, 52, 53, 54, 55, 56, 57, 97, 98, 99, 100, 101, 102] }
theorem piece0 : hexD.extract 0 1 = strZ [48] := by decide +kernel
theorem piece1 : hexD.extract 1 2 = strZ [49] := by decide +kernel
theorem piece2 : hexD.extract 2 3 = strZ [50] := by decide +kernel
theorem piece3 : hexD.extract 3 4 = strZ [51] := by decide +kernel
theorem piece4 : hexD.extract 4 5 = strZ [52] := by decide +kernel
theorem piece5 : hexD.extract 5 6 = strZ [53] := by decide +kernel
theorem piece6 : hexD.extract 6 7 = strZ [54] := by decide +kernel
theorem piece7 : hexD.extract 7 8 = strZ [55] := by decide +kernel
theorem piece8 : hexD.extract 8 9 = strZ [56] := by decide +kernel
theorem piece9 : hexD.extract 9 10 = strZ [57] := by decide +kernel
theorem piece10 : hexD.extract 10 11 = strZ [97] := by decide +kernel
theorem piece11 : hexD.extract 11 12 = strZ [98] := by decide +kernel
theorem piece12 : hexD.extract 12 13 = strZ [99] := by decide +kernel
theorem piece13 : hexD.extract 13 14 = strZ [100] := by decide +kernel
theorem piece14 : hexD.extract 14 15 = strZ [101] := by decide +kernel
theorem piece15 : hexD.extract 15 16 = strZ [102] := by decide +kernel
theorem piece_nat (k : Nat) (hk : k < 16) : hexD.extract k (k + 1) = strZ [digitZ (k : Int)] := by
  match k, hk with
  | 0, _ => exact piece0
  | 1, _ => exact piece1
  | 2, _ => exact piece2
  | 3, _ => exact piece3
  | 4, _ => exact piece4
  | 5, _ => exact piece5
  | 6, _ => exact piece6
  | 7, _ => exact piece7
  | 8, _ => exact piece8
  | 9, _ => exact piece9
  | 10, _ => exact piece10
  | 11, _ => exact piece11
  | 12, _ => exact piece12
  | 13, _ => exact piece13
  | 14, _ => exact piece14
  | 15, _ => exact piece15
  | _ + 16, h => exact absurd h (by omega)
theorem piece (p : Int) (h0 : 0 ≤ p) (h1 : p < 16) : ({ data := #[48, 49, 50, 51, 52, 53, 54, 55, 56, 57, 97, 98, 99, 100, 101, 102] } : ByteArray).extract p.toNat (p + 1).toNat = strZ [digitZ p] := by
  obtain ⟨k, rfl⟩ : ∃ k : Nat, p = k := ⟨p.toNat, by omega⟩
  exact piece_nat k (by omega)
theorem strZ_append (a b : List Int) : strZ a ++ strZ b = strZ (a ++ b) := by
  apply ByteArray.ext
  apply Array.toList_inj.1
  have h : (strZ a ++ strZ b).data.toList = (strZ a).data.toList ++ (strZ b).data.toList := by simp
  rw [h, strZ_data, strZ_data, strZ_data, List.map_append]
theorem hexTo_step (h : List Int) (i : Nat) (hi : i < 32) : (hexTo h 64).take (2 * (i + 1)) = (hexTo h 64).take (2 * i) ++ [digitZ (h.getD i 0 / 16)] ++ [digitZ (h.getD i 0 % 16)] := by
  have a := hexTo_ge h (2 * i) 64 (by omega) (by omega)
  have b := hexTo_ge h (2 * i + 1) 64 (by omega) (by omega)
  unfold halfZ8 at a b
  rw [if_neg (by omega), show 2 * i / 2 = i by omega] at a
  rw [if_pos (by omega), show (2 * i + 1) / 2 = i by omega] at b
  rw [show 2 * (i + 1) = 2 * i + 1 + 1 by omega, take_succ_getD _ _ (by rw [hexTo_length]; omega), take_succ_getD _ _ (by rw [hexTo_length]; omega), a, b]

set_option maxRecDepth 100000 in
set_option maxHeartbeats 4000000 in
theorem hexref_any (h : List Int) (hh : IsSum h) (w : World) : Calls Try.prog 23 #[.agg (h.map (Value.int .u8)).toArray] w fun e w' => e = .returned (.string (hexS h)) ∧ Below w.heap.size w w' := by
  have HH : Keep _ := ⟨hh⟩
  clear hh
  go_enter Try.func23, Try.ntmps23
  go_wp2_with fail
  go_loopw [3, 4] (fun sv iv wr => ∃ i : Nat, i ≤ 32 ∧ iv = .int .i64 i ∧ sv = .string (strZ ((hexTo h 64).take (2 * i))) ∧ Holds wr w.heap.size 32 (h.map (Value.int .u8)) ∧ Below w.heap.size w wr) (fun _ iv _ => 32 - (intOf iv).toNat)
  case atStart => exact ⟨0, by omega, rfl, rfl, Holds.made w 32 _, balloc _ _⟩
  case round =>
    obtain ⟨i, hi, rfl, rfl, hc, hb⟩ := hrel
    have HC : Keep _ := ⟨hc⟩
    have HB : Keep _ := ⟨hb⟩
    by_cases hlt : i < 32
    · have cx := (hc.cell i).trans (map_cell (Value.int .u8) h i (by rw [HH.out.len]; exact hlt) 0)
      have hx := HH.out.range i hlt
      have hstep := hexTo_step h i hlt
      have hlen : (strZ ((hexTo h 64).take (2 * i))).size = 2 * i := by rw [strZ_size, List.length_take, hexTo_length]; omega
      have hjoin := strZ_append ((hexTo h 64).take (2 * i)) [digitZ (h.getD i 0 / 16)]
      have hjoin2 := strZ_append ((hexTo h 64).take (2 * i) ++ [digitZ (h.getD i 0 / 16)]) [digitZ (h.getD i 0 % 16)]
      rw [← hstep, ← hjoin] at hjoin2
      have HJ : Keep _ := ⟨hjoin2⟩
      clear hjoin hjoin2 hstep
      generalize h.getD i 0 = x at cx hx HJ
      clear hc hb
      have l1 : ∀ n : Int, (strZ [n]).size = 1 := fun n => strZ_size [n]
      generalize strZ ((hexTo h 64).take (2 * i)) = S at HJ hlen
      obtain ⟨p, q, hp, hq, hp0, hp1, hq0, hq1⟩ : ∃ p q : Int, x / 16 = p ∧ x % 16 = q ∧ 0 ≤ p ∧ p < 16 ∧ 0 ≤ q ∧ q < 16 := ⟨x / 16, x % 16, rfl, rfl, by omega, by omega, by omega, by omega⟩
      rw [hp, hq] at HJ
      have G1 : Keep _ := ⟨piece p hp0 hp1⟩
      have G2 : Keep _ := ⟨piece q hq0 hq1⟩
      have e1 := l1 (digitZ p)
      have e2 := l1 (digitZ q)
      generalize strZ [digitZ p] = d1 at G1 HJ e1
      generalize strZ [digitZ q] = d2 at G2 HJ e2
      have e12 : (S ++ d1).size = 2 * i + 1 := by rw [ByteArray.size_append]; omega
      clear l1
      go_wp2_with fail
      go_quiet (fail)
      rw [hp, hq]
      go_upto_region 6 with fail
      refine wp_region_held_drew (S := fun w' => Holds w' w.heap.size 32 (h.map (Value.int .u8)) ∧ Below w.heap.size w w') (by kernel_rfl) ⟨HC.out, (below_drewN HB.out _).drew⟩ (fun hS0 => ?_)
      refine wpAnyH_take (i := 0) (v := .string S) rfl (by kernel_rfl) (by kernel_rfl) (by kernel_rfl) (fun _ _ _ h => h) (Or.inl ⟨by rfl, fun _ _ => rfl⟩) (by assumption) ?_
      simp only [Act.put, List.getElem_toArray, List.getElem_cons_zero, List.setIfInBounds_toArray, List.set_cons_zero, List.set_cons_succ]
      refine wpAnyH_take (i := 1) (v := .int .u8 p) rfl (by kernel_rfl) (by kernel_rfl) (by kernel_rfl) (fun _ _ _ h => h) (Or.inl ⟨by rfl, fun _ _ => rfl⟩) (by assumption) ?_
      simp only [Act.put, List.getElem_toArray, List.getElem_cons_zero, List.getElem_cons_succ, List.setIfInBounds_toArray, List.set_cons_zero, List.set_cons_succ]
      refine wpAnyH_take (i := 2) (v := .int .u8 p) rfl (by kernel_rfl) (by kernel_rfl) (by kernel_rfl) (fun _ _ _ h => h) (Or.inl ⟨by rfl, fun _ _ => rfl⟩) (by assumption) ?_
      simp only [Act.put, List.getElem_toArray, List.getElem_cons_zero, List.getElem_cons_succ, List.setIfInBounds_toArray, List.set_cons_zero, List.set_cons_succ]
      refine wpAnyH_take (i := 3) (v := .int .u8 (p + 1)) rfl (by kernel_rfl) (by kernel_rfl) (by kernel_rfl) (fun _ _ _ h => h) (Or.inl ⟨by rfl, fun _ _ => by go_simp; exact u8_small _ _ (by omega) (by omega) (by omega)⟩) (by assumption) ?_
      simp only [Act.put, List.getElem_toArray, List.getElem_cons_zero, List.getElem_cons_succ, List.setIfInBounds_toArray, List.set_cons_zero, List.set_cons_succ]
      refine wpAnyH_take (i := 4) (v := .string d1) rfl (by kernel_rfl) (by kernel_rfl) (by kernel_rfl) (fun _ _ _ h => h) (Or.inl ⟨by rfl, fun _ _ => by go_simp; rw [if_pos ⟨by omega, by omega⟩, if_pos (by omega), G1.out]⟩) (by assumption) ?_
      simp only [Act.put, List.getElem_toArray, List.getElem_cons_zero, List.getElem_cons_succ, List.setIfInBounds_toArray, List.set_cons_zero, List.set_cons_succ]
      refine wpAnyH_take (i := 5) (v := .string (S ++ d1)) rfl (by kernel_rfl) (by kernel_rfl) (by kernel_rfl) (fun _ _ _ h => h) (Or.inl ⟨by rfl, fun _ _ => by go_simp; omega⟩) (by assumption) ?_
      simp only [Act.put, List.getElem_toArray, List.getElem_cons_zero, List.getElem_cons_succ, List.setIfInBounds_toArray, List.set_cons_zero, List.set_cons_succ]
      refine wpAnyH_take (i := 6) (v := .int .u8 q) rfl (by kernel_rfl) (by kernel_rfl) (by kernel_rfl) (fun _ _ _ h => h) (Or.inl ⟨by rfl, fun _ _ => rfl⟩) (by assumption) ?_
      simp only [Act.put, List.getElem_toArray, List.getElem_cons_zero, List.getElem_cons_succ, List.setIfInBounds_toArray, List.set_cons_zero, List.set_cons_succ]
      refine wpAnyH_take (i := 7) (v := .int .u8 q) rfl (by kernel_rfl) (by kernel_rfl) (by kernel_rfl) (fun _ _ _ h => h) (Or.inl ⟨by rfl, fun _ _ => rfl⟩) (by assumption) ?_
      simp only [Act.put, List.getElem_toArray, List.getElem_cons_zero, List.getElem_cons_succ, List.setIfInBounds_toArray, List.set_cons_zero, List.set_cons_succ]
      refine wpAnyH_take (i := 8) (v := .int .u8 (q + 1)) rfl (by kernel_rfl) (by kernel_rfl) (by kernel_rfl) (fun _ _ _ h => h) (Or.inl ⟨by rfl, fun _ _ => by go_simp; exact u8_small _ _ (by omega) (by omega) (by omega)⟩) (by assumption) ?_
      simp only [Act.put, List.getElem_toArray, List.getElem_cons_zero, List.getElem_cons_succ, List.setIfInBounds_toArray, List.set_cons_zero, List.set_cons_succ]
      refine wpAnyH_take (i := 9) (v := .string d2) rfl (by kernel_rfl) (by kernel_rfl) (by kernel_rfl) (fun _ _ _ h => h) (Or.inl ⟨by rfl, fun _ _ => by go_simp; rw [if_pos ⟨by omega, by omega⟩, if_pos (by omega), G2.out]⟩) (by assumption) ?_
      simp only [Act.put, List.getElem_toArray, List.getElem_cons_zero, List.getElem_cons_succ, List.setIfInBounds_toArray, List.set_cons_zero, List.set_cons_succ]
      refine wpAnyH_take (i := 10) (v := .string (S ++ d1 ++ d2)) rfl (by kernel_rfl) (by kernel_rfl) (by kernel_rfl) (fun _ _ _ h => h) (Or.inl ⟨by rfl, fun _ _ => by go_simp; omega⟩) (by assumption) ?_
      simp only [Act.put, List.getElem_toArray, List.getElem_cons_zero, List.getElem_cons_succ, List.setIfInBounds_toArray, List.set_cons_zero, List.set_cons_succ]
      refine wpAnyH_take (i := 11) (v := .string (S ++ d1 ++ d2)) rfl (by kernel_rfl) (by kernel_rfl) (by kernel_rfl) (fun _ _ _ h => h) (Or.inl ⟨by rfl, fun _ _ => rfl⟩) (by assumption) ?_
      simp only [Act.put, List.getElem_toArray, List.getElem_cons_zero, List.getElem_cons_succ, List.setIfInBounds_toArray, List.set_cons_zero, List.set_cons_succ]
      refine wpAnyH_done (by kernel_rfl) ?_ _
      go_wp2_with fail
      go_roundw
      case rel => exact ⟨i + 1, by omega, by go_num, by rw [HJ.out], hS0.1, hS0.2⟩
      case measure => simp [intOf]; omega
    · obtain rfl : i = 32 := by omega
      have hT : strZ ((hexTo h 64).take (2 * 32)) = hexS h := by rw [hexS, List.take_of_length_le (by rw [hexTo_length]; omega)]
      have HT : Keep _ := ⟨hT⟩
      clear hT hc hb
      generalize strZ ((hexTo h 64).take (2 * 32)) = S at HT
      go_wp2_with fail
      go_ret
      exact ⟨by rw [← HT.out]; rfl, HB.out⟩
end Go.Proofs.Ytmaoaljohjkjeaa
