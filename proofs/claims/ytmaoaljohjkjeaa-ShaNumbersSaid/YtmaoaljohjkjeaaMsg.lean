/- Contracts of the message of chapter 11: its bytes with their padding, its numbers, and the function value that block is handed. Conditions: sizes below 2 to the 47th; places within the message. -/
import Derived.Test.YtmaoaljohjkjeaaBlk
import Derived.BigQuiet
import Derived.Deep.QuietTactic
namespace Go.Proofs.Ytmaoaljohjkjeaa
open Go.ChangeShapes Go.WideShapes Go.ChangeAt Go.RowKit

/-- the slice at A reads as the bytes zs -/
def Bytes (w : World) (A : Option Addr) (zs : List Int) : Prop :=
  zs = [] ∨ ∃ b off, A = some ⟨b, off, none⟩ ∧ ∀ i, i < zs.length → w.cell? ⟨b, off + i, none⟩ = some (.int .u8 (zs.getD i 0))

theorem Bytes.below {w w' : World} {A : Option Addr} {zs : List Int} (h : Bytes w A zs) (hb : Below w.heap.size w w') : Bytes w' A zs := by
  rcases h with h | ⟨b, off, hA, h⟩
  · exact .inl h
  · exact .inr ⟨b, off, hA, fun i hi => (hb.cell (p := ⟨b, off + i, none⟩) (block_lt_of_cell (h i hi))).trans (h i hi)⟩

/-- the byte at a place of the bytes with their padding, as sha has it -/
def padZ (zs : List Int) (B i : Nat) : Int :=
  if i < zs.length then zs.getD i 0 else if i = zs.length then 128 else if 64 * B ≤ i + 8 then (zs.length * 8 : Int) / 2 ^ (8 * (B * 64 - 8 + 7 - i)) % 256 else 0

theorem at_any (zs : List Int) (A : Option Addr) (cap B i : Nat) (w : World) (hz : Bytes w A zs) (hl : zs.length ≤ 140737488355328) (hB : zs.length + 8 < 64 * B) (hB2 : B ≤ 140737488355328) (hi : i < 64 * B) :
    Calls Try.prog 40 #[.agg #[.slice A zs.length cap, .int .i64 B], .int .i64 i] w fun e w' => e = .returned (.int .u8 (padZ zs B i)) ∧ Below w.heap.size w w' := by
  by_cases h1 : i < zs.length
  · rcases hz with rfl | ⟨b, off, rfl, hc⟩
    · simp at h1
    · have c := hc i h1
      have hp := Lib.hid (show padZ zs B i = zs.getD i 0 by rw [padZ, if_pos h1])
      generalize zs.getD i 0 = z at c hp
      clear hc
      have hd : decide ((i : Int) < (zs.length : Int)) = true := by simp; omega
      have hlt := block_lt_of_cell c
      go_enter Try.func40, Try.ntmps40
      go_wp2
      go_ret
      exact ⟨by rw [hp.out]; rfl, balloc _ _⟩
  · have hd : decide ((i : Int) < (zs.length : Int)) = false := by simp; omega
    by_cases h2 : i = zs.length
    · have hp := Lib.hid (show padZ zs B i = 128 by rw [padZ, if_neg h1, if_pos h2])
      have hd2 : ((i : Int) == (zs.length : Int)) = true := by simp; omega
      clear h2
      go_enter Try.func40, Try.ntmps40
      go_wp2
      go_ret
      exact ⟨by rw [hp.out]; rfl, balloc _ _⟩
    · have hd2 : ((i : Int) == (zs.length : Int)) = false := by simp; omega
      by_cases h3 : 64 * B ≤ i + 8
      · have hp := Lib.hid (show padZ zs B i = (zs.length * 8 : Int) / 2 ^ (8 * (B * 64 - 8 + 7 - i)) % 256 by rw [padZ, if_neg h1, if_neg h2, if_pos h3])
        have hd3 : decide ((i : Int) ≥ (B : Int) * 64 - 8) = true := by simp; omega
        go_enter Try.func40, Try.ntmps40
        go_wp2
        go_ret
        rw [hp.out]
        exact ⟨rfl, balloc _ _⟩
      · have hp := Lib.hid (show padZ zs B i = 0 by rw [padZ, if_neg h1, if_neg h2, if_neg h3])
        have hd3 : decide ((i : Int) ≥ (B : Int) * 64 - 8) = false := by simp; omega
        go_enter Try.func40, Try.ntmps40
        go_wp2
        go_ret
        exact ⟨by rw [hp.out]; rfl, balloc _ _⟩

/-- the first k bytes of the i-th number -/
def wordTo (zs : List Int) (B i : Nat) : Nat → Int
  | 0 => 0
  | k + 1 => (wordTo zs B i k * 256 % 4294967296 + padZ zs B (4 * i + k) % 4294967296) % 4294967296

theorem Bytes.under {w w' : World} {A : Option Addr} {zs : List Int} (h : Bytes w A zs) (hb : Below w.heap.size w w') : Bytes w' A zs := h.below hb

theorem word_any (zs : List Int) (A : Option Addr) (cap B i : Nat) (w : World) (hz : Bytes w A zs) (hl : zs.length ≤ 140737488355328) (hB : zs.length + 8 < 64 * B) (hB2 : B ≤ 140737488355328) (hi : i < 16 * B) :
    Calls Try.prog 33 #[.agg #[.slice A zs.length cap, .int .i64 B], .int .i64 i] w fun e w' => e = .returned (.int .u32 (wordTo zs B i 4)) ∧ Below w.heap.size w w' := by
  have HZ := Lib.hid hz
  clear hz
  go_enter Try.func33, Try.ntmps33
  go_wp2_with fail
  go_loopw [5, 7] (fun v kv wr => ∃ k : Nat, k ≤ 4 ∧ kv = .int .i64 k ∧ v = .int .u32 (wordTo zs B i k) ∧ Holds wr w.heap.size 51 [.slice A zs.length cap, .int .i64 B] ∧ Below w.heap.size w wr) (fun _ kv _ => 4 - (intOf kv).toNat)
  case atStart => exact ⟨0, by omega, rfl, rfl, Holds.made w 51 _, balloc _ _⟩
  case round =>
    obtain ⟨k, hk, rfl, rfl, hh, hb⟩ := hrel
    have c0 := hh.cell 0
    have c1 := hh.cell 1
    simp only [List.getElem?_cons_zero, List.getElem?_cons_succ] at c0 c1
    by_cases hlt : k < 4
    · have HS := Lib.hid (show wordTo zs B i (k + 1) = (wordTo zs B i k * 256 % 4294967296 + padZ zs B (4 * i + k) % 4294967296) % 4294967296 from rfl)
      have ha := at_any zs A cap B (4 * i + k) wr (HZ.out.below hb) hl hB hB2 (by omega)
      rw [show ((4 * i + k : Nat) : Int) = 4 * (i : Int) + (k : Int) by omega] at ha
      generalize hp : padZ zs B (4 * i + k) = p at ha
      have HP := Lib.hid hp
      have HA := Lib.hid ha
      clear hp ha
      go_wp2_with (go_at_call 40; refine HA.out.mono ?_; rintro e w' ⟨rfl, hb2⟩)
      go_roundw
      case rel => exact ⟨k + 1, by omega, by go_num, by rw [HS.out, HP.out], hh.below hb2, hb.trans (hb2.mono hb.size)⟩
      case measure => simp [intOf]; omega
    · obtain rfl : k = 4 := by omega
      go_wp2_with fail
      go_ret
      exact ⟨rfl, hb⟩

/-- the function value that block is handed: the t-th number of the i-th block -/
theorem tell_any (zs : List Int) (A : Option Addr) (cap B i t : Nat) (bm bi : Nat) (w : World) (hz : Bytes w A zs) (hl : zs.length ≤ 140737488355328) (hB : zs.length + 8 < 64 * B) (hB2 : B ≤ 140737488355328) (hi : i < B) (ht : t < 16)
    (hm : Holds w bm 51 [.slice A zs.length cap, .int .i64 B]) (hi' : Holds w bi 3 [.int .i64 i]) :
    Calls Try.prog 32 #[.int .i64 t, .pointer (some ⟨bm, 0, none⟩), .pointer (some ⟨bi, 0, none⟩)] w fun e w' => e = .returned (.int .u32 (wordTo zs B (16 * i + t) 4)) ∧ Below w.heap.size w w' := by
  have c0 := hm.cell 0
  have c1 := hm.cell 1
  have c2 := hi'.cell 0
  simp only [List.getElem?_cons_zero, List.getElem?_cons_succ] at c0 c1 c2
  have ha := word_any zs A cap B (16 * i + t) w hz hl hB hB2 (by omega)
  rw [show ((16 * i + t : Nat) : Int) = 16 * (i : Int) + (t : Int) by omega] at ha
  have HA := Lib.hid ha
  clear ha
  go_enter Try.func32, Try.ntmps32
  go_wp2_with (go_at_call 33; refine HA.out.mono ?_; rintro e w' ⟨rfl, hb2⟩)
  go_ret
  exact ⟨rfl, hb2⟩
end Go.Proofs.Ytmaoaljohjkjeaa
