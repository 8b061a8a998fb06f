/- The contract of sha.Hex and its digit: the text that it answers, as a function of the 32 bytes, in the numbers of the walk. Condition: 32 bytes, each from 0 to 255. -/
import Derived.Test.YtmaoaljohjkjeaaOf
namespace Go.Proofs.Ytmaoaljohjkjeaa
open Go.ChangeShapes Go.WideShapes Go.ChangeAt Go.RowKit

def digitZ (n : Int) : Int := if n < 10 then 48 + n else 87 + n

theorem digit_any (n : Int) (h0 : 0 ≤ n) (h1 : n < 16) (w : World) : Calls Try.prog 29 #[.int .u8 n] w fun e w' => e = .returned (.int .u8 (digitZ n)) ∧ w = w' := by
  by_cases h : n < 10
  · have hd : digitZ n = 48 + n := by rw [digitZ, if_pos h]
    have HD : Keep _ := ⟨hd⟩
    clear hd
    go_enter Try.func29, Try.ntmps29
    go_wp2
    go_ret
    exact ⟨by rw [HD.out]; rfl, rfl⟩
  · have hd : digitZ n = 97 + n - 10 := by rw [digitZ, if_neg h]; omega
    have HD : Keep _ := ⟨hd⟩
    clear hd
    go_enter Try.func29, Try.ntmps29
    go_wp2
    go_ret
    exact ⟨by rw [HD.out]; rfl, rfl⟩

/-- the half byte at a place -/
def halfZ8 (h : List Int) (i : Nat) : Int := if i % 2 = 1 then h.getD (i / 2) 0 % 16 else h.getD (i / 2) 0 / 16
def hexTo (h : List Int) : Nat → List Int
  | 0 => List.replicate 64 0
  | k + 1 => (hexTo h k).set k (digitZ (halfZ8 h k))
theorem hexTo_length (h : List Int) : ∀ k, (hexTo h k).length = 64
  | 0 => List.length_replicate
  | k + 1 => by rw [hexTo, List.length_set]; exact hexTo_length h k

/-- bytes as a text -/
def strZ (ns : List Int) : ByteArray := ns.foldl (fun r n => r.push (UInt8.ofNat n.toNat)) ByteArray.empty
theorem text_of {w : World} {g : Nat} {t : TypeId} {ns : List Int} (h : Holds w g t (ns.map (Value.int .u8))) (n cap : Nat) (hn : n = ns.length) :
    (convert 34 9 (.slice (some ⟨g, 0, none⟩) n cap)).run Try.prog w = .ok (.string (strZ ns)) w := by
  subst hn
  rw [run_convert_bytes_string w 34 9 5 _ _ _ Try.underlying34 Try.underlying5 Try.underlying9]
  refine run_bytesToString w _ _ _ ns ?_
  have := run_loadCells_list (P := Try.prog) w ⟨g, 0, none⟩ (ns.map (Value.int .u8)) (fun j v hv => by rw [Addr.add_mid, Nat.zero_add, h.cell]; exact hv)
  simpa using this

set_option maxRecDepth 100000 in
set_option maxHeartbeats 2000000 in
theorem hex_any (h : List Int) (hl : h.length = 32) (hr : ∀ i, i < 32 → 0 ≤ h.getD i 0 ∧ h.getD i 0 < 256) (w : World) :
    Calls Try.prog 18 #[.agg (h.map (Value.int .u8)).toArray] w fun e w' => e = .returned (.string (strZ (hexTo h 64))) ∧ Below w.heap.size w w' := by
  have HR : Keep _ := ⟨hr⟩
  have HL : Keep _ := ⟨hl⟩
  clear hr hl
  go_enter Try.func18, Try.ntmps18
  go_wp2_with fail
  go_loopw [4, 5, 6] (fun _ _ iv wr => ∃ i : Nat, i ≤ 64 ∧ iv = .int .i64 i ∧ Holds wr w.heap.size 32 (h.map (Value.int .u8)) ∧ Holds wr (w.heap.size + 1) 42 ((hexTo h i).map (Value.int .u8)) ∧ Below w.heap.size w wr) (fun _ _ iv _ => 64 - (intOf iv).toNat)
  case atStart => exact ⟨0, by omega, rfl, (Holds.made w 32 _).alloc _, Holds.made' (by simp) 42 _, bthen (balloc _ _) (balloc _ _)⟩
  case round =>
    obtain ⟨i, hi, rfl, hh, ho, hb⟩ := hrel
    by_cases hlt : i < 64
    · have cx := (hh.cell (i / 2)).trans (map_cell (Value.int .u8) h (i / 2) (by rw [HL.out]; omega) 0)
      have hx := HR.out (i / 2) (by omega)
      obtain ⟨vo, co⟩ := ho.there i (by rw [List.length_map, hexTo_length]; exact hlt)
      have fo := ho.free i
      have hs : hexTo h (i + 1) = (hexTo h i).set i (digitZ (halfZ8 h i)) := rfl
      unfold halfZ8 at hs
      generalize hxx : h.getD (i / 2) 0 = x at cx hx hs
      have HXX : Keep _ := ⟨hxx⟩
      have x0 := hx.1
      have x1 := hx.2
      clear hxx hx
      have q0 : 0 ≤ x % 16 := by omega
      have q1 : x % 16 < 16 := by omega
      have q2 : 0 ≤ x / 16 := by omega
      have q3 : x / 16 < 16 := by omega
      by_cases hp : i % 2 = 1
      · rw [if_pos hp] at hs
        have hp' : ((i : Int) % 2 == 1) = true := by simp; omega
        have HS : Keep _ := ⟨hs⟩
        have HO : Keep _ := ⟨ho.store i (.int .u8 (digitZ (x % 16)))⟩
        have HH : Keep _ := ⟨hh.apart (p := ⟨w.heap.size + 1, i, none⟩) (by simp) (.int .u8 (digitZ (x % 16)))⟩
        clear hs ho hh hp
        go_wp2_with (go_at_call 29; refine (digit_any _ q0 q1 _).mono ?_; rintro e w' ⟨rfl, rfl⟩)
        go_roundw
        case rel => exact ⟨i + 1, by omega, by go_num, HH.out, by rw [HS.out, List.map_set]; exact HO.out, hb.setCell (by simp) _⟩
        case measure => simp [intOf]; omega
      · rw [if_neg hp] at hs
        have hp' : ((i : Int) % 2 == 1) = false := by simp; omega
        have HS : Keep _ := ⟨hs⟩
        have HO : Keep _ := ⟨ho.store i (.int .u8 (digitZ (x / 16)))⟩
        have HH : Keep _ := ⟨hh.apart (p := ⟨w.heap.size + 1, i, none⟩) (by simp) (.int .u8 (digitZ (x / 16)))⟩
        clear hs ho hh hp
        go_wp2_with (go_at_call 29; refine (digit_any _ q2 q3 _).mono ?_; rintro e w' ⟨rfl, rfl⟩)
        go_roundw
        case rel => exact ⟨i + 1, by omega, by go_num, HH.out, by rw [HS.out, List.map_set]; exact HO.out, hb.setCell (by simp) _⟩
        case measure => simp [intOf]; omega
    · obtain rfl : i = 64 := by omega
      have hcv := text_of ho 64 64 (by rw [hexTo_length])
      generalize hS : strZ (hexTo h 64) = S at hcv
      have HS : Keep _ := ⟨hS⟩
      clear ho hh hS
      go_wp2_with fail
      go_ret
      exact ⟨by rw [HS.out]; rfl, hb⟩
end Go.Proofs.Ytmaoaljohjkjeaa
