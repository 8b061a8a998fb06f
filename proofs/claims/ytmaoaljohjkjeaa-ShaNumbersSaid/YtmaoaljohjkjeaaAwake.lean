/- Contracts of Of at nothing and at abc, and of the laws own awake: it answers true. No conditions. -/
import Derived.Test.YtmaoaljohjkjeaaHex
import Derived.Lib.SlBytesConst
namespace Go.Proofs.Ytmaoaljohjkjeaa
open Go.ChangeShapes Go.WideShapes Go.ChangeAt Go.RowKit

theorem outTo_range (H : List Int) (i : Nat) : ∀ k, 0 ≤ (outTo H k).getD i 0 ∧ (outTo H k).getD i 0 < 256
  | 0 => by
    unfold outTo
    by_cases h : i < 32
    · rw [List.getD_eq_getElem?_getD, List.getElem?_replicate, if_pos h]; decide
    · rw [List.getD_eq_getElem?_getD, List.getElem?_replicate, if_neg h]; decide
  | k + 1 => by
    rw [outTo]
    by_cases h : 4 * (k / 4) + 3 - k % 4 = i
    · by_cases hl : i < (outTo H k).length
      · rw [h, getD_set_same _ _ _ hl]; omega
      · rw [List.set_eq_of_length_le (by omega)]; exact outTo_range H i k
    · rw [getD_set_other _ _ _ _ h]; exact outTo_range H i k

theorem ofZ_length (zs : List Int) : (ofZ zs).length = 32 := outTo_length _ _
theorem ofZ_range (zs : List Int) (i : Nat) : 0 ≤ (ofZ zs).getD i 0 ∧ (ofZ zs).getD i 0 < 256 := outTo_range _ _ _

/-- the text of a hash -/
def hexS (h : List Int) : ByteArray := strZ (hexTo h 64)
theorem hex_of (zs : List Int) (w : World) : Calls Try.prog 18 #[.agg ((ofZ zs).map (Value.int .u8)).toArray] w fun e w' => e = .returned (.string (hexS (ofZ zs))) ∧ Below w.heap.size w w' :=
  hex_any (ofZ zs) (ofZ_length zs) (fun i _ => ofZ_range zs i) w

theorem of_nil (w : World) : Calls Try.prog 19 #[.slice none 0 0] w fun e w' => e = .returned (.agg ((ofZ []).map (Value.int .u8)).toArray) ∧ Below w.heap.size w w' :=
  of_any [] none 0 w (Or.inl rfl) (by simp)

/-- bytes in a new block -/
theorem bytes_new (zs : List Int) (w : World) (B : Nat) (hB : B = w.heap.size) (t : TypeId) : Bytes (w.alloc (.cells (zs.map (Value.int .u8)).toArray t)) (some ⟨B, 0, none⟩) zs := by
  refine .inr ⟨B, 0, rfl, fun i hi => ?_⟩
  rw [Nat.zero_add, (Holds.made' hB t (zs.map (Value.int .u8))).cell]
  exact map_cell _ zs i hi 0

/-- bytes of a constant, in their new, marked block -/
theorem bytes_marked (zs : List Int) (w : World) (B : Nat) (hB : B = w.heap.size) (t : TypeId) (fr : Nat × Nat) : Bytes (w.alloc (.cells (zs.map (Value.int .u8)).toArray t fr)) (some ⟨B, 0, none⟩) zs := by
  subst hB
  refine .inr ⟨w.heap.size, 0, rfl, fun i hi => ?_⟩
  rw [Nat.zero_add, World.cell?_alloc_mark, List.getElem?_toArray]
  exact map_cell _ zs i hi 0

theorem of_abc (w : World) (B : Nat) (hB : B = w.heap.size) : Calls Try.prog 19 #[.slice (some ⟨B, 0, none⟩) 3 3] (w.alloc (.cells #[.int .u8 97, .int .u8 98, .int .u8 99] 5 (3, 4))) fun e w' => e = .returned (.agg ((ofZ [97, 98, 99]).map (Value.int .u8)).toArray) ∧ Below (w.alloc (.cells #[.int .u8 97, .int .u8 98, .int .u8 99] 5 (3, 4))).heap.size (w.alloc (.cells #[.int .u8 97, .int .u8 98, .int .u8 99] 5 (3, 4))) w' :=
  of_any [97, 98, 99] _ 3 _ (bytes_marked [97, 98, 99] w B hB 5 (3, 4)) (by simp)

theorem hex_none : hexTo (ofZ []) 64 = [101, 51, 98, 48, 99, 52, 52, 50, 57, 56, 102, 99, 49, 99, 49, 52, 57, 97, 102, 98, 102, 52, 99, 56, 57, 57, 54, 102, 98, 57, 50, 52, 50, 55, 97, 101, 52, 49, 101, 52, 54, 52, 57, 98, 57, 51, 52, 99, 97, 52, 57, 53, 57, 57, 49, 98, 55, 56, 53, 50, 98, 56, 53, 53] := by decide +kernel
theorem hex_abc : hexTo (ofZ [97, 98, 99]) 64 = [98, 97, 55, 56, 49, 54, 98, 102, 56, 102, 48, 49, 99, 102, 101, 97, 52, 49, 52, 49, 52, 48, 100, 101, 53, 100, 97, 101, 50, 50, 50, 51, 98, 48, 48, 51, 54, 49, 97, 51, 57, 54, 49, 55, 55, 97, 57, 99, 98, 52, 49, 48, 102, 102, 54, 49, 102, 50, 48, 48, 49, 53, 97, 100] := by decide +kernel

theorem strZ_toList (ns : List Int) : (strZ ns).toList = ns.map (fun n => UInt8.ofNat n.toNat) := by
  have key : ∀ (ns : List Int) (r : ByteArray), (ns.foldl (fun r n => r.push (UInt8.ofNat n.toNat)) r).data.toList = r.data.toList ++ ns.map (fun n => UInt8.ofNat n.toNat) := by
    intro ns
    induction ns with
    | nil => intro r; simp
    | cons n ns ih => intro r; rw [List.foldl_cons, ih]; simp [ByteArray.push]
  rw [ByteArray.toList_eq, strZ, key]; rfl

theorem eq_none : ((hexS (ofZ [])).toList == [101, 51, 98, 48, 99, 52, 52, 50, 57, 56, 102, 99, 49, 99, 49, 52, 57, 97, 102, 98, 102, 52, 99, 56, 57, 57, 54, 102, 98, 57, 50, 52, 50, 55, 97, 101, 52, 49, 101, 52, 54, 52, 57, 98, 57, 51, 52, 99, 97, 52, 57, 53, 57, 57, 49, 98, 55, 56, 53, 50, 98, 56, 53, 53]) = true := by
  rw [hexS, strZ_toList, hex_none]; decide +kernel
theorem eq_abc : ((hexS (ofZ [97, 98, 99])).toList == [98, 97, 55, 56, 49, 54, 98, 102, 56, 102, 48, 49, 99, 102, 101, 97, 52, 49, 52, 49, 52, 48, 100, 101, 53, 100, 97, 101, 50, 50, 50, 51, 98, 48, 48, 51, 54, 49, 97, 51, 57, 54, 49, 55, 55, 97, 57, 99, 98, 52, 49, 48, 102, 102, 54, 49, 102, 50, 48, 48, 49, 53, 97, 100]) = true := by
  rw [hexS, strZ_toList, hex_abc]; decide +kernel

set_option maxRecDepth 100000 in
theorem awake_any (w : World) : Calls Try.prog 21 #[] w fun e w' => e = .returned (.bool true) ∧ Below w.heap.size w w' := by
  have e1 := eq_none
  have e2 := eq_abc
  have kc := fun (w : World) (C : Array Value) (n c : Nat) => Lib.run_convert_bytes_const (P := Try.prog) w 34 5 C n c Try.underlying34 Try.underlying5
  go_enter Try.func21, Try.ntmps21
  go_wp2_with fail
  refine (of_nil _).mono ?_
  rintro e w1 ⟨rfl, hb1⟩
  go_wp2_with fail
  refine (hex_of [] _).mono ?_
  rintro e w2 ⟨rfl, hb2⟩
  go_wp2_with fail
  refine (of_abc _ _ rfl).mono ?_
  rintro e w3 ⟨rfl, hb3⟩
  go_wp2_with fail
  refine (hex_of _ _).mono ?_
  rintro e w4 ⟨rfl, hb4⟩
  go_wp2_with fail
  go_ret
  exact ⟨rfl, bthen hb1 (bthen hb2 (bthen (balloc _ _) (bthen hb3 hb4)))⟩
end Go.Proofs.Ytmaoaljohjkjeaa
