/- The walk of ShaStays at slices of at most 1000 bytes each: it answers true and turns nothing that was there. (A part of it was printed by a small program of ours, genregion.py.) -/
import Derived.Test.YtmaoaljohjkjeaaEq
namespace Go.Proofs.Ytmaoaljohjkjeaa
open Go.ChangeShapes Go.WideShapes Go.ChangeAt Go.RowKit

theorem rangeAt_below {w w' : World} {g o : Nat} {cs : List Value} (h : w.rangeAt g o cs) (hb : Below w.heap.size w w') : w'.rangeAt g o cs := fun j v hv =>
  (hb.cell (p := ⟨g, o + j, none⟩) (block_lt_of_cell (h j v hv))).trans (h j v hv)

/-- the hash of xs as cells, behind a name -/
structure IsHash (xs : List Int) (L : List Value) : Prop where
  eq : (ofZ xs).map (Value.int .u8) = L
theorem IsHash.len {xs : List Int} {L : List Value} (h : IsHash xs L) : L.length = 32 := by rw [← h.eq, List.length_map, ofZ_length]
theorem IsHash.one {xs : List Int} {L : List Value} (h : IsHash xs L) : ∀ v ∈ L, v.oneCell' = true := by rw [← h.eq]; exact ones _ _
theorem IsHash.of {xs : List Int} {L : List Value} (h : IsHash xs L) (A : Option Addr) (cap : Nat) (w : World) (hz : Bytes w A xs) (hl : xs.length ≤ 140737488355328) :
    Calls Try.prog 19 #[.slice A xs.length cap] w fun e w' => e = .returned (.agg L.toArray) ∧ Below w.heap.size w w' := by
  rw [← h.eq]; exact of_any xs A cap w hz hl
theorem IsHash.hex {xs : List Int} {L : List Value} (h : IsHash xs L) (w : World) : Calls Try.prog 18 #[.agg L.toArray] w fun e w' => e = .returned (.string (hexS (ofZ xs))) ∧ Below w.heap.size w w' := by
  rw [← h.eq]; exact hex_of xs w
theorem IsHash.there {xs : List Int} {L : List Value} (h : IsHash xs L) {w : World} {g : Nat} {t : TypeId} {cs : List Value} (hg : Holds w g t cs) (hc : cs.length = 32) : w.there g 0 L.toArray.size := (show w.there g 0 L.length by rw [h.len, ← hc]; exact hg.there')
theorem IsHash.size {xs : List Int} {L : List Value} (h : IsHash xs L) : (Try.prog.info? 32).map (·.size) = some L.toArray.size := (show _ = some L.length by rw [h.len]; exact size32)

set_option maxRecDepth 100000 in
set_option maxHeartbeats 2000000 in
theorem stays_core (xs ys : List Int) (A B : Option Addr) (c d : Nat) (w : World) (ha : Bytes w A xs) (hb : Bytes w B ys) (hx : xs.length ≤ 1000) (hy : ys.length ≤ 1000) :
    Calls Try.prog 11 #[.slice A xs.length c, .slice B ys.length d] w fun e w' => e = .returned (.bool true) ∧ Below w.heap.size w w' := by
  have HA : Keep _ := ⟨ha⟩
  have HB : Keep _ := ⟨hb⟩
  clear ha hb
  have d1 : decide (1000 < (xs.length : Int)) = false := by simp; omega
  have d2 : decide (1000 < (ys.length : Int)) = false := by simp; omega
  go_enter Try.func11, Try.ntmps11
  go_wp2_with fail
  refine (copy_any xs A c _ HA.out (by omega)).mono ?_
  rintro e w1 ⟨A1, c1, rfl, ha1, hb1⟩
  have HA1 : Keep _ := ⟨ha1⟩
  clear ha1
  obtain ⟨L, hL⟩ : ∃ L, IsHash xs L := ⟨_, ⟨rfl⟩⟩
  go_upto_region 4 with fail
  go_cut [6] (fun s6 wc => ∃ g : Nat, s6 = .pointer (some ⟨g, 0, none⟩) ∧ Holds wc g 32 L ∧ Below w1.heap.size w1 wc)
  case first =>
    go_wp2_with (first | (go_at_call 19; refine (hL.of A1 c1 w1 HA1.out (by omega)).mono ?_; rintro e w2 ⟨rfl, hb2⟩) | (refine wpList_store_mid rfl 32 (.tmp 6) (.tmp 20) rfl w2.heap.size 0 L.toArray rfl rfl ?tA hL.size (all_oneCell_toArray hL.one) ?_))
    case tA => exact hL.there (Holds.made w2 32 _) rfl
    go_meet
    case rel => exact ⟨_, rfl, (Holds.made w2 32 _).laid0 _ (by rw [hL.len]; rfl), Below.setCells hb2.size _ _ _ (bthen hb2 (balloc _ _))⟩
  case rest =>
    obtain ⟨g, rfl, hg, hb3⟩ := hcut
    have HG : Keep _ := ⟨hg⟩
    clear hg
    go_wp2_with fail
    refine (of_any ys B d wc ((HB.out.below hb1).below hb3) (by omega)).mono ?_
    rintro e w4 ⟨rfl, hb4⟩
    go_upto_region 6 with fail
    go_cut [7] (fun s7 wd => ∃ k : Nat, s7 = .pointer (some ⟨k, 0, none⟩) ∧ Holds wd k 32 L ∧ Below wc.heap.size wc wd)
    case first =>
      go_wp2_with fail
      refine (copy_any xs A c _ (((HA.out.below hb1).below hb3).below hb4) (by omega)).mono ?_
      rintro e w5 ⟨A2, c2, rfl, ha2, hb5⟩
      have HA2 : Keep _ := ⟨ha2⟩
      clear ha2
      go_wp2_with (first | (go_at_call 19; refine (hL.of A2 c2 w5 HA2.out (by omega)).mono ?_; rintro e w6 ⟨rfl, hb6⟩) | (refine wpList_store_mid rfl 32 (.tmp 7) (.tmp 25) rfl w6.heap.size 0 L.toArray rfl rfl ?tA hL.size (all_oneCell_toArray hL.one) ?_))
      case tA => exact hL.there (Holds.made w6 32 _) rfl
      have hb7 := bthen hb4 (bthen hb5 hb6)
      go_meet
      case rel => exact ⟨_, rfl, (Holds.made w6 32 _).laid0 _ (by rw [hL.len]; rfl), Below.setCells hb7.size _ _ _ (bthen hb7 (balloc _ _))⟩
    case rest =>
      rename_i wd
      obtain ⟨k, rfl, hk, hb8⟩ := hcut
      have lL : Keep (L.length = 32) := ⟨hL.len⟩
      have s32 : (Try.prog.info? 32).map (·.size) = some L.length := by rw [lL.out]; exact size32
      have u32 := Try.underlying32
      have rk := hk.range
      have rg := (HG.out.below hb8).range
      have bA1 := (HA1.out.below hb3).below hb8
      have bA := ((HA.out.below hb1).below hb3).below hb8
      have heq : ∀ W : World, (binOp .eql 32 (.agg L.toArray) (.agg L.toArray)).run Try.prog W = .ok (.bool true) W := fun W => by
        rw [← hL.eq, eql_hash _ _ W (ofZ_length _) (ofZ_length _)]; simp
      have hbw := bthen hb1 (bthen hb3 hb8)
      have htx : ((hexS (ofZ xs)).toList == (hexS (ofZ xs)).toList) = true := by simp
      have CH := fun W => hL.hex W
      generalize hexS (ofZ xs) = T at htx CH
      have HCH : Keep _ := ⟨CH⟩
      have HBW : Keep _ := ⟨hbw⟩
      clear CH hb1 hb3 hb4 hb8 hk hbw
      go_upto_region 7 with fail
      refine wp_region_held_drew (S := fun w' => w'.rangeAt g 0 L ∧ w'.rangeAt k 0 L ∧ Bytes w' A1 xs ∧ Bytes w' A xs ∧ Below w.heap.size w w') (by kernel_rfl) ⟨rg, rk, bA1, bA, HBW.out.drew⟩ (fun hS0 => ?_)
      refine wpAnyH_take (i := 0) (v := _) rfl (by kernel_rfl) (by kernel_rfl) (by kernel_rfl) (fun _ _ _ h => h) (Or.inl ⟨by rfl, fun _ _ => rfl⟩) (by assumption) ?_
      simp only [Act.put, List.getElem_toArray, List.getElem_cons_zero, List.setIfInBounds_toArray, List.set_cons_zero, List.set_cons_succ]
      refine wpAnyH_take (i := 1) (v := _) rfl (by kernel_rfl) (by kernel_rfl) (by kernel_rfl) (fun _ _ _ h => h) (Or.inl ⟨by rfl, fun _ _ => rfl⟩) (by assumption) ?_
      simp only [Act.put, List.getElem_toArray, List.getElem_cons_zero, List.getElem_cons_succ, List.setIfInBounds_toArray, List.set_cons_zero, List.set_cons_succ]
      refine wpAnyH_ready (rs := [2]) (by kernel_rfl) (by simp) ?_
      refine AllReadyH.cons rfl (fun K' hK => ?_) AllReadyH.nil
      rw [if_pos (by rfl)]
      go_simp
      refine (same_any xs A1 A c1 c _ hS0.2.2.1 hS0.2.2.2.1).mono ?_
      rintro e1 wx ⟨rfl, rfl⟩
      refine hK.out _ _ hS0 (fun hSx => ?_)
      clear hK K'
      refine wpAnyH_take (i := 3) (v := _) rfl (by kernel_rfl) (by kernel_rfl) (by kernel_rfl) (fun _ _ _ h => h) (Or.inl ⟨by rfl, fun _ _ => rfl⟩) (by assumption) ?_
      simp only [Act.put, List.getElem_toArray, List.getElem_cons_zero, List.getElem_cons_succ, List.setIfInBounds_toArray, List.set_cons_zero, List.set_cons_succ]
      refine wpAnyH_take (i := 4) (v := .agg L.toArray) rfl (by kernel_rfl) (by kernel_rfl) (by kernel_rfl) (fun _ _ _ h => h) (yieldsIf_load_mid (by rfl) 32 (.tmp 6) rfl g 0 rfl L _ (fun _ h => h.1) u32 rfl s32) (by assumption) ?_
      simp only [Act.put, List.getElem_toArray, List.getElem_cons_zero, List.getElem_cons_succ, List.setIfInBounds_toArray, List.set_cons_zero, List.set_cons_succ]
      refine wpAnyH_take (i := 5) (v := .agg L.toArray) rfl (by kernel_rfl) (by kernel_rfl) (by kernel_rfl) (fun _ _ _ h => h) (yieldsIf_load_mid (by rfl) 32 (.tmp 7) rfl k 0 rfl L _ (fun _ h => h.2.1) u32 rfl s32) (by assumption) ?_
      simp only [Act.put, List.getElem_toArray, List.getElem_cons_zero, List.getElem_cons_succ, List.setIfInBounds_toArray, List.set_cons_zero, List.set_cons_succ]
      refine wpAnyH_take (i := 6) (v := .bool true) rfl (by kernel_rfl) (by kernel_rfl) (by kernel_rfl) (fun _ _ _ h => h) (Or.inl ⟨by rfl, fun _ _ => by go_simp⟩) (by assumption) ?_
      simp only [Act.put, List.getElem_toArray, List.getElem_cons_zero, List.getElem_cons_succ, List.setIfInBounds_toArray, List.set_cons_zero, List.set_cons_succ]
      refine wpAnyH_take (i := 7) (v := _) rfl (by kernel_rfl) (by kernel_rfl) (by kernel_rfl) (fun _ _ _ h => h) (Or.inl ⟨by rfl, fun _ _ => rfl⟩) (by assumption) ?_
      simp only [Act.put, List.getElem_toArray, List.getElem_cons_zero, List.getElem_cons_succ, List.setIfInBounds_toArray, List.set_cons_zero, List.set_cons_succ]
      refine wpAnyH_take (i := 8) (v := _) rfl (by kernel_rfl) (by kernel_rfl) (by kernel_rfl) (fun _ _ _ h => h) (Or.inl ⟨by rfl, fun _ _ => rfl⟩) (by assumption) ?_
      simp only [Act.put, List.getElem_toArray, List.getElem_cons_zero, List.getElem_cons_succ, List.setIfInBounds_toArray, List.set_cons_zero, List.set_cons_succ]
      refine wpAnyH_take (i := 9) (v := .agg L.toArray) rfl (by kernel_rfl) (by kernel_rfl) (by kernel_rfl) (fun _ _ _ h => h) (yieldsIf_load_mid (by rfl) 32 (.tmp 6) rfl g 0 rfl L _ (fun _ h => h.1) u32 rfl s32) (by assumption) ?_
      simp only [Act.put, List.getElem_toArray, List.getElem_cons_zero, List.getElem_cons_succ, List.setIfInBounds_toArray, List.set_cons_zero, List.set_cons_succ]
      refine wpAnyH_take (i := 11) (v := .agg L.toArray) rfl (by kernel_rfl) (by kernel_rfl) (by kernel_rfl) (fun _ _ _ h => h) (yieldsIf_load_mid (by rfl) 32 (.tmp 7) rfl k 0 rfl L _ (fun _ h => h.2.1) u32 rfl s32) (by assumption) ?_
      simp only [Act.put, List.getElem_toArray, List.getElem_cons_zero, List.getElem_cons_succ, List.setIfInBounds_toArray, List.set_cons_zero, List.set_cons_succ]
      refine wpAnyH_ready (rs := [10]) (by kernel_rfl) (by simp) ?_
      refine AllReadyH.cons rfl (fun K' hK => ?_) AllReadyH.nil
      rw [if_pos (by rfl)]
      go_simp
      refine (HCH.out _).mono ?_
      rintro e1 wx ⟨rfl, hbx⟩
      refine hK.out _ _ ⟨rangeAt_below hS0.1 hbx, rangeAt_below hS0.2.1 hbx, hS0.2.2.1.below hbx, hS0.2.2.2.1.below hbx, bthen hS0.2.2.2.2 hbx⟩ (fun hSx => ?_)
      clear hK K'
      have hS1 := hSx
      refine wpAnyH_ready (rs := [12]) (by kernel_rfl) (by simp) ?_
      refine AllReadyH.cons rfl (fun K' hK => ?_) AllReadyH.nil
      rw [if_pos (by rfl)]
      go_simp
      refine (HCH.out _).mono ?_
      rintro e1 wy ⟨rfl, hby⟩
      refine hK.out _ _ ⟨rangeAt_below hS1.1 hby, rangeAt_below hS1.2.1 hby, hS1.2.2.1.below hby, hS1.2.2.2.1.below hby, bthen hS1.2.2.2.2 hby⟩ (fun hSx => ?_)
      clear hK K'
      have hS2 := hSx
      refine wpAnyH_take (i := 13) (v := .bool true) rfl (by kernel_rfl) (by kernel_rfl) (by kernel_rfl) (fun _ _ _ h => h) (Or.inl ⟨by rfl, fun _ _ => by go_simp⟩) (by assumption) ?_
      simp only [Act.put, List.getElem_toArray, List.getElem_cons_zero, List.getElem_cons_succ, List.setIfInBounds_toArray, List.set_cons_zero, List.set_cons_succ]
      refine wpAnyH_take (i := 14) (v := _) rfl (by kernel_rfl) (by kernel_rfl) (by kernel_rfl) (fun _ _ _ h => h) (Or.inl ⟨by rfl, fun _ _ => rfl⟩) (by assumption) ?_
      simp only [Act.put, List.getElem_toArray, List.getElem_cons_zero, List.getElem_cons_succ, List.setIfInBounds_toArray, List.set_cons_zero, List.set_cons_succ]
      refine wpAnyH_take (i := 15) (v := _) rfl (by kernel_rfl) (by kernel_rfl) (by kernel_rfl) (fun _ _ _ h => h) (Or.inl ⟨by rfl, fun _ _ => rfl⟩) (by assumption) ?_
      simp only [Act.put, List.getElem_toArray, List.getElem_cons_zero, List.getElem_cons_succ, List.setIfInBounds_toArray, List.set_cons_zero, List.set_cons_succ]
      refine wpAnyH_ready (rs := [16]) (by kernel_rfl) (by simp) ?_
      refine AllReadyH.cons rfl (fun K' hK => ?_) AllReadyH.nil
      rw [if_pos (by rfl)]
      go_simp
      refine (awake_any _).mono ?_
      rintro e1 wz ⟨rfl, hbz⟩
      refine hK.out _ _ ⟨rangeAt_below hS2.1 hbz, rangeAt_below hS2.2.1 hbz, hS2.2.2.1.below hbz, hS2.2.2.2.1.below hbz, bthen hS2.2.2.2.2 hbz⟩ (fun hSx => ?_)
      clear hK K'
      have hS3 := hSx
      refine wpAnyH_take (i := 17) (v := _) rfl (by kernel_rfl) (by kernel_rfl) (by kernel_rfl) (fun _ _ _ h => h) (Or.inl ⟨by rfl, fun _ _ => rfl⟩) (by assumption) ?_
      simp only [Act.put, List.getElem_toArray, List.getElem_cons_zero, List.getElem_cons_succ, List.setIfInBounds_toArray, List.set_cons_zero, List.set_cons_succ]
      refine wpAnyH_take (i := 18) (v := _) rfl (by kernel_rfl) (by kernel_rfl) (by kernel_rfl) (fun _ _ _ h => h) (Or.inl ⟨by rfl, fun _ _ => rfl⟩) (by assumption) ?_
      simp only [Act.put, List.getElem_toArray, List.getElem_cons_zero, List.getElem_cons_succ, List.setIfInBounds_toArray, List.set_cons_zero, List.set_cons_succ]
      refine wpAnyH_done (by kernel_rfl) ?_ _
      go_wp2_with fail
      go_ret
      exact ⟨rfl, hS3.2.2.2.2⟩
end Go.Proofs.Ytmaoaljohjkjeaa
