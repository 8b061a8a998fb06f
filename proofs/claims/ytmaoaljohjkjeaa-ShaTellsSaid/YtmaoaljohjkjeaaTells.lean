/- The walk of ShaTells at a slice of at most 2000 bytes: it answers true and turns nothing that was there. (Parts of it were printed by small programs of ours, genregion.py and gen_tells.py.) -/
import Derived.Test.YtmaoaljohjkjeaaRefOf
import Derived.Test.YtmaoaljohjkjeaaRefHex
namespace Go.Proofs.Ytmaoaljohjkjeaa
open Go.ChangeShapes Go.WideShapes Go.ChangeAt Go.RowKit

set_option maxRecDepth 100000 in
set_option maxHeartbeats 4000000 in
theorem tells_core (xs hs : List Int) (A : Option Addr) (c : Nat) (w : World) (ha : Bytes w A xs) (hr : ∀ i, i < xs.length → 0 ≤ xs.getD i 0 ∧ xs.getD i 0 < 256) (hx : xs.length ≤ 2000) (hh : IsSum hs) :
    Calls Try.prog 8 #[.slice A xs.length c, .agg (hs.map (Value.int .u8)).toArray] w fun e w' => e = .returned (.bool true) ∧ Below w.heap.size w w' := by
  have HA : Keep _ := ⟨ha⟩
  have HR : Keep _ := ⟨hr⟩
  have d1 : decide (2000 < (xs.length : Int)) = false := by simp; omega
  have u32 := Try.underlying32
  have CH : Keep _ := ⟨fun W => hh.hex W⟩
  have CR : Keep _ := ⟨fun W => hexref_any hs hh W⟩
  obtain ⟨LH, eH⟩ : ∃ LH, IsCells hs LH := ⟨_, ⟨rfl⟩⟩
  have lh : Keep (LH.length = 32) := ⟨by rw [← eH.eq, List.length_map, hh.len]⟩
  have sh : (Try.prog.info? 32).map (·.size) = some LH.length := by rw [lh.out]; exact size32
  rw [eH.eq] at CH CR ⊢
  obtain ⟨TH, hTH⟩ : ∃ TH, TH = hexS hs := ⟨_, rfl⟩
  rw [← hTH] at CH CR
  have teq : (TH.toList == TH.toList) = true := by simp
  obtain ⟨Z, eZ⟩ : ∃ Z, IsCells (ofZ xs) Z := ⟨_, ⟨rfl⟩⟩
  have heq : ∀ W : World, (binOp .eql 32 (.agg Z.toArray) (.agg Z.toArray)).run Try.prog W = .ok (.bool true) W := fun W => by
    rw [← eZ.eq, eql_hash _ _ W (ofZ_length _) (ofZ_length _)]; simp
  have CO : Keep _ := ⟨fun (A : Option Addr) (c : Nat) (W : World) (h : Bytes W A xs) => of_any xs A c W h (by omega)⟩
  have CP : Keep _ := ⟨fun (A : Option Addr) (c : Nat) (W : World) (h : Bytes W A xs) => ofref_any xs A c W h HR.out (by omega)⟩
  rw [eZ.eq] at CO CP
  clear ha hr hh hTH
  go_enter Try.func8, Try.ntmps8
  go_wp2_with fail
  refine (copy_any xs A c _ (HA.out.below (balloc _ _)) (by omega)).mono ?_
  rintro e w1 ⟨A1, c1, rfl, ha1, hb1⟩
  have rg : (w.alloc (.cells LH.toArray 32)).rangeAt w.heap.size 0 LH := (Holds.made w 32 LH).range
  have rg1 := rangeAt_below rg hb1
  have RG : Keep (∀ w' : World, Below w1.heap.size w1 w' → w'.rangeAt w.heap.size 0 LH) := ⟨fun w' h => rangeAt_below rg1 h⟩
  have hbw := bthen (balloc w (.cells LH.toArray 32)) hb1
  have HBW : Keep _ := ⟨hbw⟩
  have C19 : Keep (∀ (w' : World), Below w1.heap.size w1 w' → _) := ⟨fun w' h => CO.out A1 c1 w' (ha1.below h)⟩
  have C20 : Keep (∀ (w' : World), Below w1.heap.size w1 w' → _) := ⟨fun w' h => CP.out A c w' ((HA.out.below HBW.out).below h)⟩
  have C24 : Keep (∀ (w' : World), Below w1.heap.size w1 w' → _) := ⟨fun w' h => same_any xs A1 A c1 c w' (ha1.below h) ((HA.out.below HBW.out).below h)⟩
  have C18 : Keep _ := ⟨CH.out⟩
  have C23 : Keep _ := ⟨CR.out⟩
  clear ha1 rg rg1 hbw hb1
  go_upto_region 4 with fail
  refine wp_region_held_drew (S := fun w' => Below w1.heap.size w1 w') (by kernel_rfl) (Below.refl _ _).drew (fun hS0 => ?_)
  refine wpAnyH_take (i := 0) (v := .slice A1 xs.length c1) rfl (by kernel_rfl) (by kernel_rfl) (by kernel_rfl) (fun _ _ _ h => h) (Or.inl ⟨by rfl, fun _ _ => rfl⟩) (by assumption) ?_
  simp only [Act.put, List.getElem_toArray, List.getElem_cons_zero, List.setIfInBounds_toArray, List.set_cons_zero, List.set_cons_succ]
  refine wpAnyH_take (i := 2) (v := .slice A xs.length c) rfl (by kernel_rfl) (by kernel_rfl) (by kernel_rfl) (fun _ _ _ h => h) (Or.inl ⟨by rfl, fun _ _ => rfl⟩) (by assumption) ?_
  simp only [Act.put, List.getElem_toArray, List.getElem_cons_zero, List.getElem_cons_succ, List.setIfInBounds_toArray, List.set_cons_zero, List.set_cons_succ]
  refine wpAnyH_ready (rs := [1]) (by kernel_rfl) (by simp) ?_
  refine AllReadyH.cons rfl (fun K' hK => ?_) AllReadyH.nil
  rw [if_pos (by rfl)]
  go_simp
  refine (C19.out _ hS0).mono ?_
  rintro e1 wx ⟨rfl, hbx⟩
  refine hK.out _ _ (bthen hS0 hbx) (fun hSx => ?_)
  clear hK K'
  have hS1 := hSx
  refine wpAnyH_ready (rs := [3]) (by kernel_rfl) (by simp) ?_
  refine AllReadyH.cons rfl (fun K' hK => ?_) AllReadyH.nil
  rw [if_pos (by rfl)]
  go_simp
  refine (C20.out _ hS1).mono ?_
  rintro e1 wx ⟨rfl, hbx⟩
  refine hK.out _ _ (bthen hS1 hbx) (fun hSx => ?_)
  clear hK K'
  have hS2 := hSx
  refine wpAnyH_take (i := 4) (v := .bool true) rfl (by kernel_rfl) (by kernel_rfl) (by kernel_rfl) (fun _ _ _ h => h) (Or.inl ⟨by rfl, fun _ _ => by go_simp⟩) (by assumption) ?_
  simp only [Act.put, List.getElem_toArray, List.getElem_cons_zero, List.getElem_cons_succ, List.setIfInBounds_toArray, List.set_cons_zero, List.set_cons_succ]
  refine wpAnyH_take (i := 5) (v := .bool true) rfl (by kernel_rfl) (by kernel_rfl) (by kernel_rfl) (fun _ _ _ h => h) (Or.inl ⟨by rfl, fun _ _ => rfl⟩) (by assumption) ?_
  simp only [Act.put, List.getElem_toArray, List.getElem_cons_zero, List.getElem_cons_succ, List.setIfInBounds_toArray, List.set_cons_zero, List.set_cons_succ]
  refine wpAnyH_take (i := 6) (v := .agg LH.toArray) rfl (by kernel_rfl) (by kernel_rfl) (by kernel_rfl) (fun _ _ _ h => h) (yieldsIf_load_mid (by rfl) 32 (.tmp 3) rfl w.heap.size 0 rfl LH _ (fun w' h => RG.out w' h) u32 rfl sh) (by assumption) ?_
  simp only [Act.put, List.getElem_toArray, List.getElem_cons_zero, List.getElem_cons_succ, List.setIfInBounds_toArray, List.set_cons_zero, List.set_cons_succ]
  refine wpAnyH_take (i := 8) (v := .agg LH.toArray) rfl (by kernel_rfl) (by kernel_rfl) (by kernel_rfl) (fun _ _ _ h => h) (yieldsIf_load_mid (by rfl) 32 (.tmp 3) rfl w.heap.size 0 rfl LH _ (fun w' h => RG.out w' h) u32 rfl sh) (by assumption) ?_
  simp only [Act.put, List.getElem_toArray, List.getElem_cons_zero, List.getElem_cons_succ, List.setIfInBounds_toArray, List.set_cons_zero, List.set_cons_succ]
  refine wpAnyH_ready (rs := [7]) (by kernel_rfl) (by simp) ?_
  refine AllReadyH.cons rfl (fun K' hK => ?_) AllReadyH.nil
  rw [if_pos (by rfl)]
  go_simp
  refine (C18.out _).mono ?_
  rintro e1 wx ⟨rfl, hbx⟩
  refine hK.out _ _ (bthen hS2 hbx) (fun hSx => ?_)
  clear hK K'
  have hS3 := hSx
  refine wpAnyH_ready (rs := [9]) (by kernel_rfl) (by simp) ?_
  refine AllReadyH.cons rfl (fun K' hK => ?_) AllReadyH.nil
  rw [if_pos (by rfl)]
  go_simp
  refine (C23.out _).mono ?_
  rintro e1 wx ⟨rfl, hbx⟩
  refine hK.out _ _ (bthen hS3 hbx) (fun hSx => ?_)
  clear hK K'
  have hS4 := hSx
  refine wpAnyH_take (i := 10) (v := .bool true) rfl (by kernel_rfl) (by kernel_rfl) (by kernel_rfl) (fun _ _ _ h => h) (Or.inl ⟨by rfl, fun _ _ => by go_simp⟩) (by assumption) ?_
  simp only [Act.put, List.getElem_toArray, List.getElem_cons_zero, List.getElem_cons_succ, List.setIfInBounds_toArray, List.set_cons_zero, List.set_cons_succ]
  refine wpAnyH_take (i := 11) (v := .bool true) rfl (by kernel_rfl) (by kernel_rfl) (by kernel_rfl) (fun _ _ _ h => h) (Or.inl ⟨by rfl, fun _ _ => by go_simp⟩) (by assumption) ?_
  simp only [Act.put, List.getElem_toArray, List.getElem_cons_zero, List.getElem_cons_succ, List.setIfInBounds_toArray, List.set_cons_zero, List.set_cons_succ]
  refine wpAnyH_take (i := 12) (v := .bool true) rfl (by kernel_rfl) (by kernel_rfl) (by kernel_rfl) (fun _ _ _ h => h) (Or.inl ⟨by rfl, fun _ _ => rfl⟩) (by assumption) ?_
  simp only [Act.put, List.getElem_toArray, List.getElem_cons_zero, List.getElem_cons_succ, List.setIfInBounds_toArray, List.set_cons_zero, List.set_cons_succ]
  refine wpAnyH_take (i := 13) (v := .slice A1 xs.length c1) rfl (by kernel_rfl) (by kernel_rfl) (by kernel_rfl) (fun _ _ _ h => h) (Or.inl ⟨by rfl, fun _ _ => rfl⟩) (by assumption) ?_
  simp only [Act.put, List.getElem_toArray, List.getElem_cons_zero, List.getElem_cons_succ, List.setIfInBounds_toArray, List.set_cons_zero, List.set_cons_succ]
  refine wpAnyH_take (i := 14) (v := .slice A xs.length c) rfl (by kernel_rfl) (by kernel_rfl) (by kernel_rfl) (fun _ _ _ h => h) (Or.inl ⟨by rfl, fun _ _ => rfl⟩) (by assumption) ?_
  simp only [Act.put, List.getElem_toArray, List.getElem_cons_zero, List.getElem_cons_succ, List.setIfInBounds_toArray, List.set_cons_zero, List.set_cons_succ]
  refine wpAnyH_ready (rs := [15]) (by kernel_rfl) (by simp) ?_
  refine AllReadyH.cons rfl (fun K' hK => ?_) AllReadyH.nil
  rw [if_pos (by rfl)]
  go_simp
  refine (C24.out _ hS4).mono ?_
  rintro e1 wx ⟨rfl, rfl⟩
  refine hK.out _ _ hS4 (fun hSx => ?_)
  clear hK K'
  have hS5 := hSx
  refine wpAnyH_take (i := 16) (v := .bool true) rfl (by kernel_rfl) (by kernel_rfl) (by kernel_rfl) (fun _ _ _ h => h) (Or.inl ⟨by rfl, fun _ _ => by go_simp⟩) (by assumption) ?_
  simp only [Act.put, List.getElem_toArray, List.getElem_cons_zero, List.getElem_cons_succ, List.setIfInBounds_toArray, List.set_cons_zero, List.set_cons_succ]
  refine wpAnyH_take (i := 17) (v := .bool true) rfl (by kernel_rfl) (by kernel_rfl) (by kernel_rfl) (fun _ _ _ h => h) (Or.inl ⟨by rfl, fun _ _ => rfl⟩) (by assumption) ?_
  simp only [Act.put, List.getElem_toArray, List.getElem_cons_zero, List.getElem_cons_succ, List.setIfInBounds_toArray, List.set_cons_zero, List.set_cons_succ]
  refine wpAnyH_ready (rs := [18]) (by kernel_rfl) (by simp) ?_
  refine AllReadyH.cons rfl (fun K' hK => ?_) AllReadyH.nil
  rw [if_pos (by rfl)]
  go_simp
  refine (awake_any _).mono ?_
  rintro e1 wx ⟨rfl, hbx⟩
  refine hK.out _ _ (bthen hS5 hbx) (fun hSx => ?_)
  clear hK K'
  have hS6 := hSx
  refine wpAnyH_take (i := 19) (v := .bool true) rfl (by kernel_rfl) (by kernel_rfl) (by kernel_rfl) (fun _ _ _ h => h) (Or.inl ⟨by rfl, fun _ _ => by go_simp⟩) (by assumption) ?_
  simp only [Act.put, List.getElem_toArray, List.getElem_cons_zero, List.getElem_cons_succ, List.setIfInBounds_toArray, List.set_cons_zero, List.set_cons_succ]
  refine wpAnyH_take (i := 20) (v := .bool true) rfl (by kernel_rfl) (by kernel_rfl) (by kernel_rfl) (fun _ _ _ h => h) (Or.inl ⟨by rfl, fun _ _ => rfl⟩) (by assumption) ?_
  simp only [Act.put, List.getElem_toArray, List.getElem_cons_zero, List.getElem_cons_succ, List.setIfInBounds_toArray, List.set_cons_zero, List.set_cons_succ]
  refine wpAnyH_done (by kernel_rfl) ?_ _
  go_wp2_with fail
  go_ret
  exact ⟨rfl, bthen HBW.out hS6⟩
end Go.Proofs.Ytmaoaljohjkjeaa
