/- The walk of ShaTexts at a slice of at most 2000 bytes: it answers true and turns nothing that was there. (Parts of it were printed by a small program of ours, genregion.py.) -/
import Derived.Test.YtmaoaljohjkjeaaSum
import Derived.Test.YtmaoaljohjkjeaaStays
import Derived.Laws.BitsAllLaws
import Derived.Deep.QuietTactic
namespace Go.Proofs.Ytmaoaljohjkjeaa
open Go.ChangeShapes Go.WideShapes Go.ChangeAt Go.RowKit

theorem IsSum.hex {h : List Int} (hh : IsSum h) (w : World) : Calls Try.prog 18 #[.agg (h.map (Value.int .u8)).toArray] w fun e w' => e = .returned (.string (hexS h)) ∧ Below w.heap.size w w' := hex_any h hh.len hh.range w

theorem i64_small (x y : Int) (h : x = y) (h0 : -9223372036854775808 ≤ y) (h1 : y < 9223372036854775808) : IntKind.i64.wrap x = y := by
  subst h; rw [IntKind.wrap_i64]; omega
theorem u8_small (x y : Int) (h : x = y) (h0 : 0 ≤ y) (h1 : y < 256) : IntKind.u8.wrap x = y := by
  subst h; rw [IntKind.wrap_u8']; omega

/-- the cells of 32 bytes, behind a name -/
structure IsCells (h : List Int) (L : List Value) : Prop where
  eq : h.map (Value.int .u8) = L

set_option maxRecDepth 100000 in
set_option maxHeartbeats 4000000 in
theorem texts_core (xs gs hs : List Int) (A : Option Addr) (c : Nat) (w : World) (ha : Bytes w A xs) (hx : xs.length ≤ 2000) (hg : IsSum gs) (hh : IsSum hs) :
    Calls Try.prog 9 #[.slice A xs.length c, .agg (gs.map (Value.int .u8)).toArray, .agg (hs.map (Value.int .u8)).toArray] w fun e w' => e = .returned (.bool true) ∧ Below w.heap.size w w' := by
  have HA : Keep _ := ⟨ha⟩
  have d1 : decide (2000 < (xs.length : Int)) = false := by simp; omega
  have u32 := Try.underlying32
  have hix := fun j hj W => hexS_index hs hh j hj W
  have hsz := hexS_size hs
  have hq1 := hexS_same gs hs hg hh
  have hq2 := fun W => eql_hash gs hs W hg.len hh.len
  have CG : Keep _ := ⟨fun W => hg.hex W⟩
  have CH : Keep _ := ⟨fun W => hh.hex W⟩
  have HR : Keep _ := ⟨hh.range⟩
  obtain ⟨LG, eG⟩ : ∃ LG, IsCells gs LG := ⟨_, ⟨rfl⟩⟩
  obtain ⟨LH, eH⟩ : ∃ LH, IsCells hs LH := ⟨_, ⟨rfl⟩⟩
  have lg : Keep (LG.length = 32) := ⟨by rw [← eG.eq, List.length_map, hg.len]⟩
  have lh : Keep (LH.length = 32) := ⟨by rw [← eH.eq, List.length_map, hh.len]⟩
  have sg : (Try.prog.info? 32).map (·.size) = some LG.length := by rw [lg.out]; exact size32
  have sh : (Try.prog.info? 32).map (·.size) = some LH.length := by rw [lh.out]; exact size32
  rw [eG.eq] at hq2 CG ⊢
  rw [eH.eq] at hq2 CH ⊢
  generalize hexS gs = TG at hq1 CG
  generalize hexS hs = TH at hq1 CH hsz hix
  generalize (gs == hs) = q at hq1 hq2
  have HIX : Keep _ := ⟨hix⟩
  clear ha hg hh hix
  have rh : ((w.alloc (.cells LG.toArray 32)).alloc (.cells LH.toArray 32)).rangeAt (w.heap.size + 1) 0 LH := (Holds.made' (by simp) 32 LH).range
  have rg : ((w.alloc (.cells LG.toArray 32)).alloc (.cells LH.toArray 32)).rangeAt w.heap.size 0 LG := ((Holds.made w 32 LG).alloc _).range
  have ab : Below w.heap.size w ((w.alloc (.cells LG.toArray 32)).alloc (.cells LH.toArray 32)) := bthen (balloc _ _) (balloc _ _)
  go_enter Try.func9, Try.ntmps9
  go_upto_region 4 with (first | (refine wpList_load_mid rfl 32 (.tmp 5) rfl (w.heap.size + 1) 0 rfl LH _ rh u32 rfl sh ?_) | (go_at_call 18; refine (CH.out _).mono ?_; rintro e w1 ⟨rfl, hb1⟩))
  have rg1 := rangeAt_below rg hb1
  have rh1 := rangeAt_below rh hb1
  have hb := bthen ab hb1
  have HB : Keep _ := ⟨hb⟩
  clear hb ab hb1 rg rh
  go_cut [0, 4, 5, 6, 7, 27] (fun s0 s4 s5 s6 s7 s27 wc => s0 = .slice A xs.length c ∧ s4 = .pointer (some ⟨w.heap.size, 0, none⟩) ∧ s5 = .pointer (some ⟨w.heap.size + 1, 0, none⟩) ∧ s7 = .string TH ∧ s27 = .bool false ∧ wc.rangeAt (w.heap.size + 1) 0 LH ∧ Below w.heap.size w wc)
  case first =>
    refine wp_region_held_drew (S := fun w' => w'.rangeAt w.heap.size 0 LG ∧ w'.rangeAt (w.heap.size + 1) 0 LH ∧ Below w.heap.size w w') (by kernel_rfl) ⟨rg1, rh1, HB.out.drew⟩ (fun hS0 => ?_)
    refine wpAnyH_take (i := 0) (v := _) rfl (by kernel_rfl) (by kernel_rfl) (by kernel_rfl) (fun _ _ _ h => h) (Or.inl ⟨by rfl, fun _ _ => rfl⟩) (by assumption) ?_
    simp only [Act.put, List.getElem_toArray, List.getElem_cons_zero, List.setIfInBounds_toArray, List.set_cons_zero, List.set_cons_succ]
    refine wpAnyH_take (i := 1) (v := .int .i64 64) rfl (by kernel_rfl) (by kernel_rfl) (by kernel_rfl) (fun _ _ _ h => h) (Or.inl ⟨by rfl, fun _ _ => by go_simp⟩) (by assumption) ?_
    simp only [Act.put, List.getElem_toArray, List.getElem_cons_zero, List.getElem_cons_succ, List.setIfInBounds_toArray, List.set_cons_zero, List.set_cons_succ]
    refine wpAnyH_take (i := 2) (v := .bool false) rfl (by kernel_rfl) (by kernel_rfl) (by kernel_rfl) (fun _ _ _ h => h) (Or.inl ⟨by rfl, fun _ _ => by go_simp⟩) (by assumption) ?_
    simp only [Act.put, List.getElem_toArray, List.getElem_cons_zero, List.getElem_cons_succ, List.setIfInBounds_toArray, List.set_cons_zero, List.set_cons_succ]
    refine wpAnyH_take (i := 3) (v := _) rfl (by kernel_rfl) (by kernel_rfl) (by kernel_rfl) (fun _ _ _ h => h) (Or.inl ⟨by rfl, fun _ _ => rfl⟩) (by assumption) ?_
    simp only [Act.put, List.getElem_toArray, List.getElem_cons_zero, List.getElem_cons_succ, List.setIfInBounds_toArray, List.set_cons_zero, List.set_cons_succ]
    refine wpAnyH_take (i := 4) (v := .agg LG.toArray) rfl (by kernel_rfl) (by kernel_rfl) (by kernel_rfl) (fun _ _ _ h => h) (yieldsIf_load_mid (by rfl) 32 (.tmp 4) rfl w.heap.size 0 rfl LG _ (fun _ h => h.1) u32 rfl sg) (by assumption) ?_
    simp only [Act.put, List.getElem_toArray, List.getElem_cons_zero, List.getElem_cons_succ, List.setIfInBounds_toArray, List.set_cons_zero, List.set_cons_succ]
    refine wpAnyH_take (i := 6) (v := .string TH) rfl (by kernel_rfl) (by kernel_rfl) (by kernel_rfl) (fun _ _ _ h => h) (Or.inl ⟨by rfl, fun _ _ => rfl⟩) (by assumption) ?_
    simp only [Act.put, List.getElem_toArray, List.getElem_cons_zero, List.getElem_cons_succ, List.setIfInBounds_toArray, List.set_cons_zero, List.set_cons_succ]
    refine wpAnyH_take (i := 8) (v := .agg LG.toArray) rfl (by kernel_rfl) (by kernel_rfl) (by kernel_rfl) (fun _ _ _ h => h) (yieldsIf_load_mid (by rfl) 32 (.tmp 4) rfl w.heap.size 0 rfl LG _ (fun _ h => h.1) u32 rfl sg) (by assumption) ?_
    simp only [Act.put, List.getElem_toArray, List.getElem_cons_zero, List.getElem_cons_succ, List.setIfInBounds_toArray, List.set_cons_zero, List.set_cons_succ]
    refine wpAnyH_take (i := 9) (v := .agg LH.toArray) rfl (by kernel_rfl) (by kernel_rfl) (by kernel_rfl) (fun _ _ _ h => h) (yieldsIf_load_mid (by rfl) 32 (.tmp 5) rfl (w.heap.size + 1) 0 rfl LH _ (fun _ h => h.2.1) u32 rfl sh) (by assumption) ?_
    simp only [Act.put, List.getElem_toArray, List.getElem_cons_zero, List.getElem_cons_succ, List.setIfInBounds_toArray, List.set_cons_zero, List.set_cons_succ]
    refine wpAnyH_take (i := 10) (v := .bool q) rfl (by kernel_rfl) (by kernel_rfl) (by kernel_rfl) (fun _ _ _ h => h) (Or.inl ⟨by rfl, fun _ _ => by go_simp⟩) (by assumption) ?_
    simp only [Act.put, List.getElem_toArray, List.getElem_cons_zero, List.getElem_cons_succ, List.setIfInBounds_toArray, List.set_cons_zero, List.set_cons_succ]
    refine wpAnyH_ready (rs := [5]) (by kernel_rfl) (by simp) ?_
    refine AllReadyH.cons rfl (fun K' hK => ?_) AllReadyH.nil
    rw [if_pos (by rfl)]
    go_simp
    refine (CG.out _).mono ?_
    rintro e1 wx ⟨rfl, hbx⟩
    refine hK.out _ _ ⟨rangeAt_below hS0.1 hbx, rangeAt_below hS0.2.1 hbx, bthen hS0.2.2 hbx⟩ (fun hSx => ?_)
    clear hK K'
    have hS1 := hSx
    refine wpAnyH_take (i := 7) (v := .bool q) rfl (by kernel_rfl) (by kernel_rfl) (by kernel_rfl) (fun _ _ _ h => h) (Or.inl ⟨by rfl, fun _ _ => by go_simp⟩) (by assumption) ?_
    simp only [Act.put, List.getElem_toArray, List.getElem_cons_zero, List.getElem_cons_succ, List.setIfInBounds_toArray, List.set_cons_zero, List.set_cons_succ]
    refine wpAnyH_take (i := 11) (v := .bool false) rfl (by kernel_rfl) (by kernel_rfl) (by kernel_rfl) (fun _ _ _ h => h) (Or.inl ⟨by rfl, fun _ _ => by cases q <;> go_simp⟩) (by assumption) ?_
    simp only [Act.put, List.getElem_toArray, List.getElem_cons_zero, List.getElem_cons_succ, List.setIfInBounds_toArray, List.set_cons_zero, List.set_cons_succ]
    refine wpAnyH_take (i := 12) (v := .bool false) rfl (by kernel_rfl) (by kernel_rfl) (by kernel_rfl) (fun _ _ _ h => h) (Or.inl ⟨by rfl, fun _ _ => by go_simp⟩) (by assumption) ?_
    simp only [Act.put, List.getElem_toArray, List.getElem_cons_zero, List.getElem_cons_succ, List.setIfInBounds_toArray, List.set_cons_zero, List.set_cons_succ]
    refine wpAnyH_done (by kernel_rfl) ?_ _
    go_wp2_with fail
    go_meet
    case rel => exact ⟨rfl, rfl, rfl, rfl, rfl, hS1.2.1, hS1.2.2⟩
  case rest =>
    obtain ⟨rfl, rfl, rfl, rfl, rfl, hrg, hbc⟩ := hcut
    have HB2 : Keep _ := ⟨hbc⟩
    have HRG : Keep _ := ⟨hrg⟩
    clear hbc hrg
    go_wp2_with fail
    go_loopw [8] (fun iv wr => ∃ i : Nat, i ≤ 32 ∧ iv = .int .i64 i ∧ wr.rangeAt (w.heap.size + 1) 0 LH ∧ Below w.heap.size w wr) (fun iv _ => 32 - (intOf iv).toNat)
    case atStart => exact ⟨0, by omega, rfl, HRG.out, HB2.out⟩
    case round =>
      obtain ⟨i, hi, rfl, hrr, hbr⟩ := hrel
      have HBR : Keep _ := ⟨hbr⟩
      have HRR : Keep _ := ⟨hrr⟩
      by_cases hlt : i < 32
      · have hx := HR.out i hlt
        have cx := hrr i (.int .u8 (hs.getD i 0)) (by rw [← eH.eq]; exact map_cell (Value.int .u8) hs i (by have := lh.out; rw [← eH.eq, List.length_map] at this; omega) 0)
        rw [Nat.zero_add] at cx
        have h1 := HIX.out (2 * i) (by omega)
        have h2 := HIX.out (2 * i + 1) (by omega)
        unfold halfZ8 at h1 h2
        rw [if_neg (by omega), show 2 * i / 2 = i by omega] at h1
        rw [if_pos (by omega), show (2 * i + 1) / 2 = i by omega] at h2
        rw [show ((2 * i : Nat) : Int) = 2 * (i : Int) by omega] at h1
        rw [show ((2 * i + 1 : Nat) : Int) = 2 * (i : Int) + 1 by omega] at h2
        generalize hs.getD i 0 = x at hx cx h1 h2
        obtain ⟨p, q', hxe, hp, hq, hp0, hp1, hq0, hq1⟩ : ∃ p q' : Int, x = 16 * p + q' ∧ x / 16 = p ∧ x % 16 = q' ∧ 0 ≤ p ∧ p < 16 ∧ 0 ≤ q' ∧ q' < 16 := ⟨x / 16, x % 16, by omega, rfl, rfl, by omega, by omega, by omega, by omega⟩
        rw [hp] at h1
        rw [hq] at h2
        subst hxe
        have g1 : decide (p < 0) = false := by simp; omega
        have g2 : decide (q' < 0) = false := by simp; omega
        have C1 : Keep _ := ⟨fun w => read_any p hp0 hp1 w⟩
        have C2 : Keep _ := ⟨fun w => read_any q' hq0 hq1 w⟩
        clear hp hq hrr hbr
        generalize digitZ p = dp at h1 C1
        generalize digitZ q' = dq at h2 C2
        have gi : decide ((i : Int) < 32) = true := by simp; omega
        go_upto_region 9 with fail
        refine wp_region_held_drew (S := fun w' => w'.rangeAt (w.heap.size + 1) 0 LH ∧ w'.cell? ⟨w.heap.size + 1, i, none⟩ = some (.int .u8 (16 * p + q')) ∧ Below w.heap.size w w') (by kernel_rfl) ⟨HRR.out, cx, HBR.out.drew⟩ (fun hS0 => ?_)
        refine wpAnyH_take (i := 0) (v := .string TH) rfl (by kernel_rfl) (by kernel_rfl) (by kernel_rfl) (fun _ _ _ h => h) (Or.inl ⟨by rfl, fun _ _ => rfl⟩) (by assumption) ?_
        simp only [Act.put, List.getElem_toArray, List.getElem_cons_zero, List.setIfInBounds_toArray, List.set_cons_zero, List.set_cons_succ]
        refine wpAnyH_take (i := 1) (v := .int .i64 i) rfl (by kernel_rfl) (by kernel_rfl) (by kernel_rfl) (fun _ _ _ h => h) (Or.inl ⟨by rfl, fun _ _ => rfl⟩) (by assumption) ?_
        simp only [Act.put, List.getElem_toArray, List.getElem_cons_zero, List.getElem_cons_succ, List.setIfInBounds_toArray, List.set_cons_zero, List.set_cons_succ]
        refine wpAnyH_take (i := 2) (v := .int .i64 (2 * (i : Int))) rfl (by kernel_rfl) (by kernel_rfl) (by kernel_rfl) (fun _ _ _ h => h) (Or.inl ⟨by rfl, fun _ _ => by go_simp; exact i64_small _ _ (by omega) (by omega) (by omega)⟩) (by assumption) ?_
        simp only [Act.put, List.getElem_toArray, List.getElem_cons_zero, List.getElem_cons_succ, List.setIfInBounds_toArray, List.set_cons_zero, List.set_cons_succ]
        refine wpAnyH_take (i := 3) (v := .int .u8 dp) rfl (by kernel_rfl) (by kernel_rfl) (by kernel_rfl) (fun _ _ _ h => h) (Or.inl ⟨by rfl, fun _ _ => by go_simp⟩) (by assumption) ?_
        simp only [Act.put, List.getElem_toArray, List.getElem_cons_zero, List.getElem_cons_succ, List.setIfInBounds_toArray, List.set_cons_zero, List.set_cons_succ]
        refine wpAnyH_ready (rs := [4]) (by kernel_rfl) (by simp) ?_
        refine AllReadyH.cons rfl (fun K' hK => ?_) AllReadyH.nil
        rw [if_pos (by rfl)]
        go_simp
        refine (C1.out _).mono ?_
        rintro e1 wx ⟨rfl, rfl⟩
        refine hK.out _ _ hS0 (fun hSx => ?_)
        clear hK K'
        refine wpAnyH_take (i := 5) (v := .bool false) rfl (by kernel_rfl) (by kernel_rfl) (by kernel_rfl) (fun _ _ _ h => h) (Or.inl ⟨by rfl, fun _ _ => by go_simp⟩) (by assumption) ?_
        simp only [Act.put, List.getElem_toArray, List.getElem_cons_zero, List.getElem_cons_succ, List.setIfInBounds_toArray, List.set_cons_zero, List.set_cons_succ]
        refine wpAnyH_take (i := 6) (v := .bool false) rfl (by kernel_rfl) (by kernel_rfl) (by kernel_rfl) (fun _ _ _ h => h) (Or.inl ⟨by rfl, fun _ _ => rfl⟩) (by assumption) ?_
        simp only [Act.put, List.getElem_toArray, List.getElem_cons_zero, List.getElem_cons_succ, List.setIfInBounds_toArray, List.set_cons_zero, List.set_cons_succ]
        refine wpAnyH_take (i := 7) (v := .string TH) rfl (by kernel_rfl) (by kernel_rfl) (by kernel_rfl) (fun _ _ _ h => h) (Or.inl ⟨by rfl, fun _ _ => rfl⟩) (by assumption) ?_
        simp only [Act.put, List.getElem_toArray, List.getElem_cons_zero, List.getElem_cons_succ, List.setIfInBounds_toArray, List.set_cons_zero, List.set_cons_succ]
        refine wpAnyH_take (i := 8) (v := .int .i64 i) rfl (by kernel_rfl) (by kernel_rfl) (by kernel_rfl) (fun _ _ _ h => h) (Or.inl ⟨by rfl, fun _ _ => rfl⟩) (by assumption) ?_
        simp only [Act.put, List.getElem_toArray, List.getElem_cons_zero, List.getElem_cons_succ, List.setIfInBounds_toArray, List.set_cons_zero, List.set_cons_succ]
        refine wpAnyH_take (i := 9) (v := .int .i64 (2 * (i : Int))) rfl (by kernel_rfl) (by kernel_rfl) (by kernel_rfl) (fun _ _ _ h => h) (Or.inl ⟨by rfl, fun _ _ => by go_simp; exact i64_small _ _ (by omega) (by omega) (by omega)⟩) (by assumption) ?_
        simp only [Act.put, List.getElem_toArray, List.getElem_cons_zero, List.getElem_cons_succ, List.setIfInBounds_toArray, List.set_cons_zero, List.set_cons_succ]
        refine wpAnyH_take (i := 10) (v := .int .i64 (2 * (i : Int) + 1)) rfl (by kernel_rfl) (by kernel_rfl) (by kernel_rfl) (fun _ _ _ h => h) (Or.inl ⟨by rfl, fun _ _ => by go_simp; exact i64_small _ _ (by omega) (by omega) (by omega)⟩) (by assumption) ?_
        simp only [Act.put, List.getElem_toArray, List.getElem_cons_zero, List.getElem_cons_succ, List.setIfInBounds_toArray, List.set_cons_zero, List.set_cons_succ]
        refine wpAnyH_take (i := 11) (v := .int .u8 dq) rfl (by kernel_rfl) (by kernel_rfl) (by kernel_rfl) (fun _ _ _ h => h) (Or.inl ⟨by rfl, fun _ _ => by go_simp⟩) (by assumption) ?_
        simp only [Act.put, List.getElem_toArray, List.getElem_cons_zero, List.getElem_cons_succ, List.setIfInBounds_toArray, List.set_cons_zero, List.set_cons_succ]
        refine wpAnyH_ready (rs := [12]) (by kernel_rfl) (by simp) ?_
        refine AllReadyH.cons rfl (fun K' hK => ?_) AllReadyH.nil
        rw [if_pos (by rfl)]
        go_simp
        refine (C2.out _).mono ?_
        rintro e1 wx ⟨rfl, rfl⟩
        refine hK.out _ _ hS0 (fun hSx => ?_)
        clear hK K'
        refine wpAnyH_take (i := 13) (v := .bool false) rfl (by kernel_rfl) (by kernel_rfl) (by kernel_rfl) (fun _ _ _ h => h) (Or.inl ⟨by rfl, fun _ _ => by go_simp⟩) (by assumption) ?_
        simp only [Act.put, List.getElem_toArray, List.getElem_cons_zero, List.getElem_cons_succ, List.setIfInBounds_toArray, List.set_cons_zero, List.set_cons_succ]
        refine wpAnyH_take (i := 14) (v := .bool false) rfl (by kernel_rfl) (by kernel_rfl) (by kernel_rfl) (fun _ _ _ h => h) (Or.inl ⟨by rfl, fun _ _ => by go_simp⟩) (by assumption) ?_
        simp only [Act.put, List.getElem_toArray, List.getElem_cons_zero, List.getElem_cons_succ, List.setIfInBounds_toArray, List.set_cons_zero, List.set_cons_succ]
        refine wpAnyH_take (i := 15) (v := .bool false) rfl (by kernel_rfl) (by kernel_rfl) (by kernel_rfl) (fun _ _ _ h => h) (Or.inl ⟨by rfl, fun _ _ => rfl⟩) (by assumption) ?_
        simp only [Act.put, List.getElem_toArray, List.getElem_cons_zero, List.getElem_cons_succ, List.setIfInBounds_toArray, List.set_cons_zero, List.set_cons_succ]
        refine wpAnyH_take (i := 16) (v := .string TH) rfl (by kernel_rfl) (by kernel_rfl) (by kernel_rfl) (fun _ _ _ h => h) (Or.inl ⟨by rfl, fun _ _ => rfl⟩) (by assumption) ?_
        simp only [Act.put, List.getElem_toArray, List.getElem_cons_zero, List.getElem_cons_succ, List.setIfInBounds_toArray, List.set_cons_zero, List.set_cons_succ]
        refine wpAnyH_take (i := 17) (v := .int .i64 i) rfl (by kernel_rfl) (by kernel_rfl) (by kernel_rfl) (fun _ _ _ h => h) (Or.inl ⟨by rfl, fun _ _ => rfl⟩) (by assumption) ?_
        simp only [Act.put, List.getElem_toArray, List.getElem_cons_zero, List.getElem_cons_succ, List.setIfInBounds_toArray, List.set_cons_zero, List.set_cons_succ]
        refine wpAnyH_take (i := 18) (v := .int .i64 (2 * (i : Int))) rfl (by kernel_rfl) (by kernel_rfl) (by kernel_rfl) (fun _ _ _ h => h) (Or.inl ⟨by rfl, fun _ _ => by go_simp; exact i64_small _ _ (by omega) (by omega) (by omega)⟩) (by assumption) ?_
        simp only [Act.put, List.getElem_toArray, List.getElem_cons_zero, List.getElem_cons_succ, List.setIfInBounds_toArray, List.set_cons_zero, List.set_cons_succ]
        refine wpAnyH_take (i := 19) (v := .int .u8 dp) rfl (by kernel_rfl) (by kernel_rfl) (by kernel_rfl) (fun _ _ _ h => h) (Or.inl ⟨by rfl, fun _ _ => by go_simp⟩) (by assumption) ?_
        simp only [Act.put, List.getElem_toArray, List.getElem_cons_zero, List.getElem_cons_succ, List.setIfInBounds_toArray, List.set_cons_zero, List.set_cons_succ]
        refine wpAnyH_take (i := 22) (v := .string TH) rfl (by kernel_rfl) (by kernel_rfl) (by kernel_rfl) (fun _ _ _ h => h) (Or.inl ⟨by rfl, fun _ _ => rfl⟩) (by assumption) ?_
        simp only [Act.put, List.getElem_toArray, List.getElem_cons_zero, List.getElem_cons_succ, List.setIfInBounds_toArray, List.set_cons_zero, List.set_cons_succ]
        refine wpAnyH_take (i := 23) (v := .int .i64 i) rfl (by kernel_rfl) (by kernel_rfl) (by kernel_rfl) (fun _ _ _ h => h) (Or.inl ⟨by rfl, fun _ _ => rfl⟩) (by assumption) ?_
        simp only [Act.put, List.getElem_toArray, List.getElem_cons_zero, List.getElem_cons_succ, List.setIfInBounds_toArray, List.set_cons_zero, List.set_cons_succ]
        refine wpAnyH_take (i := 24) (v := .int .i64 (2 * (i : Int))) rfl (by kernel_rfl) (by kernel_rfl) (by kernel_rfl) (fun _ _ _ h => h) (Or.inl ⟨by rfl, fun _ _ => by go_simp; exact i64_small _ _ (by omega) (by omega) (by omega)⟩) (by assumption) ?_
        simp only [Act.put, List.getElem_toArray, List.getElem_cons_zero, List.getElem_cons_succ, List.setIfInBounds_toArray, List.set_cons_zero, List.set_cons_succ]
        refine wpAnyH_take (i := 25) (v := .int .i64 (2 * (i : Int) + 1)) rfl (by kernel_rfl) (by kernel_rfl) (by kernel_rfl) (fun _ _ _ h => h) (Or.inl ⟨by rfl, fun _ _ => by go_simp; exact i64_small _ _ (by omega) (by omega) (by omega)⟩) (by assumption) ?_
        simp only [Act.put, List.getElem_toArray, List.getElem_cons_zero, List.getElem_cons_succ, List.setIfInBounds_toArray, List.set_cons_zero, List.set_cons_succ]
        refine wpAnyH_take (i := 26) (v := .int .u8 dq) rfl (by kernel_rfl) (by kernel_rfl) (by kernel_rfl) (fun _ _ _ h => h) (Or.inl ⟨by rfl, fun _ _ => by go_simp⟩) (by assumption) ?_
        simp only [Act.put, List.getElem_toArray, List.getElem_cons_zero, List.getElem_cons_succ, List.setIfInBounds_toArray, List.set_cons_zero, List.set_cons_succ]
        refine wpAnyH_take (i := 30) (v := .int .i64 i) rfl (by kernel_rfl) (by kernel_rfl) (by kernel_rfl) (fun _ _ _ h => h) (Or.inl ⟨by rfl, fun _ _ => rfl⟩) (by assumption) ?_
        simp only [Act.put, List.getElem_toArray, List.getElem_cons_zero, List.getElem_cons_succ, List.setIfInBounds_toArray, List.set_cons_zero, List.set_cons_succ]
        refine wpAnyH_take (i := 31) (v := .pointer (some ⟨w.heap.size + 1, i, none⟩)) rfl (by kernel_rfl) (by kernel_rfl) (by kernel_rfl) (fun _ _ _ h => h) (Or.inl ⟨by rfl, fun _ _ => by go_simp; intro hge; omega⟩) (by assumption) ?_
        simp only [Act.put, List.getElem_toArray, List.getElem_cons_zero, List.getElem_cons_succ, List.setIfInBounds_toArray, List.set_cons_zero, List.set_cons_succ]
        refine wpAnyH_take (i := 32) (v := .int .u8 (16 * p + q')) rfl (by kernel_rfl) (by kernel_rfl) (by kernel_rfl) (fun _ _ _ h => h) (Or.inl ⟨by rfl, fun w' hw' => by have cc := hw'.2.1; go_simp⟩) (by assumption) ?_
        simp only [Act.put, List.getElem_toArray, List.getElem_cons_zero, List.getElem_cons_succ, List.setIfInBounds_toArray, List.set_cons_zero, List.set_cons_succ]
        refine wpAnyH_ready (rs := [20]) (by kernel_rfl) (by simp) ?_
        refine AllReadyH.cons rfl (fun K' hK => ?_) AllReadyH.nil
        rw [if_pos (by rfl)]
        go_simp
        refine (C1.out _).mono ?_
        rintro e1 wx ⟨rfl, rfl⟩
        refine hK.out _ _ hS0 (fun hSx => ?_)
        clear hK K'
        refine wpAnyH_take (i := 21) (v := .int .i64 (p * 16)) rfl (by kernel_rfl) (by kernel_rfl) (by kernel_rfl) (fun _ _ _ h => h) (Or.inl ⟨by rfl, fun _ _ => by go_simp; exact i64_small _ _ (by omega) (by omega) (by omega)⟩) (by assumption) ?_
        simp only [Act.put, List.getElem_toArray, List.getElem_cons_zero, List.getElem_cons_succ, List.setIfInBounds_toArray, List.set_cons_zero, List.set_cons_succ]
        refine wpAnyH_ready (rs := [27]) (by kernel_rfl) (by simp) ?_
        refine AllReadyH.cons rfl (fun K' hK => ?_) AllReadyH.nil
        rw [if_pos (by rfl)]
        go_simp
        refine (C2.out _).mono ?_
        rintro e1 wx ⟨rfl, rfl⟩
        refine hK.out _ _ hS0 (fun hSx => ?_)
        clear hK K'
        refine wpAnyH_take (i := 28) (v := .int .i64 (p * 16 + q')) rfl (by kernel_rfl) (by kernel_rfl) (by kernel_rfl) (fun _ _ _ h => h) (Or.inl ⟨by rfl, fun _ _ => by go_simp; exact i64_small _ _ (by omega) (by omega) (by omega)⟩) (by assumption) ?_
        simp only [Act.put, List.getElem_toArray, List.getElem_cons_zero, List.getElem_cons_succ, List.setIfInBounds_toArray, List.set_cons_zero, List.set_cons_succ]
        refine wpAnyH_take (i := 29) (v := .int .u8 (16 * p + q')) rfl (by kernel_rfl) (by kernel_rfl) (by kernel_rfl) (fun _ _ _ h => h) (Or.inl ⟨by rfl, fun _ _ => by go_simp; exact u8_small _ _ (by omega) (by omega) (by omega)⟩) (by assumption) ?_
        simp only [Act.put, List.getElem_toArray, List.getElem_cons_zero, List.getElem_cons_succ, List.setIfInBounds_toArray, List.set_cons_zero, List.set_cons_succ]
        refine wpAnyH_take (i := 33) (v := .bool false) rfl (by kernel_rfl) (by kernel_rfl) (by kernel_rfl) (fun _ _ _ h => h) (Or.inl ⟨by rfl, fun _ _ => by go_simp⟩) (by assumption) ?_
        simp only [Act.put, List.getElem_toArray, List.getElem_cons_zero, List.getElem_cons_succ, List.setIfInBounds_toArray, List.set_cons_zero, List.set_cons_succ]
        refine wpAnyH_take (i := 34) (v := .bool false) rfl (by kernel_rfl) (by kernel_rfl) (by kernel_rfl) (fun _ _ _ h => h) (Or.inl ⟨by rfl, fun _ _ => by go_simp⟩) (by assumption) ?_
        simp only [Act.put, List.getElem_toArray, List.getElem_cons_zero, List.getElem_cons_succ, List.setIfInBounds_toArray, List.set_cons_zero, List.set_cons_succ]
        refine wpAnyH_done (by kernel_rfl) ?_ _
        go_wp2_with fail
        go_roundw
        case rel => exact ⟨i + 1, by omega, by go_num, hS0.1, hS0.2.2⟩
        case measure => simp [intOf]; omega
      · obtain rfl : i = 32 := by omega
        have HO := fun w2 hb2 => of_any xs A c w2 (HA.out.below (w' := w2) hb2) (by omega)
        obtain ⟨Z, eZ⟩ : ∃ Z, IsCells (ofZ xs) Z := ⟨_, ⟨rfl⟩⟩
        have heq : ∀ W : World, (binOp .eql 32 (.agg Z.toArray) (.agg Z.toArray)).run Try.prog W = .ok (.bool true) W := fun W => by
          rw [← eZ.eq, eql_hash _ _ W (ofZ_length _) (ofZ_length _)]; simp
        rw [eZ.eq] at HO
        have KO : Keep _ := ⟨HO⟩
        clear HO hrr hbr
        go_wp2_with fail
        refine (KO.out _ HBR.out).mono ?_
        rintro e w2 ⟨rfl, hb2⟩
        have HB3 : Keep _ := ⟨bthen HBR.out hb2⟩
        clear hb2
        go_wp2_with fail
        refine (KO.out _ HB3.out).mono ?_
        rintro e w3 ⟨rfl, hb3⟩
        have HB4 : Keep _ := ⟨bthen HB3.out hb3⟩
        clear hb3
        go_wp2_with fail
        refine (awake_any _).mono ?_
        rintro e w4 ⟨rfl, hb4⟩
        go_wp2_with fail
        go_ret
        exact ⟨rfl, bthen HB4.out hb4⟩
end Go.Proofs.Ytmaoaljohjkjeaa
