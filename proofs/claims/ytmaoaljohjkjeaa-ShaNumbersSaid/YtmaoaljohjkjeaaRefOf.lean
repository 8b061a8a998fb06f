/- The contract of the document's Of: it answers the 32 bytes that sha.Of answers. Condition: at most 2 to the 40th bytes, each of them below 256. -/
import Derived.Test.YtmaoaljohjkjeaaRefBlock
import Derived.Test.YtmaoaljohjkjeaaRefPlain
import Derived.Test.YtmaoaljohjkjeaaRefTab
import Derived.Deep.AppendLies
namespace Go.Proofs.Ytmaoaljohjkjeaa
open Go.ChangeShapes Go.WideShapes Go.ChangeAt Go.RowKit

theorem own_under {B e k n : Nat} {v : Value} {xs : List Value} {w w' : World} (h : w.ownsRow B e k v n xs) (hb : Below w.heap.size w w') : w'.ownsRow B e k v n xs :=
  h.kept (row := none) ⟨hb.os, hb.tape, hb.output, hb.size, fun j hj _ => hb.block j hj⟩ (by cases hv : v.ownBlock <;> simp)

/-- the two rows of the table while it is made -/
structure InTab (wp wr : World) (kv hv : Value) (n m : Nat) : Prop where
  ks : wr.ownsRow wp.heap.size 44 1 kv n ((castZ (kN.take n)).map (Value.int .u32))
  hs : wr.ownsRow wp.heap.size 44 1 hv m ((castZ (hN.take m)).map (Value.int .u32))
  ne : ∀ b, kv.ownBlock = some b → hv.ownBlock = some b → False
  below : Below wp.heap.size wp wr
theorem InTab.next {wp wr w' : World} {kv hv : Value} {n m : Nat} (h : InTab wp wr kv hv n m) (hb : Below wr.heap.size wr w') : InTab wp w' kv hv n m :=
  ⟨own_under h.ks hb, own_under h.hs hb, h.ne, bthen' h.below hb⟩
  where bthen' {a b c : World} (h : Below a.heap.size a b) (k : Below b.heap.size b c) : Below a.heap.size a c := h.trans (k.mono h.size)
theorem castZ_take (L : List Nat) (n : Nat) (h : n < L.length) : (castZ (L.take (n + 1))).map (Value.int .u32) = (castZ (L.take n)).map (Value.int .u32) ++ [.int .u32 ((L.getD n 0 : Nat) : Int)] := by
  rw [List.take_succ_eq_append_getElem h]
  simp only [castZ, List.map_append, List.map_cons, List.map_nil, List.getD_eq_getElem?_getD, List.getElem?_eq_getElem h, Option.getD_some]
theorem InTab.pushK {wp w0 w1 : World} {kv hv : Value} {n m g cap : Nat} (h : InTab wp w0 kv hv n m) (hn : n < 64)
    (hown : w1.ownsRow wp.heap.size 44 1 (.slice (some ⟨g, 0, none⟩) (n + 1) cap) (n + 1) ((castZ (kN.take n)).map (Value.int .u32) ++ [.int .u32 ((kN.getD n 0 : Nat) : Int)]))
    (hgrow : w0.grownBy w1 kv.ownBlock) (hat : kv.ownBlock = some g ∨ g = w0.heap.size) : InTab wp w1 (.slice (some ⟨g, 0, none⟩) (n + 1) cap) hv (n + 1) m := by
  refine ⟨by rw [castZ_take kN n hn]; exact hown, h.hs.kept hgrow ?_, fun b hb hb2 => ?_, h.below.grown hgrow h.below.size (fun k hk => (h.ks.lt k hk).1)⟩
  · cases hv' : hv.ownBlock with
    | none => exact .inl rfl
    | some b => exact .inr (fun he => h.ne b he.symm hv')
  · have hg : g = b := by simpa [Value.ownBlock] using hb
    subst hg
    rcases hat with hat | hat
    · exact h.ne g hat hb2
    · have := (h.hs.lt g hb2).2; omega
theorem InTab.pushH {wp w0 w1 : World} {kv hv : Value} {n m g cap : Nat} (h : InTab wp w0 kv hv n m) (hm : m < 8)
    (hown : w1.ownsRow wp.heap.size 44 1 (.slice (some ⟨g, 0, none⟩) (m + 1) cap) (m + 1) ((castZ (hN.take m)).map (Value.int .u32) ++ [.int .u32 ((hN.getD m 0 : Nat) : Int)]))
    (hgrow : w0.grownBy w1 hv.ownBlock) (hat : hv.ownBlock = some g ∨ g = w0.heap.size) : InTab wp w1 kv (.slice (some ⟨g, 0, none⟩) (m + 1) cap) n (m + 1) := by
  refine ⟨h.ks.kept hgrow ?_, by rw [castZ_take hN m hm]; exact hown, fun b hb hb2 => ?_, h.below.grown hgrow h.below.size (fun k hk => (h.hs.lt k hk).1)⟩
  · cases hv' : kv.ownBlock with
    | none => exact .inl rfl
    | some b => exact .inr (fun he => h.ne b hv' he.symm)
  · have hg : g = b := by simpa [Value.ownBlock] using hb2
    subst hg
    rcases hat with hat | hat
    · exact h.ne g hb hat
    · have := (h.ks.lt g hb).2; omega

theorem root_k (i : Nat) (hi : i < 64) (w : World) : Calls Try.prog 35 #[.int .u64 (primesL.getD i 0), .int .i64 3] w fun e w' => e = .returned (.int .u32 ((kN.getD i 0 : Nat) : Int)) ∧ Below w.heap.size w w' := by
  rw [← rootK i hi]
  exact rootref_any (primesL.getD i 0) 3 (by decide) (by decide) w
theorem root_h (i : Nat) (hi : i < 8) (w : World) : Calls Try.prog 35 #[.int .u64 (primesL.getD i 0), .int .i64 2] w fun e w' => e = .returned (.int .u32 ((hN.getD i 0 : Nat) : Int)) ∧ Below w.heap.size w w' := by
  rw [← rootH i hi]
  exact rootref_any (primesL.getD i 0) 2 (by decide) (by decide) w

theorem nums_of_own {kd : IntKind} {w : World} {B t n g cap : Nat} {zs : List Int} (h : w.ownsRow B t 1 (.slice (some ⟨g, 0, none⟩) n cap) n (zs.map (Value.int kd))) (hn : n = zs.length) : Nums kd w (some ⟨g, 0, none⟩) zs := by
  subst hn
  refine .inr ⟨g, 0, rfl, fun i hi => ?_⟩
  rw [Nat.zero_add, h.cellAt i (by omega)]
  exact map_cell (Value.int kd) zs i hi 0
theorem blockN_words (zs : List Int) (NB i : Nat) (H : List Nat) : blockN kN (wordN fun t => ((List.range 16).map (wN zs NB i)).getD t 0) H = blockN kN (wordN (wN zs NB i)) H := by
  have : (wordN fun t => ((List.range 16).map (wN zs NB i)).getD t 0) = wordN (wN zs NB i) := by
    funext j
    refine wordN_congr _ _ (fun t ht => ?_) j
    rw [List.getD_eq_getElem?_getD, List.getElem?_map, List.getElem?_range ht]
    rfl
  rw [this]
theorem wN_small (zs : List Int) (NB i : Nat) : Small ((List.range 16).map (wN zs NB i)) := fun t => by
  rw [List.getD_eq_getElem?_getD, List.getElem?_map]
  cases (List.range 16)[t]? with
  | none => exact (by decide : 0 < 4294967296)
  | some j => exact wN_lt zs NB i j
theorem lastT_length (zs : List Int) : (lastT zs).length = 16 * blocksOf zs.length := by
  show (((wordsT zs (zs.length + 1)).set _ _).set _ _).length = _
  rw [List.length_set, List.length_set, wordsT_length]
  unfold blocksOf
  omega
theorem nums_words {w : World} {B : Nat} (zs : List Int) (hr : ∀ i, i < zs.length → 0 ≤ zs.getD i 0 ∧ zs.getD i 0 < 256) (hl : zs.length ≤ 1099511627776) (i : Nat) (hi : i < blocksOf zs.length) (h : Holds w B 44 ((lastT zs).map (Value.int .u32))) :
    Nums .u32 w (some ⟨B, 16 * i, none⟩) (castZ ((List.range 16).map (wN zs (blocksOf zs.length) i))) := by
  refine .inr ⟨B, 16 * i, rfl, fun t ht => ?_⟩
  have ht : t < 16 := by simpa [castZ] using ht
  have hlen := lastT_length zs
  rw [h.cell, map_cell (Value.int .u32) (lastT zs) (16 * i + t) (by rw [hlen]; omega) 0, last_word zs hr hl (blocksOf zs.length) (by unfold blocksOf; omega) (16 * i + t) (by omega), wN_cast, castZ_getD]
  have : ((List.range 16).map (wN zs (blocksOf zs.length) i)).getD t 0 = wN zs (blocksOf zs.length) i t := by
    rw [List.getD_eq_getElem?_getD, List.getElem?_map, List.getElem?_range ht]
    rfl
  rw [this]
theorem hRef_range (H : List Int) (h : ∀ j, 0 ≤ H.getD j 0 ∧ H.getD j 0 < 4294967296) : ∀ k j, 0 ≤ (hRef H k).getD j 0 ∧ (hRef H k).getD j 0 < 4294967296
  | 0, j => h j
  | k + 1, j => by
    rw [hRef]
    by_cases hj : j = (31 - k) / 4
    · subst hj
      rcases Nat.lt_or_ge ((31 - k) / 4) (hRef H k).length with hlt | hge
      · rw [getD_set_same _ _ _ hlt]
        have := hRef_range H h k ((31 - k) / 4)
        omega
      · rw [List.getD_eq_getElem?_getD, List.getElem?_eq_none (by rw [List.length_set]; exact hge)]
        exact ⟨Int.le_refl 0, by decide⟩
    · rw [getD_set_other _ _ _ _ (by omega)]
      exact hRef_range H h k j

theorem grown_store (w : World) (g j : Nat) (u : Value) : w.grownBy (w.setCell ⟨g, j, none⟩ u) (some g) :=
  ⟨rfl, rfl, rfl, by simp, fun k _ hk => heap_setCell_other w ⟨g, j, none⟩ k u (fun e => hk (by simp [e]))⟩

set_option maxRecDepth 100000 in
set_option maxHeartbeats 4000000 in
theorem ofref_any (zs : List Int) (A : Option Addr) (cap : Nat) (w : World) (hz : Bytes w A zs) (hr : ∀ i, i < zs.length → 0 ≤ zs.getD i 0 ∧ zs.getD i 0 < 256) (hl : zs.length ≤ 1099511627776) :
    Calls Try.prog 20 #[.slice A zs.length cap] w fun e w' => e = .returned (.agg ((ofZ zs).map (Value.int .u8)).toArray) ∧ Below w.heap.size w w' := by
  have HZ : Keep _ := ⟨hz⟩
  have HR : Keep _ := ⟨hr⟩
  clear hz hr
  obtain ⟨i0, hi, hz0, hz1, hz2⟩ := info_parts info44
  have I0 : Keep _ := ⟨hi⟩
  have I1 : Keep _ := ⟨hz0⟩
  have I2 : Keep _ := ⟨hz1⟩
  have I3 : Keep _ := ⟨hz2⟩
  clear hi hz0 hz1 hz2
  have pl := primesL_eq
  go_enter Try.func20, Try.ntmps20
  go_upto_region 2 with fail
  go_wp2_with (go_at_call 34; refine (primesref_any _).mono ?_; rintro e wp ⟨Al, cl, rfl, hl2, hb2⟩)
  rw [pl] at hl2
  obtain ⟨lb, lo, rfl, _⟩ := hl2.at_ 0 (by decide)
  have HL : Keep _ := ⟨hl2⟩
  have HB2 : Keep _ := ⟨hb2⟩
  have HRS : Keep (Holds wp w.heap.size 32 (List.replicate 32 (.int .u8 0))) := ⟨(Holds.made w 32 (List.replicate 32 (.int .u8 0))).below hb2⟩
  have hwp : w.heap.size < wp.heap.size := HRS.out.size_lt
  clear hl2 hb2 pl
  go_loopw [3, 4, 6] (fun kv hv iv wr => ∃ i : Nat, i ≤ 64 ∧ iv = .int .i64 i ∧ InTab wp wr kv hv i (min i 8)) (fun _ _ iv _ => 64 - (intOf iv).toNat)
  case atStart => exact ⟨0, by omega, rfl, ⟨World.ownsRow_nil _ _ _ _, World.ownsRow_nil _ _ _ _, (fun b hb _ => by cases hb), Below.refl _ _⟩⟩
  case round =>
    obtain ⟨i, hi, rfl, hin⟩ := hrel
    by_cases hlt : i < 64
    · have gi : decide ((i : Int) < 64) = true := by simp; omega
      have CT : Keep _ := ⟨fun w => root_k i hlt w⟩
      have hp := primesL_range i hlt
      have cellP : ∀ w', Below wp.heap.size wp w' → w'.cell? ⟨lb, lo + i, none⟩ = some (.int .i64 (primesL.getD i 0)) := fun w' hb => by
        obtain ⟨b, off, hA, hc⟩ := (HL.out.below hb).at_ i (by exact hlt)
        cases hA
        exact hc
      obtain ⟨ka, hka⟩ : ∃ ka, ka = kN.getD i 0 := ⟨_, rfl⟩
      rw [← hka] at CT
      have HKA : Keep _ := ⟨hka⟩
      have CH : Keep (∀ (h8 : i < 8) w, _) := ⟨fun h8 w => root_h i h8 w⟩
      obtain ⟨ha, hha⟩ : ∃ ha, ha = hN.getD i 0 := ⟨_, rfl⟩
      rw [← hha] at CH
      have HHA : Keep _ := ⟨hha⟩
      obtain ⟨p, hpe⟩ : ∃ p, p = primesL.getD i 0 := ⟨_, rfl⟩
      rw [← hpe] at CT CH hp cellP
      clear hka hha hpe
      have cp := cellP wr hin.below
      have CP : Keep _ := ⟨cellP⟩
      have HIN : Keep _ := ⟨hin⟩
      have q2 : Keep (∀ u ∈ [Value.int .u32 (ka : Int)], u.oneCell' = true) := ⟨by simp [Value.oneCell']⟩
      have q3 : Keep (i + 1 ≤ maxLen) := ⟨by unfold maxLen; omega⟩
      have q4 : Keep ((i + 1) * 4 ≤ 140737488355328) := ⟨by omega⟩
      have q5 : Keep (∀ w3 : World, Below wr.heap.size wr w3 → wp.heap.size ≤ (w3.alloc (.cells #[.int .u32 (ka : Int)] 44)).heap.size) := ⟨fun w3 h => by have h1 := h.size; have h2 := HIN.out.below.size; simp; omega⟩
      clear hin cellP
      go_upto_region 7 with (first | (go_at_call 35; refine (CT.out _).mono ?_; rintro e w3 ⟨rfl, hb3⟩) | (at_builtin; refine wpList_append_lies _ rfl (.tmp 16) (.tmp 23) 55 rfl wp.heap.size 44 i0 (.int .u32 0) 1 4 Try.underlying55 I0.out I1.out I2.out I3.out rfl (by decide) _ i _ rfl ((HIN.out.next hb3).ks.alloc _) ⟨w3.heap.size, 0, none⟩ 1 1 [.int .u32 (ka : Int)] rfl rfl (cell_one_new _ _ _) q2.out (by decide) q3.out q4.out (q5.out w3 hb3) _ rfl ?_; intro g cap w4 hown4 hgrow4 hat4 _))
      have hin4 := ((HIN.out.next hb3).next (balloc _ _)).pushK hlt (by rw [← HKA.out]; exact hown4) hgrow4 hat4
      clear hown4 hgrow4 hat4 hb3
      have HIN4 : Keep _ := ⟨hin4⟩
      by_cases h8 : i < 8
      · have g8 : decide ((i : Int) < 8) = true := by simp; omega
        have CT8 : Keep _ := ⟨CH.out h8⟩
        rw [show min i 8 = i by omega] at HIN4
        have cp4 := CP.out w4 hin4.below
        have q2h : Keep (∀ u ∈ [Value.int .u32 (ha : Int)], u.oneCell' = true) := ⟨by simp [Value.oneCell']⟩
        have q5h : Keep (∀ w5 : World, Below w4.heap.size w4 w5 → wp.heap.size ≤ (w5.alloc (.cells #[.int .u32 (ha : Int)] 44)).heap.size) := ⟨fun w5 h => by have h1 := h.size; have h2 := HIN4.out.below.size; simp; omega⟩
        clear hin4
        go_wp2_with (first | (go_at_call 35; refine (CT8.out _).mono ?_; rintro e w5 ⟨rfl, hb5⟩) | (at_builtin; refine wpList_append_lies _ rfl (.tmp 27) (.tmp 34) 55 rfl wp.heap.size 44 i0 (.int .u32 0) 1 4 Try.underlying55 I0.out I1.out I2.out I3.out rfl (by decide) _ i _ rfl ((HIN4.out.next hb5).hs.alloc _) ⟨w5.heap.size, 0, none⟩ 1 1 [.int .u32 (ha : Int)] rfl rfl (cell_one_new _ _ _) q2h.out (by decide) q3.out q4.out (q5h.out w5 hb5) _ rfl ?_; intro g2 cap2 w6 hown6 hgrow6 hat6 _))
        go_roundw
        case rel => exact ⟨i + 1, by omega, by go_num, by rw [show min (i + 1) 8 = i + 1 by omega]; exact ((HIN4.out.next hb5).next (balloc _ _)).pushH h8 (by rw [← HHA.out]; exact hown6) hgrow6 hat6⟩
        case measure => simp [intOf]; omega
      · have g8 : decide ((i : Int) < 8) = false := by simp; omega
        rw [show min i 8 = 8 by omega] at HIN4
        clear hin4
        go_wp2_with fail
        go_roundw
        case rel => exact ⟨i + 1, by omega, by go_num, by rw [show min (i + 1) 8 = 8 by omega]; exact HIN4.out⟩
        case measure => simp [intOf]; omega
    · obtain rfl : i = 64 := by omega
      rw [show min 64 8 = 8 from rfl] at hin
      obtain ⟨kg, kc, rfl, _⟩ := own_at hin.ks (by omega)
      obtain ⟨hg, hc, rfl, _⟩ := own_at hin.hs (by omega)
      obtain ⟨wt, hwt⟩ : ∃ wt, wt = wr := ⟨_, rfl⟩
      subst hwt
      have HIN : Keep _ := ⟨hin⟩
      clear hin
      have hbw : Below w.heap.size w wt := (balloc w (.cells (List.replicate 32 (Value.int .u8 0)).toArray 32)).trans ((HB2.out.trans (HIN.out.below.mono HB2.out.size)).mono (by simp))
      rw [show ((64 : Nat) : Int) = 64 from rfl]
      go_wp2_with (go_at_call 36; refine (wordsref_any zs A cap _ (HZ.out.below hbw) HR.out hl).mono ?_; rintro e w2 ⟨WB, rfl, hw2, hlt2, hb3⟩)
      have hNB := lastT_length zs
      have CB := fun (i : Nat) (hi : i < blocksOf zs.length) (w : World) (h : Holds w WB 44 ((lastT zs).map (Value.int .u32))) => nums_words zs HR.out hl i hi h
      have hof : ofZ zs = outTo (hashTo zs (blocksOf zs.length) (blocksOf zs.length)) 32 := rfl
      rw [hashTo_nat] at hof
      have hNB1 : 1 ≤ blocksOf zs.length := by unfold blocksOf; omega
      have hNB2 : blocksOf zs.length ≤ 1099511627776 := by unfold blocksOf; omega
      obtain ⟨NB, hNBe⟩ : ∃ NB, NB = blocksOf zs.length := ⟨_, rfl⟩
      rw [← hNBe] at hNB CB hof hNB1 hNB2
      obtain ⟨N, hNl⟩ : ∃ N, N = (lastT zs).length := ⟨_, rfl⟩
      rw [← hNl] at hNB ⊢
      have CW : Keep (∀ i, blockN kN (wordN fun t => ((List.range 16).map (wN zs NB i)).getD t 0) (hashN kN (fun i => wordN (wN zs NB i)) hN i) = hashN kN (fun i => wordN (wN zs NB i)) hN (i + 1)) := ⟨fun i => blockN_words zs NB i _⟩
      have CS : Keep (∀ i, Small (hashN kN (fun i => wordN (wN zs NB i)) hN i)) := ⟨hashN_small kN _ hN hN_small⟩
      have CL : Keep (∀ i, (hashN kN (fun i => wordN (wN zs NB i)) hN i).length = 8) := ⟨hashN_length kN _ hN rfl⟩
      have C0 : hashN kN (fun i => wordN (wN zs NB i)) hN 0 = hN := rfl
      have HOF : Keep _ := ⟨hof⟩
      have HCB : Keep _ := ⟨CB⟩
      have HW2 : Keep _ := ⟨hw2⟩
      have hkn := nums_of_own (own_under HIN.out.ks hb3) rfl
      have hk64 : kN.take 64 = kN := rfl
      rw [hk64] at hkn
      have HKN : Keep _ := ⟨hkn⟩
      have hin2 := own_under HIN.out.hs hb3
      have hh8 : hN.take 8 = hN := rfl
      rw [hh8, ← C0] at hin2
      have HIN2 : Keep _ := ⟨hin2⟩
      have hbel2 : Below wp.heap.size wp w2 := HIN.out.below.trans (hb3.mono HIN.out.below.size)
      have HBEL2 : Keep _ := ⟨hbel2⟩
      have hbelw : Below w.heap.size w w2 := hbw.trans (hb3.mono hbw.size)
      have HBW : Keep _ := ⟨hbelw⟩
      have HNB : Keep _ := ⟨hNB⟩
      have hN2 : N ≤ 35184372088832 := by omega
      clear hof CB hw2 hkn hin2 hbel2 hbw hbelw hNl hNBe C0 hk64 hh8 HIN hNB
      go_loopw [4, 8] (fun hv av wr => ∃ i : Nat, i ≤ NB ∧ av = .int .i64 (16 * (i : Int)) ∧ (∃ g c, hv = .slice (some ⟨g, 0, none⟩) 8 c ∧ wr.ownsRow wp.heap.size 44 1 (.slice (some ⟨g, 0, none⟩) 8 c) 8 ((castZ (hashN kN (fun i => wordN (wN zs NB i)) hN i)).map (Value.int .u32))) ∧ Below w2.heap.size w2 wr) (fun _ av _ => 16 * NB - (intOf av).toNat)
      case atStart => exact ⟨0, by omega, rfl, ⟨hg, hc, rfl, HIN2.out⟩, Below.refl _ _⟩
      case round =>
        obtain ⟨i, hi, rfl, ⟨gh, chh, rfl, hown⟩, hb⟩ := hrel
        by_cases hlt : i < NB
        · have hle : 16 * (i : Int) + 16 ≤ (N : Int) := by have := HNB.out; omega
          have g1 : decide (16 * (i : Int) < (N : Int)) = true := by simp; omega
          have CBL : Keep _ := ⟨fun cp => blockref_any (hashN kN (fun i => wordN (wN zs NB i)) hN i) ((List.range 16).map (wN zs NB i)) kN (CL.out i) rfl rfl (CS.out i) (wN_small zs NB i) (some ⟨gh, 0, none⟩) (some ⟨WB, 16 * i, none⟩) (some ⟨kg, 0, none⟩) chh cp kc wr (nums_of_own hown (by rw [castZ_length]; exact (CL.out i).symm)) (HCB.out i hlt wr (HW2.out.below hb)) (HKN.out.below hb)⟩
          rw [CW.out i] at CBL
          have HOV : Keep _ := ⟨hown⟩
          have HBV : Keep _ := ⟨hb⟩
          clear hown hb
          have hs1 := HBEL2.out.size
          have hs2 := HBV.out.size
          go_wp2_with (go_at_call 37; refine (CBL.out _).mono ?_; rintro e w4 ⟨g4, c4, rfl, hown4, hb4⟩)
          go_roundw
          case rel => exact ⟨i + 1, by omega, by first | (go_num; done) | (congr 1; omega), ⟨g4, c4, rfl, hown4.mono (by omega)⟩, HBV.out.trans (hb4.mono hs2)⟩
          case measure => simp [intOf]; omega
        · obtain rfl : i = NB := by omega
          have g1 : decide (16 * (i : Int) < (N : Int)) = false := by have := HNB.out; simp; omega
          obtain ⟨w3, hw3⟩ : ∃ w3, w3 = wr := ⟨_, rfl⟩
          rw [← hw3] at hown hb ⊢
          clear hw3
          have hpos : ∀ j, 0 ≤ (castZ (hashN kN (fun j => wordN (wN zs i j)) hN i)).getD j 0 ∧ (castZ (hashN kN (fun j => wordN (wN zs i j)) hN i)).getD j 0 < 4294967296 := fun j => by have := CS.out i j; rw [castZ_getD]; omega
          have hlen : (castZ (hashN kN (fun j => wordN (wN zs i j)) hN i)).length = 8 := by rw [castZ_length]; exact CL.out i
          have hofz := HOF.out
          have hownH := hown
          obtain ⟨H, hH⟩ : ∃ H, H = castZ (hashN kN (fun j => wordN (wN zs i j)) hN i) := ⟨_, rfl⟩
          rw [← hH] at hpos hlen hofz hownH
          rw [← oRef_eq H hlen] at hofz
          have HOFZ : Keep _ := ⟨hofz⟩
          have HPOS : Keep _ := ⟨hRef_range H hpos⟩
          have HLEN : Keep _ := ⟨fun k => (hRef_length H k).trans hlen⟩
          have HOLEN : Keep _ := ⟨oRef_length H⟩
          have HOV : Keep (w3.ownsRow wp.heap.size 44 1 (.slice (some ⟨gh, 0, none⟩) 8 chh) 8 ((hRef H 0).map (Value.int .u32))) := ⟨hownH⟩
          have HBV : Keep (Below wp.heap.size wp w3) := ⟨HBEL2.out.trans (hb.mono HBEL2.out.size)⟩
          have HBW3 : Keep (Below w.heap.size w w3) := ⟨HBW.out.trans (hb.mono HBW.out.size)⟩
          have hgh : gh < w3.heap.size := (HOV.out.lt gh rfl).2
          have hgh0 : wp.heap.size ≤ gh := (HOV.out.lt gh rfl).1
          obtain ⟨O, hO⟩ : ∃ O, O = w3.heap.size := ⟨_, rfl⟩
          have HST : Keep (Holds (w3.alloc (.cells (List.replicate 32 (Value.int .u8 0)).toArray 32)) O 32 ((oRef H 0).map (Value.int .u8))) := ⟨Holds.made' hO 32 _⟩
          have hgO : gh < O := by omega
          have hOwp : wp.heap.size ≤ O := by have := HBV.out.size; omega
          clear hpos hlen hofz hownH hown hb hH CW CS CL HOF HCB
          go_wp2_with fail
          rw [← hO]
          clear hO
          go_loopw [10] (fun iv wr => ∃ k : Nat, k ≤ 32 ∧ iv = .int .i64 (31 - (k : Int)) ∧ Holds wr O 32 ((oRef H k).map (Value.int .u8)) ∧ wr.ownsRow wp.heap.size 44 1 (.slice (some ⟨gh, 0, none⟩) 8 chh) 8 ((hRef H k).map (Value.int .u32)) ∧ Below wp.heap.size wp wr) (fun iv _ => (intOf iv + 1).toNat)
          case atStart => exact ⟨0, by omega, rfl, HST.out, HOV.out.alloc _, HBV.out.trans ((balloc _ _).mono HBV.out.size)⟩
          case round =>
            obtain ⟨k, hk, rfl, ho, hown, hb⟩ := hrel
            by_cases hlt : k < 32
            · obtain ⟨m, hm⟩ : ∃ m : Nat, m = 31 - k := ⟨_, rfl⟩
              have hmi : 31 - (k : Int) = (m : Int) := by omega
              have hm1 : m ≤ 31 := by omega
              have hso : oRef H (k + 1) = (oRef H k).set m ((hRef H k).getD (m / 4) 0 % 256) := by rw [hm]; rfl
              have hsh : hRef H (k + 1) = (hRef H k).set (m / 4) ((hRef H k).getD (m / 4) 0 / 256) := by rw [hm]; rfl
              have lo1 := HOLEN.out k
              have lh1 := HLEN.out k
              have hx := HPOS.out k (m / 4)
              have ch1 := (hown.cellAt (m / 4) (by omega)).trans (map_cell (Value.int .u32) (hRef H k) (m / 4) (by omega) 0)
              obtain ⟨x, hxe⟩ : ∃ x, x = (hRef H k).getD (m / 4) 0 := ⟨_, rfl⟩
              rw [← hxe] at hso hsh hx ch1
              have HXE : Keep _ := ⟨hxe⟩
              clear hxe
              have co1 := (ho.cell m).trans (map_cell (Value.int .u8) (oRef H k) m (by omega) 0)
              have fo1 := ho.free m
              have ho2 := ho.store m (.int .u8 (x % 256))
              have hown2 := hown.kept (grown_store wr O m (.int .u8 (x % 256))) (.inr (by simp [Value.ownBlock]; omega))
              have hb2 : Below wp.heap.size wp (wr.setCell ⟨O, m, none⟩ (.int .u8 (x % 256))) := Below.setCell hb (show wp.heap.size ≤ O from hOwp) _
              rw [← List.map_set, ← hso] at ho2
              obtain ⟨y, hy⟩ : ∃ y, y = (oRef H k).getD m 0 := ⟨_, rfl⟩
              rw [← hy] at co1
              have HHO : Keep _ := ⟨ho2⟩
              have HHN : Keep _ := ⟨hown2⟩
              have HHB : Keep _ := ⟨hb2⟩
              have HSH : Keep _ := ⟨hsh⟩
              have HM : Keep (m = 31 - k) := ⟨hm⟩
              rw [hmi]
              have t1 : x.tmod 256 = x % 256 := Int.tmod_eq_emod_of_nonneg hx.1
              have t2 : x.tdiv 256 = x / 256 := Int.tdiv_eq_ediv_of_nonneg hx.1
              have t3 : x / 256 % 4294967296 = x / 256 := by omega
              have g2 : decide ((m : Int) ≥ 0) = true := by simp
              have b1 : (m : Int) < 32 := by omega
              have b2 : (0 : Int) ≤ m := by omega
              have b3 : (m : Int) / 4 < 8 := by omega
              have b4 : m < 32 := by omega
              have b5 : m / 4 < 8 := by omega
              clear hy ho hown hb ho2 hown2 hb2 hso hsh hm hmi
              go_upto_region 19 with fail
              obtain ⟨w5, hw5⟩ : ∃ w5, w5 = wr.setCell ⟨O, m, none⟩ (.int .u8 (x % 256)) := ⟨_, rfl⟩
              have hown5 := HHN.out
              have ho5 := HHO.out
              have hb5 := HHB.out
              rw [← hw5] at hown5 ho5 hb5 ⊢
              clear hw5 ch1 co1 fo1 HHO HHN HHB
              have ch2 := (hown5.cellAt (m / 4) (by omega)).trans (map_cell (Value.int .u32) (hRef H k) (m / 4) (by omega) 0)
              rw [← HXE.out] at ch2
              have zh2 := hown5.frozenAt (m / 4)
              go_wp2_with fail
              go_roundw
              case rel => exact ⟨k + 1, by omega, by (have := HM.out); first | (go_num; done) | (congr 1; omega), ho5.apart (show O ≠ gh by omega) _, by rw [HSH.out, List.map_set]; first | exact (World.ownsRow.stored hown5 (m / 4) _).1 | (rw [t3]; exact (World.ownsRow.stored hown5 (m / 4) _).1), Below.setCell hb5 (show wp.heap.size ≤ gh from hgh0) _⟩
              case measure => have := HM.out; simp [intOf] <;> omega
            · obtain rfl : k = 32 := by omega
              have hlen : ((oRef H 32).map (Value.int .u8)).length = 32 := by rw [List.length_map, HOLEN.out]
              have hone := ones (oRef H 32) .u8
              obtain ⟨L, hL⟩ : ∃ L, L = (oRef H 32).map (Value.int .u8) := ⟨_, rfl⟩
              rw [← hL] at ho hlen hone
              have HL2 : Keep _ := ⟨hL⟩
              have HO : Keep _ := ⟨ho⟩
              have HRW : Keep (Holds wr w.heap.size 32 (List.replicate 32 (.int .u8 0))) := ⟨HRS.out.below hb⟩
              have HBW4 : Keep (Below w.heap.size w wr) := ⟨((balloc w (.cells (List.replicate 32 (Value.int .u8 0)).toArray 32)).trans (HB2.out.mono (by simp))).trans (hb.mono (by omega))⟩
              have HLEN2 : Keep _ := ⟨hlen⟩
              have HONE : Keep _ := ⟨hone⟩
              have s32 : (Try.prog.info? 32).map (·.size) = some L.length := by rw [hlen]; exact size32
              have t32 : wr.there w.heap.size 0 L.toArray.size := (show wr.there w.heap.size 0 L.length by rw [hlen]; exact HRW.out.there')
              have S32 : Keep _ := ⟨s32⟩
              have T32 : Keep _ := ⟨t32⟩
              clear hL ho hlen hone s32 t32 hown hb
              rw [show (31 - ((32 : Nat) : Int)) = -1 by omega]
              go_wp2_with (first | (refine wpList_load_mid rfl 32 (.tmp 9) rfl O 0 rfl L _ HO.out.range Try.underlying32 rfl S32.out ?_) | (refine wpList_store_mid rfl 32 (.tmp 2) (.tmp 75) rfl w.heap.size 0 L.toArray rfl rfl T32.out S32.out (all_oneCell_toArray HONE.out) ?_))
              exact bodyPost_ret (v := .agg L.toArray) (results_cell1 (p := 2) Try.results20 _ _ w.heap.size 32 L _ rfl (HRW.out.laid0 L (by rw [HLEN2.out]; rfl)) Try.underlying32 rfl S32.out) rfl ⟨by rw [HOFZ.out, HL2.out], Below.setCells (Nat.le_refl _) _ _ _ HBW4.out⟩
end Go.Proofs.Ytmaoaljohjkjeaa
