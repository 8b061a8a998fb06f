/- The contract of sha.found: it answers the tables K and H. No conditions. -/
import Derived.Test.YtmaoaljohjkjeaaSieve
import Derived.RegionTactic
import Derived.Deep.RegionHeld3
namespace Go.Proofs.Ytmaoaljohjkjeaa
open Go.ChangeShapes Go.WideShapes Go.ChangeAt Go.RowKit
def zero60 : Array Value := (List.replicate 312 (Value.bool false)).toArray
theorem zero60_run (W : World) : (zeroValue 60).run Try.prog W = .ok (.agg zero60) W := by kernel_rfl

/-- the three blocks of found ahead of round n: how they stand in world wr, of a call that began with B blocks -/
structure AtRound (w wr : World) (n : Nat) : Prop where
  ks : Holds wr w.heap.size 45 ((kTo n).map (Value.int .u32))
  hs : Holds wr (w.heap.size + 1) 47 ((hTo n).map (Value.int .u32))
  st : Holds wr (w.heap.size + 1 + 1) 60 ((struckTo n).map Value.bool)
  below : Below w.heap.size w wr

theorem map_cell {α : Type} (f : α → Value) (l : List α) (i : Nat) (h : i < l.length) (d : α) : (l.map f)[i]? = some (f (l.getD i d)) := by
  simp [h]

theorem struck_succ (n : Nat) : struckTo (n + 1) = if n < 2 ∨ (struckTo n).getD n true = true then struckTo n else strikeGo n 312 (struckTo n) (n * n) := rfl

theorem AtRound.same {w wr : World} {n : Nat} (h : AtRound w wr n) (hp : isPr n = false) : AtRound w wr (n + 1) := by
  have e : struckTo (n + 1) = struckTo n := by
    rw [struck_succ, if_pos]
    rcases Nat.lt_or_ge n 2 with h2 | h2
    · exact .inl h2
    · right
      have hd : decide (n < 2) = false := by simp; omega
      unfold isPr at hp; rw [hd] at hp; simpa using hp
  exact ⟨by rw [kTo, if_neg (by rw [hp]; simp)]; exact h.ks, by rw [hTo, if_neg (by rw [hp]; simp)]; exact h.hs, by rw [e]; exact h.st, h.below⟩

/-- the inner loop: how it stands, and that from there it comes to what round n leaves -/
structure Strikes (w wr : World) (n m fuel : Nat) (S : List Bool) : Prop where
  ks : Holds wr w.heap.size 45 ((kTo n).map (Value.int .u32))
  hs : Holds wr (w.heap.size + 1) 47 ((hTo n).map (Value.int .u32))
  st : Holds wr (w.heap.size + 1 + 1) 60 (S.map Value.bool)
  below : Below w.heap.size w wr
  len : S.length = 312
  comes : strikeGo n fuel S m = strikeGo n 312 (struckTo n) (n * n)

theorem Strikes.next {w wr : World} {n m fuel : Nat} {S : List Bool} (h : Strikes w wr n m fuel S) (hm : m ≤ 311) (hf : 311 < m + fuel) :
    Strikes w (wr.setCell ⟨w.heap.size + 1 + 1, m, none⟩ (.bool true)) n (m + n) (fuel - 1) (S.set m true) := by
  obtain ⟨h1, h2, h3, h4, h5, h6⟩ := h
  refine ⟨h1.apart (by simp; omega) _, h2.apart (by simp) _, ?_, h4.setCell (by simp; omega) _, by simpa using h5, ?_⟩
  · rw [List.map_set]; exact h3.store m _
  · rw [← h6]
    cases fuel with
    | zero => omega
    | succ f => rw [strikeGo, if_pos hm]; rfl
theorem Strikes.done {w wr : World} {n m fuel : Nat} {S : List Bool} (h : Strikes w wr n m fuel S) (hm : 311 < m) (hp : isPr n = true) : S = struckTo (n + 1) := by
  have e : struckTo (n + 1) = strikeGo n 312 (struckTo n) (n * n) := by
    rw [struck_succ, if_neg]
    rintro (h2 | h2)
    · unfold isPr at hp; rw [decide_eq_true h2] at hp; simp at hp
    · unfold isPr at hp; rw [h2] at hp; simp at hp
  rw [e, ← h.comes]
  cases fuel with
  | zero => rfl
  | succ f => rw [strikeGo, if_neg (by omega)]

/-- a cell that is written with what it holds: nothing turns -/
theorem setCell_same {w : World} {g i : Nat} {t : TypeId} {cs : List Value} {v : Value} (h : Holds w g t cs) (hv : cs[i]? = some v) : w.setCell ⟨g, i, none⟩ v = w := by
  have h1 := h.store i v
  have h2 : cs.set i v = cs := by
    apply List.ext_getElem?
    intro j
    rw [List.getElem?_set]
    split
    · rename_i e; subst e
      have hl : i < cs.length := by have := List.getElem?_eq_some_iff.1 hv; exact this.1
      rw [if_pos hl, hv]
    · rfl
  rw [h2] at h1
  have he : (w.setCell ⟨g, i, none⟩ v).heap = w.heap := by
    apply Array.ext_getElem?
    intro k
    by_cases hk : k = g
    · subst hk; unfold Holds at h1 h; rw [h1, h]
    · exact Below.heap_setCell w ⟨g, i, none⟩ v k hk
  show { w with heap := (w.setCell ⟨g, i, none⟩ v).heap } = w
  rw [he]
theorem setCells_same {g : Nat} {t : TypeId} {cs : List Value} (w : World) (h : Holds w g t cs) : ∀ (vs : List Value) (o : Nat), (∀ j v, vs[j]? = some v → cs[o + j]? = some v) → w.setCells g o vs = w
  | [], _, _ => rfl
  | v :: vs, o, hv => by
    rw [World.setCells, setCell_same h (by simpa using hv 0 v rfl)]
    exact setCells_same w h vs (o + 1) (fun j u hu => by have := hv (j + 1) u (by simpa using hu); rw [show o + 1 + j = o + (j + 1) by omega]; exact this)
theorem Holds.range {w : World} {g : Nat} {t : TypeId} {cs : List Value} (h : Holds w g t cs) : w.rangeAt g 0 cs := fun j v hv => by rw [h.cell]; simpa using hv
theorem Holds.there' {w : World} {g : Nat} {t : TypeId} {cs : List Value} (h : Holds w g t cs) : w.there g 0 cs.length := fun j hj => ⟨by rw [h.cell]; simp; exact hj, by rw [h.free]⟩

theorem results_cell2 {fn : Func} {p q : Tmp} {ty uy : TypeId} (hf : fn.results = #[.cell p ty, .cell q uy]) (tmps : Array Value) (w : World) (g k : Nat) (t u : TypeId) (cs ds : List Value) (d d' : TypeDesc)
    (hp : tmps.getD p undef = .pointer (some ⟨g, 0, none⟩)) (hq : tmps.getD q undef = .pointer (some ⟨k, 0, none⟩)) (hg : Holds w g t cs) (hk : Holds w k u ds)
    (hu : Try.prog.underlying ty = some d) (hd : d.isRow = true) (hi : (Try.prog.info? ty).map (·.size) = some cs.length)
    (hu' : Try.prog.underlying uy = some d') (hd' : d'.isRow = true) (hi' : (Try.prog.info? uy).map (·.size) = some ds.length) :
    (results fn tmps).run Try.prog w = .ok (.tuple #[.agg cs.toArray, .agg ds.toArray]) w := by
  have hp' : tmps[p]?.getD undef = .pointer (some ⟨g, 0, none⟩) := by simpa using hp
  have hq' : tmps[q]?.getD undef = .pointer (some ⟨k, 0, none⟩) := by simpa using hq
  have r1 := run_loadVar_mid (P := Try.prog) w g 0 ty cs d hg.range hu hd hi
  have r2 := run_loadVar_mid (P := Try.prog) w k 0 uy ds d' hk.range hu' hd' hi'
  simp [results, hf, hp', hq', asAddr, r1, r2]

theorem Holds.made' {w : World} {g : Nat} (hg : g = w.heap.size) (t : TypeId) (cs : List Value) : Holds (w.alloc (.cells cs.toArray t)) g t cs := by subst hg; exact Holds.made w t cs

theorem size45 : (Try.prog.info? 45).map (·.size) = some 64 := by kernel_rfl
theorem size47 : (Try.prog.info? 47).map (·.size) = some 8 := by kernel_rfl

/-- behind a struck round: k, and h where there is room, have one number more -/
theorem Strikes.low {w wr w1 : World} {n m fuel : Nat} {S : List Bool} (h : Strikes w wr n m fuel S) (hm : 311 < m) (hp : isPr n = true) (h1 : Below wr.heap.size wr w1) (hc : ¬ countTo n < 8) :
    AtRound w (w1.setCell ⟨w.heap.size, countTo n, none⟩ (.int .u32 (behindZ n 3))) (n + 1) := by
  have hS := h.done hm hp
  subst hS
  refine ⟨?_, ?_, ((h.st.below h1).apart (by simp; omega) _), (h.below.trans (h1.mono h.below.size)).setCell (Nat.le_refl _) _⟩
  · rw [kTo, if_pos hp, List.map_set]; exact (h.ks.below h1).store _ _
  · rw [hTo, if_neg (fun k => hc k.2)]; exact (h.hs.below h1).apart (by simp) _
theorem Strikes.high {w wr w1 w2 : World} {n m fuel : Nat} {S : List Bool} (h : Strikes w wr n m fuel S) (hm : 311 < m) (hp : isPr n = true) (h1 : Below wr.heap.size wr w1)
    (h2 : Below (w1.setCell ⟨w.heap.size, countTo n, none⟩ (.int .u32 (behindZ n 3))).heap.size (w1.setCell ⟨w.heap.size, countTo n, none⟩ (.int .u32 (behindZ n 3))) w2) (hc : countTo n < 8) :
    AtRound w (w2.setCell ⟨w.heap.size + 1, countTo n, none⟩ (.int .u32 (behindZ n 2))) (n + 1) := by
  have hS := h.done hm hp
  subst hS
  have hb := (h.below.trans (h1.mono h.below.size)).setCell (p := ⟨w.heap.size, countTo n, none⟩) (Nat.le_refl _) (.int .u32 (behindZ n 3))
  refine ⟨?_, ?_, ((((h.st.below h1).apart (by simp; omega) _).below h2).apart (by simp) _), (hb.trans (h2.mono hb.size)).setCell (by simp) _⟩
  · rw [kTo, if_pos hp, List.map_set]; exact (((h.ks.below h1).store _ _).below h2).apart (by simp) _
  · rw [hTo, if_pos ⟨hp, hc⟩, List.map_set]; exact (((h.hs.below h1).apart (by simp) _).below h2).store _ _

theorem behind3 (p : Int) (w : World) : Calls Try.prog 38 #[.int .u64 p, .int .i64 3] w fun e w' => e = .returned (.int .u32 (behindZ p 3)) ∧ Below w.heap.size w w' := behind_any p 3 (by omega) (by omega) w
theorem behind2 (p : Int) (w : World) : Calls Try.prog 38 #[.int .u64 p, .int .i64 2] w fun e w' => e = .returned (.int .u32 (behindZ p 2)) ∧ Below w.heap.size w w' := behind_any p 2 (by omega) (by omega) w

/-- a cell that is there, and may be written -/
theorem Holds.there {w : World} {g : Nat} {t : TypeId} {cs : List Value} (h : Holds w g t cs) (i : Nat) (hi : i < cs.length) : ∃ v, w.cell? ⟨g, i, none⟩ = some v := ⟨cs[i], by rw [h.cell]; simp [hi]⟩

set_option maxRecDepth 100000 in
set_option maxHeartbeats 1000000 in
theorem found_any (w : World) : Calls Try.prog 30 #[] w fun e w' => e = .returned (.tuple #[.agg (kTab.map (Value.int .u32)).toArray, .agg (hTab.map (Value.int .u32)).toArray]) ∧ Below w.heap.size w w' := by
  have hz := zero60_run
  go_enter Try.func30, Try.ntmps30
  go_wp2_with fail
  clear hz
  go_loopw [3, 6] (fun iv nv wr => ∃ (n : Nat), n ≤ 312 ∧ nv = .int .i64 n ∧ iv = .int .i64 (countTo n : Nat) ∧ AtRound w wr n) (fun _ nv _ => 312 - (intOf nv).toNat)
  case atStart => exact ⟨0, by omega, rfl, rfl, ⟨((Holds.made w 45 _).alloc _).alloc _, (Holds.made' (by simp) 47 _).alloc _, by rw [show (struckTo 0).map Value.bool = List.replicate 312 (Value.bool false) from List.map_replicate]; exact Holds.made' (by simp) 60 _, (balloc _ _).trans (((balloc _ _).mono (by simp)).trans ((balloc _ _).mono (by simp; omega)))⟩⟩
  case round =>
    obtain ⟨n, hn, rfl, rfl, hr⟩ := hrel
    obtain ⟨wo, rfl⟩ : ∃ wo : World, wo = wr := ⟨_, rfl⟩
    by_cases hlt : n < 312
    · have cS := (hr.st.cell n).trans (map_cell Value.bool (struckTo n) n (by rw [struckTo_length]; exact hlt) true)
      generalize hb : (struckTo n).getD n true = b at cS
      by_cases h2 : n < 2
      · have hp := isPr_not n (.inl h2)
        have hr' := hr.same hp
        have hcn := Lib.hid (show countTo (n + 1) = countTo n by rw [countTo, hp]; rfl)
        clear hb cS hp
        go_wp2_with fail
        go_roundw
        case rel => exact ⟨n + 1, by omega, by go_num, by rw [hcn.out], hr'⟩
        case measure => simp [intOf]; omega
      · have hd2 : decide ((n : Int) < 2) = false := by simp; omega
        cases b
        · have hp := Lib.hid (isPr_of n h2 hb)
          have hc := isPr_lt n hlt hp.out
          have hcn := Lib.hid (show countTo (n + 1) = countTo n + 1 by rw [countTo, hp.out]; rfl)
          have hq0 : (0 : Int) ≤ (n : Int) * (n : Int) := Int.mul_nonneg (by omega) (by omega)
          have hq1 : (n : Int) * (n : Int) ≤ 96721 := Int.le_trans (Int.mul_le_mul (show (n : Int) ≤ 311 by omega) (show (n : Int) ≤ 311 by omega) (by omega) (by omega)) (by decide)
          clear hb
          go_wp2_with fail
          go_loopw [5] (fun mv wr => ∃ (m fuel : Nat) (S : List Bool), mv = .int .i64 m ∧ m ≤ 96721 ∧ 311 < m + fuel ∧ Strikes w wr n m fuel S) (fun mv _ => 312 - (intOf mv).toNat)
          case atStart => exact ⟨n * n, 312, _, by go_num, by omega, by omega, ⟨hr.ks, hr.hs, hr.st, hr.below, struckTo_length n, rfl⟩⟩
          case round =>
            obtain ⟨m, fuel, S, rfl, hm, hf, hs⟩ := hrel
            by_cases hm2 : m ≤ 311
            · have cm := (hs.st.cell m).trans (map_cell Value.bool S m (by rw [hs.len]; omega) true)
              have fm := hs.st.free m
              have hs' := hs.next hm2 hf
              generalize S.getD m true = b at cm
              go_wp2_with fail
              go_roundw
              case rel => exact ⟨m + n, fuel - 1, _, by go_num, by omega, by omega, hs'⟩
              case measure => simp [intOf]; omega
            · have hm3 : 311 < m := by omega
              obtain ⟨vk, ck⟩ := hs.ks.there (countTo n) (by simp [kTo_length]; exact hc)
              have fk := hs.ks.free (countTo n)
              by_cases h8 : countTo n < 8
              · obtain ⟨vh, ch⟩ := hs.hs.there (countTo n) (by simp [hTo_length]; exact h8)
                have fh := hs.hs.free (countTo n)
                have lk := hs.ks.size_lt
                have lh := hs.hs.size_lt
                go_wp2_with fail
                refine (behind3 _ _).mono ?_
                rintro e w1 ⟨rfl, hb1⟩
                have ck1 := (hb1.cell (p := ⟨w.heap.size, countTo n, none⟩) lk).trans ck
                have fk1 := (hb1.frozen (p := ⟨w.heap.size, countTo n, none⟩) lk).trans fk
                have ch1 := (World.cell?_setCell_other w1 ⟨w.heap.size, countTo n, none⟩ ⟨w.heap.size + 1, countTo n, none⟩ (.int .u32 (behindZ n 3)) (by simp)).trans ((hb1.cell (p := ⟨w.heap.size + 1, countTo n, none⟩) lh).trans ch)
                have fh1 := (hb1.frozen (p := ⟨w.heap.size + 1, countTo n, none⟩) lh).trans fh
                have lh1 := hb1.size
                go_wp2_with fail
                refine (behind2 _ _).mono ?_
                rintro e w2 ⟨rfl, hb2⟩
                have ch2 := (hb2.cell (p := ⟨w.heap.size + 1, countTo n, none⟩) (by simp; omega)).trans ch1
                have fh2 := (hb2.frozen (p := ⟨w.heap.size + 1, countTo n, none⟩) (by simp; omega)).trans ((World.frozen?_setCell _ _ _ _).trans fh1)
                have hr' := hs.high hm3 hp.out hb1 hb2 h8
                go_wp2_with fail
                go_roundw
                case rel => exact ⟨n + 1, by omega, by go_num, by rw [hcn.out]; go_num, hr'⟩
                case measure => simp [intOf]; omega
              · have lk := hs.ks.size_lt
                go_wp2_with fail
                refine (behind3 _ _).mono ?_
                rintro e w1 ⟨rfl, hb1⟩
                have ck1 := (hb1.cell (p := ⟨w.heap.size, countTo n, none⟩) lk).trans ck
                have fk1 := (hb1.frozen (p := ⟨w.heap.size, countTo n, none⟩) lk).trans fk
                have hr' := hs.low hm3 hp.out hb1 h8
                go_wp2_with fail
                go_roundw
                case rel => exact ⟨n + 1, by omega, by go_num, by rw [hcn.out]; go_num, hr'⟩
                case measure => simp [intOf]; omega
        · have hp := isPr_not n (.inr hb)
          have hr' := hr.same hp
          have hcn := Lib.hid (show countTo (n + 1) = countTo n by rw [countTo, hp]; rfl)
          clear hb hp
          go_wp2_with fail
          go_roundw
          case rel => exact ⟨n + 1, by omega, by go_num, by rw [hcn.out], hr'⟩
          case measure => simp [intOf]; omega
    · obtain rfl : n = 312 := by omega
      obtain ⟨hk, hh, hst, hb⟩ := hr
      rw [k_all] at hk
      rw [h_all] at hh
      clear hst
      have one : ∀ (l : List Int) (k : IntKind), ∀ v ∈ l.map (Value.int k), v.oneCell' = true := fun l k v hv => by
        obtain ⟨x, _, rfl⟩ := List.mem_map.1 hv
        rfl
      have kl : (kTab.map (Value.int .u32)).length = 64 := rfl
      have hl : (hTab.map (Value.int .u32)).length = 8 := rfl
      have k1 := one kTab .u32
      have h1 := one hTab .u32
      generalize hK : kTab.map (Value.int .u32) = K at *
      generalize hH : hTab.map (Value.int .u32) = H at *
      have rk := hk.range
      have rh := hh.range
      have tk := hk.there'
      have th := hh.there'
      have HK := Lib.hid hk
      have HH := Lib.hid hh
      have HB := Lib.hid hb
      have EK := Lib.hid hK
      have EH := Lib.hid hH
      clear hk hh hb one hK hH
      have u45 := Try.underlying45
      have u47 := Try.underlying46
      go_wp2_with fail
      have s45 : (Try.prog.info? 45).map (·.size) = some K.length := by rw [kl]; exact size45
      have s47 : (Try.prog.info? 47).map (·.size) = some H.length := by rw [hl]; exact size47
      have e1 := setCells_same wo.drew HK.out.drawn K 0 (fun j v h => by simpa using h)
      have e2 := setCells_same wo.drew HH.out.drawn H 0 (fun j v h => by simpa using h)
      refine wp_region_held_drew (S := fun w' => w' = wo.drew) (by kernel_rfl) rfl (fun _ => ?_)
      refine wpAnyH_take (i := 0) (v := .agg K.toArray) rfl (by kernel_rfl) (by kernel_rfl) (by kernel_rfl) (fun _ _ _ h => h) (yieldsIf_load_mid (by rfl) 45 (.tmp 0) rfl w.heap.size 0 rfl K _ (fun w' h => by rw [h]; exact rk) u45 rfl s45) rfl ?_
      simp only [Act.put, List.getElem_toArray, List.getElem_cons_zero, List.setIfInBounds_toArray, List.set_cons_zero, List.set_cons_succ]
      refine wpAnyH_take (i := 1) (v := .agg H.toArray) rfl (by kernel_rfl) (by kernel_rfl) (by kernel_rfl) (fun _ _ _ h => h) (yieldsIf_load_mid (by rfl) 47 (.tmp 1) rfl (w.heap.size + 1) 0 rfl H _ (fun w' h => by rw [h]; exact rh) u47 rfl s47) rfl ?_
      simp only [Act.put, List.getElem_toArray, List.getElem_cons_zero, List.getElem_cons_succ, List.setIfInBounds_toArray, List.set_cons_zero, List.set_cons_succ]
      refine wpAnyH_ready (rs := [2]) (by kernel_rfl) (by simp) ?_
      refine AllReadyH.cons rfl (fun K' hK => ?_) AllReadyH.nil
      rw [if_pos (by rfl)]
      refine wp_store_mid 45 (.tmp 0) (.tmp 41) rfl w.heap.size 0 K.toArray rfl rfl (by simpa using tk) (by simpa using s45) (all_oneCell_toArray k1) ?_
      refine hK.out _ _ e1 (fun _ => ?_)
      rw [show wo.drew.setCells w.heap.size 0 K.toArray.toList = wo.drew from e1]
      clear hK K'
      simp only [Act.put, List.getElem_toArray, List.getElem_cons_zero, List.getElem_cons_succ]
      refine wpAnyH_ready (rs := [3]) (by kernel_rfl) (by simp) ?_
      refine AllReadyH.cons rfl (fun K' hK => ?_) AllReadyH.nil
      rw [if_pos (by rfl)]
      refine wp_store_mid 47 (.tmp 1) (.tmp 42) rfl (w.heap.size + 1) 0 H.toArray rfl rfl (by simpa using th) (by simpa using s47) (all_oneCell_toArray h1) ?_
      refine hK.out _ _ e2 (fun _ => ?_)
      rw [show wo.drew.setCells (w.heap.size + 1) 0 H.toArray.toList = wo.drew from e2]
      clear hK K'
      refine wpAnyH_done (by kernel_rfl) ?_ _
      go_wp2_with fail
      exact bodyPost_ret (v := .tuple #[.agg K.toArray, .agg H.toArray]) (results_cell2 (p := 0) (q := 1) Try.results30 _ _ w.heap.size (w.heap.size + 1) 45 47 K H _ _ rfl rfl HK.out.drawn HH.out.drawn u45 rfl s45 u47 rfl s47) rfl ⟨by rw [EK.out, EH.out], HB.out.drew⟩
end Go.Proofs.Ytmaoaljohjkjeaa
