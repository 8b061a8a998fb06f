/- The contract of the document's Root: what it answers, in the numbers of the walk. Condition: the root is the second or the third. -/
import Derived.Test.YtmaoaljohjkjeaaRefTimes
namespace Go.Proofs.Ytmaoaljohjkjeaa
open Go.ChangeShapes Go.WideShapes Go.ChangeAt Go.RowKit

def bumpT (x : List Int) (m : Nat) : List Int := x.set (m / 32) (IntKind.u64.wrap (x.getD (m / 32) 0 + IntKind.u64.wrap (2 ^ (m % 32))))
def powT (y : List Int) : Nat → List Int
  | 0 => [1, 0, 0, 0]
  | k + 1 => rowsT (powT y k) y 4
def wholeT (n : Nat) (P : List Int) : Int := if n = 2 then IntKind.u64.wrap (P.getD 2 0 + IntKind.u64.wrap (P.getD 3 0 * 4294967296)) else P.getD n 0
def rootT (p : Int) (n : Nat) : Nat → List Int
  | 0 => [0, 0]
  | k + 1 => if wholeT n (powT (bumpT (rootT p n k) (35 - k)) n) < p then bumpT (rootT p n k) (35 - k) else rootT p n k
theorem bumpT_length (x : List Int) (m : Nat) : (bumpT x m).length = x.length := List.length_set
theorem powT_length (y : List Int) : ∀ k, (powT y k).length = 4
  | 0 => rfl
  | _ + 1 => rowsT_length _ _ 4
theorem rootT_length (p : Int) (n : Nat) : ∀ k, (rootT p n k).length = 2
  | 0 => rfl
  | k + 1 => by
    rw [rootT]
    split
    · rw [bumpT_length]; exact rootT_length p n k
    · exact rootT_length p n k
theorem setCells_size (b : Nat) : ∀ (vs : List Value) (o : Nat) (w : World), (w.setCells b o vs).heap.size = w.heap.size
  | [], _, _ => rfl
  | v :: vs, o, w => by rw [World.setCells, setCells_size b vs]; simp
theorem size65 : (Try.prog.info? 65).map (·.size) = some 2 := by kernel_rfl

/-- the blocks of a round of Root: x, y and the power -/
structure InRoot (w wr : World) (Y : Nat) (x y P : List Int) : Prop where
  hx : Holds wr w.heap.size 65 (x.map (Value.int .u64))
  hy : Holds wr Y 65 (y.map (Value.int .u64))
  hp : Holds wr (Y + 1) 66 (P.map (Value.int .u64))
  below : Below w.heap.size w wr

set_option maxRecDepth 100000 in
set_option maxHeartbeats 4000000 in
theorem rootref_any (p : Int) (n : Nat) (hn2 : 2 ≤ n) (hn3 : n ≤ 3) (w : World) :
    Calls Try.prog 35 #[.int .u64 p, .int .i64 n] w fun e w' => e = .returned (.int .u32 ((rootT p n 36).getD 0 0 % 4294967296)) ∧ Below w.heap.size w w' := by
  have u65 := Try.underlying65
  have u66 := Try.underlying66
  go_enter Try.func35, Try.ntmps35
  go_wp2_with fail
  go_loopw [6] (fun bv wr => ∃ k : Nat, k ≤ 36 ∧ bv = .int .i64 (35 - (k : Int)) ∧ Holds wr w.heap.size 65 ((rootT p n k).map (Value.int .u64)) ∧ Below w.heap.size w wr) (fun bv _ => (intOf bv + 1).toNat)
  case atStart => exact ⟨0, by omega, rfl, Holds.made w 65 [.int .u64 0, .int .u64 0], balloc _ _⟩
  case round =>
    obtain ⟨k, hk, rfl, hx, hb⟩ := hrel
    obtain ⟨wo, hwo⟩ : ∃ wo, wo = wr := ⟨_, rfl⟩
    subst hwo
    by_cases hlt : k < 36
    · have lx := rootT_length p n k
      have HS : Keep _ := ⟨show rootT p n (k + 1) = if wholeT n (powT (bumpT (rootT p n k) (35 - k)) n) < p then bumpT (rootT p n k) (35 - k) else rootT p n k from rfl⟩
      obtain ⟨m, hm⟩ : ∃ m : Nat, m = 35 - k := ⟨_, rfl⟩
      have hmi : 35 - (k : Int) = (m : Int) := by omega
      rw [← hm] at HS
      rw [hmi]
      have hm1 : m ≤ 35 := by omega
      have HM : Keep (m = 35 - k) := ⟨hm⟩
      clear hm
      generalize rootT p n k = x at hx HS lx
      have HX : Keep _ := ⟨hx⟩
      have HB : Keep _ := ⟨hb⟩
      have lL : Keep ((x.map (Value.int .u64)).length = 2) := ⟨by rw [List.length_map, lx]⟩
      have one : Keep _ := ⟨ones x .u64⟩
      have s65 : Keep ((Try.prog.info? 65).map (·.size) = some (x.map (Value.int .u64)).length) := ⟨by rw [lL.out]; exact size65⟩
      clear hx hb hmi
      go_upto_region 6 with (first | (refine wpList_load_mid rfl 65 (.tmp 5) rfl w.heap.size 0 rfl (x.map (Value.int .u64)) _ HX.out.range u65 rfl s65.out ?_) | (refine wpList_store_mid rfl 65 (.tmp 7) (.tmp 16) rfl wo.heap.size 0 (x.map (Value.int .u64)).toArray rfl rfl ?tA s65.out (all_oneCell_toArray one.out) ?_))
      case tA => exact (show (wo.alloc _).there wo.heap.size 0 (x.map (Value.int .u64)).length by rw [lL.out]; exact (Holds.made wo 65 [.int .u64 0, .int .u64 0]).there')
      have hY : Holds ((wo.alloc (.cells #[.int .u64 0, .int .u64 0] 65)).setCells wo.heap.size 0 (x.map (Value.int .u64))) wo.heap.size 65 (x.map (Value.int .u64)) := (Holds.made wo 65 [.int .u64 0, .int .u64 0]).laid0 _ (by rw [lL.out]; rfl)
      have hB2 : Below wo.heap.size wo ((wo.alloc (.cells #[.int .u64 0, .int .u64 0] 65)).setCells wo.heap.size 0 (x.map (Value.int .u64))) := Below.setCells (Nat.le_refl _) _ _ _ (balloc _ _)
      have hsz : ((wo.alloc (.cells #[.int .u64 0, .int .u64 0] 65)).setCells wo.heap.size 0 (x.map (Value.int .u64))).heap.size = wo.heap.size + 1 := by rw [setCells_size]; simp
      generalize (wo.alloc (.cells #[.int .u64 0, .int .u64 0] 65)).setCells wo.heap.size 0 (x.map (Value.int .u64)) = wy at hY hB2 hsz ⊢
      have cy := (hY.cell (m / 32)).trans (map_cell (Value.int .u64) x (m / 32) (by rw [lx]; omega) 0)
      have fy := hY.free (m / 32)
      have hbump : bumpT x m = x.set (m / 32) (IntKind.u64.wrap (x.getD (m / 32) 0 + IntKind.u64.wrap (2 ^ (m % 32)))) := rfl
      generalize x.getD (m / 32) 0 = z at cy hbump
      have HY : Keep _ := ⟨hY⟩
      have HB2 : Keep _ := ⟨hB2⟩
      have HBU : Keep _ := ⟨hbump⟩
      clear hY hB2 hbump
      go_wp2_with fail
      have ly : (bumpT x m).length = 2 := by rw [bumpT_length, lx]
      have e1 : Keep ((x.map (Value.int .u64)).set (m / 32) (.int .u64 (IntKind.u64.wrap (z + IntKind.u64.wrap (2 ^ (m % 32))))) = (bumpT x m).map (Value.int .u64)) := ⟨by rw [HBU.out, List.map_set]⟩
      generalize bumpT x m = y at HS ly HBU e1
      have lLy : Keep ((y.map (Value.int .u64)).length = 2) := ⟨by rw [List.length_map, ly]⟩
      have s65y : Keep ((Try.prog.info? 65).map (·.size) = some (y.map (Value.int .u64)).length) := ⟨by rw [lLy.out]; exact size65⟩
      have LY : Keep _ := ⟨ly⟩
      have lB : w.heap.size < wo.heap.size := HX.out.size_lt
      clear ly
      go_loopw [9] (fun iv w2 => ∃ i : Nat, i ≤ n ∧ iv = .int .i64 i ∧ InRoot w w2 wo.heap.size x y (powT y i)) (fun iv _ => n - (intOf iv).toNat)
      case atStart =>
        refine ⟨0, by omega, rfl, ((HX.out.below HB2.out).apart (by simp; omega) _).alloc _, ?_, ?_, ?_⟩
        · have := (HY.out.store (m / 32) (.int .u64 (IntKind.u64.wrap (z + IntKind.u64.wrap (2 ^ (m % 32)))))).alloc (.cells #[.int .u64 1, .int .u64 0, .int .u64 0, .int .u64 0] 66)
          rw [e1.out] at this
          exact this
        · exact Holds.made' (by simp [hsz]) 66 [.int .u64 1, .int .u64 0, .int .u64 0, .int .u64 0]
        · exact bthen ((HB.out.trans (HB2.out.mono HB.out.size)).setCell (by simp; omega) _) (balloc _ _)
      case round =>
        obtain ⟨i, hi, rfl, hin⟩ := hrel
        have HIN : Keep _ := ⟨hin⟩
        have lP := powT_length y i
        have HP : Keep (powT y (i + 1) = rowsT (powT y i) y 4) := ⟨rfl⟩
        by_cases hlt2 : i < n
        · generalize powT y i = P at HIN HP lP
          clear hin
          have g1 : decide ((i : Int) < (n : Int)) = true := by simp; omega
          have lLP : Keep ((P.map (Value.int .u64)).length = 4) := ⟨by rw [List.length_map, lP]⟩
          have s66 : Keep ((Try.prog.info? 66).map (·.size) = some (P.map (Value.int .u64)).length) := ⟨by rw [lLP.out]; exact size66⟩
          have CT : Keep _ := ⟨fun w => timesref_any P y lP LY.out w⟩
          have lQ : Keep (((rowsT P y 4).map (Value.int .u64)).length = 4) := ⟨by rw [List.length_map, rowsT_length]⟩
          have oneQ : Keep _ := ⟨ones (rowsT P y 4) .u64⟩
          generalize rowsT P y 4 = Q at HP CT lQ oneQ
          have s66q : Keep ((Try.prog.info? 66).map (·.size) = some (Q.map (Value.int .u64)).length) := ⟨by rw [lQ.out]; exact size66⟩
          have b1 := HIN.out.below.size
          have b2 := HIN.out.hp.size_lt
          go_upto_region 10 with (first | (refine wpList_load_mid rfl 66 (.tmp 8) rfl (wo.heap.size + 1) 0 rfl (P.map (Value.int .u64)) _ HIN.out.hp.range u66 rfl s66.out ?_) | (refine wpList_load_mid rfl 65 (.tmp 7) rfl wo.heap.size 0 rfl (y.map (Value.int .u64)) _ HIN.out.hy.range u65 rfl s65y.out ?_) | (go_at_call 41; refine (CT.out _).mono ?_; rintro e w3 ⟨rfl, hb3⟩) | (refine wpList_store_mid rfl 66 (.tmp 8) (.tmp 37) rfl (wo.heap.size + 1) 0 (Q.map (Value.int .u64)).toArray rfl rfl ?tB s66q.out (all_oneCell_toArray oneQ.out) ?_))
          case tB => exact (show World.there w3 (wo.heap.size + 1) 0 (Q.map (Value.int .u64)).length by rw [lQ.out, ← lLP.out]; exact (HIN.out.hp.below hb3).there')
          go_wp2_with fail
          go_roundw
          case rel => exact ⟨i + 1, by omega, by go_num, by
            rw [HP.out]
            exact ⟨(HIN.out.hx.below hb3).apartCells (by omega) _ _ _, (HIN.out.hy.below hb3).apartCells (by omega) _ _ _, (HIN.out.hp.below hb3).laid0 _ (by rw [lQ.out, lLP.out]), Below.setCells (by omega) _ _ _ (bthen HIN.out.below hb3)⟩⟩
          case measure => simp [intOf]; omega
        · obtain rfl : i = n := by omega
          have hw : wholeT i (powT y i) = if i = 2 then IntKind.u64.wrap ((powT y i).getD 2 0 + IntKind.u64.wrap ((powT y i).getD 3 0 * 4294967296)) else (powT y i).getD i 0 := rfl
          generalize powT y i = P at HIN HP lP HS hw
          clear hin HP
          have cn := (HIN.out.hp.cell i).trans (map_cell (Value.int .u64) P i (by omega) 0)
          have c3 := (HIN.out.hp.cell 3).trans (map_cell (Value.int .u64) P 3 (by omega) 0)
          have one2 : Keep _ := ⟨ones y .u64⟩
          have tX : Keep _ := ⟨HIN.out.hx.there'⟩
          obtain ⟨v, hv⟩ : ∃ v, wholeT i P = v := ⟨_, rfl⟩
          rw [hv] at hw HS
          have hcase : (i = 2 ∧ v = IntKind.u64.wrap (P.getD i 0 + IntKind.u64.wrap (P.getD 3 0 * 4294967296))) ∨ (i = 3 ∧ v = P.getD i 0) := by
            rcases (show i = 2 ∨ i = 3 by omega) with h2 | h3
            · exact .inl ⟨h2, by rw [hw, if_pos h2, h2]⟩
            · exact .inr ⟨h3, by rw [hw, if_neg (by omega)]⟩
          generalize P.getD i 0 = a at cn hcase
          generalize P.getD 3 0 = b at c3 hcase
          have HV : Keep _ := ⟨hv⟩
          clear hw hv
          rcases hcase with ⟨h2, hv⟩ | ⟨h3, hv⟩
          · have gd : ((i : Int) = 2) = True := eq_true (by omega)
            have gd2 : ((i : Int) == 2) = true := by simp; omega
            have gd3 : decide ((i : Int) = 2) = true := by simp; omega
            clear h2
            by_cases hlt3 : v < p
            · have hlt4 := hlt3
              have g4 : decide (v < p) = true := by simp; omega
              rw [hv] at g4
              go_wp2_with (first | (refine wpList_load_mid rfl 65 (.tmp 7) rfl wo.heap.size 0 rfl (y.map (Value.int .u64)) _ HIN.out.hy.range u65 rfl s65y.out ?_) | (refine wpList_store_mid rfl 65 (.tmp 5) (.tmp 51) rfl w.heap.size 0 (y.map (Value.int .u64)).toArray rfl rfl ?tC s65y.out (all_oneCell_toArray one2.out) ?_))
              case tC => exact (show World.there wr w.heap.size 0 (y.map (Value.int .u64)).length by rw [lLy.out, ← lL.out]; exact tX.out)
              go_roundw
              case rel => exact ⟨k + 1, by omega, by (have := HM.out); first | (go_num; done) | (congr 1; omega), by rw [HS.out, if_pos hlt3]; exact HIN.out.hx.laid0 _ (by rw [lLy.out, lL.out]), Below.setCells (Nat.le_refl _) _ _ _ HIN.out.below⟩
              case measure => have := HM.out; simp [intOf] <;> omega
            · have hlt4 := hlt3
              have g4 : decide (v < p) = false := by simp; omega
              rw [hv] at g4
              go_wp2_with (first | (refine wpList_load_mid rfl 65 (.tmp 7) rfl wo.heap.size 0 rfl (y.map (Value.int .u64)) _ HIN.out.hy.range u65 rfl s65y.out ?_) | (refine wpList_store_mid rfl 65 (.tmp 5) (.tmp 51) rfl w.heap.size 0 (y.map (Value.int .u64)).toArray rfl rfl ?tC s65y.out (all_oneCell_toArray one2.out) ?_))
              go_roundw
              case rel => exact ⟨k + 1, by omega, by (have := HM.out); first | (go_num; done) | (congr 1; omega), by rw [HS.out, if_neg hlt3]; exact HIN.out.hx, HIN.out.below⟩
              case measure => (have := HM.out); first | (simp [intOf]; done) | (simp [intOf]; omega)
          · have gd : ((i : Int) = 2) = False := eq_false (by omega)
            have gd2 : ((i : Int) == 2) = false := by simp; omega
            have gd3 : decide ((i : Int) = 2) = false := by simp; omega
            clear h3 c3
            by_cases hlt3 : v < p
            · have hlt4 := hlt3
              have g4 : decide (v < p) = true := by simp; omega
              rw [hv] at g4
              go_wp2_with (first | (refine wpList_load_mid rfl 65 (.tmp 7) rfl wo.heap.size 0 rfl (y.map (Value.int .u64)) _ HIN.out.hy.range u65 rfl s65y.out ?_) | (refine wpList_store_mid rfl 65 (.tmp 5) (.tmp 51) rfl w.heap.size 0 (y.map (Value.int .u64)).toArray rfl rfl ?tC s65y.out (all_oneCell_toArray one2.out) ?_))
              case tC => exact (show World.there wr w.heap.size 0 (y.map (Value.int .u64)).length by rw [lLy.out, ← lL.out]; exact tX.out)
              go_roundw
              case rel => exact ⟨k + 1, by omega, by (have := HM.out); first | (go_num; done) | (congr 1; omega), by rw [HS.out, if_pos hlt3]; exact HIN.out.hx.laid0 _ (by rw [lLy.out, lL.out]), Below.setCells (Nat.le_refl _) _ _ _ HIN.out.below⟩
              case measure => have := HM.out; simp [intOf] <;> omega
            · have hlt4 := hlt3
              have g4 : decide (v < p) = false := by simp; omega
              rw [hv] at g4
              go_wp2_with (first | (refine wpList_load_mid rfl 65 (.tmp 7) rfl wo.heap.size 0 rfl (y.map (Value.int .u64)) _ HIN.out.hy.range u65 rfl s65y.out ?_) | (refine wpList_store_mid rfl 65 (.tmp 5) (.tmp 51) rfl w.heap.size 0 (y.map (Value.int .u64)).toArray rfl rfl ?tC s65y.out (all_oneCell_toArray one2.out) ?_))
              go_roundw
              case rel => exact ⟨k + 1, by omega, by (have := HM.out); first | (go_num; done) | (congr 1; omega), by rw [HS.out, if_neg hlt3]; exact HIN.out.hx, HIN.out.below⟩
              case measure => (have := HM.out); first | (simp [intOf]; done) | (simp [intOf]; omega)
    · obtain rfl : k = 36 := by omega
      have c0 := (hx.cell 0).trans (map_cell (Value.int .u64) (rootT p n 36) 0 (by rw [rootT_length]; omega) 0)
      generalize ha : (rootT p n 36).getD 0 0 = a at c0
      have HA : Keep _ := ⟨ha⟩
      have HB : Keep _ := ⟨hb⟩
      clear hx hb ha
      rw [show (35 - ((36 : Nat) : Int)) = -1 by omega]
      go_wp2_with fail
      go_ret
      exact ⟨by rw [HA.out]; rfl, HB.out⟩
end Go.Proofs.Ytmaoaljohjkjeaa
