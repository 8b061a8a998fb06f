/- The contract of sha.Of: the 32 bytes that it answers, as a function of the bytes handed in, in the numbers of the walk. Condition: at most 2 to the 47th bytes. -/
import Derived.Test.YtmaoaljohjkjeaaBlock
import Derived.Test.YtmaoaljohjkjeaaMsg
namespace Go.Proofs.Ytmaoaljohjkjeaa
open Go.ChangeShapes Go.WideShapes Go.ChangeAt Go.RowKit

/-- the state behind the first i blocks -/
def hashTo (zs : List Int) (B : Nat) : Nat → List Int
  | 0 => hTab
  | i + 1 => blockZ (fun t => wordTo zs B (16 * i + t) 4) kTab (hashTo zs B i)

theorem roundZ_length (f : Nat → Int) (K : List Int) (t : Nat) (st : List Int × List Int) : (roundZ f K t st).2.length = 8 := rfl
theorem blockZ_length (f : Nat → Int) (K H : List Int) : (blockZ f K H).length = 8 := by
  rw [blockZ, sumTo_length]; exact roundZ_length f K 63 _
theorem hashTo_length (zs : List Int) (B : Nat) : ∀ i, (hashTo zs B i).length = 8
  | 0 => rfl
  | _ + 1 => blockZ_length _ _ _
theorem eight (l : List Int) (h : l.length = 8) : ∃ a b c d e f g k, l = [a, b, c, d, e, f, g, k] := by
  match l, h with
  | [a, b, c, d, e, f, g, k], _ => exact ⟨a, b, c, d, e, f, g, k, rfl⟩

/-- the first k bytes of the answer -/
def outTo (H : List Int) : Nat → List Int
  | 0 => List.replicate 32 0
  | k + 1 => (outTo H k).set (4 * (k / 4) + 3 - k % 4) (H.getD (k / 4) 0 / 2 ^ (8 * (k % 4)) % 256)
theorem outTo_length (H : List Int) : ∀ k, (outTo H k).length = 32
  | 0 => List.length_replicate
  | k + 1 => by rw [outTo, List.length_set]; exact outTo_length H k

theorem outTo_step (H : List Int) (i n : Nat) (hn : n < 4) : outTo H (4 * i + (n + 1)) = (outTo H (4 * i + n)).set (4 * i + 3 - n) (H.getD i 0 / 2 ^ (8 * n) % 256) := by
  rw [show 4 * i + (n + 1) = (4 * i + n) + 1 by omega, outTo, show (4 * i + n) / 4 = i by omega, show (4 * i + n) % 4 = n by omega]

def blocksOf (n : Nat) : Nat := (n + 8) / 64 + 1
/-- sha.Of, in the numbers of the walk -/
def ofZ (zs : List Int) : List Int := outTo (hashTo zs (blocksOf zs.length) (blocksOf zs.length)) 32

theorem ones (l : List Int) (k : IntKind) : ∀ v ∈ l.map (Value.int k), v.oneCell' = true := fun v hv => by
  obtain ⟨x, _, rfl⟩ := List.mem_map.1 hv
  rfl

theorem Holds.apartCells {g b : Nat} {t : TypeId} {cs : List Value} (hne : g ≠ b) : ∀ (vs : List Value) (o : Nat) (w : World), Holds w g t cs → Holds (w.setCells b o vs) g t cs
  | [], _, _, h => h
  | v :: vs, o, w, h => by rw [World.setCells]; exact Holds.apartCells hne vs (o + 1) _ (h.apart (by simpa using hne) v)

/-- a fact that no tactic looks into -/
structure Keep (p : Prop) : Prop where
  out : p

/-- the blocks of a call of Of -/
structure InOf (w wr : World) (B1 M : Nat) (A : Option Addr) (n cap NB : Nat) (H : List Int) : Prop where
  rs : ∃ Z, Z.length = 32 ∧ Holds wr w.heap.size 32 Z
  ks : Holds wr B1 45 (kTab.map (Value.int .u32))
  hs : Holds wr (B1 + 1) 47 (H.map (Value.int .u32))
  ms : Holds wr M 51 [.slice A n cap, .int .i64 NB]
  below : Below w.heap.size w wr
theorem InOf.next {w wr w' : World} {B1 M n cap NB : Nat} {A : Option Addr} {H : List Int} (h : InOf w wr B1 M A n cap NB H) (hb : Below wr.heap.size wr w') : InOf w w' B1 M A n cap NB H := by
  obtain ⟨⟨Z, hz, h1⟩, h2, h3, h4, h5⟩ := h
  exact ⟨⟨Z, hz, h1.below hb⟩, h2.below hb, h3.below hb, h4.below hb, h5.trans (hb.mono h5.size)⟩

theorem InOf.store {w wr : World} {B1 M n cap NB : Nat} {A : Option Addr} {H H' : List Int} (h : InOf w wr B1 M A n cap NB H) (hl : H'.length = H.length) (hB : w.heap.size < B1) (hM : B1 + 1 < M) :
    InOf w (wr.setCells (B1 + 1) 0 (H'.map (Value.int .u32))) B1 M A n cap NB H' := by
  obtain ⟨⟨Z, hz, h1⟩, h2, h3, h4, h5⟩ := h
  exact ⟨⟨Z, hz, Holds.apartCells (by omega) _ _ _ h1⟩, Holds.apartCells (by omega) _ _ _ h2, h3.laid0 _ (by simpa using hl), Holds.apartCells (by omega) _ _ _ h4, Below.setCells (by omega) _ _ _ h5⟩

theorem size32 : (Try.prog.info? 32).map (·.size) = some 32 := by kernel_rfl
theorem underlying47 : Try.prog.underlying 47 = some (.array 8 44) := Try.underlying46

set_option maxRecDepth 100000 in
set_option maxHeartbeats 4000000 in
theorem of_any (zs : List Int) (A : Option Addr) (cap : Nat) (w : World) (hz : Bytes w A zs) (hl : zs.length ≤ 140737488355328) :
    Calls Try.prog 19 #[.slice A zs.length cap] w fun e w' => e = .returned (.agg ((ofZ zs).map (Value.int .u8)).toArray) ∧ Below w.heap.size w w' := by
  have HZ := Lib.hid hz
  clear hz
  go_enter Try.func19, Try.ntmps19
  go_upto_region 1 with fail
  go_cut [3, 4] (fun s3 s4 wc => ∃ B1 : Nat, s3 = .pointer (some ⟨B1, 0, none⟩) ∧ s4 = .pointer (some ⟨B1 + 1, 0, none⟩) ∧ w.heap.size < B1 ∧ (∃ Z, Z.length = 32 ∧ Holds wc w.heap.size 32 Z) ∧ Holds wc B1 45 (kTab.map (Value.int .u32)) ∧ Holds wc (B1 + 1) 47 (hTab.map (Value.int .u32)) ∧ Below w.heap.size w wc)
  case first =>
    have k1 := Lib.hid (ones kTab .u32)
    have h1 := Lib.hid (ones hTab .u32)
    have kl : (kTab.map (Value.int .u32)).length = 64 := rfl
    have hl8 : (hTab.map (Value.int .u32)).length = 8 := rfl
    have KL := Lib.hid kl
    have HL := Lib.hid hl8
    clear kl hl8
    go_wp2_with (first | (go_at_call 30; refine (found_any _).mono ?_; rintro e w1 ⟨rfl, hb1⟩; generalize kTab.map (Value.int .u32) = K at *; generalize hTab.map (Value.int .u32) = H at *) | (refine wpList_store_mid rfl 45 (.tmp 3) (.tmp 13) rfl w1.heap.size 0 K.toArray rfl rfl ?tA ?tB ?tC ?_) | (refine wpList_store_mid rfl 47 (.tmp 4) (.tmp 14) rfl (w1.heap.size + 1) 0 H.toArray rfl rfl ?sA ?sB ?sC ?_))
    case tA => exact (show World.there _ w1.heap.size 0 K.length by rw [KL.out]; exact ((Holds.made w1 45 _).alloc _).there')
    case tB => exact (show _ = some K.length by rw [KL.out]; exact size45)
    case tC => exact all_oneCell_toArray k1.out
    case sA => exact (show World.there _ (w1.heap.size + 1) 0 H.length by rw [HL.out]; exact World.there_setCells (Holds.made' (by simp) 47 _).there' _ _ _)
    case sB => exact (show _ = some H.length by rw [HL.out]; exact size47)
    case sC => exact all_oneCell_toArray h1.out
    go_meet
    case rel =>
      have lt : w.heap.size < w1.heap.size := by have := hb1.size; simp at this; omega
      refine ⟨w1.heap.size, rfl, rfl, lt, ⟨_, ?z, Holds.apartCells (by omega) _ _ _ (Holds.apartCells (by omega) _ _ _ ((((Holds.made w 32 _).below hb1).alloc _).alloc _))⟩, Holds.apartCells (by omega) _ _ _ (((Holds.made w1 45 _).alloc _).laid0 K (by rw [KL.out]; rfl)), (Holds.apartCells (by omega) _ _ _ (Holds.made' (by simp) 47 _)).laid0 H (by rw [HL.out]; rfl), ?_⟩
      · rfl
      · exact Below.setCells (by omega) _ _ _ (Below.setCells (by omega) _ _ _ ((bthen (balloc _ _) hb1).trans ((bthen (balloc _ _) (balloc _ _)).mono (by omega))))
  case rest =>
    obtain ⟨B1, rfl, rfl, hlt, hrs, hks, hhs, hb⟩ := hcut
    have e : ((zs.length : Int) + 8) / 64 + 1 = ((blocksOf zs.length : Nat) : Int) := by unfold blocksOf; omega
    have hB : zs.length + 8 < 64 * blocksOf zs.length := by unfold blocksOf; omega
    have hB2 : blocksOf zs.length ≤ 140737488355328 := by unfold blocksOf; omega
    have hof : ofZ zs = outTo (hashTo zs (blocksOf zs.length) (blocksOf zs.length)) 32 := rfl
    generalize blocksOf zs.length = NB at e hB hB2 hof
    have HOF : Keep _ := ⟨hof⟩
    have b1 := hks.size_lt
    have b2 := hhs.size_lt
    obtain ⟨M, hM⟩ : ∃ M, M = wc.heap.size := ⟨_, rfl⟩
    have hin : InOf w (wc.alloc (.cells #[.slice A zs.length cap, .int .i64 NB] 51)) B1 M A zs.length cap NB (hashTo zs NB 0) := by
      obtain ⟨Z, hz, h1⟩ := hrs
      exact ⟨⟨Z, hz, h1.alloc _⟩, hks.alloc _, hhs.alloc _, Holds.made' hM 51 [.slice A zs.length cap, .int .i64 NB], hb.trans ((balloc _ _).mono hb.size)⟩
    have HIN : Keep _ := ⟨hin⟩
    clear hof hks hhs hrs hin
    have b3 : B1 + 1 < M := by omega
    go_wp2_with fail
    rw [← hM]
    clear e hM
    go_loopw [6, 24] (fun _ iv wr => ∃ i : Nat, i ≤ NB ∧ iv = .int .i64 i ∧ InOf w wr B1 M A zs.length cap NB (hashTo zs NB i)) (fun _ iv _ => NB - (intOf iv).toNat)
    case atStart => exact ⟨0, by omega, rfl, HIN.out⟩
    case round =>
      obtain ⟨i, hi, rfl, hr⟩ := hrel
      by_cases hin : i < NB
      · obtain ⟨h0, h1, h2, h3, h4, h5, h6, h7, hH⟩ := eight (hashTo zs NB i) (hashTo_length zs NB i)
        have hnext : hashTo zs NB (i + 1) = blockZ (fun t => wordTo zs NB (16 * i + t) 4) kTab (hashTo zs NB i) := rfl
        rw [hH] at hnext hr
        have C := block_any kTab rfl h0 h1 h2 h3 h4 h5 h6 h7 B1 M wr.heap.size (fun t => wordTo zs NB (16 * i + t) 4) (wr.alloc (.cells #[.int .i64 i] 3)) (hr.ks.alloc _) (fun t w1 ht hb1 =>
          tell_any zs A cap NB i t M wr.heap.size w1 (((HZ.out.below hr.below).below (balloc _ _)).below hb1) hl hB hB2 hin ht ((hr.ms.alloc _).below hb1) ((Holds.made wr 3 [.int .i64 i]).below hb1))
        have L8 := blockZ_length (fun t => wordTo zs NB (16 * i + t) 4) kTab [h0, h1, h2, h3, h4, h5, h6, h7]
        rw [← hnext] at C L8
        have HC : Keep _ := ⟨C⟩
        have HN : Keep _ := ⟨hnext⟩
        have H8 := Lib.hid L8
        have c0 := hr.hs.cell 0
        have c1 := hr.hs.cell 1
        have c2 := hr.hs.cell 2
        have c3 := hr.hs.cell 3
        have c4 := hr.hs.cell 4
        have c5 := hr.hs.cell 5
        have c6 := hr.hs.cell 6
        have c7 := hr.hs.cell 7
        simp only [List.map_cons, List.getElem?_cons_zero, List.getElem?_cons_succ] at c0 c1 c2 c3 c4 c5 c6 c7
        have lh := hr.hs.size_lt
        clear C hnext hH L8
        go_wp2_with (first | (go_at_call 31; refine HC.out.mono ?_; rintro e w1 ⟨rfl, hb1⟩) | (refine wpList_store_mid rfl 47 (.tmp 4) (.tmp 29) rfl (B1 + 1) 0 _ rfl rfl ?tA ?tB ?tC ?_))
        case tA => exact (show World.there _ (B1 + 1) 0 ((hashTo zs NB (i + 1)).map (Value.int .u32)).length by rw [List.length_map, H8.out]; exact ((hr.hs.alloc _).below hb1).there')
        case tB => exact (show _ = some ((hashTo zs NB (i + 1)).map (Value.int .u32)).length by rw [List.length_map, H8.out]; exact size47)
        case tC => exact all_oneCell_toArray (ones _ _)
        go_roundw
        case rel => exact ⟨i + 1, by omega, by go_num, (hr.next (bthen (balloc _ _) hb1)).store (by rw [H8.out]; rfl) hlt b3⟩
        case measure => simp [intOf]; omega
      · obtain rfl : i = NB := by omega
        obtain ⟨h0, h1, h2, h3, h4, h5, h6, h7, hH⟩ := eight (hashTo zs i i) (hashTo_length zs i i)
        rw [hH] at hr
        have HH : Keep _ := ⟨hH⟩
        have c0 := hr.hs.cell 0
        have c1 := hr.hs.cell 1
        have c2 := hr.hs.cell 2
        have c3 := hr.hs.cell 3
        have c4 := hr.hs.cell 4
        have c5 := hr.hs.cell 5
        have c6 := hr.hs.cell 6
        have c7 := hr.hs.cell 7
        simp only [List.map_cons, List.getElem?_cons_zero, List.getElem?_cons_succ] at c0 c1 c2 c3 c4 c5 c6 c7
        have lh := hr.hs.size_lt
        have hrs := Lib.hid hr.rs
        have hbl := Lib.hid hr.below
        obtain ⟨O, hO⟩ : ∃ O, O = wr.heap.size := ⟨_, rfl⟩
        have start : Holds (wr.alloc (.cells (List.replicate 32 (Value.int .u8 0)).toArray 32)) O 32 ((outTo [h0, h1, h2, h3, h4, h5, h6, h7] 0).map (Value.int .u8)) := Holds.made' hO 32 _
        have HST : Keep _ := ⟨start⟩
        clear hH start hr
        have lO : w.heap.size < O := by have := hbl.out.size; omega
        go_wp2_with fail
        rw [← hO]
        clear hO
        go_loopw [8, 9, 10, 32, 36] (fun _ _ _ iv _ wr2 => ∃ j : Nat, j ≤ 8 ∧ iv = .int .i64 j ∧ Holds wr2 O 32 ((outTo [h0, h1, h2, h3, h4, h5, h6, h7] (4 * j)).map (Value.int .u8)) ∧ (∃ Z, Z.length = 32 ∧ Holds wr2 w.heap.size 32 Z) ∧ Below w.heap.size w wr2) (fun _ _ _ iv _ _ => 8 - (intOf iv).toNat)
        case atStart =>
          obtain ⟨Z, hz, hr⟩ := hrs.out
          exact ⟨0, by omega, rfl, HST.out, ⟨Z, hz, hr.alloc _⟩, hbl.out.trans ((balloc _ _).mono hbl.out.size)⟩
        case round =>
          obtain ⟨j, hj, rfl, ho, hr, hb⟩ := hrel
          by_cases hj8 : j < 8
          · have hix := index8 h0 h1 h2 h3 h4 h5 h6 h7 j hj8
            generalize hx : [h0, h1, h2, h3, h4, h5, h6, h7].getD j 0 = x at hix
            have HX := Lib.hid hx
            clear hx
            go_wp2_with fail
            go_loopw [10, 36] (fun _ nv wr3 => ∃ n : Nat, n ≤ 4 ∧ nv = .int .i64 n ∧ Holds wr3 O 32 ((outTo [h0, h1, h2, h3, h4, h5, h6, h7] (4 * j + n)).map (Value.int .u8)) ∧ (∃ Z, Z.length = 32 ∧ Holds wr3 w.heap.size 32 Z) ∧ Below w.heap.size w wr3) (fun _ nv _ => 4 - (intOf nv).toNat)
            case atStart => exact ⟨0, by omega, rfl, ho, hr, hb⟩
            case round =>
              obtain ⟨n, hn, rfl, ho, ⟨Z, hz, hr⟩, hb⟩ := hrel
              by_cases hn4 : n < 4
              · obtain ⟨vo, co⟩ := ho.there (4 * j + 3 - n) (by rw [List.length_map, outTo_length]; omega)
                have fo := ho.free (4 * j + 3 - n)
                have hs := outTo_step [h0, h1, h2, h3, h4, h5, h6, h7] j n hn4
                rw [HX.out] at hs
                have HS : Keep _ := ⟨hs⟩
                have hst := ho.store (4 * j + 3 - n) (.int .u8 (x / 2 ^ (8 * n) % 256))
                have HT : Keep _ := ⟨hst⟩
                have hra := hr.apart (p := ⟨O, 4 * j + 3 - n, none⟩) (by simp; omega) (.int .u8 (x / 2 ^ (8 * n) % 256))
                have HRA : Keep _ := ⟨hra⟩
                have n0 : (0 : Int) ≤ 8 * (n : Int) := by omega
                have n1 : 8 * (n : Int) ≤ 64 := by omega
                clear hs hst hra ho hr
                go_wp2_with fail
                go_roundw
                case rel => exact ⟨n + 1, by omega, by go_num, by rw [HS.out, List.map_set]; exact HT.out, ⟨Z, hz, HRA.out⟩, hb.setCell (by simp; omega) _⟩
                case measure => simp [intOf]; omega
              · obtain rfl : n = 4 := by omega
                go_wp2_with fail
                go_roundw
                case rel => exact ⟨j + 1, by omega, by go_num, ho, ⟨Z, hz, hr⟩, hb⟩
                case measure => simp [intOf]; omega
          · obtain rfl : j = 8 := by omega
            obtain ⟨Z, hz, hr⟩ := hr
            have hlen : ((outTo [h0, h1, h2, h3, h4, h5, h6, h7] 32).map (Value.int .u8)).length = 32 := by rw [List.length_map, outTo_length]
            have hone := ones (outTo [h0, h1, h2, h3, h4, h5, h6, h7] 32) .u8
            have hfin : ofZ zs = outTo [h0, h1, h2, h3, h4, h5, h6, h7] 32 := by rw [HOF.out, HH.out]
            have HFIN : Keep _ := ⟨hfin⟩
            have ho' : Holds wr O 32 ((outTo [h0, h1, h2, h3, h4, h5, h6, h7] 32).map (Value.int .u8)) := ho
            clear ho hfin HOF HH HST HIN
            generalize hL : (outTo [h0, h1, h2, h3, h4, h5, h6, h7] 32).map (Value.int .u8) = L at ho' hlen hone
            have HL : Keep _ := ⟨hL⟩
            have HO : Keep _ := ⟨ho'⟩
            have HR : Keep _ := ⟨hr⟩
            have HZ2 : Keep _ := ⟨hz⟩
            have HLEN : Keep _ := ⟨hlen⟩
            have HONE : Keep _ := ⟨hone⟩
            have s32 : (Try.prog.info? 32).map (·.size) = some L.length := by rw [hlen]; exact size32
            have t32 : wr.there w.heap.size 0 L.toArray.size := (show wr.there w.heap.size 0 L.length by rw [hlen, ← hz]; exact hr.there')
            have S32 : Keep _ := ⟨s32⟩
            have T32 : Keep _ := ⟨t32⟩
            clear hL ho' hr hz hlen hone s32 t32
            go_wp2_with (first | (refine wpList_load_mid rfl 32 (.tmp 7) rfl O 0 rfl L _ HO.out.range Try.underlying32 rfl S32.out ?_) | (refine wpList_store_mid rfl 32 (.tmp 2) (.tmp 52) rfl w.heap.size 0 L.toArray rfl rfl T32.out S32.out (all_oneCell_toArray HONE.out) ?_))
            exact bodyPost_ret (v := .agg L.toArray) (results_cell1 (p := 2) Try.results19 _ _ w.heap.size 32 L _ rfl (HR.out.laid0 L (by rw [HLEN.out, HZ2.out])) Try.underlying32 rfl S32.out) rfl ⟨by rw [HFIN.out, HL.out], Below.setCells (by omega) _ _ _ hb⟩
end Go.Proofs.Ytmaoaljohjkjeaa
