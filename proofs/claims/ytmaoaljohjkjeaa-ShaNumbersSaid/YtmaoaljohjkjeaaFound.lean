/- Contracts of the functions below sha.found: turned and RotateLeft32, Mul64, wide.times, the search and behind: what each call answers, in the numbers of the walk. Conditions: counts from 1 to 31, powers 2 and 3. -/
import Derived.Test.YtmaoaljohjkjeaaBlk
import Derived.BigQuiet
import Derived.Deep.QuietTactic
namespace Go.Proofs.Ytmaoaljohjkjeaa
open Go.ChangeShapes Go.WideShapes Go.ChangeAt Go.RowKit

/-! ### turns -/
def rotZ (x n : Int) : Int := bits BinOp.or IntKind.u32 (x * 2 ^ (32 - n).toNat % 4294967296) (x / 2 ^ (32 - (32 - n)).toNat)

theorem count_and (n : Int) (h0 : 1 ≤ n) (h1 : n ≤ 31) : bits BinOp.and IntKind.u64 (IntKind.u64.wrap (-n)) 31 = 32 - n := by
  obtain ⟨k, rfl⟩ := Int.eq_ofNat_of_zero_le (show 0 ≤ n by omega)
  have key : ∀ k : Fin 32, 1 ≤ k.val → bits BinOp.and IntKind.u64 (IntKind.u64.wrap (-((k.val : Nat) : Int))) 31 = 32 - ((k.val : Nat) : Int) := by decide +kernel
  exact key ⟨k, by omega⟩ (by show 1 ≤ k; omega)

theorem rot_any (x n : Int) (w : World) (h0 : 1 ≤ n) (h1 : n ≤ 31) : Calls Try.prog 49 #[.int .u32 x, .int .i64 (-n)] w fun e w' => e = .returned (.int .u32 (rotZ x n)) ∧ w = w' := by
  have e := count_and n h0 h1
  go_enter Try.func49, Try.ntmps49
  go_wp2
  go_ret
  exact ⟨rfl, rfl⟩

def turnZ (x a n : Int) : Int := bits BinOp.xor IntKind.u32 a (rotZ x n)

theorem turned_any (x : Int) (zs : List Int) (b off cap : Nat) (w : World) (hlen : zs.length < 4611686018427387904)
    (hz : ∀ i, i < zs.length → 1 ≤ zs.getD i 0 ∧ zs.getD i 0 ≤ 31)
    (hc : ∀ i, i < zs.length → w.cell? ⟨b, off + i, none⟩ = some (.int .i64 (zs.getD i 0))) :
    Calls Try.prog 39 #[.int .u32 x, .slice (some ⟨b, off, none⟩) zs.length cap] w fun e w' => e = .returned (.int .u32 (zs.foldl (turnZ x) 0)) ∧ w = w' := by
  have HC := Lib.hid hc
  have HZ := Lib.hid hz
  clear hc hz
  go_enter Try.func39, Try.ntmps39
  go_wp2_with fail
  go_loop [5, 10] (fun v i => ∃ k : Nat, k ≤ zs.length ∧ i = .int .i64 k ∧ v = .int .u32 ((zs.take k).foldl (turnZ x) 0)) (fun _ i => zs.length - (intOf i).toNat)
  case atStart => exact ⟨0, Nat.zero_le _, rfl, rfl⟩
  case round =>
    obtain ⟨k, hk, rfl, rfl⟩ := hrel
    by_cases hlt : k < zs.length
    · have hcell := HC.out k hlt
      have hb := HZ.out k hlt
      have hs : (zs.take (k + 1)).foldl (turnZ x) 0 = turnZ x ((zs.take k).foldl (turnZ x) 0) (zs.getD k 0) := by rw [take_succ_getD zs k hlt, List.foldl_append]; rfl
      generalize zs.getD k 0 = n at hcell hs hb
      have HS := Lib.hid hs
      clear hs
      go_wp2_with (go_at_call 49; refine (rot_any _ _ _ hb.1 hb.2).mono ?_; rintro e w' ⟨rfl, rfl⟩)
      go_round
      case rel => exact ⟨k + 1, by omega, by go_num, by rw [HS.out]; rfl⟩
      case measure => simp [intOf]; omega
    · obtain rfl : k = zs.length := by omega
      go_wp2_with fail
      go_ret
      exact ⟨rfl, rfl⟩

/-! ### products -/
def mulHiZ (x y : Int) : Int :=
  let x0 := bits BinOp.and IntKind.u64 x 4294967295
  let x1 := x / 4294967296
  let y0 := bits BinOp.and IntKind.u64 y 4294967295
  let y1 := y / 4294967296
  let w0 := IntKind.u64.wrap (x0 * y0)
  let t := IntKind.u64.wrap (IntKind.u64.wrap (x1 * y0) + w0 / 4294967296)
  let w1 := bits BinOp.and IntKind.u64 t 4294967295
  let w2 := t / 4294967296
  let w3 := IntKind.u64.wrap (w1 + IntKind.u64.wrap (x0 * y1))
  IntKind.u64.wrap (IntKind.u64.wrap (IntKind.u64.wrap (x1 * y1) + w2) + w3 / 4294967296)
def mulLoZ (x y : Int) : Int := IntKind.u64.wrap (x * y)

theorem mul_any (x y : Int) (w : World) : Calls Try.prog 51 #[.int .u64 x, .int .u64 y] w fun e w' => e = .returned (.tuple #[.int .u64 (mulHiZ x y), .int .u64 (mulLoZ x y)]) ∧ w = w' := by
  go_enter Try.func51, Try.ntmps51
  go_wp2
  go_ret2
  exact ⟨rfl, rfl⟩

def timesHiZ (h l x : Int) : Int := IntKind.u64.wrap (IntKind.u64.wrap (h * x) + mulHiZ l x)

theorem times_any (h l x : Int) (w : World) : Calls Try.prog 48 #[.agg #[.int .u64 h, .int .u64 l], .int .u64 x] w fun e w' => e = .returned (.agg #[.int .u64 (timesHiZ h l x), .int .u64 (mulLoZ l x)]) ∧ Below w.heap.size w w' := by
  go_enter Try.func48, Try.ntmps48
  go_wp2_with (go_at_call 51; refine (mul_any _ _ _).mono ?_; rintro e w' ⟨rfl, rfl⟩)
  exact bodyPost_ret (v := .agg #[.int .u64 (timesHiZ h l x), .int .u64 (mulLoZ l x)]) (by simp [results, Try.results48, go_sem, timesHiZ]) rfl ⟨rfl, ((balloc _ _).trans ((balloc _ _).mono (by simp)))⟩

/-! ### the n-th power, and whether it is as great as p -/
def powZ (x : Int) : Nat → Int × Int
  | 0 => (0, 1)
  | k + 1 => (timesHiZ (powZ x k).1 (powZ x k).2 x, mulLoZ (powZ x k).2 x)

def reachZ (p : Int) (n : Nat) (x : Int) : Bool := decide (p ≤ (powZ (IntKind.u64.wrap x) n).1 / 2 ^ (32 * (n - 2)))

theorem reach_any (i p : Int) (n : Nat) (bn bp : Nat) (w : World) (hn2 : 2 ≤ n) (hn3 : n ≤ 3) (cn : w.cell? ⟨bn, 0, none⟩ = some (.int .i64 n)) (cp : w.cell? ⟨bp, 0, none⟩ = some (.int .u64 p)) :
    Calls Try.prog 47 #[.int .i64 i, .pointer (some ⟨bn, 0, none⟩), .pointer (some ⟨bp, 0, none⟩)] w fun e w' => e = .returned (.bool (reachZ p n i)) ∧ Below w.heap.size w w' := by
  have ln := block_lt_of_cell cn
  have lp := block_lt_of_cell cp
  go_enter Try.func47, Try.ntmps47
  go_wp2_with fail
  go_loopw [8] (fun kv wr => ∃ k : Nat, k ≤ n ∧ kv = .int .i64 k ∧ Holds wr w.heap.size 71 [.int .u64 (powZ (IntKind.u64.wrap i) k).1, .int .u64 (powZ (IntKind.u64.wrap i) k).2] ∧ Below w.heap.size w wr) (fun kv _ => n - (intOf kv).toNat)
  case atStart => exact ⟨0, by omega, rfl, Holds.made w 71 [.int .u64 0, .int .u64 1], balloc _ _⟩
  case round =>
    obtain ⟨k, hk, rfl, hh, hb⟩ := hrel
    have c0 := hh.cell 0
    have c1 := hh.cell 1
    have f0 := hh.free 0
    have f1 := hh.free 1
    simp only [List.getElem?_cons_zero, List.getElem?_cons_succ] at c0 c1
    have lh := hh.size_lt
    by_cases hlt : k < n
    · have HS := Lib.hid (show powZ (IntKind.u64.wrap i) (k + 1) = (timesHiZ (powZ (IntKind.u64.wrap i) k).1 (powZ (IntKind.u64.wrap i) k).2 (IntKind.u64.wrap i), mulLoZ (powZ (IntKind.u64.wrap i) k).2 (IntKind.u64.wrap i)) from rfl)
      go_wp2_with (go_at_call 48; refine (times_any _ _ _ _).mono ?_; rintro e w' ⟨rfl, hb2⟩; (have d0 := (hb2.cell (p := ⟨w.heap.size, 0, none⟩) lh).trans c0); (have d1 := (hb2.cell (p := ⟨w.heap.size, 1, none⟩) lh).trans c1); (have g0 := (hb2.frozen (p := ⟨w.heap.size, 0, none⟩) lh).trans f0); (have g1 := (hb2.frozen (p := ⟨w.heap.size, 1, none⟩) lh).trans f1); (have HH := Lib.hid (hh.below hb2)))
      go_roundw
      case rel => exact ⟨k + 1, by omega, by go_num, (HH.out.store 0 _).store 1 _, ((hb.trans (hb2.mono hb.size)).setCell (Nat.le_refl _) _).setCell (Nat.le_refl _) _⟩
      case measure => simp [intOf]; omega
    · obtain rfl : k = n := by omega
      have e0 : (0 : Int) ≤ 32 * ((k : Int) - 2) := by omega
      have e1 : 32 * ((k : Int) - 2) ≤ 64 := by omega
      have cn' := (hb.cell (p := ⟨bn, 0, none⟩) ln).trans cn
      have cp' := (hb.cell (p := ⟨bp, 0, none⟩) lp).trans cp
      go_wp2_with fail
      go_quiet (fail)
      go_wp2_with fail
      go_ret
      exact ⟨rfl, below_drewN hb _⟩

/-! ### sort.Search -/
def searchZ (f : Int → Bool) : Nat → Int → Int → Int
  | 0, i, _ => i
  | fuel + 1, i, j => if i < j then (if f ((i + j) / 2) = true then searchZ f fuel i ((i + j) / 2) else searchZ f fuel ((i + j) / 2 + 1) j) else i

theorem half_left {i j : Int} {fuel : Nat} (h0 : i < j) (h : (j - i).toNat < 2 ^ (fuel + 1)) : ((i + j) / 2 - i).toNat < 2 ^ fuel := by
  rw [Nat.pow_succ] at h; omega
theorem half_right {i j : Int} {fuel : Nat} (h0 : i < j) (h : (j - i).toNat < 2 ^ (fuel + 1)) : (j - ((i + j) / 2 + 1)).toNat < 2 ^ fuel := by
  rw [Nat.pow_succ] at h; omega

/-- where the search stands, and that from there it comes to R -/
structure Stands (f : Int → Bool) (R i j : Int) (fuel : Nat) : Prop where
  comes : searchZ f fuel i j = R
  near : (j - i).toNat < 2 ^ fuel
theorem Stands.left {f : Int → Bool} {R i j : Int} {fuel : Nat} (h : Stands f R i j fuel) (h0 : i < j) (hf : f ((i + j) / 2) = true) : ∃ fuel', Stands f R i ((i + j) / 2) fuel' := by
  obtain ⟨h1, h2⟩ := h
  cases fuel with
  | zero => simp at h2; omega
  | succ fuel => exact ⟨fuel, by rw [← h1, searchZ, if_pos h0, if_pos hf], half_left h0 h2⟩
theorem Stands.right {f : Int → Bool} {R i j : Int} {fuel : Nat} (h : Stands f R i j fuel) (h0 : i < j) (hf : f ((i + j) / 2) = false) : ∃ fuel', Stands f R ((i + j) / 2 + 1) j fuel' := by
  obtain ⟨h1, h2⟩ := h
  cases fuel with
  | zero => simp at h2; omega
  | succ fuel => exact ⟨fuel, by rw [← h1, searchZ, if_pos h0, if_neg (by rw [hf]; simp)], half_right h0 h2⟩
theorem Stands.done {f : Int → Bool} {R i j : Int} {fuel : Nat} (h : Stands f R i j fuel) (h0 : ¬ i < j) : i = R := by
  obtain ⟨h1, _⟩ := h
  rw [← h1]
  cases fuel with
  | zero => rfl
  | succ fuel => rw [searchZ, if_neg h0]

theorem search_any (f : Int → Bool) (bn bp : Nat) (w : World)
    (H : ∀ (x : Int) (w1 : World), Below w.heap.size w w1 → Calls Try.prog 47 #[.int .i64 x, .pointer (some ⟨bn, 0, none⟩), .pointer (some ⟨bp, 0, none⟩)] w1 fun e w2 => e = .returned (.bool (f x)) ∧ Below w1.heap.size w1 w2) :
    Calls Try.prog 46 #[.int .i64 34359738368, .func (.func 47) #[] #[.pointer (some ⟨bn, 0, none⟩), .pointer (some ⟨bp, 0, none⟩)]] w fun e w' => e = .returned (.int .i64 (searchZ f 36 0 34359738368)) ∧ Below w.heap.size w w' := by
  have start : Stands f (searchZ f 36 0 34359738368) 0 34359738368 36 := ⟨rfl, by decide⟩
  generalize searchZ f 36 0 34359738368 = R at start
  have HH := Lib.hid H
  clear H
  go_enter Try.func46, Try.ntmps46
  go_wp2_with fail
  go_loopw [5, 6] (fun iv jv wr => ∃ (i j : Int) (fuel : Nat), 0 ≤ i ∧ i ≤ j ∧ j ≤ 34359738368 ∧ iv = .int .i64 i ∧ jv = .int .i64 j ∧ Stands f R i j fuel ∧ Below w.heap.size w wr) (fun iv jv _ => (intOf jv - intOf iv).toNat)
  case atStart => exact ⟨0, _, 36, by omega, by omega, by omega, rfl, rfl, start, Below.refl _ _⟩
  case round =>
    obtain ⟨i, j, fuel, h0, h1, h2, rfl, rfl, hs, hb⟩ := hrel
    by_cases hlt : i < j
    · have m0 : i ≤ (i + j) / 2 := by omega
      have m1 : (i + j) / 2 < j := by omega
      go_wp2_with (go_at_call 47; refine (HH.out _ _ hb).mono ?_; rintro e w' ⟨rfl, hb2⟩)
      · have hf : f ((i + j) / 2) = false := by
          have h : (!f ((i + j) / 2)) = true := by assumption
          simpa using h
        obtain ⟨fuel', hs'⟩ := hs.right hlt hf
        go_roundw
        case rel => exact ⟨_, _, fuel', by omega, by omega, by omega, rfl, rfl, hs', hb.trans (hb2.mono hb.size)⟩
        case measure => simp [intOf]; omega
      · have hf : f ((i + j) / 2) = true := by
          have h : (!f ((i + j) / 2)) = false := by assumption
          simpa using h
        obtain ⟨fuel', hs'⟩ := hs.left hlt hf
        go_roundw
        case rel => exact ⟨_, _, fuel', by omega, by omega, by omega, rfl, rfl, hs', hb.trans (hb2.mono hb.size)⟩
        case measure => simp [intOf]; omega
    · go_wp2_with fail
      go_ret
      exact ⟨by rw [← hs.done (by omega)]; rfl, hb⟩

/-! ### behind -/
def behindZ (p : Int) (n : Nat) : Int := IntKind.u32.wrap (wrap64 (searchZ (reachZ p n) 36 0 34359738368 - 1))

theorem behind_any (p : Int) (n : Nat) (hn2 : 2 ≤ n) (hn3 : n ≤ 3) (w : World) : Calls Try.prog 38 #[.int .u64 p, .int .i64 n] w fun e w' => e = .returned (.int .u32 (behindZ p n)) ∧ Below w.heap.size w w' := by
  have cn : ((w.alloc (.cells #[.int .u64 p] 23)).alloc (.cells #[.int .i64 n] 3)).cell? ⟨w.heap.size + 1, 0, none⟩ = some (.int .i64 n) := by simp [go_sem]
  have cp : ((w.alloc (.cells #[.int .u64 p] 23)).alloc (.cells #[.int .i64 n] 3)).cell? ⟨w.heap.size, 0, none⟩ = some (.int .u64 p) := by simp [go_sem]
  have C := search_any (reachZ p n) (w.heap.size + 1) w.heap.size ((w.alloc (.cells #[.int .u64 p] 23)).alloc (.cells #[.int .i64 n] 3)) (fun x w1 hb =>
    reach_any x p n _ _ w1 hn2 hn3 ((hb.cell (p := ⟨w.heap.size + 1, 0, none⟩) (by simp)).trans cn) ((hb.cell (p := ⟨w.heap.size, 0, none⟩) (by simp; omega)).trans cp))
  generalize hs : searchZ (reachZ p n) 36 0 34359738368 = s at C
  have HS := Lib.hid hs
  have HC := Lib.hid C
  clear hs C cn cp
  go_enter Try.func38, Try.ntmps38
  go_wp2_with (go_at_call 46; refine HC.out.mono ?_; rintro e w' ⟨rfl, hb2⟩)
  go_ret

  exact ⟨by unfold behindZ; rw [HS.out]; rfl, bthen (balloc _ _) (bthen (balloc _ _) hb2)⟩
end Go.Proofs.Ytmaoaljohjkjeaa
