/- Slices of numbers, known whole; the contract of the document's Primes: asked for 64, it answers the first 64 primes. -/
import Derived.Test.YtmaoaljohjkjeaaCopy
namespace Go.Proofs.Ytmaoaljohjkjeaa
open Go.ChangeShapes Go.WideShapes Go.ChangeAt Go.RowKit

/-- a slice of numbers of one kind -/
def Nums (kd : IntKind) (w : World) (A : Option Addr) (zs : List Int) : Prop :=
  zs = [] ∨ ∃ b off, A = some ⟨b, off, none⟩ ∧ ∀ i, i < zs.length → w.cell? ⟨b, off + i, none⟩ = some (.int kd (zs.getD i 0))
theorem Nums.below {kd : IntKind} {w w' : World} {A : Option Addr} {zs : List Int} (h : Nums kd w A zs) (hb : Below w.heap.size w w') : Nums kd w' A zs := by
  rcases h with h | ⟨b, off, hA, h⟩
  · exact .inl h
  · exact .inr ⟨b, off, hA, fun i hi => (hb.cell (p := ⟨b, off + i, none⟩) (block_lt_of_cell (h i hi))).trans (h i hi)⟩
theorem Nums.at_ {kd : IntKind} {w : World} {A : Option Addr} {zs : List Int} (h : Nums kd w A zs) (k : Nat) (hk : k < zs.length) : ∃ b off, A = some ⟨b, off, none⟩ ∧ w.cell? ⟨b, off + k, none⟩ = some (.int kd (zs.getD k 0)) := by
  rcases h with rfl | ⟨b, off, hA, hc⟩
  · simp at hk
  · exact ⟨b, off, hA, hc k hk⟩
theorem nums_own {kd : IntKind} {w : World} {base t n : Nat} {v : Value} {zs : List Int} (hn : n = zs.length) (h : w.ownsRow base t 1 v n (zs.map (Value.int kd))) : ∃ A cap, v = .slice A n cap ∧ n ≤ cap ∧ Nums kd w A zs := by
  subst hn
  rcases h.2 with ⟨hv, hn⟩ | ⟨g, cap, cur, hv, hrest⟩
  · exact ⟨none, 0, by rw [hv, hn], by omega, .inl (List.eq_nil_of_length_eq_zero hn)⟩
  · refine ⟨some ⟨g, 0, none⟩, cap, hv, ?_, .inr ⟨g, 0, rfl, fun i hi => ?_⟩⟩
    · exact hrest.2.2.1
    · have := h.cells (g := g) (by rw [hv]; rfl) i (.int kd (zs.getD i 0)) (map_cell _ zs i hi 0)
      rwa [Addr.add_mid] at this

/-- the primes among 2 .. k + 1 -/
def primesT : Nat → List Int
  | 0 => []
  | k + 1 => if (primesT k).all (fun q => decide (((k : Int) + 2) % q ≠ 0)) then primesT k ++ [(k : Int) + 2] else primesT k
theorem primesT_pos : ∀ (k : Nat), ∀ q ∈ primesT k, 2 ≤ q ∧ q ≤ (k : Int) + 1
  | 0, q, h => by simp [primesT] at h
  | k + 1, q, h => by
    rw [primesT] at h
    split at h
    · rcases List.mem_append.1 h with h | h
      · have := primesT_pos k q h; omega
      · have := List.mem_singleton.1 h; omega
    · have := primesT_pos k q h; omega
theorem primesT_step (k : Nat) : (primesT k).length ≤ (primesT (k + 1)).length := by
  rw [primesT]; split <;> simp
theorem primesT_mono (k : Nat) : ∀ d, (primesT k).length ≤ (primesT (k + d)).length
  | 0 => Nat.le_refl _
  | d + 1 => Nat.le_trans (primesT_mono k d) (primesT_step (k + d))
theorem primesT_309 : (primesT 309).length = 63 := by decide +kernel
theorem primesT_310 : (primesT 310).length = 64 := by decide +kernel
theorem primesT_few (k : Nat) (h : k < 310) : (primesT k).length ≤ 63 := by
  have := primesT_mono k (309 - k)
  rw [show k + (309 - k) = 309 by omega, primesT_309] at this
  exact this
theorem info3 : (Try.prog.info? 3).map (fun i => (i.zero, i.size, i.bytes)) = some (some (.int .i64 0), 1, 8) := by kernel_rfl

set_option maxRecDepth 100000 in
set_option maxHeartbeats 4000000 in
theorem primesref_any (w : World) : Calls Try.prog 34 #[.int .i64 64] w fun e w' => ∃ A cap, e = .returned (.slice A 64 cap) ∧ Nums .i64 w' A (primesT 310) ∧ Below w.heap.size w w' := by
  obtain ⟨i0, hi, hz0, hz1, hz2⟩ := info_parts info3
  have I0 : Keep _ := ⟨hi⟩
  have I1 : Keep _ := ⟨hz0⟩
  have I2 : Keep _ := ⟨hz1⟩
  have I3 : Keep _ := ⟨hz2⟩
  clear hi hz0 hz1 hz2
  go_enter Try.func34, Try.ntmps34
  go_wp2_with fail
  go_loopw [3, 4] (fun v nv wr => ∃ k : Nat, k ≤ 310 ∧ nv = .int .i64 ((k : Int) + 2) ∧ wr.ownsRow w.heap.size 3 1 v (primesT k).length ((primesT k).map (Value.int .i64)) ∧ Below w.heap.size w wr) (fun _ nv _ => 312 - (intOf nv).toNat)
  case atStart => exact ⟨0, by omega, rfl, World.ownsRow_nil _ _ _ _, Below.refl _ _⟩
  case round =>
    obtain ⟨k, hk, rfl, hown, hb⟩ := hrel
    have HOWN : Keep _ := ⟨hown⟩
    have HB : Keep _ := ⟨hb⟩
    obtain ⟨A, cap, rfl, hcap, hnums⟩ := nums_own rfl hown
    have HN : Keep _ := ⟨hnums⟩
    clear hown hb hnums
    by_cases hlt : k < 310
    · have few := primesT_few k hlt
      have HPOS : Keep _ := ⟨primesT_pos k⟩
      have HS : Keep _ := ⟨show primesT (k + 1) = if (primesT k).all (fun q => decide (((k : Int) + 2) % q ≠ 0)) then primesT k ++ [(k : Int) + 2] else primesT k from rfl⟩
      generalize primesT k = L at HOWN HN HPOS HS few hcap
      have gl : decide ((L.length : Int) < 64) = true := by simp; omega
      obtain ⟨wo, hwo⟩ : ∃ wo, wo = wr := ⟨_, rfl⟩
      subst hwo
      go_wp2_with fail
      go_loop [5, 6] (fun isv iv => ∃ i : Nat, i ≤ L.length ∧ iv = .int .i64 i ∧ isv = .bool ((L.take i).all (fun q => decide (((k : Int) + 2) % q ≠ 0)))) (fun _ iv => L.length - (intOf iv).toNat)
      case atStart => exact ⟨0, by omega, rfl, rfl⟩
      case round =>
        obtain ⟨i, hi, rfl, rfl⟩ := hrel
        by_cases hlt2 : i < L.length
        · obtain ⟨b, off, rfl, cq⟩ := HN.out.at_ i hlt2
          have hq := HPOS.out (L.getD i 0) (by simp [hlt2])
          have hst : (L.take (i + 1)).all (fun q => decide (((k : Int) + 2) % q ≠ 0)) = ((L.take i).all (fun q => decide (((k : Int) + 2) % q ≠ 0)) && decide (((k : Int) + 2) % (L.getD i 0) ≠ 0)) := by
            rw [take_succ_getD L i hlt2, List.all_append]; simp
          have HST : Keep _ := ⟨hst⟩
          have gi : decide ((i : Int) < (L.length : Int)) = true := by simp; omega
          clear hst
          generalize L.getD i 0 = q at cq hq HST
          generalize (L.take i).all (fun q => decide (((k : Int) + 2) % q ≠ 0)) = is at HST
          have hq0 : ¬ q = 0 := by omega
          have ht : ((k : Int) + 2).tmod q = ((k : Int) + 2) % q := Int.tmod_eq_emod_of_nonneg (by omega)
          generalize ((k : Int) + 2) % q = r at ht HST
          cases is
          · go_wp2_with fail
            go_round
            case rel => exact ⟨i + 1, by omega, by go_num, by rw [HST.out]; rfl⟩
            case measure => simp [intOf]; omega
          · by_cases hr : r = 0
            · go_wp2_with fail
              go_round
              case rel => exact ⟨i + 1, by omega, by go_num, by rw [HST.out]; simp [hr]⟩
              case measure => simp [intOf]; omega
            · go_wp2_with fail
              go_round
              case rel => exact ⟨i + 1, by omega, by go_num, by rw [HST.out]; simp [hr]⟩
              case measure => simp [intOf]; omega
        · obtain rfl : i = L.length := by omega
          have gi : decide ((L.length : Int) < (L.length : Int)) = false := by simp
          have htk : L.take L.length = L := List.take_length
          rw [htk]
          generalize L.all (fun q => decide (((k : Int) + 2) % q ≠ 0)) = is at HS
          have hbs := HB.out.size
          cases is
          · have HS2 : Keep (primesT (k + 1) = L) := ⟨by have := HS.out; simpa using this⟩
            go_wp2_with fail
            go_roundw
            case rel => exact ⟨k + 1, by omega, by go_num, by rw [HS2.out]; exact HOWN.out, HB.out⟩
            case measure => simp [intOf]; omega
          · have HS2 : Keep (primesT (k + 1) = L ++ [(k : Int) + 2]) := ⟨by have := HS.out; simpa using this⟩
            have q2 : Keep (∀ u ∈ [Value.int .i64 ((k : Int) + 2)], u.oneCell' = true) := ⟨by simp [Value.oneCell']⟩
            have q3 : Keep (L.length + 1 ≤ maxLen) := ⟨by unfold maxLen; omega⟩
            have q4 : Keep ((L.length + 1) * 8 ≤ 140737488355328) := ⟨by omega⟩
            have q5 : Keep (w.heap.size ≤ (wo.alloc (.cells #[.int .i64 ((k : Int) + 2)] 3)).heap.size) := ⟨by simp; omega⟩
            go_wp2_with (at_builtin; refine wpList_append_own _ rfl (.tmp 30) (.tmp 32) 41 rfl w.heap.size 3 i0 (.int .i64 0) 1 8 Try.underlying41 I0.out I1.out I2.out I3.out rfl (by decide) _ L.length _ rfl (HOWN.out.alloc _) ⟨wo.heap.size, 0, none⟩ 1 1 [.int .i64 ((k : Int) + 2)] rfl rfl (cell_one_new _ _ _) q2.out q3.out q4.out q5.out ?_; intro v' w1 hown1 hgrow _)
            go_roundw
            case rel => exact ⟨k + 1, by omega, by go_num, by rw [HS2.out, List.length_append, List.map_append]; exact hown1, (HB.out.trans ((balloc _ _).mono hbs)).grown hgrow q5.out (fun g hg => (HOWN.out.lt g hg).1)⟩
            case measure => simp [intOf]; omega
    · obtain rfl : k = 310 := by omega
      have h64 := primesT_310
      rw [h64]
      go_wp2_with fail
      go_ret
      exact ⟨A, cap, rfl, HN.out, HB.out⟩
end Go.Proofs.Ytmaoaljohjkjeaa
