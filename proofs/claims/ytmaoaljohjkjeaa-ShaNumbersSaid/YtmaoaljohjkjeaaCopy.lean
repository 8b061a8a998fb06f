/- Contracts of CopyBytes and SameBytes: another slice of the same bytes; true of two of the same. Condition: at most 65536 bytes are copied. -/
import Derived.Test.YtmaoaljohjkjeaaAwake
import Derived.OwnWalk
import Derived.Laws.OwnMore
namespace Go.Proofs.Ytmaoaljohjkjeaa
open Go.ChangeShapes Go.WideShapes Go.ChangeAt Go.RowKit

theorem info5 : (Try.prog.info? 5).map (fun i => (i.zero, i.size, i.bytes)) = some (some (.int .u8 0), 1, 1) := by kernel_rfl

theorem bytes_own {w : World} {base : Nat} {v : Value} {zs : List Int} (h : w.ownsRow base 5 1 v zs.length (zs.map (Value.int .u8))) : ∃ A cap, v = .slice A zs.length cap ∧ Bytes w A zs := by
  rcases h.2 with ⟨hv, hn⟩ | ⟨g, cap, cur, hv, _⟩
  · exact ⟨none, 0, by rw [hv, hn], .inl (List.eq_nil_of_length_eq_zero hn)⟩
  · refine ⟨some ⟨g, 0, none⟩, cap, hv, .inr ⟨g, 0, rfl, fun i hi => ?_⟩⟩
    have := h.cells (g := g) (by rw [hv]; rfl) i (.int .u8 (zs.getD i 0)) (map_cell _ zs i hi 0)
    rwa [Addr.add_mid] at this

/-- a slice of bytes, as the walk of a copy needs it -/
theorem Bytes.at_ {w : World} {A : Option Addr} {zs : List Int} (h : Bytes w A zs) (k : Nat) (hk : k < zs.length) : ∃ b off, A = some ⟨b, off, none⟩ ∧ w.cell? ⟨b, off + k, none⟩ = some (.int .u8 (zs.getD k 0)) := by
  rcases h with rfl | ⟨b, off, hA, hc⟩
  · simp at hk
  · exact ⟨b, off, hA, hc k hk⟩

/-- what CopyBytes answers -/
def Copied (w : World) (zs : List Int) (e : Ending) (w' : World) : Prop := ∃ A cap, e = .returned (.slice A zs.length cap) ∧ Bytes w' A zs ∧ Below w.heap.size w w'

set_option maxHeartbeats 1000000 in
theorem copy_any (zs : List Int) (A : Option Addr) (cap : Nat) (w : World) (hz : Bytes w A zs) (hl : zs.length ≤ 65536) :
    Calls Try.prog 22 #[.slice A zs.length cap] w (Copied w zs) := by
  obtain ⟨i0, hi, hz0, hz1, hz2⟩ := info_parts info5
  have HZ : Keep _ := ⟨hz⟩
  have I0 : Keep _ := ⟨hi⟩
  have I1 : Keep _ := ⟨hz0⟩
  have I2 : Keep _ := ⟨hz1⟩
  have I3 : Keep _ := ⟨hz2⟩
  clear hz hi hz0 hz1 hz2
  go_enter Try.func22, Try.ntmps22
  go_wp2_with fail
  go_loopw [3, 4] (fun v iv wr => ∃ k : Nat, k ≤ zs.length ∧ iv = .int .i64 k ∧ wr.ownsRow w.heap.size 5 1 v k ((zs.take k).map (Value.int .u8)) ∧ Below w.heap.size w wr) (fun _ iv _ => zs.length - (intOf iv).toNat)
  case atStart => exact ⟨0, by omega, rfl, World.ownsRow_nil _ _ _ _, Below.refl _ _⟩
  case round =>
    obtain ⟨k, hk, rfl, hown, hb⟩ := hrel
    by_cases hlt : k < zs.length
    · obtain ⟨b, off, hA, hc⟩ := (HZ.out.below hb).at_ k hlt
      subst hA
      have hd : decide ((k : Int) < (zs.length : Int)) = true := by simp; omega
      have hst : (zs.take (k + 1)).map (Value.int .u8) = (zs.take k).map (Value.int .u8) ++ [.int .u8 (zs.getD k 0)] := by rw [take_succ_getD zs k hlt, List.map_append]; rfl
      generalize zs.getD k 0 = z at hc hst
      have HST : Keep _ := ⟨hst⟩
      have HOWN : Keep _ := ⟨hown⟩
      have hbs := hb.size
      clear hst hown
      have q2 : Keep (∀ u ∈ [Value.int .u8 z], u.oneCell' = true) := ⟨by simp [Value.oneCell']⟩
      have q3 : Keep (k + 1 ≤ maxLen) := ⟨by unfold maxLen; omega⟩
      have q4 : Keep ((k + 1) * 1 ≤ 140737488355328) := ⟨by omega⟩
      have q5 : Keep (w.heap.size ≤ (wr.alloc (.cells #[.int .u8 z] 5)).heap.size) := ⟨by simp; omega⟩
      go_wp2_with (at_builtin; refine wpList_append_own _ rfl (.tmp 11) (.tmp 16) 34 rfl w.heap.size 5 i0 (.int .u8 0) 1 1 Try.underlying34 I0.out I1.out I2.out I3.out rfl (by decide) _ k _ rfl (HOWN.out.alloc _) ⟨wr.heap.size, 0, none⟩ 1 1 [.int .u8 z] rfl rfl (cell_one_new _ _ _) q2.out q3.out q4.out q5.out ?_; intro v' w1 hown1 hgrow _)
      go_roundw
      case rel => exact ⟨k + 1, by omega, by go_num, by rw [HST.out]; exact hown1, (hb.trans ((balloc _ _).mono hbs)).grown hgrow q5.out (fun g hg => (HOWN.out.lt g hg).1)⟩
      case measure => simp [intOf]; omega
    · obtain rfl : k = zs.length := by omega
      rw [List.take_length] at hown
      obtain ⟨A', cap', rfl, hby⟩ := bytes_own hown
      go_wp2_with fail
      go_ret
      exact ⟨A', cap', rfl, hby, hb⟩

/-- what SameBytes is asked of two slices of the same bytes -/
theorem text_bytes {w : World} {A : Option Addr} {zs : List Int} (h : Bytes w A zs) (cap : Nat) : (convert 34 9 (.slice A zs.length cap)).run Try.prog w = .ok (.string (strZ zs)) w := by
  rcases h with rfl | ⟨b, off, rfl, hc⟩
  · rw [run_convert_bytes_string w 34 9 5 _ _ _ Try.underlying34 Try.underlying5 Try.underlying9]
    cases A with
    | none => rfl
    | some a =>
      refine run_bytesToString w a 0 cap [] ?_
      exact run_loadCells_list (P := Try.prog) w a [] (fun j v hv => by simp at hv)
  · rw [run_convert_bytes_string w 34 9 5 _ _ _ Try.underlying34 Try.underlying5 Try.underlying9]
    refine run_bytesToString w _ _ _ zs ?_
    have := run_loadCells_list (P := Try.prog) w ⟨b, off, none⟩ (zs.map (Value.int .u8)) (fun j v hv => by
      have hj : j < zs.length := by have := (List.getElem?_eq_some_iff.1 hv).1; simpa using this
      rw [Addr.add_mid, hc j hj, ← hv]; exact (map_cell _ zs j hj 0).symm)
    simpa using this

theorem same_any (zs : List Int) (A B : Option Addr) (c d : Nat) (w : World) (ha : Bytes w A zs) (hb : Bytes w B zs) :
    Calls Try.prog 24 #[.slice A zs.length c, .slice B zs.length d] w fun e w' => e = .returned (.bool true) ∧ w = w' := by
  have e1 := text_bytes ha c
  have e2 := text_bytes hb d
  have e3 : ((strZ zs).toList == (strZ zs).toList) = true := by simp
  generalize strZ zs = S at e1 e2 e3
  clear ha hb
  go_enter Try.func24, Try.ntmps24
  go_wp2_with fail
  go_ret
  exact ⟨rfl, rfl⟩
end Go.Proofs.Ytmaoaljohjkjeaa
