/- ChanceUnlike: for every input the law returns true and leaves its arguments as they were. No conditions. (The frame was written by the kit's proof-skeleton.mjs; the walk is ours.) -/
import Derived.Test.YtmaoaljohjkjeaaRows
import Derived.WalkKit
import Derived.ProofKit
import Derived.OpenShut
import Derived.Test.YtmaoaljohjkjeaaMix
namespace Go.Proofs.Ytmaoaljohjkjeaa.chanceUnlike
open Go.ChangeShapes Go.WideShapes Go.ChangeAt Go.RowKit
set_option linter.unusedVariables false      -- a walk need not use every 'w<i>' (that an integer argument fits its kind)

theorem own : ownKnob Try.prog.godebug = none := by kernel_rfl

/-! the walk -/
set_option maxHeartbeats 4000000 in
theorem walk (a0 : Int) (a1 : Int) (a2 : Int) (a3 : Int) (a4 : Int) (w0 : (Lit.int .u64 a0).wf = true) (w1 : (Lit.int .i64 a1).wf = true) (w2 : (Lit.int .i64 a2).wf = true) (w3 : (Lit.int .i64 a3).wf = true) (w4 : (Lit.int .i64 a4).wf = true) (w : World) :
    Calls Try.prog 6 #[.int .u64 a0, .int .i64 a1, .int .i64 a2, .int .i64 a3, .int .i64 a4] w fun e w' => e = .returned (.bool true) ∧ Below w.heap.size w w' := by
  have u0 := wf_u64 w0
  have i1 := wf_i64 w1
  have i2 := wf_i64 w2
  have i3 := wf_i64 w3
  have i4 := wf_i64 w4
  have hz := z64_lt (BitVec.ofInt 64 a4)
  rw [← wrap_z64] at hz
  have f0 : (IntKind.u64.wrap a4 != a0) = false ∨ ((IntKind.u64.wrap a4 != a0) = true ∧ (lastZ (IntKind.u64.wrap a4) a1 a2 a3 == lastZ a0 a1 a2 a3) = false) := test_of fun h => last_seed hz u0 h
  have f1 : (a4 != a1) = false ∨ ((a4 != a1) = true ∧ (lastZ a0 a4 a2 a3 == lastZ a0 a1 a2 a3) = false) := test_of fun h => last_p i4 i1 h
  have f2 : (a4 != a2) = false ∨ ((a4 != a2) = true ∧ (lastZ a0 a1 a4 a3 == lastZ a0 a1 a2 a3) = false) := test_of fun h => last_s i4 i2 h
  have f3 : (a4 != a3) = false ∨ ((a4 != a3) = true ∧ (lastZ a0 a1 a2 a4 == lastZ a0 a1 a2 a3) = false) := test_of fun h => last_d i4 i3 h
  clear u0 i1 i2 i3 i4 hz w0 w1 w2 w3 w4
  rcases f0 with f0 | ⟨f0, g0⟩ <;> rcases f1 with f1 | ⟨f1, g1⟩ <;> rcases f2 with f2 | ⟨f2, g2⟩ <;> rcases f3 with f3 | ⟨f3, g3⟩
  all_goals
    go_enter Try.func6, Try.ntmps6
    go_wp2_with (first | (go_at_call 17; refine (last3 _ _ _ _ _ _ (by simp)).mono ?_; rintro e w' ⟨rfl, rfl⟩) | (go_at_call 14; refine (awake_any _).mono ?_; rintro e w' ⟨rfl, hb2⟩))
    go_ret
    first | exact ⟨rfl, bthen (balloc _ _) (by assumption)⟩ | exact ⟨rfl, bthen (balloc _ _) (bthen (balloc _ _) (by assumption))⟩ | exact ⟨rfl, bthen (balloc _ _) (bthen (balloc _ _) (bthen (balloc _ _) (by assumption)))⟩ | exact ⟨rfl, bthen (balloc _ _) (bthen (balloc _ _) (bthen (balloc _ _) (bthen (balloc _ _) (by assumption))))⟩ | exact ⟨rfl, bthen (balloc _ _) (bthen (balloc _ _) (bthen (balloc _ _) (bthen (balloc _ _) (bthen (balloc _ _) (by assumption)))))⟩

/-! the row -/
set_option maxRecDepth 100000 in
theorem lifted (os : Os) (started : os.Started) (H : Type) (enc : TypeId × Value → H) :
    ReturnsInHanded {} Try.checked os 6 .any (Rows.chanceUnlikeSpec.pre6 enc Try.prog Try.f6 Rows.chanceUnlikeRow.domain false) (Rows.chanceUnlikeSpec.post enc Try.prog Try.f6 false true false false) := by
  refine returnsInHanded_of_change (C := Try.checked) own started (by kernel_rfl) Try.func6
    (ChangeSpec.witness6 (enc := enc) (C := Try.checked) false ⟨#[], #[.int .u64 0, .int .i64 0, .int .i64 0, .int .i64 0, .int .i64 0], []⟩ 8 (by kernel_rfl) (by kernel_rfl) (by kernel_rfl) (by kernel_rfl)) ?_
  intro W base args ds gs before hval0 hW hcnd _
  have hval : ∀ (j : Nat) t v, Try.f6.params[j]? = some t → args[j]? = some v → Value.okWide Try.prog W .any base t v := hval0
  have hW' := hW
  obtain ⟨p, q, hA0, hV, rfl, hfz, hnd⟩ := hW
  have hA : DataW.TrodAll enc Try.prog W 0 (fun _ => true) true Try.f6.params.toList args.toList ds p := hA0
  rw [Try.params6] at hA hval
  obtain ⟨v0, vs0, d0, ds0, p0, q0, hargs, rfl, rfl, h0, r0⟩ := trodAll_cons hA
  obtain ⟨v1, vs1, d1, ds1, p1, q1, rfl, rfl, rfl, h1, r1⟩ := trodAll_cons r0
  obtain ⟨v2, vs2, d2, ds2, p2, q2, rfl, rfl, rfl, h2, r2⟩ := trodAll_cons r1
  obtain ⟨v3, vs3, d3, ds3, p3, q3, rfl, rfl, rfl, h3, r3⟩ := trodAll_cons r2
  obtain ⟨v4, vs4, d4, ds4, p4, q4, rfl, rfl, rfl, h4, r4⟩ := trodAll_cons r3
  obtain ⟨rfl, rfl, rfl⟩ := trodAll_nil r4
  obtain rfl : args = #[v0, v1, v2, v3, v4] := by cases args; simp_all
  obtain ⟨rfl, rfl⟩ := trodVars_none hV
  obtain ⟨a0, rfl, rfl, rfl, w0⟩ := open_int Try.underlying23 (hval 0 23 v0 rfl rfl) h0
  obtain ⟨a1, rfl, rfl, rfl, w1⟩ := open_int Try.underlying3 (hval 1 3 v1 rfl rfl) h1
  obtain ⟨a2, rfl, rfl, rfl, w2⟩ := open_int Try.underlying3 (hval 2 3 v2 rfl rfl) h2
  obtain ⟨a3, rfl, rfl, rfl, w3⟩ := open_int Try.underlying3 (hval 3 3 v3 rfl rfl) h3
  obtain ⟨a4, rfl, rfl, rfl, w4⟩ := open_int Try.underlying3 (hval 4 3 v4 rfl rfl) h4
  clear hA0 hval0
  simp only [List.append_nil] at hW'
  refine (walk a0 a1 a2 a3 a4 w0 w1 w2 w3 w4 W).mono fun e W' ⟨he, hg⟩ => ?_
  subst he
  exact ⟨_, rfl, _, _, _, [], [], [], hW', (trodAll_cons_mk (shut_bool Try.underlying4 _) trodAll_mk0), (trodAll_cons_mk (shut_int Try.underlying23 w0) (trodAll_cons_mk (shut_int Try.underlying3 w1) (trodAll_cons_mk (shut_int Try.underlying3 w2) (trodAll_cons_mk (shut_int Try.underlying3 w3) (trodAll_cons_mk (shut_int Try.underlying3 w4) trodAll_mk0))))), rfl, hg.frame _, fun h => by cases h⟩

theorem over : Rows.chanceUnlikeRow.holds Try.pinned (OpenSpec.ofChange Rows.chanceUnlikeSpec) :=
  OpenClaim.holds_of_wide 6 Try.f6 rfl rfl rfl rfl rfl rfl rfl ⟨rfl, rfl, rfl, rfl, rfl⟩ rfl rfl rfl rfl rfl (by kernel_rfl) Try.func6 (by kernel_rfl)
    (of_decide_eq_true (by kernel_rfl)) (by unfold Func.isWrapper; first | (rw [if_pos (by decide +kernel)]; kernel_rfl) | (rw [if_neg (by decide +kernel)]; exact ⟨rfl, rfl⟩))
    (fun os started H enc _ => lifted os started H enc)

/-- the statement -/
theorem proved : Rows.ChanceUnlikeSaid :=
  over
#print axioms proved
end Go.Proofs.Ytmaoaljohjkjeaa.chanceUnlike
