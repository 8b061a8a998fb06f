/- ShaKnown: for every input the law returns true and leaves its arguments as they were. No conditions. (The frame was written by the kit's proof-skeleton.mjs; the walk is ours.) -/
import Derived.Test.YtmaoaljohjkjeaaRows
import Derived.WalkKit
import Derived.ProofKit
import Derived.OpenShut
import Derived.Lib.SlBytesConst
import Derived.Test.YtmaoaljohjkjeaaLetters
import Derived.Test.YtmaoaljohjkjeaaMany
import Derived.ShutString
namespace Go.Proofs.Ytmaoaljohjkjeaa.shaKnown
open Go.ChangeShapes Go.WideShapes Go.ChangeAt Go.RowKit
open Go.ChangeMaps (open_string shut_string)
set_option linter.unusedVariables false      -- a walk need not use every 'w<i>' (that an integer argument fits its kind)

theorem own : ownKnob Try.prog.godebug = none := by kernel_rfl

/-! the walk -/
set_option maxRecDepth 100000 in
theorem walk  (w : World) :
    Calls Try.prog 10 #[] w fun e w' => e = .returned (.bool true) ∧ Below w.heap.size w w' := by
  have e1 := eq_none
  have e2 := eq_abc
  have e3 := eq_letters
  have e4 := eq_mil (List.replicate 1000000 97) List.length_replicate (fun i hi => rep_getD 97 1000000 i hi)
  have kc := fun (w : World) (C : Array Value) (n c : Nat) => Lib.run_convert_bytes_const (P := Try.prog) w 34 5 C n c Try.underlying34 Try.underlying5
  have HM : Keep _ := ⟨fun w => many_any 97 1000000 (by omega) w⟩
  have HO : Keep _ := ⟨fun (A : Option Addr) (cap : Nat) (w : World) (hz : Bytes w A (List.replicate 1000000 97)) => of_any (List.replicate 1000000 97) A cap w hz (by rw [List.length_replicate]; omega)⟩
  rw [List.length_replicate] at HO
  generalize List.replicate 1000000 (97 : Int) = zs at e4 HM HO
  go_enter Try.func10, Try.ntmps10
  go_wp2_with fail
  refine (of_nil _).mono ?_
  rintro e w1 ⟨rfl, hb1⟩
  go_wp2_with fail
  refine (hex_of [] _).mono ?_
  rintro e w2 ⟨rfl, hb2⟩
  go_wp2_with fail
  refine (of_abc _ _ rfl).mono ?_
  rintro e w3 ⟨rfl, hb3⟩
  go_wp2_with fail
  refine (hex_of _ _).mono ?_
  rintro e w4 ⟨rfl, hb4⟩
  go_wp2_with fail
  refine (of_any lettersZ _ 56 _ (bytes_marked lettersZ w4 _ rfl 5 (56, 57)) (by decide)).mono ?_
  rintro e w5 ⟨rfl, hb5⟩
  go_wp2_with fail
  refine (hex_of _ _).mono ?_
  rintro e w6 ⟨rfl, hb6⟩
  go_wp2_with fail
  refine (HM.out _).mono ?_
  rintro e w7 ⟨A, rfl, hz, hb7⟩
  go_wp2_with fail
  refine (HO.out A _ _ hz).mono ?_
  rintro e w8 ⟨rfl, hb8⟩
  go_wp2_with fail
  refine (hex_of _ _).mono ?_
  rintro e w9 ⟨rfl, hb9⟩
  go_wp2_with fail
  refine (awake_any _).mono ?_
  rintro e w10 ⟨rfl, hb10⟩
  go_wp2_with fail
  go_ret
  exact ⟨rfl, bthen hb1 (bthen hb2 (bthen (balloc _ _) (bthen hb3 (bthen hb4 (bthen (balloc _ _) (bthen hb5 (bthen hb6 (bthen hb7 (bthen hb8 (bthen hb9 hb10))))))))))⟩

/-! the row -/
set_option maxRecDepth 100000 in
theorem lifted (os : Os) (started : os.Started) (H : Type) (enc : TypeId × Value → H) :
    ReturnsInHanded {} Try.checked os 10 .any (Rows.shaKnownSpec.pre6 enc Try.prog Try.f10 Rows.shaKnownRow.domain false) (Rows.shaKnownSpec.post enc Try.prog Try.f10 false true false false) := by
  refine returnsInHanded_of_change (C := Try.checked) own started (by kernel_rfl) Try.func10
    (ChangeSpec.witness6 (enc := enc) (C := Try.checked) false ⟨#[], #[], []⟩ 8 (by kernel_rfl) (by kernel_rfl) (by kernel_rfl) (by kernel_rfl)) ?_
  intro W base args ds gs before hval0 hW hcnd _
  have hval : ∀ (j : Nat) t v, Try.f10.params[j]? = some t → args[j]? = some v → Value.okWide Try.prog W .any base t v := hval0
  have hW' := hW
  obtain ⟨p, q, hA0, hV, rfl, hfz, hnd⟩ := hW
  have hA : DataW.TrodAll enc Try.prog W 0 (fun _ => true) true Try.f10.params.toList args.toList ds p := hA0
  rw [Try.params10] at hA hval
  obtain ⟨rfl, rfl, rfl⟩ := trodAll_none hA
  obtain ⟨rfl, rfl⟩ := trodVars_none hV
  clear hA0 hval0
  simp only [List.append_nil] at hW'
  refine (walk  W).mono fun e W' ⟨he, hg⟩ => ?_
  subst he
  exact ⟨_, rfl, _, _, _, [], [], [], hW', (trodAll_cons_mk (shut_bool Try.underlying4 _) trodAll_mk0), rfl, rfl, hg.frame _, fun h => by cases h⟩

theorem over : Rows.shaKnownRow.holds Try.pinned (OpenSpec.ofChange Rows.shaKnownSpec) :=
  OpenClaim.holds_of_wide 10 Try.f10 rfl rfl rfl rfl rfl rfl rfl ⟨rfl, rfl, rfl, rfl, rfl⟩ rfl rfl rfl rfl rfl (by kernel_rfl) Try.func10 (by kernel_rfl)
    (of_decide_eq_true (by kernel_rfl)) (by unfold Func.isWrapper; first | (rw [if_pos (by decide +kernel)]; kernel_rfl) | (rw [if_neg (by decide +kernel)]; exact ⟨rfl, rfl⟩))
    (fun os started H enc _ => lifted os started H enc)

/-- the statement -/
theorem proved : Rows.ShaKnownSaid :=
  over
#print axioms proved
end Go.Proofs.Ytmaoaljohjkjeaa.shaKnown
