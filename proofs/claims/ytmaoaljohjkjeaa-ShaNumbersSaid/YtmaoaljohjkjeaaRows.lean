/-
  No cell of these rows narrows 'for every input' (looked for: loops, veiled, ifaces, maps, wideKeys, modest, calm, conditions, laid).
  DERIVED. THE GIVEN ROWS OF THIS SEAT. 9 by the template 'for every input the law returns true; each argument reads behind the call as it read before'; 0 by the template 'total and deterministic' (their statements: YtmaoaljohjkjeaaTotals.lean).
  GIVEN WITH THE SEED: the statements are not yours to turn. If you find one false, say at which input.
  Laid BY PROGRAM, IN A SANDBOX (cutbox-rows.mjs): the forced cells as the released guide's own fill.sh prints them over the translation 76a6210dcce2f565… (all of the seat's roots in one cut). By AI agents, Wed Nov 11 2026. No macro, syntax, notation, axiom, sorry.
-/
import Derived.Test.YtmaoaljohjkjeaaChecked
import GoSem.Claim
import GoSem.ClaimJoined
import GoSem.ClaimMapViews
import Derived.JoinedTies
import Derived.KernelRfl
namespace Go.Proofs.Ytmaoaljohjkjeaa
/- THE CELL 'sum', in the pinned program and in every row, IS THE sha256 OF THE DUMP (.gsa) THAT YtmaoaljohjkjeaaProg.lean LOADS. Nothing in Lean hashes anything: it is a label: what it is worth is what the hold of that sum in a sandbox is worth. -/
noncomputable def Try.pinned : Pinned := { name := "ytmaoaljohjkjeaa", sum := "76a6210dcce2f5658c2f1db22b80e175602f373d782d5cc5d4c31033c613506d", checked := Try.checked }
namespace Rows
def none {H : Type} : Left H := { results := [], args := [] }

/-- 'lightwelllaw03.ChanceNumbers': WHATEVER THE INPUT: true; the input reads as it did. -/
def chanceNumbersSpec : ChangeSpec := { name := "chanceNumbers", fn := fun _ => fun
  | [] => { results := [.lit (.bool true)], args := [] }
  | _ => none }
def chanceNumbersRow : OpenClaim := { program := "ytmaoaljohjkjeaa", sum := "76a6210dcce2f5658c2f1db22b80e175602f373d782d5cc5d4c31033c613506d", func := "lightwell/lightwelllaw03.ChanceNumbers", spec := "chanceNumbers", apart := false }
def ChanceNumbersSaid : Prop := chanceNumbersRow.holds Try.pinned (OpenSpec.ofChange chanceNumbersSpec)

/-- ITS FALSE NEIGHBOUR: 'it returns false'. Refute it at one input. -/
def chanceNumbersWrong : ChangeSpec := { name := "chanceNumbers", fn := fun _ => fun
  | [] => { results := [.lit (.bool false)], args := [] }
  | _ => none }
def ChanceNumbersWrongFalsely : Prop := chanceNumbersRow.holds Try.pinned (OpenSpec.ofChange chanceNumbersWrong)

/-- 'lightwelllaw03.ChanceOnce': WHATEVER THE INPUT: true; the input reads as it did. -/
def chanceOnceSpec : ChangeSpec := { name := "chanceOnce", fn := fun _ => fun
  | [d1, d2, d3, d4, d5] => { results := [.lit (.bool true)], args := [d1, d2, d3, d4, d5] }
  | _ => none }
def chanceOnceRow : OpenClaim := { program := "ytmaoaljohjkjeaa", sum := "76a6210dcce2f5658c2f1db22b80e175602f373d782d5cc5d4c31033c613506d", func := "lightwell/lightwelllaw03.ChanceOnce", spec := "chanceOnce", apart := false }
def ChanceOnceSaid : Prop := chanceOnceRow.holds Try.pinned (OpenSpec.ofChange chanceOnceSpec)

/-- ITS FALSE NEIGHBOUR: 'it returns false'. Refute it at one input. -/
def chanceOnceWrong : ChangeSpec := { name := "chanceOnce", fn := fun _ => fun
  | [d1, d2, d3, d4, d5] => { results := [.lit (.bool false)], args := [d1, d2, d3, d4, d5] }
  | _ => none }
def ChanceOnceWrongFalsely : Prop := chanceOnceRow.holds Try.pinned (OpenSpec.ofChange chanceOnceWrong)

/-- 'lightwelllaw03.ChanceSteps': WHATEVER THE INPUT: true; the input reads as it did. -/
def chanceStepsSpec : ChangeSpec := { name := "chanceSteps", fn := fun _ => fun
  | [d1, d2, d3, d4] => { results := [.lit (.bool true)], args := [d1, d2, d3, d4] }
  | _ => none }
def chanceStepsRow : OpenClaim := { program := "ytmaoaljohjkjeaa", sum := "76a6210dcce2f5658c2f1db22b80e175602f373d782d5cc5d4c31033c613506d", func := "lightwell/lightwelllaw03.ChanceSteps", spec := "chanceSteps", apart := false }
def ChanceStepsSaid : Prop := chanceStepsRow.holds Try.pinned (OpenSpec.ofChange chanceStepsSpec)

/-- ITS FALSE NEIGHBOUR: 'it returns false'. Refute it at one input. -/
def chanceStepsWrong : ChangeSpec := { name := "chanceSteps", fn := fun _ => fun
  | [d1, d2, d3, d4] => { results := [.lit (.bool false)], args := [d1, d2, d3, d4] }
  | _ => none }
def ChanceStepsWrongFalsely : Prop := chanceStepsRow.holds Try.pinned (OpenSpec.ofChange chanceStepsWrong)

/-- 'lightwelllaw03.ChanceUnlike': WHATEVER THE INPUT: true; the input reads as it did. -/
def chanceUnlikeSpec : ChangeSpec := { name := "chanceUnlike", fn := fun _ => fun
  | [d1, d2, d3, d4, d5] => { results := [.lit (.bool true)], args := [d1, d2, d3, d4, d5] }
  | _ => none }
def chanceUnlikeRow : OpenClaim := { program := "ytmaoaljohjkjeaa", sum := "76a6210dcce2f5658c2f1db22b80e175602f373d782d5cc5d4c31033c613506d", func := "lightwell/lightwelllaw03.ChanceUnlike", spec := "chanceUnlike", apart := false }
def ChanceUnlikeSaid : Prop := chanceUnlikeRow.holds Try.pinned (OpenSpec.ofChange chanceUnlikeSpec)

/-- ITS FALSE NEIGHBOUR: 'it returns false'. Refute it at one input. -/
def chanceUnlikeWrong : ChangeSpec := { name := "chanceUnlike", fn := fun _ => fun
  | [d1, d2, d3, d4, d5] => { results := [.lit (.bool false)], args := [d1, d2, d3, d4, d5] }
  | _ => none }
def ChanceUnlikeWrongFalsely : Prop := chanceUnlikeRow.holds Try.pinned (OpenSpec.ofChange chanceUnlikeWrong)

/-- 'lightwelllaw11.ShaNumbers': WHATEVER THE INPUT: true; the input reads as it did. -/
def shaNumbersSpec : ChangeSpec := { name := "shaNumbers", fn := fun _ => fun
  | [] => { results := [.lit (.bool true)], args := [] }
  | _ => none }
def shaNumbersRow : OpenClaim := { program := "ytmaoaljohjkjeaa", sum := "76a6210dcce2f5658c2f1db22b80e175602f373d782d5cc5d4c31033c613506d", func := "lightwell/lightwelllaw11.ShaNumbers", spec := "shaNumbers", unfollowed := true, recurses := true, apart := false }
def ShaNumbersSaid : Prop := shaNumbersRow.holds Try.pinned (OpenSpec.ofChange shaNumbersSpec)

/-- ITS FALSE NEIGHBOUR: 'it returns false'. Refute it at one input. -/
def shaNumbersWrong : ChangeSpec := { name := "shaNumbers", fn := fun _ => fun
  | [] => { results := [.lit (.bool false)], args := [] }
  | _ => none }
def ShaNumbersWrongFalsely : Prop := shaNumbersRow.holds Try.pinned (OpenSpec.ofChange shaNumbersWrong)

/-- 'lightwelllaw11.ShaTells': WHATEVER THE INPUT: true; the input reads as it did. -/
def shaTellsSpec : ChangeSpec := { name := "shaTells", fn := fun _ => fun
  | [d1, d2] => { results := [.lit (.bool true)], args := [d1, d2] }
  | _ => none }
def shaTellsRow : OpenClaim := { program := "ytmaoaljohjkjeaa", sum := "76a6210dcce2f5658c2f1db22b80e175602f373d782d5cc5d4c31033c613506d", func := "lightwell/lightwelllaw11.ShaTells", spec := "shaTells", unfollowed := true, recurses := true, apart := false }
def ShaTellsSaid : Prop := shaTellsRow.holds Try.pinned (OpenSpec.ofChange shaTellsSpec)

/-- ITS FALSE NEIGHBOUR: 'it returns false'. Refute it at one input. -/
def shaTellsWrong : ChangeSpec := { name := "shaTells", fn := fun _ => fun
  | [d1, d2] => { results := [.lit (.bool false)], args := [d1, d2] }
  | _ => none }
def ShaTellsWrongFalsely : Prop := shaTellsRow.holds Try.pinned (OpenSpec.ofChange shaTellsWrong)

/-- 'lightwelllaw11.ShaTexts': WHATEVER THE INPUT: true; the input reads as it did. -/
def shaTextsSpec : ChangeSpec := { name := "shaTexts", fn := fun _ => fun
  | [d1, d2, d3] => { results := [.lit (.bool true)], args := [d1, d2, d3] }
  | _ => none }
def shaTextsRow : OpenClaim := { program := "ytmaoaljohjkjeaa", sum := "76a6210dcce2f5658c2f1db22b80e175602f373d782d5cc5d4c31033c613506d", func := "lightwell/lightwelllaw11.ShaTexts", spec := "shaTexts", unfollowed := true, recurses := true, apart := false }
def ShaTextsSaid : Prop := shaTextsRow.holds Try.pinned (OpenSpec.ofChange shaTextsSpec)

/-- ITS FALSE NEIGHBOUR: 'it returns false'. Refute it at one input. -/
def shaTextsWrong : ChangeSpec := { name := "shaTexts", fn := fun _ => fun
  | [d1, d2, d3] => { results := [.lit (.bool false)], args := [d1, d2, d3] }
  | _ => none }
def ShaTextsWrongFalsely : Prop := shaTextsRow.holds Try.pinned (OpenSpec.ofChange shaTextsWrong)

/-- 'lightwelllaw11.ShaKnown': WHATEVER THE INPUT: true; the input reads as it did. -/
def shaKnownSpec : ChangeSpec := { name := "shaKnown", fn := fun _ => fun
  | [] => { results := [.lit (.bool true)], args := [] }
  | _ => none }
def shaKnownRow : OpenClaim := { program := "ytmaoaljohjkjeaa", sum := "76a6210dcce2f5658c2f1db22b80e175602f373d782d5cc5d4c31033c613506d", func := "lightwell/lightwelllaw11.ShaKnown", spec := "shaKnown", unfollowed := true, recurses := true, apart := false }
def ShaKnownSaid : Prop := shaKnownRow.holds Try.pinned (OpenSpec.ofChange shaKnownSpec)

/-- ITS FALSE NEIGHBOUR: 'it returns false'. Refute it at one input. -/
def shaKnownWrong : ChangeSpec := { name := "shaKnown", fn := fun _ => fun
  | [] => { results := [.lit (.bool false)], args := [] }
  | _ => none }
def ShaKnownWrongFalsely : Prop := shaKnownRow.holds Try.pinned (OpenSpec.ofChange shaKnownWrong)

/-- 'lightwelllaw11.ShaStays': WHATEVER THE INPUT: true; the input reads as it did. -/
def shaStaysSpec : ChangeSpec := { name := "shaStays", fn := fun _ => fun
  | [d1, d2] => { results := [.lit (.bool true)], args := [d1, d2] }
  | _ => none }
def shaStaysRow : OpenClaim := { program := "ytmaoaljohjkjeaa", sum := "76a6210dcce2f5658c2f1db22b80e175602f373d782d5cc5d4c31033c613506d", func := "lightwell/lightwelllaw11.ShaStays", spec := "shaStays", unfollowed := true, recurses := true, apart := false }
def ShaStaysSaid : Prop := shaStaysRow.holds Try.pinned (OpenSpec.ofChange shaStaysSpec)

/-- ITS FALSE NEIGHBOUR: 'it returns false'. Refute it at one input. -/
def shaStaysWrong : ChangeSpec := { name := "shaStays", fn := fun _ => fun
  | [d1, d2] => { results := [.lit (.bool false)], args := [d1, d2] }
  | _ => none }
def ShaStaysWrongFalsely : Prop := shaStaysRow.holds Try.pinned (OpenSpec.ofChange shaStaysWrong)

/- THE SECOND FORM. 'bulk': how many values and letters a reading holds, each counted each time it is reached (what is shared counts as often as it is met; a slice's spare places count too). A statement '..UptoSaid' is the law's where the arguments, and the package variables that the reading takes, are together of bulk at most 1048576: NARROWER than '..Said'. Prove '..Said' where nothing that the law and all that it calls make is longer than what came in: it says more and counts as full. Else prove '..UptoSaid'. A law counts once. -/
mutual
def uptoBulk {H : Type} : DataW H → Nat
  | .lit (.string bytes) => bytes.length + 1
  | .lit _ => 1
  | .nil => 1
  | .ptr d => uptoBulk d + 1
  | .slice elems spare => uptoBulkAll elems + uptoBulkAll spare + 1
  | .agg parts => uptoBulkAll parts + 1
  | .iface _ d => uptoBulk d + 1
  | .map entries => uptoBulkEntries entries + 1
  | .held _ => 1
def uptoBulkAll {H : Type} : List (DataW H) → Nat
  | [] => 0
  | d :: r => uptoBulk d + uptoBulkAll r
def uptoBulkEntries {H : Type} : List (Lit × DataW H) → Nat
  | [] => 0
  | x :: r => uptoBulkEntry x + uptoBulkEntries r
def uptoBulkEntry {H : Type} : Lit × DataW H → Nat
  | (.string bytes, d) => bytes.length + uptoBulk d + 1
  | (_, d) => uptoBulk d + 1
 end
def uptoSmall : (H : Type) → List (DataW H) → Bool := fun _ ds => decide (uptoBulkAll ds ≤ 1048576)
def OpenSpec.upto (s : _root_.Go.ChangeSpec) : _root_.Go.OpenSpec := { _root_.Go.OpenSpec.ofChange s with cond := some uptoSmall }

/-- 'lightwelllaw03.ChanceNumbers', WHERE WHAT IT READS IS OF BULK AT MOST 1048576: true; the input reads as it did. -/
def chanceNumbersUptoRow : OpenClaim := { program := "ytmaoaljohjkjeaa", sum := "76a6210dcce2f5658c2f1db22b80e175602f373d782d5cc5d4c31033c613506d", func := "lightwell/lightwelllaw03.ChanceNumbers", spec := "chanceNumbers", apart := false, narrowed := true }
def ChanceNumbersUptoSaid : Prop := chanceNumbersUptoRow.holds Try.pinned (OpenSpec.upto chanceNumbersSpec)

/-- 'lightwelllaw03.ChanceOnce', WHERE WHAT IT READS IS OF BULK AT MOST 1048576: true; the input reads as it did. -/
def chanceOnceUptoRow : OpenClaim := { program := "ytmaoaljohjkjeaa", sum := "76a6210dcce2f5658c2f1db22b80e175602f373d782d5cc5d4c31033c613506d", func := "lightwell/lightwelllaw03.ChanceOnce", spec := "chanceOnce", apart := false, narrowed := true }
def ChanceOnceUptoSaid : Prop := chanceOnceUptoRow.holds Try.pinned (OpenSpec.upto chanceOnceSpec)

/-- 'lightwelllaw03.ChanceSteps', WHERE WHAT IT READS IS OF BULK AT MOST 1048576: true; the input reads as it did. -/
def chanceStepsUptoRow : OpenClaim := { program := "ytmaoaljohjkjeaa", sum := "76a6210dcce2f5658c2f1db22b80e175602f373d782d5cc5d4c31033c613506d", func := "lightwell/lightwelllaw03.ChanceSteps", spec := "chanceSteps", apart := false, narrowed := true }
def ChanceStepsUptoSaid : Prop := chanceStepsUptoRow.holds Try.pinned (OpenSpec.upto chanceStepsSpec)

/-- 'lightwelllaw03.ChanceUnlike', WHERE WHAT IT READS IS OF BULK AT MOST 1048576: true; the input reads as it did. -/
def chanceUnlikeUptoRow : OpenClaim := { program := "ytmaoaljohjkjeaa", sum := "76a6210dcce2f5658c2f1db22b80e175602f373d782d5cc5d4c31033c613506d", func := "lightwell/lightwelllaw03.ChanceUnlike", spec := "chanceUnlike", apart := false, narrowed := true }
def ChanceUnlikeUptoSaid : Prop := chanceUnlikeUptoRow.holds Try.pinned (OpenSpec.upto chanceUnlikeSpec)

/-- 'lightwelllaw11.ShaNumbers', WHERE WHAT IT READS IS OF BULK AT MOST 1048576: true; the input reads as it did. -/
def shaNumbersUptoRow : OpenClaim := { program := "ytmaoaljohjkjeaa", sum := "76a6210dcce2f5658c2f1db22b80e175602f373d782d5cc5d4c31033c613506d", func := "lightwell/lightwelllaw11.ShaNumbers", spec := "shaNumbers", unfollowed := true, recurses := true, apart := false, narrowed := true }
def ShaNumbersUptoSaid : Prop := shaNumbersUptoRow.holds Try.pinned (OpenSpec.upto shaNumbersSpec)

/-- 'lightwelllaw11.ShaTells', WHERE WHAT IT READS IS OF BULK AT MOST 1048576: true; the input reads as it did. -/
def shaTellsUptoRow : OpenClaim := { program := "ytmaoaljohjkjeaa", sum := "76a6210dcce2f5658c2f1db22b80e175602f373d782d5cc5d4c31033c613506d", func := "lightwell/lightwelllaw11.ShaTells", spec := "shaTells", unfollowed := true, recurses := true, apart := false, narrowed := true }
def ShaTellsUptoSaid : Prop := shaTellsUptoRow.holds Try.pinned (OpenSpec.upto shaTellsSpec)

/-- 'lightwelllaw11.ShaTexts', WHERE WHAT IT READS IS OF BULK AT MOST 1048576: true; the input reads as it did. -/
def shaTextsUptoRow : OpenClaim := { program := "ytmaoaljohjkjeaa", sum := "76a6210dcce2f5658c2f1db22b80e175602f373d782d5cc5d4c31033c613506d", func := "lightwell/lightwelllaw11.ShaTexts", spec := "shaTexts", unfollowed := true, recurses := true, apart := false, narrowed := true }
def ShaTextsUptoSaid : Prop := shaTextsUptoRow.holds Try.pinned (OpenSpec.upto shaTextsSpec)

/-- 'lightwelllaw11.ShaKnown', WHERE WHAT IT READS IS OF BULK AT MOST 1048576: true; the input reads as it did. -/
def shaKnownUptoRow : OpenClaim := { program := "ytmaoaljohjkjeaa", sum := "76a6210dcce2f5658c2f1db22b80e175602f373d782d5cc5d4c31033c613506d", func := "lightwell/lightwelllaw11.ShaKnown", spec := "shaKnown", unfollowed := true, recurses := true, apart := false, narrowed := true }
def ShaKnownUptoSaid : Prop := shaKnownUptoRow.holds Try.pinned (OpenSpec.upto shaKnownSpec)

/-- 'lightwelllaw11.ShaStays', WHERE WHAT IT READS IS OF BULK AT MOST 1048576: true; the input reads as it did. -/
def shaStaysUptoRow : OpenClaim := { program := "ytmaoaljohjkjeaa", sum := "76a6210dcce2f5658c2f1db22b80e175602f373d782d5cc5d4c31033c613506d", func := "lightwell/lightwelllaw11.ShaStays", spec := "shaStays", unfollowed := true, recurses := true, apart := false, narrowed := true }
def ShaStaysUptoSaid : Prop := shaStaysUptoRow.holds Try.pinned (OpenSpec.upto shaStaysSpec)

end Rows
end Go.Proofs.Ytmaoaljohjkjeaa
