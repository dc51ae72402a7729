/-
  No cell of these rows narrows 'for every input' (looked for: loops, veiled, ifaces, maps, wideKeys, modest, calm, conditions, laid).
  DERIVED. THE GIVEN ROWS OF THIS SEAT. 4 by the template 'for every input the law returns true; each argument reads behind the call as it read before'; 0 by the template 'total and deterministic' (their statements: YtjagjbceegbaiaaGreatTotals.lean).
  GIVEN WITH THE SEED: the statements are not yours to turn. If you find one false, say at which input.
  Laid BY PROGRAM, IN A SANDBOX (cutbox-rows.mjs): the forced cells as the released guide's own fill.sh prints them over the translation 894f023af401b421… (all of the seat's roots in one cut). By AI agents, Wed Nov 11 2026. No macro, syntax, notation, axiom, sorry.
-/
import Derived.Test.YtjagjbceegbaiaaGreatChecked
import GoSem.Claim
import GoSem.ClaimJoined
import GoSem.ClaimMapViews
import Derived.JoinedTies
import Derived.KernelRfl
namespace Go.Proofs.YtjagjbceegbaiaaGreat
/- THE CELL 'sum', in the pinned program and in every row, IS THE sha256 OF THE DUMP (.gsa) THAT YtjagjbceegbaiaaGreatProg.lean LOADS. Nothing in Lean hashes anything: it is a label: what it is worth is what the hold of that sum in a sandbox is worth. -/
noncomputable def Tryz.pinned : Pinned := { name := "ytjagjbceegbaiaagreat", sum := "894f023af401b4210a1d5ff361ded8f8c5363bb5792f7a40786bde85c2b47a8c", checked := Tryz.checked }
namespace Rows
def none {H : Type} : Left H := { results := [], args := [] }

/-- 'nomenclatorlaw17.SeekFinds': WHATEVER THE INPUT: true; the input reads as it did. -/
def seekFindsSpec : ChangeSpec := { name := "seekFinds", fn := fun _ => fun
  | [d1, d2] => { results := [.lit (.bool true)], args := [d1, d2] }
  | _ => none }
def seekFindsRow : OpenClaim := { program := "ytjagjbceegbaiaagreat", sum := "894f023af401b4210a1d5ff361ded8f8c5363bb5792f7a40786bde85c2b47a8c", func := "nomenclator/nomenclatorlaw17.SeekFinds", spec := "seekFinds", inPlace := ["internal/bytealg.Compare", "internal/bytealg.abigen_runtime_cmpstring"], unfollowed := true, recurses := true, plainKeys := false, apart := false }
def SeekFindsSaid : Prop := seekFindsRow.holds Tryz.pinned (OpenSpec.ofChange seekFindsSpec)

/-- ITS FALSE NEIGHBOUR: 'it returns false'. Refute it at one input. -/
def seekFindsWrong : ChangeSpec := { name := "seekFinds", fn := fun _ => fun
  | [d1, d2] => { results := [.lit (.bool false)], args := [d1, d2] }
  | _ => none }
def SeekFindsWrongFalsely : Prop := seekFindsRow.holds Tryz.pinned (OpenSpec.ofChange seekFindsWrong)

/-- 'nomenclatorlaw18.AnswerSteps': WHATEVER THE INPUT: true; the input reads as it did. -/
def answerStepsSpec : ChangeSpec := { name := "answerSteps", fn := fun _ => fun
  | [d1, d2, d3, d4] => { results := [.lit (.bool true)], args := [d1, d2, d3, d4] }
  | _ => none }
def answerStepsRow : OpenClaim := { program := "ytjagjbceegbaiaagreat", sum := "894f023af401b4210a1d5ff361ded8f8c5363bb5792f7a40786bde85c2b47a8c", func := "nomenclator/nomenclatorlaw18.AnswerSteps", spec := "answerSteps", inPlace := ["internal/bytealg.Compare", "internal/bytealg.abigen_runtime_cmpstring"], unfollowed := true, recurses := true, plainKeys := false, apart := false }
def AnswerStepsSaid : Prop := answerStepsRow.holds Tryz.pinned (OpenSpec.ofChange answerStepsSpec)

/-- ITS FALSE NEIGHBOUR: 'it returns false'. Refute it at one input. -/
def answerStepsWrong : ChangeSpec := { name := "answerSteps", fn := fun _ => fun
  | [d1, d2, d3, d4] => { results := [.lit (.bool false)], args := [d1, d2, d3, d4] }
  | _ => none }
def AnswerStepsWrongFalsely : Prop := answerStepsRow.holds Tryz.pinned (OpenSpec.ofChange answerStepsWrong)

/-- 'nomenclatorlaw18.AnswerReplies': WHATEVER THE INPUT: true; the input reads as it did. -/
def answerRepliesSpec : ChangeSpec := { name := "answerReplies", fn := fun _ => fun
  | [d1, d2, d3] => { results := [.lit (.bool true)], args := [d1, d2, d3] }
  | _ => none }
def answerRepliesRow : OpenClaim := { program := "ytjagjbceegbaiaagreat", sum := "894f023af401b4210a1d5ff361ded8f8c5363bb5792f7a40786bde85c2b47a8c", func := "nomenclator/nomenclatorlaw18.AnswerReplies", spec := "answerReplies", inPlace := ["internal/bytealg.Compare", "internal/bytealg.abigen_runtime_cmpstring"], unfollowed := true, recurses := true, plainKeys := false, apart := false }
def AnswerRepliesSaid : Prop := answerRepliesRow.holds Tryz.pinned (OpenSpec.ofChange answerRepliesSpec)

/-- ITS FALSE NEIGHBOUR: 'it returns false'. Refute it at one input. -/
def answerRepliesWrong : ChangeSpec := { name := "answerReplies", fn := fun _ => fun
  | [d1, d2, d3] => { results := [.lit (.bool false)], args := [d1, d2, d3] }
  | _ => none }
def AnswerRepliesWrongFalsely : Prop := answerRepliesRow.holds Tryz.pinned (OpenSpec.ofChange answerRepliesWrong)

/-- 'nomenclatorlaw16.ZoneMakes': WHATEVER THE INPUT: true; the input reads as it did. -/
def zoneMakesSpec : ChangeSpec := { name := "zoneMakes", fn := fun _ => fun
  | [d1, d2] => { results := [.lit (.bool true)], args := [d1, d2] }
  | _ => none }
def zoneMakesRow : OpenClaim := { program := "ytjagjbceegbaiaagreat", sum := "894f023af401b4210a1d5ff361ded8f8c5363bb5792f7a40786bde85c2b47a8c", func := "nomenclator/nomenclatorlaw16.ZoneMakes", spec := "zoneMakes", inPlace := ["internal/abi.NoEscape", "internal/bytealg.Compare", "internal/bytealg.abigen_runtime_cmpstring"], unfollowed := true, recurses := true, plainKeys := false, apart := false }
def ZoneMakesSaid : Prop := zoneMakesRow.holds Tryz.pinned (OpenSpec.ofChange zoneMakesSpec)

/-- ITS FALSE NEIGHBOUR: 'it returns false'. Refute it at one input. -/
def zoneMakesWrong : ChangeSpec := { name := "zoneMakes", fn := fun _ => fun
  | [d1, d2] => { results := [.lit (.bool false)], args := [d1, d2] }
  | _ => none }
def ZoneMakesWrongFalsely : Prop := zoneMakesRow.holds Tryz.pinned (OpenSpec.ofChange zoneMakesWrong)

/- THE SECOND FORM. 'bulk': how many values and letters a reading holds, each counted each time it is reached (what is shared counts as often as it is met; a slice's spare places count too). A statement '..UptoSaid' is the law's where the arguments, and the package variables that the reading takes, are together of bulk at most 1048576: NARROWER than '..Said'. Prove '..Said' where nothing that the law and all that it calls make is longer than what came in: it says more and counts as full. Else prove '..UptoSaid'. A law counts once. -/
mutual
def uptoBulk {H : Type} : DataW H → Nat
  | .lit (.string bytes) => bytes.length + 1
  | .lit _ => 1
  | .nil => 1
  | .ptr d => uptoBulk d + 1
  | .slice elems spare => uptoBulkAll elems + uptoBulkAll spare + 1
  | .agg parts => uptoBulkAll parts + 1
  | .iface _ d => uptoBulk d + 1
  | .map entries => uptoBulkEntries entries + 1
  | .held _ => 1
def uptoBulkAll {H : Type} : List (DataW H) → Nat
  | [] => 0
  | d :: r => uptoBulk d + uptoBulkAll r
def uptoBulkEntries {H : Type} : List (Lit × DataW H) → Nat
  | [] => 0
  | x :: r => uptoBulkEntry x + uptoBulkEntries r
def uptoBulkEntry {H : Type} : Lit × DataW H → Nat
  | (.string bytes, d) => bytes.length + uptoBulk d + 1
  | (_, d) => uptoBulk d + 1
 end
def uptoSmall : (H : Type) → List (DataW H) → Bool := fun _ ds => decide (uptoBulkAll ds ≤ 1048576)
def OpenSpec.upto (s : _root_.Go.ChangeSpec) : _root_.Go.OpenSpec := { _root_.Go.OpenSpec.ofChange s with cond := some uptoSmall }

/-- 'nomenclatorlaw17.SeekFinds', WHERE WHAT IT READS IS OF BULK AT MOST 1048576: true; the input reads as it did. -/
def seekFindsUptoRow : OpenClaim := { program := "ytjagjbceegbaiaagreat", sum := "894f023af401b4210a1d5ff361ded8f8c5363bb5792f7a40786bde85c2b47a8c", func := "nomenclator/nomenclatorlaw17.SeekFinds", spec := "seekFinds", inPlace := ["internal/bytealg.Compare", "internal/bytealg.abigen_runtime_cmpstring"], unfollowed := true, recurses := true, plainKeys := false, apart := false, narrowed := true }
def SeekFindsUptoSaid : Prop := seekFindsUptoRow.holds Tryz.pinned (OpenSpec.upto seekFindsSpec)

/-- 'nomenclatorlaw18.AnswerSteps', WHERE WHAT IT READS IS OF BULK AT MOST 1048576: true; the input reads as it did. -/
def answerStepsUptoRow : OpenClaim := { program := "ytjagjbceegbaiaagreat", sum := "894f023af401b4210a1d5ff361ded8f8c5363bb5792f7a40786bde85c2b47a8c", func := "nomenclator/nomenclatorlaw18.AnswerSteps", spec := "answerSteps", inPlace := ["internal/bytealg.Compare", "internal/bytealg.abigen_runtime_cmpstring"], unfollowed := true, recurses := true, plainKeys := false, apart := false, narrowed := true }
def AnswerStepsUptoSaid : Prop := answerStepsUptoRow.holds Tryz.pinned (OpenSpec.upto answerStepsSpec)

/-- 'nomenclatorlaw18.AnswerReplies', WHERE WHAT IT READS IS OF BULK AT MOST 1048576: true; the input reads as it did. -/
def answerRepliesUptoRow : OpenClaim := { program := "ytjagjbceegbaiaagreat", sum := "894f023af401b4210a1d5ff361ded8f8c5363bb5792f7a40786bde85c2b47a8c", func := "nomenclator/nomenclatorlaw18.AnswerReplies", spec := "answerReplies", inPlace := ["internal/bytealg.Compare", "internal/bytealg.abigen_runtime_cmpstring"], unfollowed := true, recurses := true, plainKeys := false, apart := false, narrowed := true }
def AnswerRepliesUptoSaid : Prop := answerRepliesUptoRow.holds Tryz.pinned (OpenSpec.upto answerRepliesSpec)

/-- 'nomenclatorlaw16.ZoneMakes', WHERE WHAT IT READS IS OF BULK AT MOST 1048576: true; the input reads as it did. -/
def zoneMakesUptoRow : OpenClaim := { program := "ytjagjbceegbaiaagreat", sum := "894f023af401b4210a1d5ff361ded8f8c5363bb5792f7a40786bde85c2b47a8c", func := "nomenclator/nomenclatorlaw16.ZoneMakes", spec := "zoneMakes", inPlace := ["internal/abi.NoEscape", "internal/bytealg.Compare", "internal/bytealg.abigen_runtime_cmpstring"], unfollowed := true, recurses := true, plainKeys := false, apart := false, narrowed := true }
def ZoneMakesUptoSaid : Prop := zoneMakesUptoRow.holds Tryz.pinned (OpenSpec.upto zoneMakesSpec)

end Rows
end Go.Proofs.YtjagjbceegbaiaaGreat
