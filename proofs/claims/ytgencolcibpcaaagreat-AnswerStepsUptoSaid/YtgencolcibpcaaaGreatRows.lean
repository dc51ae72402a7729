/-
  No cell of these rows narrows 'for every input' (looked for: loops, veiled, ifaces, maps, wideKeys, modest, calm, conditions, laid).
  DERIVED. THE GIVEN ROWS OF THIS SEAT. 4 by the template 'for every input the law returns true; each argument reads behind the call as it read before'; 0 by the template 'total and deterministic' (their statements: YtgencolcibpcaaaGreatTotals.lean).
  GIVEN WITH THE SEED: the statements are not yours to turn. If you find one false, say at which input.
  Laid BY PROGRAM, IN A SANDBOX (cutbox-rows.mjs): the forced cells as the released guide's own fill.sh prints them over the translation f3925e187c4056ee… (all of the seat's roots in one cut). By AI agents, Wed Nov 11 2026. No macro, syntax, notation, axiom, sorry.
-/
import Derived.Test.YtgencolcibpcaaaGreatChecked
import GoSem.Claim
import GoSem.ClaimJoined
import GoSem.ClaimMapViews
import Derived.JoinedTies
import Derived.KernelRfl
namespace Go.Proofs.YtgencolcibpcaaaGreat
/- THE CELL 'sum', in the pinned program and in every row, IS THE sha256 OF THE DUMP (.gsa) THAT YtgencolcibpcaaaGreatProg.lean LOADS. Nothing in Lean hashes anything: it is a label: what it is worth is what the hold of that sum in a sandbox is worth. -/
noncomputable def Tryz.pinned : Pinned := { name := "ytgencolcibpcaaagreat", sum := "f3925e187c4056ee7fd577b0af837a4fa7dd731ef7f59435951822c151680230", checked := Tryz.checked }
namespace Rows
def none {H : Type} : Left H := { results := [], args := [] }

/-- 'nomenclatorlaw07.SetFinds': WHATEVER THE INPUT: true; the input reads as it did. -/
def setFindsSpec : ChangeSpec := { name := "setFinds", fn := fun _ => fun
  | [d1, d2, d3] => { results := [.lit (.bool true)], args := [d1, d2, d3] }
  | _ => none }
def setFindsRow : OpenClaim := { program := "ytgencolcibpcaaagreat", sum := "f3925e187c4056ee7fd577b0af837a4fa7dd731ef7f59435951822c151680230", func := "nomenclator/nomenclatorlaw07.SetFinds", spec := "setFinds", inPlace := ["internal/bytealg.abigen_runtime_cmpstring", "internal/bytealg.Compare"], unfollowed := true, recurses := true, apart := false }
def SetFindsSaid : Prop := setFindsRow.holds Tryz.pinned (OpenSpec.ofChange setFindsSpec)

/-- ITS FALSE NEIGHBOUR: 'it returns false'. Refute it at one input. -/
def setFindsWrong : ChangeSpec := { name := "setFinds", fn := fun _ => fun
  | [d1, d2, d3] => { results := [.lit (.bool false)], args := [d1, d2, d3] }
  | _ => none }
def SetFindsWrongFalsely : Prop := setFindsRow.holds Tryz.pinned (OpenSpec.ofChange setFindsWrong)

/-- 'nomenclatorlaw16.ZoneTells': WHATEVER THE INPUT: true; the input reads as it did. -/
def zoneTellsSpec : ChangeSpec := { name := "zoneTells", fn := fun _ => fun
  | [d1, d2] => { results := [.lit (.bool true)], args := [d1, d2] }
  | _ => none }
def zoneTellsRow : OpenClaim := { program := "ytgencolcibpcaaagreat", sum := "f3925e187c4056ee7fd577b0af837a4fa7dd731ef7f59435951822c151680230", func := "nomenclator/nomenclatorlaw16.ZoneTells", spec := "zoneTells", inPlace := ["internal/bytealg.Compare", "internal/bytealg.abigen_runtime_cmpstring"], unfollowed := true, recurses := true, apart := false }
def ZoneTellsSaid : Prop := zoneTellsRow.holds Tryz.pinned (OpenSpec.ofChange zoneTellsSpec)

/-- ITS FALSE NEIGHBOUR: 'it returns false'. Refute it at one input. -/
def zoneTellsWrong : ChangeSpec := { name := "zoneTells", fn := fun _ => fun
  | [d1, d2] => { results := [.lit (.bool false)], args := [d1, d2] }
  | _ => none }
def ZoneTellsWrongFalsely : Prop := zoneTellsRow.holds Tryz.pinned (OpenSpec.ofChange zoneTellsWrong)

/-- 'nomenclatorlaw18.AnswerSteps': WHATEVER THE INPUT: true; the input reads as it did. -/
def answerStepsSpec : ChangeSpec := { name := "answerSteps", fn := fun _ => fun
  | [d1, d2, d3, d4] => { results := [.lit (.bool true)], args := [d1, d2, d3, d4] }
  | _ => none }
def answerStepsRow : OpenClaim := { program := "ytgencolcibpcaaagreat", sum := "f3925e187c4056ee7fd577b0af837a4fa7dd731ef7f59435951822c151680230", func := "nomenclator/nomenclatorlaw18.AnswerSteps", spec := "answerSteps", inPlace := ["internal/bytealg.Compare", "internal/bytealg.abigen_runtime_cmpstring"], unfollowed := true, recurses := true, apart := false }
def AnswerStepsSaid : Prop := answerStepsRow.holds Tryz.pinned (OpenSpec.ofChange answerStepsSpec)

/-- ITS FALSE NEIGHBOUR: 'it returns false'. Refute it at one input. -/
def answerStepsWrong : ChangeSpec := { name := "answerSteps", fn := fun _ => fun
  | [d1, d2, d3, d4] => { results := [.lit (.bool false)], args := [d1, d2, d3, d4] }
  | _ => none }
def AnswerStepsWrongFalsely : Prop := answerStepsRow.holds Tryz.pinned (OpenSpec.ofChange answerStepsWrong)

/-- 'nomenclatorlaw16.ZoneTurns': WHATEVER THE INPUT: true; the input reads as it did. -/
def zoneTurnsSpec : ChangeSpec := { name := "zoneTurns", fn := fun _ => fun
  | [d1, d2, d3, d4] => { results := [.lit (.bool true)], args := [d1, d2, d3, d4] }
  | _ => none }
def zoneTurnsRow : OpenClaim := { program := "ytgencolcibpcaaagreat", sum := "f3925e187c4056ee7fd577b0af837a4fa7dd731ef7f59435951822c151680230", func := "nomenclator/nomenclatorlaw16.ZoneTurns", spec := "zoneTurns", inPlace := ["internal/bytealg.Compare", "internal/bytealg.abigen_runtime_cmpstring"], unfollowed := true, recurses := true, apart := false }
def ZoneTurnsSaid : Prop := zoneTurnsRow.holds Tryz.pinned (OpenSpec.ofChange zoneTurnsSpec)

/-- ITS FALSE NEIGHBOUR: 'it returns false'. Refute it at one input. -/
def zoneTurnsWrong : ChangeSpec := { name := "zoneTurns", fn := fun _ => fun
  | [d1, d2, d3, d4] => { results := [.lit (.bool false)], args := [d1, d2, d3, d4] }
  | _ => none }
def ZoneTurnsWrongFalsely : Prop := zoneTurnsRow.holds Tryz.pinned (OpenSpec.ofChange zoneTurnsWrong)

/- THE SECOND FORM. 'bulk': how many values and letters a reading holds, each counted each time it is reached (what is shared counts as often as it is met; a slice's spare places count too). A statement '..UptoSaid' is the law's where the arguments, and the package variables that the reading takes, are together of bulk at most 1048576: NARROWER than '..Said'. Prove '..Said' where nothing that the law and all that it calls make is longer than what came in: it says more and counts as full. Else prove '..UptoSaid'. A law counts once. -/
mutual
def uptoBulk {H : Type} : DataW H → Nat
  | .lit (.string bytes) => bytes.length + 1
  | .lit _ => 1
  | .nil => 1
  | .ptr d => uptoBulk d + 1
  | .slice elems spare => uptoBulkAll elems + uptoBulkAll spare + 1
  | .agg parts => uptoBulkAll parts + 1
  | .iface _ d => uptoBulk d + 1
  | .map entries => uptoBulkEntries entries + 1
  | .held _ => 1
def uptoBulkAll {H : Type} : List (DataW H) → Nat
  | [] => 0
  | d :: r => uptoBulk d + uptoBulkAll r
def uptoBulkEntries {H : Type} : List (Lit × DataW H) → Nat
  | [] => 0
  | x :: r => uptoBulkEntry x + uptoBulkEntries r
def uptoBulkEntry {H : Type} : Lit × DataW H → Nat
  | (.string bytes, d) => bytes.length + uptoBulk d + 1
  | (_, d) => uptoBulk d + 1
 end
def uptoSmall : (H : Type) → List (DataW H) → Bool := fun _ ds => decide (uptoBulkAll ds ≤ 1048576)
def OpenSpec.upto (s : _root_.Go.ChangeSpec) : _root_.Go.OpenSpec := { _root_.Go.OpenSpec.ofChange s with cond := some uptoSmall }

/-- 'nomenclatorlaw07.SetFinds', WHERE WHAT IT READS IS OF BULK AT MOST 1048576: true; the input reads as it did. -/
def setFindsUptoRow : OpenClaim := { program := "ytgencolcibpcaaagreat", sum := "f3925e187c4056ee7fd577b0af837a4fa7dd731ef7f59435951822c151680230", func := "nomenclator/nomenclatorlaw07.SetFinds", spec := "setFinds", inPlace := ["internal/bytealg.abigen_runtime_cmpstring", "internal/bytealg.Compare"], unfollowed := true, recurses := true, apart := false, narrowed := true }
def SetFindsUptoSaid : Prop := setFindsUptoRow.holds Tryz.pinned (OpenSpec.upto setFindsSpec)

/-- 'nomenclatorlaw16.ZoneTells', WHERE WHAT IT READS IS OF BULK AT MOST 1048576: true; the input reads as it did. -/
def zoneTellsUptoRow : OpenClaim := { program := "ytgencolcibpcaaagreat", sum := "f3925e187c4056ee7fd577b0af837a4fa7dd731ef7f59435951822c151680230", func := "nomenclator/nomenclatorlaw16.ZoneTells", spec := "zoneTells", inPlace := ["internal/bytealg.Compare", "internal/bytealg.abigen_runtime_cmpstring"], unfollowed := true, recurses := true, apart := false, narrowed := true }
def ZoneTellsUptoSaid : Prop := zoneTellsUptoRow.holds Tryz.pinned (OpenSpec.upto zoneTellsSpec)

/-- 'nomenclatorlaw18.AnswerSteps', WHERE WHAT IT READS IS OF BULK AT MOST 1048576: true; the input reads as it did. -/
def answerStepsUptoRow : OpenClaim := { program := "ytgencolcibpcaaagreat", sum := "f3925e187c4056ee7fd577b0af837a4fa7dd731ef7f59435951822c151680230", func := "nomenclator/nomenclatorlaw18.AnswerSteps", spec := "answerSteps", inPlace := ["internal/bytealg.Compare", "internal/bytealg.abigen_runtime_cmpstring"], unfollowed := true, recurses := true, apart := false, narrowed := true }
def AnswerStepsUptoSaid : Prop := answerStepsUptoRow.holds Tryz.pinned (OpenSpec.upto answerStepsSpec)

/-- 'nomenclatorlaw16.ZoneTurns', WHERE WHAT IT READS IS OF BULK AT MOST 1048576: true; the input reads as it did. -/
def zoneTurnsUptoRow : OpenClaim := { program := "ytgencolcibpcaaagreat", sum := "f3925e187c4056ee7fd577b0af837a4fa7dd731ef7f59435951822c151680230", func := "nomenclator/nomenclatorlaw16.ZoneTurns", spec := "zoneTurns", inPlace := ["internal/bytealg.Compare", "internal/bytealg.abigen_runtime_cmpstring"], unfollowed := true, recurses := true, apart := false, narrowed := true }
def ZoneTurnsUptoSaid : Prop := zoneTurnsUptoRow.holds Tryz.pinned (OpenSpec.upto zoneTurnsSpec)

end Rows
end Go.Proofs.YtgencolcibpcaaaGreat
