/-
  No cell of these rows narrows 'for every input' (looked for: loops, veiled, ifaces, maps, wideKeys, modest, calm, conditions, laid).
  DERIVED. THE GIVEN ROWS OF THIS SEAT. 5 by the template 'for every input the law returns true; each argument reads behind the call as it read before'; 0 by the template 'total and deterministic' (their statements: YtajammoepjpiiaaGreatTotals.lean).
  GIVEN WITH THE SEED: the statements are not yours to turn. If you find one false, say at which input.
  Laid BY PROGRAM, IN A SANDBOX (cutbox-rows.mjs): the forced cells as the released guide's own fill.sh prints them over the translation 6ec45a81c554864e… (all of the seat's roots in one cut). By AI agents, Wed Nov 11 2026. No macro, syntax, notation, axiom, sorry.
-/
import Derived.Test.YtajammoepjpiiaaGreatChecked
import GoSem.Claim
import GoSem.ClaimJoined
import GoSem.ClaimMapViews
import Derived.JoinedTies
import Derived.KernelRfl
namespace Go.Proofs.YtajammoepjpiiaaGreat
/- THE CELL 'sum', in the pinned program and in every row, IS THE sha256 OF THE DUMP (.gsa) THAT YtajammoepjpiiaaGreatProg.lean LOADS. Nothing in Lean hashes anything: it is a label: what it is worth is what the hold of that sum in a sandbox is worth. -/
noncomputable def Tryz.pinned : Pinned := { name := "ytajammoepjpiiaagreat", sum := "6ec45a81c554864ed0c49434f706d6e79c4b200c1289b68f98798dfc08e264ca", checked := Tryz.checked }
namespace Rows
def none {H : Type} : Left H := { results := [], args := [] }

/-- 'nomenclatorlaw18.AnswerAdds': WHATEVER THE INPUT: true; the input reads as it did. -/
def answerAddsSpec : ChangeSpec := { name := "answerAdds", fn := fun _ => fun
  | [d1, d2, d3] => { results := [.lit (.bool true)], args := [d1, d2, d3] }
  | _ => none }
def answerAddsRow : OpenClaim := { program := "ytajammoepjpiiaagreat", sum := "6ec45a81c554864ed0c49434f706d6e79c4b200c1289b68f98798dfc08e264ca", func := "nomenclator/nomenclatorlaw18.AnswerAdds", spec := "answerAdds", inPlace := ["internal/abi.NoEscape", "internal/bytealg.Compare", "internal/bytealg.abigen_runtime_cmpstring"], unfollowed := true, recurses := true, plainKeys := false, apart := false }
def AnswerAddsSaid : Prop := answerAddsRow.holds Tryz.pinned (OpenSpec.ofChange answerAddsSpec)

/-- ITS FALSE NEIGHBOUR: 'it returns false'. Refute it at one input. -/
def answerAddsWrong : ChangeSpec := { name := "answerAdds", fn := fun _ => fun
  | [d1, d2, d3] => { results := [.lit (.bool false)], args := [d1, d2, d3] }
  | _ => none }
def AnswerAddsWrongFalsely : Prop := answerAddsRow.holds Tryz.pinned (OpenSpec.ofChange answerAddsWrong)

/-- 'nomenclatorlaw20.WorldTree': WHATEVER THE INPUT: true; the input reads as it did. -/
def worldTreeSpec : ChangeSpec := { name := "worldTree", fn := fun _ => fun
  | [d1, d2] => { results := [.lit (.bool true)], args := [d1, d2] }
  | _ => none }
def worldTreeRow : OpenClaim := { program := "ytajammoepjpiiaagreat", sum := "6ec45a81c554864ed0c49434f706d6e79c4b200c1289b68f98798dfc08e264ca", func := "nomenclator/nomenclatorlaw20.WorldTree", spec := "worldTree", inPlace := ["internal/abi.NoEscape", "internal/bytealg.Compare", "internal/bytealg.abigen_runtime_cmpstring"], unfollowed := true, recurses := true, plainKeys := false, apart := false }
def WorldTreeSaid : Prop := worldTreeRow.holds Tryz.pinned (OpenSpec.ofChange worldTreeSpec)

/-- ITS FALSE NEIGHBOUR: 'it returns false'. Refute it at one input. -/
def worldTreeWrong : ChangeSpec := { name := "worldTree", fn := fun _ => fun
  | [d1, d2] => { results := [.lit (.bool false)], args := [d1, d2] }
  | _ => none }
def WorldTreeWrongFalsely : Prop := worldTreeRow.holds Tryz.pinned (OpenSpec.ofChange worldTreeWrong)

/-- 'nomenclatorlaw20.WorldOwns': WHATEVER THE INPUT: true; the input reads as it did. -/
def worldOwnsSpec : ChangeSpec := { name := "worldOwns", fn := fun _ => fun
  | [d1, d2, d3] => { results := [.lit (.bool true)], args := [d1, d2, d3] }
  | _ => none }
def worldOwnsRow : OpenClaim := { program := "ytajammoepjpiiaagreat", sum := "6ec45a81c554864ed0c49434f706d6e79c4b200c1289b68f98798dfc08e264ca", func := "nomenclator/nomenclatorlaw20.WorldOwns", spec := "worldOwns", inPlace := ["internal/abi.NoEscape", "internal/bytealg.Compare", "internal/bytealg.abigen_runtime_cmpstring"], unfollowed := true, recurses := true, plainKeys := false, apart := false }
def WorldOwnsSaid : Prop := worldOwnsRow.holds Tryz.pinned (OpenSpec.ofChange worldOwnsSpec)

/-- ITS FALSE NEIGHBOUR: 'it returns false'. Refute it at one input. -/
def worldOwnsWrong : ChangeSpec := { name := "worldOwns", fn := fun _ => fun
  | [d1, d2, d3] => { results := [.lit (.bool false)], args := [d1, d2, d3] }
  | _ => none }
def WorldOwnsWrongFalsely : Prop := worldOwnsRow.holds Tryz.pinned (OpenSpec.ofChange worldOwnsWrong)

/-- 'nomenclatorlaw21.LookupHolds': WHATEVER THE INPUT: true; the input reads as it did. -/
def lookupHoldsSpec : ChangeSpec := { name := "lookupHolds", fn := fun _ => fun
  | [d1, d2, d3] => { results := [.lit (.bool true)], args := [d1, d2, d3] }
  | _ => none }
def lookupHoldsRow : OpenClaim := { program := "ytajammoepjpiiaagreat", sum := "6ec45a81c554864ed0c49434f706d6e79c4b200c1289b68f98798dfc08e264ca", func := "nomenclator/nomenclatorlaw21.LookupHolds", spec := "lookupHolds", inPlace := ["internal/abi.NoEscape", "internal/bytealg.Compare", "internal/bytealg.abigen_runtime_cmpstring"], unfollowed := true, recurses := true, plainKeys := false, apart := false }
def LookupHoldsSaid : Prop := lookupHoldsRow.holds Tryz.pinned (OpenSpec.ofChange lookupHoldsSpec)

/-- ITS FALSE NEIGHBOUR: 'it returns false'. Refute it at one input. -/
def lookupHoldsWrong : ChangeSpec := { name := "lookupHolds", fn := fun _ => fun
  | [d1, d2, d3] => { results := [.lit (.bool false)], args := [d1, d2, d3] }
  | _ => none }
def LookupHoldsWrongFalsely : Prop := lookupHoldsRow.holds Tryz.pinned (OpenSpec.ofChange lookupHoldsWrong)

/-- 'nomenclatorlaw21.LookupHosts': WHATEVER THE INPUT: true; the input reads as it did. -/
def lookupHostsSpec : ChangeSpec := { name := "lookupHosts", fn := fun _ => fun
  | [d1, d2, d3, d4] => { results := [.lit (.bool true)], args := [d1, d2, d3, d4] }
  | _ => none }
def lookupHostsRow : OpenClaim := { program := "ytajammoepjpiiaagreat", sum := "6ec45a81c554864ed0c49434f706d6e79c4b200c1289b68f98798dfc08e264ca", func := "nomenclator/nomenclatorlaw21.LookupHosts", spec := "lookupHosts", inPlace := ["internal/abi.NoEscape", "internal/bytealg.Compare", "internal/bytealg.abigen_runtime_cmpstring"], unfollowed := true, recurses := true, plainKeys := false, apart := false }
def LookupHostsSaid : Prop := lookupHostsRow.holds Tryz.pinned (OpenSpec.ofChange lookupHostsSpec)

/-- ITS FALSE NEIGHBOUR: 'it returns false'. Refute it at one input. -/
def lookupHostsWrong : ChangeSpec := { name := "lookupHosts", fn := fun _ => fun
  | [d1, d2, d3, d4] => { results := [.lit (.bool false)], args := [d1, d2, d3, d4] }
  | _ => none }
def LookupHostsWrongFalsely : Prop := lookupHostsRow.holds Tryz.pinned (OpenSpec.ofChange lookupHostsWrong)

/- THE SECOND FORM. 'bulk': how many values and letters a reading holds, each counted each time it is reached (what is shared counts as often as it is met; a slice's spare places count too). A statement '..UptoSaid' is the law's where the arguments, and the package variables that the reading takes, are together of bulk at most 1048576: NARROWER than '..Said'. Prove '..Said' where nothing that the law and all that it calls make is longer than what came in: it says more and counts as full. Else prove '..UptoSaid'. A law counts once. -/
mutual
def uptoBulk {H : Type} : DataW H → Nat
  | .lit (.string bytes) => bytes.length + 1
  | .lit _ => 1
  | .nil => 1
  | .ptr d => uptoBulk d + 1
  | .slice elems spare => uptoBulkAll elems + uptoBulkAll spare + 1
  | .agg parts => uptoBulkAll parts + 1
  | .iface _ d => uptoBulk d + 1
  | .map entries => uptoBulkEntries entries + 1
  | .held _ => 1
def uptoBulkAll {H : Type} : List (DataW H) → Nat
  | [] => 0
  | d :: r => uptoBulk d + uptoBulkAll r
def uptoBulkEntries {H : Type} : List (Lit × DataW H) → Nat
  | [] => 0
  | x :: r => uptoBulkEntry x + uptoBulkEntries r
def uptoBulkEntry {H : Type} : Lit × DataW H → Nat
  | (.string bytes, d) => bytes.length + uptoBulk d + 1
  | (_, d) => uptoBulk d + 1
 end
def uptoSmall : (H : Type) → List (DataW H) → Bool := fun _ ds => decide (uptoBulkAll ds ≤ 1048576)
def OpenSpec.upto (s : _root_.Go.ChangeSpec) : _root_.Go.OpenSpec := { _root_.Go.OpenSpec.ofChange s with cond := some uptoSmall }

/-- 'nomenclatorlaw18.AnswerAdds', WHERE WHAT IT READS IS OF BULK AT MOST 1048576: true; the input reads as it did. -/
def answerAddsUptoRow : OpenClaim := { program := "ytajammoepjpiiaagreat", sum := "6ec45a81c554864ed0c49434f706d6e79c4b200c1289b68f98798dfc08e264ca", func := "nomenclator/nomenclatorlaw18.AnswerAdds", spec := "answerAdds", inPlace := ["internal/abi.NoEscape", "internal/bytealg.Compare", "internal/bytealg.abigen_runtime_cmpstring"], unfollowed := true, recurses := true, plainKeys := false, apart := false, narrowed := true }
def AnswerAddsUptoSaid : Prop := answerAddsUptoRow.holds Tryz.pinned (OpenSpec.upto answerAddsSpec)

/-- 'nomenclatorlaw20.WorldTree', WHERE WHAT IT READS IS OF BULK AT MOST 1048576: true; the input reads as it did. -/
def worldTreeUptoRow : OpenClaim := { program := "ytajammoepjpiiaagreat", sum := "6ec45a81c554864ed0c49434f706d6e79c4b200c1289b68f98798dfc08e264ca", func := "nomenclator/nomenclatorlaw20.WorldTree", spec := "worldTree", inPlace := ["internal/abi.NoEscape", "internal/bytealg.Compare", "internal/bytealg.abigen_runtime_cmpstring"], unfollowed := true, recurses := true, plainKeys := false, apart := false, narrowed := true }
def WorldTreeUptoSaid : Prop := worldTreeUptoRow.holds Tryz.pinned (OpenSpec.upto worldTreeSpec)

/-- 'nomenclatorlaw20.WorldOwns', WHERE WHAT IT READS IS OF BULK AT MOST 1048576: true; the input reads as it did. -/
def worldOwnsUptoRow : OpenClaim := { program := "ytajammoepjpiiaagreat", sum := "6ec45a81c554864ed0c49434f706d6e79c4b200c1289b68f98798dfc08e264ca", func := "nomenclator/nomenclatorlaw20.WorldOwns", spec := "worldOwns", inPlace := ["internal/abi.NoEscape", "internal/bytealg.Compare", "internal/bytealg.abigen_runtime_cmpstring"], unfollowed := true, recurses := true, plainKeys := false, apart := false, narrowed := true }
def WorldOwnsUptoSaid : Prop := worldOwnsUptoRow.holds Tryz.pinned (OpenSpec.upto worldOwnsSpec)

/-- 'nomenclatorlaw21.LookupHolds', WHERE WHAT IT READS IS OF BULK AT MOST 1048576: true; the input reads as it did. -/
def lookupHoldsUptoRow : OpenClaim := { program := "ytajammoepjpiiaagreat", sum := "6ec45a81c554864ed0c49434f706d6e79c4b200c1289b68f98798dfc08e264ca", func := "nomenclator/nomenclatorlaw21.LookupHolds", spec := "lookupHolds", inPlace := ["internal/abi.NoEscape", "internal/bytealg.Compare", "internal/bytealg.abigen_runtime_cmpstring"], unfollowed := true, recurses := true, plainKeys := false, apart := false, narrowed := true }
def LookupHoldsUptoSaid : Prop := lookupHoldsUptoRow.holds Tryz.pinned (OpenSpec.upto lookupHoldsSpec)

/-- 'nomenclatorlaw21.LookupHosts', WHERE WHAT IT READS IS OF BULK AT MOST 1048576: true; the input reads as it did. -/
def lookupHostsUptoRow : OpenClaim := { program := "ytajammoepjpiiaagreat", sum := "6ec45a81c554864ed0c49434f706d6e79c4b200c1289b68f98798dfc08e264ca", func := "nomenclator/nomenclatorlaw21.LookupHosts", spec := "lookupHosts", inPlace := ["internal/abi.NoEscape", "internal/bytealg.Compare", "internal/bytealg.abigen_runtime_cmpstring"], unfollowed := true, recurses := true, plainKeys := false, apart := false, narrowed := true }
def LookupHostsUptoSaid : Prop := lookupHostsUptoRow.holds Tryz.pinned (OpenSpec.upto lookupHostsSpec)

end Rows
end Go.Proofs.YtajammoepjpiiaaGreat
