/- Proved: the law QuestNil returns true, whatever it is given: its run on abstract values, of which the arguments are unknown, is reckoned by the kernel. No conditions. -/
import Derived.Test.YtfgafdbnhccclaaGreatWxU
import Derived.Test.YtfgafdbnhccclaaGreatRows
import Derived.JoinedCond
import Derived.KernelRfl
set_option linter.unusedVariables false
namespace Go.Proofs.YtfgafdbnhccclaaGreat.questNil
open Go.Vm Go.ChangeShapes Go.WideShapes Go.ChangeAt

noncomputable abbrev PP := Tryz.prog
theorem mixed : PP.follows .mixedOrders = true := by kernel_rfl
noncomputable def base : Look := lookOf [(108, true, sameE), (122, true, compareE)]
theorem baseOk : LookOk PP base ∧ LookFr base :=
  lookOf_cons (fun args => same_call (fn := (PP.funcs[108]?).getD default) (by kernel_rfl) (by kernel_rfl) (by kernel_rfl) (by kernel_rfl) (by kernel_rfl) args) (fun args => sameE_framed args) (lookOf_cons (fun args => compare_call (fn := (PP.funcs[122]?).getD default) (by kernel_rfl) (by kernel_rfl) (by kernel_rfl) (by kernel_rfl) (by kernel_rfl) args) (fun args => compareE_framed args) (lookOf_nil))
noncomputable def look : Look := lookN PP base 100000 60
theorem lookOk : LookOk PP look := (lookN_ok baseOk.1 baseOk.2 mixed 100000 60).1
noncomputable def okRun (r : Option (AV × St)) : Bool := match r with | some p => (match p.1 with | .sc v => (match v with | .bool b => b | _ => false) | _ => false) | none => false
noncomputable def unkA : AC Unit := aU (Tryz.f3.params.toList.map (shapeU PP))
noncomputable def runOf (f : Nat) : Option (AV × St) := match look f with | some p => p.2 (unkA.E ()) (stK []) | none => none
set_option maxRecDepth 1000000
theorem runs : okRun (runOf 3) = true := by kernel_rfl
theorem okRun_some {r : Option (AV × St)} (h : okRun r = true) : ∃ st, r = some (.sc (.bool true), st) := by
  unfold okRun at h
  split at h
  · rename_i p
    obtain ⟨a, st⟩ := p
    dsimp only at h
    split at h
    · split at h
      · subst h; exact ⟨st, rfl⟩
      · cases h
    · cases h
  · cases h
theorem law_pure : CallPure PP 3 (unkA.E ()) (.sc (.bool true)) := by
  obtain ⟨st, h⟩ := okRun_some runs
  unfold runOf at h
  cases hp : look 3 with
  | none => rw [hp] at h; cases h
  | some p =>
    rw [hp] at h
    exact callPure_of_run lookOk hp (by kernel_rfl) (r1 codBool) true true h rfl

theorem own : ownKnob PP.godebug = none := by kernel_rfl
theorem undBool : PP.underlying 4 = some .bool := by kernel_rfl
theorem lifted (os : Os) (started : os.Started) (H : Type) (enc : TypeId × Value → H) :
    ReturnsInHanded {} Tryz.checked os 3 .any (Rows.questNilSpec.pre6 enc Tryz.prog Tryz.f3 Rows.questNilRow.domain false) (Rows.questNilSpec.post enc Tryz.prog Tryz.f3 false true false false) := by
  refine returnsInHanded_of_change (C := Tryz.checked) own started (by kernel_rfl) Tryz.func3
    (ChangeSpec.witness6 (enc := enc) (C := Tryz.checked) false ⟨#[], Tryz.f3.params.map fun t => ((PP.info? t).bind (·.zero)).getD undef, []⟩ 8 (by kernel_rfl) (by kernel_rfl) (by kernel_rfl) (by kernel_rfl)) ?_
  intro W base args ds gs before hval hW _ _
  exact law_post (by kernel_rfl) (by kernel_rfl) (slicesFull_at (by kernel_rfl)) (tb := 4) (by kernel_rfl) rfl (by kernel_rfl) undBool (typesIn_at (by kernel_rfl))
    (fun H ds hl => by match ds, (show ds.length = 3 from hl) with | [_, _, _], _ => rfl) (A := unkA) (rdA_unk _) (N := none) (fun _ _ => law_pure) enc W base args ds gs before hval hW (fun n hn => by cases hn)
theorem over : Rows.questNilRow.holds Tryz.pinned (OpenSpec.ofChange Rows.questNilSpec) :=
  OpenClaim.holds_of_wide 3 Tryz.f3 rfl rfl rfl rfl rfl rfl rfl ⟨rfl, rfl, rfl, rfl, rfl⟩ rfl rfl rfl rfl rfl (by kernel_rfl) Tryz.func3 (by kernel_rfl)
    (of_decide_eq_true (by kernel_rfl)) (by unfold Func.isWrapper; first | (rw [if_pos (by decide +kernel)]; kernel_rfl) | (rw [if_neg (by decide +kernel)]; exact ⟨rfl, rfl⟩))
    (fun os started H enc _ => lifted os started H enc)
theorem proved : Rows.QuestNilSaid := over

end Go.Proofs.YtfgafdbnhccclaaGreat.questNil
