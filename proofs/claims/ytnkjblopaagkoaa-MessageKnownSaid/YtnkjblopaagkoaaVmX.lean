/- Operations in an activation, calls among them. No condition. -/
import Derived.Test.YtnkjblopaagkoaaVmW
namespace Go.Vm

/-- What an operation comes to in its activation. -/
def OperOk (P : Program) (ro : Option Nat) (N : Nat) (o : Oper) (a : Act) (w : World) (T : Value → World → Prop) : Prop :=
  ∀ (K : Act → World → Prop) (Q : Exit → Act → World → Prop), (∀ v w', T v w' → K (a.put o.dst v) w') → o.wpIn (fence ro) N P a w K Q

theorem not_defer {o : Oper} {c : Call} (h : o.op = .call c) : ∀ d, o.op ≠ .defer d := by intro d e; rw [h] at e; cases e

theorem about_fence (ro : Option Nat) (P : Program) (o : Oper) (a : Act) (w : World) : ∀ f, o.about P w a.eval = some f → (fence ro).fn f := fun _ _ => trivial

/-- An operation that calls nothing. -/
theorem plain_ok {P : Program} {ro : Option Nat} {N : Nat} {o : Oper} {a : Act} {g : Gh} {st st' : St} {w : World} {fr : Fr} {r : AV} (hinv : Inv g st w) (hr : RelS g w fr a.tmps) (h : mono (aop P o fr.eval) st = some (r, st')) :
    OperOk P ro N o a w (fun v w' => ∃ g', Stp g st w g' st' w' ∧ Ok g' st'.h w' ∧ Rel g' w' r v) := by
  obtain ⟨h1, hle⟩ := mono_some h
  have hd : ∀ c, o.op ≠ .defer c := by
    intro c e
    unfold aop at h1
    rw [e] at h1
    cases h1
  obtain ⟨nx, w', g', q1, q2, q3, q4⟩ := aop_ok (P := P) hinv.ok hinv.free (relS_eval hr) h1
  intro K Q hK
  refine ⟨about_fence ro P o a w, ?_⟩
  rw [Oper.semAt_eq _ _ _ hd, q1]
  rcases q4 with ⟨v, rfl, hv⟩ | ⟨rfl, rfl⟩
  · exact hK v w' ⟨g', ⟨hle, q2⟩, q3, hv⟩
  · exact hK undef w' ⟨g', ⟨hle, q2⟩, q3, .sc _⟩

theorem call_run {P : Program} {o : Oper} {f : Operand} {args : Array Operand} {ts : Array TypeId} {ρ : Operand → Value} {h : Nat} {first captured : Array Value} (ho : o.op = .call { callee := .value f, args, argTypes := ts })
    (hf : ρ f = .func (.func h) first captured) (w : World) : (execOp ρ o).run P w = (callFunc h (first ++ args.map ρ ++ captured)).run P w := by
  simp [execOp, ho, resolve, hf, Deferred.ofValue, invoke]

theorem callOk_oper {P : Program} {ro : Option Nat} {N : Nat} {o : Oper} {a : Act} {g : Gh} {st st' : St} {w : World} {r : AV} {c : Call} {h : Nat} {args : List AV} {vs : List Value} {m : M AV} (ho : o.op = .call c) (hinv : Inv g st w)
    (hm : CallOk P h args m) (hrel : RelL g w args vs) (hrun : (execOp a.eval o).run P w = (callFunc h vs.toArray).run P w) (hst : m st = some (r, st')) :
    OperOk P ro N o a w (fun v w' => ∃ g', Stp g st w g' st' w' ∧ Ok g' st'.h w' ∧ Rel g' w' r v) := by
  intro K Q hK
  refine ⟨about_fence ro P o a w, ?_⟩
  rw [Oper.semAt_eq _ _ _ (not_defer ho), hrun]
  rcases hm g st w vs r st' hinv hrel hst with ⟨v, w', g', q1, q2, q3, q4⟩ | ⟨q1, q2⟩
  · rw [q1]; exact hK v w' ⟨g', q2, q3, q4⟩
  · rw [q1]
    refine ⟨(fun h => (by cases h)), (callsIn_of_calls (ro := ro) (n := N - 1) q2).mono ?_⟩
    rintro e w' ⟨v, g', rfl, p2, p3, p4⟩
    exact hK v w' ⟨g', p2, p3, p4⟩

/-- A call of a function value that is no yield. -/
theorem value_call_ok {P : Program} {S : Specs} {self : Code → Fr → M (Ex × Fr)} (hself : SelfOk P self) (hS : SpecsOk P S) {ro : Option Nat} {N : Nat} {o : Oper} {a : Act} {g : Gh} {st st' : St} {w : World} {fr : Fr} {r : AV}
    {f : Operand} {args : Array Operand} {ts : Array TypeId} (ho : o.op = .call { callee := .value f, args, argTypes := ts }) (hinv : Inv g st w) (hr : RelS g w fr a.tmps) {h : Nat} {first captured : List AV} {va vb : Array Value}
    (hfv : a.eval f = .func (.func h) va vb) (h1 : RelL g w first va.toList) (h2 : RelL g w captured vb.toList) (hst : acall P S self h (first ++ args.toList.map fr.eval ++ captured) st = some (r, st')) :
    OperOk P ro N o a w (fun v w' => ∃ g', Stp g st w g' st' w' ∧ Ok g' st'.h w' ∧ Rel g' w' r v) := by
  have hrel := (h1.append ((relS_eval hr).list args.toList)).append h2
  refine callOk_oper (vs := va.toList ++ args.toList.map a.eval ++ vb.toList) ho hinv (acall_ok hself hS h _) hrel ?_ hst
  rw [call_run ho hfv]
  congr 2
  apply Array.ext'
  simp

end Go.Vm
