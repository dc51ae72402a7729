/- Slots, guards, one operation in its activation. No condition. -/
import Derived.Test.YtnkjblopaagkoaaVmS
import Derived.CallsIn
import Derived.RangeFuncIn
import Derived.RangeFuncLeaves
namespace Go.Vm

/-- The fence of an activation, or of a round. -/
def fence (ro : Option Nat) : Fence := { Fence.wide with round := ro }
theorem fence_fn (ro : Option Nat) (f : FuncId) : (fence ro).fn f := trivial
theorem fence_depth (ro : Option Nat) : (fence ro).depth = none := rfl
theorem fence_round (ro : Option Nat) : (fence ro).round = ro := rfl
theorem callsIn_fence {ro ro' : Option Nat} {n m : Nat} {P : Program} {f : FuncId} {args : Array Value} {w : World} {R : Ending → World → Prop} (h : CallsIn (fence ro) n P f args w R) : CallsIn (fence ro') m P f args w R :=
  ⟨trivial, fun cs _ => h.2 cs (fun d hd => by cases hd)⟩
theorem callsIn_of_calls {ro : Option Nat} {n : Nat} {P : Program} {f : FuncId} {args : Array Value} {w : World} {R : Ending → World → Prop} (h : Calls P f args w R) : CallsIn (fence ro) n P f args w R :=
  callsIn_fence (ro := none) (n := 0) (callsIn_wide.2 h)
theorem calls_of_callsIn {ro : Option Nat} {n : Nat} {P : Program} {f : FuncId} {args : Array Value} {w : World} {R : Ending → World → Prop} (h : CallsIn (fence ro) n P f args w R) : Calls P f args w R :=
  (callsIn_wide (n := 0)).1 (callsIn_fence (ro' := none) h)

theorem relS_eval {g w fr} {a : Act} (h : RelS g w fr a.tmps) : RelF g w fr.eval a.eval := by
  intro x
  cases x with
  | tmp t =>
    simp only [Fr.eval, Act.eval]
    cases hs : fr.slots.get t with
    | none => exact .bad _
    | some v =>
      obtain ⟨u, hu, hr⟩ := h.2 t v hs
      rw [Array.getD_eq_getD_getElem?, hu]
      exact hr
  | const v => exact .sc v
  | global g' => exact .sc _
  | func f => exact .sc _

theorem relS_put {g w fr fr'} {a : Act} {dst : Option Tmp} {v : AV} {u : Value} (h : RelS g w fr a.tmps) (hv : Rel g w v u) (hp : fr.put dst v = some fr') : RelS g w fr' (a.put dst u).tmps := by
  cases dst with
  | none => simp [Fr.put] at hp; subst hp; exact h
  | some d =>
    simp only [Fr.put] at hp
    cases hc : (Nat.blt d fr.nt && Nat.blt d limit) with
    | false => rw [hc] at hp; cases hp
    | true =>
      rw [hc] at hp
      simp at hp hc
      subst hp
      have hd : d < fr.nt := hc.1
      have hl : d < limit := hc.2
      refine ⟨by simp [Act.put, h.1], fun t x hx => ?_⟩
      rw [get_set _ _ _ _ (by omega)] at hx
      simp only [Act.put]
      by_cases e : t = d
      · subst e
        rw [if_pos rfl] at hx; cases hx
        exact ⟨u, by rw [Array.getElem?_setIfInBounds, if_pos rfl, if_pos (by rw [h.1]; exact hd)], hv⟩
      · rw [if_neg e] at hx
        obtain ⟨y, hy, hr⟩ := h.2 t x hx
        exact ⟨y, by rw [Array.getElem?_setIfInBounds, if_neg (by omega)]; exact hy, hr⟩

theorem put_defers (a : Act) (dst : Option Tmp) (v : Value) : (a.put dst v).defers = a.defers := by cases dst <;> rfl

theorem wanted_ok {g w fr} {a : Act} {ops : Array Oper} {o : Oper} {b : Bool} (h : RelS g w fr a.tmps) (hw : awanted ops fr o = some b) : Region.wanted o (yielded ops a.tmps) = b := by
  unfold awanted at hw
  unfold Region.wanted
  cases hg : o.guard with
  | none => rw [hg] at hw; simp at hw; simp [hw]
  | some q =>
    obtain ⟨j, want⟩ := q
    rw [hg] at hw
    simp only at hw ⊢
    unfold yielded
    cases hd : (ops[j]?).bind (·.dst) with
    | none => simp [hd] at hw
    | some d =>
    rw [hd] at hw
    simp only [Option.bind_some] at hw ⊢
    cases hs : fr.slots.get d with
    | none => simp [hs] at hw
    | some v =>
    rw [hs] at hw
    obtain ⟨u, hu, hr⟩ := h.2 d v hs
    rw [hu]
    cases v with
    | sc x =>
      have := hr.exact rfl
      subst this
      simp only [AV.exact] at hw
      cases u <;> simp_all [boolOf]
    | _ => simp [AV.exact] at hw

end Go.Vm
