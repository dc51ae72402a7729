/- Calls. No condition. -/
import Derived.Test.YtnkjblopaagkoaaVmV
namespace Go.Vm

def exitOf : Ex → Exit
  | .normal => .normal
  | .exit id => .exit id
  | .ret => .ret
def Post (n0 : Nat) (g : Gh) (st : St) (w : World) (e : Ex) (fr' : Fr) (st' : St) : Exit → Act → World → Prop := fun ex a' w' =>
  ex = exitOf e ∧ ∃ g', Stp g st w g' st' w' ∧ Ok g' st'.h w' ∧ RelS g' w' fr' a'.tmps ∧ Marks [] n0 st'.h g' w' a'.defers
def InLoop (ro : Option Nat) (w : World) : Prop := ∀ l, ro = some l → ∃ L, w.heap[l]? = some (.loop L)
theorem InLoop.ext {ro g w g' w'} (hx : Ext g w g' w') (h : InLoop ro w) : InLoop ro w' := fun l hl => let ⟨L, hL⟩ := h l hl; hx.lp l L hL
theorem InLoop.none (w : World) : InLoop none w := fun l hl => by cases hl

def SelfOk (P : Program) (self : Code → Fr → M (Ex × Fr)) : Prop :=
  ∀ (c : Code) (ro : Option Nat) (g : Gh) (st : St) (w : World) (a : Act) (fr : Fr) (e : Ex) (fr' : Fr) (st' : St) (n0 N : Nat), Inv g st w → RelS g w fr a.tmps → Marks [] n0 st.h g w a.defers → InLoop ro w → n0 ≤ w.heap.size →
    self c fr st = some ((e, fr'), st') → c.wpIn (fence ro) N P (Post n0 g st w e fr' st') a w

/-- What a call computes, and what is known of it. -/
def CallOk (P : Program) (f : Nat) (args : List AV) (m : M AV) : Prop :=
  ∀ (g : Gh) (st : St) (w : World) (vs : List Value) (r : AV) (st' : St), Inv g st w → RelL g w args vs → m st = some (r, st') →
    (∃ v w' g', (callFunc f vs.toArray).run P w = .ok (.value v) w' ∧ Stp g st w g' st' w' ∧ Ok g' st'.h w' ∧ Rel g' w' r v) ∨
    ((callFunc f vs.toArray).run P w = .ok (.enter f vs.toArray) w ∧
      Calls P f vs.toArray w (fun e w' => ∃ v g', e = .returned v ∧ Stp g st w g' st' w' ∧ Ok g' st'.h w' ∧ Rel g' w' r v))
def SpecsOk (P : Program) (S : Specs) : Prop := ∀ f args m, S f args = some m → CallOk P f args (mono m)

theorem relL_exact {g w} : ∀ {args : List AV} {vs us : List Value}, RelL g w args vs → AV.toV.toVs args = some us → vs = us := by
  intro args vs us h hu
  obtain ⟨h1, h2⟩ := toVs_get args us hu
  refine list_of_get (by rw [h.1, h1]) fun i v hv => ?_
  have hi : i < args.length := by rw [← h.1]; exact (List.getElem?_eq_some_iff.1 hv).1
  obtain ⟨x, hx, hx'⟩ := h2 i args[i] (List.getElem?_eq_getElem hi)
  rw [hx', (h.2 i args[i] v (List.getElem?_eq_getElem hi) hv).exact hx]

theorem entered_ok {P : Program} {f : Nat} (h : entered P f = true) (args : Array Value) (w : World) : (callFunc f args).run P w = .ok (.enter f args) w := by
  unfold entered at h
  cases hf : P.funcs[f]? with
  | none => rw [hf] at h; cases h
  | some fn =>
    rw [hf] at h
    simp only [Bool.and_eq_true, Bool.not_eq_true'] at h
    obtain ⟨h1, h2⟩ := h
    have hb : ¬ fn.body = none := by intro e; rw [e] at h1; cases h1
    have hn : ¬ fn.name = "runtime.NumGoroutine" := by simpa using h2
    simp [callFunc, program, Sem.run, hf, hn, hb]

theorem ended_ok {P : Program} {g0 w0} {g : Gh} {st st' st0 : St} {w : World} {fn : Func} {e : Ex} {fr : Fr} {a : Act} {r : AV} {N : Nat} {ex : Exit}
    (hok0 : Ok g0 st0.h w0) (he : ex = exitOf e) (hs : Step g0 st0.h w0 st0.nx st.nx g st.h w) (hle : st0.nx ≤ st.nx) (hok : Ok g st.h w) (hr : RelS g w fr a.tmps) (hm : Marks [] w0.heap.size st.h g w a.defers)
    (h : ended P fn (e, fr) st = some (r, st')) :
    bodyPostM (fence none) N P fn (fun e w' => ∃ v g', e = .returned v ∧ Stp g0 st0 w0 g' st' w' ∧ Ok g' st'.h w' ∧ Rel g' w' r v) ex a w := by
  have fin : (aresults P fr fn.results.toList).bind (fun vs => M.pure (pack vs)) st = some (r, st') →
      LeavesInM (fence none) N P fn a.tmps (fun e w' => ∃ v g', e = .returned v ∧ Stp g0 st0 w0 g' st' w' ∧ Ok g' st'.h w' ∧ Rel g' w' r v) a.defers .returning w := by
    intro h
    obtain ⟨l, s1, h1, h2⟩ := bind_some h
    obtain ⟨rfl, rfl⟩ := pure_some h2
    obtain ⟨bs, hbs, hnd, hall⟩ := hm
    rw [hbs, List.append_nil]
    refine leaves_marks (fr := fr) hok0 (fun w' hok' hs' hr' => ?_) bs w hok hs hr hnd hall
    obtain ⟨q1, q2, vs, q3, q4⟩ := aresults_ok (P := P) hr' fn.results.toList st st' l hok' h1
    have hv : ∃ v, (results fn a.tmps).run P w' = .ok v w' ∧ Rel g w' (pack l) v := by
      have hmap : (fn.results.mapM (resultSem a.tmps)).run P w' = .ok vs.toArray w' := by
        rw [Array.mapM_eq_mapM_toList]
        simp [q3]
      rw [results_eq]
      simp only [Sem.run_bind, hmap, Result.andThen_ok, Sem.run_pure]
      refine ⟨_, rfl, ?_⟩
      have hlen := q4.1
      match l, vs, q4 with
      | [a1], [v1], q4 => simpa [pack] using q4.head
      | [], [], q4 => simp [pack]; exact .tup _ _ rfl (fun i a v h _ => by simp at h)
      | a1 :: a2 :: l, v1 :: v2 :: vs, q4 =>
        simp [pack]
        exact .tup _ _ (by have := q4.1; simp at this ⊢; omega) (fun i a v h1 h2 => q4.2 i a v h1 (by simpa using h2))
      | [], v :: vs, q4 => have := q4.1; simp at this
      | a :: l, [], q4 => have := q4.1; simp at this
      | [a1], v1 :: v2 :: vs, q4 => have := q4.1; simp at this
      | a1 :: a2 :: l, [v1], q4 => have := q4.1; simp at this
    obtain ⟨v, hv1, hv2⟩ := hv
    exact ⟨v, hv1, v, g, rfl, ⟨by omega, by rw [q1, q2]; exact hs'⟩, by rw [q1]; exact hok', hv2⟩
  subst he
  cases e with
  | normal => exact fin h
  | ret => exact fin h
  | exit id => cases h

theorem acall_ok {P : Program} {S : Specs} {self : Code → Fr → M (Ex × Fr)} (hself : SelfOk P self) (hS : SpecsOk P S) (f : Nat) (args : List AV) : CallOk P f args (acall P S self f args) := by
  intro g st w vs r st' hinv hrel h
  unfold acall at h
  cases hs : S f args with
  | some m =>
    rw [hs] at h
    exact hS f args m hs g st w vs r st' hinv hrel h
  | none =>
    rw [hs] at h
    simp only at h
    rcases cond_some h with ⟨he, h1⟩ | ⟨_, h1⟩
    · refine .inr ⟨entered_ok he _ _, ?_⟩
      unfold abodyOf at h1
      cases hf : P.funcs[f]? with
      | none => simp [hf, M.fail] at h1
      | some fn =>
      rw [hf] at h1
      cases hb : fn.body with
      | none => simp [hb, M.fail] at h1
      | some body =>
      simp only [hb] at h1
      unfold acallF at h1
      rcases cond_some h1 with ⟨hc, h2⟩ | ⟨_, h2⟩
      case inr => cases h2
      simp only [Bool.and_eq_true] at hc
      have c1 := Nat.le_of_ble_eq_true hc.1
      have c2 := Nat.le_of_ble_eq_true hc.2
      obtain ⟨⟨e, fr'⟩, s1, h3, h4⟩ := bind_some h2
      refine calls_of_callsIn (ro := none) (n := 0) ?_
      refine callsIn_of_wp_marks hf hb trivial ?_
      have hrun := hself body none g st w { tmps := vs.toArray ++ Array.replicate (fn.ntmps - vs.toArray.size) undef, defers := [] } { slots := fillArgs args 0 .nil, nt := fn.ntmps } e fr' s1 w.heap.size 0 hinv (relS_args hrel c1 c2) (Marks.nil _ _ _ _) (InLoop.none w) (Nat.le_refl _) h3
      refine wpIn_mono hrun ?_
      intro ex a' w' ⟨q1, g', q2, q3, q4, q5⟩
      have := ended_ok (P := P) (N := 0) (st0 := st) hinv.ok q1 q2.step q2.le q3 q4 q5 h4
      exact this
    · refine .inl ?_
      unfold aextern at h1
      cases hu : AV.toV.toVs args with
      | none => simp [hu, M.fail] at h1
      | some us =>
      rw [hu] at h1
      have := relL_exact hrel hu
      subst this
      obtain ⟨h2, rfl⟩ := of_some h1
      cases hev : ev P (callFunc f vs.toArray) with
      | none => rw [hev] at h2; cases h2
      | some nx =>
      rw [hev] at h2
      cases nx <;> simp [valueOf] at h2
      rename_i v
      subst h2
      exact ⟨v, w, g, ev_ok _ _ w hev, .refl _ _ _, hinv.ok, .sc v⟩

end Go.Vm
