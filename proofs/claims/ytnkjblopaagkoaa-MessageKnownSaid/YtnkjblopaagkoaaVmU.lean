/- What holds of an activation; steps of states; arguments and results. No condition. -/
import Derived.Test.YtnkjblopaagkoaaVmT
namespace Go.Vm

structure Inv (g : Gh) (st : St) (w : World) : Prop where
  ok : Ok g st.h w
  fresh : ∀ o, st.nx ≤ o → g.inj o = none
structure Stp (g : Gh) (st : St) (w : World) (g' : Gh) (st' : St) (w' : World) : Prop where
  le : st.nx ≤ st'.nx
  step : Step g st.h w st.nx st'.nx g' st'.h w'

theorem Inv.free {g st st' w} (h : Inv g st w) : Free g st st' := fun o h1 _ => h.fresh o h1
theorem Stp.refl (g st w) : Stp g st w g st w := ⟨Nat.le_refl _, .refl _ _ _ _ _⟩
theorem Stp.trans {g st w g' st' w' g'' st'' w''} (s : Stp g st w g' st' w') (t : Stp g' st' w' g'' st'' w'') : Stp g st w g'' st'' w'' :=
  ⟨Nat.le_trans s.le t.le, s.step.trans t.step s.le t.le⟩
theorem Stp.inv {g st w g' st' w'} (s : Stp g st w g' st' w') (hi : Inv g st w) (hok : Ok g' st'.h w') : Inv g' st' w' :=
  ⟨hok, fun o ho => s.step.fresh o (hi.fresh o (Nat.le_trans s.le ho)) (by omega)⟩
/-- States that differ only in their logs. -/
theorem Inv.logs {g w} {st st' : St} (hh : st'.h = st.h) (hn : st'.nx = st.nx) (h : Inv g st w) : Inv g st' w :=
  ⟨by rw [hh]; exact h.ok, fun o ho => h.fresh o (by omega)⟩
theorem Stp.logs {g w g' w'} {s t s' t' : St} (h1 : s'.h = s.h) (h2 : s'.nx = s.nx) (h3 : t'.h = t.h) (h4 : t'.nx = t.nx) (h : Stp g s w g' t w') : Stp g s' w g' t' w' :=
  ⟨by rw [h2, h4]; exact h.le, by rw [h1, h2, h3, h4]; exact h.step⟩

theorem mono_some {α : Type} {m : M α} {s : St} {r : α × St} (h : mono m s = some r) : m s = some r ∧ s.nx ≤ r.2.nx := by
  unfold mono at h
  cases hm : m s with
  | none => rw [hm] at h; cases h
  | some p =>
    obtain ⟨a, s'⟩ := p
    rw [hm] at h
    simp only at h
    cases hb : Nat.ble s.nx s'.nx with
    | false => rw [hb] at h; cases h
    | true => rw [hb] at h; cases h; exact ⟨rfl, Nat.le_of_ble_eq_true hb⟩

/-! ### Arguments -/
theorem fillArgs_get : ∀ (args : List AV) (i : Nat) (t : Tr AV), i + args.length ≤ limit + 1 → ∀ j, (fillArgs args i t).get j = if i ≤ j ∧ j < i + args.length then args[j - i]? else t.get j := by
  intro args
  induction args with
  | nil => intro i t _ j; simp only [fillArgs, List.length_nil, Nat.add_zero]; rw [if_neg (by omega)]
  | cons a args ih =>
    intro i t hl j
    simp only [List.length_cons] at hl
    simp only [fillArgs, List.length_cons]
    rw [ih (i + 1) _ (by omega) j, get_set _ _ _ _ (by omega)]
    by_cases h1 : i + 1 ≤ j ∧ j < i + 1 + args.length
    · rw [if_pos h1, if_pos (by omega), show j - i = (j - (i + 1)) + 1 from by omega, List.getElem?_cons_succ]
    · rw [if_neg h1]
      by_cases h2 : j = i
      · subst h2; rw [if_pos rfl, if_pos (by omega)]; simp
      · rw [if_neg h2, if_neg (by omega)]

theorem relS_args {g w} {args : List AV} {vs : List Value} {nt : Nat} (h : RelL g w args vs) (h1 : args.length ≤ nt) (h2 : nt ≤ limit) :
    RelS g w { slots := fillArgs args 0 .nil, nt } (vs.toArray ++ Array.replicate (nt - vs.toArray.size) undef) := by
  have hl := h.1
  refine ⟨by simp; omega, fun t a ha => ?_⟩
  rw [fillArgs_get _ _ _ (by omega)] at ha
  by_cases ht : 0 ≤ t ∧ t < 0 + args.length
  · rw [if_pos ht, Nat.sub_zero] at ha
    obtain ⟨v, hv, hr⟩ := h.get ha
    refine ⟨v, ?_, hr⟩
    rw [Array.getElem?_append_left (by simp; omega)]
    simpa using hv
  · rw [if_neg ht] at ha; cases ha

/-! ### Results -/
theorem loadVar_of {P : Program} {g st st' w t a v r ad} (hok : Ok g st.h w) (ha : Rel g w a v) (h : opLoad P t a st = some (r, st')) (hv : v = .pointer (some ad)) : ∃ u, (loadVar t ad).run P w = .ok u w ∧ Rel g w r u := by
  unfold opLoad at h
  cases ha with
  | ptr o off b base hi =>
    cases hv
    obtain ⟨x, s1, hx, h⟩ := bind_some h
    obtain ⟨hx, hh, hn⟩ := hget_some hx
    obtain ⟨b', base', hi', _, hrel⟩ := hok.obj o x hx
    rw [hi] at hi'; cases hi'
    cases x with
    | row cells k s et =>
      obtain ⟨hof, _⟩ := of_some h
      obtain ⟨cs, fr, h1, h2, h3, _⟩ := hrel
      exact loadVar_ok (P := P) (g := g) (w := w) (b := b) (off := base + off) (fun j a hj => by
        rw [List.getElem?_drop] at hj
        obtain ⟨c, hc, hr⟩ := h3 _ a hj
        exact ⟨c, by rw [cell_eq h1, Nat.add_assoc]; exact hc, hr⟩) hof
    | map es => cases h
    | loop => cases h
  | cptr l b off c hc hr =>
    cases hv
    obtain ⟨hof, e⟩ := of_some h
    exact loadVar_ok (P := P) (fun j a hj => ⟨c j, (hc j a hj).2, hr j a hj⟩) hof
  | _ => exact (fail_some h).elim

def resultSem (tmps : Array Value) (r : ResultVar) : Sem Value :=
  match r with
  | .tmp t => pure (tmps.getD t undef)
  | .cell a t => do loadVar t (← asAddr (tmps.getD a undef))
theorem results_eq (fn : Func) (tmps : Array Value) : results fn tmps = (do
    let vs ← fn.results.mapM (resultSem tmps)
    pure (if h : vs.size = 1 then vs[0] else .tuple vs)) := rfl

/-- Results: read only. -/
theorem aresults_ok {P : Program} {g w} {fr : Fr} {tmps : Array Value} (hs : RelS g w fr tmps) : ∀ (rs : List ResultVar) (st st' : St) (l : List AV), Ok g st.h w → aresults P fr rs st = some (l, st') →
    st'.h = st.h ∧ st'.nx = st.nx ∧ ∃ vs, (rs.mapM (resultSem tmps)).run P w = .ok vs w ∧ RelL g w l vs := by
  have hev : ∀ t, Rel g w ((fr.slots.get t).getD .bad) (tmps.getD t undef) := by
    intro t
    have := relS_eval (a := { tmps := tmps, defers := [] }) hs (.tmp t)
    exact this
  intro rs
  induction rs with
  | nil =>
    intro st st' l hok h
    obtain ⟨rfl, rfl⟩ := pure_some h
    exact ⟨rfl, rfl, [], by simp, RelL.nil _ _⟩
  | cons r rs ih =>
    intro st st' l hok h
    simp only [aresults] at h
    obtain ⟨a, s1, h1, h2⟩ := bind_some h
    obtain ⟨azs, s2, h3, h4⟩ := bind_some h2
    obtain ⟨rfl, rfl⟩ := pure_some h4
    have one : s1.h = st.h ∧ s1.nx = st.nx ∧ ∃ v, (resultSem tmps r).run P w = .ok v w ∧ Rel g w a v := by
      cases r with
      | tmp t =>
        obtain ⟨rfl, rfl⟩ := pure_some h1
        exact ⟨rfl, rfl, _, rfl, hev t⟩
      | cell c t =>
        have hl := opLoad_ok (P := P) hok (hev c) h1
        have hptr : ∃ ad, tmps.getD c undef = .pointer (some ad) := by
          have := hev c
          simp only [aresult] at h1
          generalize (fr.slots.get c).getD .bad = x at this h1
          generalize tmps.getD c undef = v at this
          cases this <;> first | exact ⟨_, rfl⟩ | cases h1
        obtain ⟨ad, had⟩ := hptr
        have hst : s1.h = st.h ∧ s1.nx = st.nx := by
          simp only [aresult] at h1
          generalize (fr.slots.get c).getD .bad = x at h1
          unfold opLoad at h1
          cases x with
          | ptr id off =>
            obtain ⟨y, s3, h5, h6⟩ := bind_some h1
            obtain ⟨_, h7, h8⟩ := hget_some h5
            cases y with
            | row cells k s et =>
              obtain ⟨_, h9⟩ := of_some h6
              rw [h9]; exact ⟨h7, h8⟩
            | _ => cases h6
          | cptr l =>
            obtain ⟨_, h9⟩ := of_some h1
            rw [h9]; exact ⟨rfl, rfl⟩
          | _ => cases h1
        obtain ⟨v, w', g', q1, q2, q3, q4⟩ := hl
        refine ⟨hst.1, hst.2, ?_⟩
        have hld := loadVar_of (P := P) hok (hev c) h1 had
        obtain ⟨v', q5, q6⟩ := hld
        exact ⟨v', by simp [resultSem, had, asAddr, q5], q6⟩
    obtain ⟨o1, o2, v, o3, o4⟩ := one
    obtain ⟨i1, i2, vs, i3, i4⟩ := ih s1 st' azs (by rw [o1]; exact hok) h3
    refine ⟨i1.trans o1, i2.trans o2, v :: vs, ?_, RelL.cons o4 i4⟩
    simp only [List.mapM_cons, Sem.run_bind, o3, Result.andThen_ok, i3]
    rfl

end Go.Vm
