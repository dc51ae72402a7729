/- Runs on abstract values: functions, calls of calls. No condition. -/
import Derived.Test.YtnkjblopaagkoaaWxN
namespace Go.Vm
noncomputable section

structure XF where
  run : Look → Nat → List AV → M AV
def resX (P : Program) (L : SL) (rs : List ResultVar) : M (List AV) :=
  List.rec (motive := fun _ => M (List AV)) (M.pure []) (fun r _ ih =>
    match r with
    | .tmp t => ih.bind fun l => M.pure (lk L t :: l)
    | .cell a t => (opLoad P t (lk L a)).bind fun v => ih.bind fun l => M.pure (v :: l)) rs
def finX (P : Program) (fn : Func) (p : Ex × SL) : M AV :=
  match p.1 with
  | .exit _ => M.fail
  | _ => (resX P p.2 fn.results.toList).bind fun l => M.pure (pack l)
def exOf (fn : Func) (body : Code) : Nat := resEx fn.results.toList (codeEx body 0)
def prepF (P : Program) (fn : Func) (body : Code) (ex : Nat) : XF :=
  ⟨fun look n args => bif Nat.ble args.length fn.ntmps then (reX ((prepM P ex body).run look n (argsX ex (argsL 0 args)))).bind (finX P fn) else M.fail⟩
def funX (P : Program) (f : Nat) : Option XF :=
  match P.funcs[f]? with
  | some fn =>
    match fn.body with
    | some body => bif entered P f && slotsIn fn.ntmps body then some (prepF P fn body (exOf fn body)) else none
    | none => none
  | none => none
def lookN (P : Program) (base : Look) (n d : Nat) : Look :=
  Nat.rec (motive := fun _ => Look) base (fun _ ih f =>
    match base f with
    | some p => some p
    | none =>
      match funX P f with
      | some xf => some (false, fun args => xf.run ih n args)
      | none => bif entered P f then none else some (false, fun args => aextern P f args)) d

/-! ### Results -/
theorem opLoad_like {P : Program} {t : TypeId} {a : AV} {st st1 st2 : St} {v : AV} (h : opLoad P t a st1 = some (v, st2)) (hh : st1.h = st.h) : (∃ s, opLoad P t a st = some (v, s)) ∧ st2.h = st1.h ∧ st2.nx = st1.nx := by
  unfold opLoad at h ⊢
  split at h
  · rename_i id off
    unfold M.bind hget at h ⊢
    cases hg : st1.h.get id with
    | none => rw [hg] at h; cases h
    | some x =>
      rw [hg] at h
      rw [hh] at hg
      rw [hg]
      simp only at h ⊢
      unfold loadObj at h ⊢
      cases x with
      | row cells k s et =>
        simp only at h ⊢
        obtain ⟨h1, rfl⟩ := of_some h
        rw [h1]
        exact ⟨⟨_, rfl⟩, rfl, rfl⟩
      | _ => cases h
  · obtain ⟨h1, rfl⟩ := of_some h
    rw [h1]
    exact ⟨⟨_, rfl⟩, rfl, rfl⟩
  · cases h
theorem resX_resL {P : Program} {L : SL} {st : St} : ∀ (rs : List ResultVar) (st1 st2 : St) (l : List AV), resX P L rs st1 = some (l, st2) → st1.h = st.h → resL P L st rs = some l ∧ st2.h = st1.h ∧ st2.nx = st1.nx
  | [], st1, st2, l, h, hh => by cases h; exact ⟨rfl, rfl, rfl⟩
  | .tmp t :: rs, st1, st2, l, h, hh => by
    change (M.bind (resX P L rs) fun l => M.pure (lk L t :: l)) st1 = _ at h
    unfold M.bind at h
    cases h1 : resX P L rs st1 with
    | none => rw [h1] at h; cases h
    | some q =>
      obtain ⟨l1, s1⟩ := q
      rw [h1] at h
      cases h
      obtain ⟨e1, e2, e3⟩ := resX_resL rs st1 _ l1 h1 hh
      exact ⟨by simp [resL, e1], e2, e3⟩
  | .cell a t :: rs, st1, st2, l, h, hh => by
    change (M.bind (opLoad P t (lk L a)) fun v => M.bind (resX P L rs) fun l => M.pure (v :: l)) st1 = _ at h
    unfold M.bind at h
    cases h0 : opLoad P t (lk L a) st1 with
    | none => rw [h0] at h; cases h
    | some q =>
      obtain ⟨v, s0⟩ := q
      rw [h0] at h
      simp only at h
      obtain ⟨⟨s, e0⟩, e1, e2⟩ := opLoad_like h0 hh
      cases h1 : resX P L rs s0 with
      | none => rw [h1] at h; cases h
      | some q =>
        obtain ⟨l1, s1⟩ := q
        rw [h1] at h
        cases h
        obtain ⟨f1, f2, f3⟩ := resX_resL rs s0 _ l1 h1 (e1.trans hh)
        exact ⟨by simp [resL, e0, f1], f2.trans e1, f3.trans e2⟩
theorem opLoad_framed {P : Program} {t : TypeId} {a : AV} : Framed (opLoad P t a) := by
  unfold opLoad loadObj
  repeat' (first | exact Framed.pure _ | exact Framed.fail | exact Framed.of _ | exact Framed.hget _ | (refine Framed.bind ?_ fun x => ?_) | split)
theorem resX_framed {P : Program} {L : SL} : ∀ rs : List ResultVar, Framed (resX P L rs)
  | [] => Framed.pure _
  | .tmp _t :: rs => Framed.bind (resX_framed rs) (fun _ => Framed.pure _)
  | .cell _a _t :: rs => Framed.bind opLoad_framed (fun _ => Framed.bind (resX_framed rs) (fun _ => Framed.pure _))
theorem finX_framed {P : Program} {fn : Func} (p : Ex × SL) : Framed (finX P fn p) := by
  unfold finX
  split
  · exact Framed.fail
  · exact Framed.bind (resX_framed _) (fun _ => Framed.pure _)
theorem prepF_framed {P : Program} {look : Look} (hT : TabOkF P (tabX look)) (hl : LookFr look) (hm : P.follows .mixedOrders = true) (fn : Func) (body : Code) (ex n : Nat) (args : List AV) : Framed ((prepF P fn body ex).run look n args) :=
  Framed.cond (Framed.bind ((prepM_ok hT hl hm ex n body).framed _) finX_framed) Framed.fail

def baseOf (g : Gh) (st : St) (w : World) (n' : Nat) : BaseP := { baseAt g st.h w st.nx (fun _ => False) (fun o => n' ≤ o) with n0 := w.heap.size }
theorem Cur.of {g st st' w} (hok : Ok g st.h w) (hfr : Free g st st') : Cur (baseOf g st w st'.nx) g st w :=
  ⟨hok, fun o h1 h2 => hfr o h1 (Nat.lt_of_not_le h2), ⟨rfl, fun _o _ho => rfl, fun _ _ h => h, fun _ _ _ => rfl, Nat.le_refl _, rfl, rfl, rfl, fun _ _ _ => rfl, fun o _b base ho hi => .inr (.inr ⟨o, base, ho, hi⟩), fun _ _ h => .inl h,
    fun _b cs _e fr h => ⟨cs, fr, h, rfl⟩, fun _b l h => ⟨l, h⟩⟩, Nat.le_refl _⟩
theorem Cur.back {g st w g' st' w' s'} (h : Cur (baseOf g st w st'.nx) g' s' w') (hh : s'.h = st'.h) (hfr : Free g st st') : Step g st.h w st.nx st'.nx g' st'.h w' := by
  have b := h.base
  have pins : ∀ o, (o < st.nx ∨ st'.nx ≤ o) → g'.inj o = g.inj o := fun o ho => b.pins o ho
  refine ⟨⟨b.b0, fun o p hp => ?_, b.K, b.cell, b.blk, b.lp⟩, b.size, b.os, b.tape, b.output, fun c hc hn => b.frame c hc (fun hO => ?_), fun o ho hr => ?_, fun o c base ho hi => ?_, fun c j hk => ?_⟩
  · by_cases h1 : st.nx ≤ o ∧ o < st'.nx
    · rw [hfr o h1.1 h1.2] at hp; cases hp
    · rw [pins o (by omega)]; exact hp
  · rcases hO with hO | ⟨o, base, h1, h2⟩
    · exact hO
    · exact hn o base h1 h2
  · rw [pins o (by omega)]; exact ho
  · rw [← hh] at ho
    rcases b.own o c base ho hi with h1 | h1 | h1
    · exact .inl h1
    · exact h1.elim
    · exact .inr h1
  · rcases b.Kold c j hk with h1 | h1 | h1 | h1
    · exact .inl h1
    · exact .inr (.inl h1)
    · exact h1.elim
    · exact .inr (.inr h1)

/-- What is called, from the state of the call on. -/
theorem run_call {P : Program} {look : Look} (hT : TabOkF P (tabX look)) (hl : LookFr look) (hm : P.follows .mixedOrders = true) {f : Nat} {fn : Func} {body : Code} (hf : P.funcs[f]? = some fn) (hb : fn.body = some body) (he : entered P f = true) (hs : slotsIn fn.ntmps body = true) (ex n : Nat) (args : List AV) :
    CallF P f args ((prepF P fn body ex).run look n args) := by
  intro g st w vs r st' hok hfr hlo hrel hm'
  change (bif Nat.ble args.length fn.ntmps then (reX ((prepM P ex body).run look n (argsX ex (argsL 0 args)))).bind (finX P fn) else M.fail) st = some (r, st') at hm'
  cases hle : Nat.ble args.length fn.ntmps with
  | false => rw [hle] at hm'; cases hm'
  | true =>
  rw [hle, cond_true] at hm'
  have hle := Nat.le_of_ble_eq_true hle
  unfold M.bind reX reM at hm'
  cases hrun : (prepM P ex body).run look n (argsX ex (argsL 0 args)) st with
  | none => rw [hrun] at hm'; cases hm'
  | some q =>
  obtain ⟨e1, L1, st1⟩ := q
  rw [hrun] at hm'
  change finX P fn (e1, L1) st1 = some (r, st') at hm'
  have key : (∀ id, e1 ≠ .exit id) ∧ ∃ l, resL P L1 st1 fn.results.toList = some l ∧ r = pack l ∧ st1.h = st'.h ∧ st1.nx = st'.nx := by
    have two : ((resX P L1 fn.results.toList).bind fun l => M.pure (pack l)) st1 = some (r, st') → ∃ l, resL P L1 st1 fn.results.toList = some l ∧ r = pack l ∧ st1.h = st'.h ∧ st1.nx = st'.nx := by
      intro h
      unfold M.bind at h
      cases h1 : resX P L1 fn.results.toList st1 with
      | none => rw [h1] at h; cases h
      | some p =>
        obtain ⟨l, s⟩ := p
        rw [h1] at h
        cases h
        obtain ⟨a, b, c⟩ := resX_resL (st := st1) _ _ _ _ h1 rfl
        exact ⟨l, a, rfl, b.symm, c.symm⟩
    cases e1 with
    | normal => exact ⟨(fun _ h => by cases h), two hm'⟩
    | ret => exact ⟨(fun _ h => by cases h), two hm'⟩
    | exit id => cases hm'
  obtain ⟨hne, l, hres, hr, hh1, hh2⟩ := key
  refine .inr ⟨entered_ok he _ _, calls_of_callsIn (ro := none) (n := 0) (callsIn_of_wp_marks hf hb trivial ?_)⟩
  have hcur := Cur.of hok hfr
  have hx := argsX_less ex (argsL 0 args)
  have hmono : st.nx ≤ st1.nx := (prepM_ok hT hl hm ex n body).le hrun hlo
  have hnear : (baseOf g st w st'.nx).Near st.nx st1.nx := fun o h1 h2 h3 => by
    have : st'.nx ≤ o := h3
    omega
  have hrun' := (prepM_ok hT hl hm ex n body).wp none 0 (baseOf g st w st'.nx) fn.ntmps (Nat.le_refl _) (.inl rfl) hs _ _ _ g w { tmps := vs.toArray ++ Array.replicate (fn.ntmps - vs.toArray.size) undef, defers := [] } hrun hx.2 hlo hnear hcur ((relSL_args hrel hle).less hx.1) (Marks.nil _ _ _ _)
  refine wpIn_mono hrun' ?_
  rintro exx a1 w1 ⟨e2, L2, st2, g1, rfl, he1, hc1, hr1, hd1⟩
  cases he1
  have fin : bodyPostM (fence none) 0 P fn (fun e w' => ∃ v g', e = .returned v ∧ Step g st.h w st.nx st'.nx g' st'.h w' ∧ Ok g' st'.h w' ∧ Rel g' w' r v) .ret a1 w1 := by
    show LeavesInM (fence none) 0 P fn a1.tmps _ a1.defers .returning w1
    obtain ⟨bs, f1, f2, f3⟩ := hd1
    have f1 := f1.trans (List.append_nil _)
    rw [f1]
    refine leaves_good (Good := fun u => Cur (baseOf g st w st'.nx) g1 st1 u ∧ (∀ a v, Rel g1 w1 a v → Rel g1 u a v)) (S := fun b => w.heap.size ≤ b ∧ Unowned g1 st1.h b) ?_ ?_ bs w1
      ⟨hc1, fun _ _ h => h⟩ f2 (fun b hb => ⟨⟨(f3 b hb).1, (f3 b hb).2.2⟩, (f3 b hb).2.1⟩)
    · rintro u b ⟨g2, g3⟩ ⟨hb1, hb2⟩ hb3
      have hput := Ok.put_unowned (ds' := none) g2.ok hb3 hb2
      have hst := Step.put_late (ds' := none) hok (hh1 ▸ g2.back hh1 hfr) hb1
      refine ⟨?_, fun a v h => hput.2 a v (g3 a v h)⟩
      have hc3 : Cur (baseOf g st w st'.nx) g1 { st1 with nx := st'.nx } _ := hcur.step (st' := { st1 with nx := st'.nx }) (fun o a b => hnear o a (by rw [hh2]; exact b)) ⟨(by rw [← hh2]; exact hmono), hst⟩ hput.1
      exact ⟨hc3.ok, by rw [hh2]; exact hc3.fresh, hc3.base, by rw [hh2]; exact hc3.pin⟩
    · rintro u ⟨g2, g3⟩
      obtain ⟨us, h1, h2⟩ := resL_ok (P := P) g2.ok ⟨hr1.1, fun t => g3 _ _ (hr1.2 t)⟩ fn.results.toList l hres
      obtain ⟨v, h3, h4⟩ := pack_ok h1 h2
      exact ⟨v, h3, v, g1, rfl, g2.back hh1 hfr, hh1 ▸ g2.ok, by rw [hr]; exact h4⟩
  cases e1 with
  | normal => exact fin
  | ret => exact fin
  | exit id => exact (hne id rfl).elim

theorem extern_call {P : Program} (f : Nat) (args : List AV) : CallF P f args (aextern P f args) := by
  intro g st w vs r st' hok hfree hlow hrel h1
  refine .inl ?_
  unfold aextern at h1
  cases hu : AV.toV.toVs args with
  | none => simp [hu, M.fail] at h1
  | some us =>
  rw [hu] at h1
  have := relL_exact hrel hu
  subst this
  obtain ⟨h2, rfl⟩ := of_some h1
  cases hev : ev P (callFunc f vs.toArray) with
  | none => rw [hev] at h2; cases h2
  | some nx =>
  rw [hev] at h2
  cases nx <;> simp [valueOf] at h2
  rename_i v
  subst h2
  exact ⟨v, w, g, ev_ok _ _ w hev, .refl _ _ _ _ _, hok, .sc v⟩

/-- A table is sound. -/
def LookOk (P : Program) (look : Look) : Prop := ∀ f p, look f = some p → ∀ args, CallF P f args (p.2 args)
theorem LookOk.tab {P : Program} {look : Look} (h : LookOk P look) : TabOkF P (tabX look) := by
  intro f b m hf args
  rw [find_tabX] at hf
  cases hb : Nat.blt f topF with
  | false => rw [hb] at hf; cases hf
  | true =>
    rw [hb, cond_true] at hf
    exact h f (b, m) hf args
theorem lookN_ok {P : Program} {base : Look} (hb : LookOk P base) (hl : LookFr base) (hm : P.follows .mixedOrders = true) (n : Nat) : ∀ d, LookOk P (lookN P base n d) ∧ LookFr (lookN P base n d) := by
  intro d
  induction d with
  | zero => exact ⟨hb, hl⟩
  | succ d ih =>
    have key : ∀ f p, lookN P base n (d + 1) f = some p → base f = some p ∨ ∀ args, CallF P f args (p.2 args) ∧ Framed (p.2 args) := by
      intro f p h
      change (match base f with
        | some p => some p
        | none =>
          match funX P f with
          | some xf => some (false, fun args => xf.run (lookN P base n d) n args)
          | none => bif entered P f then none else some (false, fun args => aextern P f args)) = some p at h
      cases h0 : base f with
      | some p' => rw [h0] at h; cases h; exact .inl rfl
      | none =>
        rw [h0] at h
        simp only at h
        cases h1 : funX P f with
        | none =>
          rw [h1] at h
          simp only at h
          cases h2 : entered P f with
          | true => rw [h2] at h; cases h
          | false =>
            rw [h2] at h; cases h
            refine .inr fun args => ⟨extern_call f args, ?_⟩
            show Framed (aextern P f args)
            unfold aextern
            split
            · exact Framed.of _
            · exact Framed.fail
        | some xf =>
          rw [h1] at h
          cases h
          refine .inr fun args => ?_
          unfold funX at h1
          cases hf : P.funcs[f]? with
          | none => rw [hf] at h1; cases h1
          | some fn =>
            rw [hf] at h1
            simp only at h1
            cases hbd : fn.body with
            | none => rw [hbd] at h1; cases h1
            | some body =>
              rw [hbd] at h1
              simp only at h1
              cases hc : (entered P f && slotsIn fn.ntmps body) with
              | false => rw [hc] at h1; cases h1
              | true =>
                rw [hc] at h1
                cases h1
                rw [Bool.and_eq_true] at hc
                exact ⟨run_call ih.1.tab ih.2 hm hf hbd hc.1 hc.2 _ n args, prepF_framed ih.1.tab ih.2 hm fn body _ n args⟩
    refine ⟨fun f p h args => ?_, fun f p h args => ?_⟩
    · rcases key f p h with h1 | h1
      · exact hb f p h1 args
      · exact (h1 args).1
    · rcases key f p h with h1 | h1
      · exact hl f p h1 args
      · exact (h1 args).2

end
end Go.Vm
