/- A piece of the proof. Proved: where the arguments are together of bulk at most 1048576, the law AnswerForms returns true (a reply has one of its four forms), and what it was given reads afterwards as it did before. No other conditions. -/
import Derived.WalkKit
import Derived.CallsIn
import Derived.RangeFuncIn
import Derived.RangeFuncLeaves
import Derived.Orders
import Derived.OrdersIn
import Derived.Scope
import Derived.RangeFuncOwn
import Derived.Stop.SameAnswer
import Derived.Laws.Externs
import Derived.Lib.Bytealg
import Derived.ProofKit
import Derived.OpenShut
import Derived.ReadAgain
import Derived.Deep.Slices
import Derived.ChangeSame
import Derived.Test.YtcbdpmfipecmgaaGreatProg
import Derived.KernelRfl
import Derived.Test.YtcbdpmfipecmgaaGreatRows
import Derived.Maps.RangeRun
import Derived.JoinedCond
import Derived.Test.YtcbdpmfipecmgaaGreatJ1
set_option linter.unusedSimpArgs false
set_option linter.unusedVariables false
namespace Go.Vm
noncomputable section
structure y8 (w w' : World) : Prop where
  size : w.heap.size ≤ w'.heap.size
  heap : ∀ b, b < w.heap.size → w'.heap[b]? = w.heap[b]?
  os : w'.os = w.os
  tape : w'.tape = w.tape
  output : w'.output = w.output
def aa3 (K : Nat → Nat → Prop) (w w' : World) : Nat → Nat → Prop := fun b j => K b j ∨ (w.heap.size ≤ b ∧ b < w'.heap.size)
def agu (P : Program) (f : Nat) (vs : List Value) (w : World) (X : Value → World → Prop) : Prop :=
  (∃ v, (callFunc f vs.toArray).run P w = .ok (.value v) w ∧ X v w) ∨
  ((callFunc f vs.toArray).run P w = .ok (.enter f vs.toArray) w ∧ Calls P f vs.toArray w (fun e w' => ∃ v, e = .returned v ∧ X v w'))
def bh (P : Program) (f : Nat) (args : List AV) (r : AV) : Prop :=
  ∀ (K : Nat → Nat → Prop) (w : World) (vs : List Value), (∀ b j, K b j → b < w.heap.size) → bj (gK w.heap.size K) w args vs →
    agu P f vs w (fun v w' => y8 w w' ∧ Rel (gK w.heap.size (aa3 K w w')) w' r v)
theorem T3 {P : Program} {g w nt} {L : SL} {tmps : Array Value} {st : St} (hok : Ok g st.h w) (hs : dt g w nt L tmps) : ∀ (rs : List ResultVar) (l : List AV), qm P L st rs = some l →
    ∃ vs, (rs.mapM (wh tmps)).run P w = .ok vs w ∧ bj g w l vs := by
  intro rs
  induction rs with
  | nil => intro l h; simp [qm] at h; subst h; exact ⟨[], by simp, bj.nil _ _⟩
  | cons r rs ih =>
    intro l h
    cases r with
    | tmp t =>
      simp only [qm, Option.map_eq_some_iff] at h
      obtain ⟨l', h1, rfl⟩ := h
      obtain ⟨vs, h2, h3⟩ := ih l' h1
      refine ⟨tmps.getD t undef :: vs, ?_, bj.cons (hs.2 t) h3⟩
      simp only [List.mapM_cons, Sem.run_bind, wh, Sem.run_pure, Result.andThen_ok, h2]
    | cell c t =>
      simp only [qm] at h
      split at h
      · rename_i v st' hl
        rw [Option.map_eq_some_iff] at h
        obtain ⟨l', h1, rfl⟩ := h
        obtain ⟨vs, h2, h3⟩ := ih l' h1
        have hrel := hs.2 c
        have hptr : ∃ ad, tmps.getD c undef = .pointer (some ad) := by
          generalize lk L c = x at hrel hl
          generalize tmps.getD c undef = v at hrel
          cases hrel <;> first | exact ⟨_, rfl⟩ | cases hl
        obtain ⟨ad, had⟩ := hptr
        obtain ⟨u, h4, h5⟩ := ahu (P := P) hok hrel hl had
        refine ⟨u :: vs, ?_, bj.cons h5 h3⟩
        have h6 : (wh tmps (.cell c t)).run P w = .ok u w := by simp [wh, had, asAddr, h4]
        simp only [List.mapM_cons, Sem.run_bind, h6, Result.andThen_ok, h2]
        rfl
      · cases h
theorem U0 {P : Program} {g w} {fn : Func} {tmps : Array Value} {l : List AV} {vs : List Value} (h : (fn.results.toList.mapM (wh tmps)).run P w = .ok vs w) (q4 : bj g w l vs) :
    ∃ v, (results fn tmps).run P w = .ok v w ∧ Rel g w (pack l) v := by
  have hmap : (fn.results.mapM (wh tmps)).run P w = .ok vs.toArray w := by
    rw [Array.mapM_eq_mapM_toList]
    simp [h]
  rw [aiu]
  simp only [Sem.run_bind, hmap, Result.andThen_ok, Sem.run_pure]
  refine ⟨_, rfl, ?_⟩
  match l, vs, q4 with
  | [a1], [v1], q4 => simpa [pack] using q4.head
  | [], [], q4 => simp [pack]; exact .fe _ _ rfl (fun i a v h _ => by simp at h)
  | a1 :: a2 :: l, v1 :: v2 :: vs, q4 =>
    simp [pack]
    exact .fe _ _ (by have := q4.1; simp at this ⊢; omega) (fun i a v h1 h2 => q4.2 i a v h1 (by simpa using h2))
  | [], v :: vs, q4 => have := q4.1; simp at this
  | a :: l, [], q4 => have := q4.1; simp at this
  | [a1], v1 :: v2 :: vs, q4 => have := q4.1; simp at this
  | a1 :: a2 :: l, [v1], q4 => have := q4.1; simp at this
theorem Tw {P : Program} {T : dr} (hT : aw P T) (hm : P.follows .mixedOrders = true) {f : Nat} {fn : Func} {body : Code} (hf : P.funcs[f]? = some fn) (hb : fn.body = some body) (he : lx P f = true) (hs : dp fn.ntmps body = true)
    {args : List AV} (hl : args.length ≤ fn.ntmps) {ρ : Type} (R : RC ρ) (fr : Bool) (x : ρ)
    (h : wl P T 0 body (du P fn.results.toList (fun r st => R.get fr st.h r = some x)) (cy 0 args) (bn [])) : bh P f args (R.E fr x) := by
  intro K w vs hK hrel
  refine .inr ⟨ug he _ _, xx (ro := none) (n := 0) (callsIn_of_wp_marks hf hb trivial ?_)⟩
  let B : fv := { b0 := w.heap.size, w, K, O := fun _ => False, az := 0, pb := fun _ => none, n0 := w.heap.size }
  have hcur : fk B (gK w.heap.size K) (bn []) w := by
    refine ⟨⟨Nat.le_refl _, fun o x hx => ?_, fun o o' x x' b base base' _ hx => ?_, hK⟩, fun o _ _ => rfl, ⟨rfl, (fun o ho => (by rcases ho with ho | ho; cases ho; exact ho.elim)), fun _ _ h => h, fun _ _ _ => rfl, Nat.le_refl _, rfl, rfl, rfl, fun _ _ _ => rfl, fun o b base ho => ?_, fun _ _ h => .inl h, fun b cs e fr h => ⟨cs, fr, h, rfl⟩, fun b l h => ⟨l, h⟩⟩, Nat.zero_le _⟩
    · simp [bn, pw, Tr.get_nil] at hx
    · simp [bn, pw, Tr.get_nil] at hx
    · simp [bn, pw, Tr.get_nil] at ho
  refine wpIn_mono (ap9 hT hm (N := 0) (B := B) (nt := fn.ntmps) (fun _ h => h) (by show (0 : Nat) ≤ 1000; omega) (Nat.le_refl _) body hs _ _ _ (gK w.heap.size K) w _ h hcur (zy hrel hl) (Marks.nil _ _ _ _)) ?_
  rintro ex a w' ⟨e, L, st, g, rfl, hq, hc, hr, hd⟩
  have fin : K2 (qm P L st fn.results.toList) (fun r st => R.get fr st.h r = some x) st → bodyPostM (fw none) 0 P fn (fun e w' => ∃ v, e = .returned v ∧ y8 w w' ∧ Rel (gK w.heap.size (aa3 K w w')) w' (R.E fr x) v) .ret a w' := by
    intro hq
    show LeavesInM (fw none) 0 P fn a.tmps _ a.defers .returning w'
    unfold K2 at hq
    cases hres : qm P L st fn.results.toList with
    | none => rw [hres] at hq; exact hq.elim
    | some l =>
      rw [hres] at hq
      have hbs := hc.base
      obtain ⟨bs, e1, e2, e3⟩ := hd
      rw [e1]
      refine Fk (Good := fun u => Ok g st.h u ∧ y8 w u ∧ (∀ a v, Rel g w' a v → Rel g u a v) ∧ u.heap.size = w'.heap.size) (S := fun b => w.heap.size ≤ b ∧ fh g st.h b) ?_ ?_ bs w'
        ⟨hc.ok, ⟨hbs.size, fun b hlt => hbs.frame b hlt (fun h => h), hbs.os, hbs.tape, hbs.output⟩, fun _ _ h => h, rfl⟩ e2 (fun b hb => ⟨⟨(e3 b hb).1, (e3 b hb).2.2⟩, (e3 b hb).2.1⟩)
      · rintro u b ⟨g1, g2, g3, g4⟩ ⟨hb1, hb2⟩ hb3
        have hput := Ok.Fu (ds' := none) g1 hb3 hb2
        exact ⟨hput.1, ⟨by rw [oj]; exact g2.size, fun c hc => (ft u _ (by omega)).trans (g2.heap c hc), g2.os, g2.tape, g2.output⟩, fun a v h => hput.2 a v (g3 a v h), by rw [oj]; exact g4⟩
      · rintro u ⟨g1, g2, g3, g4⟩
        obtain ⟨us, h1, h2⟩ := T3 (P := P) g1 ⟨hr.1, fun t => g3 _ _ (hr.2 t)⟩ fn.results.toList l hres
        obtain ⟨v, h3, h4⟩ := U0 h1 h2
        refine ⟨v, h3, v, rfl, g2, ?_⟩
        refine R.ok g1 ⟨fun b j hk => ?_, fun o cells k s e ho b base hi j hj => ?_⟩ (fun _ => ?_) h4 hq
        · rcases hbs.oq b j hk with h5 | h5 | h5
          · exact .inl h5
          · exact .inr ⟨h5, g1.K b j hk⟩
          · exact h5.elim
        · obtain ⟨b', base', h5, _, h6⟩ := g1.obj o _ ho
          rw [hi] at h5; cases h5
          rcases hbs.own o b base (by rw [ho]; rfl) hi with h7 | h7
          · exact .inr ⟨h7, h6.lt⟩
          · exact h7.elim
        · rw [hbs.b0]; exact Nat.le_refl _
  cases e with
  | normal => exact fin hq
  | ret => exact fin hq
  | exit id => exact hq.elim
theorem Rel.lift {b0 K g w a v} (h : Rel (gK b0 K) w a v) (hb : g.b0 ≤ b0) (hK : ∀ b j, K b j → g.K b j) : Rel g w a v := by
  have hno : ∀ o p, (gK b0 K).inj o ≠ some p := fun o p e => by cases e
  generalize hg : gK b0 K = g0 at h hno
  have hK' : ∀ b j, g0.K b j → g.K b j := by subst hg; exact hK
  have hb' : g.b0 ≤ g0.b0 := by subst hg; exact hb
  clear hg
  induction h with
  | sc x => exact .sc x
  | agg l vs hs _ ih => exact .agg l vs hs ih
  | fe l vs hs _ ih => exact .fe l vs hs ih
  | vl loc sz es b off cap c hsz hl hcap h _ ih => exact .vl loc sz es b off cap c hsz (fun e => Nat.le_trans hb' (hl e)) hcap (fun j a hj => ⟨hK' _ _ (h j a hj).1, (h j a hj).2⟩) ih
  | kf loc sz => exact .kf loc sz
  | tg loc sz a => exact .tg loc sz a
  | sl o off len sz b base cap hi hc hm hr => exact (hno _ _ hi).elim
  | vm o off sz a => exact .vm o off sz a
  | v9 o off sz => exact .v9 o off sz
  | ez a => exact .ez a
  | ptr o off b base hi => exact (hno _ _ hi).elim
  | gn l b off c h _ ih => exact .gn l b off c (fun j a hj => ⟨hK' _ _ (h j a hj).1, (h j a hj).2⟩) ih
  | fn f first captured va vb hs _ hs' _ ih ih' => exact .fn f first captured va vb hs ih hs' ih'
  | mp o b base hi => exact (hno _ _ hi).elim
  | sj t a v _ ih => exact .sj t a v ih
  | yl o b base hi => exact (hno _ _ hi).elim
  | bad v => exact .bad v
theorem C0 {l : List AV} (h : AV.fresh.go l = true) : ∀ a ∈ l, a.fresh = true := by
  induction l with
  | nil => intro a ha; cases ha
  | cons x l ih =>
    simp only [AV.fresh.go, Bool.and_eq_true] at h
    intro a ha
    rcases List.mem_cons.1 ha with rfl | ha
    · exact h.1
    · exact ih h.2 a ha
theorem aem {a : AV} (h : a.fresh = true) : ∀ c ∈ a.cells, c.fresh = true := by
  cases a with
  | agg l => exact C0 h
  | sc v => intro c hc; simp only [AV.cells, List.mem_map] at hc; obtain ⟨x, _, rfl⟩ := hc; rfl
  | _ => intro c hc; simp only [AV.cells, List.mem_singleton] at hc; subst hc; exact h
theorem Rel.fresh {b0 K g w a v} (h : Rel (gK b0 K) w a v) (hf : a.fresh = true) (hb : g.b0 ≤ b0) (hK : ∀ b j, K b j → b0 ≤ b → g.K b j) : Rel g w a v := by
  generalize hg : gK b0 K = g0 at h
  have hK' : ∀ b j, g0.K b j → g0.b0 ≤ b → g.K b j := by subst hg; exact hK
  have hb' : g.b0 ≤ g0.b0 := by subst hg; exact hb
  clear hg hb hK
  induction h with
  | sc x => exact .sc x
  | agg l vs hs _ ih => exact .agg l vs hs (fun i a v ha hv => ih i a v ha hv (C0 hf a (List.mem_of_getElem? ha)))
  | fe l vs hs _ ih => exact .fe l vs hs (fun i a v ha hv => ih i a v ha hv (C0 hf a (List.mem_of_getElem? ha)))
  | vl loc sz es b off cap c hsz hl hcap h _ ih =>
    simp only [AV.fresh, Bool.and_eq_true] at hf
    have hbb := hl hf.1
    refine .vl loc sz es b off cap c hsz (fun e => Nat.le_trans hb' hbb) hcap (fun j a hj => ⟨hK' _ _ (h j a hj).1 hbb, (h j a hj).2⟩) (fun j a hj => ih j a hj ?_)
    obtain ⟨e, he, hc⟩ := List.mem_flatMap.1 (List.mem_of_getElem? hj)
    exact aem (C0 hf.2 e he) a hc
  | kf loc sz => exact .kf loc sz
  | tg loc sz a => exact .tg loc sz a
  | sl o off len sz b base cap hi hc hm hr => cases hf
  | vm o off sz a => cases hf
  | v9 o off sz => cases hf
  | ez a => exact .ez a
  | ptr o off b base hi => cases hf
  | gn l b off c h _ ih => cases hf
  | fn f first captured va vb hs _ hs' _ ih ih' =>
    simp only [AV.fresh, Bool.and_eq_true] at hf
    exact .fn f first captured va vb hs (fun i a v ha hv => ih i a v ha hv (C0 hf.1 a (List.mem_of_getElem? ha))) hs' (fun i a v ha hv => ih' i a v ha hv (C0 hf.2 a (List.mem_of_getElem? ha)))
  | mp o b base hi => cases hf
  | sj t a v _ ih => exact .sj t a v (ih hf)
  | yl o b base hi => cases hf
  | bad v => cases hf
def Gh.more (g : Gh) (w w' : World) : Gh := { g with K := aa3 g.K w w' }
theorem Ck {g h w w'} {lo hi : Nat} (hok : Ok g h w) (q : y8 w w') : Step g h w lo hi (g.more w w') h w' ∧ Ok (g.more w w') h w' := by
  have hext : Ext g w (g.more w w') w' := by
    refine ⟨rfl, fun _ _ h => h, fun _ _ h => .inl h, fun b j hj => s9 (q.heap b (hok.K b j hj)), fun b cs e fr hb => ⟨cs, fr, (q.heap b (bu hb)).trans hb, rfl⟩, fun b l hb => ⟨l, (q.heap b (bu hb)).trans hb⟩⟩
  refine ⟨⟨hext, q.size, q.os, q.tape, q.output, fun b hb _ => q.heap b hb, fun _ h _ => h, fun o b base ho hi => .inr ⟨o, base, ho, hi⟩, fun b j hk => ?_⟩, ⟨Nat.le_trans hok.size q.size, fun o x hx => ?_, hok.sep, fun b j hk => ?_⟩⟩
  · rcases hk with hk | hk
    · exact .inl hk
    · exact .inr (.inl hk.1)
  · refine (hok.mw o x hx).imp id ?_
    rintro ⟨b, base, h1, h2, h3⟩
    refine ⟨b, base, h1, h2, h3.ext hext (q.heap b h3.lt) (fun j hk => ?_)⟩
    rcases hk with hk | hk
    · exact hk
    · have := h3.lt; omega
  · rcases hk with hk | hk
    · exact Nat.lt_of_lt_of_le (hok.K b j hk) q.size
    · exact hk.2
noncomputable def dj {α : Type} (A : AC α) (F : α → Option AV) (args : List AV) : M AV := fun st =>
  match A.get .nil args with
  | some x => (F x).map fun r => (r, st)
  | none =>
    match A.get st.h args with
    | some x =>
      match F x with
      | some r => bif r.fresh then some (r, st) else none
      | none => none
    | none => none
theorem aq {P : Program} {f : Nat} {α : Type} {A : AC α} {F : α → Option AV} (h : ∀ x r, F x = some r → bh P f (A.E x) r) (args : List AV) : Ba P f args (dj A F args) := by
  intro g st w vs r st' hok hfree hrel hm
  have go : ∀ (X : Value → World → Prop), agu P f vs w X → (∀ v w', X v w' → y8 w w' ∧ Rel (g.more w w') w' r v) → st' = st →
      (∃ v w' g', (callFunc f vs.toArray).run P w = .ok (.value v) w' ∧ Step g st.h w st.nx st'.nx g' st'.h w' ∧ Ok g' st'.h w' ∧ Rel g' w' r v) ∨
      ((callFunc f vs.toArray).run P w = .ok (.enter f vs.toArray) w ∧ Calls P f vs.toArray w (fun e w' => ∃ v g', e = .returned v ∧ Step g st.h w st.nx st'.nx g' st'.h w' ∧ Ok g' st'.h w' ∧ Rel g' w' r v)) := by
    intro X hx hX e
    subst e
    rcases hx with ⟨v, h1, h2⟩ | ⟨h1, h2⟩
    · obtain ⟨q, hr⟩ := hX v w h2
      have := Ck (lo := st'.nx) (hi := st'.nx) hok q
      exact .inl ⟨v, w, _, h1, this.1, this.2, hr⟩
    · refine .inr ⟨h1, h2.mono ?_⟩
      rintro e w' ⟨v, rfl, h3⟩
      obtain ⟨q, hr⟩ := hX v w' h3
      have := Ck (lo := st'.nx) (hi := st'.nx) hok q
      exact ⟨v, _, rfl, this.1, this.2, hr⟩
  unfold dj at hm
  cases h1 : A.get .nil args with
  | some x =>
    rw [h1] at hm
    simp only [Option.map_eq_some_iff] at hm
    obtain ⟨r', h2, h3⟩ := hm
    cases h3
    have hargs := A.ok (b0 := w.heap.size) (hok.part (hm := .nil) (fun o x hx => by rw [Tr.get_nil] at hx; cases hx)) (sb.nil g g.K (fun _ _ h => h)) hrel h1
    refine go _ (h x r h2 g.K w vs hok.K hargs) (fun v w' hv => ⟨hv.1, hv.2.lift hok.size (fun b j hk => hk)⟩) rfl
  | none =>
    rw [h1] at hm
    simp only at hm
    cases h2 : A.get st.h args with
    | none => rw [h2] at hm; cases hm
    | some x =>
      rw [h2] at hm
      simp only at hm
      cases h3 : F x with
      | none => rw [h3] at hm; cases hm
      | some r' =>
        rw [h3] at hm
        simp only at hm
        cases h4 : r'.fresh with
        | false => rw [h4] at hm; cases hm
        | true =>
          rw [h4] at hm
          cases hm
          have hargs := A.ok (b0 := w.heap.size) (K := fun b _ => b < w.heap.size) hok ⟨fun b j hk => hok.K b j hk, fun o cells k s e ho b base hi j hj => by
            obtain ⟨b', base', h5, _, h6⟩ := hok.obj o _ ho
            rw [hi] at h5; cases h5
            exact h6.lt⟩ hrel h2
          refine go _ (h x r h3 (fun b _ => b < w.heap.size) w vs (fun _ _ h => h) hargs) (fun v w' hv => ⟨hv.1, hv.2.fresh h4 hok.size (fun b j hk hle => ?_)⟩) rfl
          rcases hk with hk | hk
          · omega
          · exact .inr hk
theorem aw.nil (P : Program) : aw P [] := fun f b m h => by cases h
theorem aw.cons {P : Program} {f : Nat} {b : Bool} {m : List AV → M AV} {T : dr} (h : ∀ args, Ba P f args (m args)) (hT : aw P T) : aw P ((f, b, m) :: T) := by
  intro f' b' m' hf args
  simp only [dr.find] at hf
  by_cases e : f = f'
  · subst e
    simp only [Nat.beq_refl, cond_true, Option.some.injEq] at hf
    cases hf
    exact h args
  · rw [mu e, cond_false] at hf
    exact hT f' b' m' hf args
end
end Go.Vm
namespace Go.Vm
noncomputable section
def ahl (g : Gh) (st : St) (w : World) : fv := { ia g st.h w st.nx (fun _ => False) with n0 := w.heap.size }
theorem fk.ofC {g st w} (hok : Ok g st.h w) (hfr : ∀ o, st.nx ≤ o → g.inj o = none) : fk (ahl g st w) g st w :=
  ⟨hok, fun o h1 _ => hfr o h1, ⟨rfl, fun _o _ho => rfl, fun _ _ h => h, fun _ _ _ => rfl, Nat.le_refl _, rfl, rfl, rfl, fun _ _ _ => rfl, fun o _b base ho hi => .inr (.inr ⟨o, base, ho, hi⟩), fun _ _ h => .inl h,
    fun _b cs _e fr h => ⟨cs, fr, h, rfl⟩, fun _b l h => ⟨l, h⟩⟩, Nat.le_refl _⟩
theorem fk.ave {g st w g' st' w'} (h : fk (ahl g st w) g' st' w') (hfr : ∀ o, st.nx ≤ o → g.inj o = none) : Step g st.h w st.nx st'.nx g' st'.h w' := by
  have b := h.base
  have pins : ∀ o, o < st.nx → g'.inj o = g.inj o := fun o ho => b.pins o (.inl ho)
  refine ⟨⟨b.b0, fun o p hp => ?_, b.K, b.cell, b.z3, b.lp⟩, b.size, b.os, b.tape, b.output, fun c hc hn => b.frame c hc (fun hO => ?_), fun o ho hr => ?_, fun o c base ho hi => ?_, fun c j hk => ?_⟩
  · by_cases h1 : st.nx ≤ o
    · rw [hfr o h1] at hp; cases hp
    · rw [pins o (by omega)]; exact hp
  · rcases hO with hO | ⟨o, base, h1, h2⟩
    · exact hO
    · exact hn o base h1 h2
  · by_cases h1 : o < st.nx
    · rw [pins o h1]; exact ho
    · exact h.fresh o (by omega) (fun hf => hf)
  · rcases b.own o c base ho hi with h1 | h1 | h1
    · exact .inl h1
    · exact h1.elim
    · exact .inr h1
  · rcases b.oq c j hk with h1 | h1 | h1 | h1
    · exact .inl h1
    · exact .inr (.inl h1)
    · exact h1.elim
    · exact .inr (.inr h1)
theorem bm {P : Program} {T : dr} (hT : aw P T) (hm : P.follows .mixedOrders = true) {f : Nat} {fn : Func} {body : Code} (hf : P.funcs[f]? = some fn) (hb : fn.body = some body) (he : lx P f = true) (hs : dp fn.ntmps body = true)
    {args : List AV} (hl : Nat.ble args.length fn.ntmps = true) {st : St} (hp : Nat.ble st.nx 1000 = true) {R : AV → St → Prop}
    (h : wl P T st.nx body (du P fn.results.toList R) (cy 0 args) st) : rk P f args st R := by
  intro g w vs hok hfr hrel
  refine .inr ⟨ug he _ _, xx (ro := none) (n := 0) (callsIn_of_wp_marks hf hb trivial ?_)⟩
  have hcur := fk.ofC (w := w) hok hfr
  refine wpIn_mono (ap9 hT hm (N := 0) (B := ahl g st w) (nt := fn.ntmps) (fun _ h => h) (Nat.le_of_ble_eq_true hp) (Nat.le_refl _) body hs _ _ _ g w _ h hcur (zy hrel (Nat.le_of_ble_eq_true hl)) (Marks.nil _ _ _ _)) ?_
  rintro ex a w' ⟨e, L, st', g', rfl, hq, hc, hr, hd⟩
  have fin : K2 (qm P L st' fn.results.toList) R st' → bodyPostM (fw none) 0 P fn (fun e w' => ∃ v g' r st', e = .returned v ∧ R r st' ∧ st.nx ≤ st'.nx ∧ Step g st.h w st.nx st'.nx g' st'.h w' ∧ Ok g' st'.h w' ∧ Rel g' w' r v) .ret a w' := by
    intro hq
    show LeavesInM (fw none) 0 P fn a.tmps _ a.defers .returning w'
    unfold K2 at hq
    cases hres : qm P L st' fn.results.toList with
    | none => rw [hres] at hq; exact hq.elim
    | some l =>
      rw [hres] at hq
      obtain ⟨bs, e1, e2, e3⟩ := hd
      rw [e1]
      refine Fk (Good := fun u => Ok g' st'.h u ∧ Step g st.h w st.nx st'.nx g' st'.h u ∧ (∀ a v, Rel g' w' a v → Rel g' u a v)) (S := fun b => w.heap.size ≤ b ∧ fh g' st'.h b) ?_ ?_ bs w'
        ⟨hc.ok, hc.ave hfr, fun _ _ h => h⟩ e2 (fun b hb => ⟨⟨(e3 b hb).1, (e3 b hb).2.2⟩, (e3 b hb).2.1⟩)
      · rintro u b ⟨g1, g2, g3⟩ ⟨hb1, hb2⟩ hb3
        have hput := Ok.Fu (ds' := none) g1 hb3 hb2
        exact ⟨hput.1, Step.Y7 (ds' := none) hok g2 hb1, fun a v h => hput.2 a v (g3 a v h)⟩
      · rintro u ⟨g1, g2, g3⟩
        obtain ⟨us, h1, h2⟩ := T3 (P := P) g1 ⟨hr.1, fun t => g3 _ _ (hr.2 t)⟩ fn.results.toList l hres
        obtain ⟨v, h3, h4⟩ := U0 h1 h2
        exact ⟨v, h3, v, g', _, st', rfl, hq, hc.az, g2, g1, h4⟩
  cases e with
  | normal => exact fin hq
  | ret => exact fin hq
  | exit id => exact hq.elim
end
end Go.Vm
namespace Go.Vm
noncomputable section
section code
variable (P : Program) (T : dr) (az : Nat) (Q : QL) (L : SL) (st : St)
theorem agr : wl P T az .skip Q L st = Q .normal L st := id rfl
theorem aas (l) : wl P T az (.label l) Q L st = Q .normal L st := id rfl
theorem U6 (i ops d) : wl P T az (.region i ops d) Q L st = Co P T ops d (Q .normal) L st := id rfl
theorem ald (a b) : wl P T az (.seq a b) Q L st = wl P T az a (Zh (wl P T az b) Q) L st := id rfl
theorem ag8 (c a b) : wl P T az (.cond c a b) Q L st = vr (cf L c) (wl P T az a Q) (wl P T az b Q) L st := id rfl
theorem ada (i b) : wl P T az (.block i b) Q L st = wl P T az b (Pb i Q) L st := id rfl
theorem afu (b) : wl P T az (.loop b) Q L st = sk az (wl P T az b) Q L st := id rfl
theorem aao (b) : wl P T az (.scope b) Q L st = wl P T az b Q L st := id rfl
theorem agi (i) : wl P T az (.exit i) Q L st = Q (.exit i) L st := id rfl
theorem am1 : wl P T az .ret Q L st = Q .ret L st := id rfl
theorem akf (W) : Zh W Q .normal L st = W Q L st := id rfl
theorem am3 (W i) : Zh W Q (.exit i) L st = Q (.exit i) L st := id rfl
theorem ak7 (W) : Zh W Q .ret L st = Q .ret L st := id rfl
theorem akc (i) : Pb i Q .normal L st = Q .normal L st := id rfl
theorem alp (i) : Pb i Q .ret L st = Q .ret L st := id rfl
theorem akv (i j) : Pb i Q (.exit j) L st = bif Nat.beq j i then Q .normal L st else Q (.exit j) L st := id rfl
theorem agz (keep X) : xg az keep X Q .normal L st = X (ki az keep L st) (gj az keep L st) := id rfl
theorem afv (keep X i) : xg az keep X Q (.exit i) L st = Q (.exit i) L st := id rfl
theorem afw (keep X) : xg az keep X Q .ret L st = Q .ret L st := id rfl
theorem alj (rs R) : du P rs R .normal L st = K2 (qm P L st rs) R st := id rfl
theorem amm (rs R) : du P rs R .ret L st = K2 (qm P L st rs) R st := id rfl
theorem Vv (ops K) : Co P T ops false K L st = opsL P T ops ops.toList K L st := id rfl
theorem acd (ops K) : opsL P T ops [] K L st = K L st := id rfl
theorem V0 (ops o r K) : opsL P T ops (o :: r) K L st = xt ops o.guard (Z9 P T o (opsL P T ops r K)) (G2 o.dst (opsL P T ops r K)) L st := id rfl
theorem abv (ops K recs) : Dd P T ops [] K recs L st = (ib (Region.before ops) 0 recs = true ∧ K L st) := id rfl
theorem Vq (ops o r K recs) : Dd P T ops (o :: r) K recs L st = xt ops o.guard (fi P T o recs (Dd P T ops r K)) (G2 o.dst (Dd P T ops r K (recs ++ [⟨[], []⟩]))) L st := id rfl
theorem Ry (ops X Y) : xt ops none X Y L st = X L st := id rfl
theorem Ro (ops j c X Y) : xt ops (some (j, c)) X Y L st = Dh (lk L (tu ops j)) c X Y L st := id rfl
theorem acx (b : Bool) (X Y : SL → St → Prop) : Dh (.sc (.bool b)) true X Y L st = vr (.sc (.bool b)) X Y L st := by cases b <;> simp [Dh, yx, A3, Ei, vr, qk, AV.bool, AV.exact, oi]
theorem Za (b : Bool) (X Y : SL → St → Prop) : Dh (.sc (.bool b)) false X Y L st = vr (.sc (.bool b)) Y X L st := by cases b <;> simp [Dh, yx, A3, Ei, vr, qk, AV.bool, AV.exact, oi]
theorem Z0 (c : Bool) (X Y : SL → St → Prop) : Dh (.sc undef) c X Y L st = Y L st := by simp [Dh, yx, A3, Ei, AV.exact, undef]
theorem agh (o K) : Z9 P T o K L st = La (fj P T o (cf L) st) P o L st K := id rfl
theorem abp (v o K st') : La (some (v, st')) P o L st K = K (gp o.dst v L) st' := id rfl
theorem acr (K d r) : gm K d L r st = K (gp d r L) st := id rfl
theorem aa2 (ro F o recs K v bc) : C3 ro F o recs K L st (some (v, bc)) = ((Ej st.nx F = true ∧ Nat.ble bc.nx bw = true) ∧ same (ke st.h F) bc.h (bif ro then F else []) ∧
    K (recs ++ [⟨F, (bif ro then [] else F) ++ dh st.nx (bc.nx - st.nx)⟩]) (gp o.dst v L) { h := pc bc.h (F ++ dh st.nx (bc.nx - st.nx)) st.h, nx := bc.nx, rl := [], wl := [] }) := id rfl
theorem Wq (d K) : G2 d K L st = K (gp d (.sc undef) L) st := id rfl
theorem cz (b X Y) : vr (.sc (.bool b)) X Y L st = ((b = true → X L st) ∧ (b = false → Y L st)) := id rfl
theorem Ge (X Y) : vr (.sc (.bool true)) X Y L st = X L st := by simp [vr, qk, AV.bool, AV.exact, oi]
theorem F3 (X Y) : vr (.sc (.bool false)) X Y L st = Y L st := by simp [vr, qk, AV.bool, AV.exact, oi]
theorem V4 (v d K) : Gc (some (v, st)) d L K = K (gp d v L) st := id rfl
theorem Ve (d v) : gp (some d) v L = (d, v) :: L := id rfl
theorem Vi (v) : gp none v L = L := id rfl
theorem alo (l R) : K2 (some l) R st = R (pack l) st := id rfl
theorem ak0 (d v) : lk ((d, v) :: L) d = v := by simp [lk]
theorem agf (d t v) (h : (d == t) = false) : lk ((d, v) :: L) t = lk L t := by
  have e : d ≠ t := by simpa using h
  rw [nl, if_neg e]
theorem ap3 (t) : cf L (.tmp t) = lk L t := id rfl
theorem aqq (v) : cf L (.const v) = .sc v := id rfl
theorem apx (f) : cf L (.func f) = .sc (.func (.func f) #[] #[]) := id rfl
theorem aj1 : qm P L st [] = some [] := id rfl
theorem al0 (t r) : qm P L st (.tmp t :: r) = (qm P L st r).map (lk L t :: ·) := id rfl
theorem amq (a t r) : qm P L st (.cell a t :: r) = match jj P t (lk L a) st with | some (v, _) => (qm P L st r).map (v :: ·) | none => none := id rfl
end code
section ops
variable (P : Program) (T : dr) (ρ : Operand → AV) (d : Option Tmp) (ty : TypeId) (pos : String) (af : Array Edge) (gd : Option (Nat × Bool))
theorem Ie (x) : fj P T ⟨d, .move x, ty, pos, af, gd⟩ ρ = mono (M.pure (ρ x)) := id rfl
theorem Dt (x) : fj P T ⟨d, .assign x, ty, pos, af, gd⟩ ρ = mono (M.pure (ρ x)) := id rfl
theorem H6 (t a) : fj P T ⟨d, .load t a, ty, pos, af, gd⟩ ρ = mono (jj P t (ρ a)) := id rfl
theorem zm (s x f) : fj P T ⟨d, .fieldAddr s x f, ty, pos, af, gd⟩ ρ = mono (kq P s (ρ x) f) := id rfl
theorem Mx (op t x y u) : fj P T ⟨d, .binOp op t x y u, ty, pos, af, gd⟩ ρ = mono (xl P ρ ⟨d, .binOp op t x y u, ty, pos, af, gd⟩ op t x y) := id rfl
theorem Hf (c a b) : fj P T ⟨d, .pick c a b, ty, pos, af, gd⟩ ρ = mono (uu (ρ c) (ρ a) (ρ b)) := id rfl
theorem Ff (t a x) : fj P T ⟨d, .store t a x, ty, pos, af, gd⟩ ρ = mono (oz P t (ρ a) (ρ x)) := id rfl
theorem B4 (t i) : fj P T ⟨d, .extract t i, ty, pos, af, gd⟩ ρ = mono (nm (ρ t) i) := id rfl
theorem yy (t x i) : fj P T ⟨d, .indexAddr t x i, ty, pos, af, gd⟩ ρ = mono (kr P t (ρ x) (ρ i)) := id rfl
theorem Ac (x) : fj P T ⟨d, .nilCheck x, ty, pos, af, gd⟩ ρ = mono (j9 (ρ x)) := id rfl
theorem N6 (t) : fj P T ⟨d, .alloc t, ty, pos, af, gd⟩ ρ = mono (ri P t) := id rfl
theorem Xe (t x) : fj P T ⟨d, .box t x, ty, pos, af, gd⟩ ρ = mono (xj t (ρ x)) := id rfl
theorem F0 (t ps) : fj P T ⟨d, .build t ps, ty, pos, af, gd⟩ ρ = mono (qg P t (ps.toList.map fun p => (p.1, ρ p.2))) := id rfl
theorem xu (t n ps) : fj P T ⟨d, .buildSlice t n ps, ty, pos, af, gd⟩ ρ = mono (jk P t n (ps.toList.map fun p => (p.1, ρ p.2))) := id rfl
theorem Gg (f a b) : fj P T ⟨d, .makeFunc f a b, ty, pos, af, gd⟩ ρ = mono (M.pure (.fn f (a.toList.map ρ) (b.toList.map ρ))) := id rfl
theorem I1 (s u x) : fj P T ⟨d, .convert s u x, ty, pos, af, gd⟩ ρ = mono (ov P ρ ⟨d, .convert s u x, ty, pos, af, gd⟩ s u (ρ x)) := id rfl
theorem Ob (s x f) : fj P T ⟨d, .field s x f, ty, pos, af, gd⟩ ρ = mono (sr P s (ρ x) f) := id rfl
theorem Np (t x i) : fj P T ⟨d, .index t x i, ty, pos, af, gd⟩ ρ = mono (sw P ρ ⟨d, .index t x i, ty, pos, af, gd⟩ t x i) := id rfl
theorem Nc (t x l h m) : fj P T ⟨d, .slice t x l h m, ty, pos, af, gd⟩ ρ = mono (qx P ρ ⟨d, .slice t x l h m, ty, pos, af, gd⟩ t x l h m) := id rfl
theorem Kn (x ts) : fj P T ⟨d, .call { callee := .builtin .len, args := #[x], argTypes := ts }, ty, pos, af, gd⟩ ρ = mono (ru ((ts[0]?).bind P.underlying) (ρ x)) := id rfl
theorem Df (s x ts) : fj P T ⟨d, .call { callee := .builtin .append, args := #[s, x], argTypes := ts }, ty, pos, af, gd⟩ ρ = mono (ng P ts[0]? ((ts[1]?).bind P.underlying) (ρ s) (ρ x)) := id rfl
theorem Sd (f args ts) : fj P T ⟨d, .call { callee := .value f, args, argTypes := ts }, ty, pos, af, gd⟩ ρ = tw T (ρ f) (args.toList.map ρ) := id rfl
end ops
section monad
variable {α β : Type} (s : St)
theorem aqg (m : M α) : mono m s = match m s with | none => none | some (a, s') => bif decide (s.nx ≤ s'.nx) then some (a, s') else none := by
  have : ∀ a b, Nat.ble a b = decide (a ≤ b) := fun a b => by rw [Bool.eq_iff_iff]; simp
  unfold mono
  cases m s with
  | none => rfl
  | some p => simp only [this]
theorem aq5 (m : M α) (f : α → M β) : (m.bind f) s = match m s with | none => none | some (a, s') => f a s' := id rfl
theorem apv (a : α) : (M.pure a) s = some (a, s) := id rfl
theorem ap7 : (M.fail : M α) s = none := id rfl
theorem aq2 (a : α) : (M.of (some a)) s = some (a, s) := id rfl
theorem aqf (b : Bool) (m m' : M α) : (bif b then m else m') s = bif b then m s else m' s := by cases b <;> rfl
theorem aqd (o : Nat) : cr o s = match s.h.get o with | some x => some (x, { s with rl := o :: s.rl }) | none => none := id rfl
theorem aqy (x : ba) : iq x s = bif decide (s.nx ≤ bw) then some (s.nx, { s with h := s.h.set depth s.nx (some x), nx := s.nx + 1, wl := s.nx :: s.wl }) else none := by
  have : Nat.ble s.nx bw = decide (s.nx ≤ bw) := by rw [Bool.eq_iff_iff]; simp
  unfold iq; rw [this]
theorem aqm (o : Nat) (x : ba) : i7 o x s = match s.h.get o with | some _ => bif decide (o ≤ bw) then some ((), { s with h := s.h.set depth o (some x), wl := o :: s.wl }) else none | none => none := by
  have : Nat.ble o bw = decide (o ≤ bw) := by rw [Bool.eq_iff_iff]; simp
  unfold i7; rw [this]; rfl
theorem aqn (o : Nat) : vg o s = match s.h.get o with | some _ => bif decide (o ≤ bw) then some ((), { s with h := s.h.set depth o none, wl := o :: s.wl }) else none | none => none := by
  have : Nat.ble o bw = decide (o ≤ bw) := by rw [Bool.eq_iff_iff]; simp
  unfold vg; rw [this]; rfl
theorem ac8 (t : Tr ba) (n m : Nat) (x : Option ba) (h : n ≤ 16777214) : (Tr.set depth t n x).get m = if m = n then x else t.get m := en t n m x h
theorem ac5 (n : Nat) : (Tr.nil : Tr ba).get n = none := id rfl
theorem aul (a b : Nat) : Nat.ble a b = decide (a ≤ b) := by rw [Bool.eq_iff_iff]; simp
theorem aub (a b : Nat) : Nat.blt a b = decide (a < b) := by rw [Bool.eq_iff_iff]; simp
theorem ajc (a b : Nat) : Nat.beq a b = decide (a = b) := by rw [Bool.eq_iff_iff]; simp
end monad
theorem Nt {a : AV} {x y x' y' : Prop} (h1 : x → x') (h2 : y → y') (h : qk a x y) : qk a x' y' := by
  unfold qk at *
  split at h
  · exact ⟨fun e => h1 (h.1 e), fun e => h2 (h.2 e)⟩
  · exact h.elim
theorem yu {ops L gd} {x y x' y' : Prop} (h1 : x → x') (h2 : y → y') (h : guarded ops L gd x y) : guarded ops L gd x' y' := by
  unfold guarded at *
  split at h
  · exact h1 h
  · unfold yx at *
    split at h
    · exact ⟨fun e => h1 (h.1 e), fun e => h2 (h.2 e)⟩
    · exact h.elim
theorem rk.mono {P f args st} {R R' : AV → St → Prop} (h : ∀ r st, R r st → R' r st) (hc : rk P f args st R) : rk P f args st R' := by
  intro g w vs h1 h2 h3
  rcases hc g w vs h1 h2 h3 with ⟨v, w', g', r, st', q1, q2, q3⟩ | ⟨q1, q2⟩
  · exact .inl ⟨v, w', g', r, st', q1, h _ _ q2, q3⟩
  · refine .inr ⟨q1, q2.mono ?_⟩
    rintro e w' ⟨v, g', r, st', p1, p2, p3⟩
    exact ⟨v, g', r, st', p1, h _ _ p2, p3⟩
theorem ahf {P o L st} {K K' : SL → St → Prop} (h : ∀ L st, K L st → K' L st) (hc : Ml P o L st K) : Ml P o L st K' := by
  unfold Ml ai6 at *
  split at hc
  · split at hc
    · exact rk.mono (fun r st hk => h _ _ hk) hc
    · exact hc.elim
  · exact hc.elim
theorem Em {P T ops} {K K' : SL → St → Prop} (h : ∀ L st, K L st → K' L st) : ∀ (l : List Oper) (L : SL) (st : St), opsL P T ops l K L st → opsL P T ops l K' L st
  | [], L, st, hh => h L st hh
  | o :: r, L, st, hh => yu (fun q => by
      unfold Z9 La at *
      split at q
      · exact Em h r _ _ q
      · exact ahf (fun L st => Em h r L st) q) (fun q => Em h r _ _ q) hh
theorem Es {P T ops} {K K' : SL → St → Prop} (h : ∀ L st, K L st → K' L st) : ∀ (l : List Oper) (recs : List Rec) (L : SL) (st : St), Dd P T ops l K recs L st → Dd P T ops l K' recs L st
  | [], recs, L, st, hh => ⟨hh.1, h L st hh.2⟩
  | o :: r, recs, L, st, hh => yu (fun q => by
      unfold fi kh C3 at *
      split at q
      · exact ⟨q.1, q.2.1, Es h r _ _ _ q.2.2⟩
      · exact q.elim) (fun q => Es h r _ _ _ q) hh
theorem Ep {P T ops} {K K' : SL → St → Prop} (h : ∀ L st, K L st → K' L st) : ∀ (l : List Oper) (recs : List Rec) (L : SL) (st : St), Lu P T ops l K recs L st → Lu P T ops l K' recs L st
  | [], recs, L, st, hh => ⟨hh.1, h L st hh.2⟩
  | o :: r, recs, L, st, hh => yu (fun q => Rn (fun _ _ _ k => Ep h r _ _ _ k) q) (fun q => Ep h r _ _ _ q) hh
theorem yq {P T l az ops} {R : G6} (hR : ∀ p args (X X' : Ex → St → Prop) st, (∀ e st, X e st → X' e st) → R p args X st → R p args X' st) {K K' : Option Ex → SL → St → Prop} (h : ∀ pe L st, K pe L st → K' pe L st) :
    ∀ (ls : List Oper) (pe : Option Ex) (L : SL) (st : St), C4 P T l R az ops ls K pe L st → C4 P T l R az ops ls K' pe L st
  | [], pe, L, st, hh => h pe L st hh
  | o :: r, pe, L, st, hh => yu (fun q => by
      unfold opI Ux at *
      split at q
      · unfold Gc at *
        split at q
        · exact yq hR h r _ _ _ q
        · exact q.elim
      · obtain ⟨h0, keep, q⟩ := q
        refine ⟨h0, keep, hR _ _ _ _ _ (fun e st q => ?_) q⟩
        cases e with
        | normal => exact yq hR h r _ _ _ q
        | ret => exact yq hR h r _ _ _ q
        | exit id => exact yq hR h r _ _ _ q) (fun q => yq hR h r _ _ _ q) hh
theorem Pt {P : Program} {T : dr} {l az : Nat} {R : G6} (hR : ∀ p args (X X' : Ex → St → Prop) st, (∀ e st, X e st → X' e st) → R p args X st → R p args X' st) :
    ∀ (c : Code) (Q Q' : QI), (∀ e pe L st, Q e pe L st → Q' e pe L st) → ∀ pe L st, pf P T l R az c Q pe L st → pf P T l R az c Q' pe L st := by
  intro c
  induction c with
  | skip => intro Q Q' h pe L st hh; exact h _ _ _ _ hh
  | label l => intro Q Q' h pe L st hh; exact h _ _ _ _ hh
  | exit i => intro Q Q' h pe L st hh; exact h _ _ _ _ hh
  | ret => intro Q Q' h pe L st hh; exact h _ _ _ _ hh
  | region i ops draw =>
    intro Q Q' h pe L st hh
    cases draw with
    | false => exact yq hR (h _) _ _ _ _ hh
    | true => exact ⟨hh.1, hh.2.imp (Es (h _ _) _ _ _ _) (Ep (h _ _) _ _ _ _)⟩
  | seq a b iha ihb =>
    intro Q Q' h pe L st hh
    refine iha _ _ ?_ pe L st hh
    intro e pe L st q
    cases e with
    | normal => exact ihb _ _ h pe L st q
    | _ => exact h _ _ _ _ q
  | cond c a b iha ihb => intro Q Q' h pe L st hh; exact Nt (iha _ _ h pe L st) (ihb _ _ h pe L st) hh
  | block i b ih =>
    intro Q Q' h pe L st hh
    refine ih _ _ ?_ pe L st hh
    intro e pe L st q
    cases e with
    | exit j =>
      simp only [Ps] at *
      cases hb : Nat.beq j i with
      | true => rw [hb] at q; exact h _ _ _ _ q
      | false => rw [hb] at q; exact h _ _ _ _ q
    | _ => exact h _ _ _ _ q
  | loop b ih =>
    intro Q Q' h pe L st hh
    obtain ⟨h0, keep, hh⟩ := hh
    refine ⟨h0, keep, fun X hX => hh X fun vs os q => hX vs os (ih _ _ ?_ _ _ _ q)⟩
    intro e pe L st q
    cases e with
    | normal => exact q
    | _ => exact h _ _ _ _ q
  | scope b ih => intro _ _ _ _ _ _ hh; exact hh.elim
  | rangeFunc => intro _ _ _ _ _ _ hh; exact hh.elim
  | goto => intro _ _ _ _ _ _ hh; exact hh.elim
  | refuse => intro _ _ _ _ _ _ hh; exact hh.elim
theorem aon {P : Program} {T : dr} : ∀ (c : Code) (az : Nat) (Q Q' : QL), (∀ e L st, Q e L st → Q' e L st) → ∀ L st, wl P T az c Q L st → wl P T az c Q' L st := by
  intro c
  induction c with
  | skip => intro az Q Q' h L st hh; exact h _ _ _ hh
  | label l => intro az Q Q' h L st hh; exact h _ _ _ hh
  | exit i => intro az Q Q' h L st hh; exact h _ _ _ hh
  | ret => intro az Q Q' h L st hh; exact h _ _ _ hh
  | region i ops draw =>
    intro az Q Q' h L st hh
    cases draw with
    | false => exact Em (h _) _ _ _ hh
    | true => exact ⟨hh.1, hh.2.imp (Es (h _) _ _ _ _) (Ep (h _) _ _ _ _)⟩
  | seq a b iha ihb =>
    intro az Q Q' h L st hh
    refine iha _ _ _ ?_ L st hh
    intro e L st q
    cases e with
    | normal => exact ihb _ _ _ h L st q
    | _ => exact h _ _ _ q
  | cond c a b iha ihb => intro az Q Q' h L st hh; exact Nt (iha _ _ _ h L st) (ihb _ _ _ h L st) hh
  | block i b ih =>
    intro az Q Q' h L st hh
    refine ih _ _ _ ?_ L st hh
    intro e L st q
    cases e with
    | exit j =>
      simp only [Pb] at *
      cases hb : Nat.beq j i with
      | true => rw [hb] at q; exact h _ _ _ q
      | false => rw [hb] at q; exact h _ _ _ q
    | _ => exact h _ _ _ q
  | loop b ih =>
    intro az Q Q' h L st hh
    obtain ⟨keep, hh⟩ := hh
    refine ⟨keep, fun X hX => hh X fun vs os q => hX vs os (ih _ _ _ ?_ _ _ q)⟩
    intro e L st q
    cases e with
    | normal => exact q
    | _ => exact h _ _ _ q
  | scope b ih => intro az Q Q' h L st hh; exact ih _ _ _ h L st hh
  | rangeFunc f ps a b iha ihb =>
    intro az Q Q' h L st hh
    obtain ⟨keep, h0, hh⟩ := hh
    refine ⟨keep, h0, ?_⟩
    unfold Js at *
    split at hh
    · unfold Jk at *
      split at hh
      · refine ⟨hh.1, fun l => Pt (fun p args X X' st hX hr => ⟨hr.1, hr.2.1, iha _ _ _ (fun e L st q => (by
          cases e with
          | normal => exact ihb _ _ _ (fun e _ st q => hX e st q) _ _ q
          | _ => exact q.elim)) _ _ hr.2.2⟩) _ _ _ (fun e pe L st q => (by
          cases e with
          | exit id => exact q.elim
          | normal =>
            cases pe with
            | none => exact h _ _ _ q
            | some e => exact h _ _ _ q
          | ret =>
            cases pe with
            | none => exact h _ _ _ q
            | some e => exact h _ _ _ q)) _ _ _ (hh.2 l)⟩
      · exact hh.elim
    · exact hh.elim
  | goto => intro _ _ _ _ _ _ hh; exact hh.elim
  | refuse => intro _ _ _ _ _ _ hh; exact hh.elim
theorem Gm {P : Program} {T : dr} {az : Nat} (c : Code) (Q Q' : QL) (h : ∀ e L st, Q e L st → Q' e L st) (L : SL) (st : St) (hh : wl P T az c Q L st) : wl P T az c Q' L st := aon c az Q Q' h L st hh
theorem dx {α : Type} {P : Program} {T : dr} {az : Nat} {b : Code} {Q : QL} {L : SL} {st : St} (keep : List Nat) (V : α → List AV) (O : α → List (Option ba)) (I : α → Prop) (μ : α → Nat) (x : α) (hx : I x)
    (hv : ki az keep L st = V x) (ho : gj az keep L st = O x)
    (step : ∀ x, I x → wl P T az b (xg az keep (fun vs os => ∃ y, I y ∧ μ y < μ x ∧ vs = V y ∧ os = O y) Q) (m7 keep (V x)) (bn (O x))) : sk az (wl P T az b) Q L st :=
  sk.of keep V O I μ x hx hv ho (fun _ _ h => Gm b _ _ h) step
section cods
theorem tn {α : Type} (C : c6 α) (l : Bool) (xs : List α) : (cw C).val l xs = .vl l C.sz (xs.map (C.val l)) := id rfl
theorem u0 {α : Type} (C : c6 α) : (cw C).sz = 1 := id rfl
theorem U3 : aj.sz = 1 := id rfl
theorem aaj : bz.sz = 1 := id rfl
theorem v7 : cq.sz = 1 := id rfl
theorem rm : dg.sz = 1 := id rfl
theorem ry (k : IntKind) : (be k).sz = 1 := id rfl
theorem tv : bq.sz = 1 := id rfl
theorem Eu (l : Bool) (x : UInt8) : bz.val l x = .sc (.int .u8 x.toNat) := id rfl
theorem P4 (l : Bool) (x : UInt16) : cq.val l x = .sc (.int .u16 x.toNat) := id rfl
theorem Sc (l : Bool) (x : UInt32) : dg.val l x = .sc (.int .u32 x.toNat) := id rfl
theorem Q4 (k : IntKind) (l : Bool) (x : Int) : (be k).val l x = .sc (.int k x) := id rfl
theorem Nk (l : Bool) (x : Bool) : bq.val l x = .sc (.bool x) := id rfl
theorem agl (o i : Nat) : idx [] o i = none := id rfl
theorem aal {α : Type} (C : c6 α) (τ : Nat → Option Nat) (l : Bool) : AV.c8 τ ∘ C.val l = C.val l := by funext x; exact Gj C τ l x
theorem Sg (l : Bool) (x : ByteArray) : aj.val l x = .sc (.string x) := id rfl
theorem sf {α : Type} (C : c6 α) (fr : Bool) (h : Tr ba) (a : AV) (h1 : a.known = true) (h2 : a.isAgg = C.agg) : C.ek fr h a = C.dec fr h a.cells := by
  unfold c6.ek; rw [h1, h2]; simp
theorem Vr (fr : Bool) (h : Tr ba) (n : UInt32) : dg.ek fr h (.sc (.int .u32 n.toNat)) = some n := dg.Lc fr h true n (fun _ => rfl)
theorem wm (fr : Bool) (h : Tr ba) (n : UInt16) : cq.ek fr h (.sc (.int .u16 n.toNat)) = some n := cq.Lc fr h true n (fun _ => rfl)
theorem Q0 (k : IntKind) (fr : Bool) (h : Tr ba) (n : Int) : (be k).ek fr h (.sc (.int k n)) = some n := (be k).Lc fr h true n (fun _ => rfl)
theorem M1 (fr : Bool) (h : Tr ba) (b : Bool) : bq.ek fr h (.sc (.bool b)) = some b := bq.Lc fr h true b (fun _ => rfl)
theorem Ru (fr : Bool) (h : Tr ba) (s : ByteArray) : aj.ek fr h (.sc (.string s)) = some s := aj.Lc fr h true s (fun _ => rfl)
theorem Ak {α : Type} (C : c6 α) (fr : Bool) (h : Tr ba) (a : AV) (h1 : a.known = true) (h2 : a.isAgg = false) (h3 : a.cells = [a]) : (cw C).ek fr h a = eh C fr h a := by
  rw [sf _ _ _ _ h1 h2, h3]; rfl
theorem ar7 {α : Type} (C : c6 α) (fr : Bool) (h : Tr ba) (l : Bool) (xs : List α) (hl : (l || !fr) = true) : (cw C).ek fr h (.vl l C.sz (xs.map (C.val l))) = some xs := by
  refine (cw C).Lc fr h l xs ?_
  cases fr <;> simp_all
theorem ab5 {α : Type} (C : c6 α) (fr : Bool) (h : Tr ba) : eh C fr h (.sc (.slice none 0 0)) = some [] := id rfl
theorem u6 {α : Type} (C : c6 α) (fr : Bool) (h : Tr ba) (l : Bool) (xs : List α) (n : Nat) (hn : n = C.sz) (hl : (l || !fr) = true) : eh C fr h (.vl l n (xs.map (C.val l))) = some xs := by
  subst hn
  have : (cw C).ek fr h (.vl l C.sz (xs.map (C.val l))) = some xs := ar7 C fr h l xs hl
  rwa [Ak C fr h _ rfl rfl rfl] at this
theorem ag9 {α : Type} (C : c6 α) (fr : Bool) (h : Tr ba) (o off len n : Nat) : eh C fr h (.sl o off len n) = bif decide (n = C.sz) then (h.get o).bind (nb C fr h off len) else none := by
  show (bif Nat.beq n C.sz then _ else _) = _
  rw [ajc]
theorem axh {α : Type} (C : c6 α) (fr : Bool) (h : Tr ba) (n : Nat) (l : List AV) : zn C fr h (n + 1) l = match C.dec fr h (l.take C.sz), zn C fr h n (l.drop C.sz) with | some x, some xs => some (x :: xs) | _, _ => none := id rfl
theorem Sa (fr : Bool) (h : Tr ba) (n : Int) (h0 : 0 ≤ n) (h1 : n < 256) : bz.dec fr h [.sc (.int .u8 n)] = some (UInt8.ofNat n.toNat) := by
  show u8V (.int .u8 n) = _; simp [u8V, h0, h1]
theorem at1 {α β : Type} (A : c6 α) (B : c6 β) (l : Bool) (p : α × β) : (r2 A B).E l p = .fe [A.val l p.1, B.val l p.2] := id rfl
theorem atm {α β γ : Type} (A : c6 α) (B : c6 β) (C : c6 γ) (l : Bool) (p : α × β × γ) : (r3 A B C).E l p = .fe [A.val l p.1, B.val l p.2.1, C.val l p.2.2] := id rfl
theorem asv {α : Type} (A : c6 α) (l : Bool) (x : α) : (r1 A).E l x = A.val l x := id rfl
theorem adh (T : dr) (g : Nat) (a b : Array Value) (args : List AV) : tw T (.sc (.func (.func g) a b)) args = sm T g (a.toList.map .sc ++ args ++ b.toList.map .sc) := id rfl
theorem aba (T : dr) (g : Nat) (a b : List AV) (args : List AV) : tw T (.fn (.func g) a b) args = sm T g (a ++ args ++ b) := id rfl
theorem Wn (f : Nat) (b : Bool) (m : List AV → M AV) (T : dr) (args : List AV) : sm ((f, b, m) :: T) f args = mono (m args) := by simp [sm, dr.find]
theorem Ql (f g : Nat) (b : Bool) (m : List AV → M AV) (T : dr) (args : List AV) (h : (f == g) = false) : sm ((f, b, m) :: T) g args = sm T g args := by
  have : f ≠ g := by simpa using h
  simp [sm, dr.find, mu this]
theorem adw {α : Type} (A : AC α) (F : α → Option AV) (args : List AV) (st : St) : dj A F args st = match A.get .nil args with | some x => (F x).map fun r => (r, st) | none => match A.get st.h args with | some x => (match F x with | some r => bif r.fresh then some (r, st) else none | none => none) | none => none := id rfl
theorem auo {α β : Type} (A : c6 α) (B : c6 β) (fr : Bool) (h : Tr ba) (a b : AV) : (r2 A B).get fr h (.fe [a, b]) = match A.ek fr h a, B.ek fr h b with | some x, some y => some (x, y) | _, _ => none := id rfl
theorem ats {α β γ : Type} (A : c6 α) (B : c6 β) (C : c6 γ) (fr : Bool) (h : Tr ba) (a b c : AV) : (r3 A B C).get fr h (.fe [a, b, c]) = match A.ek fr h a, B.ek fr h b, C.ek fr h c with | some x, some y, some z => some (x, y, z) | _, _, _ => none := id rfl
theorem as2 (h : Tr ba) : a0.get h [] = some () := id rfl
theorem ast {α β : Type} (C : c6 α) (R : AC β) (h : Tr ba) (a : AV) (r : List AV) : (aC C R).get h (a :: r) = match C.ek false h a, R.get h r with | some x, some y => some (x, y) | _, _ => none := id rfl
theorem as5 {α : Type} (A : c6 α) (fr : Bool) (h : Tr ba) (a : AV) : (r1 A).get fr h a = A.ek fr h a := id rfl
end cods
section
variable (P : Program)
theorem V2 (pl : Nat → Option (Nat × Nat)) (cells : List AV) : vu pl cells [] = some cells := id rfl
theorem Rz (pl : Nat → Option (Nat × Nat)) (cells : List AV) (i : Nat) (v : AV) (rest : List (Nat × AV)) : vu pl cells ((i, v) :: rest) = match pl i with
    | none => none
    | some (off, size) => bif !v.known || !(Nat.beq v.cells.length size) || !(Nat.ble (off + size) cells.length) then none else vu pl (cells.take off ++ v.cells ++ cells.drop (off + size)) rest := id rfl
def wb (t : TypeId) : Option (List AV × List (Nat × Nat)) :=
  match ey P t, P.underlying t with
  | some z, some (.struct fields) => (F4 P fields).map fun pl => (z.cells.toList.map .sc, pl)
  | _, _ => none
theorem Rs (t : TypeId) (ps : List (Nat × AV)) : qg P t ps = match wb P t with
    | some (z, pl) => .of ((vu (fun i => pl[i]?) z ps).map .agg)
    | none => qg P t ps := by
  cases hb : wb P t with
  | none => rfl
  | some q =>
    obtain ⟨z, pl⟩ := q
    simp only [wb] at hb
    split at hb
    · rename_i z' fs hz hu
      cases hp : F4 P fs with
      | none => simp [hp] at hb
      | some pl' =>
        simp [hp] at hb
        obtain ⟨rfl, rfl⟩ := hb
        simp [qg, hz, hu, hp]
    · cases hb
def Bz (t : TypeId) : Option (TypeId × Nat × List AV) :=
  match oy P t with
  | none => none
  | some e =>
    match de P e, ey P e with
    | some sz, some z => bif Nat.beq z.cells.size sz then some (e, sz, z.cells.toList.map .sc) else none
    | _, _ => none
theorem E2 (t : TypeId) (len : Nat) (ps : List (Nat × AV)) : jk P t len ps = match Bz P t with
    | some (e, sz, z) =>
      match vu (fun i => some (i * sz, sz)) (List.replicate len z).flatten ps with
      | some cells => bif Nat.ble (len * sz) 16777216 && Nat.ble len 16777216 then lg e sz len cells else .fail
      | none => .fail
    | none => jk P t len ps := by
  cases hb : Bz P t with
  | none => rfl
  | some q =>
    obtain ⟨e, sz, z⟩ := q
    simp only [Bz] at hb
    split at hb
    · cases hb
    · rename_i e' he
      split at hb
      · rename_i sz' z' hs hz
        cases hq : Nat.beq z'.cells.size sz' with
        | false => simp [hq] at hb
        | true =>
          simp [hq] at hb
          obtain ⟨rfl, rfl, rfl⟩ := hb
          simp only [jk, he, hs, hz, hq, Bool.and_true]
          rfl
      · cases hb
end
section ranges
variable (P : Program) (T : dr) (l az : Nat) (R : G6) (Q : QI) (pe : Option Ex) (L : SL) (st : St)
theorem Zp (f : Operand) (ps : Array Tmp) (a b : Code) (Q : QL) : wl P T az (.rangeFunc f ps a b) Q L st = ang P T f ps.toList (fun p => wl P T p a) (fun p => wl P T p b) az Q L st := id rfl
theorem ab0 : pf P T l R az .skip Q pe L st = Q .normal pe L st := id rfl
theorem Qi (i : Nat) (ops : Array Oper) : pf P T l R az (.region i ops false) Q pe L st = C4 P T l R az ops ops.toList (Q .normal) pe L st := id rfl
theorem af2 (a b : Code) : pf P T l R az (.seq a b) Q pe L st = pf P T l R az a (abr (pf P T l R az b) Q) pe L st := id rfl
theorem ach (c : Operand) (a b : Code) : pf P T l R az (.cond c a b) Q pe L st = A7 (cf L c) (pf P T l R az a Q) (pf P T l R az b Q) pe L st := id rfl
theorem W0 (i : Nat) (a : Code) : pf P T l R az (.block i a) Q pe L st = pf P T l R az a (Ps i Q) pe L st := id rfl
theorem ack (i : Nat) : pf P T l R az (.exit i) Q pe L st = Q (.exit i) pe L st := id rfl
theorem agx : pf P T l R az .ret Q pe L st = Q .ret pe L st := id rfl
theorem ako (W : QI → Option Ex → SL → St → Prop) : abr W Q .normal pe L st = W Q pe L st := id rfl
theorem al4 (W : QI → Option Ex → SL → St → Prop) (i : Nat) : abr W Q (.exit i) pe L st = Q (.exit i) pe L st := id rfl
theorem aj9 (W : QI → Option Ex → SL → St → Prop) : abr W Q .ret pe L st = Q .ret pe L st := id rfl
theorem aks (i : Nat) : Ps i Q .normal pe L st = Q .normal pe L st := id rfl
theorem aj5 (i : Nat) : Ps i Q .ret pe L st = Q .ret pe L st := id rfl
theorem al1 (i j : Nat) : Ps i Q (.exit j) pe L st = if j = i then Q .normal pe L st else Q (.exit j) pe L st := by
  show (bif Nat.beq j i then _ else _) = _
  rw [ajc]; by_cases h : j = i <;> simp [h]
theorem afh (Q' : QL) : yw Q' Q .normal pe L st = (pe = none ∧ Q' .normal L st) := id rfl
theorem afr (Q' : QL) (i : Nat) : yw Q' Q (.exit i) pe L st = Q (.exit i) pe L st := id rfl
theorem afi (Q' : QL) : yw Q' Q .ret pe L st = Q .ret pe L st := id rfl
theorem aga (Q : QL) (L0 : SL) : abu Q L0 .normal none L st = Q .normal L0 st := id rfl
theorem afl (Q : QL) (L0 : SL) (e : Ex) : abu Q L0 .ret (some e) L st = Q e L0 st := id rfl
theorem ab8 (ops : Array Oper) (K : Option Ex → SL → St → Prop) : C4 P T l R az ops [] K pe L st = K pe L st := id rfl
theorem Wt (ops : Array Oper) (o : Oper) (r : List Oper) (K : Option Ex → SL → St → Prop) : C4 P T l R az ops (o :: r) K pe L st = Hl ops o.guard (opI P T l R az o (C4 P T l R az ops r K)) (Un o.dst (C4 P T l R az ops r K)) pe L st := id rfl
theorem Re (ops : Array Oper) (X Y : Option Ex → SL → St → Prop) : Hl ops none X Y pe L st = X pe L st := id rfl
theorem Ts (ops : Array Oper) (j : Nat) (c : Bool) (X Y : Option Ex → SL → St → Prop) : Hl ops (some (j, c)) X Y pe L st = acu (lk L (tu ops j)) c X Y pe L st := id rfl
theorem Zo (b : Bool) (X Y : Option Ex → SL → St → Prop) : acu (.sc (.bool b)) true X Y pe L st = A7 (.sc (.bool b)) X Y pe L st := by cases b <;> simp [acu, yx, A3, Ei, A7, qk, AV.bool, AV.exact, oi]
theorem afk (X Y : Option Ex → SL → St → Prop) : A7 (.sc (.bool true)) X Y pe L st = X pe L st := by simp [A7, qk, AV.bool, AV.exact, oi]
theorem af9 (X Y : Option Ex → SL → St → Prop) : A7 (.sc (.bool false)) X Y pe L st = Y pe L st := by simp [A7, qk, AV.bool, AV.exact, oi]
theorem wz (b : Bool) (X Y : Option Ex → SL → St → Prop) : A7 (.sc (.bool b)) X Y pe L st = ((b = true → X pe L st) ∧ (b = false → Y pe L st)) := by simp [A7, qk, AV.bool, AV.exact, oi]
theorem Qc (d : Option Tmp) (K : Option Ex → SL → St → Prop) : Un d K pe L st = K pe (gp d (.sc undef) L) st := id rfl
theorem alc (o : Oper) (K : Option Ex → SL → St → Prop) : opI P T l R az o K pe L st = Ux P T R az o K pe L st (yieldOf l o L) := id rfl
theorem akz (o : Oper) (K : Option Ex → SL → St → Prop) : Ux P T R az o K pe L st none = Gc (fj P T o (cf L) st) o.dst L (K pe) := id rfl
theorem adt (d : Option Tmp) (K : Option Ex → SL → St → Prop) : Zm d L K .normal st = K none (gp d (.sc (.bool true)) L) st := id rfl
theorem aar (d : Option Tmp) (K : Option Ex → SL → St → Prop) : Zm d L K .ret st = K (some .ret) (gp d (.sc (.bool false)) L) st := id rfl
theorem ags (B : QL → SL → St → Prop) (X : Ex → St → Prop) : aq1 B X .normal L st = B (fun e _ st => X e st) L st := id rfl
theorem Vb (k : Nat) (va vb : Array Value) : Aa l (.sc (.func (.yield k) va vb)) = (Nat.beq k l && Nat.beq va.size 0 && Nat.beq vb.size 0) := id rfl
theorem Oc : yf [] [] L = L := id rfl
theorem I8 (t : Nat) (ts : List Nat) (v : AV) (vs : List AV) : yf (t :: ts) (v :: vs) L = yf ts vs ((t, v) :: L) := id rfl
theorem aog {α : Type} {b : Code} (keep : List Nat) (V : α → List AV) (O : α → List (Option ba)) (I : α → Prop) (μ : α → Nat) (x : α) (hx : I x) (hR : ∀ p args (X X' : Ex → St → Prop) st, (∀ e st, X e st → X' e st) → R p args X st → R p args X' st)
    (hv : ki az keep L st = V x) (ho : gj az keep L st = O x)
    (step : ∀ x, I x → pf P T l R az b (yw (xg az keep (fun vs os => ∃ y, I y ∧ μ y < μ x ∧ vs = V y ∧ os = O y) (fun _ _ _ => False)) Q) none (m7 keep (V x)) (bn (O x))) : pf P T l R az (.loop b) Q none L st :=
  ⟨rfl, sk.of (B := fun Q' L st => pf P T l R az b (yw Q' Q) none L st) keep V O I μ x hx hv ho (fun Q1 Q2 h L st hh => Pt hR b _ _ (fun e pe L st q => by
    cases e with
    | normal => exact ⟨q.1, h _ _ _ q.2⟩
    | ret => exact q
    | exit i => exact q) none L st hh) step⟩
theorem Nd {ps : List Tmp} {a b : Code} {L0 : SL} : ∀ p args (X X' : Ex → St → Prop) st, (∀ e st, X e st → X' e st) → n6 ps (fun p => wl P T p a) (fun p => wl P T p b) L0 p args X st → n6 ps (fun p => wl P T p a) (fun p => wl P T p b) L0 p args X' st :=
  fun p args X X' st hX hr => ⟨hr.1, hr.2.1, Gm _ _ _ (fun e L st q => by
    cases e with
    | normal => exact Gm _ _ _ (fun e _ st q => hX e st q) _ _ q
    | _ => exact q.elim) _ _ hr.2.2⟩
end ranges
section yields
variable {lp : Nat} {L : SL} {d : Option Tmp} {ty : TypeId} {pos : String} {af : Array Edge} {gd : Option (Nat × Bool)}
theorem I9 (x) : yieldOf lp ⟨d, .move x, ty, pos, af, gd⟩ L = none := id rfl
theorem Gx (x) : yieldOf lp ⟨d, .assign x, ty, pos, af, gd⟩ L = none := id rfl
theorem Kk (t a) : yieldOf lp ⟨d, .load t a, ty, pos, af, gd⟩ L = none := id rfl
theorem B7 (s x f) : yieldOf lp ⟨d, .fieldAddr s x f, ty, pos, af, gd⟩ L = none := id rfl
theorem Ii (op t x y u) : yieldOf lp ⟨d, .binOp op t x y u, ty, pos, af, gd⟩ L = none := id rfl
theorem Le (c a b) : yieldOf lp ⟨d, .pick c a b, ty, pos, af, gd⟩ L = none := id rfl
theorem Ik (t a x) : yieldOf lp ⟨d, .store t a x, ty, pos, af, gd⟩ L = none := id rfl
theorem B6 (t x i) : yieldOf lp ⟨d, .indexAddr t x i, ty, pos, af, gd⟩ L = none := id rfl
theorem Ih (t) : yieldOf lp ⟨d, .alloc t, ty, pos, af, gd⟩ L = none := id rfl
theorem Kr (op t x) : yieldOf lp ⟨d, .unOp op t x, ty, pos, af, gd⟩ L = none := id rfl
theorem N9 (x ts) : yieldOf lp ⟨d, .call { callee := .builtin .len, args := #[x], argTypes := ts }, ty, pos, af, gd⟩ L = none := id rfl
theorem Jl (f : Operand) (args : Array Operand) (ts : Array TypeId) : yieldOf lp ⟨d, .call { callee := .value f, args := args, argTypes := ts }, ty, pos, af, gd⟩ L = bif Aa lp (cf L f) then some args else none := id rfl
end yields
end
end Go.Vm
namespace Go.Vm
noncomputable section
section
variable (P : Program) (ρ : Operand → AV) (d : Option Tmp) (ty : TypeId) (pos : String) (af : Array Edge) (gd : Option (Nat × Bool)) (t u : TypeId) (x y : Operand)
theorem Lb (op : BinOp) (k k' : IntKind) (a b : Int) (hx : ρ x = .sc (.int k a)) (hy : ρ y = .sc (.int k' b)) :
    lz P ρ ⟨d, .binOp op t x y u, ty, pos, af, gd⟩ op t (.sc (.int k a)) (.sc (.int k' b)) = M.of ((ev P (binOp op t (.int k a) (.int k' b))).map .sc) := by
  have h1 : ∀ s : Sem Value, ev P (do pure (Next.value (← s))) = (ev P s).map Next.value := by
    intro s
    induction s with
    | pure b => rfl
    | program k ih => exact ih P
    | choose q k ih =>
      simp only [bind, Sem.bind, ev]
      split
      · exact ih 0
      · rfl
    | mark m k ih => exact ih
    | _ => rfl
  have h2 : execOp (fun z => ((ρ z).ff).getD undef) ⟨d, .binOp op t x y u, ty, pos, af, gd⟩ = (do pure (Next.value (← (do eqGuard op t x y (.int k a) (.int k' b); binOp op t (.int k a) (.int k' b))))) := by
    simp only [execOp, hx, hy, AV.ff, Option.getD_some]
  have h3 : ev P (do eqGuard op t x y (.int k a) (.int k' b); binOp op t (.int k a) (.int k' b)) = ev P (binOp op t (.int k a) (.int k' b)) := by
    cases op <;> rfl
  unfold lz qu
  simp only [AV.ff, Option.isSome_some, Bool.and_self, cond_true]
  rw [h2, h1, h3]
  cases ev P (binOp op t (.int k a) (.int k' b)) <;> rfl
theorem amx (k k' : IntKind) (a b : Int) (h : 0 ≤ b) : ev P (binOp .shl t (.int k a) (.int k' b)) = some (.int k (k.wrap (a * 2 ^ (min b.toNat k.bits)))) := by
  have : ¬ b < 0 := by omega
  simp [binOp, Op.shift, this, Aj]
theorem alk (k k' : IntKind) (a b : Int) (h : 0 ≤ b) : ev P (binOp .shr t (.int k a) (.int k' b)) = some (.int k (a.fdiv (2 ^ (min b.toNat k.bits)))) := by
  have : ¬ b < 0 := by omega
  simp [binOp, Op.shift, this, Aj]
theorem I5 (op : BinOp) (a b : Bool) (hx : ρ x = .sc (.bool a)) (hy : ρ y = .sc (.bool b)) :
    lz P ρ ⟨d, .binOp op t x y u, ty, pos, af, gd⟩ op t (.sc (.bool a)) (.sc (.bool b)) = M.of ((ev P (binOp op t (.bool a) (.bool b))).map .sc) := by
  have h1 : ∀ s : Sem Value, ev P (do pure (Next.value (← s))) = (ev P s).map Next.value := by
    intro s
    induction s with
    | pure b => rfl
    | program k ih => exact ih P
    | choose q k ih =>
      simp only [bind, Sem.bind, ev]
      split
      · exact ih 0
      · rfl
    | mark m k ih => exact ih
    | _ => rfl
  have h2 : execOp (fun z => ((ρ z).ff).getD undef) ⟨d, .binOp op t x y u, ty, pos, af, gd⟩ = (do pure (Next.value (← (do eqGuard op t x y (.bool a) (.bool b); binOp op t (.bool a) (.bool b))))) := by
    simp only [execOp, hx, hy, AV.ff, Option.getD_some]
  have h3 : ev P (do eqGuard op t x y (.bool a) (.bool b); binOp op t (.bool a) (.bool b)) = ev P (binOp op t (.bool a) (.bool b)) := by
    cases op <;> rfl
  unfold lz qu
  simp only [AV.ff, Option.isSome_some, Bool.and_self, cond_true]
  rw [h2, h1, h3]
  cases ev P (binOp op t (.bool a) (.bool b)) <;> rfl
theorem aaw {d : TypeDesc} (h : P.underlying t = some d) : ev P (underlying t) = some d := by
  rw [underlying]
  show ev P (match P.underlying t with | some d => pure d | none => _) = _
  rw [h]; rfl
theorem Y0 (n : Nat) (a b : Bool) (h : P.underlying t = some .bool) : ev P (Op.equalIn (n + 1) t (.bool a) (.bool b)) = some (a == b) := by
  simp only [Op.equalIn]
  rw [sd, aaw P t h]
  rfl
theorem Nj (a b : Bool) (h : P.underlying t = some .bool) : ev P (binOp .eql t (.bool a) (.bool b)) = some (.bool (a == b)) := by
  show ev P (do pure (Value.bool (← Op.equalIn (9999 + 1) t (.bool a) (.bool b)))) = _
  rw [sd, Y0 P t 9999 a b h]
  rfl
theorem Ko (op : BinOp) (a b : ByteArray) (hx : ρ x = .sc (.string a)) (hy : ρ y = .sc (.string b)) :
    lz P ρ ⟨d, .binOp op t x y u, ty, pos, af, gd⟩ op t (.sc (.string a)) (.sc (.string b)) = M.of ((ev P (binOp op t (.string a) (.string b))).map .sc) := by
  have h1 : ∀ s : Sem Value, ev P (do pure (Next.value (← s))) = (ev P s).map Next.value := by
    intro s
    induction s with
    | pure b => rfl
    | program k ih => exact ih P
    | choose q k ih =>
      simp only [bind, Sem.bind, ev]
      split
      · exact ih 0
      · rfl
    | mark m k ih => exact ih
    | _ => rfl
  have h2 : execOp (fun z => ((ρ z).ff).getD undef) ⟨d, .binOp op t x y u, ty, pos, af, gd⟩ = (do pure (Next.value (← (do eqGuard op t x y (.string a) (.string b); binOp op t (.string a) (.string b))))) := by
    simp only [execOp, hx, hy, AV.ff, Option.getD_some]
  have h3 : ev P (do eqGuard op t x y (.string a) (.string b); binOp op t (.string a) (.string b)) = ev P (binOp op t (.string a) (.string b)) := by
    cases op <;> rfl
  unfold lz qu
  simp only [AV.ff, Option.isSome_some, Bool.and_self, cond_true]
  rw [h2, h1, h3]
  cases ev P (binOp op t (.string a) (.string b)) <;> rfl
theorem str_eq (a b : ByteArray) : (a.toList == b.toList) = decide (a = b) := by
  rw [ByteArray.toList_eq, ByteArray.toList_eq, Bool.eq_iff_iff]
  simp only [beq_iff_eq, decide_eq_true_eq]
  constructor
  · intro h
    cases a; cases b
    congr 1
    exact Array.ext' h
  · intro h; rw [h]
theorem Sm (a b : ByteArray) : ev P (binOp .eql t (.string a) (.string b)) = some (.bool (decide (a = b))) := by
  rw [← str_eq]; rfl
theorem Rx (a b : ByteArray) : ev P (binOp .neq t (.string a) (.string b)) = some (.bool (!decide (a = b))) := by
  rw [← str_eq]; rfl
end
def Mo (u : Option TypeDesc) : Bool := match u with | some (.slice _) => true | _ => false
theorem ag0 (e) : Mo (some (.slice e)) = true := id rfl
theorem agk {u} (h : Mo u = true) : ∃ e, u = some (.slice e) := by
  unfold Mo at h; split at h
  · exact ⟨_, rfl⟩
  · cases h
theorem agb {P : Program} {t op x y} (h : Mo (P.underlying t) = true) : Fb P t op x y = Cm op x y := by
  obtain ⟨e, he⟩ := agk h
  unfold Fb; rw [he]
theorem Sl (P : Program) (ρ o op t l sz es b) : lz P ρ o op t (.vl l sz es) b = Fb P t op (.vl l sz es) b := id rfl
theorem af1 (b) : od .eql b = M.pure (.sc (.bool b)) := id rfl
theorem Gw (P : Program) (ρ : Operand → AV) (d ty pos af gd) (t u : TypeId) (x y : Operand) (op : BinOp) (a b : Option Addr) (n c m k : Nat) (hx : ρ x = .sc (.slice a n c)) (hy : ρ y = .sc (.slice b m k)) :
    lz P ρ ⟨d, .binOp op t x y u, ty, pos, af, gd⟩ op t (.sc (.slice a n c)) (.sc (.slice b m k)) = M.of ((ev P (binOp op t (.slice a n c) (.slice b m k))).map .sc) := by
  have h1 : ∀ s : Sem Value, ev P (do pure (Next.value (← s))) = (ev P s).map Next.value := by
    intro s
    induction s with
    | pure b => rfl
    | program k ih => exact ih P
    | choose q k ih =>
      simp only [bind, Sem.bind, ev]
      split
      · exact ih 0
      · rfl
    | mark m k ih => exact ih
    | _ => rfl
  have h2 : execOp (fun z => ((ρ z).ff).getD undef) ⟨d, .binOp op t x y u, ty, pos, af, gd⟩ = (do pure (Next.value (← (do eqGuard op t x y (.slice a n c) (.slice b m k); binOp op t (.slice a n c) (.slice b m k))))) := by
    simp only [execOp, hx, hy, AV.ff, Option.getD_some]
  have h3 : ev P (do eqGuard op t x y (.slice a n c) (.slice b m k); binOp op t (.slice a n c) (.slice b m k)) = ev P (binOp op t (.slice a n c) (.slice b m k)) := by
    cases op <;> rfl
  unfold lz qu
  simp only [AV.ff, Option.isSome_some, Bool.and_self, cond_true]
  rw [h2, h1, h3]
  cases ev P (binOp op t (.slice a n c) (.slice b m k)) <;> rfl
theorem Xq {P : Program} {t : TypeId} {a : Option Addr} {n c m k : Nat} (d : Nat) (h : Mo (P.underlying t) = true) : ev P (Op.equalIn (d + 1) t (.slice a n c) (.slice none m k)) = some a.isNone := by
  obtain ⟨e, he⟩ := agk h
  simp only [Op.equalIn]
  rw [sd, aaw P t he]
  cases a <;> rfl
theorem Jr {P : Program} {t : TypeId} {a : Option Addr} {n c m k : Nat} (h : Mo (P.underlying t) = true) : ev P (binOp .eql t (.slice a n c) (.slice none m k)) = some (.bool a.isNone) := by
  show ev P (do pure (Value.bool (← Op.equalIn (9999 + 1) t (.slice a n c) (.slice none m k)))) = _
  rw [sd, Xq 9999 h]
  rfl
end
end Go.Vm
namespace Go.Vm
noncomputable section
abbrev Name := List ByteArray
structure c7 where
  names : List Name
  nums : List UInt32
  texts : List ByteArray
  raw : List UInt8
def mkD (a : List Name) (b : List UInt32) (c : List ByteArray) (e : List UInt8) : c7 := ⟨a, b, c, e⟩
theorem afs (d : c7) : mkD d.names d.nums d.texts d.raw = d := id rfl
noncomputable def ar : c6 Name := cw aj
noncomputable def bt : c6 c7 := wg (iw (cw ar) (iw (cw dg) (iw ar (cw bz)))) (fun d => (d.names, d.nums, d.texts, d.raw)) (fun p => ⟨p.1, p.2.1, p.2.2.1, p.2.2.2⟩) (fun _ => rfl) (fun _ => rfl)
theorem da (l : Bool) (n : Name) : ar.val l n = .vl l 1 (n.map (aj.val l)) := id rfl
theorem oe : ar.sz = 1 := id rfl
theorem Sq : bt.sz = 4 := id rfl
theorem oh (l : Bool) (d : c7) : bt.val l d = .agg [.vl l 1 (d.names.map (ar.val l)), .vl l 1 (d.nums.map (dg.val l)), .vl l 1 (d.texts.map (aj.val l)), .vl l 1 (d.raw.map (bz.val l))] := id rfl
theorem Nu (fr : Bool) (h : Tr ba) (x1 x2 x3 x4 : AV) :
    bt.ek fr h (.agg [x1, x2, x3, x4]) = match eh ar fr h x1, eh dg fr h x2, eh aj fr h x3, eh bz fr h x4 with
      | some a, some b, some c, some e => some (mkD a b c e)
      | _, _, _, _ => none := by
  rw [sf _ _ _ _ rfl rfl]
  have h1 : bt.dec fr h (AV.agg [x1, x2, x3, x4]).cells = Option.map (fun p => (⟨p.1, p.2.1, p.2.2.1, p.2.2.2⟩ : c7)) ((iw (cw ar) (iw (cw dg) (iw ar (cw bz)))).dec fr h [x1, x2, x3, x4]) := rfl
  have d2 : ∀ {α β : Type} (A : c6 α) (B : c6 β) (l : List AV), (iw A B).dec fr h l = match A.dec fr h (l.take A.sz), B.dec fr h (l.drop A.sz) with | some x, some y => some (x, y) | _, _ => none := fun _ _ _ => rfl
  have l1 : ∀ {α : Type} (C : c6 α) (x : AV), (cw C).dec fr h [x] = eh C fr h x := fun _ _ => rfl
  have n1 : ∀ x, ar.dec fr h [x] = eh aj fr h x := fun _ => rfl
  rw [h1]
  simp only [d2, u0, oe, List.take_succ_cons, List.take_zero, List.drop_succ_cons, List.drop_zero, l1, n1]
  cases eh ar fr h x1 <;> cases eh dg fr h x2 <;> cases eh aj fr h x3 <;> cases eh bz fr h x4 <;> rfl
theorem Ki {α : Type} (C : c6 α) (fr : Bool) (h : Tr ba) (l : Bool) (n : Nat) (es : List AV) : (cw C).ek fr h (.vl l n es) = eh C fr h (.vl l n es) := Ak C fr h _ rfl rfl rfl
theorem Lk {α : Type} (C : c6 α) (fr : Bool) (h : Tr ba) (o off len n : Nat) : (cw C).ek fr h (.sl o off len n) = eh C fr h (.sl o off len n) := Ak C fr h _ rfl rfl rfl
theorem B5 {α : Type} (C : c6 α) (fr : Bool) (h : Tr ba) : (cw C).ek fr h (.sc (.slice none 0 0)) = some [] := by
  rw [Ak C fr h _ rfl rfl rfl]; rfl
theorem E4 (fr : Bool) (h : Tr ba) (l : Bool) (n : Nat) (es : List AV) : ar.ek fr h (.vl l n es) = eh aj fr h (.vl l n es) := Ak aj fr h _ rfl rfl rfl
theorem E8 (fr : Bool) (h : Tr ba) (o off len n : Nat) : ar.ek fr h (.sl o off len n) = eh aj fr h (.sl o off len n) := Ak aj fr h _ rfl rfl rfl
theorem Da (fr : Bool) (h : Tr ba) : ar.ek fr h (.sc (.slice none 0 0)) = some [] := B5 aj fr h
theorem Dr (l : List UInt8) : l.map z9 = l.map (bz.val false) := id rfl
theorem Kp {α : Type} (C : c6 α) (b : Bool) (l : List α) : AV.names.go (l.map (C.val b)) = [] := Fs (fun c hc => by
  obtain ⟨x, _, rfl⟩ := List.mem_map.1 hc
  exact Ek C b x)
theorem xb : ∀ (l : List UInt8) (b : Bool), bytesOf (l.map (bz.val b)) = some l
  | [], _ => rfl
  | c :: l, b => by
    rw [List.map_cons, Eu, bytesOf, xb l b]
    simp
end
end Go.Vm
section
namespace Go.Vm.Cx
open Go.Vm
noncomputable section
theorem Bv {P : Program} (w : World) : ∀ (ns : List Int) (a : Addr) (i : Nat) (acc : ByteArray), (∀ (j : Nat) x, ns[j]? = some x → (load (a.add (i + j))).run P w = .ok (.int .u8 x) w) →
    (Extern.Bytes.loadBytes (a.add i) ns.length acc).run P w = .ok ⟨acc.data ++ (ns.map fun n => UInt8.ofNat n.toNat).toArray⟩ w
  | [], a, i, acc, _ => by simp [Extern.Bytes.loadBytes]
  | x :: l, a, i, acc, h => by
    have h0 := h 0 x rfl
    rw [Nat.add_zero] at h0
    have e : (a.add i).add 1 = a.add (i + 1) := by
      unfold Addr.add
      by_cases hj : i = 0
      · subst hj; simp
      · simp [hj]; omega
    have ih := Bv (P := P) w l a (i + 1) (acc.push x.toNat.toUInt8) (fun j y hy => by
      have := h (j + 1) y (by simpa using hy)
      rw [show i + 1 + j = i + (j + 1) from by omega]; exact this)
    simp only [List.length_cons, Extern.Bytes.loadBytes, Sem.run_bind, h0, Result.andThen]
    rw [e, ih]
    congr 1
    apply ByteArray.ext
    simp [ByteArray.push, Nat.toUInt8]
theorem Ug {l : List Int} {l' : List Value} (h : l' = l.map (Value.int .u8)) (j : Nat) (x : Int) (hx : l[j]? = some x) : l'[j]? = some (.int .u8 x) := by rw [h, List.getElem?_map, hx]; rfl
theorem Bj {P : Program} {g st bc w} {a : AV} {v : Value} {l : List AV} {bs : List UInt8} (hok : Ok g st.h w) (hr : Rel g w a v) (h : cellsIn 1 a st = some (l, bc)) (hb : bytesOf l = some bs) :
    (Extern.Bytes.bytesOf v).run P w = .ok ⟨bs.toArray⟩ w := by
  obtain ⟨_, _, n, news, hsrc, hrl⟩ := wy (P := P) hok hr h
  obtain ⟨ns, e1, e2⟩ := Ce _ _ _ hrl hb
  obtain ⟨r1, r2⟩ := hsrc.run w rfl
  cases v with
  | slice p len cap =>
    have hn : n = len := by simp [Builtin.lenOf] at r1; exact r1.symm
    subst hn
    cases p with
    | none =>
      have : news = [] := by simpa [Builtin.firstCells] using r2
      subst this
      have : ns = [] := by simpa using e1.symm
      subst this
      subst e2
      rfl
    | some a =>
      simp only [Builtin.firstCells, Nat.mul_one] at r2
      unfold loadCells at r2
      obtain ⟨l', q1, q2, q3⟩ := loadCellsFrom_ok a n 0 #[] _ _ r2
      have hl' : l' = news := by simpa using q2.symm
      subst hl'
      have hlen : ns.length = n := by rw [← q1, e1, List.length_map]
      have := Bv (P := P) w ns a 0 .empty (fun j x hx => by
        exact q3 j _ (Ug e1 j x hx))
      rw [hlen] at this
      have e0 : a.add 0 = a := by simp [Addr.add]
      rw [e0] at this
      show (Extern.Bytes.loadBytes a n .empty).run P w = _
      rw [this, e2]
      congr 2
      simp [ByteArray.empty, ByteArray.emptyWithCapacity]
      rfl
  | string s =>
    have hn : n = s.size := by simp [Builtin.lenOf] at r1; exact r1.symm
    subst hn
    simp only [Builtin.firstCells, Sem.run_pure, Result.ok.injEq, and_true] at r2
    have h1 := congrArg Array.toList r2
    rw [e1] at h1
    show Result.ok s w = _
    congr 1
    apply ByteArray.ext
    apply Array.ext'
    rw [e2]
    have h2 := congrArg (List.map fun v : Value => match v with | .int _ n => UInt8.ofNat n.toNat | _ => 0) h1
    simp only [List.map_map, Array.toList_map] at h2
    have h3 : (s.extract 0 s.size).data.toList = s.data.toList := by simp
    rw [h3] at h2
    have h4 : (List.map ((fun v : Value => match v with | .int _ n => UInt8.ofNat n.toNat | _ => 0) ∘ fun b : UInt8 => Value.int .u8 (b.toNat : Int)) s.data.toList) = s.data.toList := by
      rw [show ((fun v : Value => match v with | .int _ n => UInt8.ofNat n.toNat | _ => 0) ∘ fun b : UInt8 => Value.int .u8 (b.toNat : Int)) = id from by funext b; simp]
      simp
    rw [h4] at h2
    rw [h2]
    simp
  | _ => simp [Builtin.lenOf, stuck] at r1
def px (args : List AV) : M AV :=
  match args with
  | [a] => .pure a
  | _ => .fail
def eu (args : List AV) : M AV :=
  match args with
  | [a, b] => (cellsIn 1 a).bind fun x => (cellsIn 1 b).bind fun y =>
    match bytesOf x with
    | some x =>
      match bytesOf y with
      | some y => .pure (.sc (goInt (Lib.compareBytes x y)))
      | none => .fail
    | none => .fail
  | _ => .fail
def dq {α : Type} (m : M α) : Prop := ∀ st v bc, m st = some (v, bc) → bc.h = st.h ∧ bc.nx = st.nx
theorem dq.pure {α : Type} (a : α) : dq (M.pure a) := fun st v bc h => by cases h; exact ⟨rfl, rfl⟩
theorem dq.fail {α : Type} : dq (M.fail : M α) := fun st v bc h => by cases h
theorem dq.bind {α β : Type} {m : M α} {f : α → M β} (hm : dq m) (h : ∀ x, dq (f x)) : dq (m.bind f) := fun st v bc hb => by
  obtain ⟨x, s1, h1, h2⟩ := bind_some hb
  have h3 := hm _ _ _ h1
  have h4 := h x _ _ _ h2
  exact ⟨h4.1.trans h3.1, h4.2.trans h3.2⟩
theorem dq.cr (id : Nat) : dq (Vm.cr id) := fun _st _v _st1 h => (fl h).2
theorem dq.cond {α : Type} {b : Bool} {x y : M α} (hx : dq x) (hy : dq y) : dq (bif b then x else y) := by cases b <;> assumption
theorem dq.cellsIn (sz : Nat) (v : AV) : dq (Vm.cellsIn sz v) := by
  unfold Vm.cellsIn xq
  repeat' (first | exact dq.pure _ | exact dq.fail | apply dq.cond | (refine dq.bind (dq.cr _) fun x => ?_) | split)
theorem z7 (args : List AV) : dq (eu args) := by
  unfold eu; split
  · exact dq.bind (dq.cellsIn _ _) fun x => dq.bind (dq.cellsIn _ _) fun y => by
      split
      · split
        · exact dq.pure _
        · exact dq.fail
      · exact dq.fail
  · exact dq.fail
theorem mn {P : Program} {f : Nat} {fn : Func} (hf : P.funcs[f]? = some fn) (h1 : (fn.name == "runtime.NumGoroutine") = false) (h2 : fn.body.isNone = true) (h3 : Extern.findNext fn = none) (h4 : Extern.find fn = some Extern.AbiNoEscape.same) (args : List AV) :
    Ba P f args (px args) := by
  intro g st w vs r st' hok hfree hrel hm
  refine .inl ?_
  unfold px at hm
  split at hm
  · rename_i a
    cases hm
    obtain ⟨v, rfl, hv⟩ := Aq hrel
    refine ⟨v, w, g, ?_, .refl _ _ _ _ _, hok, hv⟩
    rw [run_callFunc_extern hf h1 h2 h3 h4]
    rfl
  · cases hm
theorem il {P : Program} {f : Nat} {fn : Func} (hf : P.funcs[f]? = some fn) (h1 : (fn.name == "runtime.NumGoroutine") = false) (h2 : fn.body.isNone = true) (h3 : Extern.findNext fn = none) (h4 : Extern.find fn = some Extern.BytealgCompare.compare) (args : List AV) :
    Ba P f args (eu args) := by
  intro g st w vs r st' hok hfree hrel hm
  refine .inl ?_
  have hst := z7 _ _ _ _ hm
  unfold eu at hm
  split at hm
  · rename_i a c
    obtain ⟨x, s1, e1, hm⟩ := bind_some hm
    obtain ⟨y, s2, e2, hm⟩ := bind_some hm
    cases hx : bytesOf x with
    | none => rw [hx] at hm; cases hm
    | some bx =>
    cases hy : bytesOf y with
    | none => rw [hx, hy] at hm; cases hm
    | some yb =>
    rw [hx, hy] at hm
    cases hm
    have hh := dq.cellsIn _ _ _ _ _ e1
    match vs, hrel with
    | [v, u], hrel =>
      have r1 := Bj (P := P) hok hrel.head e1 hx
      have r2 := Bj (P := P) (st := s1) (by rw [hh.1]; exact hok) hrel.tail.head e2 hy
      refine ⟨goInt (Lib.compareBytes bx yb), w, g, ?_, ?_, ?_, .sc _⟩
      · rw [run_callFunc_extern hf h1 h2 h3 h4]
        have : (Extern.BytealgCompare.compare #[v, u]).run P w = .ok (goInt (Lib.compareBytes bx yb)) w := by
          change Sem.run P (do pure (goInt (Extern.BytealgCompare.cmp (← Extern.Bytes.bytesOf v) (← Extern.Bytes.bytesOf u)))) w = _
          simp only [Sem.run_bind, r1, r2, Result.andThen, Sem.run_pure]
          rw [Lib.cmp_eq]
        show ((Extern.BytealgCompare.compare #[v, u]).run P w).andThen _ = _
        rw [this]
        rfl
      · rw [hst.1, hst.2]; exact .refl _ _ _ _ _
      · rw [hst.1]; exact hok
    | [], hrel => have := hrel.1; simp at this
    | [v], hrel => have := hrel.1; simp at this
    | _ :: _ :: _ :: _, hrel => have := hrel.1; simp at this
  · cases hm
end
end Go.Vm.Cx
end
section
set_option linter.unusedSimpArgs false
set_option linter.unnecessarySimpa false
namespace Go.Vm
noncomputable section
def roT (o : Option (Bool × (List AV → M AV))) : Bool := match o with | some (b, _) => b | none => false
theorem apz (b m) : roT (some (b, m)) = b := id rfl
theorem dy {o : Oper} {L : SL} {x : Operand} (h : x ∈ o.op.operands) : br o L x = cf L x := by
  cases x with
  | tmp t =>
    show (bif o.op.operands.any (fun x => match x with | .tmp u => Nat.beq u t | _ => false) then lk L t else .bad) = lk L t
    have : o.op.operands.any (fun x => match x with | .tmp u => Nat.beq u t | _ => false) = true := by
      rw [Array.any_eq_true']
      exact ⟨_, h, by simp⟩
    rw [this]; rfl
  | const v => rfl
  | global g => rfl
  | func f => rfl
theorem gu {o : Oper} {L : SL} {l : List Operand} (h : ∀ x ∈ l, x ∈ o.op.operands) : l.map (br o L) = l.map (cf L) := List.map_congr_left fun x hx => dy (h x hx)
theorem Oj {o : Oper} {L : SL} {l : List (Nat × Operand)} (h : ∀ x ∈ l, x.2 ∈ o.op.operands) : l.map (fun p => (p.1, br o L p.2)) = l.map (fun p => (p.1, cf L p.2)) := List.map_congr_left fun x hx => by rw [dy (h x hx)]
def er (ro : Bool) (F : List Nat) (o : Oper) (recs : List Rec) (K : List Rec → SL → St → Prop) (L : SL) (st : St) (m : M AV) : Prop := C3 ro F o recs K L st (m { h := ke st.h F, nx := st.nx, rl := [], wl := [] })
theorem Vc (ro F o recs K L st m) : er ro F o recs K L st m = C3 ro F o recs K L st (m { h := ke st.h F, nx := st.nx, rl := [], wl := [] }) := id rfl
section ops
variable (P : Program) (T : dr) (L : SL) (st : St) (recs : List Rec) (K : List Rec → SL → St → Prop) (d : Option Tmp) (ty : TypeId) (pos : String) (af : Array Edge) (gd : Option (Nat × Bool))
theorem Zw (x) : fi P T ⟨d, .move x, ty, pos, af, gd⟩ recs K L st = er (true) ([]) ⟨d, .move x, ty, pos, af, gd⟩ recs K L st (mono (M.pure (cf L x))) := by
  unfold fi kh l8 er
  simp only [jd, cond_true]
  have hm : ∀ y, y ∈ ([x] : List Operand) → br ⟨d, .move x, ty, pos, af, gd⟩ L y = cf L y := fun y hy => dy (by simpa [Op.operands, Call.operands] using hy)
  have hmap : ([x] : List Operand).map (br ⟨d, .move x, ty, pos, af, gd⟩ L) = ([x] : List Operand).map (cf L) := gu (fun y hy => by simpa [Op.operands, Call.operands] using hy)
  have ho : (⟨d, .move x, ty, pos, af, gd⟩ : Oper).op.operands.toList = [x] := by simp [Op.operands, Call.operands]
  rw [Ie, hm x (by simp)]
  rfl
theorem P6 (x) : fi P T ⟨d, .assign x, ty, pos, af, gd⟩ recs K L st = er (true) ([]) ⟨d, .assign x, ty, pos, af, gd⟩ recs K L st (mono (M.pure (cf L x))) := by
  unfold fi kh l8 er
  simp only [jd, cond_true]
  have hm : ∀ y, y ∈ ([x] : List Operand) → br ⟨d, .assign x, ty, pos, af, gd⟩ L y = cf L y := fun y hy => dy (by simpa [Op.operands, Call.operands] using hy)
  have hmap : ([x] : List Operand).map (br ⟨d, .assign x, ty, pos, af, gd⟩ L) = ([x] : List Operand).map (cf L) := gu (fun y hy => by simpa [Op.operands, Call.operands] using hy)
  have ho : (⟨d, .assign x, ty, pos, af, gd⟩ : Oper).op.operands.toList = [x] := by simp [Op.operands, Call.operands]
  rw [Dt, hm x (by simp)]
  rfl
theorem Y4 (t a) : fi P T ⟨d, .load t a, ty, pos, af, gd⟩ recs K L st = er (true) ((cf L a).names) ⟨d, .load t a, ty, pos, af, gd⟩ recs K L st (mono (jj P t (cf L a))) := by
  unfold fi kh l8 er
  simp only [jd, cond_false]
  have hm : ∀ y, y ∈ ([a] : List Operand) → br ⟨d, .load t a, ty, pos, af, gd⟩ L y = cf L y := fun y hy => dy (by simpa [Op.operands, Call.operands] using hy)
  have hmap : ([a] : List Operand).map (br ⟨d, .load t a, ty, pos, af, gd⟩ L) = ([a] : List Operand).map (cf L) := gu (fun y hy => by simpa [Op.operands, Call.operands] using hy)
  have ho : (⟨d, .load t a, ty, pos, af, gd⟩ : Oper).op.operands.toList = [a] := by simp [Op.operands, Call.operands]
  rw [H6, hm a (by simp)]
  rfl
theorem Iz (s x f) : fi P T ⟨d, .fieldAddr s x f, ty, pos, af, gd⟩ recs K L st = er (true) ([]) ⟨d, .fieldAddr s x f, ty, pos, af, gd⟩ recs K L st (mono (kq P s (cf L x) f)) := by
  unfold fi kh l8 er
  simp only [jd, cond_true]
  have hm : ∀ y, y ∈ ([x] : List Operand) → br ⟨d, .fieldAddr s x f, ty, pos, af, gd⟩ L y = cf L y := fun y hy => dy (by simpa [Op.operands, Call.operands] using hy)
  have hmap : ([x] : List Operand).map (br ⟨d, .fieldAddr s x f, ty, pos, af, gd⟩ L) = ([x] : List Operand).map (cf L) := gu (fun y hy => by simpa [Op.operands, Call.operands] using hy)
  have ho : (⟨d, .fieldAddr s x f, ty, pos, af, gd⟩ : Oper).op.operands.toList = [x] := by simp [Op.operands, Call.operands]
  rw [zm, hm x (by simp)]
  rfl
theorem Wp (op t x y u) : fi P T ⟨d, .binOp op t x y u, ty, pos, af, gd⟩ recs K L st = er (true) ([]) ⟨d, .binOp op t x y u, ty, pos, af, gd⟩ recs K L st (mono (xl P (br ⟨d, .binOp op t x y u, ty, pos, af, gd⟩ L) ⟨d, .binOp op t x y u, ty, pos, af, gd⟩ op t x y)) := by
  unfold fi kh l8 er
  simp only [jd, cond_true]
  have hm : ∀ y, y ∈ ([x, y] : List Operand) → br ⟨d, .binOp op t x y u, ty, pos, af, gd⟩ L y = cf L y := fun y hy => dy (by simpa [Op.operands, Call.operands] using hy)
  have hmap : ([x, y] : List Operand).map (br ⟨d, .binOp op t x y u, ty, pos, af, gd⟩ L) = ([x, y] : List Operand).map (cf L) := gu (fun y hy => by simpa [Op.operands, Call.operands] using hy)
  have ho : (⟨d, .binOp op t x y u, ty, pos, af, gd⟩ : Oper).op.operands.toList = [x, y] := by simp [Op.operands, Call.operands]
  rfl
theorem aa7 (c a b) : fi P T ⟨d, .pick c a b, ty, pos, af, gd⟩ recs K L st = er (true) ([]) ⟨d, .pick c a b, ty, pos, af, gd⟩ recs K L st (mono (uu (cf L c) (cf L a) (cf L b))) := by
  unfold fi kh l8 er
  simp only [jd, cond_true]
  have hm : ∀ y, y ∈ ([c, a, b] : List Operand) → br ⟨d, .pick c a b, ty, pos, af, gd⟩ L y = cf L y := fun y hy => dy (by simpa [Op.operands, Call.operands] using hy)
  have hmap : ([c, a, b] : List Operand).map (br ⟨d, .pick c a b, ty, pos, af, gd⟩ L) = ([c, a, b] : List Operand).map (cf L) := gu (fun y hy => by simpa [Op.operands, Call.operands] using hy)
  have ho : (⟨d, .pick c a b, ty, pos, af, gd⟩ : Oper).op.operands.toList = [c, a, b] := by simp [Op.operands, Call.operands]
  rw [Hf, hm c (by simp), hm a (by simp), hm b (by simp)]
  rfl
theorem W7 (t a x) : fi P T ⟨d, .store t a x, ty, pos, af, gd⟩ recs K L st = er (false) ((cf L a).names) ⟨d, .store t a x, ty, pos, af, gd⟩ recs K L st (mono (oz P t (cf L a) (cf L x))) := by
  unfold fi kh l8 er
  simp only [jd, cond_false]
  have hm : ∀ y, y ∈ ([a, x] : List Operand) → br ⟨d, .store t a x, ty, pos, af, gd⟩ L y = cf L y := fun y hy => dy (by simpa [Op.operands, Call.operands] using hy)
  have hmap : ([a, x] : List Operand).map (br ⟨d, .store t a x, ty, pos, af, gd⟩ L) = ([a, x] : List Operand).map (cf L) := gu (fun y hy => by simpa [Op.operands, Call.operands] using hy)
  have ho : (⟨d, .store t a x, ty, pos, af, gd⟩ : Oper).op.operands.toList = [a, x] := by simp [Op.operands, Call.operands]
  rw [Ff, hm a (by simp), hm x (by simp)]
  rfl
theorem Oe (t i) : fi P T ⟨d, .extract t i, ty, pos, af, gd⟩ recs K L st = er (true) ([]) ⟨d, .extract t i, ty, pos, af, gd⟩ recs K L st (mono (nm (cf L t) i)) := by
  unfold fi kh l8 er
  simp only [jd, cond_true]
  have hm : ∀ y, y ∈ ([t] : List Operand) → br ⟨d, .extract t i, ty, pos, af, gd⟩ L y = cf L y := fun y hy => dy (by simpa [Op.operands, Call.operands] using hy)
  have hmap : ([t] : List Operand).map (br ⟨d, .extract t i, ty, pos, af, gd⟩ L) = ([t] : List Operand).map (cf L) := gu (fun y hy => by simpa [Op.operands, Call.operands] using hy)
  have ho : (⟨d, .extract t i, ty, pos, af, gd⟩ : Oper).op.operands.toList = [t] := by simp [Op.operands, Call.operands]
  rw [B4, hm t (by simp)]
  rfl
theorem Ip (t x i) : fi P T ⟨d, .indexAddr t x i, ty, pos, af, gd⟩ recs K L st = er (true) ([]) ⟨d, .indexAddr t x i, ty, pos, af, gd⟩ recs K L st (mono (kr P t (cf L x) (cf L i))) := by
  unfold fi kh l8 er
  simp only [jd, cond_true]
  have hm : ∀ y, y ∈ ([x, i] : List Operand) → br ⟨d, .indexAddr t x i, ty, pos, af, gd⟩ L y = cf L y := fun y hy => dy (by simpa [Op.operands, Call.operands] using hy)
  have hmap : ([x, i] : List Operand).map (br ⟨d, .indexAddr t x i, ty, pos, af, gd⟩ L) = ([x, i] : List Operand).map (cf L) := gu (fun y hy => by simpa [Op.operands, Call.operands] using hy)
  have ho : (⟨d, .indexAddr t x i, ty, pos, af, gd⟩ : Oper).op.operands.toList = [x, i] := by simp [Op.operands, Call.operands]
  rw [yy, hm x (by simp), hm i (by simp)]
  rfl
theorem Ln (x) : fi P T ⟨d, .nilCheck x, ty, pos, af, gd⟩ recs K L st = er (true) ([]) ⟨d, .nilCheck x, ty, pos, af, gd⟩ recs K L st (mono (j9 (cf L x))) := by
  unfold fi kh l8 er
  simp only [jd, cond_true]
  have hm : ∀ y, y ∈ ([x] : List Operand) → br ⟨d, .nilCheck x, ty, pos, af, gd⟩ L y = cf L y := fun y hy => dy (by simpa [Op.operands, Call.operands] using hy)
  have hmap : ([x] : List Operand).map (br ⟨d, .nilCheck x, ty, pos, af, gd⟩ L) = ([x] : List Operand).map (cf L) := gu (fun y hy => by simpa [Op.operands, Call.operands] using hy)
  have ho : (⟨d, .nilCheck x, ty, pos, af, gd⟩ : Oper).op.operands.toList = [x] := by simp [Op.operands, Call.operands]
  rw [Ac, hm x (by simp)]
  rfl
theorem Wc (t) : fi P T ⟨d, .alloc t, ty, pos, af, gd⟩ recs K L st = er (true) (reach st.h eg [] []) ⟨d, .alloc t, ty, pos, af, gd⟩ recs K L st (mono (ri P t)) := by
  unfold fi kh l8 er
  simp only [jd, cond_false]
  have hm : ∀ y, y ∈ ([] : List Operand) → br ⟨d, .alloc t, ty, pos, af, gd⟩ L y = cf L y := fun y hy => dy (by simpa [Op.operands, Call.operands] using hy)
  have hmap : ([] : List Operand).map (br ⟨d, .alloc t, ty, pos, af, gd⟩ L) = ([] : List Operand).map (cf L) := gu (fun y hy => by simpa [Op.operands, Call.operands] using hy)
  have ho : (⟨d, .alloc t, ty, pos, af, gd⟩ : Oper).op.operands.toList = [] := by simp [Op.operands, Call.operands]
  rw [ho, hmap]
  rfl
theorem Vd (t ps) : fi P T ⟨d, .build t ps, ty, pos, af, gd⟩ recs K L st = er (true) (reach st.h eg (AV.names.go ((ps.toList.map (·.2)).map (cf L))) []) ⟨d, .build t ps, ty, pos, af, gd⟩ recs K L st (mono (qg P t (ps.toList.map fun p => (p.1, cf L p.2)))) := by
  unfold fi kh l8 er
  simp only [jd, cond_false]
  have hm : ∀ y, y ∈ ((ps.toList.map (·.2)) : List Operand) → br ⟨d, .build t ps, ty, pos, af, gd⟩ L y = cf L y := fun y hy => dy (by simpa [Op.operands, Call.operands] using hy)
  have hmap : ((ps.toList.map (·.2)) : List Operand).map (br ⟨d, .build t ps, ty, pos, af, gd⟩ L) = ((ps.toList.map (·.2)) : List Operand).map (cf L) := gu (fun y hy => by simpa [Op.operands, Call.operands] using hy)
  have ho : (⟨d, .build t ps, ty, pos, af, gd⟩ : Oper).op.operands.toList = (ps.toList.map (·.2)) := by simp [Op.operands, Call.operands]
  rw [ho, hmap]
  rw [F0, Oj (fun x hx => by simp [Op.operands]; exact ⟨_, by simpa using hx⟩)]
  rfl
theorem G4 (t n ps) : fi P T ⟨d, .buildSlice t n ps, ty, pos, af, gd⟩ recs K L st = er (true) (reach st.h eg (AV.names.go ((ps.toList.map (·.2)).map (cf L))) []) ⟨d, .buildSlice t n ps, ty, pos, af, gd⟩ recs K L st (mono (jk P t n (ps.toList.map fun p => (p.1, cf L p.2)))) := by
  unfold fi kh l8 er
  simp only [jd, cond_false]
  have hm : ∀ y, y ∈ ((ps.toList.map (·.2)) : List Operand) → br ⟨d, .buildSlice t n ps, ty, pos, af, gd⟩ L y = cf L y := fun y hy => dy (by simpa [Op.operands, Call.operands] using hy)
  have hmap : ((ps.toList.map (·.2)) : List Operand).map (br ⟨d, .buildSlice t n ps, ty, pos, af, gd⟩ L) = ((ps.toList.map (·.2)) : List Operand).map (cf L) := gu (fun y hy => by simpa [Op.operands, Call.operands] using hy)
  have ho : (⟨d, .buildSlice t n ps, ty, pos, af, gd⟩ : Oper).op.operands.toList = (ps.toList.map (·.2)) := by simp [Op.operands, Call.operands]
  rw [ho, hmap]
  rw [xu, Oj (fun x hx => by simp [Op.operands]; exact ⟨_, by simpa using hx⟩)]
  rfl
theorem V9 (t x l h m) : fi P T ⟨d, .slice t x l h m, ty, pos, af, gd⟩ recs K L st = er (true) (reach st.h eg (AV.names.go ((#[x] ++ l.toArray ++ h.toArray ++ m.toArray).toList.map (cf L))) []) ⟨d, .slice t x l h m, ty, pos, af, gd⟩ recs K L st (mono (qx P (br ⟨d, .slice t x l h m, ty, pos, af, gd⟩ L) ⟨d, .slice t x l h m, ty, pos, af, gd⟩ t x l h m)) := by
  unfold fi kh l8 er
  simp only [jd, cond_false]
  have hm : ∀ y, y ∈ ((#[x] ++ l.toArray ++ h.toArray ++ m.toArray).toList : List Operand) → br ⟨d, .slice t x l h m, ty, pos, af, gd⟩ L y = cf L y := fun y hy => dy (by simpa [Op.operands, Call.operands] using hy)
  have hmap : ((#[x] ++ l.toArray ++ h.toArray ++ m.toArray).toList : List Operand).map (br ⟨d, .slice t x l h m, ty, pos, af, gd⟩ L) = ((#[x] ++ l.toArray ++ h.toArray ++ m.toArray).toList : List Operand).map (cf L) := gu (fun y hy => by simpa [Op.operands, Call.operands] using hy)
  have ho : (⟨d, .slice t x l h m, ty, pos, af, gd⟩ : Oper).op.operands.toList = (#[x] ++ l.toArray ++ h.toArray ++ m.toArray).toList := by simp [Op.operands, Call.operands]
  rw [ho, hmap]
  rfl
theorem aor (op t x) : fi P T ⟨d, .unOp op t x, ty, pos, af, gd⟩ recs K L st = er (true) (reach st.h eg (AV.names.go ([x].map (cf L))) []) ⟨d, .unOp op t x, ty, pos, af, gd⟩ recs K L st (mono (g7 P (br ⟨d, .unOp op t x, ty, pos, af, gd⟩ L) ⟨d, .unOp op t x, ty, pos, af, gd⟩ [x])) := by
  unfold fi kh l8 er
  simp only [jd, cond_false]
  have hm : ∀ y, y ∈ ([x] : List Operand) → br ⟨d, .unOp op t x, ty, pos, af, gd⟩ L y = cf L y := fun y hy => dy (by simpa [Op.operands, Call.operands] using hy)
  have hmap : ([x] : List Operand).map (br ⟨d, .unOp op t x, ty, pos, af, gd⟩ L) = ([x] : List Operand).map (cf L) := gu (fun y hy => by simpa [Op.operands, Call.operands] using hy)
  have ho : (⟨d, .unOp op t x, ty, pos, af, gd⟩ : Oper).op.operands.toList = [x] := by simp [Op.operands, Call.operands]
  rw [ho, hmap]
  rfl
theorem afq (x ts) : fi P T ⟨d, .call { callee := .builtin .len, args := #[x], argTypes := ts }, ty, pos, af, gd⟩ recs K L st = er (true) ([]) ⟨d, .call { callee := .builtin .len, args := #[x], argTypes := ts }, ty, pos, af, gd⟩ recs K L st (mono (ru ((ts[0]?).bind P.underlying) (cf L x))) := by
  unfold fi kh l8 er
  simp only [jd, cond_true]
  have hm : ∀ y, y ∈ ([x] : List Operand) → br ⟨d, .call { callee := .builtin .len, args := #[x], argTypes := ts }, ty, pos, af, gd⟩ L y = cf L y := fun y hy => dy (by simpa [Op.operands, Call.operands] using hy)
  have hmap : ([x] : List Operand).map (br ⟨d, .call { callee := .builtin .len, args := #[x], argTypes := ts }, ty, pos, af, gd⟩ L) = ([x] : List Operand).map (cf L) := gu (fun y hy => by simpa [Op.operands, Call.operands] using hy)
  have ho : (⟨d, .call { callee := .builtin .len, args := #[x], argTypes := ts }, ty, pos, af, gd⟩ : Oper).op.operands.toList = [x] := by simp [Op.operands, Call.operands]
  rw [Kn, hm x (by simp)]
  rfl
theorem Ti (s x ts) : fi P T ⟨d, .call { callee := .builtin .append, args := #[s, x], argTypes := ts }, ty, pos, af, gd⟩ recs K L st = er (false) (reach st.h eg (AV.names.go ([s, x].map (cf L))) []) ⟨d, .call { callee := .builtin .append, args := #[s, x], argTypes := ts }, ty, pos, af, gd⟩ recs K L st (mono (ng P ts[0]? ((ts[1]?).bind P.underlying) (cf L s) (cf L x))) := by
  unfold fi kh l8 er
  simp only [jd, cond_false]
  have hm : ∀ y, y ∈ ([s, x] : List Operand) → br ⟨d, .call { callee := .builtin .append, args := #[s, x], argTypes := ts }, ty, pos, af, gd⟩ L y = cf L y := fun y hy => dy (by simpa [Op.operands, Call.operands] using hy)
  have hmap : ([s, x] : List Operand).map (br ⟨d, .call { callee := .builtin .append, args := #[s, x], argTypes := ts }, ty, pos, af, gd⟩ L) = ([s, x] : List Operand).map (cf L) := gu (fun y hy => by simpa [Op.operands, Call.operands] using hy)
  have ho : (⟨d, .call { callee := .builtin .append, args := #[s, x], argTypes := ts }, ty, pos, af, gd⟩ : Oper).op.operands.toList = [s, x] := by simp [Op.operands, Call.operands]
  rw [ho, hmap]
  rw [Df, hm s (by simp), hm x (by simp)]
  rfl
theorem aau (f args ts) : fi P T ⟨d, .call { callee := .value f, args, argTypes := ts }, ty, pos, af, gd⟩ recs K L st = er (r9 T (cf L) ⟨d, .call { callee := .value f, args, argTypes := ts }, ty, pos, af, gd⟩) (reach st.h eg (AV.names.go ((f :: args.toList).map (cf L))) []) ⟨d, .call { callee := .value f, args, argTypes := ts }, ty, pos, af, gd⟩ recs K L st (tw T (cf L f) (args.toList.map (cf L))) := by
  unfold fi kh l8 er
  simp only [jd, cond_false]
  have h1 : ⟨d, .call { callee := .value f, args, argTypes := ts }, ty, pos, af, gd⟩ = (⟨d, .call { callee := .value f, args, argTypes := ts }, ty, pos, af, gd⟩ : Oper) := rfl
  have hf : br ⟨d, .call { callee := .value f, args, argTypes := ts }, ty, pos, af, gd⟩ L f = cf L f := dy (by simp [Op.operands, Call.operands])
  have ha : args.toList.map (br ⟨d, .call { callee := .value f, args, argTypes := ts }, ty, pos, af, gd⟩ L) = args.toList.map (cf L) := gu (fun x hx => by simp [Op.operands, Call.operands]; exact .inr (by simpa using hx))
  have hr : r9 T (br ⟨d, .call { callee := .value f, args, argTypes := ts }, ty, pos, af, gd⟩ L) ⟨d, .call { callee := .value f, args, argTypes := ts }, ty, pos, af, gd⟩ = r9 T (cf L) ⟨d, .call { callee := .value f, args, argTypes := ts }, ty, pos, af, gd⟩ := by simp only [r9, hf]
  have ho : (⟨d, .call { callee := .value f, args, argTypes := ts }, ty, pos, af, gd⟩ : Oper).op.operands.toList.map (br ⟨d, .call { callee := .value f, args, argTypes := ts }, ty, pos, af, gd⟩ L) = (f :: args.toList).map (cf L) := by
    show ((#[f] ++ args).toList).map _ = _
    simp only [Array.toList_append, List.map_append, ha, List.map_cons, hf]
    rfl
  rw [hr, ho]
  show C3 _ _ _ _ _ _ _ (tw T (br _ L f) (args.toList.map (br _ L)) _) = _
  rw [hf, ha]
theorem Ns (n args ts) : r9 T (cf L) ⟨d, .call { callee := .value (.func n), args, argTypes := ts }, ty, pos, af, gd⟩ = roT (T.find n) := by simp only [r9, cf]; rfl
end ops
theorem W8 (P T ops K L st) : Co P T ops true K L st = (mj ops = true ∧ (Dd P T ops ops.toList K [] L st ∨ Lu P T ops ops.toList K [] L st)) := id rfl
theorem Wm (n) : Ej n [] = true := id rfl
theorem Ss (n o r) : Ej n (o :: r) = (Nat.blt o n && Ej n r) := id rfl
theorem abd (h h') : same h h' [] = True := id rfl
theorem U7 (h h' o r) : same h h' (o :: r) = (h.get o = h'.get o ∧ same h h' r) := id rfl
theorem Wv (h) : ke h [] = .nil := id rfl
theorem Q7 (h o r) : ke h (o :: r) = Tr.set depth (ke h r) o (h.get o) := id rfl
theorem Si (h1 h) : pc h1 [] h = h := id rfl
theorem Ny (h1 o r h) : pc h1 (o :: r) h = Tr.set depth (pc h1 r h) o (h1.get o) := id rfl
theorem Xa (t ts v vs) : m7 (t :: ts) (v :: vs) = (t, v) :: m7 ts vs := id rfl
theorem Wg (P T f ps A B p Q L0 st0) : amb P T f ps A B p Q L0 st0 = (Nat.ble p 1000 = true ∧ Js P T ps A B p Q L0 st0 (xa (cf L0 f))) := id rfl
theorem Ys (P T ps A B p Q L0 st0 g caps) : Js P T ps A B p Q L0 st0 (some (g, caps)) = Jk P T ps A B p Q L0 st0 caps (vp P g) := id rfl
theorem Zf (P T ps A B p Q L0 st0 caps nt code) : Jk P T ps A B p Q L0 st0 caps (some (nt, code)) = (Nat.ble (caps.length + 1) nt = true ∧ ∀ l : Nat, pf P T l (n6 ps A B L0) p code (abu Q L0) none (cy 0 (.sc (.func (.yield l) #[] #[]) :: caps)) st0) := id rfl
theorem Vf (g c) : xa (.fn (.func g) [] c) = some (g, c) := id rfl
theorem Eg {P : Program} {T : dr} {l : Nat} {az : Nat} {L : SL} {st : St} {Q : QI} {ps : List Tmp} {ra rb : Code} {L0 : SL} {α : Type} {b : Code} (keep : List Nat) (V : α → List AV) (O : α → List (Option ba)) (I : α → Prop) (μ : α → Nat) (x : α) (hx : I x)
    (hv : ki az keep L st = V x) (ho : gj az keep L st = O x)
    (step : ∀ x, I x → pf P T l (n6 ps (fun p => wl P T p ra) (fun p => wl P T p rb) L0) az b (yw (xg az keep (fun vs os => ∃ y, I y ∧ μ y < μ x ∧ vs = V y ∧ os = O y) (fun _ _ _ => False)) Q) none (m7 keep (V x)) (bn (O x))) : pf P T l (n6 ps (fun p => wl P T p ra) (fun p => wl P T p rb) L0) az (.loop b) Q none L st :=
  aog (keep := keep) (V := V) (O := O) (I := I) (μ := μ) (x := x) (hx := hx) (hR := Nd P T) (hv := hv) (ho := ho) (step := step)
theorem zv {P : Program} {T : dr} {R : G6} {az : Nat} {L : SL} {st : St} {o : Oper} {K : Option Ex → SL → St → Prop} {args : Array Operand} (keep : List Nat) (h : y7 R (gj az keep L st).length args o.dst K (m7 keep (ki az keep L st)) (bn (gj az keep L st))) : Ux P T R az o K none L st (some args) := ⟨rfl, keep, h⟩
theorem Gi (P : Program) : ∀ s : Sem Value, ev P (do pure (Next.value (← s))) = (ev P s).map Next.value := by
  intro s
  induction s with
  | pure b => rfl
  | program k ih => exact ih P
  | choose q k ih =>
    simp only [bind, Sem.bind, ev]
    split
    · exact ih 0
    · rfl
  | mark m k ih => exact ih
  | _ => rfl
def Zc (m : M AV) : M AV := m
def Z3 (a : AV) (m : M AV) : M AV :=
  match a.bool with
  | some b => M.pure (.sc (.bool (!b)))
  | none => m
theorem amv (b : Bool) (m : M AV) : Z3 (.sc (.bool b)) m = M.pure (.sc (.bool (!b))) := id rfl
theorem arw {a : AV} {b : Bool} (h : a.bool = some b) : a = .sc (.bool b) := by
  unfold AV.bool AV.exact oi at h
  cases a with
  | sc v => cases v <;> simp at h; rw [h]
  | _ => cases h
theorem S0 (P : Program) (ρ : Operand → AV) (d ty pos af gd) (t : TypeId) (x : Operand) : g7 P ρ ⟨d, .unOp .not t x, ty, pos, af, gd⟩ [x] = Z3 (ρ x) (Zc (g7 P ρ ⟨d, .unOp .not t x, ty, pos, af, gd⟩ [x])) := by
  unfold Z3
  split
  · rename_i b hb
    have hx := arw hb
    have h2 : execOp (fun z => ((ρ z).ff).getD undef) ⟨d, .unOp .not t x, ty, pos, af, gd⟩ = (do pure (Next.value (← Op.unary .not (.bool b)))) := by
      simp only [execOp, hx, AV.ff, Option.getD_some]
    unfold g7 kg qu
    simp only [List.all_cons, List.all_nil, hx, AV.ff, Option.isSome_some, Bool.and_true, cond_true]
    rw [h2, Gi]
    rfl
  · rfl
theorem V3 (P : Program) (T : dr) (ρ : Operand → AV) (d ty pos af gd) (t : TypeId) (x : Operand) : fj P T ⟨d, .unOp .not t x, ty, pos, af, gd⟩ ρ = mono (Z3 (ρ x) (Zc (g7 P ρ ⟨d, .unOp .not t x, ty, pos, af, gd⟩ [x]))) := by
  exact congrArg mono (S0 ..)
theorem af4 (P : Program) (T : dr) (L : SL) (st : St) (recs : List Rec) (K : List Rec → SL → St → Prop) (d ty pos af gd) (t x) : fi P T ⟨d, .unOp .not t x, ty, pos, af, gd⟩ recs K L st = er true (reach st.h eg (AV.names.go ([x].map (cf L))) []) ⟨d, .unOp .not t x, ty, pos, af, gd⟩ recs K L st (mono (Z3 (cf L x) (Zc (g7 P (br ⟨d, .unOp .not t x, ty, pos, af, gd⟩ L) ⟨d, .unOp .not t x, ty, pos, af, gd⟩ [x])))) := by
  rw [aor]
  have h := S0 P (br ⟨d, .unOp .not t x, ty, pos, af, gd⟩ L) d ty pos af gd t x
  rw [dy (by simp [Op.operands])] at h
  rw [← h]
theorem Py (l : List UInt8) : bytesOf (l.map z9) = some l := by rw [Dr, xb]
theorem N3 (a b : ByteArray) : Cx.eu [.sc (.string a), .sc (.string b)] = M.pure (.sc (goInt (Lib.compareBytes a.data.toList b.data.toList))) := by
  unfold Cx.eu cellsIn
  simp only [Nat.beq_refl, cond_true]
  unfold M.bind M.pure
  simp only [Py]
  rfl
theorem F8 {α : Type} (C : c6 α) (f : Bool) (h : C.sz = 1) (ha : C.agg = false) (l : List α) : (l.map (C.val f)).flatMap AV.cells = l.map (C.val f) := by
  induction l with
  | nil => rfl
  | cons x l ih =>
    simp only [List.map_cons, List.flatMap_cons, ih]
    obtain ⟨c, h1, h2, _⟩ := C.one ha f x
    have : C.val f x = c := by simp [c6.val, ha, h1]
    rw [this, h2]; rfl
theorem Oh (f g : Bool) (a b : List UInt8) : Cx.eu [.vl f 1 (a.map (bz.val f)), .vl g 1 (b.map (bz.val g))] = M.pure (.sc (goInt (Lib.compareBytes a b))) := by
  unfold Cx.eu cellsIn
  simp only [Nat.beq_refl, cond_true, F8 bz _ rfl rfl]
  unfold M.bind M.pure
  simp only [xb]
  rfl
theorem M3 {L : SL} {d ty pos af gd} {op t u x y} : br ⟨d, .binOp op t x y u, ty, pos, af, gd⟩ L x = cf L x := dy (by simp [Op.operands])
theorem On {L : SL} {d ty pos af gd} {op t u x y} : br ⟨d, .binOp op t x y u, ty, pos, af, gd⟩ L y = cf L y := dy (by simp [Op.operands])
theorem Q9 {L : SL} {d ty pos af gd} {h l m t x} : br ⟨d, .slice t x l h m, ty, pos, af, gd⟩ L x = cf L x := dy (by simp [Op.operands])
theorem Q8 {L : SL} {d ty pos af gd} {h l m t x} : br ⟨d, .slice t x l (some h) m, ty, pos, af, gd⟩ L h = cf L h := dy (by simp [Op.operands])
def x7 (P : Program) (ρ : Operand → AV) (o : Oper) (l : List Operand) : M AV := g7 P ρ o l
def Y3 (u : Option TypeDesc) (a ix : AV) (m : M AV) : M AV :=
  match u with
  | some .string =>
    match a with
    | .sc (.string s) =>
      match ix with
      | .sc (.int _ n) =>
        match (bif decide (0 ≤ n) then s.data.toList[n.toNat]? else none) with
        | some b => M.pure (.sc (.int .u8 b.toNat))
        | none => m
      | _ => m
    | _ => m
  | _ => m
theorem acf (s : ByteArray) (k : IntKind) (n : Int) (m : M AV) : Y3 (some .string) (.sc (.string s)) (.sc (.int k n)) m = match (bif decide (0 ≤ n) then s.data.toList[n.toNat]? else none) with | some b => M.pure (.sc (.int .u8 b.toNat)) | none => m := id rfl
theorem Kv (P : Program) (ρ : Operand → AV) (d ty pos af gd) (t : TypeId) (x i : Operand) : g7 P ρ ⟨d, .index t x i, ty, pos, af, gd⟩ [x, i] = Y3 (P.underlying t) (ρ x) (ρ i) (x7 P ρ ⟨d, .index t x i, ty, pos, af, gd⟩ [x, i]) := by
  unfold Y3
  split
  · rename_i hu
    split
    · rename_i s hx
      split
      · rename_i k n hi
        split
        · rename_i b hb
          cases h0 : decide (0 ≤ n) with
          | false => rw [h0] at hb; cases hb
          | true =>
          rw [h0, cond_true] at hb
          have h0 : 0 ≤ n := by simpa using h0
          have hb' : s[n.toNat]? = some b := by
            obtain ⟨h1, h2⟩ := List.getElem?_eq_some_iff.1 hb
            simp at h1
            rw [getElem?_pos s n.toNat (by simpa using h1)]
            rw [← h2]; rfl
          have h2 : execOp (fun z => ((ρ z).ff).getD undef) ⟨d, .index t x i, ty, pos, af, gd⟩ = (do pure (Next.value (← Instr.index t (.string s) (.int k n)))) := by
            simp only [execOp, hx, hi, AV.ff, Option.getD_some]
          unfold g7 kg qu
          simp only [List.all_cons, List.all_nil, hx, hi, AV.ff, Option.isSome_some, Bool.and_true, cond_true]
          rw [h2, Gi]
          have h3 : ev P (Instr.index t (.string s) (.int k n)) = some (.int .u8 b.toNat) := by
            simp [Instr.index, asIntOf, underlying, program, ev, hu, h0, hb', bind, Sem.bind, pure]
          rw [h3]
          rfl
        · rfl
      · rfl
    · rfl
  · rfl
theorem Pe (a n : Nat) : (a : Int).fdiv (n : Int) = ((a / n : Nat) : Int) := by
  rw [Int.fdiv_eq_ediv_of_nonneg _ (by omega)]; rfl
theorem Yt (a : Nat) : (a : Int).fdiv 256 = ((a / 256 : Nat) : Int) := Pe a 256
theorem Ra (a : Nat) : (a : Int).fdiv 65536 = ((a / 65536 : Nat) : Int) := Pe a 65536
theorem I3 (a : Nat) : (a : Int).fdiv 16777216 = ((a / 16777216 : Nat) : Int) := Pe a 16777216
theorem Zv (f : Nat) (m) (T : dr) : dr.find ((f, m) :: T) f = some m := by simp [dr.find]
theorem U5 (f g : Nat) (m) (T : dr) (h : (f == g) = false) : dr.find ((f, m) :: T) g = dr.find T g := by
  have e : f ≠ g := by simpa using h
  simp [dr.find, mu e]
end
end Go.Vm
end
namespace Go.Vm
noncomputable section
def Ag (P : Program) (t : TypeId) : Option (Nat × Nat × Nat) :=
  match oy P t with
  | some e =>
    match de P e, kn P e, ey P e with
    | some sz, some bytes, some z => bif Nat.blt 0 sz && Nat.blt 0 bytes && Nat.beq z.cells.size sz then some (e, sz, bytes) else none
    | _, _, _ => none
  | none => none
end
end Go.Vm
section
set_option linter.unusedSimpArgs false
set_option linter.unusedVariables false
namespace Go.Vm
noncomputable section
def abm (q : Option (Nat × Nat × Nat)) (s x : AV) : M AV :=
  match q with
  | some (e, sz, bytes) => (cellsIn sz x).bind (oa e sz bytes s)
  | none => M.fail
theorem amw (e sz bytes s x) : abm (some (e, sz, bytes)) s x = (cellsIn sz x).bind (oa e sz bytes s) := id rfl
theorem P3 (P : Program) (t e : TypeId) (s x : AV) : ng P (some t) (some (.slice e)) s x = abm (Ag P t) s x := by
  unfold ng abm Ag
  simp only [Option.bind_some]
  cases oy P t with
  | none => rfl
  | some e =>
    simp only
    cases de P e with
    | none => rfl
    | some sz =>
      cases kn P e with
      | none => rfl
      | some bytes =>
        cases ey P e with
        | none => rfl
        | some z =>
          simp only
          cases (Nat.blt 0 sz && Nat.blt 0 bytes && Nat.beq z.cells.size sz) <;> rfl
theorem Qo (P : Program) (t : TypeId) (s x : AV) : ng P (some t) (some .string) s x = abm (Ag P t) s x := by
  unfold ng abm Ag
  simp only [Option.bind_some]
  cases oy P t with
  | none => rfl
  | some e =>
    simp only
    cases de P e with
    | none => rfl
    | some sz =>
      cases kn P e with
      | none => rfl
      | some bytes =>
        cases ey P e with
        | none => rfl
        | some z =>
          simp only
          cases (Nat.blt 0 sz && Nat.blt 0 bytes && Nat.beq z.cells.size sz) <;> rfl
theorem My (e sz bytes new) : oa e sz bytes (.sc (.slice none 0 0)) new = bif new.isEmpty then M.pure (.sc (.slice none 0 0)) else bif Nat.ble (new.length * bytes) 140737488355328 then lg e sz (new.length / sz) new else M.fail := id rfl
theorem Qv (e sz bytes o off len sz' new) : oa e sz bytes (.sl o off len sz') new = bif Nat.beq sz sz' then (cr o).bind (yj e sz bytes o off len new) else M.fail := id rfl
theorem Ot (e sz bytes o off len new cells k st et) : yj e sz bytes o off len new (.row cells k st et) = (bif Nat.beq et e && new.all AV.one && Nat.ble (off + len * sz) cells.length && Nat.ble ((len * sz + new.length) * bytes) 140737488355328 then
      bif Nat.ble k (off + len * sz) then
        (vg o).bind fun _ => (iq (.row ((cells.take (off + len * sz)).drop off ++ new) (k - off) (qw st) et)).bind fun id => M.pure (.sl id 0 (len + new.length / sz) sz)
      else bif new.isEmpty then M.pure (.sl o off len sz)
      else M.fail
    else M.fail) := id rfl
theorem ap2 : qw 0 = 0 := id rfl
def cellsOf {α : Type} (C : c6 α) (f : Bool) (xs : List α) : List AV := xs.flatMap (C.cells f)
theorem M9 {α : Type} (C : c6 α) (f) : cellsOf C f [] = [] := id rfl
theorem w8 {α : Type} (C : c6 α) (f) (xs : List α) : (cellsOf C f xs).length = xs.length * C.sz := by
  induction xs with
  | nil => simp [cellsOf]
  | cons x xs ih =>
    simp only [cellsOf] at ih
    simp [cellsOf, C.len, ih, Nat.succ_mul]; omega
theorem A8 {α : Type} (C : c6 α) (f) (xs ys : List α) : cellsOf C f (xs ++ ys) = cellsOf C f xs ++ cellsOf C f ys := by simp [cellsOf]
theorem M8 {α : Type} (C : c6 α) (f) (x : α) : cellsOf C f [x] = C.cells f x := by simp [cellsOf]
theorem u7 {α : Type} (C : c6 α) (f) (xs : List α) : (cellsOf C f xs).all AV.one = true := by
  rw [List.all_eq_true]
  intro c hc
  obtain ⟨x, _, hx⟩ := List.mem_flatMap.1 hc
  exact (C.pl f x c hx).one
theorem Iu {α : Type} (C : c6 α) (f) (xs : List α) : AV.names.go (cellsOf C f xs) = [] := Fs (fun c hc => by
  obtain ⟨x, _, hx⟩ := List.mem_flatMap.1 hc
  exact (C.pl f x c hx).names)
theorem Nb {α : Type} (C : c6 α) (τ) (f) (xs : List α) : (cellsOf C f xs).map (AV.c8 τ) = cellsOf C f xs := by
  rw [← j0]
  exact O8 (fun c hc => by
    obtain ⟨x, _, hx⟩ := List.mem_flatMap.1 hc
    exact (C.pl f x c hx).c8 τ)
theorem Je {α : Type} (C : c6 α) (f) (xs : List α) (i : Nat) : (cellsOf C f xs).drop (i * C.sz) = cellsOf C f (xs.drop i) := by
  induction xs generalizing i with
  | nil => simp [cellsOf]
  | cons x xs ih =>
    cases i with
    | zero => simp
    | succ i =>
      have : (i + 1) * C.sz = C.sz + i * C.sz := by rw [Nat.succ_mul]; omega
      rw [this, ← List.drop_drop]
      have h1 : (cellsOf C f (x :: xs)).drop C.sz = cellsOf C f xs := by
        have h2 : cellsOf C f (x :: xs) = C.cells f x ++ cellsOf C f xs := by simp [cellsOf]
        rw [h2, ← C.len f x, List.drop_left]
      rw [h1, ih, List.drop_succ_cons]
theorem Y5 {α : Type} (C : c6 α) (f) (xs : List α) (i : Nat) : (cellsOf C f xs).take (i * C.sz) = cellsOf C f (xs.take i) := by
  induction xs generalizing i with
  | nil => simp [cellsOf]
  | cons x xs ih =>
    cases i with
    | zero => simp [cellsOf]
    | succ i =>
      have h2 : cellsOf C f (x :: xs) = C.cells f x ++ cellsOf C f xs := by simp [cellsOf]
      have : (i + 1) * C.sz = (C.cells f x).length + i * C.sz := by rw [Nat.succ_mul, C.len]; omega
      rw [h2, this, List.take_length_add_append, ih, List.take_succ_cons]
      simp [cellsOf]
theorem Du {α : Type} (C : c6 α) (f) (x : α) (xs : List α) : cellsOf C f (x :: xs) = C.cells f x ++ cellsOf C f xs := by simp [cellsOf]
theorem Gv {α : Type} {xs : List α} {i : Nat} {x : α} (h : xs[i]? = some x) : xs.drop i = x :: xs.drop (i + 1) := by
  obtain ⟨h1, h2⟩ := List.getElem?_eq_some_iff.1 h
  rw [← h2]; exact List.drop_eq_getElem_cons h1
theorem Dw {α : Type} (C : c6 α) (f) (xs : List α) : (xs.map (C.val f)).flatMap AV.cells = cellsOf C f xs := by
  rw [List.flatMap_map]; congr 1; funext x; exact C.E7 f x
theorem zo {α : Type} (C : c6 α) (fr : Bool) (h : Tr ba) (f : Bool) (xs : List α) (k st et) (n : Nat) (hn : n = xs.length) (hf : (f || !fr) = true) : nb C fr h 0 n (.row (cellsOf C f xs) k st et) = some xs := by
  subst hn
  simp only [nb, Nat.zero_add, w8, Nat.ble_self_eq_true, cond_true, List.drop_zero]
  have : (cellsOf C f xs).take (xs.length * C.sz) = cellsOf C f xs := List.take_of_length_le (by rw [w8]; exact Nat.le_refl _)
  rw [this]
  exact W4 C fr h f (fun e => by subst e; simpa using hf) xs
theorem Rl {α : Type} (C : c6 α) (fr h cells k st et) : nb C fr h 0 0 (.row cells k st et) = some [] := by
  have h : Nat.ble 0 cells.length = true := Nat.ble_eq_true_of_le (Nat.zero_le _)
  simp [nb, zn, h]
def qq {α : Type} (C : c6 α) (fr : Bool) (h : Tr ba) : List AV → Option (List α)
  | [] => some []
  | a :: l => match C.dec fr h [a], qq C fr h l with
    | some x, some xs => some (x :: xs)
    | _, _ => none
def atw {α : Type} (a b : Option (List α)) : Option (List α) := match a, b with | some x, some y => some (x ++ y) | _, _ => none
def ap5 {α : Type} (a : Option α) (b : Option (List α)) : Option (List α) := match a, b with | some x, some y => some (x :: y) | _, _ => none
theorem anh {α : Type} (a b : List α) : atw (some a) (some b) = some (a ++ b) := id rfl
theorem afn {α : Type} (a : α) (b : List α) : ap5 (some a) (some b) = some (a :: b) := id rfl
theorem Pq {α : Type} (C : c6 α) (fr h) : qq C fr h [] = some [] := id rfl
theorem Ee {α : Type} (C : c6 α) (fr h a l) : qq C fr h (a :: l) = ap5 (C.dec fr h [a]) (qq C fr h l) := id rfl
theorem Pj {α : Type} (C : c6 α) (fr h) : ∀ a b, qq C fr h (a ++ b) = atw (qq C fr h a) (qq C fr h b)
  | [], b => by
    simp only [List.nil_append, Pq]
    cases qq C fr h b <;> rfl
  | x :: a, b => by
    simp only [List.cons_append, Ee, Pj C fr h a b]
    cases C.dec fr h [x] <;> cases qq C fr h a <;> cases qq C fr h b <;> rfl
theorem ab4 {α : Type} (C : c6 α) (hz : C.sz = 1) (fr h) : ∀ cells : List AV, zn C fr h cells.length cells = qq C fr h cells
  | [] => rfl
  | a :: l => by
    have h1 : (a :: l).take C.sz = [a] := by rw [hz]; rfl
    have h2 : (a :: l).drop C.sz = l := by rw [hz]; rfl
    simp only [List.length_cons, zn, h1, h2, ab4 C hz fr h l]
    rfl
theorem wx {α : Type} (C : c6 α) (hz : C.sz = 1) (fr h n cells k st et) (hn : n = cells.length) : nb C fr h 0 n (.row cells k st et) = qq C fr h cells := by
  subst hn
  simp only [nb, hz, Nat.mul_one, Nat.zero_add, Nat.ble_self_eq_true, cond_true, List.drop_zero, List.take_length]
  exact ab4 C hz fr h cells
theorem D2 {α : Type} (C : c6 α) (hz : C.sz = 1) (ha : C.agg = false) (fr h f) (hf : fr = true → f = true) : ∀ l : List α, qq C fr h (l.map (C.val f)) = some l
  | [] => rfl
  | x :: l => by
    obtain ⟨c, h1, _⟩ := C.one ha f x
    have hv : C.val f x = c := by simp [c6.val, ha, h1]
    have hd := C.rt fr h f x hf
    rw [h1] at hd
    rw [List.map_cons, Ee, D2 C hz ha fr h f hf l, hv, hd]; rfl
theorem aav {α β : Type} (f : α → β) (l : List α) (n : Nat) : (l.map f).take n = (l.take n).map f := List.map_take.symm
theorem ac1 {α β : Type} (f : α → β) (l : List α) (n : Nat) : (l.map f).drop n = (l.drop n).map f := List.map_drop.symm
theorem D4 {α β : Type} (f : α → β) (l : List α) : (l.map f).isEmpty = l.isEmpty := by cases l <;> rfl
theorem Ey {α : Type} (l : List α) (x : α) : (l ++ [x]).isEmpty = false := by cases l <;> rfl
theorem F5 (a b : List AV) : AV.names.go (a ++ b) = AV.names.go a ++ AV.names.go b := by
  induction a with
  | nil => rfl
  | cons x a ih => simp only [List.cons_append, AV.names.go, ih, List.append_assoc]
theorem rtT {α : Type} (C : c6 α) (h : Tr ba) (x : α) : C.ek true h (C.val true x) = some x := C.Lc true h true x (fun _ => rfl)
theorem rtF {α : Type} (C : c6 α) (h : Tr ba) (l : Bool) (x : α) : C.ek false h (C.val l x) = some x := C.Lc false h l x (fun e => by cases e)
theorem Yx (s : ByteArray) : s.data.toList.length = s.size := by simp
theorem agp {α : Type} {l : List α} {n : Nat} (h : l.length ≤ n) : l.take n = l := List.take_of_length_le h
theorem axc {α : Type} (C : c6 α) (fr : Bool) (h : Tr ba) (x : α) : C.ek fr h (C.val fr x) = some x := C.Lc fr h fr x (fun e => e)
theorem cb {a b : Nat} (h : a ≤ b) : decide (a ≤ b) = true := by simpa using h
theorem cd {a b : Nat} (h : a < b) : decide (a < b) = true := by simpa using h
theorem b9 {a b : Int} (h : a ≤ b) : decide (a ≤ b) = true := by simpa using h
theorem ca {a b : Int} (h : a < b) : decide (a < b) = true := by simpa using h
theorem ai (x : Int) (h0 : -9223372036854775808 ≤ x) (h1 : x < 9223372036854775808) : IntKind.i64.wrap x = x := by
  simp [IntKind.wrap, IntKind.bits, IntKind.signed]; omega
theorem ale (n : Nat) : IntKind.u8.wrap (n : Int) = ((UInt8.ofNat n).toNat : Int) := by simp [IntKind.wrap, IntKind.bits, IntKind.signed]
theorem cp {p : Prop} [Decidable p] {X Y : SL → St → Prop} {L st} : vr (.sc (.bool (decide p))) X Y L st = ((p → X L st) ∧ (¬ p → Y L st)) := by
  by_cases h : p <;> simp [h, Ge, F3]
theorem c9 {a b : Int} {X Y : SL → St → Prop} {L st} : vr (.sc (.bool (a == b))) X Y L st = (((a == b) = true ∧ a = b → X L st) ∧ ((a == b) = false ∧ a ≠ b → Y L st)) := by
  by_cases h : a = b
  · subst h; simp [Ge]
  · have : (a == b) = false := by simpa using h
    simp [h, this, F3]
theorem ef {a b : Int} {X Y : SL → St → Prop} {L st} : vr (.sc (.bool (a != b))) X Y L st = (((a != b) = true ∧ a ≠ b → X L st) ∧ ((a != b) = false ∧ a = b → Y L st)) := by
  by_cases h : a = b
  · subst h; simp [F3]
  · have : (a != b) = true := by simpa using h
    simp [h, this, Ge]
theorem Xc (P : Program) (T : dr) (ρ : Operand → AV) (d ty pos af gd) (x ts) : fj P T ⟨d, .call { callee := .builtin .cap, args := #[x], argTypes := ts }, ty, pos, af, gd⟩ ρ = mono (A4 ((ts[0]?).bind P.underlying) (ρ x)) := id rfl
theorem Vy (e a n c) : A4 (some (.slice e)) (.sc (.slice a n c)) = M.pure (.sc (goInt c)) := id rfl
def an4 (P : Program) (q : Option (Nat × Nat × Nat)) (s x : AV) : M AV :=
  match q with
  | some (e, sz, bytes) =>
    match Cr P e sz x with
    | some new => oa e sz bytes s new
    | none => M.fail
  | none => M.fail
theorem aj3 (P : Program) (e sz bytes s x) : an4 P (some (e, sz, bytes)) s x = match Cr P e sz x with | some new => oa e sz bytes s new | none => M.fail := id rfl
theorem Qs (P : Program) (t : TypeId) (k : IntKind) (s x : AV) : ng P (some t) (some (.int k)) s x = an4 P (Ag P t) s x := by
  unfold ng an4 Ag
  simp only [Option.bind_some]
  cases oy P t with
  | none => rfl
  | some e =>
    simp only
    cases de P e with
    | none => rfl
    | some sz =>
      cases kn P e with
      | none => rfl
      | some bytes =>
        cases ey P e with
        | none => rfl
        | some z =>
          simp only
          cases (Nat.blt 0 sz && Nat.blt 0 bytes && Nat.beq z.cells.size sz) <;> rfl
def ab2 (z : Option Value) (sz : Nat) (n : Int) : Option (List AV) :=
  match z with
  | some z => bif decide (0 ≤ n) && decide (n ≤ 1073741824) && Nat.beq z.cells.size sz then some ((List.replicate n.toNat (z.cells.toList.map AV.sc)).flatten) else none
  | none => none
theorem adr (z sz n) : ab2 (some z) sz n = bif decide (0 ≤ n) && decide (n ≤ 1073741824) && Nat.beq z.cells.size sz then some ((List.replicate n.toNat (z.cells.toList.map AV.sc)).flatten) else none := id rfl
theorem Vn (P : Program) (e sz : Nat) (k : IntKind) (n : Int) : Cr P e sz (.sc (.int k n)) = ab2 (ey P e) sz n := by
  simp only [Cr, ab2, w6, AV.int, AV.exact, Option.bind_some, intOf, Option.map_some]
  cases ey P e <;> rfl
theorem agw {α : Type} (n : Nat) (x : α) : (List.replicate n [x]).flatten = List.replicate n x := by
  induction n with
  | zero => rfl
  | succ n ih => simp [List.replicate_succ, ih]
theorem N4 {α : Type} {n : Nat} {x : α} (h : 0 < n) : (List.replicate n x).isEmpty = false := by
  cases n with
  | zero => omega
  | succ n => rfl
theorem nc0 : ((0 : Nat) : Int) = 0 := id rfl
theorem nc1 : ((1 : Nat) : Int) = 1 := id rfl
theorem alh (n : Nat) : List.replicate n (AV.sc (.int .u8 0)) = (List.replicate n (0 : UInt8)).map (bz.val false) := by rw [List.map_replicate]; rfl
def ahb (P : Program) (u : Option TypeDesc) (x hi : AV) (m : M AV) : M AV :=
  match u with
  | some (.slice e) =>
    match de P e with
    | some _ =>
      match x with
      | .sc (.slice none 0 0) =>
        match hi with
        | .sc (.int .i64 0) => M.pure (.sc (.slice none 0 0))
        | _ => m
      | _ => m
    | none => m
  | _ => m
theorem ak2 (P : Program) (e m) (h : (de P e).isSome = true) : ahb P (some (.slice e)) (.sc (.slice none 0 0)) (.sc (.int .i64 0)) m = M.pure (.sc (.slice none 0 0)) := by
  obtain ⟨n, hn⟩ := Option.isSome_iff_exists.1 h
  simp only [ahb, hn]
theorem Eh (P : Program) (ρ : Operand → AV) (d ty pos af gd) (t : TypeId) (x h : Operand) : g7 P ρ ⟨d, .slice t x none (some h) none, ty, pos, af, gd⟩ (.slice t x none (some h) none : Op).operands.toList = ahb P (P.underlying t) (ρ x) (ρ h) (x7 P ρ ⟨d, .slice t x none (some h) none, ty, pos, af, gd⟩ (.slice t x none (some h) none : Op).operands.toList) := by
  unfold ahb
  split
  · rename_i e hu
    split
    · rename_i n hn
      split
      · rename_i hx
        split
        · rename_i hh
          have h2 : execOp (fun z => ((ρ z).ff).getD undef) ⟨d, .slice t x none (some h) none, ty, pos, af, gd⟩ = (do pure (Next.value (← Instr.sliceAt t (.slice none 0 0) none (some (.int .i64 0)) none))) := by
            simp only [execOp, hx, hh, AV.ff, Option.getD_some, Option.map_some, Option.map_none]
          have hi : ∃ i, P.info? e = some i := by
            unfold de at hn
            cases hq : P.info? e with
            | none => rw [hq] at hn; cases hn
            | some i => exact ⟨i, rfl⟩
          obtain ⟨i, hi⟩ := hi
          have h3 : ev P (Instr.sliceAt t (.slice none 0 0) none (some (.int .i64 0)) none) = some (.slice none 0 0) := by
            simp [Instr.sliceAt, Instr.slice, Instr.sliceBounds, Instr.sliceBound, asIntOf, underlying, program, ev, hu, sizeOf, typeInfo, hi, bind, Sem.bind, pure]
          unfold g7 kg qu
          simp only [Op.operands]
          simp [hx, hh, AV.ff]
          rw [h2, Gi, h3]
          rfl
        · rfl
      · rfl
    · rfl
  · rfl
def an0 {α : Type} (o sz : Nat) (l : List α) : AV := bif l.isEmpty then .sc (.slice none 0 0) else .sl o 0 l.length sz
def ait (cells : List AV) (k st : Nat) (et : TypeId) : List (Option ba) := bif cells.isEmpty then [] else [some (.row cells k st et)]
theorem am5 {α : Type} {o sz} {l : List α} (h : l.isEmpty = false) : an0 o sz l = .sl o 0 l.length sz := by simp [an0, h]
theorem Vu {α : Type} (o sz) (l : List α) (c : α) : an0 o sz (l ++ [c]) = .sl o 0 (l.length + 1) sz := by rw [am5 (Ey l c)]; simp
theorem aki {cells : List AV} {k st et} (h : cells.isEmpty = false) : ait cells k st et = [some (.row cells k st et)] := by simp [ait, h]
theorem aom {α : Type} {f : α → AV} {l : List α} {k st et} (h : l.isEmpty = false) : ait (l.map f) k st et = [some (.row (l.map f) k st et)] := aki (by rw [D4, h])
theorem Wu {α : Type} (f : α → AV) (l : List α) (c : α) (k st et) : ait ((l ++ [c]).map f) k st et = [some (.row (l.map f ++ [f c]) k st et)] := by rw [aom (Ey l c)]; simp
theorem ed {α : Type} {l : List α} {i : Nat} (h : decide ((i : Int) < (l.length : Int)) = true) : ∃ c, l[i]? = some c ∧ l.drop i = c :: l.drop (i + 1) ∧ i < l.length := by
  have h1 : i < l.length := by simp at h; omega
  exact ⟨l[i], List.getElem?_eq_getElem h1, List.drop_eq_getElem_cons h1, h1⟩
theorem fq {α : Type} {l : List α} {i : Nat} (h : decide ((i : Int) < (l.length : Int)) = false) : l.drop i = [] := by
  have h1 : ¬ i < l.length := by simp at h; omega
  exact List.drop_eq_nil_of_le (by omega)
def zq (D : List Nat) : Nat → List (Option ba) → List (Option ba)
  | _, [] => []
  | i, x :: r => (bif we i D then x else none) :: zq D (i + 1) r
def Bb (D : List Nat) : Nat → List (Option ba) → List (Option ba)
  | _, [] => []
  | i, x :: r => (bif we i D then none else x) :: Bb D (i + 1) r
theorem V6 (D) : ∀ (i : Nat) (os : List (Option ba)), (zq D i os).length = os.length
  | _, [] => rfl
  | i, x :: r => by simp [zq, V6 D (i + 1) r]
theorem J7 (D) : ∀ (i : Nat) (os : List (Option ba)), (Bb D i os).length = os.length
  | _, [] => rfl
  | i, x :: r => by simp [Bb, J7 D (i + 1) r]
theorem Vh (D) : ∀ (os : List (Option ba)) (i j : Nat), ((zq D i os)[j]?).join = if (i + j) ∈ D then (os[j]?).join else none
  | [], i, j => by simp [zq]
  | x :: r, i, 0 => by
    simp only [zq, List.getElem?_cons_zero, Option.join_some, Nat.add_zero]
    cases hb : we i D with
    | true => rw [if_pos ((tk i D).1 hb)]; rfl
    | false => rw [if_neg (fun h => by rw [(tk i D).2 h] at hb; cases hb)]; rfl
  | x :: r, i, j + 1 => by
    simp only [zq, List.getElem?_cons_succ]
    rw [Vh D r (i + 1) j, show i + 1 + j = i + (j + 1) from by omega]
theorem Wi (D) : ∀ (os : List (Option ba)) (i j : Nat), ((Bb D i os)[j]?).join = if (i + j) ∈ D then none else (os[j]?).join
  | [], i, j => by simp [Bb]
  | x :: r, i, 0 => by
    simp only [Bb, List.getElem?_cons_zero, Option.join_some, Nat.add_zero]
    cases hb : we i D with
    | true => rw [if_pos ((tk i D).1 hb)]; rfl
    | false => rw [if_neg (fun h => by rw [(tk i D).2 h] at hb; cases hb)]; rfl
  | x :: r, i, j + 1 => by
    simp only [Bb, List.getElem?_cons_succ]
    rw [Wi D r (i + 1) j, show i + 1 + j = i + (j + 1) from by omega]
theorem Uj (os : List (Option ba)) (h : os.length ≤ bw) (o : Nat) : (bn os).h.get o = (os[o]?).join := by
  simp only [bn]
  rw [tc _ _ _ (by omega), if_pos (Nat.zero_le _), Nat.sub_zero]
inductive jb (h : Tr ba) : AV → AV → Prop
  | same (a : AV) : jb h a a
  | data {α : Type} (C : c6 α) (fr : Bool) (x : α) (a : AV) (hd : C.ek fr h a = some x) : jb h a (C.val fr x)
  | bad (a : AV) : jb h a .bad
  | nil (o off sz : Nat) : jb h (.sc (.slice none 0 0)) (.sl o off 0 sz)
  | vh (loc : Bool) (sz : Nat) : jb h (.sc (.slice none 0 0)) (.vl loc sz [])
inductive i6 (h : Tr ba) : List AV → List AV → Prop
  | nil : i6 h [] []
  | cons {a b : AV} {l m : List AV} (h1 : jb h a b) (h2 : i6 h l m) : i6 h (a :: l) (b :: m)
theorem i6.len {h l m} (hl : i6 h l m) : m.length = l.length := by
  induction hl with
  | nil => rfl
  | cons _ _ ih => simp [ih]
theorem i6.get {h l m} (hl : i6 h l m) : ∀ (i : Nat) b, m[i]? = some b → ∃ a, l[i]? = some a ∧ jb h a b := by
  induction hl with
  | nil => intro i b hb; simp at hb
  | cons h1 h2 ih =>
    intro i b hb
    cases i with
    | zero => simp at hb; subst hb; exact ⟨_, rfl, h1⟩
    | succ i => exact ih i b (by simpa using hb)
inductive db (h : Tr ba) : List (Option ba) → List (Option ba) → Prop
  | nil : db h [] []
  | ghost {st et m} (h2 : db h [] m) : db h [] (some (.row [] 0 st et) :: m)
  | same {x l m} (h2 : db h l m) : db h (x :: l) (x :: m)
  | gone {x l m} (h2 : db h l m) : db h (x :: l) (none :: m)
  | row {cells cells' k st et l m} (h1 : i6 h cells cells') (h2 : db h l m) : db h (some (.row cells k st et) :: l) (some (.row cells' k st et) :: m)
theorem db.refl (h) : ∀ l, db h l l
  | [] => .nil
  | x :: l => .same (db.refl h l)
theorem db.len {h l m} (hl : db h l m) : l.length ≤ m.length := by induction hl <;> simp_all
theorem db.get {h l m} (hl : db h l m) : ∀ (i : Nat) y, (m[i]?).join = some y → (l[i]?).join = some y ∨ (∃ cells cells' k st et, y = .row cells' k st et ∧ (l[i]?).join = some (.row cells k st et) ∧ i6 h cells cells') ∨ (l.length ≤ i ∧ Ah y) := by
  induction hl with
  | nil => intro i y hy; simp at hy
  | @ghost st et m h2 ih =>
    intro i y hy
    cases i with
    | zero => simp at hy; subst hy; exact .inr (.inr ⟨Nat.le_refl _, st, et, rfl⟩)
    | succ i => exact .inr (.inr ⟨Nat.zero_le _, (by
        rcases ih i y (by simpa using hy) with h | ⟨_, _, _, _, _, _, h, _⟩ | h
        · simp at h
        · simp at h
        · exact h.2)⟩)
  | same h2 ih =>
    intro i y hy
    cases i with
    | zero => exact .inl hy
    | succ i => exact (ih i y (by simpa using hy)).imp id (Or.imp id (fun h => ⟨Nat.succ_le_succ h.1, h.2⟩))
  | gone h2 ih =>
    intro i y hy
    cases i with
    | zero => simp at hy
    | succ i => exact (ih i y (by simpa using hy)).imp id (Or.imp id (fun h => ⟨Nat.succ_le_succ h.1, h.2⟩))
  | row h1 h2 ih =>
    intro i y hy
    cases i with
    | zero => simp at hy; subst hy; exact .inr (.inl ⟨_, _, _, _, _, rfl, rfl, h1⟩)
    | succ i => exact (ih i y (by simpa using hy)).imp id (Or.imp id (fun h => ⟨Nat.succ_le_succ h.1, h.2⟩))
theorem mz.lax {vs vs' : List AV} {os os' : List (Option ba)} {az : Nat} (D : List Nat) (hlen' : os'.length ≤ bw) (hv : i6 (bn (zq D 0 os)).h vs vs') (ho : db (bn (zq D 0 os)).h (Bb D 0 os) os') : mz az vs os vs' os' := by
  have holen : os.length ≤ os'.length := by have := ho.len; rw [J7] at this; exact this
  have hlen : os.length ≤ bw := Nat.le_trans holen hlen'
  refine ⟨hv.len, fun q => Nat.le_trans q holen, fun g w us hok hfree hr => ?_⟩
  obtain ⟨hD, ehD⟩ : ∃ hD, (bn (zq D 0 os)).h = hD := ⟨_, rfl⟩
  rw [ehD] at hv ho
  have cr : ∀ o, (bn os).h.get o = (os[o]?).join := Uj os hlen
  have hgetD : ∀ o, hD.get o = if o ∈ D then (os[o]?).join else none := fun o => by
    rw [← ehD, Uj _ (by rw [V6]; exact hlen), Vh, Nat.zero_add]
  have hget' : ∀ o y, (bn os').h.get o = some y → (o ∉ D ∧ ((bn os).h.get o = some y ∨ ∃ cells cells' k st et, y = .row cells' k st et ∧ (bn os).h.get o = some (.row cells k st et) ∧ i6 hD cells cells')) ∨ (os.length ≤ o ∧ Ah y) := fun o y hy => by
    rw [Uj _ hlen'] at hy
    have hmid : ∀ z, ((Bb D 0 os)[o]?).join = some z → o ∉ D ∧ (os[o]?).join = some z := fun z hz => by
      rw [Wi, Nat.zero_add] at hz
      by_cases hd : o ∈ D
      · rw [if_pos hd] at hz; cases hz
      · rw [if_neg hd] at hz; exact ⟨hd, hz⟩
    rw [cr]
    rcases ho.get o y hy with h1 | ⟨cells, cells', k, st, et, h1, h2, h3⟩ | h1
    · exact .inl ⟨(hmid _ h1).1, .inl (hmid _ h1).2⟩
    · exact .inl ⟨(hmid _ h2).1, .inr ⟨cells, cells', k, st, et, h1, (hmid _ h2).2, h3⟩⟩
    · rw [J7] at h1; exact .inr h1
  have hsub : ∀ o x, hD.get o = some x → o ∈ D ∧ (bn os).h.get o = some x := fun o x hx => by
    rw [hgetD] at hx
    by_cases hd : o ∈ D
    · rw [if_pos hd] at hx; rw [cr]; exact ⟨hd, hx⟩
    · rw [if_neg hd] at hx; cases hx
  have hokD : Ok g hD w := hok.part (fun o x hx => (hsub o x hx).2)
  obtain ⟨K', eK⟩ : ∃ K' : Nat → Nat → Prop, (fun b j => g.K b j ∨ ∃ o base cells k s e, hD.get o = some (.row cells k s e) ∧ g.inj o = some (b, base) ∧ ∃ i, i < cells.length ∧ j = base + i) = K' := ⟨_, rfl⟩
  have hK' : ∀ b j, K' b j ↔ (g.K b j ∨ ∃ o base cells k s e, hD.get o = some (.row cells k s e) ∧ g.inj o = some (b, base) ∧ ∃ i, i < cells.length ∧ j = base + i) := fun b j => by rw [← eK]
  have hlend : sb g hD K' := ⟨fun b j h => (hK' b j).2 (.inl h), fun o cells k s e h b base hi j hj => (hK' _ _).2 (.inr ⟨o, base, cells, k, s, e, h, hi, j, hj, rfl⟩)⟩
  have hlax : ∀ {a b : AV} {v : Value}, jb hD a b → Rel g w a v → Rel { g with K := K' } w b v := fun {a b v} hl hrel => by
    have hup : Rel { g with K := K' } w a v := Rel.ext (g := g) (w := w) (g' := { g with K := K' }) (w' := w) ⟨rfl, fun _ _ h => h, fun b j h => (hK' b j).2 (.inl h), fun _ _ _ => rfl, fun b cs e fr h => ⟨cs, fr, h, rfl⟩, fun b l h => ⟨l, h⟩⟩ hrel
    cases hl with
    | same => exact hup
    | data C fr x a hd => exact (C.Vw hokD hlend (fun _ => Nat.le_refl g.b0) hrel hd).lift (Nat.le_refl _) (fun _ _ h => h)
    | bad => exact .bad _
    | nil o off sz => obtain rfl := hup.exact rfl; exact .v9 _ _ _
    | vh loc sz => obtain rfl := hup.exact rfl; exact .kf _ _
  refine ⟨{ g with K := K' }, ⟨hok.size, fun o y hy => ?_, fun o o' x x' b base base' hne hx hx' hb hb' => ?_, fun b j hk => ?_⟩, ⟨by rw [hv.len]; exact hr.1, fun i b v hb hv' => ?_⟩, rfl, fun o q => hfree o (Nat.le_trans holen q), fun _ _ => rfl, fun b j h => (hK' b j).2 (.inl h), fun o b base ho' hi' => ?_, fun b j hk => ?_⟩
  · rcases hget' o y hy with ⟨hnd, hy⟩ | ⟨hge, hgh⟩
    case inr => exact .inl ⟨hfree o hge, hgh⟩
    have hKo : ∀ b base, g.inj o = some (b, base) → ((bn os).h.get o).isSome = true → ∀ j, K' b j → g.K b j := fun b base hi hs j hk => by
      rcases (hK' b j).1 hk with h | ⟨o2, base2, cells, k, s, e, h1, h2, _⟩
      · exact h
      · exfalso
        obtain ⟨hd2, h1'⟩ := hsub o2 _ h1
        obtain ⟨x, hx⟩ := Option.isSome_iff_exists.1 hs
        exact hok.sep o o2 x _ b base base2 (fun e => hnd (by rw [e]; exact hd2)) hx h1' hi h2
    have hext : Ext g w { g with K := K' } w := ⟨rfl, fun _ _ h => h, fun b j h => (hK' b j).2 (.inl h), fun _ _ _ => rfl, fun b cs e fr h => ⟨cs, fr, h, rfl⟩, fun b l h => ⟨l, h⟩⟩
    rcases hy with hy | ⟨cells, cells', k, st, et, rfl, hy, hcl⟩
    · refine (hok.mw o y hy).imp id ?_
      rintro ⟨b, base, h1, h2, h3⟩
      exact ⟨b, base, h1, h2, h3.ext hext rfl (fun j hj => hKo b base h1 (by rw [hy]; rfl) j hj)⟩
    · refine (hok.mw o _ hy).imp (fun q => ⟨q.1, by
        obtain ⟨s0, e0, he⟩ := q.2
        simp only [ba.row.injEq] at he
        obtain ⟨rfl, rfl, rfl, rfl⟩ := he
        cases hcl
        exact ⟨_, _, rfl⟩⟩) ?_
      rintro ⟨b, base, h1, h2, cs, fr, r1, r2, r3, r4, r5, r6, r7⟩
      refine ⟨b, base, h1, h2, cs, fr, r1, by rw [hcl.len]; exact r2, fun j c hc => ?_, r4, fun j hj => r5 j (hKo b base h1 (by rw [hy]; rfl) j hj), r6, fun e => by rw [hcl.len]; exact r7 e⟩
      obtain ⟨a, ha, hla⟩ := hcl.get j c hc
      obtain ⟨u, hu, hru⟩ := r3 j a ha
      exact ⟨u, hu, hlax hla hru⟩
  · have q : ∀ o y p, (bn os').h.get o = some y → g.inj o = some p → ∃ z, (bn os).h.get o = some z := fun o y p hy hp => by
      rcases hget' o y hy with ⟨_, h | ⟨_, _, _, _, _, _, h, _⟩⟩ | ⟨h, _⟩
      · exact ⟨_, h⟩
      · exact ⟨_, h⟩
      · rw [hfree o h] at hp; cases hp
    obtain ⟨z, hz⟩ := q o x _ hx hb
    obtain ⟨z', hz'⟩ := q o' x' _ hx' hb'
    exact hok.sep o o' z z' b base base' hne hz hz' hb hb'
  · rcases (hK' b j).1 hk with h | ⟨o, base, cells, k, s, e, h1, h2, _⟩
    · exact hok.K b j h
    · obtain ⟨b', base', h3, _, h4⟩ := hokD.obj o _ h1
      rw [h2] at h3; cases h3
      exact h4.lt
  · obtain ⟨a, ha, hla⟩ := hv.get i b hb
    exact hlax hla (hr.2 i a v ha hv')
  · obtain ⟨y, hy⟩ := Option.isSome_iff_exists.1 ho'
    rcases hget' o y hy with ⟨_, h | ⟨_, _, _, _, _, _, h, _⟩⟩ | ⟨h, _⟩
    · exact ⟨o, base, by rw [h]; rfl, hi'⟩
    · exact ⟨o, base, by rw [h]; rfl, hi'⟩
    · have : g.inj o = some (b, base) := hi'
      rw [hfree o h] at this; cases this
  · rcases (hK' b j).1 hk with h | ⟨o, base, cells, k, s, e, h1, h2, _⟩
    · exact .inl h
    · exact .inr ⟨o, base, by rw [(hsub o _ h1).2]; rfl, h2⟩
theorem Ww {α : Type} {P : Program} {T : dr} {az : Nat} {b : Code} {Q : QL} {L : SL} {st : St} (keep : List Nat) (V : α → List AV) (O : α → List (Option ba)) (I : α → Prop) (μ : α → Nat) (x : α) (hx : I x)
    (hv : mz az (ki az keep L st) (gj az keep L st) (V x) (O x))
    (step : ∀ x, I x → wl P T az b (xg az keep (fun vs os => ∃ y, I y ∧ μ y < μ x ∧ mz az vs os (V y) (O y)) Q) (m7 keep (V x)) (bn (O x))) : sk az (wl P T az b) Q L st :=
  sk.apj keep V O I μ x hx hv (fun _ _ h => Gm b _ _ h) step
theorem jz {α : Type} {P : Program} {T : dr} {az : Nat} {b : Code} {Q : QL} {L : SL} {st : St} (keep : List Nat) (V : α → List AV) (O : α → List (Option ba)) (I : α → Prop) (μ : α → Nat) (x : α) (hx : I x)
    (hv : mz az (ki az keep L st) (gj az keep L st) (V x) (O x))
    (step : ∀ x, I x → wl P T az b (xg az keep (fun vs os => ∃ y, I y ∧ μ y < μ x ∧ vs = V y ∧ os = O y) Q) (m7 keep (V x)) (bn (O x))) : sk az (wl P T az b) Q L st :=
  Ww keep V O I μ x hx hv (fun x hi => Gm b _ _ (fun e L' st' hq => by
    cases e with
    | normal =>
      obtain ⟨y, h1, h2, h3, h4⟩ := hq
      refine ⟨y, h1, h2, ?_⟩
      rw [h3, h4]; exact .refl _ _ _
    | exit id => exact hq
    | ret => exact hq) _ _ (step x hi))
theorem Ft (f) (l) : (List.map (aj.val f) l).flatMap AV.cells = l.map (aj.val f) := F8 aj f rfl rfl l
theorem Rh (f) (l) : (List.map (aj.val f) l).all AV.one = true := by rw [← Ft f l, Dw]; exact u7 _ _ _
theorem It (fr h n cells k st et) (hn : n = cells.length) : nb aj fr h 0 n (.row cells k st et) = qq aj fr h cells := wx aj rfl fr h n cells k st et hn
theorem M2 (fr h f) (l) : qq aj fr h (List.map (aj.val f) l) = some l := by
  have e : List.map (aj.val f) l = List.map (aj.val true) l := by cases f <;> rfl
  rw [e]; exact D2 aj rfl rfl fr h true (fun _ => rfl) l
theorem Hk (f) (l) : (List.map (bz.val f) l).flatMap AV.cells = l.map (bz.val f) := F8 bz f rfl rfl l
theorem Xg (f) (l) : (List.map (bz.val f) l).all AV.one = true := by rw [← Hk f l, Dw]; exact u7 _ _ _
theorem K9 (fr h n cells k st et) (hn : n = cells.length) : nb bz fr h 0 n (.row cells k st et) = qq bz fr h cells := wx bz rfl fr h n cells k st et hn
theorem Rt (fr h f) (l) : qq bz fr h (List.map (bz.val f) l) = some l := by
  have e : List.map (bz.val f) l = List.map (bz.val true) l := by cases f <;> rfl
  rw [e]; exact D2 bz rfl rfl fr h true (fun _ => rfl) l
theorem Fw (f) (l) : (List.map (dg.val f) l).flatMap AV.cells = l.map (dg.val f) := F8 dg f rfl rfl l
theorem Qb (f) (l) : (List.map (dg.val f) l).all AV.one = true := by rw [← Fw f l, Dw]; exact u7 _ _ _
theorem Ir (fr h n cells k st et) (hn : n = cells.length) : nb dg fr h 0 n (.row cells k st et) = qq dg fr h cells := wx dg rfl fr h n cells k st et hn
theorem Ou (fr h f) (l) : qq dg fr h (List.map (dg.val f) l) = some l := by
  have e : List.map (dg.val f) l = List.map (dg.val true) l := by cases f <;> rfl
  rw [e]; exact D2 dg rfl rfl fr h true (fun _ => rfl) l
theorem Dc (f) (l) : (List.map (ar.val f) l).flatMap AV.cells = l.map (ar.val f) := F8 ar f rfl rfl l
theorem Od (f) (l) : (List.map (ar.val f) l).all AV.one = true := by rw [← Dc f l, Dw]; exact u7 _ _ _
theorem F6 (fr h n cells k st et) (hn : n = cells.length) : nb ar fr h 0 n (.row cells k st et) = qq ar fr h cells := wx ar rfl fr h n cells k st et hn
theorem K3 (fr h f) (l) (hf : (f || !fr) = true) : qq ar fr h (List.map (ar.val f) l) = some l := D2 ar rfl rfl fr h f (fun e => by subst e; simpa using hf) l
theorem Jo (fr h l n xs) (hn : n = 1) (hl : (l || !fr) = true) : eh aj fr h (.vl l n (xs.map (aj.val false))) = some xs := by
  cases l with
  | true => exact u6 aj fr h true xs n hn hl
  | false => exact u6 aj fr h false xs n hn hl
theorem S9 : aj.val true = aj.val false := id rfl
theorem Oq (fr h l n xs) (hn : n = 1) (hl : (l || !fr) = true) : eh bz fr h (.vl l n (xs.map (bz.val false))) = some xs := by
  cases l with
  | true => exact u6 bz fr h true xs n hn hl
  | false => exact u6 bz fr h false xs n hn hl
theorem Xd : bz.val true = bz.val false := id rfl
theorem Ls (fr h l n xs) (hn : n = 1) (hl : (l || !fr) = true) : eh dg fr h (.vl l n (xs.map (dg.val false))) = some xs := by
  cases l with
  | true => exact u6 dg fr h true xs n hn hl
  | false => exact u6 dg fr h false xs n hn hl
theorem Tf : dg.val true = dg.val false := id rfl
theorem Sf (fr h s) : aj.dec fr h [.sc (.string s)] = some s := id rfl
theorem Wa (fr h) (c : UInt8) : bz.dec fr h [.sc (.int .u8 c.toNat)] = some c := bz.rt fr h true c (fun _ => rfl)
theorem Sj (fr h) (c : UInt16) : cq.dec fr h [.sc (.int .u16 c.toNat)] = some c := cq.rt fr h true c (fun _ => rfl)
theorem Sw (fr h) (c : UInt32) : dg.dec fr h [.sc (.int .u32 c.toNat)] = some c := dg.rt fr h true c (fun _ => rfl)
theorem Ol (fr h b) : bq.dec fr h [.sc (.bool b)] = some b := id rfl
theorem Nz (fr h a) : ar.dec fr h [a] = eh aj fr h a := id rfl
theorem Vt (a b : List AV) : AV.fresh.go (a ++ b) = (AV.fresh.go a && AV.fresh.go b) := by
  induction a with
  | nil => rfl
  | cons x a ih => simp only [List.cons_append, AV.fresh.go, ih, Bool.and_assoc]
theorem ade (f) (l : List UInt8) : AV.fresh.go (l.map (bz.val f)) = true := by
  induction l with
  | nil => rfl
  | cons x l ih => simp only [List.map_cons, AV.fresh.go, ih]; rfl
theorem Nl (f) (c : Name) : (ar.val f c).one = true := id rfl
theorem Iy (f) (c : Name) : (ar.val f c).cells = [ar.val f c] := id rfl
theorem Va (fr h a) : (cw bz).dec fr h [a] = eh bz fr h a := id rfl
theorem Kx (fr h n cells k st et) (hn : n = cells.length) : nb (cw bz) fr h 0 n (.row cells k st et) = qq (cw bz) fr h cells := wx (cw bz) rfl fr h n cells k st et hn
end
end Go.Vm
end
section
set_option linter.unusedVariables false
set_option maxRecDepth 4000
namespace Go.Vm
theorem wR : type_of% @agr ∧ type_of% @aas ∧ type_of% @U6 ∧ type_of% @ald ∧ type_of% @ag8 ∧ type_of% @ada ∧ type_of% @afu ∧ type_of% @aao ∧ type_of% @agi ∧ type_of% @am1 ∧ type_of% @akf ∧ type_of% @am3 ∧ type_of% @ak7 ∧ type_of% @akc ∧ type_of% @alp ∧ type_of% @akv ∧ type_of% @agz ∧ type_of% @afv ∧ type_of% @afw ∧ type_of% @alj ∧ type_of% @amm ∧ type_of% @Vv ∧ type_of% @acd ∧ type_of% @V0 ∧ type_of% @Ry ∧ type_of% @Ro ∧ type_of% @acx ∧ type_of% @Za ∧ type_of% @Z0 ∧ type_of% @agh ∧ type_of% @abp ∧ type_of% @acr ∧ type_of% @W8 ∧ type_of% @abv ∧ type_of% @Vq ∧ type_of% @Vc ∧ type_of% @aa2 ∧ type_of% @Wq ∧ type_of% @V4 ∧ type_of% @alo ∧ type_of% @Ge ∧ type_of% @F3 ∧ type_of% @Zp ∧ type_of% @ab0 ∧ type_of% @Qi ∧ type_of% @af2 ∧ type_of% @ach ∧ type_of% @W0 ∧ type_of% @ack ∧ type_of% @agx ∧ type_of% @ako ∧ type_of% @al4 ∧ type_of% @aj9 ∧ type_of% @aks ∧ type_of% @aj5 ∧ type_of% @al1 ∧ type_of% @afh ∧ type_of% @afr ∧ type_of% @afi ∧ type_of% @aga ∧ type_of% @afl ∧ type_of% @ab8 ∧ type_of% @Wt ∧ type_of% @Re ∧ type_of% @Ts ∧ type_of% @Zo ∧ type_of% @afk ∧ type_of% @af9 ∧ type_of% @Qc ∧ type_of% @alc ∧ type_of% @akz ∧ type_of% @adt ∧ type_of% @aar ∧ type_of% @ags ∧ type_of% @Oc ∧ type_of% @I8 :=
  ⟨@agr, @aas, @U6, @ald, @ag8, @ada, @afu, @aao, @agi, @am1, @akf, @am3, @ak7, @akc, @alp, @akv, @agz, @afv, @afw, @alj, @amm, @Vv, @acd, @V0, @Ry, @Ro, @acx, @Za, @Z0, @agh, @abp, @acr, @W8, @abv, @Vq, @Vc, @aa2, @Wq, @V4, @alo, @Ge, @F3, @Zp, @ab0, @Qi, @af2, @ach, @W0, @ack, @agx, @ako, @al4, @aj9, @aks, @aj5, @al1, @afh, @afr, @afi, @aga, @afl, @ab8, @Wt, @Re, @Ts, @Zo, @afk, @af9, @Qc, @alc, @akz, @adt, @aar, @ags, @Oc, @I8⟩
theorem R0 : type_of% @ac1 ∧ type_of% @alh ∧ type_of% @nc0 ∧ type_of% @nc1 ∧ type_of% @Int.sub_zero ∧ type_of% @Int.sub_self ∧ type_of% @Int.add_zero ∧ type_of% @Int.zero_add ∧ type_of% @Qs ∧ type_of% @aj3 ∧ type_of% @Vn ∧ type_of% @adr ∧ type_of% @agw ∧ type_of% @N4 ∧ type_of% @List.length_replicate.{0} ∧ type_of% @Xc ∧ type_of% @Vy ∧ type_of% @ak2 ∧ type_of% @Eh ∧ type_of% @Np ∧ type_of% @Kv ∧ type_of% @acf ∧ type_of% @Yt ∧ type_of% @Ra ∧ type_of% @I3 ∧ type_of% @Yx ∧ type_of% @agp ∧ type_of% @ale ∧ type_of% @Pq ∧ type_of% @Ee ∧ type_of% @Pj ∧ type_of% @anh ∧ type_of% @afn ∧ type_of% @M2 ∧ type_of% @Rt ∧ type_of% @Ou ∧ type_of% @K3 ∧ type_of% @Sf ∧ type_of% @Wa ∧ type_of% @Sj ∧ type_of% @Sw ∧ type_of% @Ol ∧ type_of% @Nz ∧ type_of% @List.length_append.{0} ∧ type_of% @rtT ∧ type_of% @rtF ∧ type_of% @Go.Vm.qx.eq_1 ∧ type_of% @Go.Vm.bounds.eq_1 ∧ type_of% @Go.Vm.C8.eq_1 ∧ type_of% @Go.Vm.C8.eq_2 :=
  ⟨@ac1, @alh, @nc0, @nc1, @Int.sub_zero, @Int.sub_self, @Int.add_zero, @Int.zero_add, @Qs, @aj3, @Vn, @adr, @agw, @N4, @List.length_replicate.{0}, @Xc, @Vy, @ak2, @Eh, @Np, @Kv, @acf, @Yt, @Ra, @I3, @Yx, @agp, @ale, @Pq, @Ee, @Pj, @anh, @afn, @M2, @Rt, @Ou, @K3, @Sf, @Wa, @Sj, @Sw, @Ol, @Nz, @List.length_append.{0}, @rtT, @rtF, @Go.Vm.qx.eq_1, @Go.Vm.bounds.eq_1, @Go.Vm.C8.eq_1, @Go.Vm.C8.eq_2⟩
theorem R1 : type_of% @Go.Vm.sw.eq_1 ∧ type_of% @Go.Vm.sr.eq_def ∧ type_of% @F5 ∧ type_of% @Iu ∧ type_of% @Nb ∧ type_of% @u7 ∧ type_of% @Rl ∧ type_of% @Nat.div_one ∧ type_of% @P3 ∧ type_of% @Qo ∧ type_of% @amw ∧ type_of% @My ∧ type_of% @Qv ∧ type_of% @Ot ∧ type_of% @ap2 ∧ type_of% @Ft ∧ type_of% @Hk ∧ type_of% @Fw ∧ type_of% @Dc ∧ type_of% @Rh ∧ type_of% @Xg ∧ type_of% @Qb ∧ type_of% @Od ∧ type_of% @S9 ∧ type_of% @Xd ∧ type_of% @Tf ∧ type_of% @ag0 ∧ type_of% @agb ∧ type_of% @Sl ∧ type_of% @af1 ∧ type_of% @Gw ∧ type_of% @Jr ∧ type_of% @Option.isNone_none.{0} ∧ type_of% @Option.isNone_some.{0} ∧ type_of% @afs :=
  ⟨@Go.Vm.sw.eq_1, @Go.Vm.sr.eq_def, @F5, @Iu, @Nb, @u7, @Rl, @Nat.div_one, @P3, @Qo, @amw, @My, @Qv, @Ot, @ap2, @Ft, @Hk, @Fw, @Dc, @Rh, @Xg, @Qb, @Od, @S9, @Xd, @Tf, @ag0, @agb, @Sl, @af1, @Gw, @Jr, @Option.isNone_none.{0}, @Option.isNone_some.{0}, @afs⟩
theorem R2 : type_of% @Nl ∧ type_of% @Iy ∧ type_of% @Jo ∧ type_of% @Oq ∧ type_of% @Ls ∧ type_of% @Vt ∧ type_of% @ade ∧ type_of% @Va ∧ type_of% @Kx ∧ type_of% @It ∧ type_of% @K9 ∧ type_of% @Ir ∧ type_of% @F6 ∧ type_of% @aav ∧ type_of% @D4 ∧ type_of% @List.isEmpty_cons.{0} ∧ type_of% @List.isEmpty_nil.{0} ∧ type_of% @List.flatMap_nil.{0, 0} ∧ type_of% @M3 ∧ type_of% @On ∧ type_of% @Q9 ∧ type_of% @Q8 ∧ type_of% @and_true ∧ type_of% @true_and ∧ type_of% @N3 ∧ type_of% @Oh ∧ type_of% @V3 ∧ type_of% @af4 ∧ type_of% @amv ∧ type_of% @and_self ∧ type_of% @List.size_toArray.{0} ∧ type_of% @Xa ∧ type_of% @Wg ∧ type_of% @Ys ∧ type_of% @Zf ∧ type_of% @Vf ∧ type_of% @Zw ∧ type_of% @P6 ∧ type_of% @Y4 ∧ type_of% @Iz ∧ type_of% @Wp ∧ type_of% @aa7 ∧ type_of% @W7 ∧ type_of% @Oe ∧ type_of% @Ip :=
  ⟨@Nl, @Iy, @Jo, @Oq, @Ls, @Vt, @ade, @Va, @Kx, @It, @K9, @Ir, @F6, @aav, @D4, @List.isEmpty_cons.{0}, @List.isEmpty_nil.{0}, @List.flatMap_nil.{0, 0}, @M3, @On, @Q9, @Q8, @and_true, @true_and, @N3, @Oh, @V3, @af4, @amv, @and_self, @List.size_toArray.{0}, @Xa, @Wg, @Ys, @Zf, @Vf, @Zw, @P6, @Y4, @Iz, @Wp, @aa7, @W7, @Oe, @Ip⟩
theorem R3 : type_of% @Ln ∧ type_of% @Wc ∧ type_of% @Vd ∧ type_of% @G4 ∧ type_of% @V9 ∧ type_of% @afq ∧ type_of% @Ti ∧ type_of% @aau ∧ type_of% @Wm ∧ type_of% @Ss ∧ type_of% @abd ∧ type_of% @U7 ∧ type_of% @Wv ∧ type_of% @Q7 ∧ type_of% @Si ∧ type_of% @Ny ∧ type_of% @apz ∧ type_of% @Zv ∧ type_of% @U5 ∧ type_of% @Ns ∧ type_of% @Ko ∧ type_of% @Sm ∧ type_of% @Rx ∧ type_of% @xb ∧ type_of% @Go.Vm.cellsIn.eq_1 ∧ type_of% @Go.Vm.cellsIn.eq_2 ∧ type_of% @Go.Vm.cellsIn.eq_5 ∧ type_of% @Go.Vm.cellsIn.eq_6 ∧ type_of% @Go.Vm.xq.eq_1 ∧ type_of% @Go.Vm.An.eq_1 ∧ type_of% @Dr ∧ type_of% @Kp ∧ type_of% @Ki ∧ type_of% @Lk ∧ type_of% @B5 ∧ type_of% @E4 ∧ type_of% @E8 ∧ type_of% @Da ∧ type_of% @I9 ∧ type_of% @Gx ∧ type_of% @Kk ∧ type_of% @B7 ∧ type_of% @Ii ∧ type_of% @Le ∧ type_of% @Ik :=
  ⟨@Ln, @Wc, @Vd, @G4, @V9, @afq, @Ti, @aau, @Wm, @Ss, @abd, @U7, @Wv, @Q7, @Si, @Ny, @apz, @Zv, @U5, @Ns, @Ko, @Sm, @Rx, @xb, @Go.Vm.cellsIn.eq_1, @Go.Vm.cellsIn.eq_2, @Go.Vm.cellsIn.eq_5, @Go.Vm.cellsIn.eq_6, @Go.Vm.xq.eq_1, @Go.Vm.An.eq_1, @Dr, @Kp, @Ki, @Lk, @B5, @E4, @E8, @Da, @I9, @Gx, @Kk, @B7, @Ii, @Le, @Ik⟩
theorem R4 : type_of% @B6 ∧ type_of% @Ih ∧ type_of% @Kr ∧ type_of% @N9 ∧ type_of% @Jl ∧ type_of% @Vb ∧ type_of% @oe ∧ type_of% @Sq ∧ type_of% @Nu ∧ type_of% @ab5 ∧ type_of% @u6 ∧ type_of% @ag9 ∧ type_of% @Sa ∧ type_of% @Rs ∧ type_of% @E2 ∧ type_of% @V2 ∧ type_of% @Rz ∧ type_of% @Go.Vm.lg.eq_1 ∧ type_of% @List.flatten_cons.{0} ∧ type_of% @List.flatten_nil.{0} ∧ type_of% @List.replicate_succ.{0} ∧ type_of% @List.replicate_zero.{0} ∧ type_of% @Ve ∧ type_of% @Vi ∧ type_of% @ak0 ∧ type_of% @agf ∧ type_of% @ap3 ∧ type_of% @aqq ∧ type_of% @apx ∧ type_of% @Ie ∧ type_of% @Dt ∧ type_of% @H6 ∧ type_of% @zm ∧ type_of% @Mx :=
  ⟨@B6, @Ih, @Kr, @N9, @Jl, @Vb, @oe, @Sq, @Nu, @ab5, @u6, @ag9, @Sa, @Rs, @E2, @V2, @Rz, @Go.Vm.lg.eq_1, @List.flatten_cons.{0}, @List.flatten_nil.{0}, @List.replicate_succ.{0}, @List.replicate_zero.{0}, @Ve, @Vi, @ak0, @agf, @ap3, @aqq, @apx, @Ie, @Dt, @H6, @zm, @Mx⟩
theorem R5 : type_of% @Hf ∧ type_of% @Ff ∧ type_of% @B4 ∧ type_of% @yy ∧ type_of% @Ac ∧ type_of% @N6 ∧ type_of% @Xe ∧ type_of% @F0 ∧ type_of% @xu ∧ type_of% @Gg ∧ type_of% @I1 ∧ type_of% @Ob ∧ type_of% @Nc ∧ type_of% @Kn ∧ type_of% @Df ∧ type_of% @Sd ∧ type_of% @Lb ∧ type_of% @I5 ∧ type_of% @amx ∧ type_of% @alk ∧ type_of% @Nj ∧ type_of% @Go.IntKind.bits.eq_6 ∧ type_of% @Nat.min_def ∧ type_of% @aqg ∧ type_of% @aq5 ∧ type_of% @apv ∧ type_of% @ap7 ∧ type_of% @aq2 ∧ type_of% @aqf ∧ type_of% @aqd ∧ type_of% @aqy ∧ type_of% @aqm ∧ type_of% @aqn ∧ type_of% @ac8 ∧ type_of% @ac5 ∧ type_of% @aul ∧ type_of% @aub ∧ type_of% @ajc ∧ type_of% @Go.Vm.xj.eq_1 ∧ type_of% @Go.Vm.ri.eq_1 ∧ type_of% @Go.Vm.oz.eq_def :=
  ⟨@Hf, @Ff, @B4, @yy, @Ac, @N6, @Xe, @F0, @xu, @Gg, @I1, @Ob, @Nc, @Kn, @Df, @Sd, @Lb, @I5, @amx, @alk, @Nj, @Go.IntKind.bits.eq_6, @Nat.min_def, @aqg, @aq5, @apv, @ap7, @aq2, @aqf, @aqd, @aqy, @aqm, @aqn, @ac8, @ac5, @aul, @aub, @ajc, @Go.Vm.xj.eq_1, @Go.Vm.ri.eq_1, @Go.Vm.oz.eq_def⟩
theorem R6 : type_of% @Go.Vm.xw.eq_1 ∧ type_of% @Go.Vm.uu.eq_1 ∧ type_of% @Go.Vm.nm.eq_1 ∧ type_of% @Go.Vm.j9.eq_1 ∧ type_of% @Go.Vm.j9.eq_2 ∧ type_of% @Go.Vm.AV.known.eq_2 ∧ type_of% @Go.Value.oneCell'.eq_3 ∧ type_of% @Go.Vm.AV.cells.eq_1 ∧ type_of% @Go.Vm.AV.cells.eq_2 ∧ type_of% @Go.Vm.AV.cells.eq_3 ∧ type_of% @Go.Value.cells.eq_1 ∧ type_of% @Go.Value.cells.eq_2 ∧ type_of% @Go.Vm.AV.one.eq_4 ∧ type_of% @Go.Vm.AV.one.eq_5 ∧ type_of% @Go.Vm.kq.eq_1 ∧ type_of% @Go.Vm.jj.eq_1 ∧ type_of% @Go.Vm.jj.eq_2 ∧ type_of% @Go.Vm.As.eq_1 ∧ type_of% @Go.Vm.qy.eq_1 ∧ type_of% @Go.Vm.ru.eq_2 ∧ type_of% @Go.Vm.ru.eq_6 ∧ type_of% @Go.Vm.jw.eq_1 ∧ type_of% @Go.Vm.jw.eq_3 ∧ type_of% @Go.Vm.jw.eq_4 ∧ type_of% @Go.Vm.xl.eq_1 ∧ type_of% @Go.Vm.C2.eq_1 ∧ type_of% @Go.Vm.K0.eq_1 ∧ type_of% @Go.Vm.nj.eq_1 ∧ type_of% @Go.Vm.nj.eq_2 ∧ type_of% @Go.Vm.nj.eq_3 ∧ type_of% @Go.Vm.nj.eq_4 ∧ type_of% @Go.Vm.nj.eq_5 ∧ type_of% @Go.Vm.nj.eq_6 ∧ type_of% @Go.Vm.nj.eq_7 ∧ type_of% @Go.Vm.nj.eq_8 ∧ type_of% @Go.Vm.nj.eq_9 ∧ type_of% @Go.Vm.nj.eq_10 :=
  ⟨@Go.Vm.xw.eq_1, @Go.Vm.uu.eq_1, @Go.Vm.nm.eq_1, @Go.Vm.j9.eq_1, @Go.Vm.j9.eq_2, @Go.Vm.AV.known.eq_2, @Go.Value.oneCell'.eq_3, @Go.Vm.AV.cells.eq_1, @Go.Vm.AV.cells.eq_2, @Go.Vm.AV.cells.eq_3, @Go.Value.cells.eq_1, @Go.Value.cells.eq_2, @Go.Vm.AV.one.eq_4, @Go.Vm.AV.one.eq_5, @Go.Vm.kq.eq_1, @Go.Vm.jj.eq_1, @Go.Vm.jj.eq_2, @Go.Vm.As.eq_1, @Go.Vm.qy.eq_1, @Go.Vm.ru.eq_2, @Go.Vm.ru.eq_6, @Go.Vm.jw.eq_1, @Go.Vm.jw.eq_3, @Go.Vm.jw.eq_4, @Go.Vm.xl.eq_1, @Go.Vm.C2.eq_1, @Go.Vm.K0.eq_1, @Go.Vm.nj.eq_1, @Go.Vm.nj.eq_2, @Go.Vm.nj.eq_3, @Go.Vm.nj.eq_4, @Go.Vm.nj.eq_5, @Go.Vm.nj.eq_6, @Go.Vm.nj.eq_7, @Go.Vm.nj.eq_8, @Go.Vm.nj.eq_9, @Go.Vm.nj.eq_10⟩
theorem R7 : type_of% @Go.Vm.AV.int.eq_1 ∧ type_of% @Go.Vm.AV.bool.eq_1 ∧ type_of% @Go.Vm.AV.exact.eq_1 ∧ type_of% @Go.Vm.AV.exact.eq_2 ∧ type_of% @Go.Vm.intOf.eq_1 ∧ type_of% @Go.Vm.intOf.eq_2 ∧ type_of% @Go.Vm.oi.eq_1 ∧ type_of% @Go.Vm.kr.eq_1 ∧ type_of% @Go.Vm.vc.eq_1 ∧ type_of% @Go.Vm.vc.eq_2 ∧ type_of% @Go.Vm.w6.eq_1 ∧ type_of% @Go.Vm.Bt.eq_1 ∧ type_of% @Go.Vm.oy.eq_1 ∧ type_of% @Go.Vm.ov.eq_1 ∧ type_of% @Go.Vm.ot.eq_1 ∧ type_of% @Go.Vm.ot.eq_3 ∧ type_of% @Go.Vm.ot.eq_9 ∧ type_of% @Go.Vm.Dy.eq_1 ∧ type_of% @Go.Vm.Pg.eq_1 ∧ type_of% @Go.Vm.Gf.eq_1 ∧ type_of% @Go.Vm.isSlice.eq_4 ∧ type_of% @Go.Vm.Cl.eq_1 ∧ type_of% @Go.goInt.eq_1 ∧ type_of% @aj1 ∧ type_of% @al0 ∧ type_of% @amq ∧ type_of% @Go.Vm.pack.eq_1 ∧ type_of% @Go.Vm.pack.eq_2 ∧ type_of% @Go.Vm.cy.eq_1 ∧ type_of% @Go.Vm.cy.eq_2 ∧ type_of% @Go.Vm.bn.eq_1 ∧ type_of% @Go.Vm.pw.eq_1 ∧ type_of% @Go.Vm.pw.eq_2 ∧ type_of% @Go.Vm.tu.eq_1 ∧ type_of% @tn ∧ type_of% @u0 ∧ type_of% @U3 ∧ type_of% @aaj ∧ type_of% @rm ∧ type_of% @ry ∧ type_of% @Eu :=
  ⟨@Go.Vm.AV.int.eq_1, @Go.Vm.AV.bool.eq_1, @Go.Vm.AV.exact.eq_1, @Go.Vm.AV.exact.eq_2, @Go.Vm.intOf.eq_1, @Go.Vm.intOf.eq_2, @Go.Vm.oi.eq_1, @Go.Vm.kr.eq_1, @Go.Vm.vc.eq_1, @Go.Vm.vc.eq_2, @Go.Vm.w6.eq_1, @Go.Vm.Bt.eq_1, @Go.Vm.oy.eq_1, @Go.Vm.ov.eq_1, @Go.Vm.ot.eq_1, @Go.Vm.ot.eq_3, @Go.Vm.ot.eq_9, @Go.Vm.Dy.eq_1, @Go.Vm.Pg.eq_1, @Go.Vm.Gf.eq_1, @Go.Vm.isSlice.eq_4, @Go.Vm.Cl.eq_1, @Go.goInt.eq_1, @aj1, @al0, @amq, @Go.Vm.pack.eq_1, @Go.Vm.pack.eq_2, @Go.Vm.cy.eq_1, @Go.Vm.cy.eq_2, @Go.Vm.bn.eq_1, @Go.Vm.pw.eq_1, @Go.Vm.pw.eq_2, @Go.Vm.tu.eq_1, @tn, @u0, @U3, @aaj, @rm, @ry, @Eu⟩
theorem R8 : type_of% @P4 ∧ type_of% @Sc ∧ type_of% @Q4 ∧ type_of% @Nk ∧ type_of% @Sg ∧ type_of% @Go.Vm.ki.eq_1 ∧ type_of% @Go.Vm.gj.eq_1 ∧ type_of% @Go.Vm.gz.eq_1 ∧ type_of% @Go.Vm.n9.eq_1 ∧ type_of% @Go.Vm.n9.eq_2 ∧ type_of% @Go.Vm.reach.eq_2 ∧ type_of% @Go.Vm.reach.eq_3 ∧ type_of% @Go.Vm.eg.eq_1 ∧ type_of% @Go.Vm.dh.eq_1 ∧ type_of% @Go.Vm.dh.eq_2 ∧ type_of% @Go.Vm.AV.names.eq_1 ∧ type_of% @Go.Vm.AV.names.eq_2 ∧ type_of% @Go.Vm.AV.names.eq_3 ∧ type_of% @Go.Vm.AV.names.eq_4 ∧ type_of% @Go.Vm.AV.names.eq_5 ∧ type_of% @Go.Vm.AV.names.eq_9 ∧ type_of% @Go.Vm.AV.names.go.eq_1 ∧ type_of% @Go.Vm.AV.names.go.eq_2 ∧ type_of% @Go.Vm.ba.names.eq_1 ∧ type_of% @Go.Vm.AV.c8.eq_1 ∧ type_of% @Go.Vm.AV.c8.eq_2 ∧ type_of% @Go.Vm.AV.c8.eq_3 ∧ type_of% @Go.Vm.AV.c8.eq_4 ∧ type_of% @Go.Vm.AV.c8.eq_5 ∧ type_of% @Go.Vm.AV.c8.eq_6 ∧ type_of% @Go.Vm.AV.c8.eq_7 ∧ type_of% @Go.Vm.AV.c8.eq_11 ∧ type_of% @Go.Vm.ba.c8.eq_1 ∧ type_of% @Hz ∧ type_of% @agl ∧ type_of% @Go.Vm.ig.eq_1 ∧ type_of% @Go.Vm.ig.eq_2 ∧ type_of% @Go.Vm.m7.eq_2 ∧ type_of% @j0 ∧ type_of% @Option.bind_some.{0, 0} ∧ type_of% @Option.bind_none.{0, 0} ∧ type_of% @Option.map_some.{0, 0} ∧ type_of% @Option.getD_some.{0} ∧ type_of% @Option.getD_none.{0} ∧ type_of% @Option.isSome_some.{0} :=
  ⟨@P4, @Sc, @Q4, @Nk, @Sg, @Go.Vm.ki.eq_1, @Go.Vm.gj.eq_1, @Go.Vm.gz.eq_1, @Go.Vm.n9.eq_1, @Go.Vm.n9.eq_2, @Go.Vm.reach.eq_2, @Go.Vm.reach.eq_3, @Go.Vm.eg.eq_1, @Go.Vm.dh.eq_1, @Go.Vm.dh.eq_2, @Go.Vm.AV.names.eq_1, @Go.Vm.AV.names.eq_2, @Go.Vm.AV.names.eq_3, @Go.Vm.AV.names.eq_4, @Go.Vm.AV.names.eq_5, @Go.Vm.AV.names.eq_9, @Go.Vm.AV.names.go.eq_1, @Go.Vm.AV.names.go.eq_2, @Go.Vm.ba.names.eq_1, @Go.Vm.AV.c8.eq_1, @Go.Vm.AV.c8.eq_2, @Go.Vm.AV.c8.eq_3, @Go.Vm.AV.c8.eq_4, @Go.Vm.AV.c8.eq_5, @Go.Vm.AV.c8.eq_6, @Go.Vm.AV.c8.eq_7, @Go.Vm.AV.c8.eq_11, @Go.Vm.ba.c8.eq_1, @Hz, @agl, @Go.Vm.ig.eq_1, @Go.Vm.ig.eq_2, @Go.Vm.m7.eq_2, @j0, @Option.bind_some.{0, 0}, @Option.bind_none.{0, 0}, @Option.map_some.{0, 0}, @Option.getD_some.{0}, @Option.getD_none.{0}, @Option.isSome_some.{0}⟩
theorem R9 : type_of% @List.getElem?_cons_zero.{0} ∧ type_of% @List.getElem?_toArray.{0} ∧ type_of% @Go.Vm.bw.eq_1 ∧ type_of% @List.drop_zero.{0} ∧ type_of% @List.drop_succ_cons.{0} ∧ type_of% @List.drop_nil.{0} ∧ type_of% @List.take_succ_cons.{0} ∧ type_of% @List.take_zero.{0} ∧ type_of% @List.length_cons.{0} ∧ type_of% @List.length_nil.{0} ∧ type_of% @List.length_map.{0, 0} ∧ type_of% @List.getElem?_cons_succ.{0} ∧ type_of% @List.getElem?_nil.{0} ∧ type_of% @List.getElem?_map.{0, 0} ∧ type_of% @List.getElem?_drop.{0} ∧ type_of% @List.map_cons.{0, 0} ∧ type_of% @List.map_nil.{0, 0} ∧ type_of% @List.nil_append.{0} ∧ type_of% @List.cons_append.{0} ∧ type_of% @List.append_nil.{0} ∧ type_of% @List.all_cons.{0} ∧ type_of% @List.all_nil.{0} ∧ type_of% @cond_true.{1} ∧ type_of% @cond_false.{1} ∧ type_of% @decide_true ∧ type_of% @decide_false ∧ type_of% @Bool.and_true ∧ type_of% @Bool.true_and ∧ type_of% @Bool.and_self ∧ type_of% @Bool.not_true ∧ type_of% @Bool.not_false ∧ type_of% @BEq.rfl.{0} ∧ type_of% @Nat.zero_le ∧ type_of% @Nat.le_refl ∧ type_of% @Nat.add_zero ∧ type_of% @Nat.zero_add ∧ type_of% @Nat.mul_one ∧ type_of% @Int.toNat_natCast ∧ type_of% @Int.natCast_nonneg ∧ type_of% @Nat.sub_self ∧ type_of% @List.contains_nil.{0} ∧ type_of% @List.contains_cons.{0} ∧ type_of% @Bool.or_false ∧ type_of% @Bool.false_or ∧ type_of% @Bool.or_true ∧ type_of% @Bool.true_or ∧ type_of% @List.map_map.{0, 0, 0} ∧ type_of% @aal ∧ type_of% @Gj ∧ type_of% @Ek ∧ type_of% @Kd ∧ type_of% @Vr ∧ type_of% @wm :=
  ⟨@List.getElem?_cons_zero.{0}, @List.getElem?_toArray.{0}, @Go.Vm.bw.eq_1, @List.drop_zero.{0}, @List.drop_succ_cons.{0}, @List.drop_nil.{0}, @List.take_succ_cons.{0}, @List.take_zero.{0}, @List.length_cons.{0}, @List.length_nil.{0}, @List.length_map.{0, 0}, @List.getElem?_cons_succ.{0}, @List.getElem?_nil.{0}, @List.getElem?_map.{0, 0}, @List.getElem?_drop.{0}, @List.map_cons.{0, 0}, @List.map_nil.{0, 0}, @List.nil_append.{0}, @List.cons_append.{0}, @List.append_nil.{0}, @List.all_cons.{0}, @List.all_nil.{0}, @cond_true.{1}, @cond_false.{1}, @decide_true, @decide_false, @Bool.and_true, @Bool.true_and, @Bool.and_self, @Bool.not_true, @Bool.not_false, @BEq.rfl.{0}, @Nat.zero_le, @Nat.le_refl, @Nat.add_zero, @Nat.zero_add, @Nat.mul_one, @Int.toNat_natCast, @Int.natCast_nonneg, @Nat.sub_self, @List.contains_nil.{0}, @List.contains_cons.{0}, @Bool.or_false, @Bool.false_or, @Bool.or_true, @Bool.true_or, @List.map_map.{0, 0, 0}, @aal, @Gj, @Ek, @Kd, @Vr, @wm⟩
theorem R10 : type_of% @Q0 ∧ type_of% @M1 ∧ type_of% @Ru ∧ type_of% @as5 ∧ type_of% @auo ∧ type_of% @ats ∧ type_of% @as2 ∧ type_of% @ast ∧ type_of% @asv ∧ type_of% @at1 ∧ type_of% @atm ∧ type_of% @adh ∧ type_of% @aba ∧ type_of% @Wn ∧ type_of% @Ql ∧ type_of% @adw ∧ type_of% @Go.Vm.AV.fresh.eq_1 ∧ type_of% @Go.Vm.AV.fresh.eq_3 ∧ type_of% @Go.Vm.AV.fresh.eq_4 ∧ type_of% @Go.Vm.AV.fresh.go.eq_1 ∧ type_of% @Go.Vm.AV.fresh.go.eq_2 ∧ type_of% @List.map_append.{0, 0} :=
  ⟨@Q0, @M1, @Ru, @as5, @auo, @ats, @as2, @ast, @asv, @at1, @atm, @adh, @aba, @Wn, @Ql, @adw, @Go.Vm.AV.fresh.eq_1, @Go.Vm.AV.fresh.eq_3, @Go.Vm.AV.fresh.eq_4, @Go.Vm.AV.fresh.go.eq_1, @Go.Vm.AV.fresh.go.eq_2, @List.map_append.{0, 0}⟩
theorem RA : type_of% R0 ∧ type_of% R1 ∧ type_of% R2 ∧ type_of% R3 ∧ type_of% R4 ∧ type_of% R5 ∧ type_of% R6 ∧ type_of% R7 ∧ type_of% R8 ∧ type_of% R9 ∧ type_of% R10 :=
  ⟨R0, R1, R2, R3, R4, R5, R6, R7, R8, R9, R10⟩
theorem FB : type_of% @List.cons.injEq.{0} ∧ type_of% @Vu ∧ type_of% @Wu ∧ type_of% @List.length_append.{0} ∧ type_of% @List.length_cons.{0} ∧ type_of% @List.length_nil.{0} ∧ type_of% @List.map_append.{0, 0} ∧ type_of% @List.map_cons.{0, 0} ∧ type_of% @List.map_nil.{0, 0} ∧ type_of% @and_true ∧ type_of% @true_and ∧ type_of% @and_self ∧ type_of% @AV.sc.injEq ∧ type_of% @AV.sl.injEq ∧ type_of% @ba.row.injEq ∧ type_of% @Option.some.injEq.{0} ∧ type_of% @Value.int.injEq ∧ type_of% @Nat.zero_add :=
  ⟨@List.cons.injEq.{0}, @Vu, @Wu, @List.length_append.{0}, @List.length_cons.{0}, @List.length_nil.{0}, @List.map_append.{0, 0}, @List.map_cons.{0, 0}, @List.map_nil.{0, 0}, @and_true, @true_and, @and_self, @AV.sc.injEq, @AV.sl.injEq, @ba.row.injEq, @Option.some.injEq.{0}, @Value.int.injEq, @Nat.zero_add⟩
end Go.Vm
end
section
namespace Go.Vm
noncomputable section
open Go.ChangeShapes Go.WideShapes Go.ChangeAt
mutual
def ma {H : Type} : DataW H → Nat
  | .lit (.string bytes) => bytes.length + 1
  | .lit _ => 1
  | .nil => 1
  | .ptr d => ma d + 1
  | .slice elems spare => m8 elems + m8 spare + 1
  | .agg parts => m8 parts + 1
  | .iface _ d => ma d + 1
  | .map entries => Qd entries + 1
  | .held _ => 1
def m8 {H : Type} : List (DataW H) → Nat
  | [] => 0
  | d :: r => ma d + m8 r
def Qd {H : Type} : List (Lit × DataW H) → Nat
  | [] => 0
  | x :: r => ail x + Qd r
def ail {H : Type} : Lit × DataW H → Nat
  | (.string bytes, d) => bytes.length + ma d + 1
  | (_, d) => ma d + 1
end
def Z4 (W : World) : Nat → Nat → Prop := fun b _ => b < W.heap.size
def Rd (P : Program) (t : TypeId) {α : Type} (C : c6 α) (μ : α → Nat) : Prop :=
  ∀ {H : Type} (enc : TypeId × Value → H) (W : World) (b0 fuel : Nat) (cs : List Value) (x : DataW H × List MemPlace), DataW.trod enc P W 0 (fun _ => true) true fuel t cs = some x →
    ∃ y, bj (gK b0 (Z4 W)) W (C.cells false y) cs ∧ μ y ≤ ma x.1
theorem avr {P : Program} {t : TypeId} (ht : P.underlying t = some (.int .u8)) : Rd P t bz (fun _ => 1) := by
  intro H enc W b0 fuel cs x h
  obtain ⟨n, rfl, rfl, hw⟩ := DataW.trod_int ht h
  have hx : 0 ≤ n ∧ n ≤ 255 := by simpa [Lit.wf, IntKind.min, IntKind.max, IntKind.signed, IntKind.bits] using hw
  refine ⟨UInt8.ofNat n.toNat, ?_, by simp [ma]⟩
  have : n = ((UInt8.ofNat n.toNat).toNat : Int) := by rw [UInt8.toNat_ofNat']; omega
  exact bj.one (by (conv => rhs; rw [this]); exact .sc _)
theorem alw {P : Program} {t : TypeId} (ht : P.underlying t = some (.int .u16)) : Rd P t cq (fun _ => 1) := by
  intro H enc W b0 fuel cs x h
  obtain ⟨n, rfl, rfl, hw⟩ := DataW.trod_int ht h
  have hx : 0 ≤ n ∧ n ≤ 65535 := by simpa [Lit.wf, IntKind.min, IntKind.max, IntKind.signed, IntKind.bits] using hw
  refine ⟨UInt16.ofNat n.toNat, ?_, by simp [ma]⟩
  have : n = ((UInt16.ofNat n.toNat).toNat : Int) := by rw [UInt16.toNat_ofNat']; omega
  exact bj.one (by (conv => rhs; rw [this]); exact .sc _)
theorem am6 {P : Program} {t : TypeId} (ht : P.underlying t = some (.int .u32)) : Rd P t dg (fun _ => 1) := by
  intro H enc W b0 fuel cs x h
  obtain ⟨n, rfl, rfl, hw⟩ := DataW.trod_int ht h
  have hx : 0 ≤ n ∧ n ≤ 4294967295 := Go.bounds_u32 hw
  refine ⟨UInt32.ofNat n.toNat, ?_, by simp [ma]⟩
  have : n = ((UInt32.ofNat n.toNat).toNat : Int) := by rw [UInt32.toNat_ofNat']; omega
  exact bj.one (by (conv => rhs; rw [this]); exact .sc _)
theorem au7 {P : Program} {t : TypeId} (ht : P.underlying t = some .string) : Rd P t aj (fun s => s.size + 1) := by
  intro H enc W b0 fuel cs x h
  obtain ⟨s, rfl, rfl, _⟩ := DataW.trod_string ht h
  refine ⟨s, bj.one (.sc _), ?_⟩
  show s.size + 1 ≤ ma (DataW.lit (Lit.string s.data.toList))
  rw [ma, Array.length_toList]
  exact Nat.le_refl _
theorem asc (ao k s v j : Nat) (h3 : v = k * s) (hge : v ≤ j) : ao + k * s + (j - v) = ao + j := by rw [← h3]; omega
def s6 {α : Type} (μ : α → Nat) : List α → Nat
  | [] => 0
  | x :: r => μ x + s6 μ r
theorem Nx {α : Type} (μ : α → Nat) : ∀ a b : List α, s6 μ (a ++ b) = s6 μ a + s6 μ b
  | [], b => by simp [s6]
  | x :: a, b => by simp [s6, Nx μ a b]; omega
theorem J5 {H : Type} : ∀ a b : List (DataW H), m8 (a ++ b) = m8 a + m8 b
  | [], b => by simp [m8]
  | x :: a, b => by simp [m8, J5 a b]; omega
theorem aro {P : Program} {t e : TypeId} {α : Type} {C : c6 α} {μ : α → Nat} (ht : P.underlying t = some (.slice e)) (hsz : P.cellsOf e = C.sz) (hpos : 0 < C.sz) (he : Rd P e C μ) : Rd P t (cw C) (fun l => s6 μ l + 1) := by
  intro H enc W b0 fuel cs x h
  rcases Go.Deep.open_slice ht h with ⟨rfl, rfl⟩ | ⟨a, len, cap, m, n, D, Pl, rfl, _, hl, hm, hmm, rfl, hx⟩
  · exact ⟨[], bj.one (.kf _ _), by simp [s6, ma]⟩
  · simp only [if_true] at hmm
    subst hmm
    have spot : 0 < m → a.spot = none ∧ a.block < W.heap.size := by
      intro h0
      obtain ⟨cs', h1, _⟩ := hx 0 h0
      rw [hsz] at h1
      simp only [World.cells?, Nat.zero_le, if_true] at h1
      have h2 := mapM_some_get h1 0 0 (by simp [hpos])
      have hlen := mapM_some_length h1
      have h3 : ∃ v, cs'[0]? = some v := ⟨cs'[0]'(by rw [hlen]; simpa using hpos), by simp⟩
      obtain ⟨v, hv⟩ := h3
      rw [hv] at h2
      simp only [Nat.zero_mul, Addr.add, if_true] at h2
      simp only [World.cell?] at h2
      split at h2
      · rename_i c _ _ hb
        cases hs : a.spot with
        | none => exact ⟨rfl, bu hb⟩
        | some s => simp [hs] at h2
      · cases h2
    have build : ∀ k, k ≤ len → ∃ (xs : List α) (vs : List Value), xs.length = k ∧ bj (gK b0 (Z4 W)) W (xs.flatMap (C.cells false)) vs ∧ vs.length = k * C.sz ∧ (∀ j v, vs[j]? = some v → W.cell? ⟨a.block, a.off + j, none⟩ = some v) ∧
        s6 μ xs ≤ m8 ((List.range k).map D) := by
      intro k
      induction k with
      | zero => intro _; exact ⟨[], [], rfl, bj.nil _ _, by simp, (fun j v hj => by simp at hj), by simp [s6, m8]⟩
      | succ k ih =>
        intro hk
        obtain ⟨xs, vs, h1, h2, h3, h4, h5⟩ := ih (by omega)
        obtain ⟨cs', h6, h7⟩ := hx k (by omega)
        obtain ⟨y, h8, h9⟩ := he enc W b0 n cs' _ h7
        rw [hsz] at h6
        simp only [World.cells?, Nat.zero_le, if_true] at h6
        have hlen := mapM_some_length h6
        simp only [List.length_range] at hlen
        refine ⟨xs ++ [y], vs ++ cs', by simp [h1], ?_, by simp [h3, hlen, Nat.succ_mul], fun j v hj => ?_, ?_⟩
        · rw [List.flatMap_append]; exact h2.append (by simpa using h8)
        · by_cases hj1 : j < vs.length
          · rw [List.getElem?_append_left hj1] at hj; exact h4 j v hj
          · rw [List.getElem?_append_right (by omega)] at hj
            have hj2 := (List.getElem?_eq_some_iff.1 hj).1
            have h10 := mapM_some_get h6 (j - vs.length) (j - vs.length) (List.getElem?_range (by rw [← hlen]; exact hj2))
            rw [hj] at h10
            have hs := (spot (by omega)).1
            have e : (a.add (k * C.sz)).add (j - vs.length) = ⟨a.block, a.off + j, none⟩ := by
              obtain ⟨ab, ao, azs⟩ := a
              simp only at hs
              subst hs
              rw [Addr.ny, Addr.ny]
              have hge : vs.length ≤ j := Nat.le_of_not_lt hj1
              rw [asc ao k C.sz vs.length j h3 hge]
            rw [e] at h10
            exact h10
        · rw [Nx, List.range_succ, List.map_append, J5]
          simp only [s6, List.map_cons, List.map_nil, m8]
          have : μ y ≤ ma (D k) := h9
          omega
    obtain ⟨xs, vs, h1, h2, h3, h4, h5⟩ := build len (Nat.le_refl _)
    refine ⟨xs, bj.one ?_, by
      simp only [ma]
      have : s6 μ xs ≤ m8 ((List.range len).map D) := h5
      omega⟩
    by_cases h0 : 0 < m
    · obtain ⟨hs, hb⟩ := spot h0
      obtain ⟨ab, ao, azs⟩ := a
      simp only at hs hb h4
      subst hs
      rw [← h1]
      refine aho C h2 (by omega) (fun e => by cases e) (fun j v hj => ⟨hb, h4 j v hj⟩)
    · have hl0 : len = 0 := by omega
      have hm0 : m = 0 := by omega
      subst hl0 hm0
      have : xs = [] := List.eq_nil_of_length_eq_zero h1
      subst this
      exact .tg _ _ _
def Vz (P : Program) (fs : List Field) (off : Nat) {α : Type} (C : c6 α) (μ : α → Nat) : Prop :=
  ∀ {H : Type} (enc : TypeId × Value → H) (W : World) (b0 n : Nat) (cs : List Value) (ys : List (DataW H × List MemPlace)), ys.length = fs.length →
    (∀ (i : Nat) f, fs[i]? = some f → DataW.trod enc P W 0 (fun _ => true) true n f.type ((cs.drop f.offset).take (P.cellsOf f.type)) = ys[i]?) →
    ∃ y, bj (gK b0 (Z4 W)) W (C.cells false y) ((cs.drop off).take C.sz) ∧ μ y ≤ m8 (ys.map (·.1))
theorem ary {P : Program} {f : Field} {off : Nat} {α : Type} {C : c6 α} {μ : α → Nat} (ho : f.offset = off) (hs : P.cellsOf f.type = C.sz) (h : Rd P f.type C μ) : Vz P [f] off C μ := by
  intro H enc W b0 n cs ys hl hf
  match ys, hl with
  | [y0], _ =>
    have := hf 0 f rfl
    obtain ⟨y, h1, h2⟩ := h enc W b0 n _ y0 this
    rw [ho, hs] at h1
    exact ⟨y, h1, by simp [m8]; exact h2⟩
theorem aoa {P : Program} {f : Field} {fs : List Field} {off : Nat} {α β : Type} {A : c6 α} {B : c6 β} {μ : α → Nat} {ν : β → Nat} (ho : f.offset = off) (hs : P.cellsOf f.type = A.sz) (h : Rd P f.type A μ) (hr : Vz P fs (off + A.sz) B ν) :
    Vz P (f :: fs) off (iw A B) (fun p => μ p.1 + ν p.2) := by
  intro H enc W b0 n cs ys hl hf
  match ys, hl with
  | y0 :: ys, hl =>
    have h0 := hf 0 f rfl
    obtain ⟨y, h1, h2⟩ := h enc W b0 n _ y0 h0
    obtain ⟨z, h3, h4⟩ := hr enc W b0 n cs ys (by simpa using hl) (fun i g hg => by have := hf (i + 1) g (by simpa using hg); simpa using this)
    rw [ho, hs] at h1
    refine ⟨(y, z), ?_, by simp [m8]; omega⟩
    have := h1.append h3
    rwa [show (cs.drop off).take A.sz ++ (cs.drop (off + A.sz)).take B.sz = (cs.drop off).take (A.sz + B.sz) from by
      rw [List.take_add, List.drop_drop]] at this
theorem am7 {P : Program} {t : TypeId} {fs : Array Field} {α : Type} {C : c6 α} {μ : α → Nat} (ht : P.underlying t = some (.struct fs)) (hc : P.cellsOf t = C.sz) (h : Vz P fs.toList 0 C μ) : Rd P t C (fun x => μ x + 1) := by
  intro H enc W b0 fuel cs x hx
  obtain ⟨xs, n, _, rfl, hl, hlen, hf⟩ := DataW.trod_struct ht hx
  obtain ⟨y, h1, h2⟩ := h enc W b0 n cs xs (by simpa using hlen) (fun i f hi => hf i f (by simpa using hi))
  refine ⟨y, ?_, by simp [ma]; exact h2⟩
  rwa [List.drop_zero, List.take_of_length_le (by omega)] at h1
theorem au1 {P : Program} {t : TypeId} {α β : Type} {C : c6 α} {μ : α → Nat} {f : β → α} {i : α → β} {h1 : ∀ y, i (f y) = y} {h2 : ∀ x, f (i x) = x} (h : Rd P t C μ) : Rd P t (wg C f i h1 h2) (fun y => μ (f y)) := by
  intro H enc W b0 fuel cs x hx
  obtain ⟨y, h3, h4⟩ := h enc W b0 fuel cs x hx
  exact ⟨i y, by show bj _ _ (C.cells false (f (i y))) cs; rw [h2]; exact h3, by show μ (f (i y)) ≤ _; rw [h2]; exact h4⟩
def RdA (P : Program) (ts : List TypeId) {α : Type} (A : AC α) (μ : α → Nat) : Prop :=
  ∀ {H : Type} (enc : TypeId × Value → H) (W : World) (b0 b1 : Nat) (vs : List Value) (ds : List (DataW H)) (ps : List MemPlace), (∀ (j : Nat) t v, ts[j]? = some t → vs[j]? = some v → Value.okWide P W .any b1 t v) →
    DataW.TrodAll enc P W 0 (fun _ => true) true ts vs ds ps → ∃ y, bj (gK b0 (Z4 W)) W (A.E y) vs ∧ μ y ≤ m8 ds
theorem arx (P : Program) : RdA P [] a0 (fun _ => 0) := by
  intro H enc W b0 b1 vs ds ps _ h
  obtain ⟨rfl, rfl, rfl⟩ := trodAll_nil h
  exact ⟨(), bj.nil _ _, Nat.zero_le _⟩
theorem aiz {P : Program} {W : World} {b : Nat} {t : TypeId} {v : Value} (h : l5 P t = some true) (ho : Value.okWide P W .any b t v) : ∃ cs, v = .agg cs := by
  unfold l5 at h
  unfold Value.okWide at ho
  cases hu : P.underlying t with
  | none => rw [hu] at h; cases h
  | some d =>
    rw [hu] at h ho
    cases d <;> simp_all <;> exact ⟨_, ho.choose_spec.1⟩
theorem P0 {P : Program} {t : TypeId} {ts : List TypeId} {α β : Type} {C : c6 α} {R : AC β} {μ : α → Nat} {ν : β → Nat} (ha : l5 P t = some C.agg) (h : Rd P t C μ) (hr : RdA P ts R ν) : RdA P (t :: ts) (aC C R) (fun p => μ p.1 + ν p.2) := by
  intro H enc W b0 b1 vs ds ps hok hall
  obtain ⟨v, vs1, d, ds1, p, q, rfl, rfl, rfl, h0, h1⟩ := trodAll_cons hall
  obtain ⟨fuel, hf⟩ := h0
  obtain ⟨y, h2, h3⟩ := h enc W b0 fuel _ _ hf
  obtain ⟨z, h4, h5⟩ := hr enc W b0 b1 vs1 ds1 q (fun j t v ht hv => hok (j + 1) t v (by simpa using ht) (by simpa using hv)) h1
  have h3' : μ y ≤ ma d := h3
  refine ⟨(y, z), bj.cons ?_ h4, by simp only [m8]; omega⟩
  have hv := hok 0 t v rfl rfl
  show Rel _ _ (C.val false y) v
  unfold c6.val
  cases hg : C.agg with
  | true =>
    obtain ⟨cs, rfl⟩ := aiz (by rw [ha, hg]) hv
    exact .agg _ cs (by simpa [Value.cells] using h2.1) (fun i a v ha hv => h2.2 i a v ha (by simpa [Value.cells] using hv))
  | false =>
    obtain ⟨c, h6, h7, _⟩ := C.one hg false y
    rw [cond_false, h6]
    rw [h6] at h2
    have hcs : v.cells.toList = [v] := by
      have hl := h2.1
      simp only [List.length_singleton] at hl
      cases v with
      | agg cs =>
        exfalso
        unfold l5 at ha
        unfold Value.okWide at hv
        cases hu : P.underlying t with
        | none => rw [hu] at ha; cases ha
        | some d =>
          rw [hu] at ha hv
          have hcell : Cell.okWide P W .any b1 t (.agg cs) := by
            cases d <;> simp_all
          rw [hg] at ha
          unfold Cell.okWide Cell.ok at hcell
          rw [hu] at hcell
          cases d <;> simp_all
      | _ => rfl
    rw [hcs] at h2
    exact h2.head
theorem adl {W W' : World} (q : y8 W W') {p : MemPlace} (h : p.block < W.heap.size) : W.sameAt W' p := by
  cases p with
  | cell b off => exact s9 (q.heap b h)
  | map b => exact q.heap b h
theorem again {H : Type} {enc : TypeId × Value → H} {P : Program} {W W' : World} {sp : Nat → Bool} (K : Kids P (· < P.types.size)) (hz : ∀ t e, t < P.types.size → P.underlying t = some (.slice e) → 0 < P.cellsOf e) (q : y8 W W') :
    ∀ {ts : List TypeId} {vs : List Value} {ds : List (DataW H)} {ps : List MemPlace}, (∀ t ∈ ts, t < P.types.size) → DataW.TrodAll enc P W 0 (fun _ => true) true ts vs ds ps → (∀ p ∈ ps, sp p.block = true) → (∀ p ∈ ps, p.block < W.heap.size) →
      DataW.TrodAll enc P W' 0 sp true ts vs ds ps
  | [], [], [], _, _, h, _, _ => h
  | t :: ts, v :: vs, d :: ds, ps, hT, ⟨p, p', h1, h2, e⟩, hs, hl => by
    obtain ⟨n, hn⟩ := h1
    subst e
    have h3 := DataW.trod_respare (spare' := sp) K hz n t _ _ (hT t (by simp)) hn (fun x hx => hs x (by simp only [List.mem_append]; exact .inl hx))
    have h4 := DataW.trod_carry (w' := W') n t _ _ h3 (fun x hx => adl q (hl x (by simp only [List.mem_append]; exact .inl hx)))
    exact ⟨p, p', ⟨n, h4⟩, again K hz q (fun t ht => hT t (by simp [ht])) h2 (fun x hx => hs x (by simp [hx])) (fun x hx => hl x (by simp [hx])), rfl⟩
theorem ajr {W W' : World} (q : y8 W W') (may : MemPlace → Prop) : W.keptBut W' may := by
  refine ⟨q.os, q.output, fun i hi => ?_⟩
  rw [q.heap i hi]
  split
  · rename_i c t fr c' t' fr' h1 h2
    rw [h1] at h2
    cases h2
    exact ⟨rfl, rfl, rfl, fun _ _ => rfl⟩
  · rename_i es cl es' cl' h1 h2
    rw [h1] at h2
    cases h2
    exact .inr ⟨rfl, rfl⟩
  · rfl
def ah7 (P : Program) : Bool := (List.range P.types.size).all fun t => match P.underlying t with | some (.slice e) => Nat.blt 0 (P.cellsOf e) | _ => true
theorem Xj {P : Program} (h : ah7 P = true) (t e : TypeId) (ht : t < P.types.size) (hu : P.underlying t = some (.slice e)) : 0 < P.cellsOf e := by
  have := List.all_eq_true.1 h t (List.mem_range.2 ht)
  simp only [hu] at this
  exact Nat.le_of_ble_eq_true this
def ar6 (P : Program) (l : List TypeId) : Bool := l.all fun t => Nat.blt t P.types.size
theorem ai5 {P : Program} {l : List TypeId} (h : ar6 P l = true) : ∀ t ∈ l, t < P.types.size := fun t ht => Nat.le_of_ble_eq_true (List.all_eq_true.1 h t ht)
theorem ano {P : Program} (hlaid : laidOutB P = true) (hmaps : mapsRowed P = true) (hz : ∀ t e, t < P.types.size → P.underlying t = some (.slice e) → 0 < P.cellsOf e) {f : Nat} {fn : Func} {s : ChangeSpec} {tb : TypeId}
    (he : lx P f = true) (hvars : s.vars = []) (hres : fn.resultTypes = #[tb]) (htb : P.underlying tb = some .bool) (hpar : ∀ t ∈ fn.params.toList, t < P.types.size)
    (hfn : ∀ (H : Type) (ds : List (DataW H)), ds.length = fn.params.toList.length → s.fn H ds = { results := [.lit (.bool true)], args := ds }) {α : Type} {A : AC α} {μ : α → Nat} (hA : RdA P fn.params.toList A μ) {N : Option Nat}
    (hcall : ∀ x, (∀ n, N = some n → μ x ≤ n) → bh P f (A.E x) (.sc (.bool true)))
    {H : Type} (enc : TypeId × Value → H) (W : World) (base : Nat) (args : Array Value) (ds gs : List (DataW H)) (before : List MemPlace) (hval : ∀ (j : Nat) t v, fn.params[j]? = some t → args[j]? = some v → Value.okWide P W .any base t v)
    (hW : DataW.Whole enc P fn.params.toList s.vars false W args.toList ds gs before) (hN : ∀ n, N = some n → m8 (ds ++ gs) ≤ n) :
    Calls P f args W fun e W' => ∃ v, e = .returned v ∧ s.post enc P fn false true false false W args v W' := by
  have hW' := hW
  obtain ⟨p, q, hA0, hV, rfl, hfz, hnd⟩ := hW
  rw [hvars] at hV
  obtain ⟨rfl, rfl⟩ := trodVars_none hV
  obtain ⟨x, hx, hμ⟩ := hA enc W W.heap.size base args.toList ds p (fun j t v ht hv => hval j t v (by simpa using ht) (by simpa using hv)) hA0
  have hp := hcall x (fun n hn => Nat.le_trans hμ (by have := hN n hn; simpa using this)) (Z4 W) W args.toList (fun _ _ h => h) hx
  have hlen : ds.length = fn.params.toList.length := by
    have : ∀ {ts : List TypeId} {vs : List Value} {ds : List (DataW H)} {ps : List MemPlace}, DataW.TrodAll enc P W 0 (fun _ => true) true ts vs ds ps → ds.length = ts.length := by
      intro ts
      induction ts with
      | nil => intro vs ds ps h; obtain ⟨_, rfl, _⟩ := trodAll_nil h; rfl
      | cons t ts ih => intro vs ds ps h; obtain ⟨v, vs1, d, ds1, p, q, rfl, rfl, rfl, h0, h1⟩ := trodAll_cons h; simp [ih h1]
    exact this hA0
  have hlt : ∀ y ∈ p ++ [], y.block < W.heap.size := fun y hy => hW'.lt y hy
  have hspec := hfn H ds hlen
  rcases hp with ⟨v, hv, _⟩ | ⟨_, hc⟩
  · rw [ug he] at hv; cases hv
  · refine hc.mono ?_
    rintro e W' ⟨v, rfl, hq, hr⟩
    obtain rfl := hr.exact rfl
    refine ⟨_, rfl, ds, [], p ++ [], [], p, [], hW', ?_, ?_, ?_, ajr hq _, fun e => by cases e⟩
    · rw [List.append_nil, hspec, hres]
      exact trodAll_cons_mk (Go.RowKit.shut_bool htb _) trodAll_mk0
    · rw [List.append_nil, hspec]
      exact again (kids_rows hlaid hmaps) hz hq hpar hA0 (fun y hy => by have := hlt y (by simp [hy]); simpa using this) (fun y hy => hlt y (by simp [hy]))
    · rw [List.append_nil, hspec, hvars]
      rfl
end
end Go.Vm
end
section
set_option linter.unusedVariables false
namespace Go.Vm
open Go.Proofs
theorem akp : (Tryz.prog.underlying 3 = some (.int .i64)) ∧
  (Tryz.prog.underlying 4 = some (.bool)) ∧
  (Tryz.prog.underlying 5 = some (.int .u8)) ∧
  (Tryz.prog.underlying 9 = some (.string)) ∧
  (Tryz.prog.underlying 22 = some (.slice 9)) ∧
  (Tryz.prog.underlying 23 = some (.slice 9)) ∧
  (Tryz.prog.underlying 24 = some (.slice 44)) ∧
  (Tryz.prog.underlying 41 = some (.int .u32)) ∧
  (Tryz.prog.underlying 42 = some (.slice 65)) :=
  ⟨by kernel_rfl, by kernel_rfl, by kernel_rfl, by kernel_rfl, by kernel_rfl, by kernel_rfl, by kernel_rfl, by kernel_rfl, by kernel_rfl⟩
theorem akg : (Tryz.prog.underlying 58 = some (.slice 23)) ∧
  (Tryz.prog.underlying 62 = some (.slice 41)) ∧
  (Tryz.prog.underlying 63 = some (.slice 5)) ∧
  (Tryz.prog.underlying 171 = some (.slice 3)) ∧
  (Tryz.prog.underlying 181 = some (.slice 63)) :=
  ⟨by kernel_rfl, by kernel_rfl, by kernel_rfl, by kernel_rfl, by kernel_rfl⟩
theorem ak5 : (l5 Tryz.prog 3 = some false) ∧
  (l5 Tryz.prog 4 = some false) ∧
  (l5 Tryz.prog 5 = some false) ∧
  (l5 Tryz.prog 9 = some false) ∧
  (l5 Tryz.prog 22 = some false) ∧
  (l5 Tryz.prog 23 = some false) ∧
  (l5 Tryz.prog 24 = some false) ∧
  (l5 Tryz.prog 26 = some true) :=
  ⟨by kernel_rfl, by kernel_rfl, by kernel_rfl, by kernel_rfl, by kernel_rfl, by kernel_rfl, by kernel_rfl, by kernel_rfl⟩
theorem ala : (l5 Tryz.prog 28 = some false) ∧
  (l5 Tryz.prog 32 = some true) ∧
  (l5 Tryz.prog 33 = some false) ∧
  (l5 Tryz.prog 40 = some false) ∧
  (l5 Tryz.prog 41 = some false) ∧
  (l5 Tryz.prog 42 = some false) ∧
  (l5 Tryz.prog 44 = some true) ∧
  (l5 Tryz.prog 52 = some false) ∧
  (l5 Tryz.prog 54 = some true) ∧
  (l5 Tryz.prog 58 = some false) ∧
  (l5 Tryz.prog 62 = some false) ∧
  (l5 Tryz.prog 63 = some false) ∧
  (l5 Tryz.prog 65 = some true) ∧
  (l5 Tryz.prog 70 = some false) :=
  ⟨by kernel_rfl, by kernel_rfl, by kernel_rfl, by kernel_rfl, by kernel_rfl, by kernel_rfl, by kernel_rfl, by kernel_rfl, by kernel_rfl, by kernel_rfl, by kernel_rfl, by kernel_rfl, by kernel_rfl, by kernel_rfl⟩
theorem ani : (l5 Tryz.prog 72 = some true) ∧
  (l5 Tryz.prog 127 = some true) ∧
  (l5 Tryz.prog 154 = some false) :=
  ⟨by kernel_rfl, by kernel_rfl, by kernel_rfl⟩
theorem ag4 : (de Tryz.prog 3 = some 1) ∧
  (de Tryz.prog 4 = some 1) ∧
  (de Tryz.prog 5 = some 1) ∧
  (de Tryz.prog 9 = some 1) ∧
  (de Tryz.prog 22 = some 1) ∧
  (de Tryz.prog 23 = some 1) ∧
  (de Tryz.prog 24 = some 1) ∧
  (de Tryz.prog 26 = some 2) :=
  ⟨by kernel_rfl, by kernel_rfl, by kernel_rfl, by kernel_rfl, by kernel_rfl, by kernel_rfl, by kernel_rfl, by kernel_rfl⟩
theorem ago : (de Tryz.prog 28 = some 1) ∧
  (de Tryz.prog 32 = some 5) ∧
  (de Tryz.prog 33 = some 1) ∧
  (de Tryz.prog 40 = some 1) ∧
  (de Tryz.prog 41 = some 1) ∧
  (de Tryz.prog 42 = some 1) ∧
  (de Tryz.prog 44 = some 5) ∧
  (de Tryz.prog 52 = some 1) ∧
  (de Tryz.prog 54 = some 3) ∧
  (de Tryz.prog 58 = some 1) ∧
  (de Tryz.prog 62 = some 1) ∧
  (de Tryz.prog 63 = some 1) ∧
  (de Tryz.prog 65 = some 4) ∧
  (de Tryz.prog 70 = some 1) :=
  ⟨by kernel_rfl, by kernel_rfl, by kernel_rfl, by kernel_rfl, by kernel_rfl, by kernel_rfl, by kernel_rfl, by kernel_rfl, by kernel_rfl, by kernel_rfl, by kernel_rfl, by kernel_rfl, by kernel_rfl, by kernel_rfl⟩
theorem ag2 : (de Tryz.prog 72 = some 3) ∧
  (de Tryz.prog 127 = some 5) ∧
  (de Tryz.prog 154 = some 1) :=
  ⟨by kernel_rfl, by kernel_rfl, by kernel_rfl⟩
theorem agm : (ey Tryz.prog 3 = some (.int .i64 0)) ∧
  (ey Tryz.prog 4 = some (.bool false)) ∧
  (ey Tryz.prog 5 = some (.int .u8 0)) ∧
  (ey Tryz.prog 23 = some (.slice none 0 0)) :=
  ⟨by kernel_rfl, by kernel_rfl, by kernel_rfl, by kernel_rfl⟩
theorem afg : (ey Tryz.prog 32 = some (.agg #[.int .i64 0, .bool false, .slice none 0 0, .slice none 0 0, .slice none 0 0])) ∧
  (ey Tryz.prog 44 = some (.agg #[.slice none 0 0, .int .u16 0, .int .u16 0, .int .u32 0, .slice none 0 0])) ∧
  (ey Tryz.prog 54 = some (.agg #[.int .u8 0, .slice none 0 0, .slice none 0 0])) ∧
  (ey Tryz.prog 65 = some (.agg #[.slice none 0 0, .slice none 0 0, .slice none 0 0, .slice none 0 0])) :=
  ⟨by kernel_rfl, by kernel_rfl, by kernel_rfl, by kernel_rfl⟩
theorem agt : (ey Tryz.prog 72 = some (.agg #[.int .u8 0, .slice none 0 0, .slice none 0 0])) ∧
  (ey Tryz.prog 127 = some (.agg #[.int .i64 0, .int .i64 0, .int .i64 0, .int .i64 0, .int .i64 0])) :=
  ⟨by kernel_rfl, by kernel_rfl⟩
theorem aj8 : (Bz Tryz.prog 22 = some (9, 1, [.sc (.string .empty)])) ∧
  (Bz Tryz.prog 23 = some (9, 1, [.sc (.string .empty)])) ∧
  (Bz Tryz.prog 24 = some (44, 5, [.sc (.slice none 0 0), .sc (.int .u16 0), .sc (.int .u16 0), .sc (.int .u32 0), .sc (.slice none 0 0)])) ∧
  (Bz Tryz.prog 42 = some (65, 4, [.sc (.slice none 0 0), .sc (.slice none 0 0), .sc (.slice none 0 0), .sc (.slice none 0 0)])) ∧
  (Bz Tryz.prog 58 = some (23, 1, [.sc (.slice none 0 0)])) ∧
  (Bz Tryz.prog 62 = some (41, 1, [.sc (.int .u32 0)])) ∧
  (Bz Tryz.prog 63 = some (5, 1, [.sc (.int .u8 0)])) ∧
  (Bz Tryz.prog 171 = some (3, 1, [.sc (.int .i64 0)])) ∧
  (Bz Tryz.prog 181 = some (63, 1, [.sc (.slice none 0 0)])) :=
  ⟨by kernel_rfl, by kernel_rfl, by kernel_rfl, by kernel_rfl, by kernel_rfl, by kernel_rfl, by kernel_rfl, by kernel_rfl, by kernel_rfl⟩
theorem Zl : (wb Tryz.prog 32 = some ([.sc (.int .i64 0), .sc (.bool false), .sc (.slice none 0 0), .sc (.slice none 0 0), .sc (.slice none 0 0)], [(0, 1), (1, 1), (2, 1), (3, 1), (4, 1)])) ∧
  (wb Tryz.prog 44 = some ([.sc (.slice none 0 0), .sc (.int .u16 0), .sc (.int .u16 0), .sc (.int .u32 0), .sc (.slice none 0 0)], [(0, 1), (1, 1), (2, 1), (3, 1), (4, 1)])) ∧
  (wb Tryz.prog 54 = some ([.sc (.int .u8 0), .sc (.slice none 0 0), .sc (.slice none 0 0)], [(0, 1), (1, 1), (2, 1)])) ∧
  (wb Tryz.prog 60 = some ([.sc (.slice none 0 0), .sc (.slice none 0 0), .sc (.int .i64 0), .sc (.bool false), .sc (.slice none 0 0), .sc (.slice none 0 0), .sc (.slice none 0 0), .sc (.slice none 0 0)], [(0, 2), (2, 5), (7, 1)])) ∧
  (wb Tryz.prog 65 = some ([.sc (.slice none 0 0), .sc (.slice none 0 0), .sc (.slice none 0 0), .sc (.slice none 0 0)], [(0, 1), (1, 1), (2, 1), (3, 1)])) ∧
  (wb Tryz.prog 72 = some ([.sc (.int .u8 0), .sc (.slice none 0 0), .sc (.slice none 0 0)], [(0, 1), (1, 1), (2, 1)])) :=
  ⟨by kernel_rfl, by kernel_rfl, by kernel_rfl, by kernel_rfl, by kernel_rfl, by kernel_rfl⟩
theorem ac2 : (wb Tryz.prog 127 = some ([.sc (.int .i64 0), .sc (.int .i64 0), .sc (.int .i64 0), .sc (.int .i64 0), .sc (.int .i64 0)], [(0, 1), (1, 1), (2, 1), (3, 1), (4, 1)])) ∧
  (wb Tryz.prog 156 = some ([.sc (.slice none 0 0), .sc (.slice none 0 0), .sc (.int .i64 0)], [(0, 2), (2, 1)])) :=
  ⟨by kernel_rfl, by kernel_rfl⟩
theorem aac : (ee Tryz.prog 26 0 = some ⟨"Origin", 23, 0, false, "", "", 0⟩) ∧
  (ee Tryz.prog 26 1 = some ⟨"Sets", 24, 1, false, "", "", 24⟩) ∧
  (ee Tryz.prog 32 0 = some ⟨"Rcode", 3, 0, false, "", "", 0⟩) :=
  ⟨by kernel_rfl, by kernel_rfl, by kernel_rfl⟩
theorem aab : (ee Tryz.prog 32 1 = some ⟨"AA", 4, 1, false, "", "", 8⟩) ∧
  (ee Tryz.prog 32 2 = some ⟨"Answer", 24, 2, false, "", "", 16⟩) ∧
  (ee Tryz.prog 32 3 = some ⟨"Authority", 24, 3, false, "", "", 40⟩) ∧
  (ee Tryz.prog 32 4 = some ⟨"Additional", 24, 4, false, "", "", 64⟩) ∧
  (ee Tryz.prog 44 0 = some ⟨"Owner", 23, 0, false, "", "", 0⟩) ∧
  (ee Tryz.prog 44 1 = some ⟨"Type", 28, 1, false, "", "", 24⟩) ∧
  (ee Tryz.prog 44 2 = some ⟨"Class", 40, 2, false, "", "", 26⟩) ∧
  (ee Tryz.prog 44 3 = some ⟨"TTL", 41, 3, false, "", "", 28⟩) ∧
  (ee Tryz.prog 44 4 = some ⟨"Data", 42, 4, false, "", "", 32⟩) ∧
  (ee Tryz.prog 54 0 = some ⟨"Kind", 52, 0, false, "", "", 0⟩) ∧
  (ee Tryz.prog 54 1 = some ⟨"Node", 23, 1, false, "", "", 8⟩) ∧
  (ee Tryz.prog 60 0 = some ⟨"z", 26, 0, false, "", "nomenclator/answer", 0⟩) :=
  ⟨by kernel_rfl, by kernel_rfl, by kernel_rfl, by kernel_rfl, by kernel_rfl, by kernel_rfl, by kernel_rfl, by kernel_rfl, by kernel_rfl, by kernel_rfl, by kernel_rfl, by kernel_rfl⟩
theorem abt : (ee Tryz.prog 60 1 = some ⟨"r", 32, 2, false, "", "nomenclator/answer", 48⟩) ∧
  (ee Tryz.prog 60 2 = some ⟨"seen", 58, 7, false, "", "nomenclator/answer", 136⟩) ∧
  (ee Tryz.prog 65 0 = some ⟨"Names", 58, 0, false, "", "", 0⟩) ∧
  (ee Tryz.prog 65 1 = some ⟨"Nums", 62, 1, false, "", "", 24⟩) ∧
  (ee Tryz.prog 65 2 = some ⟨"Texts", 22, 2, false, "", "", 48⟩) ∧
  (ee Tryz.prog 65 3 = some ⟨"Raw", 63, 3, false, "", "", 72⟩) ∧
  (ee Tryz.prog 72 0 = some ⟨"Turn", 70, 0, false, "", "", 0⟩) ∧
  (ee Tryz.prog 72 1 = some ⟨"Sets", 24, 1, false, "", "", 8⟩) ∧
  (ee Tryz.prog 72 2 = some ⟨"To", 23, 2, false, "", "", 32⟩) :=
  ⟨by kernel_rfl, by kernel_rfl, by kernel_rfl, by kernel_rfl, by kernel_rfl, by kernel_rfl, by kernel_rfl, by kernel_rfl, by kernel_rfl⟩
theorem acm : (ee Tryz.prog 127 0 = some ⟨"names", 3, 0, false, "", "nomenclator/rdata", 0⟩) ∧
  (ee Tryz.prog 127 1 = some ⟨"nums", 3, 1, false, "", "nomenclator/rdata", 8⟩) ∧
  (ee Tryz.prog 127 2 = some ⟨"size", 3, 2, false, "", "nomenclator/rdata", 16⟩) ∧
  (ee Tryz.prog 127 3 = some ⟨"texts", 3, 3, false, "", "nomenclator/rdata", 24⟩) ∧
  (ee Tryz.prog 127 4 = some ⟨"raw", 3, 4, false, "", "nomenclator/rdata", 32⟩) :=
  ⟨by kernel_rfl, by kernel_rfl, by kernel_rfl, by kernel_rfl, by kernel_rfl⟩
theorem abx : (ee Tryz.prog 156 0 = some ⟨"z", 26, 0, false, "", "nomenclator/zone", 0⟩) ∧
  (ee Tryz.prog 156 1 = some ⟨"e", 33, 2, false, "", "nomenclator/zone", 48⟩) :=
  ⟨by kernel_rfl, by kernel_rfl⟩
theorem alu : (Ag Tryz.prog 22 = some (9, 1, 16)) ∧
  (Ag Tryz.prog 23 = some (9, 1, 16)) ∧
  (Ag Tryz.prog 24 = some (44, 5, 56)) ∧
  (Ag Tryz.prog 42 = some (65, 4, 96)) ∧
  (Ag Tryz.prog 58 = some (23, 1, 24)) ∧
  (Ag Tryz.prog 62 = some (41, 1, 4)) ∧
  (Ag Tryz.prog 63 = some (5, 1, 1)) :=
  ⟨by kernel_rfl, by kernel_rfl, by kernel_rfl, by kernel_rfl, by kernel_rfl, by kernel_rfl, by kernel_rfl⟩
theorem TF : type_of% akp ∧ type_of% akg ∧ type_of% ak5 ∧ type_of% ala ∧ type_of% ani ∧ type_of% ag4 ∧ type_of% ago ∧ type_of% ag2 ∧ type_of% agm ∧ type_of% afg ∧ type_of% agt ∧ type_of% aj8 ∧ type_of% Zl ∧ type_of% ac2 ∧ type_of% aac ∧ type_of% aab ∧ type_of% abt ∧ type_of% acm ∧ type_of% abx ∧ type_of% alu :=
  ⟨akp, akg, ak5, ala, ani, ag4, ago, ag2, agm, afg, agt, aj8, Zl, ac2, aac, aab, abt, acm, abx, alu⟩
end Go.Vm
end
section
set_option linter.unusedSimpArgs false
set_option linter.unusedVariables false
namespace Go.Proofs.YtcbdpmfipecmgaaGreat
open Go.Vm
noncomputable abbrev PP := Tryz.prog
theorem mixed : PP.follows .mixedOrders = true := by kernel_rfl
theorem bg {T : dr} (hT : aw PP T) {f : Nat} {fn : Func} (hf : PP.funcs[f]? = some fn) (hb : fn.body.isSome = true) (he : lx PP f = true) (hs : dp fn.ntmps (fn.body.getD .skip) = true)
    {args : List AV} (hl : args.length ≤ fn.ntmps) {ρ : Type} (R : RC ρ) (fr : Bool) (x : ρ)
    (h : wl PP T 0 (fn.body.getD .skip) (du PP fn.results.toList (fun r st => R.get fr st.h r = some x)) (cy 0 args) (bn [])) : bh PP f args (R.E fr x) :=
  Tw (body := fn.body.getD .skip) hT mixed hf (by cases hq : fn.body with | none => rw [hq] at hb; cases hb | some b => rfl) he hs hl R fr x h
def me (s : ByteArray) : Int := if s.size < 1 ∨ 63 < s.size then 4 else 0
theorem X4 (s : ByteArray) : wl PP [] 0 (Tryz.f62.body.getD .skip) (du PP Tryz.f62.results.toList (fun r st => (r1 (be .i64)).get true st.h r = some (me s))) (cy 0 [aj.val false s]) (bn []) := by
  unfold Tryz.f62
  simp only [↓wR, RA, simprocAttr, TF]
  rw [cz]
  refine ⟨fun h => ?_, fun h => ?_⟩
  · have h1 : s.size < 1 := by simp at h; omega
    simp only [↓wR, RA, simprocAttr, TF, me, h, h1, true_or]
  · have h1 : ¬ s.size < 1 := by simp at h; omega
    simp only [↓wR, RA, simprocAttr, TF, h]
    rw [cz]
    refine ⟨fun h => ?_, fun h => ?_⟩
    · have h2 : 63 < s.size := by simp at h; omega
      simp only [↓wR, RA, simprocAttr, TF, me, h2, or_true]
    · have h2 : ¬ 63 < s.size := by simp at h; omega
      simp only [↓wR, RA, simprocAttr, TF, me, h1, h2, or_self]
noncomputable def Fz (x : ByteArray × Unit) : Option AV := some ((r1 (be .i64)).E true (me x.1))
set_option maxRecDepth 2000000 in
theorem Rf (x : ByteArray × Unit) (r : AV) (h : Fz x = some r) : bh PP 62 ((aC aj a0).E x) r := by
  cases h
  exact bg (aw.nil PP) Tryz.func62 (by kernel_rfl) (by kernel_rfl) (by kernel_rfl) (Nat.le_of_ble_eq_true (by kernel_rfl)) (r1 (be .i64)) true (me x.1) (X4 x.1)
noncomputable abbrev air : Nat × Bool × (List AV → M AV) := (62, true, dj (aC aj a0) Fz)
def bk (n : Name) : Nat := n.foldl (fun k s => k + (s.size + 1)) 1
theorem X7 (l : Name) (c : ByteArray) : bk (l ++ [c]) = bk l + (c.size + 1) := by simp [bk]
theorem X3 (n : Name) (i : Nat) (c : ByteArray) (h : n[i]? = some c) : bk (n.take (i + 1)) = bk (n.take i) + (c.size + 1) := by
  obtain ⟨hk, rfl⟩ := List.getElem?_eq_some_iff.1 h
  rw [List.take_succ_eq_append_getElem hk, X7]
theorem B2 (l : Name) : ∀ k, l.foldl (fun k s => k + (s.size + 1)) k = k + l.foldl (fun k s => k + (s.size + 1)) 0 := by
  induction l with
  | nil => intro k; simp
  | cons a l ih => intro k; simp only [List.foldl_cons]; rw [ih, ih (0 + _)]; omega
theorem ll (a b : Name) : bk (a ++ b) + 1 = bk a + bk b := by
  simp only [bk, List.foldl_append]
  rw [B2 b, B2 b 1]; omega
theorem qe (n : Name) (i : Nat) : bk (n.take i) ≤ bk n ∧ n.length < bk n := by
  constructor
  · have := ll (n.take i) (n.drop i)
    rw [List.take_append_drop] at this
    have h1 : 1 ≤ bk (n.drop i) := by simp only [bk]; rw [B2]; omega
    omega
  · induction n with
    | nil => simp [bk]
    | cons a l ih =>
      have := ll [a] l
      simp only [List.singleton_append] at this
      have h1 : bk [a] = a.size + 2 := by simp [bk]; omega
      simp only [List.length_cons]
      omega
theorem wrap_i64 (x : Int) (h0 : -9223372036854775808 ≤ x) (h1 : x < 9223372036854775808) : IntKind.i64.wrap x = x := by
  simp [IntKind.wrap, IntKind.bits, IntKind.signed]; omega
theorem aea (n : Name) (hn : bk n < 17592186044416) : wl PP [] 0 (Tryz.f63.body.getD .skip) (du PP Tryz.f63.results.toList (fun r st => (r1 (be .i64)).get true st.h r = some (bk n : Int))) (cy 0 [ar.val false n]) (bn []) := by
  unfold Tryz.f63
  rw [da]
  simp only [↓wR, RA, simprocAttr, TF]
  refine dx [3, 6, 7, 8] (fun (x : Nat) => [.sc (.int .i64 (bk (n.take x))), .vl false 1 (n.map (aj.val false)), .sc (.int .i64 n.length), .sc (.int .i64 x)]) (fun _ => []) (fun x => x ≤ n.length) (fun x => n.length - x) 0 (Nat.zero_le _) ?_ ?_ ?_
  · simp only [↓wR, RA, simprocAttr, TF] <;> rfl
  · simp only [↓wR, RA, simprocAttr, TF]
  · intro i hi
    have h1 := qe n i
    simp only [↓wR, RA, simprocAttr, TF]
    rw [cz]
    refine ⟨fun h => ?_, fun h => ?_⟩
    · have h4 : i < n.length := by simp at h; omega
      obtain ⟨c, hc⟩ : ∃ c, n[i]? = some c := ⟨n[i], by simp [h4]⟩
      have h2 := X3 n i c hc
      have h3 := (qe n (i + 1)).1
      simp only [↓wR, RA, simprocAttr, TF, hc]
      refine ⟨i + 1, by omega, by omega, ?_⟩
      rw [h2]
      simp only [List.cons.injEq, and_true, true_and, AV.sc.injEq, Value.int.injEq]
      refine ⟨?_, ?_⟩
      · rw [wrap_i64 ((c.size : Int) + 1) (by omega) (by omega), wrap_i64 _ (by omega) (by omega)]; omega
      · rw [wrap_i64 _ (by omega) (by omega)]; omega
    · have h4 : i = n.length := by simp at h; omega
      subst h4
      simp only [↓wR, RA, simprocAttr, TF, List.take_length]
noncomputable def z0 (x : Name × Unit) : Option AV := if bk x.1 < 17592186044416 then some ((r1 (be .i64)).E true ((bk x.1 : Int))) else none
set_option maxRecDepth 2000000 in
theorem Ue (x : Name × Unit) (r : AV) (h : z0 x = some r) : bh PP 63 ((aC ar a0).E x) r := by
  by_cases hc : bk x.1 < 17592186044416
  case neg => simp only [z0, if_neg hc] at h; cases h
  simp only [z0, if_pos hc] at h
  cases h
  exact bg (aw.nil PP) Tryz.func63 (by kernel_rfl) (by kernel_rfl) (by kernel_rfl) (Nat.le_of_ble_eq_true (by kernel_rfl)) (r1 (be .i64)) true ((bk x.1 : Int)) (aea x.1 hc)
noncomputable abbrev al8 : Nat × Bool × (List AV → M AV) := (63, true, dj (aC ar a0) z0)
def yk (n : Name) : Bool := n.any fun s => decide (me s ≠ 0)
def dv (n : Name) : Int := if yk n then 4 else if 255 < bk n then 5 else 0
theorem ab3 (n : Name) (i : Nat) (c : ByteArray) (h : n[i]? = some c) : yk (n.take (i + 1)) = (yk (n.take i) || decide (me c ≠ 0)) := by
  obtain ⟨hk, rfl⟩ := List.getElem?_eq_some_iff.1 h
  rw [List.take_succ_eq_append_getElem hk]
  simp only [yk, List.any_append, List.any_cons, List.any_nil, Bool.or_false]
theorem abb (n : Name) (i : Nat) (c : ByteArray) (h : n[i]? = some c) (hc : me c ≠ 0) : yk n = true := by
  simp only [yk, List.any_eq_true]
  exact ⟨c, List.mem_of_getElem? h, by simp [hc]⟩
theorem Zi (s : ByteArray) : me s = 0 ∨ me s = 4 := by unfold me; split <;> simp
theorem acv (n : Name) (hn : bk n < 17592186044416) : wl PP [air, al8] 0 (Tryz.f49.body.getD .skip) (du PP Tryz.f49.results.toList (fun r st => (r1 (be .i64)).get true st.h r = some (dv n))) (cy 0 [ar.val false n]) (bn []) := by
  unfold Tryz.f49
  rw [da]
  simp only [↓wR, RA, simprocAttr, TF]
  refine dx [0, 6, 7, 8] (fun (x : Nat) => [.vl false 1 (n.map (aj.val false)), .vl false 1 (n.map (aj.val false)), .sc (.int .i64 n.length), .sc (.int .i64 x)]) (fun _ => []) (fun x => x ≤ n.length ∧ yk (n.take x) = false) (fun x => n.length - x) 0 ⟨Nat.zero_le _, by simp [yk]⟩ ?_ ?_ ?_
  · simp only [↓wR, RA, simprocAttr, TF] <;> rfl
  · simp only [↓wR, RA, simprocAttr, TF]
  · rintro i ⟨hi, hb⟩
    have h1 := qe n i
    simp only [↓wR, RA, simprocAttr, TF]
    rw [cz]
    refine ⟨fun h => ?_, fun h => ?_⟩
    · have h4 : i < n.length := by simp at h; omega
      obtain ⟨c, hc⟩ : ∃ c, n[i]? = some c := ⟨n[i], by simp [h4]⟩
      simp only [↓wR, RA, simprocAttr, TF, hc, Fz]
      rw [cz]
      refine ⟨fun h => ?_, fun h => ?_⟩
      · have h5 : me c ≠ 0 := by simpa using h
        have h6 : me c = 4 := (Zi c).resolve_left h5
        simp only [↓wR, RA, simprocAttr, TF, dv, abb n i c hc h5, h6]
      · have h5 : me c = 0 := by simpa using h
        simp only [↓wR, RA, simprocAttr, TF]
        refine ⟨i + 1, ⟨by omega, by rw [ab3 n i c hc, hb]; simp [h5]⟩, by omega, ?_⟩
        simp only [List.cons.injEq, and_true, true_and, AV.sc.injEq, Value.int.injEq]
        rw [wrap_i64 _ (by omega) (by omega)]; omega
    · have h4 : i = n.length := by simp at h; omega
      subst h4
      rw [List.take_length] at hb
      simp only [↓wR, RA, simprocAttr, TF, z0, hn]
      rw [cz]
      refine ⟨fun h => ?_, fun h => ?_⟩
      · have h5 : 255 < bk n := by simp at h; omega
        simp only [↓wR, RA, simprocAttr, TF, dv, hb, h5]
      · have h5 : ¬ 255 < bk n := by simp at h; omega
        simp only [↓wR, RA, simprocAttr, TF, dv, hb, h5]
noncomputable def pr (x : Name × Unit) : Option AV := if bk x.1 < 17592186044416 then some ((r1 (be .i64)).E true (dv x.1)) else none
set_option maxRecDepth 2000000 in
theorem qh (x : Name × Unit) (r : AV) (h : pr x = some r) : bh PP 49 ((aC ar a0).E x) r := by
  by_cases hc : bk x.1 < 17592186044416
  case neg => simp only [pr, if_neg hc] at h; cases h
  simp only [pr, if_pos hc] at h
  cases h
  exact bg (aw.cons (aq Rf) (aw.cons (aq Ue) (aw.nil PP))) Tryz.func49 (by kernel_rfl) (by kernel_rfl) (by kernel_rfl) (Nat.le_of_ble_eq_true (by kernel_rfl)) (r1 (be .i64)) true (dv x.1) (acv x.1 hc)
noncomputable abbrev dz : Nat × Bool × (List AV → M AV) := (49, true, dj (aC ar a0) pr)
def low (c : UInt8) : UInt8 := if 65 ≤ c ∧ c ≤ 90 then c + 32 else c
def fold (s : ByteArray) : ByteArray := ⟨(s.data.toList.map low).toArray⟩
def np (l : List UInt8) (i : Nat) : List UInt8 := (l.take i).map low ++ l.drop i
theorem ami (l : List UInt8) (i : Nat) : (np l i).length = l.length := by simp [np]; omega
theorem Vl (l : List UInt8) (i : Nat) (h : i < l.length) : (np l i)[i]? = l[i]? := by
  simp [np, List.getElem?_append, Nat.min_eq_left (Nat.le_of_lt h)]
theorem Xb (l : List UInt8) (i : Nat) (h : i < l.length) : (np l i).take i ++ [low l[i]] ++ (np l i).drop (i + 1) = np l (i + 1) := by
  have h1 : ((l.take i).map low).length = i := by simp; omega
  have h2 : (np l i).take i = (l.take i).map low := by rw [np, List.take_append_of_le_length (by omega), List.take_of_length_le (by omega)]
  have h3 : (np l i).drop (i + 1) = l.drop (i + 1) := by
    rw [np, List.drop_append, List.drop_eq_nil_of_le (by omega), h1]
    simp
  rw [h2, h3, np, List.take_succ_eq_append_getElem h, List.map_append]
  rfl
theorem Sz (l : List UInt8) (i : Nat) (h : i < l.length) (hk : low l[i] = l[i]) : np l i = np l (i + 1) := by
  rw [← Xb l i h, hk]
  have : (np l i)[i]? = some l[i] := by rw [Vl l i h]; simp [h]
  obtain ⟨hlt, e⟩ := List.getElem?_eq_some_iff.1 this
  rw [← e, ← List.take_succ_eq_append_getElem hlt, List.take_append_drop]
set_option maxRecDepth 20000 in
theorem aag (s : ByteArray) (hs : s.size ≤ 16777216) : wl PP [] 0 (Tryz.f48.body.getD .skip) (du PP Tryz.f48.results.toList (fun r st => (r1 aj).get true st.h r = some (fold s))) (cy 0 [aj.val false s]) (bn []) := by
  unfold Tryz.f48
  have hl : s.data.toList.length = s.size := by simp
  simp only [↓wR, RA, simprocAttr, TF, hs]
  refine dx [3, 8, 9, 10] (fun (x : Nat) => [.sl 0 0 s.size 1, .sl 0 0 s.size 1, .sc (.int .i64 s.size), .sc (.int .i64 x)]) (fun x => [some (.row ((np s.data.toList x).map (bz.val false)) 0 1 5)]) (fun x => x ≤ s.size) (fun x => s.size - x) 0 (Nat.zero_le _) ?_ ?_ ?_
  · simp only [↓wR, RA, simprocAttr, TF] <;> rfl
  · simp only [↓wR, RA, simprocAttr, TF] <;> rfl
  · intro i hi
    simp only [↓wR, RA, simprocAttr, TF]
    rw [cz]
    refine ⟨fun h => ?_, fun h => ?_⟩
    · have h4 : i < s.size := by simp at h; omega
      have h6 : i < s.data.toList.length := by omega
      have h5 : (np s.data.toList i)[i]? = some s.data.toList[i] := by rw [Vl s.data.toList i h6]; simp [h6]
      obtain ⟨c, hc⟩ : ∃ c, s.data.toList[i] = c := ⟨_, rfl⟩
      have hcl := c.toNat_lt
      rw [hc] at h5
      simp only [↓wR, RA, simprocAttr, TF, h4, h5]
      rw [cz]
      refine ⟨fun h1 => ?_, fun h1 => ?_⟩
      · simp only [↓wR, RA, simprocAttr, TF, h1]
        rw [cz]
        refine ⟨fun h2 => ?_, fun h2 => ?_⟩
        · have h7 : i + 1 ≤ s.size := by omega
          have hlow : low c = c + 32 := by
            simp at h1 h2
            have a1 : 65 ≤ c := by rw [UInt8.le_iff_toNat_le]; simp; omega
            have a2 : c ≤ 90 := by rw [UInt8.le_iff_toNat_le]; simp; omega
            simp [low, a1, a2]
          have hw : IntKind.u8.wrap (IntKind.u8.wrap ((c.toNat : Int) + 97) - 65) = ((low c).toNat : Int) := by
            simp at h1 h2
            rw [hlow]
            simp [IntKind.wrap, IntKind.bits, IntKind.signed, UInt8.toNat_add]
            omega
          have hst : List.map (bz.val false) (List.take i (np s.data.toList i)) ++ [AV.sc (Value.int IntKind.u8 ((low c).toNat : Int))] ++ List.map (bz.val false) (List.drop (i + 1) (np s.data.toList i)) = List.map (bz.val false) (np s.data.toList (i + 1)) := by
            rw [← Xb s.data.toList i h6, hc, List.map_append, List.map_append]; rfl
          simp only [↓wR, RA, simprocAttr, TF, h4, h7, ami, hl, hw, hst]
          refine ⟨i + 1, h7, by omega, ?_, rfl⟩
          rw [wrap_i64 _ (by omega) (by omega)]; rfl
        · simp only [↓wR, RA, simprocAttr, TF]
          have hk : low c = c := by
            simp at h2
            have a2 : ¬ c ≤ 90 := by rw [UInt8.le_iff_toNat_le]; simp; omega
            simp [low, a2]
          refine ⟨i + 1, by omega, by omega, ?_, ?_⟩
          · rw [wrap_i64 _ (by omega) (by omega)]; rfl
          · rw [Sz s.data.toList i h6 (by rw [hc]; exact hk)]
      · simp only [↓wR, RA, simprocAttr, TF, h1]
        have hk : low c = c := by
          simp at h1
          have a2 : ¬ 65 ≤ c := by rw [UInt8.le_iff_toNat_le]; simp; omega
          simp [low, a2]
        refine ⟨i + 1, by omega, by omega, ?_, ?_⟩
        · rw [wrap_i64 _ (by omega) (by omega)]; rfl
        · rw [Sz s.data.toList i h6 (by rw [hc]; exact hk)]
    · have h4 : i = s.size := by simp at h; omega
      subst h4
      have : ∃ m, List.map low s.data.toList = m := ⟨_, rfl⟩
      obtain ⟨m, hm⟩ := this
      have h5 : np s.data.toList s.size = m := by rw [np, List.take_of_length_le (Nat.le_of_eq hl), List.drop_eq_nil_of_le (Nat.le_of_eq hl), List.append_nil, hm]
      have hlm : m.length = s.size := by rw [← hm, List.length_map, hl]
      have h6 : List.take s.size (List.map (bz.val false) m) = List.map (bz.val false) m := List.take_of_length_le (by rw [List.length_map, hlm]; exact Nat.le_refl _)
      have hf : fold s = ⟨m.toArray⟩ := by rw [fold, hm]
      rw [h5, hf]
      simp only [↓wR, RA, simprocAttr, TF, hlm, h6]
noncomputable def ue (x : ByteArray × Unit) : Option AV := if x.1.size ≤ 16777216 then some ((r1 aj).E true (fold x.1)) else none
set_option maxRecDepth 2000000 in
theorem Ab (x : ByteArray × Unit) (r : AV) (h : ue x = some r) : bh PP 48 ((aC aj a0).E x) r := by
  by_cases hc : x.1.size ≤ 16777216
  case neg => simp only [ue, if_neg hc] at h; cases h
  simp only [ue, if_pos hc] at h
  cases h
  exact bg (aw.nil PP) Tryz.func48 (by kernel_rfl) (by kernel_rfl) (by kernel_rfl) (Nat.le_of_ble_eq_true (by kernel_rfl)) (r1 aj) true (fold x.1) (aag x.1 hc)
noncomputable abbrev Jc : Nat × Bool × (List AV → M AV) := (48, true, dj (aC aj a0) ue)
theorem Yq (a b : ByteArray) (ha : a.size ≤ 16777216) (hb : b.size ≤ 16777216) : wl PP [Jc] 0 (Tryz.f32.body.getD .skip) (du PP Tryz.f32.results.toList (fun r st => (r1 bq).get true st.h r = some (decide (fold a = fold b)))) (cy 0 [aj.val false a, aj.val false b]) (bn []) := by
  unfold Tryz.f32
  simp only [↓wR, RA, simprocAttr, TF, ue, ha, hb]
noncomputable def zc (x : ByteArray × ByteArray × Unit) : Option AV := if x.1.size ≤ 16777216 ∧ x.2.1.size ≤ 16777216 then some ((r1 bq).E true (decide (fold x.1 = fold x.2.1))) else none
set_option maxRecDepth 2000000 in
theorem Uu (x : ByteArray × ByteArray × Unit) (r : AV) (h : zc x = some r) : bh PP 32 ((aC aj (aC aj a0)).E x) r := by
  by_cases hc : x.1.size ≤ 16777216 ∧ x.2.1.size ≤ 16777216
  case neg => simp only [zc, if_neg hc] at h; cases h
  simp only [zc, if_pos hc] at h
  cases h
  exact bg (aw.cons (aq Ab) (aw.nil PP)) Tryz.func32 (by kernel_rfl) (by kernel_rfl) (by kernel_rfl) (Nat.le_of_ble_eq_true (by kernel_rfl)) (r1 bq) true (decide (fold x.1 = fold x.2.1)) (Yq x.1 x.2.1 hc.1 hc.2)
noncomputable abbrev alf : Nat × Bool × (List AV → M AV) := (32, true, dj (aC aj (aC aj a0)) zc)
end Go.Proofs.YtcbdpmfipecmgaaGreat
end
section
set_option linter.unusedSimpArgs false
set_option linter.unusedVariables false
namespace Go.Proofs.YtcbdpmfipecmgaaGreat
open Go.Vm
def ku : List ByteArray → List ByteArray → Nat
  | a :: r, b :: q => if fold a = fold b then ku r q + 1 else 0
  | _, _ => 0
theorem aeb (l : List ByteArray) : ku l [] = 0 := by cases l <;> rfl
def common (a b : Name) : Nat := ku a.reverse b.reverse
theorem abc {l : List ByteArray} {x : Nat} {c : ByteArray} (h : x < l.length) (hc : l[l.length - 1 - x]? = some c) : l.reverse.drop x = c :: l.reverse.drop (x + 1) := by
  have h1 : l.reverse[x]? = some c := by rw [List.getElem?_reverse h]; exact hc
  obtain ⟨h2, h3⟩ := List.getElem?_eq_some_iff.1 h1
  rw [← h3]; exact List.drop_eq_getElem_cons h2
set_option maxRecDepth 20000 in
theorem Xv (a b : Name) (ha : ∀ s ∈ a, s.size ≤ 16777216) (hb : ∀ s ∈ b, s.size ≤ 16777216) (hla : a.length < 17592186044416) (hlb : b.length < 17592186044416) : wl PP [alf] 0 (Tryz.f20.body.getD .skip) (du PP Tryz.f20.results.toList (fun r st => (r1 (be .i64)).get true st.h r = some (common a b : Int))) (cy 0 [ar.val false a, ar.val false b]) (bn []) := by
  unfold Tryz.f20
  simp only [da]
  simp only [↓wR, RA, simprocAttr, TF]
  refine bm (T := []) (aw.nil PP) mixed Tryz.func31 rfl (by kernel_rfl) (by kernel_rfl) (by kernel_rfl) (by kernel_rfl) ?_; unfold Tryz.f31
  simp only [↓wR, RA, simprocAttr, TF]
  refine ⟨[2, 3, 4, 5, 10], ?_⟩
  have hib : vp PP 47 = some (Tryz.f47.ntmps, Tryz.f47.body.getD .skip) := by kernel_rfl
  simp only [↓wR, RA, simprocAttr, TF, hib]
  refine ⟨by kernel_rfl, fun l => ?_⟩
  unfold Tryz.f47
  simp only [↓wR, RA, simprocAttr, TF]
  refine Eg [0, 1, 3] (fun (x : Nat) => [.sc (.func (.yield l) #[] #[]), .ptr 4 0, .sc (.int .i64 ((a.length : Int) - 1 - x))]) (fun x => [some (.row [.vl false 1 (a.map (aj.val false))] 0 2 23), some (.row [.vl false 1 (b.map (aj.val false))] 0 2 23), some (.row [.sc (.int .i64 0)] 0 2 3), some (.row [.sc (.int .i64 x)] 0 2 3), some (.row [.vl false 1 (a.map (aj.val false))] 0 2 23)]) (fun x => x ≤ a.length ∧ common a b = x + ku (a.reverse.drop x) (b.reverse.drop x)) (fun x => a.length - x) 0 ⟨Nat.zero_le _, by simp [common]⟩ ?_ ?_ ?_
  · simp only [↓wR, RA, simprocAttr, TF]; simp; rw [wrap_i64 _ (by omega) (by omega)]
  · simp only [↓wR, RA, simprocAttr, TF] <;> rfl
  rintro x ⟨hx, hR⟩
  simp only [↓wR, RA, simprocAttr, TF]
  rw [wz]; refine ⟨fun h => ?_, fun h => ?_⟩
  · have hx' : x < a.length := by simp at h; omega
    obtain ⟨c, hc⟩ : ∃ c, a[a.length - 1 - x]? = some c := ⟨_, List.getElem?_eq_getElem (by omega)⟩
    have e : ((a.length : Int) - 1 - x).toNat = a.length - 1 - x := by omega
    have e2 : (0 : Int) ≤ (a.length : Int) - 1 - x := by omega
    simp only [↓wR, RA, simprocAttr, TF, e, hc, e2]
    refine zv [0, 1, 3, 12, 16] ?_
    simp only [↓wR, RA, simprocAttr, TF, y7, n6, hc]
    simp (disch := omega) only [ai, cb, cd, b9, ca]
    rw [cz]; refine ⟨fun h1 => ?_, fun h1 => ?_⟩
    · have hb0 : b.length ≤ x := by simp at h1; omega
      have hb1 : b.reverse.drop x = [] := List.drop_eq_nil_of_le (by simpa using hb0)
      rw [hb1, aeb] at hR
      simp only [↓wR, RA, simprocAttr, TF, h1]
      rw [hR, Nat.add_zero]
    · have hb0 : x < b.length := by simp at h1; omega
      obtain ⟨d, hd⟩ : ∃ d, b[b.length - 1 - x]? = some d := ⟨_, List.getElem?_eq_getElem (by omega)⟩
      have e4 : ((b.length : Int) - ((a.length : Int) - ((a.length : Int) - 1 - x))).toNat = b.length - 1 - x := by omega
      have e5 : (0 : Int) ≤ (b.length : Int) - ((a.length : Int) - ((a.length : Int) - 1 - x)) := by omega
      simp only [↓wR, RA, simprocAttr, TF, h1, hd, e4, e5, zc, ha c (List.mem_of_getElem? hc), hb d (List.mem_of_getElem? hd)]
      rw [abc hx' hc, abc hb0 hd, ku] at hR
      rw [cz]; refine ⟨fun h2 => ?_, fun h2 => ?_⟩
      · have h3 : ¬ fold c = fold d := by simpa using h2
        rw [if_neg h3] at hR
        simp only [↓wR, RA, simprocAttr, TF, h2]
        rw [hR, Nat.add_zero]
      · have h3 : fold c = fold d := by simpa using h2
        rw [if_pos h3] at hR
        simp only [↓wR, RA, simprocAttr, TF, h2]
        refine ⟨x + 1, ⟨by omega, by omega⟩, by omega, ?_, ?_⟩
        · simp only [List.cons.injEq, and_true, true_and, AV.sc.injEq, Value.int.injEq]
          simp (disch := omega) only [ai, cb, cd, b9, ca]
          omega
        · simp (disch := omega) only [ai, cb, cd, b9, ca]
          rfl
  · have h4 : x = a.length := by simp at h; omega
    have h5 : a.reverse.drop x = [] := List.drop_eq_nil_of_le (by simp; omega)
    rw [h5, ku] at hR
    simp only [↓wR, RA, simprocAttr, TF, h]
    rw [hR, Nat.add_zero]
    all_goals simp
end Go.Proofs.YtcbdpmfipecmgaaGreat
end
section
set_option linter.unusedSimpArgs false
set_option linter.unusedVariables false
namespace Go.Proofs.YtcbdpmfipecmgaaGreat
open Go.Vm
theorem afa (args : List AV) : Ba PP 128 args (Cx.eu args) :=
  Cx.il (fn := (PP.funcs[128]?).getD default) (by kernel_rfl) (by kernel_rfl) (by kernel_rfl) (by kernel_rfl) (by kernel_rfl) args
noncomputable abbrev aln : Nat × Bool × (List AV → M AV) := (128, true, Cx.eu)
theorem ams : aw PP [aln] := aw.cons afa (aw.nil PP)
noncomputable def Ky (a b : ByteArray) : Int := Lib.compareBytes a.data.toList b.data.toList
theorem Mv (a b : ByteArray) : wl PP [] 0 (Tryz.f120.body.getD .skip) (du PP Tryz.f120.results.toList (fun r st => (r1 (be .i64)).get true st.h r = some (Ky a b))) (cy 0 [aj.val false a, aj.val false b]) (bn []) := by
  unfold Tryz.f120
  simp only [↓wR, RA, simprocAttr, TF]
  refine bm (T := [aln]) ams mixed Tryz.func125 rfl (by kernel_rfl) (by kernel_rfl) (by kernel_rfl) (by kernel_rfl) ?_; unfold Tryz.f125
  simp only [↓wR, RA, simprocAttr, TF, Ky]
noncomputable def y6 (x : ByteArray × ByteArray × Unit) : Option AV := some ((r1 (be .i64)).E true (Ky x.1 x.2.1))
set_option maxRecDepth 2000000 in
theorem I6 (x : ByteArray × ByteArray × Unit) (r : AV) (h : y6 x = some r) : bh PP 120 ((aC aj (aC aj a0)).E x) r := by
  cases h
  exact bg (aw.nil PP) Tryz.func120 (by kernel_rfl) (by kernel_rfl) (by kernel_rfl) (Nat.le_of_ble_eq_true (by kernel_rfl)) (r1 (be .i64)) true (Ky x.1 x.2.1) (Mv x.1 x.2.1)
noncomputable abbrev Ua : Nat × Bool × (List AV → M AV) := (120, true, dj (aC aj (aC aj a0)) y6)
theorem Tn (a b : ByteArray) (ha : a.size ≤ 16777216) (hb : b.size ≤ 16777216) : wl PP [Jc, Ua] 0 (Tryz.f106.body.getD .skip) (du PP Tryz.f106.results.toList (fun r st => (r1 (be .i64)).get true st.h r = some (Ky (fold a) (fold b)))) (cy 0 [aj.val false a, aj.val false b]) (bn []) := by
  unfold Tryz.f106
  simp only [↓wR, RA, simprocAttr, TF, ue, y6, ha, hb]
noncomputable def uo (x : ByteArray × ByteArray × Unit) : Option AV := if x.1.size ≤ 16777216 ∧ x.2.1.size ≤ 16777216 then some ((r1 (be .i64)).E true (Ky (fold x.1) (fold x.2.1))) else none
set_option maxRecDepth 2000000 in
theorem Mp (x : ByteArray × ByteArray × Unit) (r : AV) (h : uo x = some r) : bh PP 106 ((aC aj (aC aj a0)).E x) r := by
  by_cases hc : x.1.size ≤ 16777216 ∧ x.2.1.size ≤ 16777216
  case neg => simp only [uo, if_neg hc] at h; cases h
  simp only [uo, if_pos hc] at h
  cases h
  exact bg (aw.cons (aq Ab) (aw.cons (aq I6) (aw.nil PP))) Tryz.func106 (by kernel_rfl) (by kernel_rfl) (by kernel_rfl) (Nat.le_of_ble_eq_true (by kernel_rfl)) (r1 (be .i64)) true (Ky (fold x.1) (fold x.2.1)) (Tn x.1 x.2.1 hc.1 hc.2)
noncomputable abbrev Yr : Nat × Bool × (List AV → M AV) := (106, true, dj (aC aj (aC aj a0)) uo)
def gy (n : Name) : List ByteArray := n.map fold
def bb (n : Name) : Prop := bk n ≤ 16777216
instance (n : Name) : Decidable (bb n) := inferInstanceAs (Decidable (_ ≤ _))
theorem adu {n : Name} {s : ByteArray} (h : s ∈ n) : s.size < bk n := by
  obtain ⟨a, b, rfl⟩ := List.append_of_mem h
  have h1 := ll a ([s] ++ b)
  have h2 := ll [s] b
  have h3 : bk [s] = s.size + 2 := by simp [bk]; omega
  have h4 : ∀ l : Name, 1 ≤ bk l := fun l => by have := (qe l 0).2; omega
  have := h4 a; have := h4 b
  simp only [List.singleton_append] at h1 h2
  omega
theorem bb.label {n : Name} (h : bb n) : ∀ s ∈ n, s.size ≤ 16777216 := fun s hs => by have := adu hs; unfold bb at h; omega
theorem bb.len {n : Name} (h : bb n) : n.length < 17592186044416 := by have := (qe n 0).2; unfold bb at h; omega
theorem S2 : ∀ r q : List ByteArray, ku r q ≤ q.length
  | [], q => by simp [ku]
  | a :: r, [] => by simp [ku]
  | a :: r, b :: q => by
    have := S2 r q
    simp only [ku, List.length_cons]
    split <;> omega
theorem K8 : ∀ r q : List ByteArray, ku r q ≤ r.length
  | [], q => by simp [ku]
  | a :: r, [] => by simp [ku]
  | a :: r, b :: q => by
    have := K8 r q
    simp only [ku, List.length_cons]
    split <;> omega
theorem Nw : ∀ r q : List ByteArray, ku r q = q.length ↔ q.map fold <+: r.map fold
  | [], [] => by simp [ku]
  | a :: r, [] => by simp [ku]
  | [], b :: q => by simp [ku]
  | a :: r, b :: q => by
    have := Nw r q
    simp only [ku, List.length_cons, List.map_cons, List.cons_prefix_cons]
    by_cases h : fold a = fold b
    · rw [if_pos h]
      constructor
      · intro h1; exact ⟨h.symm, this.1 (by omega)⟩
      · intro h1; have := this.2 h1.2; omega
    · rw [if_neg h]
      constructor
      · intro h1; omega
      · intro h1; exact (h h1.1.symm).elim
theorem Dv (n top : Name) : common n top = top.length ↔ gy top <:+ gy n := by
  unfold common gy
  rw [← List.length_reverse, Nw, List.map_reverse, List.map_reverse, List.reverse_prefix]
theorem N0 (a b : Name) : (a.length = b.length ∧ common a b = a.length) ↔ gy a = gy b := by
  constructor
  · rintro ⟨h1, h2⟩
    rw [h1] at h2
    have := (Dv a b).1 h2
    exact (this.eq_of_length (by simp [gy, h1])).symm
  · intro h
    have hl : a.length = b.length := by have := congrArg List.length h; simpa [gy] using this
    refine ⟨hl, ?_⟩
    rw [hl]
    exact (Dv a b).2 (by rw [h]; exact List.suffix_refl _)
def dw (a b : Name) : Bool := decide (gy a = gy b)
def di (n top : Name) : Bool := decide (gy top <:+ gy n)
noncomputable def p9 (x : Name × Name × Unit) : Option AV := if bb x.1 ∧ bb x.2.1 then some ((r1 (be .i64)).E true ((common x.1 x.2.1 : Int))) else none
set_option maxRecDepth 2000000 in
theorem zr (x : Name × Name × Unit) (r : AV) (h : p9 x = some r) : bh PP 20 ((aC ar (aC ar a0)).E x) r := by
  by_cases hc : bb x.1 ∧ bb x.2.1
  case neg => simp only [p9, if_neg hc] at h; cases h
  simp only [p9, if_pos hc] at h
  cases h
  exact bg (aw.cons (aq Uu) (aw.nil PP)) Tryz.func20 (by kernel_rfl) (by kernel_rfl) (by kernel_rfl) (Nat.le_of_ble_eq_true (by kernel_rfl)) (r1 (be .i64)) true ((common x.1 x.2.1 : Int)) (Xv x.1 x.2.1 hc.1.label hc.2.label hc.1.len hc.2.len)
noncomputable abbrev Hr : Nat × Bool × (List AV → M AV) := (20, true, dj (aC ar (aC ar a0)) p9)
theorem aco (n top : Name) (hn : bb n) (ht : bb top) : wl PP [Hr] 0 (Tryz.f17.body.getD .skip) (du PP Tryz.f17.results.toList (fun r st => (r1 bq).get true st.h r = some (di n top))) (cy 0 [ar.val false n, ar.val false top]) (bn []) := by
  unfold Tryz.f17
  simp only [da]
  simp only [↓wR, RA, simprocAttr, TF, p9, hn, ht]
  congr 1
  unfold di
  have := Dv n top
  rw [Bool.eq_iff_iff]; simp [← this]; omega
noncomputable def jg (x : Name × Name × Unit) : Option AV := if bb x.1 ∧ bb x.2.1 then some ((r1 bq).E true (di x.1 x.2.1)) else none
set_option maxRecDepth 2000000 in
theorem mh (x : Name × Name × Unit) (r : AV) (h : jg x = some r) : bh PP 17 ((aC ar (aC ar a0)).E x) r := by
  by_cases hc : bb x.1 ∧ bb x.2.1
  case neg => simp only [jg, if_neg hc] at h; cases h
  simp only [jg, if_pos hc] at h
  cases h
  exact bg (aw.cons (aq zr) (aw.nil PP)) Tryz.func17 (by kernel_rfl) (by kernel_rfl) (by kernel_rfl) (Nat.le_of_ble_eq_true (by kernel_rfl)) (r1 bq) true (di x.1 x.2.1) (aco x.1 x.2.1 hc.1 hc.2)
noncomputable abbrev rq : Nat × Bool × (List AV → M AV) := (17, true, dj (aC ar (aC ar a0)) jg)
theorem aek (n top : Name) (hn : bb n) (ht : bb top) : wl PP [Hr] 0 (Tryz.f10.body.getD .skip) (du PP Tryz.f10.results.toList (fun r st => (r1 bq).get true st.h r = some (dw n top))) (cy 0 [ar.val false n, ar.val false top]) (bn []) := by
  unfold Tryz.f10
  simp only [da]
  simp only [↓wR, RA, simprocAttr, TF, p9, hn, ht]
  rw [cz]; refine ⟨fun h => ?_, fun h => ?_⟩
  · have hl : n.length = top.length := by simp at h; omega
    simp only [↓wR, RA, simprocAttr, TF, h, p9, hn, ht]
    congr 1
    unfold dw
    have := N0 n top
    rw [Bool.eq_iff_iff]; simp [← this, hl]; omega
  · have hl : ¬ n.length = top.length := by simp at h; omega
    simp only [↓wR, RA, simprocAttr, TF, h]
    have := N0 n top
    simp [dw, ← this, hl]
noncomputable def fm (x : Name × Name × Unit) : Option AV := if bb x.1 ∧ bb x.2.1 then some ((r1 bq).E true (dw x.1 x.2.1)) else none
set_option maxRecDepth 2000000 in
theorem eb (x : Name × Name × Unit) (r : AV) (h : fm x = some r) : bh PP 10 ((aC ar (aC ar a0)).E x) r := by
  by_cases hc : bb x.1 ∧ bb x.2.1
  case neg => simp only [fm, if_neg hc] at h; cases h
  simp only [fm, if_pos hc] at h
  cases h
  exact bg (aw.cons (aq zr) (aw.nil PP)) Tryz.func10 (by kernel_rfl) (by kernel_rfl) (by kernel_rfl) (Nat.le_of_ble_eq_true (by kernel_rfl)) (r1 bq) true (dw x.1 x.2.1) (aek x.1 x.2.1 hc.1 hc.2)
noncomputable abbrev dc : Nat × Bool × (List AV → M AV) := (10, true, dj (aC ar (aC ar a0)) fm)
noncomputable def aq0 (a b : Name) (k : Nat) : Int :=
  match a[a.length - 1 - k]?, b[b.length - 1 - k]? with
  | some x, some y => Ky (fold x) (fold y)
  | _, _ => 0
noncomputable def Zy (a b : Name) : Int :=
  if common a b = a.length ∧ common a b = b.length then 0 else if common a b = a.length then -1 else if common a b = b.length then 1 else aq0 a b (common a b)
theorem Ui (a b : Name) (ha : bb a) (hb : bb b) : wl PP [Hr, Yr] 0 (Tryz.f81.body.getD .skip) (du PP Tryz.f81.results.toList (fun r st => (r1 (be .i64)).get true st.h r = some (Zy a b))) (cy 0 [ar.val false a, ar.val false b]) (bn []) := by
  unfold Tryz.f81
  simp only [da]
  simp only [↓wR, RA, simprocAttr, TF, p9, ha, hb]
  have h1 := K8 a.reverse b.reverse
  have h2 := S2 a.reverse b.reverse
  rw [List.length_reverse] at h1 h2
  change common a b ≤ a.length at h1
  change common a b ≤ b.length at h2
  obtain ⟨k, hk⟩ : ∃ k, common a b = k := ⟨_, rfl⟩
  rw [hk] at h1 h2
  unfold Zy
  rw [hk]
  rw [cz]; refine ⟨fun h => ?_, fun h => ?_⟩
  · simp only [↓wR, RA, simprocAttr, TF, h]
    have hka : k = a.length := by simp at h; omega
    rw [cz]; refine ⟨fun h3 => ?_, fun h3 => ?_⟩
    · have hkb : k = b.length := by simp at h3; omega
      simp only [↓wR, RA, simprocAttr, TF, h3]
      rw [if_pos ⟨hka, hkb⟩]
    · have hkb : ¬ k = b.length := by simp at h3; omega
      simp only [↓wR, RA, simprocAttr, TF, h3, h]
      rw [if_neg (fun e => hkb e.2), if_pos hka]
  · simp only [↓wR, RA, simprocAttr, TF, h]
    have hka : ¬ k = a.length := by simp at h; omega
    rw [cz]; refine ⟨fun h3 => ?_, fun h3 => ?_⟩
    · have hkb : k = b.length := by simp at h3; omega
      simp only [↓wR, RA, simprocAttr, TF, h3]
      rw [if_neg (fun e => hka e.1), if_neg hka, if_pos hkb]
    · have hkb : ¬ k = b.length := by simp at h3; omega
      rw [if_neg (fun e => hka e.1), if_neg hka, if_neg hkb]
      obtain ⟨x, hx⟩ : ∃ x, a[a.length - 1 - k]? = some x := ⟨_, List.getElem?_eq_getElem (by omega)⟩
      obtain ⟨y, hy⟩ : ∃ y, b[b.length - 1 - k]? = some y := ⟨_, List.getElem?_eq_getElem (by omega)⟩
      simp only [↓wR, RA, simprocAttr, TF, h3]
      refine ⟨by kernel_rfl, .inl ?_⟩
      have la := ha.len
      have lb := hb.len
      simp (disch := omega) only [ai, cb, cd, b9, ca]
      have e1 : (((a.length : Int) - 1) - k).toNat = a.length - 1 - k := by omega
      have e2 : (0 : Int) ≤ ((a.length : Int) - 1) - k := by omega
      have e3 : (((b.length : Int) - 1) - k).toNat = b.length - 1 - k := by omega
      have e4 : (0 : Int) ≤ ((b.length : Int) - 1) - k := by omega
      simp only [↓wR, RA, simprocAttr, TF, hx, e1, e2]
      simp (disch := omega) only [ai, cb, cd, b9, ca]
      simp only [↓wR, RA, simprocAttr, TF, hy, e3, e4, uo, ha.label x (List.mem_of_getElem? hx), hb.label y (List.mem_of_getElem? hy)]
      exact ⟨by kernel_rfl, by simp [aq0, hx, hy]⟩
noncomputable def v8 (x : Name × Name × Unit) : Option AV := if bb x.1 ∧ bb x.2.1 then some ((r1 (be .i64)).E true (Zy x.1 x.2.1)) else none
set_option maxRecDepth 2000000 in
theorem Po (x : Name × Name × Unit) (r : AV) (h : v8 x = some r) : bh PP 81 ((aC ar (aC ar a0)).E x) r := by
  by_cases hc : bb x.1 ∧ bb x.2.1
  case neg => simp only [v8, if_neg hc] at h; cases h
  simp only [v8, if_pos hc] at h
  cases h
  exact bg (aw.cons (aq zr) (aw.cons (aq Mp) (aw.nil PP))) Tryz.func81 (by kernel_rfl) (by kernel_rfl) (by kernel_rfl) (Nat.le_of_ble_eq_true (by kernel_rfl)) (r1 (be .i64)) true (Zy x.1 x.2.1) (Ui x.1 x.2.1 hc.1 hc.2)
noncomputable abbrev aeg : Nat × Bool × (List AV → M AV) := (81, true, dj (aC ar (aC ar a0)) v8)
end Go.Proofs.YtcbdpmfipecmgaaGreat
end
section
set_option linter.unusedSimpArgs false
set_option linter.unusedVariables false
namespace Go.Proofs.YtcbdpmfipecmgaaGreat
open Go.Vm
theorem bb.lt {n : Name} (h : bb n) : n.length < 16777216 := by have := (qe n 0).2; unfold bb at h; omega
theorem aes (n : Name) (hn : bb n) : wl PP [] 0 (Tryz.f18.body.getD .skip) (du PP Tryz.f18.results.toList (fun r st => (r1 ar).get true st.h r = some n)) (cy 0 [ar.val false n]) (bn []) := by
  unfold Tryz.f18
  simp only [da]
  have hlim : n.length * 16 ≤ 140737488355328 := by have := hn.lt; omega
  simp only [↓wR, RA, simprocAttr, TF, hlim]
noncomputable def mq (x : Name × Unit) : Option AV := if bb x.1 then some ((r1 ar).E true (x.1)) else none
set_option maxRecDepth 2000000 in
theorem nn (x : Name × Unit) (r : AV) (h : mq x = some r) : bh PP 18 ((aC ar a0).E x) r := by
  by_cases hc : bb x.1
  case neg => simp only [mq, if_neg hc] at h; cases h
  simp only [mq, if_pos hc] at h
  cases h
  exact bg (aw.nil PP) Tryz.func18 (by kernel_rfl) (by kernel_rfl) (by kernel_rfl) (Nat.le_of_ble_eq_true (by kernel_rfl)) (r1 ar) true (x.1) (aes x.1 hc)
noncomputable abbrev se : Nat × Bool × (List AV → M AV) := (18, true, dj (aC ar a0) mq)
theorem an1 {n : Name} {i : Nat} {c : ByteArray} (hc : n[i]? = some c) : gy (n.drop i) = fold c :: gy (n.drop (i + 1)) := by rw [Gv hc]; rfl
theorem aeq (n : Name) (hn : bb n) : wl PP [Jc] 0 (Tryz.f68.body.getD .skip) (du PP Tryz.f68.results.toList (fun r st => (r1 ar).get true st.h r = some (gy n))) (cy 0 [ar.val false n]) (bn []) := by
  unfold Tryz.f68
  simp only [da]
  have hln := hn.lt
  simp only [↓wR, RA, simprocAttr, TF]
  refine jz [6, 7, 8, 3] (fun (x : List ByteArray) => [.vl false 1 (n.map (aj.val false)), .sc (.int .i64 n.length), .sc (.int .i64 x.length), .sl 0 0 x.length 1]) (fun x => [some (.row (x.map (aj.val false)) 0 0 9)]) (fun x => x ++ gy (n.drop x.length) = gy n ∧ x.length ≤ n.length) (fun x => n.length - x.length) [] ⟨rfl, Nat.zero_le _⟩ (by simp only [↓wR, RA, simprocAttr, TF]; (refine mz.lax [] (by first | exact Nat.le_of_ble_eq_true rfl | (simp [bw]; omega)) ?_ ?_ <;> repeat' first | exact i6.nil | exact db.nil | exact jb.same _ | exact jb.nil _ _ _ | exact jb.vh _ _ | exact db.refl _ _ | apply i6.cons | apply db.ghost | apply db.same | apply db.row)) ?_
  rintro x ⟨hR, hx⟩
  simp only [↓wR, RA, simprocAttr, TF]
  rw [cz]; refine ⟨fun h => ?_, fun h => ?_⟩
  · obtain ⟨c, hc, hd, hlt⟩ := ed h
    have hlim : (x.length + 1) * 16 ≤ 140737488355328 := by omega
    simp only [↓wR, RA, simprocAttr, TF, hc, ue, hn.label c (List.mem_of_getElem? hc), hlim]
    refine ⟨x ++ [fold c], ⟨?_, by simp; omega⟩, by simp; omega, by (first | rfl | trivial | omega | ((try (simp (disch := omega) only [ai])); (try (simp only [FB])); first | done | rfl | omega)), by (first | rfl | trivial | omega | ((try (simp (disch := omega) only [ai])); (try (simp only [FB])); first | done | rfl | omega))⟩
    rw [← hR, an1 hc]; simp
  · rw [fq h] at hR
    simp only [↓wR, RA, simprocAttr, TF, h]
    simpa [gy] using hR
noncomputable def Bu (x : Name × Unit) : Option AV := if bb x.1 then some ((r1 ar).E true (gy x.1)) else none
set_option maxRecDepth 2000000 in
theorem Xw (x : Name × Unit) (r : AV) (h : Bu x = some r) : bh PP 68 ((aC ar a0).E x) r := by
  by_cases hc : bb x.1
  case neg => simp only [Bu, if_neg hc] at h; cases h
  simp only [Bu, if_pos hc] at h
  cases h
  exact bg (aw.cons (aq Ab) (aw.nil PP)) Tryz.func68 (by kernel_rfl) (by kernel_rfl) (by kernel_rfl) (Nat.le_of_ble_eq_true (by kernel_rfl)) (r1 ar) true (gy x.1) (aeq x.1 hc)
noncomputable abbrev an6 : Nat × Bool × (List AV → M AV) := (68, true, dj (aC ar a0) Bu)
theorem qz {n : Name} (h : dv n = 0) : bk n ≤ 255 := by
  unfold dv at h
  split at h
  · cases h
  · split at h
    · cases h
    · omega
theorem bb.fit {n : Name} (h : bb n) : bk n < 17592186044416 := by unfold bb at h; omega
theorem bb.drop {n : Name} (h : bb n) (i : Nat) : bb (n.drop i) := by
  unfold bb at *
  have := ll (n.take i) (n.drop i)
  rw [List.take_append_drop] at this
  have h1 := (qe (n.take i) 0).2
  omega
def ti : ByteArray := ⟨#[42]⟩
def m9 (s : ByteArray) : List UInt8 := UInt8.ofNat s.size :: s.data.toList
def nameBytes (n : Name) : List UInt8 := n.flatMap m9 ++ [0]
def xk (n : Name) : List UInt8 := if dv n ≠ 0 then [] else nameBytes n
theorem Gl (s) : (m9 s).length = s.size + 1 := by simp [m9]
theorem Iv (n : Name) : (n.flatMap m9).length + 1 = bk n := by
  induction n with
  | nil => rfl
  | cons a l ih =>
    have := ll [a] l
    have h3 : bk [a] = a.size + 2 := by simp [bk]; omega
    simp only [List.singleton_append] at this
    simp only [List.flatMap_cons, List.length_append, Gl]
    omega
theorem acq (n : Name) (hn : bb n) : wl PP [dz] 0 (Tryz.f101.body.getD .skip) (du PP Tryz.f101.results.toList (fun r st => (r2 (cw bz) (be .i64)).get true st.h r = some (xk n, dv n))) (cy 0 [ar.val false n]) (bn []) := by
  unfold Tryz.f101
  simp only [da]
  have hln := hn.lt
  simp only [↓wR, RA, simprocAttr, TF, pr, hn.fit]
  rw [cz]; refine ⟨fun h => ?_, fun h => ?_⟩
  · have he : dv n ≠ 0 := by simpa using h
    have hb : xk n = [] := if_pos he
    simp only [↓wR, RA, simprocAttr, TF, hb]
  have he : dv n = 0 := by simpa using h
  have hb : xk n = nameBytes n := if_neg (by omega)
  rw [hb, he]
  simp only [↓wR, RA, simprocAttr, TF]
  refine jz [13, 14, 15, 5] (fun (x : Nat × List UInt8) => [.vl false 1 (n.map (aj.val false)), .sc (.int .i64 n.length), .sc (.int .i64 x.1), .sl 0 0 x.2.length 1]) (fun x => [some (.row (x.2.map (bz.val false)) 0 0 5)]) (fun x => x.2 ++ (n.drop x.1).flatMap m9 = n.flatMap m9 ∧ x.1 ≤ n.length) (fun x => n.length - x.1) (0, []) ⟨rfl, Nat.zero_le _⟩ (by simp only [↓wR, RA, simprocAttr, TF]; (refine mz.lax [] (by first | exact Nat.le_of_ble_eq_true rfl | (simp [bw]; omega)) ?_ ?_ <;> repeat' first | exact i6.nil | exact db.nil | exact jb.same _ | exact jb.nil _ _ _ | exact jb.vh _ _ | exact db.refl _ _ | apply i6.cons | apply db.ghost | apply db.same | apply db.row)) ?_
  rintro ⟨i, x⟩ ⟨hR, hx⟩
  simp only at hR hx
  have hnb := Iv n
  have hsm := qz he
  simp only [↓wR, RA, simprocAttr, TF]
  rw [cz]; refine ⟨fun h2 => ?_, fun h2 => ?_⟩
  · obtain ⟨c, hc, hd, hlt⟩ := ed h2
    rw [hd, List.flatMap_cons] at hR
    have hl : x.length + (m9 c).length ≤ (n.flatMap m9).length := by rw [← hR]; simp
    rw [Gl] at hl
    simp only [↓wR, RA, simprocAttr, TF, hc]; repeat (simp (disch := omega) only [ai, cb, cd, b9, ca]; try simp only [↓wR, RA, simprocAttr, TF, hc])
    refine ⟨(i + 1, x ++ m9 c), ⟨by rw [← hR]; simp, hlt⟩, by simp; omega, ?_, by simp only [m9, List.map_append, List.map_cons, List.append_assoc, List.singleton_append, Eu]⟩
    simp only [List.cons.injEq, and_true, true_and, AV.sc.injEq, Value.int.injEq, AV.sl.injEq, m9, List.length_append, List.length_cons]
    refine ⟨by (try simp (disch := omega) only [ai, cb, cd, b9, ca]); simp, by simp; omega⟩
  · rw [fq h2] at hR
    have hl : x.length < bk n := by rw [← hnb, ← hR]; simp
    simp only [↓wR, RA, simprocAttr, TF, h2]; repeat (simp (disch := omega) only [ai, cb, cd, b9, ca]; try simp only [↓wR, RA, simprocAttr, TF, h2])
    simp only [nameBytes, ← hR]; simp
noncomputable def u1 (x : Name × Unit) : Option AV := if bb x.1 then some ((r2 (cw bz) (be .i64)).E true ((xk x.1, dv x.1))) else none
set_option maxRecDepth 2000000 in
theorem Qy (x : Name × Unit) (r : AV) (h : u1 x = some r) : bh PP 101 ((aC ar a0).E x) r := by
  by_cases hc : bb x.1
  case neg => simp only [u1, if_neg hc] at h; cases h
  simp only [u1, if_pos hc] at h
  cases h
  exact bg (aw.cons (aq qh) (aw.nil PP)) Tryz.func101 (by kernel_rfl) (by kernel_rfl) (by kernel_rfl) (Nat.le_of_ble_eq_true (by kernel_rfl)) (r2 (cw bz) (be .i64)) true ((xk x.1, dv x.1)) (acq x.1 hc)
noncomputable abbrev ajv : Nat × Bool × (List AV → M AV) := (101, true, dj (aC ar a0) u1)
end Go.Proofs.YtcbdpmfipecmgaaGreat
end
section
set_option linter.unusedSimpArgs false
set_option linter.unusedVariables false
namespace Go.Proofs.YtcbdpmfipecmgaaGreat
open Go.Vm
set_option maxRecDepth 2000000
theorem Hv {α : Type} {f : α → AV} {xs : List α} (h : xs ≠ []) (op l sz p q) : Cm op (.vl l sz (xs.map f)) (.sc (.slice none p q)) = od op false := by
  cases xs with
  | nil => exact (h rfl).elim
  | cons x xs => rfl
def Lh (v : Value) : Prop := v = .slice none 0 0 ∨ ∃ a c, v = .slice (some a) 0 c
theorem z4 {f : Nat} {r : AV} {sz : Nat} (h : ∀ v, Lh v → bh PP f [.sc v] r) : bh PP f [.vl false sz []] r := by
  intro K w vs hK hrel
  obtain ⟨v, rfl, hv⟩ := Aq hrel
  have hE : Lh v := by
    cases hv with
    | vl => exact .inr ⟨_, _, rfl⟩
    | kf => exact .inl rfl
    | tg => exact .inr ⟨_, _, rfl⟩
  exact h v hE K w [v] hK (bj.cons (.sc v) (bj.nil _ _))
theorem ae4 (l : List UInt32) (hne : l ≠ []) (hl : l.length ≤ 16777216) : wl PP [] 0 (Tryz.f75.body.getD .skip) (du PP Tryz.f75.results.toList (fun r st => (r1 (cw dg)).get true st.h r = some l)) (cy 0 [(cw dg).val false l]) (bn []) := by
  unfold Tryz.f75
  rw [tn]
  have hb : l.length * 4 ≤ 140737488355328 := by omega
  simp only [↓wR, RA, simprocAttr, TF, Hv hne, hb]
theorem Zu (v : Value) (hv : Lh v) : wl PP [] 0 (Tryz.f75.body.getD .skip) (du PP Tryz.f75.results.toList (fun r st => (r1 (cw dg)).get true st.h r = some [])) (cy 0 [.sc v]) (bn []) := by
  unfold Tryz.f75
  rcases hv with rfl | ⟨a, c, rfl⟩
  · simp only [↓wR, RA, simprocAttr, TF]
  · simp only [↓wR, RA, simprocAttr, TF]
noncomputable def ye (x : List UInt32 × Unit) : Option AV := if x.1.length ≤ 16777216 then some ((r1 (cw dg)).E true x.1) else none
theorem I0 (x : List UInt32 × Unit) (r : AV) (h : ye x = some r) : bh PP 75 ((aC (cw dg) a0).E x) r := by
  by_cases hc : x.1.length ≤ 16777216
  case neg => simp only [ye, if_neg hc] at h; cases h
  simp only [ye, if_pos hc] at h
  cases h
  obtain ⟨l, ⟨⟩⟩ := x
  by_cases hn : l = []
  · subst hn
    exact z4 (sz := 1) fun v hv => bg (aw.nil PP) Tryz.func75 (by kernel_rfl) (by kernel_rfl) (by kernel_rfl) (Nat.le_of_ble_eq_true (by kernel_rfl)) (r1 (cw dg)) true [] (Zu v hv)
  · exact bg (aw.nil PP) Tryz.func75 (by kernel_rfl) (by kernel_rfl) (by kernel_rfl) (Nat.le_of_ble_eq_true (by kernel_rfl)) (r1 (cw dg)) true l (ae4 l hn hc)
noncomputable abbrev Zj : Nat × Bool × (List AV → M AV) := (75, true, dj (aC (cw dg) a0) ye)
theorem aet (l : List ByteArray) (hne : l ≠ []) (hl : l.length ≤ 16777216) : wl PP [] 0 (Tryz.f76.body.getD .skip) (du PP Tryz.f76.results.toList (fun r st => (r1 (cw aj)).get true st.h r = some l)) (cy 0 [(cw aj).val false l]) (bn []) := by
  unfold Tryz.f76
  rw [tn]
  have hb : l.length * 16 ≤ 140737488355328 := by omega
  simp only [↓wR, RA, simprocAttr, TF, Hv hne, hb]
theorem adm (v : Value) (hv : Lh v) : wl PP [] 0 (Tryz.f76.body.getD .skip) (du PP Tryz.f76.results.toList (fun r st => (r1 (cw aj)).get true st.h r = some [])) (cy 0 [.sc v]) (bn []) := by
  unfold Tryz.f76
  rcases hv with rfl | ⟨a, c, rfl⟩
  · simp only [↓wR, RA, simprocAttr, TF]
  · simp only [↓wR, RA, simprocAttr, TF]
noncomputable def yi (x : List ByteArray × Unit) : Option AV := if x.1.length ≤ 16777216 then some ((r1 (cw aj)).E true x.1) else none
theorem Im (x : List ByteArray × Unit) (r : AV) (h : yi x = some r) : bh PP 76 ((aC (cw aj) a0).E x) r := by
  by_cases hc : x.1.length ≤ 16777216
  case neg => simp only [yi, if_neg hc] at h; cases h
  simp only [yi, if_pos hc] at h
  cases h
  obtain ⟨l, ⟨⟩⟩ := x
  by_cases hn : l = []
  · subst hn
    exact z4 (sz := 1) fun v hv => bg (aw.nil PP) Tryz.func76 (by kernel_rfl) (by kernel_rfl) (by kernel_rfl) (Nat.le_of_ble_eq_true (by kernel_rfl)) (r1 (cw aj)) true [] (adm v hv)
  · exact bg (aw.nil PP) Tryz.func76 (by kernel_rfl) (by kernel_rfl) (by kernel_rfl) (Nat.le_of_ble_eq_true (by kernel_rfl)) (r1 (cw aj)) true l (aet l hn hc)
noncomputable abbrev Zt : Nat × Bool × (List AV → M AV) := (76, true, dj (aC (cw aj) a0) yi)
theorem ajk (l : List UInt8) (hne : l ≠ []) (hl : l.length ≤ 16777216) : wl PP [] 0 (Tryz.f77.body.getD .skip) (du PP Tryz.f77.results.toList (fun r st => (r1 (cw bz)).get true st.h r = some l)) (cy 0 [(cw bz).val false l]) (bn []) := by
  unfold Tryz.f77
  rw [tn]
  have hb : l.length ≤ 140737488355328 := by omega
  simp only [↓wR, RA, simprocAttr, TF, Hv hne, hb]
theorem ad6 (v : Value) (hv : Lh v) : wl PP [] 0 (Tryz.f77.body.getD .skip) (du PP Tryz.f77.results.toList (fun r st => (r1 (cw bz)).get true st.h r = some [])) (cy 0 [.sc v]) (bn []) := by
  unfold Tryz.f77
  rcases hv with rfl | ⟨a, c, rfl⟩
  · simp only [↓wR, RA, simprocAttr, TF]
  · simp only [↓wR, RA, simprocAttr, TF]
noncomputable def Af (x : List UInt8 × Unit) : Option AV := if x.1.length ≤ 16777216 then some ((r1 (cw bz)).E true x.1) else none
theorem Lg (x : List UInt8 × Unit) (r : AV) (h : Af x = some r) : bh PP 77 ((aC (cw bz) a0).E x) r := by
  by_cases hc : x.1.length ≤ 16777216
  case neg => simp only [Af, if_neg hc] at h; cases h
  simp only [Af, if_pos hc] at h
  cases h
  obtain ⟨l, ⟨⟩⟩ := x
  by_cases hn : l = []
  · subst hn
    exact z4 (sz := 1) fun v hv => bg (aw.nil PP) Tryz.func77 (by kernel_rfl) (by kernel_rfl) (by kernel_rfl) (Nat.le_of_ble_eq_true (by kernel_rfl)) (r1 (cw bz)) true [] (ad6 v hv)
  · exact bg (aw.nil PP) Tryz.func77 (by kernel_rfl) (by kernel_rfl) (by kernel_rfl) (Nat.le_of_ble_eq_true (by kernel_rfl)) (r1 (cw bz)) true l (ajk l hn hc)
noncomputable abbrev agc : Nat × Bool × (List AV → M AV) := (77, true, dj (aC (cw bz) a0) Af)
end Go.Proofs.YtcbdpmfipecmgaaGreat
end
section
set_option linter.unusedSimpArgs false
set_option linter.unusedVariables false
namespace Go.Proofs.YtcbdpmfipecmgaaGreat
open Go.Vm
set_option maxRecDepth 2000000
structure Shape where
  names : Int
  nums : Int
  size : Int
  texts : Int
  raw : Int
noncomputable def tq : c6 Shape := wg (iw (be .i64) (iw (be .i64) (iw (be .i64) (iw (be .i64) (be .i64))))) (fun s => (s.names, s.nums, s.size, s.texts, s.raw)) (fun p => ⟨p.1, p.2.1, p.2.2.1, p.2.2.2.1, p.2.2.2.2⟩) (fun _ => rfl) (fun _ => rfl)
theorem Di (l : Bool) (s : Shape) : tq.val l s = .agg [.sc (.int .i64 s.names), .sc (.int .i64 s.nums), .sc (.int .i64 s.size), .sc (.int .i64 s.texts), .sc (.int .i64 s.raw)] := id rfl
theorem kj (fr h) (a b c d e : Int) : tq.ek fr h (.agg [.sc (.int .i64 a), .sc (.int .i64 b), .sc (.int .i64 c), .sc (.int .i64 d), .sc (.int .i64 e)]) = some ⟨a, b, c, d, e⟩ := axc tq fr h ⟨a, b, c, d, e⟩
def ju (t : UInt16) : Shape :=
  if (t.toNat : Int) = 1 then ⟨0, 0, 0, 0, 4⟩ else if (t.toNat : Int) = 28 then ⟨0, 0, 0, 0, 16⟩ else if (t.toNat : Int) = 2 then ⟨1, 0, 0, 0, 0⟩ else if (t.toNat : Int) = 5 then ⟨1, 0, 0, 0, 0⟩ else if (t.toNat : Int) = 12 then ⟨1, 0, 0, 0, 0⟩
  else if (t.toNat : Int) = 6 then ⟨2, 5, 4, 0, 0⟩ else if (t.toNat : Int) = 15 then ⟨1, 1, 2, 0, 0⟩ else if (t.toNat : Int) = 33 then ⟨1, 3, 2, 0, 0⟩ else if (t.toNat : Int) = 16 then ⟨0, 0, 0, -1, 0⟩ else if (t.toNat : Int) = 257 then ⟨0, 1, 1, 2, 0⟩ else ⟨0, 0, 0, 0, -1⟩
theorem am9 (t : UInt16) : wl PP [] 0 (Tryz.f65.body.getD .skip) (du PP Tryz.f65.results.toList (fun r st => (r1 tq).get true st.h r = some (ju t))) (cy 0 [cq.val false t]) (bn []) := by
  unfold Tryz.f65
  unfold ju
  simp only [↓wR, RA, simprocAttr, TF]
  rw [c9]; refine ⟨fun ⟨h0, e0⟩ => ?_, fun ⟨h0, e0⟩ => ?_⟩
  · simp only [↓wR, RA, simprocAttr, TF, h0]
    rw [if_pos e0]
    exact kj ..
  rw [if_neg e0]
  simp only [↓wR, RA, simprocAttr, TF, h0]
  rw [c9]; refine ⟨fun ⟨h1, e1⟩ => ?_, fun ⟨h1, e1⟩ => ?_⟩
  · simp only [↓wR, RA, simprocAttr, TF, h1]
    rw [if_pos e1]
    exact kj ..
  rw [if_neg e1]
  simp only [↓wR, RA, simprocAttr, TF, h1]
  rw [c9]; refine ⟨fun ⟨h2, e2⟩ => ?_, fun ⟨h2, e2⟩ => ?_⟩
  · simp only [↓wR, RA, simprocAttr, TF, h2]
    rw [if_pos e2]
    exact kj ..
  rw [if_neg e2]
  simp only [↓wR, RA, simprocAttr, TF, h2]
  rw [c9]; refine ⟨fun ⟨h3, e3⟩ => ?_, fun ⟨h3, e3⟩ => ?_⟩
  · simp only [↓wR, RA, simprocAttr, TF, h3]
    rw [if_pos e3]
    exact kj ..
  rw [if_neg e3]
  simp only [↓wR, RA, simprocAttr, TF, h3]
  rw [c9]; refine ⟨fun ⟨h4, e4⟩ => ?_, fun ⟨h4, e4⟩ => ?_⟩
  · simp only [↓wR, RA, simprocAttr, TF, h4]
    rw [if_pos e4]
    exact kj ..
  rw [if_neg e4]
  simp only [↓wR, RA, simprocAttr, TF, h4]
  rw [c9]; refine ⟨fun ⟨h5, e5⟩ => ?_, fun ⟨h5, e5⟩ => ?_⟩
  · simp only [↓wR, RA, simprocAttr, TF, h5]
    rw [if_pos e5]
    exact kj ..
  rw [if_neg e5]
  simp only [↓wR, RA, simprocAttr, TF, h5]
  rw [c9]; refine ⟨fun ⟨h6, e6⟩ => ?_, fun ⟨h6, e6⟩ => ?_⟩
  · simp only [↓wR, RA, simprocAttr, TF, h6]
    rw [if_pos e6]
    exact kj ..
  rw [if_neg e6]
  simp only [↓wR, RA, simprocAttr, TF, h6]
  rw [c9]; refine ⟨fun ⟨h7, e7⟩ => ?_, fun ⟨h7, e7⟩ => ?_⟩
  · simp only [↓wR, RA, simprocAttr, TF, h7]
    rw [if_pos e7]
    exact kj ..
  rw [if_neg e7]
  simp only [↓wR, RA, simprocAttr, TF, h7]
  rw [c9]; refine ⟨fun ⟨h8, e8⟩ => ?_, fun ⟨h8, e8⟩ => ?_⟩
  · simp only [↓wR, RA, simprocAttr, TF, h8]
    rw [if_pos e8]
    exact kj ..
  rw [if_neg e8]
  simp only [↓wR, RA, simprocAttr, TF, h8]
  rw [c9]; refine ⟨fun ⟨h9, e9⟩ => ?_, fun ⟨h9, e9⟩ => ?_⟩
  · simp only [↓wR, RA, simprocAttr, TF, h9]
    rw [if_pos e9]
    exact kj ..
  rw [if_neg e9]
  simp only [↓wR, RA, simprocAttr, TF, h9]
  exact kj ..
noncomputable def D0 (x : UInt16 × Unit) : Option AV := some ((r1 tq).E true (ju x.1))
set_option maxRecDepth 2000000 in
theorem Dp (x : UInt16 × Unit) (r : AV) (h : D0 x = some r) : bh PP 65 ((aC cq a0).E x) r := by
  cases h
  exact bg (aw.nil PP) Tryz.func65 (by kernel_rfl) (by kernel_rfl) (by kernel_rfl) (Nat.le_of_ble_eq_true (by kernel_rfl)) (r1 tq) true (ju x.1) (am9 x.1)
noncomputable abbrev T7 : Nat × Bool × (List AV → M AV) := (65, true, dj (aC cq a0) D0)
def Ga (t : UInt16) : Bool := (t.toNat : Int) == 0 || (decide ((128 : Int) ≤ (t.toNat : Int)) && decide ((t.toNat : Int) ≤ 255))
theorem amy (t : UInt16) : wl PP [] 0 (Tryz.f64.body.getD .skip) (du PP Tryz.f64.results.toList (fun r st => (r1 bq).get true st.h r = some (Ga t))) (cy 0 [cq.val false t]) (bn []) := by
  unfold Tryz.f64
  unfold Ga
  simp only [↓wR, RA, simprocAttr, TF]
  rw [c9]; refine ⟨fun ⟨h, e⟩ => ?_, fun ⟨h, e⟩ => ?_⟩
  · simp only [↓wR, RA, simprocAttr, TF, h]
  · simp only [↓wR, RA, simprocAttr, TF, h]
    rw [cp]; refine ⟨fun h2 => ?_, fun h2 => ?_⟩
    · simp only [↓wR, RA, simprocAttr, TF, h2]
    · simp only [↓wR, RA, simprocAttr, TF, h2]
      rfl
noncomputable def Ty (x : UInt16 × Unit) : Option AV := some ((r1 bq).E true (Ga x.1))
set_option maxRecDepth 2000000 in
theorem ae6 (x : UInt16 × Unit) (r : AV) (h : Ty x = some r) : bh PP 64 ((aC cq a0).E x) r := by
  cases h
  exact bg (aw.nil PP) Tryz.func64 (by kernel_rfl) (by kernel_rfl) (by kernel_rfl) (Nat.le_of_ble_eq_true (by kernel_rfl)) (r1 bq) true (Ga x.1) (amy x.1)
noncomputable abbrev atf : Nat × Bool × (List AV → M AV) := (64, true, dj (aC cq a0) Ty)
noncomputable def Ec (n : UInt32) : List UInt8 := [UInt8.ofNat (n.toNat / 16777216), UInt8.ofNat (n.toNat / 65536), UInt8.ofNat (n.toNat / 256), UInt8.ofNat n.toNat]
theorem aow (n : UInt32) : wl PP [] 0 (Tryz.f100.body.getD .skip) (du PP Tryz.f100.results.toList (fun r st => (r1 (cw bz)).get true st.h r = some (Ec n))) (cy 0 [dg.val false n]) (bn []) := by
  unfold Tryz.f100
  simp only [↓wR, RA, simprocAttr, TF]
  rfl
noncomputable def Lx (x : UInt32 × Unit) : Option AV := some ((r1 (cw bz)).E true (Ec x.1))
set_option maxRecDepth 2000000 in
theorem ad9 (x : UInt32 × Unit) (r : AV) (h : Lx x = some r) : bh PP 100 ((aC dg a0).E x) r := by
  cases h
  exact bg (aw.nil PP) Tryz.func100 (by kernel_rfl) (by kernel_rfl) (by kernel_rfl) (Nat.le_of_ble_eq_true (by kernel_rfl)) (r1 (cw bz)) true (Ec x.1) (aow x.1)
noncomputable abbrev at0 : Nat × Bool × (List AV → M AV) := (100, true, dj (aC dg a0) Lx)
def P1 (c : UInt8) : Bool := decide (97 ≤ c.toNat ∧ c.toNat ≤ 122 ∨ 65 ≤ c.toNat ∧ c.toNat ≤ 90 ∨ 48 ≤ c.toNat ∧ c.toNat ≤ 57)
def Kc (s : ByteArray) : Bool := s.data.toList.all P1 && decide (1 ≤ s.size ∧ s.size ≤ 15)
theorem as0 (s : ByteArray) (hs : s.size ≤ 16777216) : wl PP [] 0 (Tryz.f97.body.getD .skip) (du PP Tryz.f97.results.toList (fun r st => (r1 bq).get true st.h r = some (Kc s))) (cy 0 [aj.val false s]) (bn []) := by
  unfold Tryz.f97
  simp only [↓wR, RA, simprocAttr, TF]
  refine dx [0, 6, 7] (fun (i : Nat) => [.sc (.string s), .sc (.int .i64 s.size), .sc (.int .i64 i)]) (fun _ => []) (fun i => i ≤ s.size ∧ s.data.toList.all P1 = (s.data.toList.drop i).all P1) (fun i => s.size - i) 0 ⟨Nat.zero_le _, rfl⟩ ?_ ?_ ?_
  · simp only [↓wR, RA, simprocAttr, TF] <;> rfl
  · simp only [↓wR, RA, simprocAttr, TF]
  rintro i ⟨hi, hR⟩
  simp only [↓wR, RA, simprocAttr, TF]
  rw [cp]; refine ⟨fun h => ?_, fun h => ?_⟩
  · obtain ⟨c, hc⟩ : ∃ c, s.data.toList[i]? = some c := ⟨_, List.getElem?_eq_getElem (by simp; omega)⟩
    have hd := Gv hc
    rw [hd, List.all_cons] at hR
    simp only [↓wR, RA, simprocAttr, TF, h, hc]; repeat (simp (disch := omega) only [ai, cb, cd, b9, ca]; try simp only [↓wR, RA, simprocAttr, TF, h, hc])
    repeat' (rw [cp]; refine ⟨fun h => ?_, fun h => ?_⟩ <;> simp only [↓wR, RA, simprocAttr, TF, h, hc])
    all_goals first
      | (have ht : P1 c = false := by (unfold P1; rw [decide_eq_false_iff_not]; omega)
         rw [Kc, hR, ht]; rfl)
      | (have ht : P1 c = true := by (unfold P1; rw [decide_eq_true_eq]; omega)
         refine ⟨i + 1, ⟨by omega, by rw [hR, ht]; simp⟩, by omega, by (first | rfl | trivial | omega | ((try (simp (disch := omega) only [ai])); (try (simp only [FB])); first | done | rfl | omega))⟩)
  · have hdn : s.data.toList.drop i = [] := List.drop_eq_nil_of_le (by simp; omega)
    rw [hdn, List.all_nil] at hR
    simp only [↓wR, RA, simprocAttr, TF, h]
    unfold Kc
    rw [hR]
    rw [cp]; refine ⟨fun h1 => ?_, fun h1 => ?_⟩
    · simp only [↓wR, RA, simprocAttr, TF, h1]
      congr 1
      rw [Bool.eq_iff_iff]; simp; omega
    · simp only [↓wR, RA, simprocAttr, TF, h1]
      congr 1
      rw [Bool.eq_iff_iff]; simp; omega
noncomputable def Sr (x : ByteArray × Unit) : Option AV := if x.1.size ≤ 16777216 then some ((r1 bq).E true (Kc x.1)) else none
set_option maxRecDepth 2000000 in
theorem ake (x : ByteArray × Unit) (r : AV) (h : Sr x = some r) : bh PP 97 ((aC aj a0).E x) r := by
  by_cases hc : x.1.size ≤ 16777216
  case neg => simp only [Sr, if_neg hc] at h; cases h
  simp only [Sr, if_pos hc] at h
  cases h
  exact bg (aw.nil PP) Tryz.func97 (by kernel_rfl) (by kernel_rfl) (by kernel_rfl) (Nat.le_of_ble_eq_true (by kernel_rfl)) (r1 bq) true (Kc x.1) (as0 x.1 hc)
noncomputable abbrev axg : Nat × Bool × (List AV → M AV) := (97, true, dj (aC aj a0) Sr)
end Go.Proofs.YtcbdpmfipecmgaaGreat
end
section
set_option linter.unusedSimpArgs false
set_option linter.unusedVariables false
namespace Go.Proofs.YtcbdpmfipecmgaaGreat
open Go.Vm
set_option maxRecDepth 2000000
def g8 {α : Type} (f : α → Nat) (l : List α) : Nat := l.foldr (fun x k => f x + k + 1) 0
def yd (d : c7) : Nat := g8 bk d.names + d.nums.length + g8 ByteArray.size d.texts + d.raw.length
theorem Cw {α : Type} {f : α → Nat} {l : List α} {x : α} (h : x ∈ l) : f x < g8 f l := by
  induction l with
  | nil => cases h
  | cons a l ih =>
    simp only [g8, List.foldr_cons] at ih ⊢
    rcases List.mem_cons.1 h with rfl | h
    · omega
    · have := ih h; omega
theorem yc {α : Type} (f : α → Nat) (l : List α) : l.length ≤ g8 f l := by
  induction l with
  | nil => exact Nat.le_refl _
  | cons a l ih => simp only [g8, List.foldr_cons, List.length_cons] at ih ⊢; omega
def dm (d : c7) : Prop := yd d ≤ 16777216
instance (d : c7) : Decidable (dm d) := inferInstanceAs (Decidable (_ ≤ _))
theorem dm.name {d : c7} (h : dm d) : ∀ n ∈ d.names, bb n := fun n hn => by
  have h1 : bk n < g8 bk d.names := Cw hn
  unfold dm yd at h; unfold bb; omega
theorem dm.text {d : c7} (h : dm d) : ∀ s ∈ d.texts, s.size ≤ 16777216 := fun s hs => by
  have h1 : ByteArray.size s < g8 ByteArray.size d.texts := Cw hs
  unfold dm yd at h; omega
theorem dm.lens {d : c7} (h : dm d) : d.names.length ≤ 16777216 ∧ d.nums.length ≤ 16777216 ∧ d.texts.length ≤ 16777216 ∧ d.raw.length ≤ 16777216 := by
  have h1 := yc bk d.names
  have h2 := yc ByteArray.size d.texts
  unfold dm yd at h; omega
noncomputable def Ma (s : Shape) : Int := IntKind.u32.wrap (1 * 2 ^ (if (8 * s.size).toNat ≤ 32 then (8 * s.size).toNat else 32))
noncomputable def y5 (s : Shape) (t : UInt16) (d : c7) : Bool :=
  if (d.names.length : Int) ≠ s.names ∨ (d.nums.length : Int) ≠ s.nums ∨ (0 ≤ s.raw ∧ (d.raw.length : Int) ≠ s.raw) then false
  else if s.size < 4 ∧ (d.nums.any fun n => decide (Ma s ≤ (n.toNat : Int))) = true then false
  else if (t.toNat : Int) = 257 then decide (d.texts.length = 2) && Kc (d.texts.headD ⟨#[]⟩)
  else if s.texts = 0 then decide (d.texts.length = 0)
  else decide (0 < d.texts.length) && !(d.texts.any fun x => decide (255 < x.size))
noncomputable def Su (s : Shape) (t : UInt16) (d : c7) : Bool :=
  if s.size < 4 ∧ (d.nums.any fun n => decide (Ma s ≤ (n.toNat : Int))) = true then false
  else if (t.toNat : Int) = 257 then decide (d.texts.length = 2) && Kc (d.texts.headD ⟨#[]⟩)
  else if s.texts = 0 then decide (d.texts.length = 0)
  else decide (0 < d.texts.length) && !(d.texts.any fun x => decide (255 < x.size))
theorem asr (s : Shape) (t : UInt16) (d : c7) (hs : 0 ≤ s.size ∧ s.size ≤ 4) (hd : dm d) : wl PP [axg] 0 (Tryz.f66.body.getD .skip) (du PP Tryz.f66.results.toList (fun r st => (r1 bq).get true st.h r = some (y5 s t d))) (cy 0 [tq.val false s, cq.val false t, bt.val false d]) (bn []) := by
  unfold Tryz.f66
  obtain ⟨l1, l2, l3, l4⟩ := hd.lens
  simp only [Di, oh, da]
  simp only [↓wR, RA, simprocAttr, TF]
  rw [ef]; refine ⟨fun ⟨h, e⟩ => ?_, fun ⟨h, e⟩ => ?_⟩
  · have hv : y5 s t d = false := if_pos (.inl e)
    simp only [↓wR, RA, simprocAttr, TF, h, hv]
  simp only [↓wR, RA, simprocAttr, TF, h]
  rw [ef]; refine ⟨fun ⟨h2, e2⟩ => ?_, fun ⟨h2, e2⟩ => ?_⟩
  · have hv : y5 s t d = false := if_pos (.inr (.inl e2))
    simp only [↓wR, RA, simprocAttr, TF, h2, hv]
  simp only [↓wR, RA, simprocAttr, TF, h2]
  have hraw : ¬ (0 ≤ s.raw ∧ (d.raw.length : Int) ≠ s.raw) → y5 s t d = Su s t d := fun hr => if_neg (fun h => by
    rcases h with h | h | h
    · exact h e
    · exact h e2
    · exact hr h)
  rw [cp]; refine ⟨fun h3 => ?_, fun h3 => ?_⟩
  simp only [↓wR, RA, simprocAttr, TF, h3]
  rw [ef]; refine ⟨fun ⟨h4, e4⟩ => ?_, fun ⟨h4, e4⟩ => ?_⟩
  have hv : y5 s t d = false := if_pos (.inr (.inr ⟨h3, e4⟩))
  simp only [↓wR, RA, simprocAttr, TF, h4, hv]
  rw [hraw (fun q => q.2 e4)]
  simp only [↓wR, RA, simprocAttr, TF, h4]
  rotate_left
  rw [hraw (fun q => h3 q.1)]
  simp only [↓wR, RA, simprocAttr, TF, h3]
  all_goals
    clear hraw
    refine dx [1, 3, 5, 37, 38, 39] (fun (i : Nat) => [.sc (.int .u16 t.toNat), .ptr 0 0, .ptr 1 0, .vl false 1 (d.nums.map (dg.val false)), .sc (.int .i64 d.nums.length), .sc (.int .i64 i)]) (fun _ => [some (.row [.sc (.int .i64 s.names), .sc (.int .i64 s.nums), .sc (.int .i64 s.size), .sc (.int .i64 s.texts), .sc (.int .i64 s.raw)] 0 2 127), some (.row [.vl false 1 (d.names.map (ar.val false)), .vl false 1 (d.nums.map (dg.val false)), .vl false 1 (d.texts.map (aj.val false)), .vl false 1 (d.raw.map (bz.val false))] 0 2 65)]) (fun i => i ≤ d.nums.length ∧ (s.size < 4 → (d.nums.any fun n => decide (Ma s ≤ (n.toNat : Int))) = ((d.nums.drop i).any fun n => decide (Ma s ≤ (n.toNat : Int))))) (fun i => d.nums.length - i) 0 ⟨Nat.zero_le _, fun _ => rfl⟩ (by simp only [↓wR, RA, simprocAttr, TF] <;> rfl) (by simp only [↓wR, RA, simprocAttr, TF] <;> rfl) ?_
    clear h h2 e e2
    rintro i ⟨hi, hR⟩
    simp only [↓wR, RA, simprocAttr, TF]
    rw [cp]; refine ⟨fun h => ?_, fun h => ?_⟩
    · obtain ⟨c, hc, hd1, hlt⟩ := ed (decide_eq_true h)
      rw [hd1, List.any_cons] at hR
      simp only [↓wR, RA, simprocAttr, TF, h, hc]
      rw [cp]; refine ⟨fun h5 => ?_, fun h5 => ?_⟩
      · have hR := hR h5
        have h80 : (0 : Int) ≤ 8 * s.size := by omega
        simp only [↓wR, RA, simprocAttr, TF, h5, h80]; repeat (simp (disch := omega) only [ai, cb, cd, b9, ca]; try simp only [↓wR, RA, simprocAttr, TF, h5, h80])
        rw [cp]; refine ⟨fun h6 => ?_, fun h6 => ?_⟩
        · have hv : Su s t d = false := by
            rw [Su, if_pos ⟨h5, by rw [hR, decide_eq_true (show Ma s ≤ (c.toNat : Int) from h6)]; rfl⟩]
          simp only [↓wR, RA, simprocAttr, TF, h6, hv]
        · simp only [↓wR, RA, simprocAttr, TF, h6]; repeat (simp (disch := omega) only [ai, cb, cd, b9, ca]; try simp only [↓wR, RA, simprocAttr, TF, h6])
          refine ⟨i + 1, ⟨hlt, fun _ => ?_⟩, by omega, by (first | rfl | trivial | omega | ((try (simp (disch := omega) only [ai])); (try (simp only [FB])); first | done | rfl | omega))⟩
          rw [hR, decide_eq_false (show ¬ Ma s ≤ (c.toNat : Int) from h6), Bool.false_or]
      · simp only [↓wR, RA, simprocAttr, TF, h5]; repeat (simp (disch := omega) only [ai, cb, cd, b9, ca]; try simp only [↓wR, RA, simprocAttr, TF, h5])
        exact ⟨i + 1, ⟨hlt, fun h => h.elim⟩, by omega, by (first | rfl | trivial | omega | ((try (simp (disch := omega) only [ai])); (try (simp only [FB])); first | done | rfl | omega))⟩
    · rw [fq (decide_eq_false h), List.any_nil] at hR
      have hr : Su s t d = if (t.toNat : Int) = 257 then decide (d.texts.length = 2) && Kc (d.texts.headD ⟨#[]⟩) else if s.texts = 0 then decide (d.texts.length = 0) else decide (0 < d.texts.length) && !(d.texts.any fun x => decide (255 < x.size)) := by
        rw [Su, if_neg]; rintro ⟨q1, q2⟩; rw [hR q1] at q2; cases q2
      simp only [↓wR, RA, simprocAttr, TF, h]
      rw [c9]; refine ⟨fun ⟨h6, e6⟩ => ?_, fun ⟨h6, e6⟩ => ?_⟩
      · rw [if_pos e6] at hr
        simp only [↓wR, RA, simprocAttr, TF, h6]
        rw [c9]; refine ⟨fun ⟨h7, e7⟩ => ?_, fun ⟨h7, e7⟩ => ?_⟩
        · obtain ⟨c, hc⟩ : ∃ c, d.texts[0]? = some c := ⟨_, List.getElem?_eq_getElem (by omega)⟩
          have hh : d.texts.headD ⟨#[]⟩ = c := by
            cases ht : d.texts with
            | nil => rw [ht] at hc; cases hc
            | cons a l => rw [ht] at hc; simpa using hc
          rw [hh, decide_eq_true (show d.texts.length = 2 by omega)] at hr
          simp only [↓wR, RA, simprocAttr, TF, h7, hc, Sr, hd.text c (List.mem_of_getElem? hc)]
          rw [hr]; rfl
        · simp only [↓wR, RA, simprocAttr, TF, h7]
          rw [hr, decide_eq_false (show ¬ d.texts.length = 2 by omega)]; rfl
      · rw [if_neg e6] at hr
        simp only [↓wR, RA, simprocAttr, TF, h6]
        rw [c9]; refine ⟨fun ⟨h7, e7⟩ => ?_, fun ⟨h7, e7⟩ => ?_⟩
        · rw [if_pos e7] at hr
          simp only [↓wR, RA, simprocAttr, TF, h7]
          rw [hr]; congr 1
          rw [Bool.eq_iff_iff]; simp
        · rw [if_neg e7] at hr
          simp only [↓wR, RA, simprocAttr, TF, h7]
          rw [cp]; refine ⟨fun h8 => ?_, fun h8 => ?_⟩
          · simp only [↓wR, RA, simprocAttr, TF, h8]
            refine bm (T := []) (aw.nil PP) mixed Tryz.func98 rfl (by kernel_rfl) (by kernel_rfl) (by kernel_rfl) (by kernel_rfl) ?_; unfold Tryz.f98
            simp only [↓wR, RA, simprocAttr, TF]
            refine bm (T := []) (aw.nil PP) mixed Tryz.func115 rfl (by kernel_rfl) (by kernel_rfl) (by kernel_rfl) (by kernel_rfl) ?_; unfold Tryz.f115
            simp only [↓wR, RA, simprocAttr, TF]
            refine dx [0, 1, 7, 8] (fun (i : Nat) => [.vl false 1 (d.texts.map (aj.val false)), .sc (.func (.func 99) #[] #[]), .sc (.int .i64 d.texts.length), .sc (.int .i64 i)]) (fun _ => [some (.row [.sc (.int .i64 s.names), .sc (.int .i64 s.nums), .sc (.int .i64 s.size), .sc (.int .i64 s.texts), .sc (.int .i64 s.raw)] 0 2 127), some (.row [.vl false 1 (d.names.map (ar.val false)), .vl false 1 (d.nums.map (dg.val false)), .vl false 1 (d.texts.map (aj.val false)), .vl false 1 (d.raw.map (bz.val false))] 0 2 65)]) (fun i => i ≤ d.texts.length ∧ (d.texts.any fun x => decide (255 < x.size)) = ((d.texts.drop i).any fun x => decide (255 < x.size))) (fun i => d.texts.length - i) 0 ⟨Nat.zero_le _, rfl⟩ (by simp only [↓wR, RA, simprocAttr, TF] <;> rfl) (by simp only [↓wR, RA, simprocAttr, TF] <;> rfl) ?_
            rintro k ⟨hk, hK⟩
            simp only [↓wR, RA, simprocAttr, TF]
            rw [cp]; refine ⟨fun h9 => ?_, fun h9 => ?_⟩
            · obtain ⟨c, hc, hd1, hlt⟩ := ed (decide_eq_true h9)
              rw [hd1, List.any_cons] at hK
              simp only [↓wR, RA, simprocAttr, TF, h9, hc]; repeat (simp (disch := omega) only [ai, cb, cd, b9, ca]; try simp only [↓wR, RA, simprocAttr, TF, h9, hc])
              refine bm (T := []) (aw.nil PP) mixed Tryz.func99 rfl (by kernel_rfl) (by kernel_rfl) (by kernel_rfl) (by kernel_rfl) ?_; unfold Tryz.f99
              simp only [↓wR, RA, simprocAttr, TF]
              rw [cp]; refine ⟨fun h10 => ?_, fun h10 => ?_⟩
              · simp only [↓wR, RA, simprocAttr, TF, h10]
                rw [hr, hK, decide_eq_true (show 0 < d.texts.length by omega), decide_eq_true (show 255 < c.size by omega)]; rfl
              · simp only [↓wR, RA, simprocAttr, TF, h10]; repeat (simp (disch := omega) only [ai, cb, cd, b9, ca]; try simp only [↓wR, RA, simprocAttr, TF, h10])
                refine ⟨k + 1, ⟨hlt, ?_⟩, by omega, by (first | rfl | trivial | omega | ((try (simp (disch := omega) only [ai])); (try (simp only [FB])); first | done | rfl | omega))⟩
                rw [hK, decide_eq_false (show ¬ 255 < c.size by omega), Bool.false_or]
            · rw [fq (decide_eq_false h9), List.any_nil] at hK
              simp only [↓wR, RA, simprocAttr, TF, h9]
              rw [hr, hK, decide_eq_true (show 0 < d.texts.length by omega)]; rfl
          · simp only [↓wR, RA, simprocAttr, TF, h8]
            rw [hr, decide_eq_false (show ¬ 0 < d.texts.length by omega)]; rfl
theorem Tk (t : UInt16) : 0 ≤ (ju t).size ∧ (ju t).size ≤ 4 := by
  unfold ju
  repeat' split
  all_goals simp
noncomputable def Ja (x : Shape × UInt16 × c7 × Unit) : Option AV := if (0 ≤ x.1.size ∧ x.1.size ≤ 4) ∧ dm x.2.2.1 then some ((r1 bq).E true (y5 x.1 x.2.1 x.2.2.1)) else none
set_option maxRecDepth 2000000 in
theorem aji (x : Shape × UInt16 × c7 × Unit) (r : AV) (h : Ja x = some r) : bh PP 66 ((aC tq (aC cq (aC bt a0))).E x) r := by
  by_cases hc : (0 ≤ x.1.size ∧ x.1.size ≤ 4) ∧ dm x.2.2.1
  case neg => simp only [Ja, if_neg hc] at h; cases h
  simp only [Ja, if_pos hc] at h
  cases h
  exact bg (aw.cons (aq ake) (aw.nil PP)) Tryz.func66 (by kernel_rfl) (by kernel_rfl) (by kernel_rfl) (Nat.le_of_ble_eq_true (by kernel_rfl)) (r1 bq) true (y5 x.1 x.2.1 x.2.2.1) (asr x.1 x.2.1 x.2.2.1 hc.1 hc.2)
noncomputable abbrev avc : Nat × Bool × (List AV → M AV) := (66, true, dj (aC tq (aC cq (aC bt a0))) Ja)
end Go.Proofs.YtcbdpmfipecmgaaGreat
end
