/- A piece of the proof. Proved: where the arguments are together of bulk at most 1048576, the law AnswerAdds returns true (what is added are addresses of what was named), and what it was given reads afterwards as it did before. No other conditions. -/
import Derived.WalkKit
import Derived.CallsIn
import Derived.RangeFuncIn
import Derived.RangeFuncLeaves
import Derived.Orders
import Derived.OrdersIn
import Derived.Scope
import Derived.RangeFuncOwn
import Derived.Stop.SameAnswer
import Derived.Laws.Externs
import Derived.Lib.Bytealg
import Derived.ProofKit
import Derived.OpenShut
import Derived.ReadAgain
import Derived.Deep.Slices
import Derived.ChangeSame
import Derived.Test.YtidomogemfchpaaGreatProg
import Derived.KernelRfl
import Derived.Test.YtidomogemfchpaaGreatRows
import Derived.Maps.RangeRun
import Derived.JoinedCond
import Derived.Test.YtidomogemfchpaaGreatA1
set_option linter.unusedSimpArgs false
set_option linter.unusedVariables false
namespace Go.Vm
noncomputable section
structure zh (w w' : World) : Prop where
  size : w.heap.size ≤ w'.heap.size
  heap : ∀ b, b < w.heap.size → w'.heap[b]? = w.heap[b]?
  os : w'.os = w.os
  tape : w'.tape = w.tape
  output : w'.output = w.output
def ac1 (K : Nat → Nat → Prop) (w w' : World) : Nat → Nat → Prop := fun b j => K b j ∨ (w.heap.size ≤ b ∧ b < w'.heap.size)
def ag8 (P : Program) (f : Nat) (vs : List Value) (w : World) (X : Value → World → Prop) : Prop :=
  (∃ v, (callFunc f vs.toArray).run P w = .ok (.value v) w ∧ X v w) ∨
  ((callFunc f vs.toArray).run P w = .ok (.enter f vs.toArray) w ∧ Calls P f vs.toArray w (fun e w' => ∃ v, e = .returned v ∧ X v w'))
def bk (P : Program) (f : Nat) (args : List AV) (r : AV) : Prop :=
  ∀ (K : Nat → Nat → Prop) (w : World) (vs : List Value), (∀ b j, K b j → b < w.heap.size) → bh (gK w.heap.size K) w args vs →
    ag8 P f vs w (fun v w' => zh w w' ∧ Rel (gK w.heap.size (ac1 K w w')) w' r v)
theorem Uw {P : Program} {g w nt} {L : SL} {tmps : Array Value} {st : St} (hok : Ok g st.h w) (hs : dx g w nt L tmps) : ∀ (rs : List ResultVar) (l : List AV), pw P L st rs = some l →
    ∃ vs, (rs.mapM (vp tmps)).run P w = .ok vs w ∧ bh g w l vs := by
  intro rs
  induction rs with
  | nil => intro l h; simp [pw] at h; subst h; exact ⟨[], by simp, bh.nil _ _⟩
  | cons r rs ih =>
    intro l h
    cases r with
    | tmp t =>
      simp only [pw, Option.map_eq_some_iff] at h
      obtain ⟨l', h1, rfl⟩ := h
      obtain ⟨vs, h2, h3⟩ := ih l' h1
      refine ⟨tmps.getD t undef :: vs, ?_, bh.cons (hs.2 t) h3⟩
      simp only [List.mapM_cons, Sem.run_bind, vp, Sem.run_pure, Result.andThen_ok, h2]
    | cell c t =>
      simp only [pw] at h
      split at h
      · rename_i v st' hl
        rw [Option.map_eq_some_iff] at h
        obtain ⟨l', h1, rfl⟩ := h
        obtain ⟨vs, h2, h3⟩ := ih l' h1
        have hrel := hs.2 c
        have hptr : ∃ ad, tmps.getD c undef = .pointer (some ad) := by
          generalize lk L c = x at hrel hl
          generalize tmps.getD c undef = v at hrel
          cases hrel <;> first | exact ⟨_, rfl⟩ | cases hl
        obtain ⟨ad, had⟩ := hptr
        obtain ⟨u, h4, h5⟩ := aj0 (P := P) hok hrel hl had
        refine ⟨u :: vs, ?_, bh.cons h5 h3⟩
        have h6 : (vp tmps (.cell c t)).run P w = .ok u w := by simp [vp, had, asAddr, h4]
        simp only [List.mapM_cons, Sem.run_bind, h6, Result.andThen_ok, h2]
        rfl
      · cases h
theorem U3 {P : Program} {g w} {fn : Func} {tmps : Array Value} {l : List AV} {vs : List Value} (h : (fn.results.toList.mapM (vp tmps)).run P w = .ok vs w) (q4 : bh g w l vs) :
    ∃ v, (results fn tmps).run P w = .ok v w ∧ Rel g w (pack l) v := by
  have hmap : (fn.results.mapM (vp tmps)).run P w = .ok vs.toArray w := by
    rw [Array.mapM_eq_mapM_toList]
    simp [h]
  rw [ajn]
  simp only [Sem.run_bind, hmap, Result.andThen_ok, Sem.run_pure]
  refine ⟨_, rfl, ?_⟩
  match l, vs, q4 with
  | [a1], [v1], q4 => simpa [pack] using q4.head
  | [], [], q4 => simp [pack]; exact .fg _ _ rfl (fun i a v h _ => by simp at h)
  | a1 :: a2 :: l, v1 :: v2 :: vs, q4 =>
    simp [pack]
    exact .fg _ _ (by have := q4.1; simp at this ⊢; omega) (fun i a v h1 h2 => q4.2 i a v h1 (by simpa using h2))
  | [], v :: vs, q4 => have := q4.1; simp at this
  | a :: l, [], q4 => have := q4.1; simp at this
  | [a1], v1 :: v2 :: vs, q4 => have := q4.1; simp at this
  | a1 :: a2 :: l, [v1], q4 => have := q4.1; simp at this
theorem Ud {P : Program} {T : dw} (hT : aw P T) (hm : P.follows .mixedOrders = true) {f : Nat} {fn : Func} {body : Code} (hf : P.funcs[f]? = some fn) (hb : fn.body = some body) (he : kq P f = true) (hs : dt fn.ntmps body = true)
    {args : List AV} (hl : args.length ≤ fn.ntmps) {ρ : Type} (R : RC ρ) (fr : Bool) (x : ρ)
    (h : wl P T 0 body (du P fn.results.toList (fun r st => R.get fr st.h r = some x)) (cq 0 args) (bm [])) : bk P f args (R.E fr x) := by
  intro K w vs hK hrel
  refine .inr ⟨s7 he _ _, xc (ro := none) (n := 0) (callsIn_of_wp_marks hf hb trivial ?_)⟩
  let B : ft := { b0 := w.heap.size, w, K, O := fun _ => False, az := 0, pb := fun _ => none, n0 := w.heap.size }
  have hcur : fl B (gK w.heap.size K) (bm []) w := by
    refine ⟨⟨Nat.le_refl _, fun o x hx => ?_, fun o o' x x' b base base' _ hx => ?_, hK⟩, fun o _ _ => rfl, ⟨rfl, (fun o ho => (by rcases ho with ho | ho; cases ho; exact ho.elim)), fun _ _ h => h, fun _ _ _ => rfl, Nat.le_refl _, rfl, rfl, rfl, fun _ _ _ => rfl, fun o b base ho => ?_, fun _ _ h => .inl h, fun b cs e fr h => ⟨cs, fr, h, rfl⟩, fun b l h => ⟨l, h⟩⟩, Nat.zero_le _⟩
    · simp [bm, o9, Tr.get_nil] at hx
    · simp [bm, o9, Tr.get_nil] at hx
    · simp [bm, o9, Tr.get_nil] at ho
  refine wpIn_mono (aqg hT hm (N := 0) (B := B) (nt := fn.ntmps) (fun _ h => h) (by show (0 : Nat) ≤ 1000; omega) (Nat.le_refl _) body hs _ _ _ (gK w.heap.size K) w _ h hcur (zm hrel hl) (Marks.nil _ _ _ _)) ?_
  rintro ex a w' ⟨e, L, st, g, rfl, hq, hc, hr, hd⟩
  have fin : Kh (pw P L st fn.results.toList) (fun r st => R.get fr st.h r = some x) st → bodyPostM (fu none) 0 P fn (fun e w' => ∃ v, e = .returned v ∧ zh w w' ∧ Rel (gK w.heap.size (ac1 K w w')) w' (R.E fr x) v) .ret a w' := by
    intro hq
    show LeavesInM (fu none) 0 P fn a.tmps _ a.defers .returning w'
    unfold Kh at hq
    cases hres : pw P L st fn.results.toList with
    | none => rw [hres] at hq; exact hq.elim
    | some l =>
      rw [hres] at hq
      have hbs := hc.base
      obtain ⟨bs, e1, e2, e3⟩ := hd
      rw [e1]
      refine E6 (Good := fun u => Ok g st.h u ∧ zh w u ∧ (∀ a v, Rel g w' a v → Rel g u a v) ∧ u.heap.size = w'.heap.size) (S := fun b => w.heap.size ≤ b ∧ ff g st.h b) ?_ ?_ bs w'
        ⟨hc.ok, ⟨hbs.size, fun b hlt => hbs.frame b hlt (fun h => h), hbs.os, hbs.tape, hbs.output⟩, fun _ _ h => h, rfl⟩ e2 (fun b hb => ⟨⟨(e3 b hb).1, (e3 b hb).2.2⟩, (e3 b hb).2.1⟩)
      · rintro u b ⟨g1, g2, g3, g4⟩ ⟨hb1, hb2⟩ hb3
        have hput := Ok.E8 (ds' := none) g1 hb3 hb2
        exact ⟨hput.1, ⟨by rw [ny]; exact g2.size, fun c hc => (fo u _ (by omega)).trans (g2.heap c hc), g2.os, g2.tape, g2.output⟩, fun a v h => hput.2 a v (g3 a v h), by rw [ny]; exact g4⟩
      · rintro u ⟨g1, g2, g3, g4⟩
        obtain ⟨us, h1, h2⟩ := Uw (P := P) g1 ⟨hr.1, fun t => g3 _ _ (hr.2 t)⟩ fn.results.toList l hres
        obtain ⟨v, h3, h4⟩ := U3 h1 h2
        refine ⟨v, h3, v, rfl, g2, ?_⟩
        refine R.ok g1 ⟨fun b j hk => ?_, fun o cells k s e ho b base hi j hj => ?_⟩ (fun _ => ?_) h4 hq
        · rcases hbs.n8 b j hk with h5 | h5 | h5
          · exact .inl h5
          · exact .inr ⟨h5, g1.K b j hk⟩
          · exact h5.elim
        · obtain ⟨b', base', h5, _, h6⟩ := g1.obj o _ ho
          rw [hi] at h5; cases h5
          rcases hbs.own o b base (by rw [ho]; rfl) hi with h7 | h7
          · exact .inr ⟨h7, h6.lt⟩
          · exact h7.elim
        · rw [hbs.b0]; exact Nat.le_refl _
  cases e with
  | normal => exact fin hq
  | ret => exact fin hq
  | exit id => exact hq.elim
theorem Rel.lift {b0 K g w a v} (h : Rel (gK b0 K) w a v) (hb : g.b0 ≤ b0) (hK : ∀ b j, K b j → g.K b j) : Rel g w a v := by
  have hno : ∀ o p, (gK b0 K).inj o ≠ some p := fun o p e => by cases e
  generalize hg : gK b0 K = g0 at h hno
  have hK' : ∀ b j, g0.K b j → g.K b j := by subst hg; exact hK
  have hb' : g.b0 ≤ g0.b0 := by subst hg; exact hb
  clear hg
  induction h with
  | sc x => exact .sc x
  | agg l vs hs _ ih => exact .agg l vs hs ih
  | fg l vs hs _ ih => exact .fg l vs hs ih
  | vl loc sz es b off cap c hsz hl hcap h _ ih => exact .vl loc sz es b off cap c hsz (fun e => Nat.le_trans hb' (hl e)) hcap (fun j a hj => ⟨hK' _ _ (h j a hj).1, (h j a hj).2⟩) ih
  | jx loc sz => exact .jx loc sz
  | sq loc sz a => exact .sq loc sz a
  | sl o off len sz b base cap hi hc hm hr => exact (hno _ _ hi).elim
  | u5 o off sz a => exact .u5 o off sz a
  | vg o off sz => exact .vg o off sz
  | ez a => exact .ez a
  | ptr o off b base hi => exact (hno _ _ hi).elim
  | gn l b off c h _ ih => exact .gn l b off c (fun j a hj => ⟨hK' _ _ (h j a hj).1, (h j a hj).2⟩) ih
  | fn f first captured va vb hs _ hs' _ ih ih' => exact .fn f first captured va vb hs ih hs' ih'
  | mp o b base hi => exact (hno _ _ hi).elim
  | rp t a v _ ih => exact .rp t a v ih
  | yl o b base hi => exact (hno _ _ hi).elim
  | bad v => exact .bad v
theorem Cf {l : List AV} (h : AV.fresh.go l = true) : ∀ a ∈ l, a.fresh = true := by
  induction l with
  | nil => intro a ha; cases ha
  | cons x l ih =>
    simp only [AV.fresh.go, Bool.and_eq_true] at h
    intro a ha
    rcases List.mem_cons.1 ha with rfl | ha
    · exact h.1
    · exact ih h.2 a ha
theorem aez {a : AV} (h : a.fresh = true) : ∀ c ∈ a.cells, c.fresh = true := by
  cases a with
  | agg l => exact Cf h
  | sc v => intro c hc; simp only [AV.cells, List.mem_map] at hc; obtain ⟨x, _, rfl⟩ := hc; rfl
  | _ => intro c hc; simp only [AV.cells, List.mem_singleton] at hc; subst hc; exact h
theorem Rel.fresh {b0 K g w a v} (h : Rel (gK b0 K) w a v) (hf : a.fresh = true) (hb : g.b0 ≤ b0) (hK : ∀ b j, K b j → b0 ≤ b → g.K b j) : Rel g w a v := by
  generalize hg : gK b0 K = g0 at h
  have hK' : ∀ b j, g0.K b j → g0.b0 ≤ b → g.K b j := by subst hg; exact hK
  have hb' : g.b0 ≤ g0.b0 := by subst hg; exact hb
  clear hg hb hK
  induction h with
  | sc x => exact .sc x
  | agg l vs hs _ ih => exact .agg l vs hs (fun i a v ha hv => ih i a v ha hv (Cf hf a (List.mem_of_getElem? ha)))
  | fg l vs hs _ ih => exact .fg l vs hs (fun i a v ha hv => ih i a v ha hv (Cf hf a (List.mem_of_getElem? ha)))
  | vl loc sz es b off cap c hsz hl hcap h _ ih =>
    simp only [AV.fresh, Bool.and_eq_true] at hf
    have hbb := hl hf.1
    refine .vl loc sz es b off cap c hsz (fun e => Nat.le_trans hb' hbb) hcap (fun j a hj => ⟨hK' _ _ (h j a hj).1 hbb, (h j a hj).2⟩) (fun j a hj => ih j a hj ?_)
    obtain ⟨e, he, hc⟩ := List.mem_flatMap.1 (List.mem_of_getElem? hj)
    exact aez (Cf hf.2 e he) a hc
  | jx loc sz => exact .jx loc sz
  | sq loc sz a => exact .sq loc sz a
  | sl o off len sz b base cap hi hc hm hr => cases hf
  | u5 o off sz a => cases hf
  | vg o off sz => cases hf
  | ez a => exact .ez a
  | ptr o off b base hi => cases hf
  | gn l b off c h _ ih => cases hf
  | fn f first captured va vb hs _ hs' _ ih ih' =>
    simp only [AV.fresh, Bool.and_eq_true] at hf
    exact .fn f first captured va vb hs (fun i a v ha hv => ih i a v ha hv (Cf hf.1 a (List.mem_of_getElem? ha))) hs' (fun i a v ha hv => ih' i a v ha hv (Cf hf.2 a (List.mem_of_getElem? ha)))
  | mp o b base hi => cases hf
  | rp t a v _ ih => exact .rp t a v (ih hf)
  | yl o b base hi => cases hf
  | bad v => cases hf
def Gh.more (g : Gh) (w w' : World) : Gh := { g with K := ac1 g.K w w' }
theorem Cc {g h w w'} {lo hi : Nat} (hok : Ok g h w) (q : zh w w') : Step g h w lo hi (g.more w w') h w' ∧ Ok (g.more w w') h w' := by
  have hext : Ext g w (g.more w w') w' := by
    refine ⟨rfl, fun _ _ h => h, fun _ _ h => .inl h, fun b j hj => su (q.heap b (hok.K b j hj)), fun b cs e fr hb => ⟨cs, fr, (q.heap b (bu hb)).trans hb, rfl⟩, fun b l hb => ⟨l, (q.heap b (bu hb)).trans hb⟩⟩
  refine ⟨⟨hext, q.size, q.os, q.tape, q.output, fun b hb _ => q.heap b hb, fun _ h _ => h, fun o b base ho hi => .inr ⟨o, base, ho, hi⟩, fun b j hk => ?_⟩, ⟨Nat.le_trans hok.size q.size, fun o x hx => ?_, hok.sep, fun b j hk => ?_⟩⟩
  · rcases hk with hk | hk
    · exact .inl hk
    · exact .inr (.inl hk.1)
  · refine (hok.l6 o x hx).imp id ?_
    rintro ⟨b, base, h1, h2, h3⟩
    refine ⟨b, base, h1, h2, h3.ext hext (q.heap b h3.lt) (fun j hk => ?_)⟩
    rcases hk with hk | hk
    · exact hk
    · have := h3.lt; omega
  · rcases hk with hk | hk
    · exact Nat.lt_of_lt_of_le (hok.K b j hk) q.size
    · exact hk.2
noncomputable def dm {α : Type} (A : AC α) (F : α → Option AV) (args : List AV) : M AV := fun st =>
  match A.get .nil args with
  | some x => (F x).map fun r => (r, st)
  | none =>
    match A.get st.h args with
    | some x =>
      match F x with
      | some r => bif r.fresh then some (r, st) else none
      | none => none
    | none => none
theorem aq {P : Program} {f : Nat} {α : Type} {A : AC α} {F : α → Option AV} (h : ∀ x r, F x = some r → bk P f (A.E x) r) (args : List AV) : Aw P f args (dm A F args) := by
  intro g st w vs r st' hok hfree hrel hm
  have go : ∀ (X : Value → World → Prop), ag8 P f vs w X → (∀ v w', X v w' → zh w w' ∧ Rel (g.more w w') w' r v) → st' = st →
      (∃ v w' g', (callFunc f vs.toArray).run P w = .ok (.value v) w' ∧ Step g st.h w st.nx st'.nx g' st'.h w' ∧ Ok g' st'.h w' ∧ Rel g' w' r v) ∨
      ((callFunc f vs.toArray).run P w = .ok (.enter f vs.toArray) w ∧ Calls P f vs.toArray w (fun e w' => ∃ v g', e = .returned v ∧ Step g st.h w st.nx st'.nx g' st'.h w' ∧ Ok g' st'.h w' ∧ Rel g' w' r v)) := by
    intro X hx hX e
    subst e
    rcases hx with ⟨v, h1, h2⟩ | ⟨h1, h2⟩
    · obtain ⟨q, hr⟩ := hX v w h2
      have := Cc (lo := st'.nx) (hi := st'.nx) hok q
      exact .inl ⟨v, w, _, h1, this.1, this.2, hr⟩
    · refine .inr ⟨h1, h2.mono ?_⟩
      rintro e w' ⟨v, rfl, h3⟩
      obtain ⟨q, hr⟩ := hX v w' h3
      have := Cc (lo := st'.nx) (hi := st'.nx) hok q
      exact ⟨v, _, rfl, this.1, this.2, hr⟩
  unfold dm at hm
  cases h1 : A.get .nil args with
  | some x =>
    rw [h1] at hm
    simp only [Option.map_eq_some_iff] at hm
    obtain ⟨r', h2, h3⟩ := hm
    cases h3
    have hargs := A.ok (b0 := w.heap.size) (hok.part (hm := .nil) (fun o x hx => by rw [Tr.get_nil] at hx; cases hx)) (rh.nil g g.K (fun _ _ h => h)) hrel h1
    refine go _ (h x r h2 g.K w vs hok.K hargs) (fun v w' hv => ⟨hv.1, hv.2.lift hok.size (fun b j hk => hk)⟩) rfl
  | none =>
    rw [h1] at hm
    simp only at hm
    cases h2 : A.get st.h args with
    | none => rw [h2] at hm; cases hm
    | some x =>
      rw [h2] at hm
      simp only at hm
      cases h3 : F x with
      | none => rw [h3] at hm; cases hm
      | some r' =>
        rw [h3] at hm
        simp only at hm
        cases h4 : r'.fresh with
        | false => rw [h4] at hm; cases hm
        | true =>
          rw [h4] at hm
          cases hm
          have hargs := A.ok (b0 := w.heap.size) (K := fun b _ => b < w.heap.size) hok ⟨fun b j hk => hok.K b j hk, fun o cells k s e ho b base hi j hj => by
            obtain ⟨b', base', h5, _, h6⟩ := hok.obj o _ ho
            rw [hi] at h5; cases h5
            exact h6.lt⟩ hrel h2
          refine go _ (h x r h3 (fun b _ => b < w.heap.size) w vs (fun _ _ h => h) hargs) (fun v w' hv => ⟨hv.1, hv.2.fresh h4 hok.size (fun b j hk hle => ?_)⟩) rfl
          rcases hk with hk | hk
          · omega
          · exact .inr hk
theorem aw.nil (P : Program) : aw P [] := fun f b m h => by cases h
theorem aw.cons {P : Program} {f : Nat} {b : Bool} {m : List AV → M AV} {T : dw} (h : ∀ args, Aw P f args (m args)) (hT : aw P T) : aw P ((f, b, m) :: T) := by
  intro f' b' m' hf args
  simp only [dw.find] at hf
  by_cases e : f = f'
  · subst e
    simp only [Nat.beq_refl, cond_true, Option.some.injEq] at hf
    cases hf
    exact h args
  · rw [ll e, cond_false] at hf
    exact hT f' b' m' hf args
end
end Go.Vm
namespace Go.Vm
noncomputable section
def ai7 (g : Gh) (st : St) (w : World) : ft := { g5 g st.h w st.nx (fun _ => False) with n0 := w.heap.size }
theorem fl.ofC {g st w} (hok : Ok g st.h w) (hfr : ∀ o, st.nx ≤ o → g.inj o = none) : fl (ai7 g st w) g st w :=
  ⟨hok, fun o h1 _ => hfr o h1, ⟨rfl, fun _o _ho => rfl, fun _ _ h => h, fun _ _ _ => rfl, Nat.le_refl _, rfl, rfl, rfl, fun _ _ _ => rfl, fun o _b base ho hi => .inr (.inr ⟨o, base, ho, hi⟩), fun _ _ h => .inl h,
    fun _b cs _e fr h => ⟨cs, fr, h, rfl⟩, fun _b l h => ⟨l, h⟩⟩, Nat.le_refl _⟩
theorem fl.au4 {g st w g' st' w'} (h : fl (ai7 g st w) g' st' w') (hfr : ∀ o, st.nx ≤ o → g.inj o = none) : Step g st.h w st.nx st'.nx g' st'.h w' := by
  have b := h.base
  have pins : ∀ o, o < st.nx → g'.inj o = g.inj o := fun o ho => b.pins o (.inl ho)
  refine ⟨⟨b.b0, fun o p hp => ?_, b.K, b.cell, b.zo, b.lp⟩, b.size, b.os, b.tape, b.output, fun c hc hn => b.frame c hc (fun hO => ?_), fun o ho hr => ?_, fun o c base ho hi => ?_, fun c j hk => ?_⟩
  · by_cases h1 : st.nx ≤ o
    · rw [hfr o h1] at hp; cases hp
    · rw [pins o (by omega)]; exact hp
  · rcases hO with hO | ⟨o, base, h1, h2⟩
    · exact hO
    · exact hn o base h1 h2
  · by_cases h1 : o < st.nx
    · rw [pins o h1]; exact ho
    · exact h.fresh o (by omega) (fun hf => hf)
  · rcases b.own o c base ho hi with h1 | h1 | h1
    · exact .inl h1
    · exact h1.elim
    · exact .inr h1
  · rcases b.n8 c j hk with h1 | h1 | h1 | h1
    · exact .inl h1
    · exact .inr (.inl h1)
    · exact h1.elim
    · exact .inr (.inr h1)
theorem bn {P : Program} {T : dw} (hT : aw P T) (hm : P.follows .mixedOrders = true) {f : Nat} {fn : Func} {body : Code} (hf : P.funcs[f]? = some fn) (hb : fn.body = some body) (he : kq P f = true) (hs : dt fn.ntmps body = true)
    {args : List AV} (hl : Nat.ble args.length fn.ntmps = true) {st : St} (hp : Nat.ble st.nx 1000 = true) {R : AV → St → Prop}
    (h : wl P T st.nx body (du P fn.results.toList R) (cq 0 args) st) : qq P f args st R := by
  intro g w vs hok hfr hrel
  refine .inr ⟨s7 he _ _, xc (ro := none) (n := 0) (callsIn_of_wp_marks hf hb trivial ?_)⟩
  have hcur := fl.ofC (w := w) hok hfr
  refine wpIn_mono (aqg hT hm (N := 0) (B := ai7 g st w) (nt := fn.ntmps) (fun _ h => h) (Nat.le_of_ble_eq_true hp) (Nat.le_refl _) body hs _ _ _ g w _ h hcur (zm hrel (Nat.le_of_ble_eq_true hl)) (Marks.nil _ _ _ _)) ?_
  rintro ex a w' ⟨e, L, st', g', rfl, hq, hc, hr, hd⟩
  have fin : Kh (pw P L st' fn.results.toList) R st' → bodyPostM (fu none) 0 P fn (fun e w' => ∃ v g' r st', e = .returned v ∧ R r st' ∧ st.nx ≤ st'.nx ∧ Step g st.h w st.nx st'.nx g' st'.h w' ∧ Ok g' st'.h w' ∧ Rel g' w' r v) .ret a w' := by
    intro hq
    show LeavesInM (fu none) 0 P fn a.tmps _ a.defers .returning w'
    unfold Kh at hq
    cases hres : pw P L st' fn.results.toList with
    | none => rw [hres] at hq; exact hq.elim
    | some l =>
      rw [hres] at hq
      obtain ⟨bs, e1, e2, e3⟩ := hd
      rw [e1]
      refine E6 (Good := fun u => Ok g' st'.h u ∧ Step g st.h w st.nx st'.nx g' st'.h u ∧ (∀ a v, Rel g' w' a v → Rel g' u a v)) (S := fun b => w.heap.size ≤ b ∧ ff g' st'.h b) ?_ ?_ bs w'
        ⟨hc.ok, hc.au4 hfr, fun _ _ h => h⟩ e2 (fun b hb => ⟨⟨(e3 b hb).1, (e3 b hb).2.2⟩, (e3 b hb).2.1⟩)
      · rintro u b ⟨g1, g2, g3⟩ ⟨hb1, hb2⟩ hb3
        have hput := Ok.E8 (ds' := none) g1 hb3 hb2
        exact ⟨hput.1, Step.Yt (ds' := none) hok g2 hb1, fun a v h => hput.2 a v (g3 a v h)⟩
      · rintro u ⟨g1, g2, g3⟩
        obtain ⟨us, h1, h2⟩ := Uw (P := P) g1 ⟨hr.1, fun t => g3 _ _ (hr.2 t)⟩ fn.results.toList l hres
        obtain ⟨v, h3, h4⟩ := U3 h1 h2
        exact ⟨v, h3, v, g', _, st', rfl, hq, hc.az, g2, g1, h4⟩
  cases e with
  | normal => exact fin hq
  | ret => exact fin hq
  | exit id => exact hq.elim
end
end Go.Vm
namespace Go.Vm
noncomputable section
section code
variable (P : Program) (T : dw) (az : Nat) (Q : QL) (L : SL) (st : St)
theorem ahg : wl P T az .skip Q L st = Q .normal L st := id rfl
theorem Y7 (l) : wl P T az (.label l) Q L st = Q .normal L st := id rfl
theorem Vj (i ops d) : wl P T az (.region i ops d) Q L st = Co P T ops d (Q .normal) L st := id rfl
theorem am7 (a b) : wl P T az (.seq a b) Q L st = wl P T az a (Za (wl P T az b) Q) L st := id rfl
theorem ag4 (c a b) : wl P T az (.cond c a b) Q L st = u9 (cg L c) (wl P T az a Q) (wl P T az b Q) L st := id rfl
theorem aa5 (i b) : wl P T az (.block i b) Q L st = wl P T az b (Pv i Q) L st := id rfl
theorem ahj (b) : wl P T az (.loop b) Q L st = ry az (wl P T az b) Q L st := id rfl
theorem aca (b) : wl P T az (.scope b) Q L st = wl P T az b Q L st := id rfl
theorem aga (i) : wl P T az (.exit i) Q L st = Q (.exit i) L st := id rfl
theorem alr : wl P T az .ret Q L st = Q .ret L st := id rfl
theorem ali (W) : Za W Q .normal L st = W Q L st := id rfl
theorem am3 (W i) : Za W Q (.exit i) L st = Q (.exit i) L st := id rfl
theorem akl (W) : Za W Q .ret L st = Q .ret L st := id rfl
theorem amn (i) : Pv i Q .normal L st = Q .normal L st := id rfl
theorem alp (i) : Pv i Q .ret L st = Q .ret L st := id rfl
theorem an1 (i j) : Pv i Q (.exit j) L st = bif Nat.beq j i then Q .normal L st else Q (.exit j) L st := id rfl
theorem agk (keep X) : w6 az keep X Q .normal L st = X (j6 az keep L st) (gb az keep L st) := id rfl
theorem ahn (keep X i) : w6 az keep X Q (.exit i) L st = Q (.exit i) L st := id rfl
theorem afy (keep X) : w6 az keep X Q .ret L st = Q .ret L st := id rfl
theorem akv (rs R) : du P rs R .normal L st = Kh (pw P L st rs) R st := id rfl
theorem alh (rs R) : du P rs R .ret L st = Kh (pw P L st rs) R st := id rfl
theorem Va (ops K) : Co P T ops false K L st = opsL P T ops ops.toList K L st := id rfl
theorem aax (ops K) : opsL P T ops [] K L st = K L st := id rfl
theorem Wt (ops o r K) : opsL P T ops (o :: r) K L st = xl ops o.guard (abu P T o (opsL P T ops r K)) (Gj o.dst (opsL P T ops r K)) L st := id rfl
theorem Y9 (ops K recs) : Cy P T ops [] K recs L st = (g7 (Region.before ops) 0 recs = true ∧ K L st) := id rfl
theorem Vp (ops o r K recs) : Cy P T ops (o :: r) K recs L st = xl ops o.guard (fj P T o recs (Cy P T ops r K)) (Gj o.dst (Cy P T ops r K (recs ++ [⟨[], []⟩]))) L st := id rfl
theorem S4 (ops X Y) : xl ops none X Y L st = X L st := id rfl
theorem Tg (ops j c X Y) : xl ops (some (j, c)) X Y L st = Dg (lk L (sy ops j)) c X Y L st := id rfl
theorem aan (b : Bool) (X Y : SL → St → Prop) : Dg (.sc (.bool b)) true X Y L st = u9 (.sc (.bool b)) X Y L st := by cases b <;> simp [Dg, zg, A1, Et, u9, p9, AV.bool, AV.exact, n7]
theorem abe (b : Bool) (X Y : SL → St → Prop) : Dg (.sc (.bool b)) false X Y L st = u9 (.sc (.bool b)) Y X L st := by cases b <;> simp [Dg, zg, A1, Et, u9, p9, AV.bool, AV.exact, n7]
theorem Zm (c : Bool) (X Y : SL → St → Prop) : Dg (.sc undef) c X Y L st = Y L st := by simp [Dg, zg, A1, Et, AV.exact, undef]
theorem agh (o K) : abu P T o K L st = Ji (fi P T o (cg L) st) P o L st K := id rfl
theorem adh (v o K st') : Ji (some (v, st')) P o L st K = K (gp o.dst v L) st' := id rfl
theorem Zy (K d r) : gk K d L r st = K (gp d r L) st := id rfl
theorem abm (ro F o recs K v bc) : Dq ro F o recs K L st (some (v, bc)) = ((D1 st.nx F = true ∧ Nat.ble bc.nx bw = true) ∧ same (jw st.h F) bc.h (bif ro then F else []) ∧
    K (recs ++ [⟨F, (bif ro then [] else F) ++ di st.nx (bc.nx - st.nx)⟩]) (gp o.dst v L) { h := oq bc.h (F ++ di st.nx (bc.nx - st.nx)) st.h, nx := bc.nx, rl := [], wl := [] }) := id rfl
theorem Wy (d K) : Gj d K L st = K (gp d (.sc undef) L) st := id rfl
theorem cp (b X Y) : u9 (.sc (.bool b)) X Y L st = ((b = true → X L st) ∧ (b = false → Y L st)) := id rfl
theorem Gk (X Y) : u9 (.sc (.bool true)) X Y L st = X L st := by simp [u9, p9, AV.bool, AV.exact, n7]
theorem Ge (X Y) : u9 (.sc (.bool false)) X Y L st = Y L st := by simp [u9, p9, AV.bool, AV.exact, n7]
theorem Xe (v d K) : Fv (some (v, st)) d L K = K (gp d v L) st := id rfl
theorem Vt (d v) : gp (some d) v L = (d, v) :: L := id rfl
theorem Vc (v) : gp none v L = L := id rfl
theorem amv (l R) : Kh (some l) R st = R (pack l) st := id rfl
theorem anj (d v) : lk ((d, v) :: L) d = v := by simp [lk]
theorem ag2 (d t v) (h : (d == t) = false) : lk ((d, v) :: L) t = lk L t := by
  have e : d ≠ t := by simpa using h
  rw [mn, if_neg e]
theorem aqx (t) : cg L (.tmp t) = lk L t := id rfl
theorem aqy (v) : cg L (.const v) = .sc v := id rfl
theorem aq2 (f) : cg L (.func f) = .sc (.func (.func f) #[] #[]) := id rfl
theorem anr : pw P L st [] = some [] := id rfl
theorem ale (t r) : pw P L st (.tmp t :: r) = (pw P L st r).map (lk L t :: ·) := id rfl
theorem amy (a t r) : pw P L st (.cell a t :: r) = match ja P t (lk L a) st with | some (v, _) => (pw P L st r).map (v :: ·) | none => none := id rfl
end code
section ops
variable (P : Program) (T : dw) (ρ : Operand → AV) (d : Option Tmp) (ty : TypeId) (pos : String) (af : Array Edge) (gd : Option (Nat × Bool))
theorem Ha (x) : fi P T ⟨d, .move x, ty, pos, af, gd⟩ ρ = mono (M.pure (ρ x)) := id rfl
theorem C4 (x) : fi P T ⟨d, .assign x, ty, pos, af, gd⟩ ρ = mono (M.pure (ρ x)) := id rfl
theorem Hp (t a) : fi P T ⟨d, .load t a, ty, pos, af, gd⟩ ρ = mono (ja P t (ρ a)) := id rfl
theorem zk (s x f) : fi P T ⟨d, .fieldAddr s x f, ty, pos, af, gd⟩ ρ = mono (j9 P s (ρ x) f) := id rfl
theorem Nc (op t x y u) : fi P T ⟨d, .binOp op t x y u, ty, pos, af, gd⟩ ρ = mono (w9 P ρ ⟨d, .binOp op t x y u, ty, pos, af, gd⟩ op t x y) := id rfl
theorem Hi (c a b) : fi P T ⟨d, .pick c a b, ty, pos, af, gd⟩ ρ = mono (uc (ρ c) (ρ a) (ρ b)) := id rfl
theorem Fq (t a x) : fi P T ⟨d, .store t a x, ty, pos, af, gd⟩ ρ = mono (oh P t (ρ a) (ρ x)) := id rfl
theorem Br (t i) : fi P T ⟨d, .extract t i, ty, pos, af, gd⟩ ρ = mono (mo (ρ t) i) := id rfl
theorem yh (t x i) : fi P T ⟨d, .indexAddr t x i, ty, pos, af, gd⟩ ρ = mono (j8 P t (ρ x) (ρ i)) := id rfl
theorem zw (x) : fi P T ⟨d, .nilCheck x, ty, pos, af, gd⟩ ρ = mono (jr (ρ x)) := id rfl
theorem Mv (t) : fi P T ⟨d, .alloc t, ty, pos, af, gd⟩ ρ = mono (qk P t) := id rfl
theorem Xh (t x) : fi P T ⟨d, .box t x, ty, pos, af, gd⟩ ρ = mono (xa t (ρ x)) := id rfl
theorem Fb (t ps) : fi P T ⟨d, .build t ps, ty, pos, af, gd⟩ ρ = mono (pq P t (ps.toList.map fun p => (p.1, ρ p.2))) := id rfl
theorem xj (t n ps) : fi P T ⟨d, .buildSlice t n ps, ty, pos, af, gd⟩ ρ = mono (jc P t n (ps.toList.map fun p => (p.1, ρ p.2))) := id rfl
theorem Gm (f a b) : fi P T ⟨d, .makeFunc f a b, ty, pos, af, gd⟩ ρ = mono (M.pure (.fn f (a.toList.map ρ) (b.toList.map ρ))) := id rfl
theorem Iz (s u x) : fi P T ⟨d, .convert s u x, ty, pos, af, gd⟩ ρ = mono (oa P ρ ⟨d, .convert s u x, ty, pos, af, gd⟩ s u (ρ x)) := id rfl
theorem Nl (s x f) : fi P T ⟨d, .field s x f, ty, pos, af, gd⟩ ρ = mono (se P s (ρ x) f) := id rfl
theorem Nx (t x i) : fi P T ⟨d, .index t x i, ty, pos, af, gd⟩ ρ = mono (sa P ρ ⟨d, .index t x i, ty, pos, af, gd⟩ t x i) := id rfl
theorem N0 (t x l h m) : fi P T ⟨d, .slice t x l h m, ty, pos, af, gd⟩ ρ = mono (qi P ρ ⟨d, .slice t x l h m, ty, pos, af, gd⟩ t x l h m) := id rfl
theorem Jg (x ts) : fi P T ⟨d, .call { callee := .builtin .len, args := #[x], argTypes := ts }, ty, pos, af, gd⟩ ρ = mono (qo ((ts[0]?).bind P.underlying) (ρ x)) := id rfl
theorem Dt (s x ts) : fi P T ⟨d, .call { callee := .builtin .append, args := #[s, x], argTypes := ts }, ty, pos, af, gd⟩ ρ = mono (mh P ts[0]? ((ts[1]?).bind P.underlying) (ρ s) (ρ x)) := id rfl
theorem Q6 (f args ts) : fi P T ⟨d, .call { callee := .value f, args, argTypes := ts }, ty, pos, af, gd⟩ ρ = tn T (ρ f) (args.toList.map ρ) := id rfl
end ops
section monad
variable {α β : Type} (s : St)
theorem aqi (m : M α) : mono m s = match m s with | none => none | some (a, s') => bif decide (s.nx ≤ s'.nx) then some (a, s') else none := by
  have : ∀ a b, Nat.ble a b = decide (a ≤ b) := fun a b => by rw [Bool.eq_iff_iff]; simp
  unfold mono
  cases m s with
  | none => rfl
  | some p => simp only [this]
theorem aq7 (m : M α) (f : α → M β) : (m.bind f) s = match m s with | none => none | some (a, s') => f a s' := id rfl
theorem aq5 (a : α) : (M.pure a) s = some (a, s) := id rfl
theorem ara : (M.fail : M α) s = none := id rfl
theorem aqj (a : α) : (M.of (some a)) s = some (a, s) := id rfl
theorem aqs (b : Bool) (m m' : M α) : (bif b then m else m') s = bif b then m s else m' s := by cases b <;> rfl
theorem aq0 (o : Nat) : cj o s = match s.h.get o with | some x => some (x, { s with rl := o :: s.rl }) | none => none := id rfl
theorem aqp (x : ba) : g9 x s = bif decide (s.nx ≤ bw) then some (s.nx, { s with h := s.h.set depth s.nx (some x), nx := s.nx + 1, wl := s.nx :: s.wl }) else none := by
  have : Nat.ble s.nx bw = decide (s.nx ≤ bw) := by rw [Bool.eq_iff_iff]; simp
  unfold g9; rw [this]
theorem aqn (o : Nat) (x : ba) : ir o x s = match s.h.get o with | some _ => bif decide (o ≤ bw) then some ((), { s with h := s.h.set depth o (some x), wl := o :: s.wl }) else none | none => none := by
  have : Nat.ble o bw = decide (o ≤ bw) := by rw [Bool.eq_iff_iff]; simp
  unfold ir; rw [this]; rfl
theorem aqe (o : Nat) : uz o s = match s.h.get o with | some _ => bif decide (o ≤ bw) then some ((), { s with h := s.h.set depth o none, wl := o :: s.wl }) else none | none => none := by
  have : Nat.ble o bw = decide (o ≤ bw) := by rw [Bool.eq_iff_iff]; simp
  unfold uz; rw [this]; rfl
theorem aas (t : Tr ba) (n m : Nat) (x : Option ba) (h : n ≤ 16777214) : (Tr.set depth t n x).get m = if m = n then x else t.get m := en t n m x h
theorem Yu (n : Nat) : (Tr.nil : Tr ba).get n = none := id rfl
theorem aum (a b : Nat) : Nat.ble a b = decide (a ≤ b) := by rw [Bool.eq_iff_iff]; simp
theorem atz (a b : Nat) : Nat.blt a b = decide (a < b) := by rw [Bool.eq_iff_iff]; simp
theorem ah7 (a b : Nat) : Nat.beq a b = decide (a = b) := by rw [Bool.eq_iff_iff]; simp
end monad
theorem N1 {a : AV} {x y x' y' : Prop} (h1 : x → x') (h2 : y → y') (h : p9 a x y) : p9 a x' y' := by
  unfold p9 at *
  split at h
  · exact ⟨fun e => h1 (h.1 e), fun e => h2 (h.2 e)⟩
  · exact h.elim
theorem yg {ops L gd} {x y x' y' : Prop} (h1 : x → x') (h2 : y → y') (h : guarded ops L gd x y) : guarded ops L gd x' y' := by
  unfold guarded at *
  split at h
  · exact h1 h
  · unfold zg at *
    split at h
    · exact ⟨fun e => h1 (h.1 e), fun e => h2 (h.2 e)⟩
    · exact h.elim
theorem qq.mono {P f args st} {R R' : AV → St → Prop} (h : ∀ r st, R r st → R' r st) (hc : qq P f args st R) : qq P f args st R' := by
  intro g w vs h1 h2 h3
  rcases hc g w vs h1 h2 h3 with ⟨v, w', g', r, st', q1, q2, q3⟩ | ⟨q1, q2⟩
  · exact .inl ⟨v, w', g', r, st', q1, h _ _ q2, q3⟩
  · refine .inr ⟨q1, q2.mono ?_⟩
    rintro e w' ⟨v, g', r, st', p1, p2, p3⟩
    exact ⟨v, g', r, st', p1, h _ _ p2, p3⟩
theorem ajw {P o L st} {K K' : SL → St → Prop} (h : ∀ L st, K L st → K' L st) (hc : Mk P o L st K) : Mk P o L st K' := by
  unfold Mk ajl at *
  split at hc
  · split at hc
    · exact qq.mono (fun r st hk => h _ _ hk) hc
    · exact hc.elim
  · exact hc.elim
theorem Eu {P T ops} {K K' : SL → St → Prop} (h : ∀ L st, K L st → K' L st) : ∀ (l : List Oper) (L : SL) (st : St), opsL P T ops l K L st → opsL P T ops l K' L st
  | [], L, st, hh => h L st hh
  | o :: r, L, st, hh => yg (fun q => by
      unfold abu Ji at *
      split at q
      · exact Eu h r _ _ q
      · exact ajw (fun L st => Eu h r L st) q) (fun q => Eu h r _ _ q) hh
theorem D8 {P T ops} {K K' : SL → St → Prop} (h : ∀ L st, K L st → K' L st) : ∀ (l : List Oper) (recs : List Rec) (L : SL) (st : St), Cy P T ops l K recs L st → Cy P T ops l K' recs L st
  | [], recs, L, st, hh => ⟨hh.1, h L st hh.2⟩
  | o :: r, recs, L, st, hh => yg (fun q => by
      unfold fj j5 Dq at *
      split at q
      · exact ⟨q.1, q.2.1, D8 h r _ _ _ q.2.2⟩
      · exact q.elim) (fun q => D8 h r _ _ _ q) hh
theorem Ey {P T ops} {K K' : SL → St → Prop} (h : ∀ L st, K L st → K' L st) : ∀ (l : List Oper) (recs : List Rec) (L : SL) (st : St), I7 P T ops l K recs L st → I7 P T ops l K' recs L st
  | [], recs, L, st, hh => ⟨hh.1, h L st hh.2⟩
  | o :: r, recs, L, st, hh => yg (fun q => Ri (fun _ _ _ k => Ey h r _ _ _ k) q) (fun q => Ey h r _ _ _ q) hh
theorem yc {P T l az ops} {R : Gc} (hR : ∀ p args (X X' : Ex → St → Prop) st, (∀ e st, X e st → X' e st) → R p args X st → R p args X' st) {K K' : Option Ex → SL → St → Prop} (h : ∀ pe L st, K pe L st → K' pe L st) :
    ∀ (ls : List Oper) (pe : Option Ex) (L : SL) (st : St), Cz P T l R az ops ls K pe L st → Cz P T l R az ops ls K' pe L st
  | [], pe, L, st, hh => h pe L st hh
  | o :: r, pe, L, st, hh => yg (fun q => by
      unfold opI T3 at *
      split at q
      · unfold Fv at *
        split at q
        · exact yc hR h r _ _ _ q
        · exact q.elim
      · obtain ⟨h0, keep, q⟩ := q
        refine ⟨h0, keep, hR _ _ _ _ _ (fun e st q => ?_) q⟩
        cases e with
        | normal => exact yc hR h r _ _ _ q
        | ret => exact yc hR h r _ _ _ q
        | exit id => exact yc hR h r _ _ _ q) (fun q => yc hR h r _ _ _ q) hh
theorem Py {P : Program} {T : dw} {l az : Nat} {R : Gc} (hR : ∀ p args (X X' : Ex → St → Prop) st, (∀ e st, X e st → X' e st) → R p args X st → R p args X' st) :
    ∀ (c : Code) (Q Q' : QI), (∀ e pe L st, Q e pe L st → Q' e pe L st) → ∀ pe L st, ou P T l R az c Q pe L st → ou P T l R az c Q' pe L st := by
  intro c
  induction c with
  | skip => intro Q Q' h pe L st hh; exact h _ _ _ _ hh
  | label l => intro Q Q' h pe L st hh; exact h _ _ _ _ hh
  | exit i => intro Q Q' h pe L st hh; exact h _ _ _ _ hh
  | ret => intro Q Q' h pe L st hh; exact h _ _ _ _ hh
  | region i ops draw =>
    intro Q Q' h pe L st hh
    cases draw with
    | false => exact yc hR (h _) _ _ _ _ hh
    | true => exact ⟨hh.1, hh.2.imp (D8 (h _ _) _ _ _ _) (Ey (h _ _) _ _ _ _)⟩
  | seq a b iha ihb =>
    intro Q Q' h pe L st hh
    refine iha _ _ ?_ pe L st hh
    intro e pe L st q
    cases e with
    | normal => exact ihb _ _ h pe L st q
    | _ => exact h _ _ _ _ q
  | cond c a b iha ihb => intro Q Q' h pe L st hh; exact N1 (iha _ _ h pe L st) (ihb _ _ h pe L st) hh
  | block i b ih =>
    intro Q Q' h pe L st hh
    refine ih _ _ ?_ pe L st hh
    intro e pe L st q
    cases e with
    | exit j =>
      simp only [Pa] at *
      cases hb : Nat.beq j i with
      | true => rw [hb] at q; exact h _ _ _ _ q
      | false => rw [hb] at q; exact h _ _ _ _ q
    | _ => exact h _ _ _ _ q
  | loop b ih =>
    intro Q Q' h pe L st hh
    obtain ⟨h0, keep, hh⟩ := hh
    refine ⟨h0, keep, fun X hX => hh X fun vs os q => hX vs os (ih _ _ ?_ _ _ _ q)⟩
    intro e pe L st q
    cases e with
    | normal => exact q
    | _ => exact h _ _ _ _ q
  | scope b ih => intro _ _ _ _ _ _ hh; exact hh.elim
  | rangeFunc => intro _ _ _ _ _ _ hh; exact hh.elim
  | goto => intro _ _ _ _ _ _ hh; exact hh.elim
  | refuse => intro _ _ _ _ _ _ hh; exact hh.elim
theorem apv {P : Program} {T : dw} : ∀ (c : Code) (az : Nat) (Q Q' : QL), (∀ e L st, Q e L st → Q' e L st) → ∀ L st, wl P T az c Q L st → wl P T az c Q' L st := by
  intro c
  induction c with
  | skip => intro az Q Q' h L st hh; exact h _ _ _ hh
  | label l => intro az Q Q' h L st hh; exact h _ _ _ hh
  | exit i => intro az Q Q' h L st hh; exact h _ _ _ hh
  | ret => intro az Q Q' h L st hh; exact h _ _ _ hh
  | region i ops draw =>
    intro az Q Q' h L st hh
    cases draw with
    | false => exact Eu (h _) _ _ _ hh
    | true => exact ⟨hh.1, hh.2.imp (D8 (h _) _ _ _ _) (Ey (h _) _ _ _ _)⟩
  | seq a b iha ihb =>
    intro az Q Q' h L st hh
    refine iha _ _ _ ?_ L st hh
    intro e L st q
    cases e with
    | normal => exact ihb _ _ _ h L st q
    | _ => exact h _ _ _ q
  | cond c a b iha ihb => intro az Q Q' h L st hh; exact N1 (iha _ _ _ h L st) (ihb _ _ _ h L st) hh
  | block i b ih =>
    intro az Q Q' h L st hh
    refine ih _ _ _ ?_ L st hh
    intro e L st q
    cases e with
    | exit j =>
      simp only [Pv] at *
      cases hb : Nat.beq j i with
      | true => rw [hb] at q; exact h _ _ _ q
      | false => rw [hb] at q; exact h _ _ _ q
    | _ => exact h _ _ _ q
  | loop b ih =>
    intro az Q Q' h L st hh
    obtain ⟨keep, hh⟩ := hh
    refine ⟨keep, fun X hX => hh X fun vs os q => hX vs os (ih _ _ _ ?_ _ _ q)⟩
    intro e L st q
    cases e with
    | normal => exact q
    | _ => exact h _ _ _ q
  | scope b ih => intro az Q Q' h L st hh; exact ih _ _ _ h L st hh
  | rangeFunc f ps a b iha ihb =>
    intro az Q Q' h L st hh
    obtain ⟨keep, h0, hh⟩ := hh
    refine ⟨keep, h0, ?_⟩
    unfold I4 at *
    split at hh
    · unfold J5 at *
      split at hh
      · refine ⟨hh.1, fun l => Py (fun p args X X' st hX hr => ⟨hr.1, hr.2.1, iha _ _ _ (fun e L st q => (by
          cases e with
          | normal => exact ihb _ _ _ (fun e _ st q => hX e st q) _ _ q
          | _ => exact q.elim)) _ _ hr.2.2⟩) _ _ _ (fun e pe L st q => (by
          cases e with
          | exit id => exact q.elim
          | normal =>
            cases pe with
            | none => exact h _ _ _ q
            | some e => exact h _ _ _ q
          | ret =>
            cases pe with
            | none => exact h _ _ _ q
            | some e => exact h _ _ _ q)) _ _ _ (hh.2 l)⟩
      · exact hh.elim
    · exact hh.elim
  | goto => intro _ _ _ _ _ _ hh; exact hh.elim
  | refuse => intro _ _ _ _ _ _ hh; exact hh.elim
theorem Gu {P : Program} {T : dw} {az : Nat} (c : Code) (Q Q' : QL) (h : ∀ e L st, Q e L st → Q' e L st) (L : SL) (st : St) (hh : wl P T az c Q L st) : wl P T az c Q' L st := apv c az Q Q' h L st hh
theorem dy {α : Type} {P : Program} {T : dw} {az : Nat} {b : Code} {Q : QL} {L : SL} {st : St} (keep : List Nat) (V : α → List AV) (O : α → List (Option ba)) (I : α → Prop) (μ : α → Nat) (x : α) (hx : I x)
    (hv : j6 az keep L st = V x) (ho : gb az keep L st = O x)
    (step : ∀ x, I x → wl P T az b (w6 az keep (fun vs os => ∃ y, I y ∧ μ y < μ x ∧ vs = V y ∧ os = O y) Q) (ma keep (V x)) (bm (O x))) : ry az (wl P T az b) Q L st :=
  ry.of keep V O I μ x hx hv ho (fun _ _ h => Gu b _ _ h) step
section cods
theorem tj {α : Type} (C : da α) (l : Bool) (xs : List α) : (ct C).val l xs = .vl l C.sz (xs.map (C.val l)) := id rfl
theorem uu {α : Type} (C : da α) : (ct C).sz = 1 := id rfl
theorem Wf : ak.sz = 1 := id rfl
theorem Zv : bz.sz = 1 := id rfl
theorem ve : cz.sz = 1 := id rfl
theorem qy : dh.sz = 1 := id rfl
theorem qv (k : IntKind) : (bg k).sz = 1 := id rfl
theorem s8 : bo.sz = 1 := id rfl
theorem Ed (l : Bool) (x : UInt8) : bz.val l x = .sc (.int .u8 x.toNat) := id rfl
theorem Sr (l : Bool) (x : UInt16) : cz.val l x = .sc (.int .u16 x.toNat) := id rfl
theorem Rq (l : Bool) (x : UInt32) : dh.val l x = .sc (.int .u32 x.toNat) := id rfl
theorem Ro (k : IntKind) (l : Bool) (x : Int) : (bg k).val l x = .sc (.int k x) := id rfl
theorem N3 (l : Bool) (x : Bool) : bo.val l x = .sc (.bool x) := id rfl
theorem afz (o i : Nat) : idx [] o i = none := id rfl
theorem adi {α : Type} (C : da α) (τ : Nat → Option Nat) (l : Bool) : AV.c9 τ ∘ C.val l = C.val l := by funext x; exact F3 C τ l x
theorem Sq (l : Bool) (x : ByteArray) : ak.val l x = .sc (.string x) := id rfl
theorem rn {α : Type} (C : da α) (fr : Bool) (h : Tr ba) (a : AV) (h1 : a.known = true) (h2 : a.isAgg = C.agg) : C.ew fr h a = C.dec fr h a.cells := by
  unfold da.ew; rw [h1, h2]; simp
theorem Vx (fr : Bool) (h : Tr ba) (n : UInt32) : dh.ew fr h (.sc (.int .u32 n.toNat)) = some n := dh.Ja fr h true n (fun _ => rfl)
theorem vt (fr : Bool) (h : Tr ba) (n : UInt16) : cz.ew fr h (.sc (.int .u16 n.toNat)) = some n := cz.Ja fr h true n (fun _ => rfl)
theorem Sp (k : IntKind) (fr : Bool) (h : Tr ba) (n : Int) : (bg k).ew fr h (.sc (.int k n)) = some n := (bg k).Ja fr h true n (fun _ => rfl)
theorem Nz (fr : Bool) (h : Tr ba) (b : Bool) : bo.ew fr h (.sc (.bool b)) = some b := bo.Ja fr h true b (fun _ => rfl)
theorem Qg (fr : Bool) (h : Tr ba) (s : ByteArray) : ak.ew fr h (.sc (.string s)) = some s := ak.Ja fr h true s (fun _ => rfl)
theorem Ad {α : Type} (C : da α) (fr : Bool) (h : Tr ba) (a : AV) (h1 : a.known = true) (h2 : a.isAgg = false) (h3 : a.cells = [a]) : (ct C).ew fr h a = ek C fr h a := by
  rw [rn _ _ _ _ h1 h2, h3]; rfl
theorem arf {α : Type} (C : da α) (fr : Bool) (h : Tr ba) (l : Bool) (xs : List α) (hl : (l || !fr) = true) : (ct C).ew fr h (.vl l C.sz (xs.map (C.val l))) = some xs := by
  refine (ct C).Ja fr h l xs ?_
  cases fr <;> simp_all
theorem Zx {α : Type} (C : da α) (fr : Bool) (h : Tr ba) : ek C fr h (.sc (.slice none 0 0)) = some [] := id rfl
theorem um {α : Type} (C : da α) (fr : Bool) (h : Tr ba) (l : Bool) (xs : List α) (n : Nat) (hn : n = C.sz) (hl : (l || !fr) = true) : ek C fr h (.vl l n (xs.map (C.val l))) = some xs := by
  subst hn
  have : (ct C).ew fr h (.vl l C.sz (xs.map (C.val l))) = some xs := arf C fr h l xs hl
  rwa [Ad C fr h _ rfl rfl rfl] at this
theorem afu {α : Type} (C : da α) (fr : Bool) (h : Tr ba) (o off len n : Nat) : ek C fr h (.sl o off len n) = bif decide (n = C.sz) then (h.get o).bind (lj C fr h off len) else none := by
  show (bif Nat.beq n C.sz then _ else _) = _
  rw [ah7]
theorem awx {α : Type} (C : da α) (fr : Bool) (h : Tr ba) (n : Nat) (l : List AV) : zl C fr h (n + 1) l = match C.dec fr h (l.take C.sz), zl C fr h n (l.drop C.sz) with | some x, some xs => some (x :: xs) | _, _ => none := id rfl
theorem Ts (fr : Bool) (h : Tr ba) (n : Int) (h0 : 0 ≤ n) (h1 : n < 256) : bz.dec fr h [.sc (.int .u8 n)] = some (UInt8.ofNat n.toNat) := by
  show u8V (.int .u8 n) = _; simp [u8V, h0, h1]
theorem ato {α β : Type} (A : da α) (B : da β) (l : Bool) (p : α × β) : (r2 A B).E l p = .fg [A.val l p.1, B.val l p.2] := id rfl
theorem aui {α : Type} (A : da α) (l : Bool) (x : α) : (r1 A).E l x = A.val l x := id rfl
theorem aae (T : dw) (g : Nat) (a b : Array Value) (args : List AV) : tn T (.sc (.func (.func g) a b)) args = ru T g (a.toList.map .sc ++ args ++ b.toList.map .sc) := id rfl
theorem aa8 (T : dw) (g : Nat) (a b : List AV) (args : List AV) : tn T (.fn (.func g) a b) args = ru T g (a ++ args ++ b) := id rfl
theorem W8 (f : Nat) (b : Bool) (m : List AV → M AV) (T : dw) (args : List AV) : ru ((f, b, m) :: T) f args = mono (m args) := by simp [ru, dw.find]
theorem Rf (f g : Nat) (b : Bool) (m : List AV → M AV) (T : dw) (args : List AV) (h : (f == g) = false) : ru ((f, b, m) :: T) g args = ru T g args := by
  have : f ≠ g := by simpa using h
  simp [ru, dw.find, ll this]
theorem aa1 {α : Type} (A : AC α) (F : α → Option AV) (args : List AV) (st : St) : dm A F args st = match A.get .nil args with | some x => (F x).map fun r => (r, st) | none => match A.get st.h args with | some x => (match F x with | some r => bif r.fresh then some (r, st) else none | none => none) | none => none := id rfl
theorem aua {α β : Type} (A : da α) (B : da β) (fr : Bool) (h : Tr ba) (a b : AV) : (r2 A B).get fr h (.fg [a, b]) = match A.ew fr h a, B.ew fr h b with | some x, some y => some (x, y) | _, _ => none := id rfl
theorem ati (h : Tr ba) : a0.get h [] = some () := id rfl
theorem aul {α β : Type} (C : da α) (R : AC β) (h : Tr ba) (a : AV) (r : List AV) : (aC C R).get h (a :: r) = match C.ew false h a, R.get h r with | some x, some y => some (x, y) | _, _ => none := id rfl
theorem aug {α : Type} (A : da α) (fr : Bool) (h : Tr ba) (a : AV) : (r1 A).get fr h a = A.ew fr h a := id rfl
end cods
section
variable (P : Program)
theorem Vn (pl : Nat → Option (Nat × Nat)) (cells : List AV) : vd pl cells [] = some cells := id rfl
theorem Td (pl : Nat → Option (Nat × Nat)) (cells : List AV) (i : Nat) (v : AV) (rest : List (Nat × AV)) : vd pl cells ((i, v) :: rest) = match pl i with
    | none => none
    | some (off, size) => bif !v.known || !(Nat.beq v.cells.length size) || !(Nat.ble (off + size) cells.length) then none else vd pl (cells.take off ++ v.cells ++ cells.drop (off + size)) rest := id rfl
def vu (t : TypeId) : Option (List AV × List (Nat × Nat)) :=
  match ey P t, P.underlying t with
  | some z, some (.struct fields) => (Gt P fields).map fun pl => (z.cells.toList.map .sc, pl)
  | _, _ => none
theorem Qp (t : TypeId) (ps : List (Nat × AV)) : pq P t ps = match vu P t with
    | some (z, pl) => .of ((vd (fun i => pl[i]?) z ps).map .agg)
    | none => pq P t ps := by
  cases hb : vu P t with
  | none => rfl
  | some q =>
    obtain ⟨z, pl⟩ := q
    simp only [vu] at hb
    split at hb
    · rename_i z' fs hz hu
      cases hp : Gt P fs with
      | none => simp [hp] at hb
      | some pl' =>
        simp [hp] at hb
        obtain ⟨rfl, rfl⟩ := hb
        simp [pq, hz, hu, hp]
    · cases hb
def Bt (t : TypeId) : Option (TypeId × Nat × List AV) :=
  match od P t with
  | none => none
  | some e =>
    match de P e, ey P e with
    | some sz, some z => bif Nat.beq z.cells.size sz then some (e, sz, z.cells.toList.map .sc) else none
    | _, _ => none
theorem Eh (t : TypeId) (len : Nat) (ps : List (Nat × AV)) : jc P t len ps = match Bt P t with
    | some (e, sz, z) =>
      match vd (fun i => some (i * sz, sz)) (List.replicate len z).flatten ps with
      | some cells => bif Nat.ble (len * sz) 16777216 && Nat.ble len 16777216 then ke e sz len cells else .fail
      | none => .fail
    | none => jc P t len ps := by
  cases hb : Bt P t with
  | none => rfl
  | some q =>
    obtain ⟨e, sz, z⟩ := q
    simp only [Bt] at hb
    split at hb
    · cases hb
    · rename_i e' he
      split at hb
      · rename_i sz' z' hs hz
        cases hq : Nat.beq z'.cells.size sz' with
        | false => simp [hq] at hb
        | true =>
          simp [hq] at hb
          obtain ⟨rfl, rfl, rfl⟩ := hb
          simp only [jc, he, hs, hz, hq, Bool.and_true]
          rfl
      · cases hb
end
section ranges
variable (P : Program) (T : dw) (l az : Nat) (R : Gc) (Q : QI) (pe : Option Ex) (L : SL) (st : St)
theorem abf (f : Operand) (ps : Array Tmp) (a b : Code) (Q : QL) : wl P T az (.rangeFunc f ps a b) Q L st = akt P T f ps.toList (fun p => wl P T p a) (fun p => wl P T p b) az Q L st := id rfl
theorem ac6 : ou P T l R az .skip Q pe L st = Q .normal pe L st := id rfl
theorem Sf (i : Nat) (ops : Array Oper) : ou P T l R az (.region i ops false) Q pe L st = Cz P T l R az ops ops.toList (Q .normal) pe L st := id rfl
theorem agv (a b : Code) : ou P T l R az (.seq a b) Q pe L st = ou P T l R az a (aa4 (ou P T l R az b) Q) pe L st := id rfl
theorem ac0 (c : Operand) (a b : Code) : ou P T l R az (.cond c a b) Q pe L st = Av (cg L c) (ou P T l R az a Q) (ou P T l R az b Q) pe L st := id rfl
theorem Wb (i : Nat) (a : Code) : ou P T l R az (.block i a) Q pe L st = ou P T l R az a (Pa i Q) pe L st := id rfl
theorem Zj (i : Nat) : ou P T l R az (.exit i) Q pe L st = Q (.exit i) pe L st := id rfl
theorem af4 : ou P T l R az .ret Q pe L st = Q .ret pe L st := id rfl
theorem amc (W : QI → Option Ex → SL → St → Prop) : aa4 W Q .normal pe L st = W Q pe L st := id rfl
theorem al9 (W : QI → Option Ex → SL → St → Prop) (i : Nat) : aa4 W Q (.exit i) pe L st = Q (.exit i) pe L st := id rfl
theorem amo (W : QI → Option Ex → SL → St → Prop) : aa4 W Q .ret pe L st = Q .ret pe L st := id rfl
theorem anh (i : Nat) : Pa i Q .normal pe L st = Q .normal pe L st := id rfl
theorem al5 (i : Nat) : Pa i Q .ret pe L st = Q .ret pe L st := id rfl
theorem alq (i j : Nat) : Pa i Q (.exit j) pe L st = if j = i then Q .normal pe L st else Q (.exit j) pe L st := by
  show (bif Nat.beq j i then _ else _) = _
  rw [ah7]; by_cases h : j = i <;> simp [h]
theorem af0 (Q' : QL) : yk Q' Q .normal pe L st = (pe = none ∧ Q' .normal L st) := id rfl
theorem ahh (Q' : QL) (i : Nat) : yk Q' Q (.exit i) pe L st = Q (.exit i) pe L st := id rfl
theorem ahc (Q' : QL) : yk Q' Q .ret pe L st = Q .ret pe L st := id rfl
theorem afo (Q : QL) (L0 : SL) : adm Q L0 .normal none L st = Q .normal L0 st := id rfl
theorem ahb (Q : QL) (L0 : SL) (e : Ex) : adm Q L0 .ret (some e) L st = Q e L0 st := id rfl
theorem Zi (ops : Array Oper) (K : Option Ex → SL → St → Prop) : Cz P T l R az ops [] K pe L st = K pe L st := id rfl
theorem Wx (ops : Array Oper) (o : Oper) (r : List Oper) (K : Option Ex → SL → St → Prop) : Cz P T l R az ops (o :: r) K pe L st = Hb ops o.guard (opI P T l R az o (Cz P T l R az ops r K)) (Uf o.dst (Cz P T l R az ops r K)) pe L st := id rfl
theorem P4 (ops : Array Oper) (X Y : Option Ex → SL → St → Prop) : Hb ops none X Y pe L st = X pe L st := id rfl
theorem S2 (ops : Array Oper) (j : Nat) (c : Bool) (X Y : Option Ex → SL → St → Prop) : Hb ops (some (j, c)) X Y pe L st = Z5 (lk L (sy ops j)) c X Y pe L st := id rfl
theorem abk (b : Bool) (X Y : Option Ex → SL → St → Prop) : Z5 (.sc (.bool b)) true X Y pe L st = Av (.sc (.bool b)) X Y pe L st := by cases b <;> simp [Z5, zg, A1, Et, Av, p9, AV.bool, AV.exact, n7]
theorem afv (X Y : Option Ex → SL → St → Prop) : Av (.sc (.bool true)) X Y pe L st = X pe L st := by simp [Av, p9, AV.bool, AV.exact, n7]
theorem agw (X Y : Option Ex → SL → St → Prop) : Av (.sc (.bool false)) X Y pe L st = Y pe L st := by simp [Av, p9, AV.bool, AV.exact, n7]
theorem wh (b : Bool) (X Y : Option Ex → SL → St → Prop) : Av (.sc (.bool b)) X Y pe L st = ((b = true → X pe L st) ∧ (b = false → Y pe L st)) := by simp [Av, p9, AV.bool, AV.exact, n7]
theorem Sz (d : Option Tmp) (K : Option Ex → SL → St → Prop) : Uf d K pe L st = K pe (gp d (.sc undef) L) st := id rfl
theorem alc (o : Oper) (K : Option Ex → SL → St → Prop) : opI P T l R az o K pe L st = T3 P T R az o K pe L st (yieldOf l o L) := id rfl
theorem akf (o : Oper) (K : Option Ex → SL → St → Prop) : T3 P T R az o K pe L st none = Fv (fi P T o (cg L) st) o.dst L (K pe) := id rfl
theorem acm (d : Option Tmp) (K : Option Ex → SL → St → Prop) : acn d L K .normal st = K none (gp d (.sc (.bool true)) L) st := id rfl
theorem aad (d : Option Tmp) (K : Option Ex → SL → St → Prop) : acn d L K .ret st = K (some .ret) (gp d (.sc (.bool false)) L) st := id rfl
theorem ahk (B : QL → SL → St → Prop) (X : Ex → St → Prop) : aql B X .normal L st = B (fun e _ st => X e st) L st := id rfl
theorem We (k : Nat) (va vb : Array Value) : zv l (.sc (.func (.yield k) va vb)) = (Nat.beq k l && Nat.beq va.size 0 && Nat.beq vb.size 0) := id rfl
theorem M0 : xz [] [] L = L := id rfl
theorem Js (t : Nat) (ts : List Nat) (v : AV) (vs : List AV) : xz (t :: ts) (v :: vs) L = xz ts vs ((t, v) :: L) := id rfl
theorem an7 {α : Type} {b : Code} (keep : List Nat) (V : α → List AV) (O : α → List (Option ba)) (I : α → Prop) (μ : α → Nat) (x : α) (hx : I x) (hR : ∀ p args (X X' : Ex → St → Prop) st, (∀ e st, X e st → X' e st) → R p args X st → R p args X' st)
    (hv : j6 az keep L st = V x) (ho : gb az keep L st = O x)
    (step : ∀ x, I x → ou P T l R az b (yk (w6 az keep (fun vs os => ∃ y, I y ∧ μ y < μ x ∧ vs = V y ∧ os = O y) (fun _ _ _ => False)) Q) none (ma keep (V x)) (bm (O x))) : ou P T l R az (.loop b) Q none L st :=
  ⟨rfl, ry.of (B := fun Q' L st => ou P T l R az b (yk Q' Q) none L st) keep V O I μ x hx hv ho (fun Q1 Q2 h L st hh => Py hR b _ _ (fun e pe L st q => by
    cases e with
    | normal => exact ⟨q.1, h _ _ _ q.2⟩
    | ret => exact q
    | exit i => exact q) none L st hh) step⟩
theorem M9 {ps : List Tmp} {a b : Code} {L0 : SL} : ∀ p args (X X' : Ex → St → Prop) st, (∀ e st, X e st → X' e st) → nb ps (fun p => wl P T p a) (fun p => wl P T p b) L0 p args X st → nb ps (fun p => wl P T p a) (fun p => wl P T p b) L0 p args X' st :=
  fun p args X X' st hX hr => ⟨hr.1, hr.2.1, Gu _ _ _ (fun e L st q => by
    cases e with
    | normal => exact Gu _ _ _ (fun e _ st q => hX e st q) _ _ q
    | _ => exact q.elim) _ _ hr.2.2⟩
end ranges
section yields
variable {lp : Nat} {L : SL} {d : Option Tmp} {ty : TypeId} {pos : String} {af : Array Edge} {gd : Option (Nat × Bool)}
theorem K2 (x) : yieldOf lp ⟨d, .move x, ty, pos, af, gd⟩ L = none := id rfl
theorem Fy (x) : yieldOf lp ⟨d, .assign x, ty, pos, af, gd⟩ L = none := id rfl
theorem Jt (t a) : yieldOf lp ⟨d, .load t a, ty, pos, af, gd⟩ L = none := id rfl
theorem Bx (s x f) : yieldOf lp ⟨d, .fieldAddr s x f, ty, pos, af, gd⟩ L = none := id rfl
theorem Im (op t x y u) : yieldOf lp ⟨d, .binOp op t x y u, ty, pos, af, gd⟩ L = none := id rfl
theorem Jj (c a b) : yieldOf lp ⟨d, .pick c a b, ty, pos, af, gd⟩ L = none := id rfl
theorem Ip (t a x) : yieldOf lp ⟨d, .store t a x, ty, pos, af, gd⟩ L = none := id rfl
theorem By (t x i) : yieldOf lp ⟨d, .indexAddr t x i, ty, pos, af, gd⟩ L = none := id rfl
theorem Ix (t) : yieldOf lp ⟨d, .alloc t, ty, pos, af, gd⟩ L = none := id rfl
theorem I3 (op t x) : yieldOf lp ⟨d, .unOp op t x, ty, pos, af, gd⟩ L = none := id rfl
theorem Ob (x ts) : yieldOf lp ⟨d, .call { callee := .builtin .len, args := #[x], argTypes := ts }, ty, pos, af, gd⟩ L = none := id rfl
theorem Jn (f : Operand) (args : Array Operand) (ts : Array TypeId) : yieldOf lp ⟨d, .call { callee := .value f, args := args, argTypes := ts }, ty, pos, af, gd⟩ L = bif zv lp (cg L f) then some args else none := id rfl
end yields
end
end Go.Vm
namespace Go.Vm
noncomputable section
section
variable (P : Program) (ρ : Operand → AV) (d : Option Tmp) (ty : TypeId) (pos : String) (af : Array Edge) (gd : Option (Nat × Bool)) (t u : TypeId) (x y : Operand)
theorem Jq (op : BinOp) (k k' : IntKind) (a b : Int) (hx : ρ x = .sc (.int k a)) (hy : ρ y = .sc (.int k' b)) :
    ml P ρ ⟨d, .binOp op t x y u, ty, pos, af, gd⟩ op t (.sc (.int k a)) (.sc (.int k' b)) = M.of ((ev P (binOp op t (.int k a) (.int k' b))).map .sc) := by
  have h1 : ∀ s : Sem Value, ev P (do pure (Next.value (← s))) = (ev P s).map Next.value := by
    intro s
    induction s with
    | pure b => rfl
    | program k ih => exact ih P
    | choose q k ih =>
      simp only [bind, Sem.bind, ev]
      split
      · exact ih 0
      · rfl
    | mark m k ih => exact ih
    | _ => rfl
  have h2 : execOp (fun z => ((ρ z).fm).getD undef) ⟨d, .binOp op t x y u, ty, pos, af, gd⟩ = (do pure (Next.value (← (do eqGuard op t x y (.int k a) (.int k' b); binOp op t (.int k a) (.int k' b))))) := by
    simp only [execOp, hx, hy, AV.fm, Option.getD_some]
  have h3 : ev P (do eqGuard op t x y (.int k a) (.int k' b); binOp op t (.int k a) (.int k' b)) = ev P (binOp op t (.int k a) (.int k' b)) := by
    cases op <;> rfl
  unfold ml qw
  simp only [AV.fm, Option.isSome_some, Bool.and_self, cond_true]
  rw [h2, h1, h3]
  cases ev P (binOp op t (.int k a) (.int k' b)) <;> rfl
theorem ant (k k' : IntKind) (a b : Int) (h : 0 ≤ b) : ev P (binOp .shl t (.int k a) (.int k' b)) = some (.int k (k.wrap (a * 2 ^ (min b.toNat k.bits)))) := by
  have : ¬ b < 0 := by omega
  simp [binOp, Op.shift, this, Ao]
theorem ak9 (k k' : IntKind) (a b : Int) (h : 0 ≤ b) : ev P (binOp .shr t (.int k a) (.int k' b)) = some (.int k (a.fdiv (2 ^ (min b.toNat k.bits)))) := by
  have : ¬ b < 0 := by omega
  simp [binOp, Op.shift, this, Ao]
theorem ape {d : TypeDesc} (h : P.underlying t = some d) : ev P (underlying t) = some d := by
  rw [underlying]
  show ev P (match P.underlying t with | some d => pure d | none => _) = _
  rw [h]; rfl
theorem Ky (op : BinOp) (a b : ByteArray) (hx : ρ x = .sc (.string a)) (hy : ρ y = .sc (.string b)) :
    ml P ρ ⟨d, .binOp op t x y u, ty, pos, af, gd⟩ op t (.sc (.string a)) (.sc (.string b)) = M.of ((ev P (binOp op t (.string a) (.string b))).map .sc) := by
  have h1 : ∀ s : Sem Value, ev P (do pure (Next.value (← s))) = (ev P s).map Next.value := by
    intro s
    induction s with
    | pure b => rfl
    | program k ih => exact ih P
    | choose q k ih =>
      simp only [bind, Sem.bind, ev]
      split
      · exact ih 0
      · rfl
    | mark m k ih => exact ih
    | _ => rfl
  have h2 : execOp (fun z => ((ρ z).fm).getD undef) ⟨d, .binOp op t x y u, ty, pos, af, gd⟩ = (do pure (Next.value (← (do eqGuard op t x y (.string a) (.string b); binOp op t (.string a) (.string b))))) := by
    simp only [execOp, hx, hy, AV.fm, Option.getD_some]
  have h3 : ev P (do eqGuard op t x y (.string a) (.string b); binOp op t (.string a) (.string b)) = ev P (binOp op t (.string a) (.string b)) := by
    cases op <;> rfl
  unfold ml qw
  simp only [AV.fm, Option.isSome_some, Bool.and_self, cond_true]
  rw [h2, h1, h3]
  cases ev P (binOp op t (.string a) (.string b)) <;> rfl
theorem str_eq (a b : ByteArray) : (a.toList == b.toList) = decide (a = b) := by
  rw [ByteArray.toList_eq, ByteArray.toList_eq, Bool.eq_iff_iff]
  simp only [beq_iff_eq, decide_eq_true_eq]
  constructor
  · intro h
    cases a; cases b
    congr 1
    exact Array.ext' h
  · intro h; rw [h]
theorem S6 (a b : ByteArray) : ev P (binOp .eql t (.string a) (.string b)) = some (.bool (decide (a = b))) := by
  rw [← str_eq]; rfl
theorem P5 (a b : ByteArray) : ev P (binOp .neq t (.string a) (.string b)) = some (.bool (!decide (a = b))) := by
  rw [← str_eq]; rfl
end
def Lv (u : Option TypeDesc) : Bool := match u with | some (.slice _) => true | _ => false
theorem agf (e) : Lv (some (.slice e)) = true := id rfl
theorem af9 {u} (h : Lv u = true) : ∃ e, u = some (.slice e) := by
  unfold Lv at h; split at h
  · exact ⟨_, rfl⟩
  · cases h
theorem ag0 {P : Program} {t op x y} (h : Lv (P.underlying t) = true) : Ej P t op x y = Ce op x y := by
  obtain ⟨e, he⟩ := af9 h
  unfold Ej; rw [he]
theorem Sk (P : Program) (ρ o op t l sz es b) : ml P ρ o op t (.vl l sz es) b = Ej P t op (.vl l sz es) b := id rfl
theorem agd (b) : nn .eql b = M.pure (.sc (.bool b)) := id rfl
theorem F7 (P : Program) (ρ : Operand → AV) (d ty pos af gd) (t u : TypeId) (x y : Operand) (op : BinOp) (a b : Option Addr) (n c m k : Nat) (hx : ρ x = .sc (.slice a n c)) (hy : ρ y = .sc (.slice b m k)) :
    ml P ρ ⟨d, .binOp op t x y u, ty, pos, af, gd⟩ op t (.sc (.slice a n c)) (.sc (.slice b m k)) = M.of ((ev P (binOp op t (.slice a n c) (.slice b m k))).map .sc) := by
  have h1 : ∀ s : Sem Value, ev P (do pure (Next.value (← s))) = (ev P s).map Next.value := by
    intro s
    induction s with
    | pure b => rfl
    | program k ih => exact ih P
    | choose q k ih =>
      simp only [bind, Sem.bind, ev]
      split
      · exact ih 0
      · rfl
    | mark m k ih => exact ih
    | _ => rfl
  have h2 : execOp (fun z => ((ρ z).fm).getD undef) ⟨d, .binOp op t x y u, ty, pos, af, gd⟩ = (do pure (Next.value (← (do eqGuard op t x y (.slice a n c) (.slice b m k); binOp op t (.slice a n c) (.slice b m k))))) := by
    simp only [execOp, hx, hy, AV.fm, Option.getD_some]
  have h3 : ev P (do eqGuard op t x y (.slice a n c) (.slice b m k); binOp op t (.slice a n c) (.slice b m k)) = ev P (binOp op t (.slice a n c) (.slice b m k)) := by
    cases op <;> rfl
  unfold ml qw
  simp only [AV.fm, Option.isSome_some, Bool.and_self, cond_true]
  rw [h2, h1, h3]
  cases ev P (binOp op t (.slice a n c) (.slice b m k)) <;> rfl
theorem X5 {P : Program} {t : TypeId} {a : Option Addr} {n c m k : Nat} (d : Nat) (h : Lv (P.underlying t) = true) : ev P (Op.equalIn (d + 1) t (.slice a n c) (.slice none m k)) = some a.isNone := by
  obtain ⟨e, he⟩ := af9 h
  simp only [Op.equalIn]
  rw [vq, ape P t he]
  cases a <;> rfl
theorem Kd {P : Program} {t : TypeId} {a : Option Addr} {n c m k : Nat} (h : Lv (P.underlying t) = true) : ev P (binOp .eql t (.slice a n c) (.slice none m k)) = some (.bool a.isNone) := by
  show ev P (do pure (Value.bool (← Op.equalIn (9999 + 1) t (.slice a n c) (.slice none m k)))) = _
  rw [vq, X5 9999 h]
  rfl
end
end Go.Vm
namespace Go.Vm
noncomputable section
abbrev Name := List ByteArray
structure c0 where
  names : List Name
  nums : List UInt32
  texts : List ByteArray
  raw : List UInt8
def mkD (a : List Name) (b : List UInt32) (c : List ByteArray) (e : List UInt8) : c0 := ⟨a, b, c, e⟩
theorem agm (d : c0) : mkD d.names d.nums d.texts d.raw = d := id rfl
noncomputable def ar : da Name := ct ak
noncomputable def bq : da c0 := vi (ig (ct ar) (ig (ct dh) (ig ar (ct bz)))) (fun d => (d.names, d.nums, d.texts, d.raw)) (fun p => ⟨p.1, p.2.1, p.2.2.1, p.2.2.2⟩) (fun _ => rfl) (fun _ => rfl)
theorem db (l : Bool) (n : Name) : ar.val l n = .vl l 1 (n.map (ak.val l)) := id rfl
theorem nm : ar.sz = 1 := id rfl
theorem Re : bq.sz = 4 := id rfl
theorem np (l : Bool) (d : c0) : bq.val l d = .agg [.vl l 1 (d.names.map (ar.val l)), .vl l 1 (d.nums.map (dh.val l)), .vl l 1 (d.texts.map (ak.val l)), .vl l 1 (d.raw.map (bz.val l))] := id rfl
theorem N6 (fr : Bool) (h : Tr ba) (x1 x2 x3 x4 : AV) :
    bq.ew fr h (.agg [x1, x2, x3, x4]) = match ek ar fr h x1, ek dh fr h x2, ek ak fr h x3, ek bz fr h x4 with
      | some a, some b, some c, some e => some (mkD a b c e)
      | _, _, _, _ => none := by
  rw [rn _ _ _ _ rfl rfl]
  have h1 : bq.dec fr h (AV.agg [x1, x2, x3, x4]).cells = Option.map (fun p => (⟨p.1, p.2.1, p.2.2.1, p.2.2.2⟩ : c0)) ((ig (ct ar) (ig (ct dh) (ig ar (ct bz)))).dec fr h [x1, x2, x3, x4]) := rfl
  have d2 : ∀ {α β : Type} (A : da α) (B : da β) (l : List AV), (ig A B).dec fr h l = match A.dec fr h (l.take A.sz), B.dec fr h (l.drop A.sz) with | some x, some y => some (x, y) | _, _ => none := fun _ _ _ => rfl
  have l1 : ∀ {α : Type} (C : da α) (x : AV), (ct C).dec fr h [x] = ek C fr h x := fun _ _ => rfl
  have n1 : ∀ x, ar.dec fr h [x] = ek ak fr h x := fun _ => rfl
  rw [h1]
  simp only [d2, uu, nm, List.take_succ_cons, List.take_zero, List.drop_succ_cons, List.drop_zero, l1, n1]
  cases ek ar fr h x1 <;> cases ek dh fr h x2 <;> cases ek ak fr h x3 <;> cases ek bz fr h x4 <;> rfl
theorem Lp {α : Type} (C : da α) (fr : Bool) (h : Tr ba) (l : Bool) (n : Nat) (es : List AV) : (ct C).ew fr h (.vl l n es) = ek C fr h (.vl l n es) := Ad C fr h _ rfl rfl rfl
theorem Ks {α : Type} (C : da α) (fr : Bool) (h : Tr ba) (o off len n : Nat) : (ct C).ew fr h (.sl o off len n) = ek C fr h (.sl o off len n) := Ad C fr h _ rfl rfl rfl
theorem Bw {α : Type} (C : da α) (fr : Bool) (h : Tr ba) : (ct C).ew fr h (.sc (.slice none 0 0)) = some [] := by
  rw [Ad C fr h _ rfl rfl rfl]; rfl
theorem Em (fr : Bool) (h : Tr ba) (l : Bool) (n : Nat) (es : List AV) : ar.ew fr h (.vl l n es) = ek ak fr h (.vl l n es) := Ad ak fr h _ rfl rfl rfl
theorem Ek (fr : Bool) (h : Tr ba) (o off len n : Nat) : ar.ew fr h (.sl o off len n) = ek ak fr h (.sl o off len n) := Ad ak fr h _ rfl rfl rfl
theorem Dj (fr : Bool) (h : Tr ba) : ar.ew fr h (.sc (.slice none 0 0)) = some [] := Bw ak fr h
theorem Dd (l : List UInt8) : l.map Aq = l.map (bz.val false) := id rfl
theorem Jr {α : Type} (C : da α) (b : Bool) (l : List α) : AV.names.go (l.map (C.val b)) = [] := Fh (fun c hc => by
  obtain ⟨x, _, rfl⟩ := List.mem_map.1 hc
  exact Ee C b x)
theorem wx : ∀ (l : List UInt8) (b : Bool), bytesOf (l.map (bz.val b)) = some l
  | [], _ => rfl
  | c :: l, b => by
    rw [List.map_cons, Ed, bytesOf, wx l b]
    simp
end
end Go.Vm
section
namespace Go.Vm.Cx
open Go.Vm
noncomputable section
theorem Bk {P : Program} (w : World) : ∀ (ns : List Int) (a : Addr) (i : Nat) (acc : ByteArray), (∀ (j : Nat) x, ns[j]? = some x → (load (a.add (i + j))).run P w = .ok (.int .u8 x) w) →
    (Extern.Bytes.loadBytes (a.add i) ns.length acc).run P w = .ok ⟨acc.data ++ (ns.map fun n => UInt8.ofNat n.toNat).toArray⟩ w
  | [], a, i, acc, _ => by simp [Extern.Bytes.loadBytes]
  | x :: l, a, i, acc, h => by
    have h0 := h 0 x rfl
    rw [Nat.add_zero] at h0
    have e : (a.add i).add 1 = a.add (i + 1) := by
      unfold Addr.add
      by_cases hj : i = 0
      · subst hj; simp
      · simp [hj]; omega
    have ih := Bk (P := P) w l a (i + 1) (acc.push x.toNat.toUInt8) (fun j y hy => by
      have := h (j + 1) y (by simpa using hy)
      rw [show i + 1 + j = i + (j + 1) from by omega]; exact this)
    simp only [List.length_cons, Extern.Bytes.loadBytes, Sem.run_bind, h0, Result.andThen]
    rw [e, ih]
    congr 1
    apply ByteArray.ext
    simp [ByteArray.push, Nat.toUInt8]
theorem T6 {l : List Int} {l' : List Value} (h : l' = l.map (Value.int .u8)) (j : Nat) (x : Int) (hx : l[j]? = some x) : l'[j]? = some (.int .u8 x) := by rw [h, List.getElem?_map, hx]; rfl
theorem A9 {P : Program} {g st bc w} {a : AV} {v : Value} {l : List AV} {bs : List UInt8} (hok : Ok g st.h w) (hr : Rel g w a v) (h : cellsIn 1 a st = some (l, bc)) (hb : bytesOf l = some bs) :
    (Extern.Bytes.bytesOf v).run P w = .ok ⟨bs.toArray⟩ w := by
  obtain ⟨_, _, n, news, hsrc, hrl⟩ := wa (P := P) hok hr h
  obtain ⟨ns, e1, e2⟩ := B7 _ _ _ hrl hb
  obtain ⟨r1, r2⟩ := hsrc.run w rfl
  cases v with
  | slice p len cap =>
    have hn : n = len := by simp [Builtin.lenOf] at r1; exact r1.symm
    subst hn
    cases p with
    | none =>
      have : news = [] := by simpa [Builtin.firstCells] using r2
      subst this
      have : ns = [] := by simpa using e1.symm
      subst this
      subst e2
      rfl
    | some a =>
      simp only [Builtin.firstCells, Nat.mul_one] at r2
      unfold loadCells at r2
      obtain ⟨l', q1, q2, q3⟩ := loadCellsFrom_ok a n 0 #[] _ _ r2
      have hl' : l' = news := by simpa using q2.symm
      subst hl'
      have hlen : ns.length = n := by rw [← q1, e1, List.length_map]
      have := Bk (P := P) w ns a 0 .empty (fun j x hx => by
        exact q3 j _ (T6 e1 j x hx))
      rw [hlen] at this
      have e0 : a.add 0 = a := by simp [Addr.add]
      rw [e0] at this
      show (Extern.Bytes.loadBytes a n .empty).run P w = _
      rw [this, e2]
      congr 2
      simp [ByteArray.empty, ByteArray.emptyWithCapacity]
      rfl
  | string s =>
    have hn : n = s.size := by simp [Builtin.lenOf] at r1; exact r1.symm
    subst hn
    simp only [Builtin.firstCells, Sem.run_pure, Result.ok.injEq, and_true] at r2
    have h1 := congrArg Array.toList r2
    rw [e1] at h1
    show Result.ok s w = _
    congr 1
    apply ByteArray.ext
    apply Array.ext'
    rw [e2]
    have h2 := congrArg (List.map fun v : Value => match v with | .int _ n => UInt8.ofNat n.toNat | _ => 0) h1
    simp only [List.map_map, Array.toList_map] at h2
    have h3 : (s.extract 0 s.size).data.toList = s.data.toList := by simp
    rw [h3] at h2
    have h4 : (List.map ((fun v : Value => match v with | .int _ n => UInt8.ofNat n.toNat | _ => 0) ∘ fun b : UInt8 => Value.int .u8 (b.toNat : Int)) s.data.toList) = s.data.toList := by
      rw [show ((fun v : Value => match v with | .int _ n => UInt8.ofNat n.toNat | _ => 0) ∘ fun b : UInt8 => Value.int .u8 (b.toNat : Int)) = id from by funext b; simp]
      simp
    rw [h4] at h2
    rw [h2]
    simp
  | _ => simp [Builtin.lenOf, stuck] at r1
def Ax (args : List AV) : M AV :=
  match args with
  | [a] => .pure a
  | _ => .fail
def il (args : List AV) : M AV :=
  match args with
  | [a, b] => (cellsIn 1 a).bind fun x => (cellsIn 1 b).bind fun y =>
    match bytesOf x with
    | some x =>
      match bytesOf y with
      | some y => .pure (.sc (goInt (Lib.compareBytes x y)))
      | none => .fail
    | none => .fail
  | _ => .fail
def dv {α : Type} (m : M α) : Prop := ∀ st v bc, m st = some (v, bc) → bc.h = st.h ∧ bc.nx = st.nx
theorem dv.pure {α : Type} (a : α) : dv (M.pure a) := fun st v bc h => by cases h; exact ⟨rfl, rfl⟩
theorem dv.fail {α : Type} : dv (M.fail : M α) := fun st v bc h => by cases h
theorem dv.bind {α β : Type} {m : M α} {f : α → M β} (hm : dv m) (h : ∀ x, dv (f x)) : dv (m.bind f) := fun st v bc hb => by
  obtain ⟨x, s1, h1, h2⟩ := bind_some hb
  have h3 := hm _ _ _ h1
  have h4 := h x _ _ _ h2
  exact ⟨h4.1.trans h3.1, h4.2.trans h3.2⟩
theorem dv.cj (id : Nat) : dv (Vm.cj id) := fun _st _v _st1 h => (fk h).2
theorem dv.cond {α : Type} {b : Bool} {x y : M α} (hx : dv x) (hy : dv y) : dv (bif b then x else y) := by cases b <;> assumption
theorem dv.cellsIn (sz : Nat) (v : AV) : dv (Vm.cellsIn sz v) := by
  unfold Vm.cellsIn xk
  repeat' (first | exact dv.pure _ | exact dv.fail | apply dv.cond | (refine dv.bind (dv.cj _) fun x => ?_) | split)
theorem Ac (args : List AV) : dv (il args) := by
  unfold il; split
  · exact dv.bind (dv.cellsIn _ _) fun x => dv.bind (dv.cellsIn _ _) fun y => by
      split
      · split
        · exact dv.pure _
        · exact dv.fail
      · exact dv.fail
  · exact dv.fail
theorem Ef {P : Program} {f : Nat} {fn : Func} (hf : P.funcs[f]? = some fn) (h1 : (fn.name == "runtime.NumGoroutine") = false) (h2 : fn.body.isNone = true) (h3 : Extern.findNext fn = none) (h4 : Extern.find fn = some Extern.AbiNoEscape.same) (args : List AV) :
    Aw P f args (Ax args) := by
  intro g st w vs r st' hok hfree hrel hm
  refine .inl ?_
  unfold Ax at hm
  split at hm
  · rename_i a
    cases hm
    obtain ⟨v, rfl, hv⟩ := An hrel
    refine ⟨v, w, g, ?_, .refl _ _ _ _ _, hok, hv⟩
    rw [run_callFunc_extern hf h1 h2 h3 h4]
    rfl
  · cases hm
theorem sm {P : Program} {f : Nat} {fn : Func} (hf : P.funcs[f]? = some fn) (h1 : (fn.name == "runtime.NumGoroutine") = false) (h2 : fn.body.isNone = true) (h3 : Extern.findNext fn = none) (h4 : Extern.find fn = some Extern.BytealgCompare.compare) (args : List AV) :
    Aw P f args (il args) := by
  intro g st w vs r st' hok hfree hrel hm
  refine .inl ?_
  have hst := Ac _ _ _ _ hm
  unfold il at hm
  split at hm
  · rename_i a c
    obtain ⟨x, s1, e1, hm⟩ := bind_some hm
    obtain ⟨y, s2, e2, hm⟩ := bind_some hm
    cases hx : bytesOf x with
    | none => rw [hx] at hm; cases hm
    | some bx =>
    cases hy : bytesOf y with
    | none => rw [hx, hy] at hm; cases hm
    | some yb =>
    rw [hx, hy] at hm
    cases hm
    have hh := dv.cellsIn _ _ _ _ _ e1
    match vs, hrel with
    | [v, u], hrel =>
      have r1 := A9 (P := P) hok hrel.head e1 hx
      have r2 := A9 (P := P) (st := s1) (by rw [hh.1]; exact hok) hrel.tail.head e2 hy
      refine ⟨goInt (Lib.compareBytes bx yb), w, g, ?_, ?_, ?_, .sc _⟩
      · rw [run_callFunc_extern hf h1 h2 h3 h4]
        have : (Extern.BytealgCompare.compare #[v, u]).run P w = .ok (goInt (Lib.compareBytes bx yb)) w := by
          change Sem.run P (do pure (goInt (Extern.BytealgCompare.cmp (← Extern.Bytes.bytesOf v) (← Extern.Bytes.bytesOf u)))) w = _
          simp only [Sem.run_bind, r1, r2, Result.andThen, Sem.run_pure]
          rw [Lib.cmp_eq]
        show ((Extern.BytealgCompare.compare #[v, u]).run P w).andThen _ = _
        rw [this]
        rfl
      · rw [hst.1, hst.2]; exact .refl _ _ _ _ _
      · rw [hst.1]; exact hok
    | [], hrel => have := hrel.1; simp at this
    | [v], hrel => have := hrel.1; simp at this
    | _ :: _ :: _ :: _, hrel => have := hrel.1; simp at this
  · cases hm
end
end Go.Vm.Cx
end
section
set_option linter.unusedSimpArgs false
set_option linter.unnecessarySimpa false
namespace Go.Vm
noncomputable section
def roT (o : Option (Bool × (List AV → M AV))) : Bool := match o with | some (b, _) => b | none => false
theorem aq1 (b m) : roT (some (b, m)) = b := id rfl
theorem eb {o : Oper} {L : SL} {x : Operand} (h : x ∈ o.op.operands) : bt o L x = cg L x := by
  cases x with
  | tmp t =>
    show (bif o.op.operands.any (fun x => match x with | .tmp u => Nat.beq u t | _ => false) then lk L t else .bad) = lk L t
    have : o.op.operands.any (fun x => match x with | .tmp u => Nat.beq u t | _ => false) = true := by
      rw [Array.any_eq_true']
      exact ⟨_, h, by simp⟩
    rw [this]; rfl
  | const v => rfl
  | global g => rfl
  | func f => rfl
theorem gq {o : Oper} {L : SL} {l : List Operand} (h : ∀ x ∈ l, x ∈ o.op.operands) : l.map (bt o L) = l.map (cg L) := List.map_congr_left fun x hx => eb (h x hx)
theorem N4 {o : Oper} {L : SL} {l : List (Nat × Operand)} (h : ∀ x ∈ l, x.2 ∈ o.op.operands) : l.map (fun p => (p.1, bt o L p.2)) = l.map (fun p => (p.1, cg L p.2)) := List.map_congr_left fun x hx => by rw [eb (h x hx)]
def er (ro : Bool) (F : List Nat) (o : Oper) (recs : List Rec) (K : List Rec → SL → St → Prop) (L : SL) (st : St) (m : M AV) : Prop := Dq ro F o recs K L st (m { h := jw st.h F, nx := st.nx, rl := [], wl := [] })
theorem V0 (ro F o recs K L st m) : er ro F o recs K L st m = Dq ro F o recs K L st (m { h := jw st.h F, nx := st.nx, rl := [], wl := [] }) := id rfl
section ops
variable (P : Program) (T : dw) (L : SL) (st : St) (recs : List Rec) (K : List Rec → SL → St → Prop) (d : Option Tmp) (ty : TypeId) (pos : String) (af : Array Edge) (gd : Option (Nat × Bool))
theorem adu (x) : fj P T ⟨d, .move x, ty, pos, af, gd⟩ recs K L st = er (true) ([]) ⟨d, .move x, ty, pos, af, gd⟩ recs K L st (mono (M.pure (cg L x))) := by
  unfold fj j5 kx er
  simp only [iy, cond_true]
  have hm : ∀ y, y ∈ ([x] : List Operand) → bt ⟨d, .move x, ty, pos, af, gd⟩ L y = cg L y := fun y hy => eb (by simpa [Op.operands, Call.operands] using hy)
  have hmap : ([x] : List Operand).map (bt ⟨d, .move x, ty, pos, af, gd⟩ L) = ([x] : List Operand).map (cg L) := gq (fun y hy => by simpa [Op.operands, Call.operands] using hy)
  have ho : (⟨d, .move x, ty, pos, af, gd⟩ : Oper).op.operands.toList = [x] := by simp [Op.operands, Call.operands]
  rw [Ha, hm x (by simp)]
  rfl
theorem Ta (x) : fj P T ⟨d, .assign x, ty, pos, af, gd⟩ recs K L st = er (true) ([]) ⟨d, .assign x, ty, pos, af, gd⟩ recs K L st (mono (M.pure (cg L x))) := by
  unfold fj j5 kx er
  simp only [iy, cond_true]
  have hm : ∀ y, y ∈ ([x] : List Operand) → bt ⟨d, .assign x, ty, pos, af, gd⟩ L y = cg L y := fun y hy => eb (by simpa [Op.operands, Call.operands] using hy)
  have hmap : ([x] : List Operand).map (bt ⟨d, .assign x, ty, pos, af, gd⟩ L) = ([x] : List Operand).map (cg L) := gq (fun y hy => by simpa [Op.operands, Call.operands] using hy)
  have ho : (⟨d, .assign x, ty, pos, af, gd⟩ : Oper).op.operands.toList = [x] := by simp [Op.operands, Call.operands]
  rw [C4, hm x (by simp)]
  rfl
theorem abv (t a) : fj P T ⟨d, .load t a, ty, pos, af, gd⟩ recs K L st = er (true) ((cg L a).names) ⟨d, .load t a, ty, pos, af, gd⟩ recs K L st (mono (ja P t (cg L a))) := by
  unfold fj j5 kx er
  simp only [iy, cond_false]
  have hm : ∀ y, y ∈ ([a] : List Operand) → bt ⟨d, .load t a, ty, pos, af, gd⟩ L y = cg L y := fun y hy => eb (by simpa [Op.operands, Call.operands] using hy)
  have hmap : ([a] : List Operand).map (bt ⟨d, .load t a, ty, pos, af, gd⟩ L) = ([a] : List Operand).map (cg L) := gq (fun y hy => by simpa [Op.operands, Call.operands] using hy)
  have ho : (⟨d, .load t a, ty, pos, af, gd⟩ : Oper).op.operands.toList = [a] := by simp [Op.operands, Call.operands]
  rw [Hp, hm a (by simp)]
  rfl
theorem Iu (s x f) : fj P T ⟨d, .fieldAddr s x f, ty, pos, af, gd⟩ recs K L st = er (true) ([]) ⟨d, .fieldAddr s x f, ty, pos, af, gd⟩ recs K L st (mono (j9 P s (cg L x) f)) := by
  unfold fj j5 kx er
  simp only [iy, cond_true]
  have hm : ∀ y, y ∈ ([x] : List Operand) → bt ⟨d, .fieldAddr s x f, ty, pos, af, gd⟩ L y = cg L y := fun y hy => eb (by simpa [Op.operands, Call.operands] using hy)
  have hmap : ([x] : List Operand).map (bt ⟨d, .fieldAddr s x f, ty, pos, af, gd⟩ L) = ([x] : List Operand).map (cg L) := gq (fun y hy => by simpa [Op.operands, Call.operands] using hy)
  have ho : (⟨d, .fieldAddr s x f, ty, pos, af, gd⟩ : Oper).op.operands.toList = [x] := by simp [Op.operands, Call.operands]
  rw [zk, hm x (by simp)]
  rfl
theorem Xf (op t x y u) : fj P T ⟨d, .binOp op t x y u, ty, pos, af, gd⟩ recs K L st = er (true) ([]) ⟨d, .binOp op t x y u, ty, pos, af, gd⟩ recs K L st (mono (w9 P (bt ⟨d, .binOp op t x y u, ty, pos, af, gd⟩ L) ⟨d, .binOp op t x y u, ty, pos, af, gd⟩ op t x y)) := by
  unfold fj j5 kx er
  simp only [iy, cond_true]
  have hm : ∀ y, y ∈ ([x, y] : List Operand) → bt ⟨d, .binOp op t x y u, ty, pos, af, gd⟩ L y = cg L y := fun y hy => eb (by simpa [Op.operands, Call.operands] using hy)
  have hmap : ([x, y] : List Operand).map (bt ⟨d, .binOp op t x y u, ty, pos, af, gd⟩ L) = ([x, y] : List Operand).map (cg L) := gq (fun y hy => by simpa [Op.operands, Call.operands] using hy)
  have ho : (⟨d, .binOp op t x y u, ty, pos, af, gd⟩ : Oper).op.operands.toList = [x, y] := by simp [Op.operands, Call.operands]
  rfl
theorem ab0 (c a b) : fj P T ⟨d, .pick c a b, ty, pos, af, gd⟩ recs K L st = er (true) ([]) ⟨d, .pick c a b, ty, pos, af, gd⟩ recs K L st (mono (uc (cg L c) (cg L a) (cg L b))) := by
  unfold fj j5 kx er
  simp only [iy, cond_true]
  have hm : ∀ y, y ∈ ([c, a, b] : List Operand) → bt ⟨d, .pick c a b, ty, pos, af, gd⟩ L y = cg L y := fun y hy => eb (by simpa [Op.operands, Call.operands] using hy)
  have hmap : ([c, a, b] : List Operand).map (bt ⟨d, .pick c a b, ty, pos, af, gd⟩ L) = ([c, a, b] : List Operand).map (cg L) := gq (fun y hy => by simpa [Op.operands, Call.operands] using hy)
  have ho : (⟨d, .pick c a b, ty, pos, af, gd⟩ : Oper).op.operands.toList = [c, a, b] := by simp [Op.operands, Call.operands]
  rw [Hi, hm c (by simp), hm a (by simp), hm b (by simp)]
  rfl
theorem V4 (t a x) : fj P T ⟨d, .store t a x, ty, pos, af, gd⟩ recs K L st = er (false) ((cg L a).names) ⟨d, .store t a x, ty, pos, af, gd⟩ recs K L st (mono (oh P t (cg L a) (cg L x))) := by
  unfold fj j5 kx er
  simp only [iy, cond_false]
  have hm : ∀ y, y ∈ ([a, x] : List Operand) → bt ⟨d, .store t a x, ty, pos, af, gd⟩ L y = cg L y := fun y hy => eb (by simpa [Op.operands, Call.operands] using hy)
  have hmap : ([a, x] : List Operand).map (bt ⟨d, .store t a x, ty, pos, af, gd⟩ L) = ([a, x] : List Operand).map (cg L) := gq (fun y hy => by simpa [Op.operands, Call.operands] using hy)
  have ho : (⟨d, .store t a x, ty, pos, af, gd⟩ : Oper).op.operands.toList = [a, x] := by simp [Op.operands, Call.operands]
  rw [Fq, hm a (by simp), hm x (by simp)]
  rfl
theorem Oj (t i) : fj P T ⟨d, .extract t i, ty, pos, af, gd⟩ recs K L st = er (true) ([]) ⟨d, .extract t i, ty, pos, af, gd⟩ recs K L st (mono (mo (cg L t) i)) := by
  unfold fj j5 kx er
  simp only [iy, cond_true]
  have hm : ∀ y, y ∈ ([t] : List Operand) → bt ⟨d, .extract t i, ty, pos, af, gd⟩ L y = cg L y := fun y hy => eb (by simpa [Op.operands, Call.operands] using hy)
  have hmap : ([t] : List Operand).map (bt ⟨d, .extract t i, ty, pos, af, gd⟩ L) = ([t] : List Operand).map (cg L) := gq (fun y hy => by simpa [Op.operands, Call.operands] using hy)
  have ho : (⟨d, .extract t i, ty, pos, af, gd⟩ : Oper).op.operands.toList = [t] := by simp [Op.operands, Call.operands]
  rw [Br, hm t (by simp)]
  rfl
theorem Iv (t x i) : fj P T ⟨d, .indexAddr t x i, ty, pos, af, gd⟩ recs K L st = er (true) ([]) ⟨d, .indexAddr t x i, ty, pos, af, gd⟩ recs K L st (mono (j8 P t (cg L x) (cg L i))) := by
  unfold fj j5 kx er
  simp only [iy, cond_true]
  have hm : ∀ y, y ∈ ([x, i] : List Operand) → bt ⟨d, .indexAddr t x i, ty, pos, af, gd⟩ L y = cg L y := fun y hy => eb (by simpa [Op.operands, Call.operands] using hy)
  have hmap : ([x, i] : List Operand).map (bt ⟨d, .indexAddr t x i, ty, pos, af, gd⟩ L) = ([x, i] : List Operand).map (cg L) := gq (fun y hy => by simpa [Op.operands, Call.operands] using hy)
  have ho : (⟨d, .indexAddr t x i, ty, pos, af, gd⟩ : Oper).op.operands.toList = [x, i] := by simp [Op.operands, Call.operands]
  rw [yh, hm x (by simp), hm i (by simp)]
  rfl
theorem K9 (x) : fj P T ⟨d, .nilCheck x, ty, pos, af, gd⟩ recs K L st = er (true) ([]) ⟨d, .nilCheck x, ty, pos, af, gd⟩ recs K L st (mono (jr (cg L x))) := by
  unfold fj j5 kx er
  simp only [iy, cond_true]
  have hm : ∀ y, y ∈ ([x] : List Operand) → bt ⟨d, .nilCheck x, ty, pos, af, gd⟩ L y = cg L y := fun y hy => eb (by simpa [Op.operands, Call.operands] using hy)
  have hmap : ([x] : List Operand).map (bt ⟨d, .nilCheck x, ty, pos, af, gd⟩ L) = ([x] : List Operand).map (cg L) := gq (fun y hy => by simpa [Op.operands, Call.operands] using hy)
  have ho : (⟨d, .nilCheck x, ty, pos, af, gd⟩ : Oper).op.operands.toList = [x] := by simp [Op.operands, Call.operands]
  rw [zw, hm x (by simp)]
  rfl
theorem Vb (t) : fj P T ⟨d, .alloc t, ty, pos, af, gd⟩ recs K L st = er (true) (reach st.h eh [] []) ⟨d, .alloc t, ty, pos, af, gd⟩ recs K L st (mono (qk P t)) := by
  unfold fj j5 kx er
  simp only [iy, cond_false]
  have hm : ∀ y, y ∈ ([] : List Operand) → bt ⟨d, .alloc t, ty, pos, af, gd⟩ L y = cg L y := fun y hy => eb (by simpa [Op.operands, Call.operands] using hy)
  have hmap : ([] : List Operand).map (bt ⟨d, .alloc t, ty, pos, af, gd⟩ L) = ([] : List Operand).map (cg L) := gq (fun y hy => by simpa [Op.operands, Call.operands] using hy)
  have ho : (⟨d, .alloc t, ty, pos, af, gd⟩ : Oper).op.operands.toList = [] := by simp [Op.operands, Call.operands]
  rw [ho, hmap]
  rfl
theorem Wu (t ps) : fj P T ⟨d, .build t ps, ty, pos, af, gd⟩ recs K L st = er (true) (reach st.h eh (AV.names.go ((ps.toList.map (·.2)).map (cg L))) []) ⟨d, .build t ps, ty, pos, af, gd⟩ recs K L st (mono (pq P t (ps.toList.map fun p => (p.1, cg L p.2)))) := by
  unfold fj j5 kx er
  simp only [iy, cond_false]
  have hm : ∀ y, y ∈ ((ps.toList.map (·.2)) : List Operand) → bt ⟨d, .build t ps, ty, pos, af, gd⟩ L y = cg L y := fun y hy => eb (by simpa [Op.operands, Call.operands] using hy)
  have hmap : ((ps.toList.map (·.2)) : List Operand).map (bt ⟨d, .build t ps, ty, pos, af, gd⟩ L) = ((ps.toList.map (·.2)) : List Operand).map (cg L) := gq (fun y hy => by simpa [Op.operands, Call.operands] using hy)
  have ho : (⟨d, .build t ps, ty, pos, af, gd⟩ : Oper).op.operands.toList = (ps.toList.map (·.2)) := by simp [Op.operands, Call.operands]
  rw [ho, hmap]
  rw [Fb, N4 (fun x hx => by simp [Op.operands]; exact ⟨_, by simpa using hx⟩)]
  rfl
theorem F8 (t n ps) : fj P T ⟨d, .buildSlice t n ps, ty, pos, af, gd⟩ recs K L st = er (true) (reach st.h eh (AV.names.go ((ps.toList.map (·.2)).map (cg L))) []) ⟨d, .buildSlice t n ps, ty, pos, af, gd⟩ recs K L st (mono (jc P t n (ps.toList.map fun p => (p.1, cg L p.2)))) := by
  unfold fj j5 kx er
  simp only [iy, cond_false]
  have hm : ∀ y, y ∈ ((ps.toList.map (·.2)) : List Operand) → bt ⟨d, .buildSlice t n ps, ty, pos, af, gd⟩ L y = cg L y := fun y hy => eb (by simpa [Op.operands, Call.operands] using hy)
  have hmap : ((ps.toList.map (·.2)) : List Operand).map (bt ⟨d, .buildSlice t n ps, ty, pos, af, gd⟩ L) = ((ps.toList.map (·.2)) : List Operand).map (cg L) := gq (fun y hy => by simpa [Op.operands, Call.operands] using hy)
  have ho : (⟨d, .buildSlice t n ps, ty, pos, af, gd⟩ : Oper).op.operands.toList = (ps.toList.map (·.2)) := by simp [Op.operands, Call.operands]
  rw [ho, hmap]
  rw [xj, N4 (fun x hx => by simp [Op.operands]; exact ⟨_, by simpa using hx⟩)]
  rfl
theorem Vk (t x l h m) : fj P T ⟨d, .slice t x l h m, ty, pos, af, gd⟩ recs K L st = er (true) (reach st.h eh (AV.names.go ((#[x] ++ l.toArray ++ h.toArray ++ m.toArray).toList.map (cg L))) []) ⟨d, .slice t x l h m, ty, pos, af, gd⟩ recs K L st (mono (qi P (bt ⟨d, .slice t x l h m, ty, pos, af, gd⟩ L) ⟨d, .slice t x l h m, ty, pos, af, gd⟩ t x l h m)) := by
  unfold fj j5 kx er
  simp only [iy, cond_false]
  have hm : ∀ y, y ∈ ((#[x] ++ l.toArray ++ h.toArray ++ m.toArray).toList : List Operand) → bt ⟨d, .slice t x l h m, ty, pos, af, gd⟩ L y = cg L y := fun y hy => eb (by simpa [Op.operands, Call.operands] using hy)
  have hmap : ((#[x] ++ l.toArray ++ h.toArray ++ m.toArray).toList : List Operand).map (bt ⟨d, .slice t x l h m, ty, pos, af, gd⟩ L) = ((#[x] ++ l.toArray ++ h.toArray ++ m.toArray).toList : List Operand).map (cg L) := gq (fun y hy => by simpa [Op.operands, Call.operands] using hy)
  have ho : (⟨d, .slice t x l h m, ty, pos, af, gd⟩ : Oper).op.operands.toList = (#[x] ++ l.toArray ++ h.toArray ++ m.toArray).toList := by simp [Op.operands, Call.operands]
  rw [ho, hmap]
  rfl
theorem aog (op t x) : fj P T ⟨d, .unOp op t x, ty, pos, af, gd⟩ recs K L st = er (true) (reach st.h eh (AV.names.go ([x].map (cg L))) []) ⟨d, .unOp op t x, ty, pos, af, gd⟩ recs K L st (mono (gx P (bt ⟨d, .unOp op t x, ty, pos, af, gd⟩ L) ⟨d, .unOp op t x, ty, pos, af, gd⟩ [x])) := by
  unfold fj j5 kx er
  simp only [iy, cond_false]
  have hm : ∀ y, y ∈ ([x] : List Operand) → bt ⟨d, .unOp op t x, ty, pos, af, gd⟩ L y = cg L y := fun y hy => eb (by simpa [Op.operands, Call.operands] using hy)
  have hmap : ([x] : List Operand).map (bt ⟨d, .unOp op t x, ty, pos, af, gd⟩ L) = ([x] : List Operand).map (cg L) := gq (fun y hy => by simpa [Op.operands, Call.operands] using hy)
  have ho : (⟨d, .unOp op t x, ty, pos, af, gd⟩ : Oper).op.operands.toList = [x] := by simp [Op.operands, Call.operands]
  rw [ho, hmap]
  rfl
theorem af1 (x ts) : fj P T ⟨d, .call { callee := .builtin .len, args := #[x], argTypes := ts }, ty, pos, af, gd⟩ recs K L st = er (true) ([]) ⟨d, .call { callee := .builtin .len, args := #[x], argTypes := ts }, ty, pos, af, gd⟩ recs K L st (mono (qo ((ts[0]?).bind P.underlying) (cg L x))) := by
  unfold fj j5 kx er
  simp only [iy, cond_true]
  have hm : ∀ y, y ∈ ([x] : List Operand) → bt ⟨d, .call { callee := .builtin .len, args := #[x], argTypes := ts }, ty, pos, af, gd⟩ L y = cg L y := fun y hy => eb (by simpa [Op.operands, Call.operands] using hy)
  have hmap : ([x] : List Operand).map (bt ⟨d, .call { callee := .builtin .len, args := #[x], argTypes := ts }, ty, pos, af, gd⟩ L) = ([x] : List Operand).map (cg L) := gq (fun y hy => by simpa [Op.operands, Call.operands] using hy)
  have ho : (⟨d, .call { callee := .builtin .len, args := #[x], argTypes := ts }, ty, pos, af, gd⟩ : Oper).op.operands.toList = [x] := by simp [Op.operands, Call.operands]
  rw [Jg, hm x (by simp)]
  rfl
theorem Ty (s x ts) : fj P T ⟨d, .call { callee := .builtin .append, args := #[s, x], argTypes := ts }, ty, pos, af, gd⟩ recs K L st = er (false) (reach st.h eh (AV.names.go ([s, x].map (cg L))) []) ⟨d, .call { callee := .builtin .append, args := #[s, x], argTypes := ts }, ty, pos, af, gd⟩ recs K L st (mono (mh P ts[0]? ((ts[1]?).bind P.underlying) (cg L s) (cg L x))) := by
  unfold fj j5 kx er
  simp only [iy, cond_false]
  have hm : ∀ y, y ∈ ([s, x] : List Operand) → bt ⟨d, .call { callee := .builtin .append, args := #[s, x], argTypes := ts }, ty, pos, af, gd⟩ L y = cg L y := fun y hy => eb (by simpa [Op.operands, Call.operands] using hy)
  have hmap : ([s, x] : List Operand).map (bt ⟨d, .call { callee := .builtin .append, args := #[s, x], argTypes := ts }, ty, pos, af, gd⟩ L) = ([s, x] : List Operand).map (cg L) := gq (fun y hy => by simpa [Op.operands, Call.operands] using hy)
  have ho : (⟨d, .call { callee := .builtin .append, args := #[s, x], argTypes := ts }, ty, pos, af, gd⟩ : Oper).op.operands.toList = [s, x] := by simp [Op.operands, Call.operands]
  rw [ho, hmap]
  rw [Dt, hm s (by simp), hm x (by simp)]
  rfl
theorem abl (f args ts) : fj P T ⟨d, .call { callee := .value f, args, argTypes := ts }, ty, pos, af, gd⟩ recs K L st = er (qt T (cg L) ⟨d, .call { callee := .value f, args, argTypes := ts }, ty, pos, af, gd⟩) (reach st.h eh (AV.names.go ((f :: args.toList).map (cg L))) []) ⟨d, .call { callee := .value f, args, argTypes := ts }, ty, pos, af, gd⟩ recs K L st (tn T (cg L f) (args.toList.map (cg L))) := by
  unfold fj j5 kx er
  simp only [iy, cond_false]
  have h1 : ⟨d, .call { callee := .value f, args, argTypes := ts }, ty, pos, af, gd⟩ = (⟨d, .call { callee := .value f, args, argTypes := ts }, ty, pos, af, gd⟩ : Oper) := rfl
  have hf : bt ⟨d, .call { callee := .value f, args, argTypes := ts }, ty, pos, af, gd⟩ L f = cg L f := eb (by simp [Op.operands, Call.operands])
  have ha : args.toList.map (bt ⟨d, .call { callee := .value f, args, argTypes := ts }, ty, pos, af, gd⟩ L) = args.toList.map (cg L) := gq (fun x hx => by simp [Op.operands, Call.operands]; exact .inr (by simpa using hx))
  have hr : qt T (bt ⟨d, .call { callee := .value f, args, argTypes := ts }, ty, pos, af, gd⟩ L) ⟨d, .call { callee := .value f, args, argTypes := ts }, ty, pos, af, gd⟩ = qt T (cg L) ⟨d, .call { callee := .value f, args, argTypes := ts }, ty, pos, af, gd⟩ := by simp only [qt, hf]
  have ho : (⟨d, .call { callee := .value f, args, argTypes := ts }, ty, pos, af, gd⟩ : Oper).op.operands.toList.map (bt ⟨d, .call { callee := .value f, args, argTypes := ts }, ty, pos, af, gd⟩ L) = (f :: args.toList).map (cg L) := by
    show ((#[f] ++ args).toList).map _ = _
    simp only [Array.toList_append, List.map_append, ha, List.map_cons, hf]
    rfl
  rw [hr, ho]
  show Dq _ _ _ _ _ _ _ (tn T (bt _ L f) (args.toList.map (bt _ L)) _) = _
  rw [hf, ha]
theorem M2 (n args ts) : qt T (cg L) ⟨d, .call { callee := .value (.func n), args, argTypes := ts }, ty, pos, af, gd⟩ = roT (T.find n) := by simp only [qt, cg]; rfl
end ops
theorem V3 (P T ops K L st) : Co P T ops true K L st = (lq ops = true ∧ (Cy P T ops ops.toList K [] L st ∨ I7 P T ops ops.toList K [] L st)) := id rfl
theorem U9 (n) : D1 n [] = true := id rfl
theorem S1 (n o r) : D1 n (o :: r) = (Nat.blt o n && D1 n r) := id rfl
theorem Y2 (h h') : same h h' [] = True := id rfl
theorem Wv (h h' o r) : same h h' (o :: r) = (h.get o = h'.get o ∧ same h h' r) := id rfl
theorem Vd (h) : jw h [] = .nil := id rfl
theorem Sn (h o r) : jw h (o :: r) = Tr.set depth (jw h r) o (h.get o) := id rfl
theorem Q5 (h1 h) : oq h1 [] h = h := id rfl
theorem N2 (h1 o r h) : oq h1 (o :: r) h = Tr.set depth (oq h1 r h) o (h1.get o) := id rfl
theorem Vw (t ts v vs) : ma (t :: ts) (v :: vs) = (t, v) :: ma ts vs := id rfl
theorem V9 (P T f ps A B p Q L0 st0) : alb P T f ps A B p Q L0 st0 = (Nat.ble p 1000 = true ∧ I4 P T ps A B p Q L0 st0 (wv (cg L0 f))) := id rfl
theorem aaz (P T ps A B p Q L0 st0 g caps) : I4 P T ps A B p Q L0 st0 (some (g, caps)) = J5 P T ps A B p Q L0 st0 caps (vc P g) := id rfl
theorem aby (P T ps A B p Q L0 st0 caps nt code) : J5 P T ps A B p Q L0 st0 caps (some (nt, code)) = (Nat.ble (caps.length + 1) nt = true ∧ ∀ l : Nat, ou P T l (nb ps A B L0) p code (adm Q L0) none (cq 0 (.sc (.func (.yield l) #[] #[]) :: caps)) st0) := id rfl
theorem V6 (g c) : wv (.fn (.func g) [] c) = some (g, c) := id rfl
theorem D4 {P : Program} {T : dw} {l : Nat} {az : Nat} {L : SL} {st : St} {Q : QI} {ps : List Tmp} {ra rb : Code} {L0 : SL} {α : Type} {b : Code} (keep : List Nat) (V : α → List AV) (O : α → List (Option ba)) (I : α → Prop) (μ : α → Nat) (x : α) (hx : I x)
    (hv : j6 az keep L st = V x) (ho : gb az keep L st = O x)
    (step : ∀ x, I x → ou P T l (nb ps (fun p => wl P T p ra) (fun p => wl P T p rb) L0) az b (yk (w6 az keep (fun vs os => ∃ y, I y ∧ μ y < μ x ∧ vs = V y ∧ os = O y) (fun _ _ _ => False)) Q) none (ma keep (V x)) (bm (O x))) : ou P T l (nb ps (fun p => wl P T p ra) (fun p => wl P T p rb) L0) az (.loop b) Q none L st :=
  an7 (keep := keep) (V := V) (O := O) (I := I) (μ := μ) (x := x) (hx := hx) (hR := M9 P T) (hv := hv) (ho := ho) (step := step)
theorem yj {P : Program} {T : dw} {R : Gc} {az : Nat} {L : SL} {st : St} {o : Oper} {K : Option Ex → SL → St → Prop} {args : Array Operand} (keep : List Nat) (h : zc R (gb az keep L st).length args o.dst K (ma keep (j6 az keep L st)) (bm (gb az keep L st))) : T3 P T R az o K none L st (some args) := ⟨rfl, keep, h⟩
theorem G3 (P : Program) : ∀ s : Sem Value, ev P (do pure (Next.value (← s))) = (ev P s).map Next.value := by
  intro s
  induction s with
  | pure b => rfl
  | program k ih => exact ih P
  | choose q k ih =>
    simp only [bind, Sem.bind, ev]
    split
    · exact ih 0
    · rfl
  | mark m k ih => exact ih
  | _ => rfl
def ab5 (m : M AV) : M AV := m
def Zs (a : AV) (m : M AV) : M AV :=
  match a.bool with
  | some b => M.pure (.sc (.bool (!b)))
  | none => m
theorem akq (b : Bool) (m : M AV) : Zs (.sc (.bool b)) m = M.pure (.sc (.bool (!b))) := id rfl
theorem ar0 {a : AV} {b : Bool} (h : a.bool = some b) : a = .sc (.bool b) := by
  unfold AV.bool AV.exact n7 at h
  cases a with
  | sc v => cases v <;> simp at h; rw [h]
  | _ => cases h
theorem Ra (P : Program) (ρ : Operand → AV) (d ty pos af gd) (t : TypeId) (x : Operand) : gx P ρ ⟨d, .unOp .not t x, ty, pos, af, gd⟩ [x] = Zs (ρ x) (ab5 (gx P ρ ⟨d, .unOp .not t x, ty, pos, af, gd⟩ [x])) := by
  unfold Zs
  split
  · rename_i b hb
    have hx := ar0 hb
    have h2 : execOp (fun z => ((ρ z).fm).getD undef) ⟨d, .unOp .not t x, ty, pos, af, gd⟩ = (do pure (Next.value (← Op.unary .not (.bool b)))) := by
      simp only [execOp, hx, AV.fm, Option.getD_some]
    unfold gx j0 qw
    simp only [List.all_cons, List.all_nil, hx, AV.fm, Option.isSome_some, Bool.and_true, cond_true]
    rw [h2, G3]
    rfl
  · rfl
theorem W7 (P : Program) (T : dw) (ρ : Operand → AV) (d ty pos af gd) (t : TypeId) (x : Operand) : fi P T ⟨d, .unOp .not t x, ty, pos, af, gd⟩ ρ = mono (Zs (ρ x) (ab5 (gx P ρ ⟨d, .unOp .not t x, ty, pos, af, gd⟩ [x]))) := by
  exact congrArg mono (Ra ..)
theorem ag1 (P : Program) (T : dw) (L : SL) (st : St) (recs : List Rec) (K : List Rec → SL → St → Prop) (d ty pos af gd) (t x) : fj P T ⟨d, .unOp .not t x, ty, pos, af, gd⟩ recs K L st = er true (reach st.h eh (AV.names.go ([x].map (cg L))) []) ⟨d, .unOp .not t x, ty, pos, af, gd⟩ recs K L st (mono (Zs (cg L x) (ab5 (gx P (bt ⟨d, .unOp .not t x, ty, pos, af, gd⟩ L) ⟨d, .unOp .not t x, ty, pos, af, gd⟩ [x])))) := by
  rw [aog]
  have h := Ra P (bt ⟨d, .unOp .not t x, ty, pos, af, gd⟩ L) d ty pos af gd t x
  rw [eb (by simp [Op.operands])] at h
  rw [← h]
theorem Ow (l : List UInt8) : bytesOf (l.map Aq) = some l := by rw [Dd, wx]
theorem N7 (a b : ByteArray) : Cx.il [.sc (.string a), .sc (.string b)] = M.pure (.sc (goInt (Lib.compareBytes a.data.toList b.data.toList))) := by
  unfold Cx.il cellsIn
  simp only [Nat.beq_refl, cond_true]
  unfold M.bind M.pure
  simp only [Ow]
  rfl
theorem F6 {α : Type} (C : da α) (f : Bool) (h : C.sz = 1) (ha : C.agg = false) (l : List α) : (l.map (C.val f)).flatMap AV.cells = l.map (C.val f) := by
  induction l with
  | nil => rfl
  | cons x l ih =>
    simp only [List.map_cons, List.flatMap_cons, ih]
    obtain ⟨c, h1, h2, _⟩ := C.one ha f x
    have : C.val f x = c := by simp [da.val, ha, h1]
    rw [this, h2]; rfl
theorem Nk (f g : Bool) (a b : List UInt8) : Cx.il [.vl f 1 (a.map (bz.val f)), .vl g 1 (b.map (bz.val g))] = M.pure (.sc (goInt (Lib.compareBytes a b))) := by
  unfold Cx.il cellsIn
  simp only [Nat.beq_refl, cond_true, F6 bz _ rfl rfl]
  unfold M.bind M.pure
  simp only [wx]
  rfl
theorem Nt {L : SL} {d ty pos af gd} {op t u x y} : bt ⟨d, .binOp op t x y u, ty, pos, af, gd⟩ L x = cg L x := eb (by simp [Op.operands])
theorem Nb {L : SL} {d ty pos af gd} {op t u x y} : bt ⟨d, .binOp op t x y u, ty, pos, af, gd⟩ L y = cg L y := eb (by simp [Op.operands])
theorem Ry {L : SL} {d ty pos af gd} {h l m t x} : bt ⟨d, .slice t x l h m, ty, pos, af, gd⟩ L x = cg L x := eb (by simp [Op.operands])
theorem Rn {L : SL} {d ty pos af gd} {h l m t x} : bt ⟨d, .slice t x l (some h) m, ty, pos, af, gd⟩ L h = cg L h := eb (by simp [Op.operands])
def ye (P : Program) (ρ : Operand → AV) (o : Oper) (l : List Operand) : M AV := gx P ρ o l
def adx (u : Option TypeDesc) (a ix : AV) (m : M AV) : M AV :=
  match u with
  | some .string =>
    match a with
    | .sc (.string s) =>
      match ix with
      | .sc (.int _ n) =>
        match (bif decide (0 ≤ n) then s.data.toList[n.toNat]? else none) with
        | some b => M.pure (.sc (.int .u8 b.toNat))
        | none => m
      | _ => m
    | _ => m
  | _ => m
theorem abt (s : ByteArray) (k : IntKind) (n : Int) (m : M AV) : adx (some .string) (.sc (.string s)) (.sc (.int k n)) m = match (bif decide (0 ≤ n) then s.data.toList[n.toNat]? else none) with | some b => M.pure (.sc (.int .u8 b.toNat)) | none => m := id rfl
theorem Jx (P : Program) (ρ : Operand → AV) (d ty pos af gd) (t : TypeId) (x i : Operand) : gx P ρ ⟨d, .index t x i, ty, pos, af, gd⟩ [x, i] = adx (P.underlying t) (ρ x) (ρ i) (ye P ρ ⟨d, .index t x i, ty, pos, af, gd⟩ [x, i]) := by
  unfold adx
  split
  · rename_i hu
    split
    · rename_i s hx
      split
      · rename_i k n hi
        split
        · rename_i b hb
          cases h0 : decide (0 ≤ n) with
          | false => rw [h0] at hb; cases hb
          | true =>
          rw [h0, cond_true] at hb
          have h0 : 0 ≤ n := by simpa using h0
          have hb' : s[n.toNat]? = some b := by
            obtain ⟨h1, h2⟩ := List.getElem?_eq_some_iff.1 hb
            simp at h1
            rw [getElem?_pos s n.toNat (by simpa using h1)]
            rw [← h2]; rfl
          have h2 : execOp (fun z => ((ρ z).fm).getD undef) ⟨d, .index t x i, ty, pos, af, gd⟩ = (do pure (Next.value (← Instr.index t (.string s) (.int k n)))) := by
            simp only [execOp, hx, hi, AV.fm, Option.getD_some]
          unfold gx j0 qw
          simp only [List.all_cons, List.all_nil, hx, hi, AV.fm, Option.isSome_some, Bool.and_true, cond_true]
          rw [h2, G3]
          have h3 : ev P (Instr.index t (.string s) (.int k n)) = some (.int .u8 b.toNat) := by
            simp [Instr.index, asIntOf, underlying, program, ev, hu, h0, hb', bind, Sem.bind, pure]
          rw [h3]
          rfl
        · rfl
      · rfl
    · rfl
  · rfl
theorem O1 (a n : Nat) : (a : Int).fdiv (n : Int) = ((a / n : Nat) : Int) := by
  rw [Int.fdiv_eq_ediv_of_nonneg _ (by omega)]; rfl
theorem aab (a : Nat) : (a : Int).fdiv 256 = ((a / 256 : Nat) : Int) := O1 a 256
theorem Qo (a : Nat) : (a : Int).fdiv 65536 = ((a / 65536 : Nat) : Int) := O1 a 65536
theorem Ig (a : Nat) : (a : Int).fdiv 16777216 = ((a / 16777216 : Nat) : Int) := O1 a 16777216
theorem Zg (f : Nat) (m) (T : dw) : dw.find ((f, m) :: T) f = some m := by simp [dw.find]
theorem Wr (f g : Nat) (m) (T : dw) (h : (f == g) = false) : dw.find ((f, m) :: T) g = dw.find T g := by
  have e : f ≠ g := by simpa using h
  simp [dw.find, ll e]
end
end Go.Vm
end
namespace Go.Vm
noncomputable section
def z7 (P : Program) (t : TypeId) : Option (Nat × Nat × Nat) :=
  match od P t with
  | some e =>
    match de P e, j7 P e, ey P e with
    | some sz, some bytes, some z => bif Nat.blt 0 sz && Nat.blt 0 bytes && Nat.beq z.cells.size sz then some (e, sz, bytes) else none
    | _, _, _ => none
  | none => none
end
end Go.Vm
section
set_option linter.unusedSimpArgs false
set_option linter.unusedVariables false
namespace Go.Vm
noncomputable section
def abh (q : Option (Nat × Nat × Nat)) (s x : AV) : M AV :=
  match q with
  | some (e, sz, bytes) => (cellsIn sz x).bind (nh e sz bytes s)
  | none => M.fail
theorem amz (e sz bytes s x) : abh (some (e, sz, bytes)) s x = (cellsIn sz x).bind (nh e sz bytes s) := id rfl
theorem Tm (P : Program) (t e : TypeId) (s x : AV) : mh P (some t) (some (.slice e)) s x = abh (z7 P t) s x := by
  unfold mh abh z7
  simp only [Option.bind_some]
  cases od P t with
  | none => rfl
  | some e =>
    simp only
    cases de P e with
    | none => rfl
    | some sz =>
      cases j7 P e with
      | none => rfl
      | some bytes =>
        cases ey P e with
        | none => rfl
        | some z =>
          simp only
          cases (Nat.blt 0 sz && Nat.blt 0 bytes && Nat.beq z.cells.size sz) <;> rfl
theorem S5 (P : Program) (t : TypeId) (s x : AV) : mh P (some t) (some .string) s x = abh (z7 P t) s x := by
  unfold mh abh z7
  simp only [Option.bind_some]
  cases od P t with
  | none => rfl
  | some e =>
    simp only
    cases de P e with
    | none => rfl
    | some sz =>
      cases j7 P e with
      | none => rfl
      | some bytes =>
        cases ey P e with
        | none => rfl
        | some z =>
          simp only
          cases (Nat.blt 0 sz && Nat.blt 0 bytes && Nat.beq z.cells.size sz) <;> rfl
theorem Of (e sz bytes new) : nh e sz bytes (.sc (.slice none 0 0)) new = bif new.isEmpty then M.pure (.sc (.slice none 0 0)) else bif Nat.ble (new.length * bytes) 140737488355328 then ke e sz (new.length / sz) new else M.fail := id rfl
theorem Ru (e sz bytes o off len sz' new) : nh e sz bytes (.sl o off len sz') new = bif Nat.beq sz sz' then (cj o).bind (x9 e sz bytes o off len new) else M.fail := id rfl
theorem Mu (e sz bytes o off len new cells k st et) : x9 e sz bytes o off len new (.row cells k st et) = (bif Nat.beq et e && new.all AV.one && Nat.ble (off + len * sz) cells.length && Nat.ble ((len * sz + new.length) * bytes) 140737488355328 then
      bif Nat.ble k (off + len * sz) then
        (uz o).bind fun _ => (g9 (.row ((cells.take (off + len * sz)).drop off ++ new) (k - off) (qe st) et)).bind fun id => M.pure (.sl id 0 (len + new.length / sz) sz)
      else bif new.isEmpty then M.pure (.sl o off len sz)
      else M.fail
    else M.fail) := id rfl
theorem aqr : qe 0 = 0 := id rfl
def cellsOf {α : Type} (C : da α) (f : Bool) (xs : List α) : List AV := xs.flatMap (C.cells f)
theorem Ni {α : Type} (C : da α) (f) : cellsOf C f [] = [] := id rfl
theorem wz {α : Type} (C : da α) (f) (xs : List α) : (cellsOf C f xs).length = xs.length * C.sz := by
  induction xs with
  | nil => simp [cellsOf]
  | cons x xs ih =>
    simp only [cellsOf] at ih
    simp [cellsOf, C.len, ih, Nat.succ_mul]; omega
theorem w4 {α : Type} (C : da α) (f) (xs ys : List α) : cellsOf C f (xs ++ ys) = cellsOf C f xs ++ cellsOf C f ys := by simp [cellsOf]
theorem Nr {α : Type} (C : da α) (f) (x : α) : cellsOf C f [x] = C.cells f x := by simp [cellsOf]
theorem uv {α : Type} (C : da α) (f) (xs : List α) : (cellsOf C f xs).all AV.one = true := by
  rw [List.all_eq_true]
  intro c hc
  obtain ⟨x, _, hx⟩ := List.mem_flatMap.1 hc
  exact (C.pl f x c hx).one
theorem Iy {α : Type} (C : da α) (f) (xs : List α) : AV.names.go (cellsOf C f xs) = [] := Fh (fun c hc => by
  obtain ⟨x, _, hx⟩ := List.mem_flatMap.1 hc
  exact (C.pl f x c hx).names)
theorem M8 {α : Type} (C : da α) (τ) (f) (xs : List α) : (cellsOf C f xs).map (AV.c9 τ) = cellsOf C f xs := by
  rw [← jn]
  exact Pm (fun c hc => by
    obtain ⟨x, _, hx⟩ := List.mem_flatMap.1 hc
    exact (C.pl f x c hx).c9 τ)
theorem J7 {α : Type} (C : da α) (f) (xs : List α) (i : Nat) : (cellsOf C f xs).drop (i * C.sz) = cellsOf C f (xs.drop i) := by
  induction xs generalizing i with
  | nil => simp [cellsOf]
  | cons x xs ih =>
    cases i with
    | zero => simp
    | succ i =>
      have : (i + 1) * C.sz = C.sz + i * C.sz := by rw [Nat.succ_mul]; omega
      rw [this, ← List.drop_drop]
      have h1 : (cellsOf C f (x :: xs)).drop C.sz = cellsOf C f xs := by
        have h2 : cellsOf C f (x :: xs) = C.cells f x ++ cellsOf C f xs := by simp [cellsOf]
        rw [h2, ← C.len f x, List.drop_left]
      rw [h1, ih, List.drop_succ_cons]
theorem aah {α : Type} (C : da α) (f) (xs : List α) (i : Nat) : (cellsOf C f xs).take (i * C.sz) = cellsOf C f (xs.take i) := by
  induction xs generalizing i with
  | nil => simp [cellsOf]
  | cons x xs ih =>
    cases i with
    | zero => simp [cellsOf]
    | succ i =>
      have h2 : cellsOf C f (x :: xs) = C.cells f x ++ cellsOf C f xs := by simp [cellsOf]
      have : (i + 1) * C.sz = (C.cells f x).length + i * C.sz := by rw [Nat.succ_mul, C.len]; omega
      rw [h2, this, List.take_length_add_append, ih, List.take_succ_cons]
      simp [cellsOf]
theorem Cr {α : Type} (C : da α) (f) (x : α) (xs : List α) : cellsOf C f (x :: xs) = C.cells f x ++ cellsOf C f xs := by simp [cellsOf]
theorem Gw {α : Type} {xs : List α} {i : Nat} {x : α} (h : xs[i]? = some x) : xs.drop i = x :: xs.drop (i + 1) := by
  obtain ⟨h1, h2⟩ := List.getElem?_eq_some_iff.1 h
  rw [← h2]; exact List.drop_eq_getElem_cons h1
theorem Dh {α : Type} (C : da α) (f) (xs : List α) : (xs.map (C.val f)).flatMap AV.cells = cellsOf C f xs := by
  rw [List.flatMap_map]; congr 1; funext x; exact C.E4 f x
theorem vk {α : Type} (C : da α) (fr : Bool) (h : Tr ba) (f : Bool) (xs : List α) (k st et) (n : Nat) (hn : n = xs.length) (hf : (f || !fr) = true) : lj C fr h 0 n (.row (cellsOf C f xs) k st et) = some xs := by
  subst hn
  simp only [lj, Nat.zero_add, wz, Nat.ble_self_eq_true, cond_true, List.drop_zero]
  have : (cellsOf C f xs).take (xs.length * C.sz) = cellsOf C f xs := List.take_of_length_le (by rw [wz]; exact Nat.le_refl _)
  rw [this]
  exact W0 C fr h f (fun e => by subst e; simpa using hf) xs
theorem Qw {α : Type} (C : da α) (fr h cells k st et) : lj C fr h 0 0 (.row cells k st et) = some [] := by
  have h : Nat.ble 0 cells.length = true := Nat.ble_eq_true_of_le (Nat.zero_le _)
  simp [lj, zl, h]
def qa {α : Type} (C : da α) (fr : Bool) (h : Tr ba) : List AV → Option (List α)
  | [] => some []
  | a :: l => match C.dec fr h [a], qa C fr h l with
    | some x, some xs => some (x :: xs)
    | _, _ => none
def as3 {α : Type} (a b : Option (List α)) : Option (List α) := match a, b with | some x, some y => some (x ++ y) | _, _ => none
def aq6 {α : Type} (a : Option α) (b : Option (List α)) : Option (List α) := match a, b with | some x, some y => some (x :: y) | _, _ => none
theorem ak3 {α : Type} (a b : List α) : as3 (some a) (some b) = some (a ++ b) := id rfl
theorem afm {α : Type} (a : α) (b : List α) : aq6 (some a) (some b) = some (a :: b) := id rfl
theorem P0 {α : Type} (C : da α) (fr h) : qa C fr h [] = some [] := id rfl
theorem En {α : Type} (C : da α) (fr h a l) : qa C fr h (a :: l) = aq6 (C.dec fr h [a]) (qa C fr h l) := id rfl
theorem O3 {α : Type} (C : da α) (fr h) : ∀ a b, qa C fr h (a ++ b) = as3 (qa C fr h a) (qa C fr h b)
  | [], b => by
    simp only [List.nil_append, P0]
    cases qa C fr h b <;> rfl
  | x :: a, b => by
    simp only [List.cons_append, En, O3 C fr h a b]
    cases C.dec fr h [x] <;> cases qa C fr h a <;> cases qa C fr h b <;> rfl
theorem aa6 {α : Type} (C : da α) (hz : C.sz = 1) (fr h) : ∀ cells : List AV, zl C fr h cells.length cells = qa C fr h cells
  | [] => rfl
  | a :: l => by
    have h1 : (a :: l).take C.sz = [a] := by rw [hz]; rfl
    have h2 : (a :: l).drop C.sz = l := by rw [hz]; rfl
    simp only [List.length_cons, zl, h1, h2, aa6 C hz fr h l]
    rfl
theorem wc {α : Type} (C : da α) (hz : C.sz = 1) (fr h n cells k st et) (hn : n = cells.length) : lj C fr h 0 n (.row cells k st et) = qa C fr h cells := by
  subst hn
  simp only [lj, hz, Nat.mul_one, Nat.zero_add, Nat.ble_self_eq_true, cond_true, List.drop_zero, List.take_length]
  exact aa6 C hz fr h cells
theorem Cv {α : Type} (C : da α) (hz : C.sz = 1) (ha : C.agg = false) (fr h f) (hf : fr = true → f = true) : ∀ l : List α, qa C fr h (l.map (C.val f)) = some l
  | [] => rfl
  | x :: l => by
    obtain ⟨c, h1, _⟩ := C.one ha f x
    have hv : C.val f x = c := by simp [da.val, ha, h1]
    have hd := C.rt fr h f x hf
    rw [h1] at hd
    rw [List.map_cons, En, Cv C hz ha fr h f hf l, hv, hd]; rfl
theorem aaq {α β : Type} (f : α → β) (l : List α) (n : Nat) : (l.map f).take n = (l.take n).map f := List.map_take.symm
theorem Zf {α β : Type} (f : α → β) (l : List α) (n : Nat) : (l.map f).drop n = (l.drop n).map f := List.map_drop.symm
theorem Cw {α β : Type} (f : α → β) (l : List α) : (l.map f).isEmpty = l.isEmpty := by cases l <;> rfl
theorem Es {α : Type} (l : List α) (x : α) : (l ++ [x]).isEmpty = false := by cases l <;> rfl
theorem F9 (a b : List AV) : AV.names.go (a ++ b) = AV.names.go a ++ AV.names.go b := by
  induction a with
  | nil => rfl
  | cons x a ih => simp only [List.cons_append, AV.names.go, ih, List.append_assoc]
theorem rtT {α : Type} (C : da α) (h : Tr ba) (x : α) : C.ew true h (C.val true x) = some x := C.Ja true h true x (fun _ => rfl)
theorem rtF {α : Type} (C : da α) (h : Tr ba) (l : Bool) (x : α) : C.ew false h (C.val l x) = some x := C.Ja false h l x (fun e => by cases e)
theorem Z2 (s : ByteArray) : s.data.toList.length = s.size := by simp
theorem agz {α : Type} {l : List α} {n : Nat} (h : l.length ≤ n) : l.take n = l := List.take_of_length_le h
theorem awa {α : Type} (C : da α) (fr : Bool) (h : Tr ba) (x : α) : C.ew fr h (C.val fr x) = some x := C.Ja fr h fr x (fun e => e)
theorem cd {a b : Nat} (h : a ≤ b) : decide (a ≤ b) = true := by simpa using h
theorem ca {a b : Nat} (h : a < b) : decide (a < b) = true := by simpa using h
theorem cf {a b : Int} (h : a ≤ b) : decide (a ≤ b) = true := by simpa using h
theorem cb {a b : Int} (h : a < b) : decide (a < b) = true := by simpa using h
theorem ai (x : Int) (h0 : -9223372036854775808 ≤ x) (h1 : x < 9223372036854775808) : IntKind.i64.wrap x = x := by
  simp [IntKind.wrap, IntKind.bits, IntKind.signed]; omega
theorem alx (n : Nat) : IntKind.u8.wrap (n : Int) = ((UInt8.ofNat n).toNat : Int) := by simp [IntKind.wrap, IntKind.bits, IntKind.signed]
theorem b9 {p : Prop} [Decidable p] {X Y : SL → St → Prop} {L st} : u9 (.sc (.bool (decide p))) X Y L st = ((p → X L st) ∧ (¬ p → Y L st)) := by
  by_cases h : p <;> simp [h, Gk, Ge]
theorem c7 {a b : Int} {X Y : SL → St → Prop} {L st} : u9 (.sc (.bool (a == b))) X Y L st = (((a == b) = true ∧ a = b → X L st) ∧ ((a == b) = false ∧ a ≠ b → Y L st)) := by
  by_cases h : a = b
  · subst h; simp [Gk]
  · have : (a == b) = false := by simpa using h
    simp [h, this, Ge]
theorem gv {a b : Int} {X Y : SL → St → Prop} {L st} : u9 (.sc (.bool (a != b))) X Y L st = (((a != b) = true ∧ a ≠ b → X L st) ∧ ((a != b) = false ∧ a = b → Y L st)) := by
  by_cases h : a = b
  · subst h; simp [Ge]
  · have : (a != b) = true := by simpa using h
    simp [h, this, Gk]
theorem W9 (P : Program) (T : dw) (ρ : Operand → AV) (d ty pos af gd) (x ts) : fi P T ⟨d, .call { callee := .builtin .cap, args := #[x], argTypes := ts }, ty, pos, af, gd⟩ ρ = mono (A0 ((ts[0]?).bind P.underlying) (ρ x)) := id rfl
theorem Xk (e a n c) : A0 (some (.slice e)) (.sc (.slice a n c)) = M.pure (.sc (goInt c)) := id rfl
def an6 (P : Program) (q : Option (Nat × Nat × Nat)) (s x : AV) : M AV :=
  match q with
  | some (e, sz, bytes) =>
    match Cm P e sz x with
    | some new => nh e sz bytes s new
    | none => M.fail
  | none => M.fail
theorem amk (P : Program) (e sz bytes s x) : an6 P (some (e, sz, bytes)) s x = match Cm P e sz x with | some new => nh e sz bytes s new | none => M.fail := id rfl
theorem Sw (P : Program) (t : TypeId) (k : IntKind) (s x : AV) : mh P (some t) (some (.int k)) s x = an6 P (z7 P t) s x := by
  unfold mh an6 z7
  simp only [Option.bind_some]
  cases od P t with
  | none => rfl
  | some e =>
    simp only
    cases de P e with
    | none => rfl
    | some sz =>
      cases j7 P e with
      | none => rfl
      | some bytes =>
        cases ey P e with
        | none => rfl
        | some z =>
          simp only
          cases (Nat.blt 0 sz && Nat.blt 0 bytes && Nat.beq z.cells.size sz) <;> rfl
def ade (z : Option Value) (sz : Nat) (n : Int) : Option (List AV) :=
  match z with
  | some z => bif decide (0 ≤ n) && decide (n ≤ 1073741824) && Nat.beq z.cells.size sz then some ((List.replicate n.toNat (z.cells.toList.map AV.sc)).flatten) else none
  | none => none
theorem Zp (z sz n) : ade (some z) sz n = bif decide (0 ≤ n) && decide (n ≤ 1073741824) && Nat.beq z.cells.size sz then some ((List.replicate n.toNat (z.cells.toList.map AV.sc)).flatten) else none := id rfl
theorem Vr (P : Program) (e sz : Nat) (k : IntKind) (n : Int) : Cm P e sz (.sc (.int k n)) = ade (ey P e) sz n := by
  simp only [Cm, ade, wm, AV.int, AV.exact, Option.bind_some, intOf, Option.map_some]
  cases ey P e <;> rfl
theorem ags {α : Type} (n : Nat) (x : α) : (List.replicate n [x]).flatten = List.replicate n x := by
  induction n with
  | zero => rfl
  | succ n ih => simp [List.replicate_succ, ih]
theorem M3 {α : Type} {n : Nat} {x : α} (h : 0 < n) : (List.replicate n x).isEmpty = false := by
  cases n with
  | zero => omega
  | succ n => rfl
theorem nc0 : ((0 : Nat) : Int) = 0 := id rfl
theorem nc1 : ((1 : Nat) : Int) = 1 := id rfl
theorem al3 (n : Nat) : List.replicate n (AV.sc (.int .u8 0)) = (List.replicate n (0 : UInt8)).map (bz.val false) := by rw [List.map_replicate]; rfl
def ajk (P : Program) (u : Option TypeDesc) (x hi : AV) (m : M AV) : M AV :=
  match u with
  | some (.slice e) =>
    match de P e with
    | some _ =>
      match x with
      | .sc (.slice none 0 0) =>
        match hi with
        | .sc (.int .i64 0) => M.pure (.sc (.slice none 0 0))
        | _ => m
      | _ => m
    | none => m
  | _ => m
theorem anc (P : Program) (e m) (h : (de P e).isSome = true) : ajk P (some (.slice e)) (.sc (.slice none 0 0)) (.sc (.int .i64 0)) m = M.pure (.sc (.slice none 0 0)) := by
  obtain ⟨n, hn⟩ := Option.isSome_iff_exists.1 h
  simp only [ajk, hn]
theorem El (P : Program) (ρ : Operand → AV) (d ty pos af gd) (t : TypeId) (x h : Operand) : gx P ρ ⟨d, .slice t x none (some h) none, ty, pos, af, gd⟩ (.slice t x none (some h) none : Op).operands.toList = ajk P (P.underlying t) (ρ x) (ρ h) (ye P ρ ⟨d, .slice t x none (some h) none, ty, pos, af, gd⟩ (.slice t x none (some h) none : Op).operands.toList) := by
  unfold ajk
  split
  · rename_i e hu
    split
    · rename_i n hn
      split
      · rename_i hx
        split
        · rename_i hh
          have h2 : execOp (fun z => ((ρ z).fm).getD undef) ⟨d, .slice t x none (some h) none, ty, pos, af, gd⟩ = (do pure (Next.value (← Instr.sliceAt t (.slice none 0 0) none (some (.int .i64 0)) none))) := by
            simp only [execOp, hx, hh, AV.fm, Option.getD_some, Option.map_some, Option.map_none]
          have hi : ∃ i, P.info? e = some i := by
            unfold de at hn
            cases hq : P.info? e with
            | none => rw [hq] at hn; cases hn
            | some i => exact ⟨i, rfl⟩
          obtain ⟨i, hi⟩ := hi
          have h3 : ev P (Instr.sliceAt t (.slice none 0 0) none (some (.int .i64 0)) none) = some (.slice none 0 0) := by
            simp [Instr.sliceAt, Instr.slice, Instr.sliceBounds, Instr.sliceBound, asIntOf, underlying, program, ev, hu, sizeOf, typeInfo, hi, bind, Sem.bind, pure]
          unfold gx j0 qw
          simp only [Op.operands]
          simp [hx, hh, AV.fm]
          rw [h2, G3, h3]
          rfl
        · rfl
      · rfl
    · rfl
  · rfl
def apn {α : Type} (o sz : Nat) (l : List α) : AV := bif l.isEmpty then .sc (.slice none 0 0) else .sl o 0 l.length sz
def ake (cells : List AV) (k st : Nat) (et : TypeId) : List (Option ba) := bif cells.isEmpty then [] else [some (.row cells k st et)]
theorem anm {α : Type} {o sz} {l : List α} (h : l.isEmpty = false) : apn o sz l = .sl o 0 l.length sz := by simp [apn, h]
theorem V7 {α : Type} (o sz) (l : List α) (c : α) : apn o sz (l ++ [c]) = .sl o 0 (l.length + 1) sz := by rw [anm (Es l c)]; simp
theorem aly {cells : List AV} {k st et} (h : cells.isEmpty = false) : ake cells k st et = [some (.row cells k st et)] := by simp [ake, h]
theorem aol {α : Type} {f : α → AV} {l : List α} {k st et} (h : l.isEmpty = false) : ake (l.map f) k st et = [some (.row (l.map f) k st et)] := aly (by rw [Cw, h])
theorem W2 {α : Type} (f : α → AV) (l : List α) (c : α) (k st et) : ake ((l ++ [c]).map f) k st et = [some (.row (l.map f ++ [f c]) k st et)] := by rw [aol (Es l c)]; simp
theorem ec {α : Type} {l : List α} {i : Nat} (h : decide ((i : Int) < (l.length : Int)) = true) : ∃ c, l[i]? = some c ∧ l.drop i = c :: l.drop (i + 1) ∧ i < l.length := by
  have h1 : i < l.length := by simp at h; omega
  exact ⟨l[i], List.getElem?_eq_getElem h1, List.drop_eq_getElem_cons h1, h1⟩
theorem fe {α : Type} {l : List α} {i : Nat} (h : decide ((i : Int) < (l.length : Int)) = false) : l.drop i = [] := by
  have h1 : ¬ i < l.length := by simp at h; omega
  exact List.drop_eq_nil_of_le (by omega)
def zf (D : List Nat) : Nat → List (Option ba) → List (Option ba)
  | _, [] => []
  | i, x :: r => (bif vw i D then x else none) :: zf D (i + 1) r
def Ay (D : List Nat) : Nat → List (Option ba) → List (Option ba)
  | _, [] => []
  | i, x :: r => (bif vw i D then none else x) :: Ay D (i + 1) r
theorem Vf (D) : ∀ (i : Nat) (os : List (Option ba)), (zf D i os).length = os.length
  | _, [] => rfl
  | i, x :: r => by simp [zf, Vf D (i + 1) r]
theorem Ll (D) : ∀ (i : Nat) (os : List (Option ba)), (Ay D i os).length = os.length
  | _, [] => rfl
  | i, x :: r => by simp [Ay, Ll D (i + 1) r]
theorem Wd (D) : ∀ (os : List (Option ba)) (i j : Nat), ((zf D i os)[j]?).join = if (i + j) ∈ D then (os[j]?).join else none
  | [], i, j => by simp [zf]
  | x :: r, i, 0 => by
    simp only [zf, List.getElem?_cons_zero, Option.join_some, Nat.add_zero]
    cases hb : vw i D with
    | true => rw [if_pos ((tp i D).1 hb)]; rfl
    | false => rw [if_neg (fun h => by rw [(tp i D).2 h] at hb; cases hb)]; rfl
  | x :: r, i, j + 1 => by
    simp only [zf, List.getElem?_cons_succ]
    rw [Wd D r (i + 1) j, show i + 1 + j = i + (j + 1) from by omega]
theorem Wp (D) : ∀ (os : List (Option ba)) (i j : Nat), ((Ay D i os)[j]?).join = if (i + j) ∈ D then none else (os[j]?).join
  | [], i, j => by simp [Ay]
  | x :: r, i, 0 => by
    simp only [Ay, List.getElem?_cons_zero, Option.join_some, Nat.add_zero]
    cases hb : vw i D with
    | true => rw [if_pos ((tp i D).1 hb)]; rfl
    | false => rw [if_neg (fun h => by rw [(tp i D).2 h] at hb; cases hb)]; rfl
  | x :: r, i, j + 1 => by
    simp only [Ay, List.getElem?_cons_succ]
    rw [Wp D r (i + 1) j, show i + 1 + j = i + (j + 1) from by omega]
theorem Uq (os : List (Option ba)) (h : os.length ≤ bw) (o : Nat) : (bm os).h.get o = (os[o]?).join := by
  simp only [bm]
  rw [sv _ _ _ (by omega), if_pos (Nat.zero_le _), Nat.sub_zero]
inductive iw (h : Tr ba) : AV → AV → Prop
  | same (a : AV) : iw h a a
  | data {α : Type} (C : da α) (fr : Bool) (x : α) (a : AV) (hd : C.ew fr h a = some x) : iw h a (C.val fr x)
  | bad (a : AV) : iw h a .bad
  | nil (o off sz : Nat) : iw h (.sc (.slice none 0 0)) (.sl o off 0 sz)
  | uy (loc : Bool) (sz : Nat) : iw h (.sc (.slice none 0 0)) (.vl loc sz [])
inductive iq (h : Tr ba) : List AV → List AV → Prop
  | nil : iq h [] []
  | cons {a b : AV} {l m : List AV} (h1 : iw h a b) (h2 : iq h l m) : iq h (a :: l) (b :: m)
theorem iq.len {h l m} (hl : iq h l m) : m.length = l.length := by
  induction hl with
  | nil => rfl
  | cons _ _ ih => simp [ih]
theorem iq.get {h l m} (hl : iq h l m) : ∀ (i : Nat) b, m[i]? = some b → ∃ a, l[i]? = some a ∧ iw h a b := by
  induction hl with
  | nil => intro i b hb; simp at hb
  | cons h1 h2 ih =>
    intro i b hb
    cases i with
    | zero => simp at hb; subst hb; exact ⟨_, rfl, h1⟩
    | succ i => exact ih i b (by simpa using hb)
inductive dc (h : Tr ba) : List (Option ba) → List (Option ba) → Prop
  | nil : dc h [] []
  | ghost {st et m} (h2 : dc h [] m) : dc h [] (some (.row [] 0 st et) :: m)
  | same {x l m} (h2 : dc h l m) : dc h (x :: l) (x :: m)
  | gone {x l m} (h2 : dc h l m) : dc h (x :: l) (none :: m)
  | row {cells cells' k st et l m} (h1 : iq h cells cells') (h2 : dc h l m) : dc h (some (.row cells k st et) :: l) (some (.row cells' k st et) :: m)
theorem dc.refl (h) : ∀ l, dc h l l
  | [] => .nil
  | x :: l => .same (dc.refl h l)
theorem dc.len {h l m} (hl : dc h l m) : l.length ≤ m.length := by induction hl <;> simp_all
theorem dc.get {h l m} (hl : dc h l m) : ∀ (i : Nat) y, (m[i]?).join = some y → (l[i]?).join = some y ∨ (∃ cells cells' k st et, y = .row cells' k st et ∧ (l[i]?).join = some (.row cells k st et) ∧ iq h cells cells') ∨ (l.length ≤ i ∧ Ae y) := by
  induction hl with
  | nil => intro i y hy; simp at hy
  | @ghost st et m h2 ih =>
    intro i y hy
    cases i with
    | zero => simp at hy; subst hy; exact .inr (.inr ⟨Nat.le_refl _, st, et, rfl⟩)
    | succ i => exact .inr (.inr ⟨Nat.zero_le _, (by
        rcases ih i y (by simpa using hy) with h | ⟨_, _, _, _, _, _, h, _⟩ | h
        · simp at h
        · simp at h
        · exact h.2)⟩)
  | same h2 ih =>
    intro i y hy
    cases i with
    | zero => exact .inl hy
    | succ i => exact (ih i y (by simpa using hy)).imp id (Or.imp id (fun h => ⟨Nat.succ_le_succ h.1, h.2⟩))
  | gone h2 ih =>
    intro i y hy
    cases i with
    | zero => simp at hy
    | succ i => exact (ih i y (by simpa using hy)).imp id (Or.imp id (fun h => ⟨Nat.succ_le_succ h.1, h.2⟩))
  | row h1 h2 ih =>
    intro i y hy
    cases i with
    | zero => simp at hy; subst hy; exact .inr (.inl ⟨_, _, _, _, _, rfl, rfl, h1⟩)
    | succ i => exact (ih i y (by simpa using hy)).imp id (Or.imp id (fun h => ⟨Nat.succ_le_succ h.1, h.2⟩))
theorem l7.lax {vs vs' : List AV} {os os' : List (Option ba)} {az : Nat} (D : List Nat) (hlen' : os'.length ≤ bw) (hv : iq (bm (zf D 0 os)).h vs vs') (ho : dc (bm (zf D 0 os)).h (Ay D 0 os) os') : l7 az vs os vs' os' := by
  have holen : os.length ≤ os'.length := by have := ho.len; rw [Ll] at this; exact this
  have hlen : os.length ≤ bw := Nat.le_trans holen hlen'
  refine ⟨hv.len, fun q => Nat.le_trans q holen, fun g w us hok hfree hr => ?_⟩
  obtain ⟨hD, ehD⟩ : ∃ hD, (bm (zf D 0 os)).h = hD := ⟨_, rfl⟩
  rw [ehD] at hv ho
  have cj : ∀ o, (bm os).h.get o = (os[o]?).join := Uq os hlen
  have hgetD : ∀ o, hD.get o = if o ∈ D then (os[o]?).join else none := fun o => by
    rw [← ehD, Uq _ (by rw [Vf]; exact hlen), Wd, Nat.zero_add]
  have hget' : ∀ o y, (bm os').h.get o = some y → (o ∉ D ∧ ((bm os).h.get o = some y ∨ ∃ cells cells' k st et, y = .row cells' k st et ∧ (bm os).h.get o = some (.row cells k st et) ∧ iq hD cells cells')) ∨ (os.length ≤ o ∧ Ae y) := fun o y hy => by
    rw [Uq _ hlen'] at hy
    have hmid : ∀ z, ((Ay D 0 os)[o]?).join = some z → o ∉ D ∧ (os[o]?).join = some z := fun z hz => by
      rw [Wp, Nat.zero_add] at hz
      by_cases hd : o ∈ D
      · rw [if_pos hd] at hz; cases hz
      · rw [if_neg hd] at hz; exact ⟨hd, hz⟩
    rw [cj]
    rcases ho.get o y hy with h1 | ⟨cells, cells', k, st, et, h1, h2, h3⟩ | h1
    · exact .inl ⟨(hmid _ h1).1, .inl (hmid _ h1).2⟩
    · exact .inl ⟨(hmid _ h2).1, .inr ⟨cells, cells', k, st, et, h1, (hmid _ h2).2, h3⟩⟩
    · rw [Ll] at h1; exact .inr h1
  have hsub : ∀ o x, hD.get o = some x → o ∈ D ∧ (bm os).h.get o = some x := fun o x hx => by
    rw [hgetD] at hx
    by_cases hd : o ∈ D
    · rw [if_pos hd] at hx; rw [cj]; exact ⟨hd, hx⟩
    · rw [if_neg hd] at hx; cases hx
  have hokD : Ok g hD w := hok.part (fun o x hx => (hsub o x hx).2)
  obtain ⟨K', eK⟩ : ∃ K' : Nat → Nat → Prop, (fun b j => g.K b j ∨ ∃ o base cells k s e, hD.get o = some (.row cells k s e) ∧ g.inj o = some (b, base) ∧ ∃ i, i < cells.length ∧ j = base + i) = K' := ⟨_, rfl⟩
  have hK' : ∀ b j, K' b j ↔ (g.K b j ∨ ∃ o base cells k s e, hD.get o = some (.row cells k s e) ∧ g.inj o = some (b, base) ∧ ∃ i, i < cells.length ∧ j = base + i) := fun b j => by rw [← eK]
  have hlend : rh g hD K' := ⟨fun b j h => (hK' b j).2 (.inl h), fun o cells k s e h b base hi j hj => (hK' _ _).2 (.inr ⟨o, base, cells, k, s, e, h, hi, j, hj, rfl⟩)⟩
  have hlax : ∀ {a b : AV} {v : Value}, iw hD a b → Rel g w a v → Rel { g with K := K' } w b v := fun {a b v} hl hrel => by
    have hup : Rel { g with K := K' } w a v := Rel.ext (g := g) (w := w) (g' := { g with K := K' }) (w' := w) ⟨rfl, fun _ _ h => h, fun b j h => (hK' b j).2 (.inl h), fun _ _ _ => rfl, fun b cs e fr h => ⟨cs, fr, h, rfl⟩, fun b l h => ⟨l, h⟩⟩ hrel
    cases hl with
    | same => exact hup
    | data C fr x a hd => exact (C.Vz hokD hlend (fun _ => Nat.le_refl g.b0) hrel hd).lift (Nat.le_refl _) (fun _ _ h => h)
    | bad => exact .bad _
    | nil o off sz => obtain rfl := hup.exact rfl; exact .vg _ _ _
    | uy loc sz => obtain rfl := hup.exact rfl; exact .jx _ _
  refine ⟨{ g with K := K' }, ⟨hok.size, fun o y hy => ?_, fun o o' x x' b base base' hne hx hx' hb hb' => ?_, fun b j hk => ?_⟩, ⟨by rw [hv.len]; exact hr.1, fun i b v hb hv' => ?_⟩, rfl, fun o q => hfree o (Nat.le_trans holen q), fun _ _ => rfl, fun b j h => (hK' b j).2 (.inl h), fun o b base ho' hi' => ?_, fun b j hk => ?_⟩
  · rcases hget' o y hy with ⟨hnd, hy⟩ | ⟨hge, hgh⟩
    case inr => exact .inl ⟨hfree o hge, hgh⟩
    have hKo : ∀ b base, g.inj o = some (b, base) → ((bm os).h.get o).isSome = true → ∀ j, K' b j → g.K b j := fun b base hi hs j hk => by
      rcases (hK' b j).1 hk with h | ⟨o2, base2, cells, k, s, e, h1, h2, _⟩
      · exact h
      · exfalso
        obtain ⟨hd2, h1'⟩ := hsub o2 _ h1
        obtain ⟨x, hx⟩ := Option.isSome_iff_exists.1 hs
        exact hok.sep o o2 x _ b base base2 (fun e => hnd (by rw [e]; exact hd2)) hx h1' hi h2
    have hext : Ext g w { g with K := K' } w := ⟨rfl, fun _ _ h => h, fun b j h => (hK' b j).2 (.inl h), fun _ _ _ => rfl, fun b cs e fr h => ⟨cs, fr, h, rfl⟩, fun b l h => ⟨l, h⟩⟩
    rcases hy with hy | ⟨cells, cells', k, st, et, rfl, hy, hcl⟩
    · refine (hok.l6 o y hy).imp id ?_
      rintro ⟨b, base, h1, h2, h3⟩
      exact ⟨b, base, h1, h2, h3.ext hext rfl (fun j hj => hKo b base h1 (by rw [hy]; rfl) j hj)⟩
    · refine (hok.l6 o _ hy).imp (fun q => ⟨q.1, by
        obtain ⟨s0, e0, he⟩ := q.2
        simp only [ba.row.injEq] at he
        obtain ⟨rfl, rfl, rfl, rfl⟩ := he
        cases hcl
        exact ⟨_, _, rfl⟩⟩) ?_
      rintro ⟨b, base, h1, h2, cs, fr, r1, r2, r3, r4, r5, r6, r7⟩
      refine ⟨b, base, h1, h2, cs, fr, r1, by rw [hcl.len]; exact r2, fun j c hc => ?_, r4, fun j hj => r5 j (hKo b base h1 (by rw [hy]; rfl) j hj), r6, fun e => by rw [hcl.len]; exact r7 e⟩
      obtain ⟨a, ha, hla⟩ := hcl.get j c hc
      obtain ⟨u, hu, hru⟩ := r3 j a ha
      exact ⟨u, hu, hlax hla hru⟩
  · have q : ∀ o y p, (bm os').h.get o = some y → g.inj o = some p → ∃ z, (bm os).h.get o = some z := fun o y p hy hp => by
      rcases hget' o y hy with ⟨_, h | ⟨_, _, _, _, _, _, h, _⟩⟩ | ⟨h, _⟩
      · exact ⟨_, h⟩
      · exact ⟨_, h⟩
      · rw [hfree o h] at hp; cases hp
    obtain ⟨z, hz⟩ := q o x _ hx hb
    obtain ⟨z', hz'⟩ := q o' x' _ hx' hb'
    exact hok.sep o o' z z' b base base' hne hz hz' hb hb'
  · rcases (hK' b j).1 hk with h | ⟨o, base, cells, k, s, e, h1, h2, _⟩
    · exact hok.K b j h
    · obtain ⟨b', base', h3, _, h4⟩ := hokD.obj o _ h1
      rw [h2] at h3; cases h3
      exact h4.lt
  · obtain ⟨a, ha, hla⟩ := hv.get i b hb
    exact hlax hla (hr.2 i a v ha hv')
  · obtain ⟨y, hy⟩ := Option.isSome_iff_exists.1 ho'
    rcases hget' o y hy with ⟨_, h | ⟨_, _, _, _, _, _, h, _⟩⟩ | ⟨h, _⟩
    · exact ⟨o, base, by rw [h]; rfl, hi'⟩
    · exact ⟨o, base, by rw [h]; rfl, hi'⟩
    · have : g.inj o = some (b, base) := hi'
      rw [hfree o h] at this; cases this
  · rcases (hK' b j).1 hk with h | ⟨o, base, cells, k, s, e, h1, h2, _⟩
    · exact .inl h
    · exact .inr ⟨o, base, by rw [(hsub o _ h1).2]; rfl, h2⟩
theorem Ww {α : Type} {P : Program} {T : dw} {az : Nat} {b : Code} {Q : QL} {L : SL} {st : St} (keep : List Nat) (V : α → List AV) (O : α → List (Option ba)) (I : α → Prop) (μ : α → Nat) (x : α) (hx : I x)
    (hv : l7 az (j6 az keep L st) (gb az keep L st) (V x) (O x))
    (step : ∀ x, I x → wl P T az b (w6 az keep (fun vs os => ∃ y, I y ∧ μ y < μ x ∧ l7 az vs os (V y) (O y)) Q) (ma keep (V x)) (bm (O x))) : ry az (wl P T az b) Q L st :=
  ry.aon keep V O I μ x hx hv (fun _ _ h => Gu b _ _ h) step
theorem jo {α : Type} {P : Program} {T : dw} {az : Nat} {b : Code} {Q : QL} {L : SL} {st : St} (keep : List Nat) (V : α → List AV) (O : α → List (Option ba)) (I : α → Prop) (μ : α → Nat) (x : α) (hx : I x)
    (hv : l7 az (j6 az keep L st) (gb az keep L st) (V x) (O x))
    (step : ∀ x, I x → wl P T az b (w6 az keep (fun vs os => ∃ y, I y ∧ μ y < μ x ∧ vs = V y ∧ os = O y) Q) (ma keep (V x)) (bm (O x))) : ry az (wl P T az b) Q L st :=
  Ww keep V O I μ x hx hv (fun x hi => Gu b _ _ (fun e L' st' hq => by
    cases e with
    | normal =>
      obtain ⟨y, h1, h2, h3, h4⟩ := hq
      refine ⟨y, h1, h2, ?_⟩
      rw [h3, h4]; exact .refl _ _ _
    | exit id => exact hq
    | ret => exact hq) _ _ (step x hi))
theorem Fi (f) (l) : (List.map (ak.val f) l).flatMap AV.cells = l.map (ak.val f) := F6 ak f rfl rfl l
theorem Su (f) (l) : (List.map (ak.val f) l).all AV.one = true := by rw [← Fi f l, Dh]; exact uv _ _ _
theorem I0 (fr h n cells k st et) (hn : n = cells.length) : lj ak fr h 0 n (.row cells k st et) = qa ak fr h cells := wc ak rfl fr h n cells k st et hn
theorem Oh (fr h f) (l) : qa ak fr h (List.map (ak.val f) l) = some l := by
  have e : List.map (ak.val f) l = List.map (ak.val true) l := by cases f <;> rfl
  rw [e]; exact Cv ak rfl rfl fr h true (fun _ => rfl) l
theorem Ib (f) (l) : (List.map (bz.val f) l).flatMap AV.cells = l.map (bz.val f) := F6 bz f rfl rfl l
theorem Wh (f) (l) : (List.map (bz.val f) l).all AV.one = true := by rw [← Ib f l, Dh]; exact uv _ _ _
theorem Lm (fr h n cells k st et) (hn : n = cells.length) : lj bz fr h 0 n (.row cells k st et) = qa bz fr h cells := wc bz rfl fr h n cells k st et hn
theorem Rb (fr h f) (l) : qa bz fr h (List.map (bz.val f) l) = some l := by
  have e : List.map (bz.val f) l = List.map (bz.val true) l := by cases f <;> rfl
  rw [e]; exact Cv bz rfl rfl fr h true (fun _ => rfl) l
theorem Fl (f) (l) : (List.map (dh.val f) l).flatMap AV.cells = l.map (dh.val f) := F6 dh f rfl rfl l
theorem Tc (f) (l) : (List.map (dh.val f) l).all AV.one = true := by rw [← Fl f l, Dh]; exact uv _ _ _
theorem It (fr h n cells k st et) (hn : n = cells.length) : lj dh fr h 0 n (.row cells k st et) = qa dh fr h cells := wc dh rfl fr h n cells k st et hn
theorem Mx (fr h f) (l) : qa dh fr h (List.map (dh.val f) l) = some l := by
  have e : List.map (dh.val f) l = List.map (dh.val true) l := by cases f <;> rfl
  rw [e]; exact Cv dh rfl rfl fr h true (fun _ => rfl) l
theorem Df (f) (l) : (List.map (ar.val f) l).flatMap AV.cells = l.map (ar.val f) := F6 ar f rfl rfl l
theorem N8 (f) (l) : (List.map (ar.val f) l).all AV.one = true := by rw [← Df f l, Dh]; exact uv _ _ _
theorem F0 (fr h n cells k st et) (hn : n = cells.length) : lj ar fr h 0 n (.row cells k st et) = qa ar fr h cells := wc ar rfl fr h n cells k st et hn
theorem Kn (fr h f) (l) (hf : (f || !fr) = true) : qa ar fr h (List.map (ar.val f) l) = some l := Cv ar rfl rfl fr h f (fun e => by subst e; simpa using hf) l
theorem Lh (fr h l n xs) (hn : n = 1) (hl : (l || !fr) = true) : ek ak fr h (.vl l n (xs.map (ak.val false))) = some xs := by
  cases l with
  | true => exact um ak fr h true xs n hn hl
  | false => exact um ak fr h false xs n hn hl
theorem Q9 : ak.val true = ak.val false := id rfl
theorem Oo (fr h l n xs) (hn : n = 1) (hl : (l || !fr) = true) : ek bz fr h (.vl l n (xs.map (bz.val false))) = some xs := by
  cases l with
  | true => exact um bz fr h true xs n hn hl
  | false => exact um bz fr h false xs n hn hl
theorem Wi : bz.val true = bz.val false := id rfl
theorem Lk (fr h l n xs) (hn : n = 1) (hl : (l || !fr) = true) : ek dh fr h (.vl l n (xs.map (dh.val false))) = some xs := by
  cases l with
  | true => exact um dh fr h true xs n hn hl
  | false => exact um dh fr h false xs n hn hl
theorem Tl : dh.val true = dh.val false := id rfl
theorem Rw (fr h s) : ak.dec fr h [.sc (.string s)] = some s := id rfl
theorem Xb (fr h) (c : UInt8) : bz.dec fr h [.sc (.int .u8 c.toNat)] = some c := bz.rt fr h true c (fun _ => rfl)
theorem Qd (fr h) (c : UInt16) : cz.dec fr h [.sc (.int .u16 c.toNat)] = some c := cz.rt fr h true c (fun _ => rfl)
theorem Sh (fr h) (c : UInt32) : dh.dec fr h [.sc (.int .u32 c.toNat)] = some c := dh.rt fr h true c (fun _ => rfl)
theorem Om (fr h b) : bo.dec fr h [.sc (.bool b)] = some b := id rfl
theorem Nd (fr h a) : ar.dec fr h [a] = ek ak fr h a := id rfl
theorem Wo (a b : List AV) : AV.fresh.go (a ++ b) = (AV.fresh.go a && AV.fresh.go b) := by
  induction a with
  | nil => rfl
  | cons x a ih => simp only [List.cons_append, AV.fresh.go, ih, Bool.and_assoc]
theorem adr (f) (l : List UInt8) : AV.fresh.go (l.map (bz.val f)) = true := by
  induction l with
  | nil => rfl
  | cons x l ih => simp only [List.map_cons, AV.fresh.go, ih]; rfl
theorem Nn (f) (c : Name) : (ar.val f c).one = true := id rfl
theorem Ir (f) (c : Name) : (ar.val f c).cells = [ar.val f c] := id rfl
theorem Wl (fr h a) : (ct bz).dec fr h [a] = ek bz fr h a := id rfl
theorem Lo (fr h n cells k st et) (hn : n = cells.length) : lj (ct bz) fr h 0 n (.row cells k st et) = qa (ct bz) fr h cells := wc (ct bz) rfl fr h n cells k st et hn
end
end Go.Vm
end
section
set_option linter.unusedVariables false
set_option maxRecDepth 4000
namespace Go.Vm
theorem wR : type_of% @ahg ∧ type_of% @Y7 ∧ type_of% @Vj ∧ type_of% @am7 ∧ type_of% @ag4 ∧ type_of% @aa5 ∧ type_of% @ahj ∧ type_of% @aca ∧ type_of% @aga ∧ type_of% @alr ∧ type_of% @ali ∧ type_of% @am3 ∧ type_of% @akl ∧ type_of% @amn ∧ type_of% @alp ∧ type_of% @an1 ∧ type_of% @agk ∧ type_of% @ahn ∧ type_of% @afy ∧ type_of% @akv ∧ type_of% @alh ∧ type_of% @Va ∧ type_of% @aax ∧ type_of% @Wt ∧ type_of% @S4 ∧ type_of% @Tg ∧ type_of% @aan ∧ type_of% @abe ∧ type_of% @Zm ∧ type_of% @agh ∧ type_of% @adh ∧ type_of% @Zy ∧ type_of% @V3 ∧ type_of% @Y9 ∧ type_of% @Vp ∧ type_of% @V0 ∧ type_of% @abm ∧ type_of% @Wy ∧ type_of% @Xe ∧ type_of% @amv ∧ type_of% @Gk ∧ type_of% @Ge ∧ type_of% @abf ∧ type_of% @ac6 ∧ type_of% @Sf ∧ type_of% @agv ∧ type_of% @ac0 ∧ type_of% @Wb ∧ type_of% @Zj ∧ type_of% @af4 ∧ type_of% @amc ∧ type_of% @al9 ∧ type_of% @amo ∧ type_of% @anh ∧ type_of% @al5 ∧ type_of% @alq ∧ type_of% @af0 ∧ type_of% @ahh ∧ type_of% @ahc ∧ type_of% @afo ∧ type_of% @ahb ∧ type_of% @Zi ∧ type_of% @Wx ∧ type_of% @P4 ∧ type_of% @S2 ∧ type_of% @abk ∧ type_of% @afv ∧ type_of% @agw ∧ type_of% @Sz ∧ type_of% @alc ∧ type_of% @akf ∧ type_of% @acm ∧ type_of% @aad ∧ type_of% @ahk ∧ type_of% @M0 ∧ type_of% @Js :=
  ⟨@ahg, @Y7, @Vj, @am7, @ag4, @aa5, @ahj, @aca, @aga, @alr, @ali, @am3, @akl, @amn, @alp, @an1, @agk, @ahn, @afy, @akv, @alh, @Va, @aax, @Wt, @S4, @Tg, @aan, @abe, @Zm, @agh, @adh, @Zy, @V3, @Y9, @Vp, @V0, @abm, @Wy, @Xe, @amv, @Gk, @Ge, @abf, @ac6, @Sf, @agv, @ac0, @Wb, @Zj, @af4, @amc, @al9, @amo, @anh, @al5, @alq, @af0, @ahh, @ahc, @afo, @ahb, @Zi, @Wx, @P4, @S2, @abk, @afv, @agw, @Sz, @alc, @akf, @acm, @aad, @ahk, @M0, @Js⟩
theorem R0 : type_of% @Zf ∧ type_of% @al3 ∧ type_of% @nc0 ∧ type_of% @nc1 ∧ type_of% @Int.sub_zero ∧ type_of% @Int.sub_self ∧ type_of% @Int.zero_add ∧ type_of% @Sw ∧ type_of% @amk ∧ type_of% @Vr ∧ type_of% @Zp ∧ type_of% @ags ∧ type_of% @M3 ∧ type_of% @List.length_replicate.{0} ∧ type_of% @W9 ∧ type_of% @Xk ∧ type_of% @anc ∧ type_of% @El ∧ type_of% @Nx ∧ type_of% @Jx ∧ type_of% @abt ∧ type_of% @aab ∧ type_of% @Qo ∧ type_of% @Ig ∧ type_of% @Z2 ∧ type_of% @agz ∧ type_of% @alx ∧ type_of% @P0 ∧ type_of% @En ∧ type_of% @O3 ∧ type_of% @ak3 ∧ type_of% @afm ∧ type_of% @Oh ∧ type_of% @Rb ∧ type_of% @Mx ∧ type_of% @Kn ∧ type_of% @Rw ∧ type_of% @Xb ∧ type_of% @Qd ∧ type_of% @Sh ∧ type_of% @Om ∧ type_of% @Nd ∧ type_of% @List.length_append.{0} ∧ type_of% @rtT ∧ type_of% @rtF ∧ type_of% @Go.Vm.qi.eq_1 ∧ type_of% @Go.Vm.bounds.eq_1 ∧ type_of% @Go.Vm.Dx.eq_1 ∧ type_of% @Go.Vm.Dx.eq_2 :=
  ⟨@Zf, @al3, @nc0, @nc1, @Int.sub_zero, @Int.sub_self, @Int.zero_add, @Sw, @amk, @Vr, @Zp, @ags, @M3, @List.length_replicate.{0}, @W9, @Xk, @anc, @El, @Nx, @Jx, @abt, @aab, @Qo, @Ig, @Z2, @agz, @alx, @P0, @En, @O3, @ak3, @afm, @Oh, @Rb, @Mx, @Kn, @Rw, @Xb, @Qd, @Sh, @Om, @Nd, @List.length_append.{0}, @rtT, @rtF, @Go.Vm.qi.eq_1, @Go.Vm.bounds.eq_1, @Go.Vm.Dx.eq_1, @Go.Vm.Dx.eq_2⟩
theorem R1 : type_of% @Go.Vm.sa.eq_1 ∧ type_of% @Go.Vm.se.eq_def ∧ type_of% @F9 ∧ type_of% @Iy ∧ type_of% @M8 ∧ type_of% @uv ∧ type_of% @Qw ∧ type_of% @Nat.div_one ∧ type_of% @Tm ∧ type_of% @S5 ∧ type_of% @amz ∧ type_of% @Of ∧ type_of% @Ru ∧ type_of% @Mu ∧ type_of% @aqr ∧ type_of% @Fi ∧ type_of% @Ib ∧ type_of% @Fl ∧ type_of% @Df ∧ type_of% @Su ∧ type_of% @Wh ∧ type_of% @Tc ∧ type_of% @N8 ∧ type_of% @Q9 ∧ type_of% @Wi ∧ type_of% @Tl ∧ type_of% @agf ∧ type_of% @ag0 ∧ type_of% @Sk ∧ type_of% @agd ∧ type_of% @F7 ∧ type_of% @Kd ∧ type_of% @Option.isNone_none.{0} ∧ type_of% @Option.isNone_some.{0} ∧ type_of% @agm :=
  ⟨@Go.Vm.sa.eq_1, @Go.Vm.se.eq_def, @F9, @Iy, @M8, @uv, @Qw, @Nat.div_one, @Tm, @S5, @amz, @Of, @Ru, @Mu, @aqr, @Fi, @Ib, @Fl, @Df, @Su, @Wh, @Tc, @N8, @Q9, @Wi, @Tl, @agf, @ag0, @Sk, @agd, @F7, @Kd, @Option.isNone_none.{0}, @Option.isNone_some.{0}, @agm⟩
theorem R2 : type_of% @Nn ∧ type_of% @Ir ∧ type_of% @Lh ∧ type_of% @Oo ∧ type_of% @Lk ∧ type_of% @Wo ∧ type_of% @adr ∧ type_of% @Wl ∧ type_of% @Lo ∧ type_of% @I0 ∧ type_of% @Lm ∧ type_of% @It ∧ type_of% @F0 ∧ type_of% @aaq ∧ type_of% @Cw ∧ type_of% @List.isEmpty_cons.{0} ∧ type_of% @List.isEmpty_nil.{0} ∧ type_of% @List.flatMap_nil.{0, 0} ∧ type_of% @Nt ∧ type_of% @Nb ∧ type_of% @Ry ∧ type_of% @Rn ∧ type_of% @and_true ∧ type_of% @true_and ∧ type_of% @N7 ∧ type_of% @Nk ∧ type_of% @W7 ∧ type_of% @ag1 ∧ type_of% @akq ∧ type_of% @and_self ∧ type_of% @List.size_toArray.{0} ∧ type_of% @Vw ∧ type_of% @V9 ∧ type_of% @aaz ∧ type_of% @aby ∧ type_of% @V6 ∧ type_of% @adu ∧ type_of% @Ta ∧ type_of% @abv ∧ type_of% @Iu ∧ type_of% @Xf ∧ type_of% @ab0 ∧ type_of% @V4 ∧ type_of% @Oj ∧ type_of% @Iv :=
  ⟨@Nn, @Ir, @Lh, @Oo, @Lk, @Wo, @adr, @Wl, @Lo, @I0, @Lm, @It, @F0, @aaq, @Cw, @List.isEmpty_cons.{0}, @List.isEmpty_nil.{0}, @List.flatMap_nil.{0, 0}, @Nt, @Nb, @Ry, @Rn, @and_true, @true_and, @N7, @Nk, @W7, @ag1, @akq, @and_self, @List.size_toArray.{0}, @Vw, @V9, @aaz, @aby, @V6, @adu, @Ta, @abv, @Iu, @Xf, @ab0, @V4, @Oj, @Iv⟩
theorem R3 : type_of% @K9 ∧ type_of% @Vb ∧ type_of% @Wu ∧ type_of% @F8 ∧ type_of% @Vk ∧ type_of% @af1 ∧ type_of% @Ty ∧ type_of% @abl ∧ type_of% @U9 ∧ type_of% @S1 ∧ type_of% @Y2 ∧ type_of% @Wv ∧ type_of% @Vd ∧ type_of% @Sn ∧ type_of% @Q5 ∧ type_of% @N2 ∧ type_of% @aq1 ∧ type_of% @Zg ∧ type_of% @Wr ∧ type_of% @M2 ∧ type_of% @Ky ∧ type_of% @S6 ∧ type_of% @P5 ∧ type_of% @wx ∧ type_of% @Go.Vm.cellsIn.eq_1 ∧ type_of% @Go.Vm.cellsIn.eq_2 ∧ type_of% @Go.Vm.cellsIn.eq_5 ∧ type_of% @Go.Vm.cellsIn.eq_6 ∧ type_of% @Go.Vm.xk.eq_1 ∧ type_of% @Go.Vm.Am.eq_1 ∧ type_of% @Dd ∧ type_of% @Jr ∧ type_of% @Lp ∧ type_of% @Ks ∧ type_of% @Bw ∧ type_of% @Em ∧ type_of% @Ek ∧ type_of% @Dj ∧ type_of% @K2 ∧ type_of% @Fy ∧ type_of% @Jt ∧ type_of% @Bx ∧ type_of% @Im ∧ type_of% @Jj ∧ type_of% @Ip :=
  ⟨@K9, @Vb, @Wu, @F8, @Vk, @af1, @Ty, @abl, @U9, @S1, @Y2, @Wv, @Vd, @Sn, @Q5, @N2, @aq1, @Zg, @Wr, @M2, @Ky, @S6, @P5, @wx, @Go.Vm.cellsIn.eq_1, @Go.Vm.cellsIn.eq_2, @Go.Vm.cellsIn.eq_5, @Go.Vm.cellsIn.eq_6, @Go.Vm.xk.eq_1, @Go.Vm.Am.eq_1, @Dd, @Jr, @Lp, @Ks, @Bw, @Em, @Ek, @Dj, @K2, @Fy, @Jt, @Bx, @Im, @Jj, @Ip⟩
theorem R4 : type_of% @By ∧ type_of% @Ix ∧ type_of% @I3 ∧ type_of% @Ob ∧ type_of% @Jn ∧ type_of% @We ∧ type_of% @nm ∧ type_of% @Re ∧ type_of% @N6 ∧ type_of% @Zx ∧ type_of% @um ∧ type_of% @afu ∧ type_of% @Ts ∧ type_of% @Qp ∧ type_of% @Eh ∧ type_of% @Vn ∧ type_of% @Td ∧ type_of% @Go.Vm.ke.eq_1 ∧ type_of% @List.flatten_cons.{0} ∧ type_of% @List.flatten_nil.{0} ∧ type_of% @List.replicate_succ.{0} ∧ type_of% @List.replicate_zero.{0} ∧ type_of% @Vt ∧ type_of% @Vc ∧ type_of% @anj ∧ type_of% @ag2 ∧ type_of% @aqx ∧ type_of% @aqy ∧ type_of% @aq2 ∧ type_of% @Ha ∧ type_of% @C4 ∧ type_of% @Hp ∧ type_of% @zk ∧ type_of% @Nc :=
  ⟨@By, @Ix, @I3, @Ob, @Jn, @We, @nm, @Re, @N6, @Zx, @um, @afu, @Ts, @Qp, @Eh, @Vn, @Td, @Go.Vm.ke.eq_1, @List.flatten_cons.{0}, @List.flatten_nil.{0}, @List.replicate_succ.{0}, @List.replicate_zero.{0}, @Vt, @Vc, @anj, @ag2, @aqx, @aqy, @aq2, @Ha, @C4, @Hp, @zk, @Nc⟩
theorem R5 : type_of% @Hi ∧ type_of% @Fq ∧ type_of% @Br ∧ type_of% @yh ∧ type_of% @zw ∧ type_of% @Mv ∧ type_of% @Xh ∧ type_of% @Fb ∧ type_of% @xj ∧ type_of% @Gm ∧ type_of% @Iz ∧ type_of% @Nl ∧ type_of% @N0 ∧ type_of% @Jg ∧ type_of% @Dt ∧ type_of% @Q6 ∧ type_of% @Jq ∧ type_of% @ant ∧ type_of% @ak9 ∧ type_of% @Go.IntKind.bits.eq_6 ∧ type_of% @Nat.min_def ∧ type_of% @aqi ∧ type_of% @aq7 ∧ type_of% @aq5 ∧ type_of% @ara ∧ type_of% @aqj ∧ type_of% @aqs ∧ type_of% @aq0 ∧ type_of% @aqp ∧ type_of% @aqn ∧ type_of% @aqe ∧ type_of% @aas ∧ type_of% @Yu ∧ type_of% @aum ∧ type_of% @atz ∧ type_of% @ah7 ∧ type_of% @Go.Vm.xa.eq_1 ∧ type_of% @Go.Vm.qk.eq_1 ∧ type_of% @Go.Vm.oh.eq_def :=
  ⟨@Hi, @Fq, @Br, @yh, @zw, @Mv, @Xh, @Fb, @xj, @Gm, @Iz, @Nl, @N0, @Jg, @Dt, @Q6, @Jq, @ant, @ak9, @Go.IntKind.bits.eq_6, @Nat.min_def, @aqi, @aq7, @aq5, @ara, @aqj, @aqs, @aq0, @aqp, @aqn, @aqe, @aas, @Yu, @aum, @atz, @ah7, @Go.Vm.xa.eq_1, @Go.Vm.qk.eq_1, @Go.Vm.oh.eq_def⟩
theorem R6 : type_of% @Go.Vm.xp.eq_1 ∧ type_of% @Go.Vm.uc.eq_1 ∧ type_of% @Go.Vm.mo.eq_1 ∧ type_of% @Go.Vm.jr.eq_1 ∧ type_of% @Go.Vm.jr.eq_2 ∧ type_of% @Go.Vm.AV.known.eq_2 ∧ type_of% @Go.Value.oneCell'.eq_3 ∧ type_of% @Go.Vm.AV.cells.eq_1 ∧ type_of% @Go.Vm.AV.cells.eq_2 ∧ type_of% @Go.Vm.AV.cells.eq_3 ∧ type_of% @Go.Value.cells.eq_1 ∧ type_of% @Go.Value.cells.eq_2 ∧ type_of% @Go.Vm.AV.one.eq_4 ∧ type_of% @Go.Vm.AV.one.eq_5 ∧ type_of% @Go.Vm.j9.eq_1 ∧ type_of% @Go.Vm.ja.eq_1 ∧ type_of% @Go.Vm.ja.eq_2 ∧ type_of% @Go.Vm.z8.eq_1 ∧ type_of% @Go.Vm.qg.eq_1 ∧ type_of% @Go.Vm.qo.eq_2 ∧ type_of% @Go.Vm.qo.eq_6 ∧ type_of% @Go.Vm.jk.eq_1 ∧ type_of% @Go.Vm.jk.eq_3 ∧ type_of% @Go.Vm.jk.eq_4 ∧ type_of% @Go.Vm.w9.eq_1 ∧ type_of% @Go.Vm.Cj.eq_1 ∧ type_of% @Go.Vm.Kk.eq_1 ∧ type_of% @Go.Vm.mi.eq_1 ∧ type_of% @Go.Vm.mi.eq_2 ∧ type_of% @Go.Vm.mi.eq_3 ∧ type_of% @Go.Vm.mi.eq_4 ∧ type_of% @Go.Vm.mi.eq_5 ∧ type_of% @Go.Vm.mi.eq_6 ∧ type_of% @Go.Vm.mi.eq_7 ∧ type_of% @Go.Vm.mi.eq_8 ∧ type_of% @Go.Vm.mi.eq_9 ∧ type_of% @Go.Vm.mi.eq_10 :=
  ⟨@Go.Vm.xp.eq_1, @Go.Vm.uc.eq_1, @Go.Vm.mo.eq_1, @Go.Vm.jr.eq_1, @Go.Vm.jr.eq_2, @Go.Vm.AV.known.eq_2, @Go.Value.oneCell'.eq_3, @Go.Vm.AV.cells.eq_1, @Go.Vm.AV.cells.eq_2, @Go.Vm.AV.cells.eq_3, @Go.Value.cells.eq_1, @Go.Value.cells.eq_2, @Go.Vm.AV.one.eq_4, @Go.Vm.AV.one.eq_5, @Go.Vm.j9.eq_1, @Go.Vm.ja.eq_1, @Go.Vm.ja.eq_2, @Go.Vm.z8.eq_1, @Go.Vm.qg.eq_1, @Go.Vm.qo.eq_2, @Go.Vm.qo.eq_6, @Go.Vm.jk.eq_1, @Go.Vm.jk.eq_3, @Go.Vm.jk.eq_4, @Go.Vm.w9.eq_1, @Go.Vm.Cj.eq_1, @Go.Vm.Kk.eq_1, @Go.Vm.mi.eq_1, @Go.Vm.mi.eq_2, @Go.Vm.mi.eq_3, @Go.Vm.mi.eq_4, @Go.Vm.mi.eq_5, @Go.Vm.mi.eq_6, @Go.Vm.mi.eq_7, @Go.Vm.mi.eq_8, @Go.Vm.mi.eq_9, @Go.Vm.mi.eq_10⟩
theorem R7 : type_of% @Go.Vm.AV.int.eq_1 ∧ type_of% @Go.Vm.AV.bool.eq_1 ∧ type_of% @Go.Vm.AV.exact.eq_1 ∧ type_of% @Go.Vm.AV.exact.eq_2 ∧ type_of% @Go.Vm.intOf.eq_1 ∧ type_of% @Go.Vm.intOf.eq_2 ∧ type_of% @Go.Vm.n7.eq_1 ∧ type_of% @Go.Vm.j8.eq_1 ∧ type_of% @Go.Vm.uk.eq_1 ∧ type_of% @Go.Vm.uk.eq_2 ∧ type_of% @Go.Vm.wm.eq_1 ∧ type_of% @Go.Vm.Bo.eq_1 ∧ type_of% @Go.Vm.od.eq_1 ∧ type_of% @Go.Vm.oa.eq_1 ∧ type_of% @Go.Vm.n5.eq_1 ∧ type_of% @Go.Vm.n5.eq_3 ∧ type_of% @Go.Vm.n5.eq_9 ∧ type_of% @Go.Vm.Ct.eq_1 ∧ type_of% @Go.Vm.Pk.eq_1 ∧ type_of% @Go.Vm.Fx.eq_1 ∧ type_of% @Go.Vm.isSlice.eq_4 ∧ type_of% @Go.Vm.Ck.eq_1 ∧ type_of% @Go.goInt.eq_1 ∧ type_of% @anr ∧ type_of% @ale ∧ type_of% @amy ∧ type_of% @Go.Vm.pack.eq_1 ∧ type_of% @Go.Vm.pack.eq_2 ∧ type_of% @Go.Vm.cq.eq_1 ∧ type_of% @Go.Vm.cq.eq_2 ∧ type_of% @Go.Vm.bm.eq_1 ∧ type_of% @Go.Vm.o9.eq_1 ∧ type_of% @Go.Vm.o9.eq_2 ∧ type_of% @Go.Vm.sy.eq_1 ∧ type_of% @tj ∧ type_of% @uu ∧ type_of% @Wf ∧ type_of% @Zv ∧ type_of% @qy ∧ type_of% @qv ∧ type_of% @Ed :=
  ⟨@Go.Vm.AV.int.eq_1, @Go.Vm.AV.bool.eq_1, @Go.Vm.AV.exact.eq_1, @Go.Vm.AV.exact.eq_2, @Go.Vm.intOf.eq_1, @Go.Vm.intOf.eq_2, @Go.Vm.n7.eq_1, @Go.Vm.j8.eq_1, @Go.Vm.uk.eq_1, @Go.Vm.uk.eq_2, @Go.Vm.wm.eq_1, @Go.Vm.Bo.eq_1, @Go.Vm.od.eq_1, @Go.Vm.oa.eq_1, @Go.Vm.n5.eq_1, @Go.Vm.n5.eq_3, @Go.Vm.n5.eq_9, @Go.Vm.Ct.eq_1, @Go.Vm.Pk.eq_1, @Go.Vm.Fx.eq_1, @Go.Vm.isSlice.eq_4, @Go.Vm.Ck.eq_1, @Go.goInt.eq_1, @anr, @ale, @amy, @Go.Vm.pack.eq_1, @Go.Vm.pack.eq_2, @Go.Vm.cq.eq_1, @Go.Vm.cq.eq_2, @Go.Vm.bm.eq_1, @Go.Vm.o9.eq_1, @Go.Vm.o9.eq_2, @Go.Vm.sy.eq_1, @tj, @uu, @Wf, @Zv, @qy, @qv, @Ed⟩
theorem R8 : type_of% @Sr ∧ type_of% @Rq ∧ type_of% @Ro ∧ type_of% @N3 ∧ type_of% @Sq ∧ type_of% @Go.Vm.j6.eq_1 ∧ type_of% @Go.Vm.gb.eq_1 ∧ type_of% @Go.Vm.gy.eq_1 ∧ type_of% @Go.Vm.ng.eq_1 ∧ type_of% @Go.Vm.ng.eq_2 ∧ type_of% @Go.Vm.reach.eq_2 ∧ type_of% @Go.Vm.reach.eq_3 ∧ type_of% @Go.Vm.eh.eq_1 ∧ type_of% @Go.Vm.di.eq_1 ∧ type_of% @Go.Vm.di.eq_2 ∧ type_of% @Go.Vm.AV.names.eq_1 ∧ type_of% @Go.Vm.AV.names.eq_2 ∧ type_of% @Go.Vm.AV.names.eq_3 ∧ type_of% @Go.Vm.AV.names.eq_4 ∧ type_of% @Go.Vm.AV.names.eq_5 ∧ type_of% @Go.Vm.AV.names.eq_9 ∧ type_of% @Go.Vm.AV.names.go.eq_1 ∧ type_of% @Go.Vm.AV.names.go.eq_2 ∧ type_of% @Go.Vm.ba.names.eq_1 ∧ type_of% @Go.Vm.AV.c9.eq_1 ∧ type_of% @Go.Vm.AV.c9.eq_2 ∧ type_of% @Go.Vm.AV.c9.eq_3 ∧ type_of% @Go.Vm.AV.c9.eq_4 ∧ type_of% @Go.Vm.AV.c9.eq_5 ∧ type_of% @Go.Vm.AV.c9.eq_6 ∧ type_of% @Go.Vm.AV.c9.eq_7 ∧ type_of% @Go.Vm.AV.c9.eq_11 ∧ type_of% @Go.Vm.ba.c9.eq_1 ∧ type_of% @Ht ∧ type_of% @afz ∧ type_of% @Go.Vm.g6.eq_1 ∧ type_of% @Go.Vm.g6.eq_2 ∧ type_of% @Go.Vm.ma.eq_2 ∧ type_of% @jn ∧ type_of% @Option.bind_some.{0, 0} ∧ type_of% @Option.bind_none.{0, 0} ∧ type_of% @Option.map_some.{0, 0} ∧ type_of% @Option.getD_some.{0} ∧ type_of% @Option.getD_none.{0} ∧ type_of% @Option.isSome_some.{0} :=
  ⟨@Sr, @Rq, @Ro, @N3, @Sq, @Go.Vm.j6.eq_1, @Go.Vm.gb.eq_1, @Go.Vm.gy.eq_1, @Go.Vm.ng.eq_1, @Go.Vm.ng.eq_2, @Go.Vm.reach.eq_2, @Go.Vm.reach.eq_3, @Go.Vm.eh.eq_1, @Go.Vm.di.eq_1, @Go.Vm.di.eq_2, @Go.Vm.AV.names.eq_1, @Go.Vm.AV.names.eq_2, @Go.Vm.AV.names.eq_3, @Go.Vm.AV.names.eq_4, @Go.Vm.AV.names.eq_5, @Go.Vm.AV.names.eq_9, @Go.Vm.AV.names.go.eq_1, @Go.Vm.AV.names.go.eq_2, @Go.Vm.ba.names.eq_1, @Go.Vm.AV.c9.eq_1, @Go.Vm.AV.c9.eq_2, @Go.Vm.AV.c9.eq_3, @Go.Vm.AV.c9.eq_4, @Go.Vm.AV.c9.eq_5, @Go.Vm.AV.c9.eq_6, @Go.Vm.AV.c9.eq_7, @Go.Vm.AV.c9.eq_11, @Go.Vm.ba.c9.eq_1, @Ht, @afz, @Go.Vm.g6.eq_1, @Go.Vm.g6.eq_2, @Go.Vm.ma.eq_2, @jn, @Option.bind_some.{0, 0}, @Option.bind_none.{0, 0}, @Option.map_some.{0, 0}, @Option.getD_some.{0}, @Option.getD_none.{0}, @Option.isSome_some.{0}⟩
theorem R9 : type_of% @List.getElem?_cons_zero.{0} ∧ type_of% @List.getElem?_toArray.{0} ∧ type_of% @Go.Vm.bw.eq_1 ∧ type_of% @List.drop_zero.{0} ∧ type_of% @List.drop_succ_cons.{0} ∧ type_of% @List.drop_nil.{0} ∧ type_of% @List.take_succ_cons.{0} ∧ type_of% @List.take_zero.{0} ∧ type_of% @List.length_cons.{0} ∧ type_of% @List.length_nil.{0} ∧ type_of% @List.length_map.{0, 0} ∧ type_of% @List.getElem?_cons_succ.{0} ∧ type_of% @List.getElem?_nil.{0} ∧ type_of% @List.getElem?_map.{0, 0} ∧ type_of% @List.getElem?_drop.{0} ∧ type_of% @List.map_cons.{0, 0} ∧ type_of% @List.map_nil.{0, 0} ∧ type_of% @List.nil_append.{0} ∧ type_of% @List.cons_append.{0} ∧ type_of% @List.append_nil.{0} ∧ type_of% @List.all_cons.{0} ∧ type_of% @List.all_nil.{0} ∧ type_of% @cond_true.{1} ∧ type_of% @cond_false.{1} ∧ type_of% @decide_true ∧ type_of% @decide_false ∧ type_of% @Bool.and_true ∧ type_of% @Bool.true_and ∧ type_of% @Bool.and_self ∧ type_of% @Bool.not_true ∧ type_of% @Bool.not_false ∧ type_of% @BEq.rfl.{0} ∧ type_of% @Nat.zero_le ∧ type_of% @Nat.le_refl ∧ type_of% @Nat.add_zero ∧ type_of% @Nat.zero_add ∧ type_of% @Nat.mul_one ∧ type_of% @Int.toNat_natCast ∧ type_of% @Int.natCast_nonneg ∧ type_of% @Nat.sub_self ∧ type_of% @List.contains_nil.{0} ∧ type_of% @List.contains_cons.{0} ∧ type_of% @Bool.or_false ∧ type_of% @Bool.false_or ∧ type_of% @Bool.or_true ∧ type_of% @Bool.true_or ∧ type_of% @List.map_map.{0, 0, 0} ∧ type_of% @adi ∧ type_of% @F3 ∧ type_of% @Ee ∧ type_of% @Kp ∧ type_of% @Vx ∧ type_of% @vt :=
  ⟨@List.getElem?_cons_zero.{0}, @List.getElem?_toArray.{0}, @Go.Vm.bw.eq_1, @List.drop_zero.{0}, @List.drop_succ_cons.{0}, @List.drop_nil.{0}, @List.take_succ_cons.{0}, @List.take_zero.{0}, @List.length_cons.{0}, @List.length_nil.{0}, @List.length_map.{0, 0}, @List.getElem?_cons_succ.{0}, @List.getElem?_nil.{0}, @List.getElem?_map.{0, 0}, @List.getElem?_drop.{0}, @List.map_cons.{0, 0}, @List.map_nil.{0, 0}, @List.nil_append.{0}, @List.cons_append.{0}, @List.append_nil.{0}, @List.all_cons.{0}, @List.all_nil.{0}, @cond_true.{1}, @cond_false.{1}, @decide_true, @decide_false, @Bool.and_true, @Bool.true_and, @Bool.and_self, @Bool.not_true, @Bool.not_false, @BEq.rfl.{0}, @Nat.zero_le, @Nat.le_refl, @Nat.add_zero, @Nat.zero_add, @Nat.mul_one, @Int.toNat_natCast, @Int.natCast_nonneg, @Nat.sub_self, @List.contains_nil.{0}, @List.contains_cons.{0}, @Bool.or_false, @Bool.false_or, @Bool.or_true, @Bool.true_or, @List.map_map.{0, 0, 0}, @adi, @F3, @Ee, @Kp, @Vx, @vt⟩
theorem R10 : type_of% @Sp ∧ type_of% @Nz ∧ type_of% @Qg ∧ type_of% @aug ∧ type_of% @aua ∧ type_of% @ati ∧ type_of% @aul ∧ type_of% @aui ∧ type_of% @ato ∧ type_of% @aae ∧ type_of% @aa8 ∧ type_of% @W8 ∧ type_of% @Rf ∧ type_of% @aa1 ∧ type_of% @Go.Vm.AV.fresh.eq_1 ∧ type_of% @Go.Vm.AV.fresh.eq_3 ∧ type_of% @Go.Vm.AV.fresh.eq_4 ∧ type_of% @Go.Vm.AV.fresh.go.eq_1 ∧ type_of% @Go.Vm.AV.fresh.go.eq_2 ∧ type_of% @List.map_append.{0, 0} :=
  ⟨@Sp, @Nz, @Qg, @aug, @aua, @ati, @aul, @aui, @ato, @aae, @aa8, @W8, @Rf, @aa1, @Go.Vm.AV.fresh.eq_1, @Go.Vm.AV.fresh.eq_3, @Go.Vm.AV.fresh.eq_4, @Go.Vm.AV.fresh.go.eq_1, @Go.Vm.AV.fresh.go.eq_2, @List.map_append.{0, 0}⟩
theorem RA : type_of% R0 ∧ type_of% R1 ∧ type_of% R2 ∧ type_of% R3 ∧ type_of% R4 ∧ type_of% R5 ∧ type_of% R6 ∧ type_of% R7 ∧ type_of% R8 ∧ type_of% R9 ∧ type_of% R10 :=
  ⟨R0, R1, R2, R3, R4, R5, R6, R7, R8, R9, R10⟩
theorem FB : type_of% @List.cons.injEq.{0} ∧ type_of% @V7 ∧ type_of% @W2 ∧ type_of% @List.length_append.{0} ∧ type_of% @List.length_cons.{0} ∧ type_of% @List.length_nil.{0} ∧ type_of% @List.map_append.{0, 0} ∧ type_of% @List.map_cons.{0, 0} ∧ type_of% @List.map_nil.{0, 0} ∧ type_of% @and_true ∧ type_of% @true_and ∧ type_of% @and_self ∧ type_of% @AV.sc.injEq ∧ type_of% @AV.sl.injEq ∧ type_of% @ba.row.injEq ∧ type_of% @Option.some.injEq.{0} ∧ type_of% @Value.int.injEq ∧ type_of% @Nat.zero_add :=
  ⟨@List.cons.injEq.{0}, @V7, @W2, @List.length_append.{0}, @List.length_cons.{0}, @List.length_nil.{0}, @List.map_append.{0, 0}, @List.map_cons.{0, 0}, @List.map_nil.{0, 0}, @and_true, @true_and, @and_self, @AV.sc.injEq, @AV.sl.injEq, @ba.row.injEq, @Option.some.injEq.{0}, @Value.int.injEq, @Nat.zero_add⟩
end Go.Vm
end
section
namespace Go.Vm
noncomputable section
open Go.ChangeShapes Go.WideShapes Go.ChangeAt
mutual
def ld {H : Type} : DataW H → Nat
  | .lit (.string bytes) => bytes.length + 1
  | .lit _ => 1
  | .nil => 1
  | .ptr d => ld d + 1
  | .slice elems spare => mg elems + mg spare + 1
  | .agg parts => mg parts + 1
  | .iface _ d => ld d + 1
  | .map entries => S3 entries + 1
  | .held _ => 1
def mg {H : Type} : List (DataW H) → Nat
  | [] => 0
  | d :: r => ld d + mg r
def S3 {H : Type} : List (Lit × DataW H) → Nat
  | [] => 0
  | x :: r => ais x + S3 r
def ais {H : Type} : Lit × DataW H → Nat
  | (.string bytes, d) => bytes.length + ld d + 1
  | (_, d) => ld d + 1
end
def abg (W : World) : Nat → Nat → Prop := fun b _ => b < W.heap.size
def Rd (P : Program) (t : TypeId) {α : Type} (C : da α) (μ : α → Nat) : Prop :=
  ∀ {H : Type} (enc : TypeId × Value → H) (W : World) (b0 fuel : Nat) (cs : List Value) (x : DataW H × List MemPlace), DataW.trod enc P W 0 (fun _ => true) true fuel t cs = some x →
    ∃ y, bh (gK b0 (abg W)) W (C.cells false y) cs ∧ μ y ≤ ld x.1
theorem auy {P : Program} {t : TypeId} (ht : P.underlying t = some (.int .u8)) : Rd P t bz (fun _ => 1) := by
  intro H enc W b0 fuel cs x h
  obtain ⟨n, rfl, rfl, hw⟩ := DataW.trod_int ht h
  have hx : 0 ≤ n ∧ n ≤ 255 := by simpa [Lit.wf, IntKind.min, IntKind.max, IntKind.signed, IntKind.bits] using hw
  refine ⟨UInt8.ofNat n.toNat, ?_, by simp [ld]⟩
  have : n = ((UInt8.ofNat n.toNat).toNat : Int) := by rw [UInt8.toNat_ofNat']; omega
  exact bh.one (by (conv => rhs; rw [this]); exact .sc _)
theorem ak4 {P : Program} {t : TypeId} (ht : P.underlying t = some (.int .u16)) : Rd P t cz (fun _ => 1) := by
  intro H enc W b0 fuel cs x h
  obtain ⟨n, rfl, rfl, hw⟩ := DataW.trod_int ht h
  have hx : 0 ≤ n ∧ n ≤ 65535 := by simpa [Lit.wf, IntKind.min, IntKind.max, IntKind.signed, IntKind.bits] using hw
  refine ⟨UInt16.ofNat n.toNat, ?_, by simp [ld]⟩
  have : n = ((UInt16.ofNat n.toNat).toNat : Int) := by rw [UInt16.toNat_ofNat']; omega
  exact bh.one (by (conv => rhs; rw [this]); exact .sc _)
theorem ami {P : Program} {t : TypeId} (ht : P.underlying t = some (.int .u32)) : Rd P t dh (fun _ => 1) := by
  intro H enc W b0 fuel cs x h
  obtain ⟨n, rfl, rfl, hw⟩ := DataW.trod_int ht h
  have hx : 0 ≤ n ∧ n ≤ 4294967295 := Go.bounds_u32 hw
  refine ⟨UInt32.ofNat n.toNat, ?_, by simp [ld]⟩
  have : n = ((UInt32.ofNat n.toNat).toNat : Int) := by rw [UInt32.toNat_ofNat']; omega
  exact bh.one (by (conv => rhs; rw [this]); exact .sc _)
theorem at7 {P : Program} {t : TypeId} (ht : P.underlying t = some .string) : Rd P t ak (fun s => s.size + 1) := by
  intro H enc W b0 fuel cs x h
  obtain ⟨s, rfl, rfl, _⟩ := DataW.trod_string ht h
  refine ⟨s, bh.one (.sc _), ?_⟩
  show s.size + 1 ≤ ld (DataW.lit (Lit.string s.data.toList))
  rw [ld, Array.length_toList]
  exact Nat.le_refl _
theorem aru (ao k s v j : Nat) (h3 : v = k * s) (hge : v ≤ j) : ao + k * s + (j - v) = ao + j := by rw [← h3]; omega
def sd {α : Type} (μ : α → Nat) : List α → Nat
  | [] => 0
  | x :: r => μ x + sd μ r
theorem Oa {α : Type} (μ : α → Nat) : ∀ a b : List α, sd μ (a ++ b) = sd μ a + sd μ b
  | [], b => by simp [sd]
  | x :: a, b => by simp [sd, Oa μ a b]; omega
theorem J6 {H : Type} : ∀ a b : List (DataW H), mg (a ++ b) = mg a + mg b
  | [], b => by simp [mg]
  | x :: a, b => by simp [mg, J6 a b]; omega
theorem ash {P : Program} {t e : TypeId} {α : Type} {C : da α} {μ : α → Nat} (ht : P.underlying t = some (.slice e)) (hsz : P.cellsOf e = C.sz) (hpos : 0 < C.sz) (he : Rd P e C μ) : Rd P t (ct C) (fun l => sd μ l + 1) := by
  intro H enc W b0 fuel cs x h
  rcases Go.Deep.open_slice ht h with ⟨rfl, rfl⟩ | ⟨a, len, cap, m, n, D, Pl, rfl, _, hl, hm, hmm, rfl, hx⟩
  · exact ⟨[], bh.one (.jx _ _), by simp [sd, ld]⟩
  · simp only [if_true] at hmm
    subst hmm
    have spot : 0 < m → a.spot = none ∧ a.block < W.heap.size := by
      intro h0
      obtain ⟨cs', h1, _⟩ := hx 0 h0
      rw [hsz] at h1
      simp only [World.cells?, Nat.zero_le, if_true] at h1
      have h2 := mapM_some_get h1 0 0 (by simp [hpos])
      have hlen := mapM_some_length h1
      have h3 : ∃ v, cs'[0]? = some v := ⟨cs'[0]'(by rw [hlen]; simpa using hpos), by simp⟩
      obtain ⟨v, hv⟩ := h3
      rw [hv] at h2
      simp only [Nat.zero_mul, Addr.add, if_true] at h2
      simp only [World.cell?] at h2
      split at h2
      · rename_i c _ _ hb
        cases hs : a.spot with
        | none => exact ⟨rfl, bu hb⟩
        | some s => simp [hs] at h2
      · cases h2
    have build : ∀ k, k ≤ len → ∃ (xs : List α) (vs : List Value), xs.length = k ∧ bh (gK b0 (abg W)) W (xs.flatMap (C.cells false)) vs ∧ vs.length = k * C.sz ∧ (∀ j v, vs[j]? = some v → W.cell? ⟨a.block, a.off + j, none⟩ = some v) ∧
        sd μ xs ≤ mg ((List.range k).map D) := by
      intro k
      induction k with
      | zero => intro _; exact ⟨[], [], rfl, bh.nil _ _, by simp, (fun j v hj => by simp at hj), by simp [sd, mg]⟩
      | succ k ih =>
        intro hk
        obtain ⟨xs, vs, h1, h2, h3, h4, h5⟩ := ih (by omega)
        obtain ⟨cs', h6, h7⟩ := hx k (by omega)
        obtain ⟨y, h8, h9⟩ := he enc W b0 n cs' _ h7
        rw [hsz] at h6
        simp only [World.cells?, Nat.zero_le, if_true] at h6
        have hlen := mapM_some_length h6
        simp only [List.length_range] at hlen
        refine ⟨xs ++ [y], vs ++ cs', by simp [h1], ?_, by simp [h3, hlen, Nat.succ_mul], fun j v hj => ?_, ?_⟩
        · rw [List.flatMap_append]; exact h2.append (by simpa using h8)
        · by_cases hj1 : j < vs.length
          · rw [List.getElem?_append_left hj1] at hj; exact h4 j v hj
          · rw [List.getElem?_append_right (by omega)] at hj
            have hj2 := (List.getElem?_eq_some_iff.1 hj).1
            have h10 := mapM_some_get h6 (j - vs.length) (j - vs.length) (List.getElem?_range (by rw [← hlen]; exact hj2))
            rw [hj] at h10
            have hs := (spot (by omega)).1
            have e : (a.add (k * C.sz)).add (j - vs.length) = ⟨a.block, a.off + j, none⟩ := by
              obtain ⟨ab, ao, azs⟩ := a
              simp only at hs
              subst hs
              rw [Addr.m9, Addr.m9]
              have hge : vs.length ≤ j := Nat.le_of_not_lt hj1
              rw [aru ao k C.sz vs.length j h3 hge]
            rw [e] at h10
            exact h10
        · rw [Oa, List.range_succ, List.map_append, J6]
          simp only [sd, List.map_cons, List.map_nil, mg]
          have : μ y ≤ ld (D k) := h9
          omega
    obtain ⟨xs, vs, h1, h2, h3, h4, h5⟩ := build len (Nat.le_refl _)
    refine ⟨xs, bh.one ?_, by
      simp only [ld]
      have : sd μ xs ≤ mg ((List.range len).map D) := h5
      omega⟩
    by_cases h0 : 0 < m
    · obtain ⟨hs, hb⟩ := spot h0
      obtain ⟨ab, ao, azs⟩ := a
      simp only at hs hb h4
      subst hs
      rw [← h1]
      refine ajf C h2 (by omega) (fun e => by cases e) (fun j v hj => ⟨hb, h4 j v hj⟩)
    · have hl0 : len = 0 := by omega
      have hm0 : m = 0 := by omega
      subst hl0 hm0
      have : xs = [] := List.eq_nil_of_length_eq_zero h1
      subst this
      exact .sq _ _ _
def W3 (P : Program) (fs : List Field) (off : Nat) {α : Type} (C : da α) (μ : α → Nat) : Prop :=
  ∀ {H : Type} (enc : TypeId × Value → H) (W : World) (b0 n : Nat) (cs : List Value) (ys : List (DataW H × List MemPlace)), ys.length = fs.length →
    (∀ (i : Nat) f, fs[i]? = some f → DataW.trod enc P W 0 (fun _ => true) true n f.type ((cs.drop f.offset).take (P.cellsOf f.type)) = ys[i]?) →
    ∃ y, bh (gK b0 (abg W)) W (C.cells false y) ((cs.drop off).take C.sz) ∧ μ y ≤ mg (ys.map (·.1))
theorem asa {P : Program} {f : Field} {off : Nat} {α : Type} {C : da α} {μ : α → Nat} (ho : f.offset = off) (hs : P.cellsOf f.type = C.sz) (h : Rd P f.type C μ) : W3 P [f] off C μ := by
  intro H enc W b0 n cs ys hl hf
  match ys, hl with
  | [y0], _ =>
    have := hf 0 f rfl
    obtain ⟨y, h1, h2⟩ := h enc W b0 n _ y0 this
    rw [ho, hs] at h1
    exact ⟨y, h1, by simp [mg]; exact h2⟩
theorem apb {P : Program} {f : Field} {fs : List Field} {off : Nat} {α β : Type} {A : da α} {B : da β} {μ : α → Nat} {ν : β → Nat} (ho : f.offset = off) (hs : P.cellsOf f.type = A.sz) (h : Rd P f.type A μ) (hr : W3 P fs (off + A.sz) B ν) :
    W3 P (f :: fs) off (ig A B) (fun p => μ p.1 + ν p.2) := by
  intro H enc W b0 n cs ys hl hf
  match ys, hl with
  | y0 :: ys, hl =>
    have h0 := hf 0 f rfl
    obtain ⟨y, h1, h2⟩ := h enc W b0 n _ y0 h0
    obtain ⟨z, h3, h4⟩ := hr enc W b0 n cs ys (by simpa using hl) (fun i g hg => by have := hf (i + 1) g (by simpa using hg); simpa using this)
    rw [ho, hs] at h1
    refine ⟨(y, z), ?_, by simp [mg]; omega⟩
    have := h1.append h3
    rwa [show (cs.drop off).take A.sz ++ (cs.drop (off + A.sz)).take B.sz = (cs.drop off).take (A.sz + B.sz) from by
      rw [List.take_add, List.drop_drop]] at this
theorem am4 {P : Program} {t : TypeId} {fs : Array Field} {α : Type} {C : da α} {μ : α → Nat} (ht : P.underlying t = some (.struct fs)) (hc : P.cellsOf t = C.sz) (h : W3 P fs.toList 0 C μ) : Rd P t C (fun x => μ x + 1) := by
  intro H enc W b0 fuel cs x hx
  obtain ⟨xs, n, _, rfl, hl, hlen, hf⟩ := DataW.trod_struct ht hx
  obtain ⟨y, h1, h2⟩ := h enc W b0 n cs xs (by simpa using hlen) (fun i f hi => hf i f (by simpa using hi))
  refine ⟨y, ?_, by simp [ld]; exact h2⟩
  rwa [List.drop_zero, List.take_of_length_le (by omega)] at h1
theorem as7 {P : Program} {t : TypeId} {α β : Type} {C : da α} {μ : α → Nat} {f : β → α} {i : α → β} {h1 : ∀ y, i (f y) = y} {h2 : ∀ x, f (i x) = x} (h : Rd P t C μ) : Rd P t (vi C f i h1 h2) (fun y => μ (f y)) := by
  intro H enc W b0 fuel cs x hx
  obtain ⟨y, h3, h4⟩ := h enc W b0 fuel cs x hx
  exact ⟨i y, by show bh _ _ (C.cells false (f (i y))) cs; rw [h2]; exact h3, by show μ (f (i y)) ≤ _; rw [h2]; exact h4⟩
def RdA (P : Program) (ts : List TypeId) {α : Type} (A : AC α) (μ : α → Nat) : Prop :=
  ∀ {H : Type} (enc : TypeId × Value → H) (W : World) (b0 b1 : Nat) (vs : List Value) (ds : List (DataW H)) (ps : List MemPlace), (∀ (j : Nat) t v, ts[j]? = some t → vs[j]? = some v → Value.okWide P W .any b1 t v) →
    DataW.TrodAll enc P W 0 (fun _ => true) true ts vs ds ps → ∃ y, bh (gK b0 (abg W)) W (A.E y) vs ∧ μ y ≤ mg ds
theorem ar9 (P : Program) : RdA P [] a0 (fun _ => 0) := by
  intro H enc W b0 b1 vs ds ps _ h
  obtain ⟨rfl, rfl, rfl⟩ := trodAll_nil h
  exact ⟨(), bh.nil _ _, Nat.zero_le _⟩
theorem aka {P : Program} {W : World} {b : Nat} {t : TypeId} {v : Value} (h : kz P t = some true) (ho : Value.okWide P W .any b t v) : ∃ cs, v = .agg cs := by
  unfold kz at h
  unfold Value.okWide at ho
  cases hu : P.underlying t with
  | none => rw [hu] at h; cases h
  | some d =>
    rw [hu] at h ho
    cases d <;> simp_all <;> exact ⟨_, ho.choose_spec.1⟩
theorem O0 {P : Program} {t : TypeId} {ts : List TypeId} {α β : Type} {C : da α} {R : AC β} {μ : α → Nat} {ν : β → Nat} (ha : kz P t = some C.agg) (h : Rd P t C μ) (hr : RdA P ts R ν) : RdA P (t :: ts) (aC C R) (fun p => μ p.1 + ν p.2) := by
  intro H enc W b0 b1 vs ds ps hok hall
  obtain ⟨v, vs1, d, ds1, p, q, rfl, rfl, rfl, h0, h1⟩ := trodAll_cons hall
  obtain ⟨fuel, hf⟩ := h0
  obtain ⟨y, h2, h3⟩ := h enc W b0 fuel _ _ hf
  obtain ⟨z, h4, h5⟩ := hr enc W b0 b1 vs1 ds1 q (fun j t v ht hv => hok (j + 1) t v (by simpa using ht) (by simpa using hv)) h1
  have h3' : μ y ≤ ld d := h3
  refine ⟨(y, z), bh.cons ?_ h4, by simp only [mg]; omega⟩
  have hv := hok 0 t v rfl rfl
  show Rel _ _ (C.val false y) v
  unfold da.val
  cases hg : C.agg with
  | true =>
    obtain ⟨cs, rfl⟩ := aka (by rw [ha, hg]) hv
    exact .agg _ cs (by simpa [Value.cells] using h2.1) (fun i a v ha hv => h2.2 i a v ha (by simpa [Value.cells] using hv))
  | false =>
    obtain ⟨c, h6, h7, _⟩ := C.one hg false y
    rw [cond_false, h6]
    rw [h6] at h2
    have hcs : v.cells.toList = [v] := by
      have hl := h2.1
      simp only [List.length_singleton] at hl
      cases v with
      | agg cs =>
        exfalso
        unfold kz at ha
        unfold Value.okWide at hv
        cases hu : P.underlying t with
        | none => rw [hu] at ha; cases ha
        | some d =>
          rw [hu] at ha hv
          have hcell : Cell.okWide P W .any b1 t (.agg cs) := by
            cases d <;> simp_all
          rw [hg] at ha
          unfold Cell.okWide Cell.ok at hcell
          rw [hu] at hcell
          cases d <;> simp_all
      | _ => rfl
    rw [hcs] at h2
    exact h2.head
theorem abz {W W' : World} (q : zh W W') {p : MemPlace} (h : p.block < W.heap.size) : W.sameAt W' p := by
  cases p with
  | cell b off => exact su (q.heap b h)
  | map b => exact q.heap b h
theorem again {H : Type} {enc : TypeId × Value → H} {P : Program} {W W' : World} {sp : Nat → Bool} (K : Kids P (· < P.types.size)) (hz : ∀ t e, t < P.types.size → P.underlying t = some (.slice e) → 0 < P.cellsOf e) (q : zh W W') :
    ∀ {ts : List TypeId} {vs : List Value} {ds : List (DataW H)} {ps : List MemPlace}, (∀ t ∈ ts, t < P.types.size) → DataW.TrodAll enc P W 0 (fun _ => true) true ts vs ds ps → (∀ p ∈ ps, sp p.block = true) → (∀ p ∈ ps, p.block < W.heap.size) →
      DataW.TrodAll enc P W' 0 sp true ts vs ds ps
  | [], [], [], _, _, h, _, _ => h
  | t :: ts, v :: vs, d :: ds, ps, hT, ⟨p, p', h1, h2, e⟩, hs, hl => by
    obtain ⟨n, hn⟩ := h1
    subst e
    have h3 := DataW.trod_respare (spare' := sp) K hz n t _ _ (hT t (by simp)) hn (fun x hx => hs x (by simp only [List.mem_append]; exact .inl hx))
    have h4 := DataW.trod_carry (w' := W') n t _ _ h3 (fun x hx => abz q (hl x (by simp only [List.mem_append]; exact .inl hx)))
    exact ⟨p, p', ⟨n, h4⟩, again K hz q (fun t ht => hT t (by simp [ht])) h2 (fun x hx => hs x (by simp [hx])) (fun x hx => hl x (by simp [hx])), rfl⟩
theorem ahr {W W' : World} (q : zh W W') (may : MemPlace → Prop) : W.keptBut W' may := by
  refine ⟨q.os, q.output, fun i hi => ?_⟩
  rw [q.heap i hi]
  split
  · rename_i c t fr c' t' fr' h1 h2
    rw [h1] at h2
    cases h2
    exact ⟨rfl, rfl, rfl, fun _ _ => rfl⟩
  · rename_i es cl es' cl' h1 h2
    rw [h1] at h2
    cases h2
    exact .inr ⟨rfl, rfl⟩
  · rfl
def ajm (P : Program) : Bool := (List.range P.types.size).all fun t => match P.underlying t with | some (.slice e) => Nat.blt 0 (P.cellsOf e) | _ => true
theorem Xv {P : Program} (h : ajm P = true) (t e : TypeId) (ht : t < P.types.size) (hu : P.underlying t = some (.slice e)) : 0 < P.cellsOf e := by
  have := List.all_eq_true.1 h t (List.mem_range.2 ht)
  simp only [hu] at this
  exact Nat.le_of_ble_eq_true this
def asn (P : Program) (l : List TypeId) : Bool := l.all fun t => Nat.blt t P.types.size
theorem aj8 {P : Program} {l : List TypeId} (h : asn P l = true) : ∀ t ∈ l, t < P.types.size := fun t ht => Nat.le_of_ble_eq_true (List.all_eq_true.1 h t ht)
theorem aps {P : Program} (hlaid : laidOutB P = true) (hmaps : mapsRowed P = true) (hz : ∀ t e, t < P.types.size → P.underlying t = some (.slice e) → 0 < P.cellsOf e) {f : Nat} {fn : Func} {s : ChangeSpec} {tb : TypeId}
    (he : kq P f = true) (hvars : s.vars = []) (hres : fn.resultTypes = #[tb]) (htb : P.underlying tb = some .bool) (hpar : ∀ t ∈ fn.params.toList, t < P.types.size)
    (hfn : ∀ (H : Type) (ds : List (DataW H)), ds.length = fn.params.toList.length → s.fn H ds = { results := [.lit (.bool true)], args := ds }) {α : Type} {A : AC α} {μ : α → Nat} (hA : RdA P fn.params.toList A μ) {N : Option Nat}
    (hcall : ∀ x, (∀ n, N = some n → μ x ≤ n) → bk P f (A.E x) (.sc (.bool true)))
    {H : Type} (enc : TypeId × Value → H) (W : World) (base : Nat) (args : Array Value) (ds gs : List (DataW H)) (before : List MemPlace) (hval : ∀ (j : Nat) t v, fn.params[j]? = some t → args[j]? = some v → Value.okWide P W .any base t v)
    (hW : DataW.Whole enc P fn.params.toList s.vars false W args.toList ds gs before) (hN : ∀ n, N = some n → mg (ds ++ gs) ≤ n) :
    Calls P f args W fun e W' => ∃ v, e = .returned v ∧ s.post enc P fn false true false false W args v W' := by
  have hW' := hW
  obtain ⟨p, q, hA0, hV, rfl, hfz, hnd⟩ := hW
  rw [hvars] at hV
  obtain ⟨rfl, rfl⟩ := trodVars_none hV
  obtain ⟨x, hx, hμ⟩ := hA enc W W.heap.size base args.toList ds p (fun j t v ht hv => hval j t v (by simpa using ht) (by simpa using hv)) hA0
  have hp := hcall x (fun n hn => Nat.le_trans hμ (by have := hN n hn; simpa using this)) (abg W) W args.toList (fun _ _ h => h) hx
  have hlen : ds.length = fn.params.toList.length := by
    have : ∀ {ts : List TypeId} {vs : List Value} {ds : List (DataW H)} {ps : List MemPlace}, DataW.TrodAll enc P W 0 (fun _ => true) true ts vs ds ps → ds.length = ts.length := by
      intro ts
      induction ts with
      | nil => intro vs ds ps h; obtain ⟨_, rfl, _⟩ := trodAll_nil h; rfl
      | cons t ts ih => intro vs ds ps h; obtain ⟨v, vs1, d, ds1, p, q, rfl, rfl, rfl, h0, h1⟩ := trodAll_cons h; simp [ih h1]
    exact this hA0
  have hlt : ∀ y ∈ p ++ [], y.block < W.heap.size := fun y hy => hW'.lt y hy
  have hspec := hfn H ds hlen
  rcases hp with ⟨v, hv, _⟩ | ⟨_, hc⟩
  · rw [s7 he] at hv; cases hv
  · refine hc.mono ?_
    rintro e W' ⟨v, rfl, hq, hr⟩
    obtain rfl := hr.exact rfl
    refine ⟨_, rfl, ds, [], p ++ [], [], p, [], hW', ?_, ?_, ?_, ahr hq _, fun e => by cases e⟩
    · rw [List.append_nil, hspec, hres]
      exact trodAll_cons_mk (Go.RowKit.shut_bool htb _) trodAll_mk0
    · rw [List.append_nil, hspec]
      exact again (kids_rows hlaid hmaps) hz hq hpar hA0 (fun y hy => by have := hlt y (by simp [hy]); simpa using this) (fun y hy => hlt y (by simp [hy]))
    · rw [List.append_nil, hspec, hvars]
      rfl
end
end Go.Vm
end
section
set_option linter.unusedVariables false
namespace Go.Vm
open Go.Proofs
theorem amu : (Tryz.prog.underlying 3 = some (.int .i64)) ∧
  (Tryz.prog.underlying 5 = some (.int .u8)) ∧
  (Tryz.prog.underlying 9 = some (.string)) ∧
  (Tryz.prog.underlying 22 = some (.slice 9)) ∧
  (Tryz.prog.underlying 23 = some (.slice 9)) ∧
  (Tryz.prog.underlying 24 = some (.slice 40)) ∧
  (Tryz.prog.underlying 37 = some (.int .u32)) ∧
  (Tryz.prog.underlying 38 = some (.slice 83)) :=
  ⟨by kernel_rfl, by kernel_rfl, by kernel_rfl, by kernel_rfl, by kernel_rfl, by kernel_rfl, by kernel_rfl, by kernel_rfl⟩
theorem amr : (Tryz.prog.underlying 48 = some (.slice 37)) ∧
  (Tryz.prog.underlying 68 = some (.slice 3)) ∧
  (Tryz.prog.underlying 76 = some (.slice 23)) ∧
  (Tryz.prog.underlying 81 = some (.slice 5)) ∧
  (Tryz.prog.underlying 249 = some (.slice 81)) :=
  ⟨by kernel_rfl, by kernel_rfl, by kernel_rfl, by kernel_rfl, by kernel_rfl⟩
theorem anv : (kz Tryz.prog 3 = some false) ∧
  (kz Tryz.prog 4 = some false) ∧
  (kz Tryz.prog 5 = some false) ∧
  (kz Tryz.prog 9 = some false) ∧
  (kz Tryz.prog 22 = some false) ∧
  (kz Tryz.prog 23 = some false) ∧
  (kz Tryz.prog 24 = some false) ∧
  (kz Tryz.prog 26 = some true) :=
  ⟨by kernel_rfl, by kernel_rfl, by kernel_rfl, by kernel_rfl, by kernel_rfl, by kernel_rfl, by kernel_rfl, by kernel_rfl⟩
theorem amd : (kz Tryz.prog 28 = some false) ∧
  (kz Tryz.prog 32 = some true) ∧
  (kz Tryz.prog 33 = some false) ∧
  (kz Tryz.prog 36 = some false) ∧
  (kz Tryz.prog 37 = some false) ∧
  (kz Tryz.prog 38 = some false) ∧
  (kz Tryz.prog 40 = some true) ∧
  (kz Tryz.prog 48 = some false) ∧
  (kz Tryz.prog 62 = some false) ∧
  (kz Tryz.prog 64 = some true) ∧
  (kz Tryz.prog 76 = some false) ∧
  (kz Tryz.prog 81 = some false) :=
  ⟨by kernel_rfl, by kernel_rfl, by kernel_rfl, by kernel_rfl, by kernel_rfl, by kernel_rfl, by kernel_rfl, by kernel_rfl, by kernel_rfl, by kernel_rfl, by kernel_rfl, by kernel_rfl⟩
theorem anb : (kz Tryz.prog 83 = some true) ∧
  (kz Tryz.prog 88 = some false) ∧
  (kz Tryz.prog 90 = some true) ∧
  (kz Tryz.prog 178 = some false) :=
  ⟨by kernel_rfl, by kernel_rfl, by kernel_rfl, by kernel_rfl⟩
theorem amb : (kz Tryz.prog 214 = some true) := by kernel_rfl
theorem ag9 : (de Tryz.prog 3 = some 1) ∧
  (de Tryz.prog 4 = some 1) ∧
  (de Tryz.prog 5 = some 1) ∧
  (de Tryz.prog 9 = some 1) ∧
  (de Tryz.prog 22 = some 1) ∧
  (de Tryz.prog 23 = some 1) ∧
  (de Tryz.prog 24 = some 1) ∧
  (de Tryz.prog 26 = some 2) :=
  ⟨by kernel_rfl, by kernel_rfl, by kernel_rfl, by kernel_rfl, by kernel_rfl, by kernel_rfl, by kernel_rfl, by kernel_rfl⟩
theorem agj : (de Tryz.prog 28 = some 1) ∧
  (de Tryz.prog 32 = some 5) ∧
  (de Tryz.prog 33 = some 1) ∧
  (de Tryz.prog 36 = some 1) ∧
  (de Tryz.prog 37 = some 1) ∧
  (de Tryz.prog 38 = some 1) ∧
  (de Tryz.prog 40 = some 5) ∧
  (de Tryz.prog 48 = some 1) ∧
  (de Tryz.prog 62 = some 1) ∧
  (de Tryz.prog 64 = some 3) ∧
  (de Tryz.prog 76 = some 1) ∧
  (de Tryz.prog 81 = some 1) :=
  ⟨by kernel_rfl, by kernel_rfl, by kernel_rfl, by kernel_rfl, by kernel_rfl, by kernel_rfl, by kernel_rfl, by kernel_rfl, by kernel_rfl, by kernel_rfl, by kernel_rfl, by kernel_rfl⟩
theorem ahf : (de Tryz.prog 83 = some 4) ∧
  (de Tryz.prog 88 = some 1) ∧
  (de Tryz.prog 90 = some 3) ∧
  (de Tryz.prog 178 = some 1) :=
  ⟨by kernel_rfl, by kernel_rfl, by kernel_rfl, by kernel_rfl⟩
theorem ahd : (de Tryz.prog 214 = some 5) := by kernel_rfl
theorem af6 : (ey Tryz.prog 3 = some (.int .i64 0)) ∧
  (ey Tryz.prog 4 = some (.bool false)) ∧
  (ey Tryz.prog 5 = some (.int .u8 0)) ∧
  (ey Tryz.prog 23 = some (.slice none 0 0)) :=
  ⟨by kernel_rfl, by kernel_rfl, by kernel_rfl, by kernel_rfl⟩
theorem agu : (ey Tryz.prog 32 = some (.agg #[.int .i64 0, .bool false, .slice none 0 0, .slice none 0 0, .slice none 0 0])) ∧
  (ey Tryz.prog 40 = some (.agg #[.slice none 0 0, .int .u16 0, .int .u16 0, .int .u32 0, .slice none 0 0])) ∧
  (ey Tryz.prog 64 = some (.agg #[.int .u8 0, .slice none 0 0, .slice none 0 0])) :=
  ⟨by kernel_rfl, by kernel_rfl, by kernel_rfl⟩
theorem ag3 : (ey Tryz.prog 83 = some (.agg #[.slice none 0 0, .slice none 0 0, .slice none 0 0, .slice none 0 0])) ∧
  (ey Tryz.prog 90 = some (.agg #[.int .u8 0, .slice none 0 0, .slice none 0 0])) :=
  ⟨by kernel_rfl, by kernel_rfl⟩
theorem ago : (ey Tryz.prog 214 = some (.agg #[.int .i64 0, .int .i64 0, .int .i64 0, .int .i64 0, .int .i64 0])) := by kernel_rfl
theorem am2 : (Bt Tryz.prog 22 = some (9, 1, [.sc (.string .empty)])) ∧
  (Bt Tryz.prog 23 = some (9, 1, [.sc (.string .empty)])) ∧
  (Bt Tryz.prog 24 = some (40, 5, [.sc (.slice none 0 0), .sc (.int .u16 0), .sc (.int .u16 0), .sc (.int .u32 0), .sc (.slice none 0 0)])) ∧
  (Bt Tryz.prog 38 = some (83, 4, [.sc (.slice none 0 0), .sc (.slice none 0 0), .sc (.slice none 0 0), .sc (.slice none 0 0)])) ∧
  (Bt Tryz.prog 48 = some (37, 1, [.sc (.int .u32 0)])) ∧
  (Bt Tryz.prog 68 = some (3, 1, [.sc (.int .i64 0)])) ∧
  (Bt Tryz.prog 76 = some (23, 1, [.sc (.slice none 0 0)])) ∧
  (Bt Tryz.prog 81 = some (5, 1, [.sc (.int .u8 0)])) ∧
  (Bt Tryz.prog 249 = some (81, 1, [.sc (.slice none 0 0)])) :=
  ⟨by kernel_rfl, by kernel_rfl, by kernel_rfl, by kernel_rfl, by kernel_rfl, by kernel_rfl, by kernel_rfl, by kernel_rfl, by kernel_rfl⟩
theorem acx : (vu Tryz.prog 32 = some ([.sc (.int .i64 0), .sc (.bool false), .sc (.slice none 0 0), .sc (.slice none 0 0), .sc (.slice none 0 0)], [(0, 1), (1, 1), (2, 1), (3, 1), (4, 1)])) ∧
  (vu Tryz.prog 40 = some ([.sc (.slice none 0 0), .sc (.int .u16 0), .sc (.int .u16 0), .sc (.int .u32 0), .sc (.slice none 0 0)], [(0, 1), (1, 1), (2, 1), (3, 1), (4, 1)])) ∧
  (vu Tryz.prog 64 = some ([.sc (.int .u8 0), .sc (.slice none 0 0), .sc (.slice none 0 0)], [(0, 1), (1, 1), (2, 1)])) ∧
  (vu Tryz.prog 83 = some ([.sc (.slice none 0 0), .sc (.slice none 0 0), .sc (.slice none 0 0), .sc (.slice none 0 0)], [(0, 1), (1, 1), (2, 1), (3, 1)])) ∧
  (vu Tryz.prog 90 = some ([.sc (.int .u8 0), .sc (.slice none 0 0), .sc (.slice none 0 0)], [(0, 1), (1, 1), (2, 1)])) ∧
  (vu Tryz.prog 95 = some ([.sc (.slice none 0 0), .sc (.slice none 0 0), .sc (.int .i64 0), .sc (.bool false), .sc (.slice none 0 0), .sc (.slice none 0 0), .sc (.slice none 0 0), .sc (.slice none 0 0)], [(0, 2), (2, 5), (7, 1)])) :=
  ⟨by kernel_rfl, by kernel_rfl, by kernel_rfl, by kernel_rfl, by kernel_rfl, by kernel_rfl⟩
theorem adf : (vu Tryz.prog 180 = some ([.sc (.slice none 0 0), .sc (.slice none 0 0), .sc (.int .i64 0)], [(0, 2), (2, 1)])) ∧
  (vu Tryz.prog 214 = some ([.sc (.int .i64 0), .sc (.int .i64 0), .sc (.int .i64 0), .sc (.int .i64 0), .sc (.int .i64 0)], [(0, 1), (1, 1), (2, 1), (3, 1), (4, 1)])) :=
  ⟨by kernel_rfl, by kernel_rfl⟩
theorem acg : (eg Tryz.prog 26 0 = some ⟨"Origin", 23, 0, false, "", "", 0⟩) ∧
  (eg Tryz.prog 26 1 = some ⟨"Sets", 24, 1, false, "", "", 24⟩) ∧
  (eg Tryz.prog 32 0 = some ⟨"Rcode", 3, 0, false, "", "", 0⟩) :=
  ⟨by kernel_rfl, by kernel_rfl, by kernel_rfl⟩
theorem aa2 : (eg Tryz.prog 32 1 = some ⟨"AA", 4, 1, false, "", "", 8⟩) ∧
  (eg Tryz.prog 32 2 = some ⟨"Answer", 24, 2, false, "", "", 16⟩) ∧
  (eg Tryz.prog 32 3 = some ⟨"Authority", 24, 3, false, "", "", 40⟩) ∧
  (eg Tryz.prog 32 4 = some ⟨"Additional", 24, 4, false, "", "", 64⟩) ∧
  (eg Tryz.prog 40 0 = some ⟨"Owner", 23, 0, false, "", "", 0⟩) ∧
  (eg Tryz.prog 40 1 = some ⟨"Type", 28, 1, false, "", "", 24⟩) ∧
  (eg Tryz.prog 40 2 = some ⟨"Class", 36, 2, false, "", "", 26⟩) ∧
  (eg Tryz.prog 40 3 = some ⟨"TTL", 37, 3, false, "", "", 28⟩) ∧
  (eg Tryz.prog 40 4 = some ⟨"Data", 38, 4, false, "", "", 32⟩) ∧
  (eg Tryz.prog 64 0 = some ⟨"Turn", 62, 0, false, "", "", 0⟩) :=
  ⟨by kernel_rfl, by kernel_rfl, by kernel_rfl, by kernel_rfl, by kernel_rfl, by kernel_rfl, by kernel_rfl, by kernel_rfl, by kernel_rfl, by kernel_rfl⟩
theorem Y8 : (eg Tryz.prog 64 1 = some ⟨"Sets", 24, 1, false, "", "", 8⟩) ∧
  (eg Tryz.prog 64 2 = some ⟨"To", 23, 2, false, "", "", 32⟩) ∧
  (eg Tryz.prog 83 0 = some ⟨"Names", 76, 0, false, "", "", 0⟩) ∧
  (eg Tryz.prog 83 1 = some ⟨"Nums", 48, 1, false, "", "", 24⟩) ∧
  (eg Tryz.prog 83 2 = some ⟨"Texts", 22, 2, false, "", "", 48⟩) ∧
  (eg Tryz.prog 83 3 = some ⟨"Raw", 81, 3, false, "", "", 72⟩) ∧
  (eg Tryz.prog 90 0 = some ⟨"Kind", 88, 0, false, "", "", 0⟩) ∧
  (eg Tryz.prog 90 1 = some ⟨"Node", 23, 1, false, "", "", 8⟩) ∧
  (eg Tryz.prog 95 0 = some ⟨"z", 26, 0, false, "", "nomenclator/answer", 0⟩) :=
  ⟨by kernel_rfl, by kernel_rfl, by kernel_rfl, by kernel_rfl, by kernel_rfl, by kernel_rfl, by kernel_rfl, by kernel_rfl, by kernel_rfl⟩
theorem Z4 : (eg Tryz.prog 95 1 = some ⟨"r", 32, 2, false, "", "nomenclator/answer", 48⟩) ∧
  (eg Tryz.prog 95 2 = some ⟨"seen", 76, 7, false, "", "nomenclator/answer", 136⟩) ∧
  (eg Tryz.prog 180 0 = some ⟨"z", 26, 0, false, "", "nomenclator/zone", 0⟩) ∧
  (eg Tryz.prog 180 1 = some ⟨"e", 33, 2, false, "", "nomenclator/zone", 48⟩) :=
  ⟨by kernel_rfl, by kernel_rfl, by kernel_rfl, by kernel_rfl⟩
theorem Zq : (eg Tryz.prog 214 0 = some ⟨"names", 3, 0, false, "", "nomenclator/rdata", 0⟩) ∧
  (eg Tryz.prog 214 1 = some ⟨"nums", 3, 1, false, "", "nomenclator/rdata", 8⟩) ∧
  (eg Tryz.prog 214 2 = some ⟨"size", 3, 2, false, "", "nomenclator/rdata", 16⟩) ∧
  (eg Tryz.prog 214 3 = some ⟨"texts", 3, 3, false, "", "nomenclator/rdata", 24⟩) ∧
  (eg Tryz.prog 214 4 = some ⟨"raw", 3, 4, false, "", "nomenclator/rdata", 32⟩) :=
  ⟨by kernel_rfl, by kernel_rfl, by kernel_rfl, by kernel_rfl, by kernel_rfl⟩
theorem anf : (z7 Tryz.prog 22 = some (9, 1, 16)) ∧
  (z7 Tryz.prog 23 = some (9, 1, 16)) ∧
  (z7 Tryz.prog 24 = some (40, 5, 56)) ∧
  (z7 Tryz.prog 38 = some (83, 4, 96)) ∧
  (z7 Tryz.prog 48 = some (37, 1, 4)) ∧
  (z7 Tryz.prog 76 = some (23, 1, 24)) ∧
  (z7 Tryz.prog 81 = some (5, 1, 1)) :=
  ⟨by kernel_rfl, by kernel_rfl, by kernel_rfl, by kernel_rfl, by kernel_rfl, by kernel_rfl, by kernel_rfl⟩
theorem TF : type_of% amu ∧ type_of% amr ∧ type_of% anv ∧ type_of% amd ∧ type_of% anb ∧ type_of% amb ∧ type_of% ag9 ∧ type_of% agj ∧ type_of% ahf ∧ type_of% ahd ∧ type_of% af6 ∧ type_of% agu ∧ type_of% ag3 ∧ type_of% ago ∧ type_of% am2 ∧ type_of% acx ∧ type_of% adf ∧ type_of% acg ∧ type_of% aa2 ∧ type_of% Y8 ∧ type_of% Z4 ∧ type_of% Zq ∧ type_of% anf :=
  ⟨amu, amr, anv, amd, anb, amb, ag9, agj, ahf, ahd, af6, agu, ag3, ago, am2, acx, adf, acg, aa2, Y8, Z4, Zq, anf⟩
end Go.Vm
end
section
set_option linter.unusedSimpArgs false
set_option linter.unusedVariables false
namespace Go.Proofs.YtidomogemfchpaaGreat
open Go.Vm
noncomputable abbrev PP := Tryz.prog
theorem mixed : PP.follows .mixedOrders = true := by kernel_rfl
theorem be {T : dw} (hT : aw PP T) {f : Nat} {fn : Func} (hf : PP.funcs[f]? = some fn) (hb : fn.body.isSome = true) (he : kq PP f = true) (hs : dt fn.ntmps (fn.body.getD .skip) = true)
    {args : List AV} (hl : args.length ≤ fn.ntmps) {ρ : Type} (R : RC ρ) (fr : Bool) (x : ρ)
    (h : wl PP T 0 (fn.body.getD .skip) (du PP fn.results.toList (fun r st => R.get fr st.h r = some x)) (cq 0 args) (bm [])) : bk PP f args (R.E fr x) :=
  Ud (body := fn.body.getD .skip) hT mixed hf (by cases hq : fn.body with | none => rw [hq] at hb; cases hb | some b => rfl) he hs hl R fr x h
def lf (s : ByteArray) : Int := if s.size < 1 ∨ 63 < s.size then 4 else 0
theorem X0 (s : ByteArray) : wl PP [] 0 (Tryz.f50.body.getD .skip) (du PP Tryz.f50.results.toList (fun r st => (r1 (bg .i64)).get true st.h r = some (lf s))) (cq 0 [ak.val false s]) (bm []) := by
  unfold Tryz.f50
  simp only [↓wR, RA, simprocAttr, TF]
  rw [cp]
  refine ⟨fun h => ?_, fun h => ?_⟩
  · have h1 : s.size < 1 := by simp at h; omega
    simp only [↓wR, RA, simprocAttr, TF, lf, h, h1, true_or]
  · have h1 : ¬ s.size < 1 := by simp at h; omega
    simp only [↓wR, RA, simprocAttr, TF, h]
    rw [cp]
    refine ⟨fun h => ?_, fun h => ?_⟩
    · have h2 : 63 < s.size := by simp at h; omega
      simp only [↓wR, RA, simprocAttr, TF, lf, h2, or_true]
    · have h2 : ¬ 63 < s.size := by simp at h; omega
      simp only [↓wR, RA, simprocAttr, TF, lf, h1, h2, or_self]
noncomputable def Fm (x : ByteArray × Unit) : Option AV := some ((r1 (bg .i64)).E true (lf x.1))
set_option maxRecDepth 2000000 in
theorem Rh (x : ByteArray × Unit) (r : AV) (h : Fm x = some r) : bk PP 50 ((aC ak a0).E x) r := by
  cases h
  exact be (aw.nil PP) Tryz.func50 (by kernel_rfl) (by kernel_rfl) (by kernel_rfl) (Nat.le_of_ble_eq_true (by kernel_rfl)) (r1 (bg .i64)) true (lf x.1) (X0 x.1)
noncomputable abbrev ai8 : Nat × Bool × (List AV → M AV) := (50, true, dm (aC ak a0) Fm)
def bj (n : Name) : Nat := n.foldl (fun k s => k + (s.size + 1)) 1
theorem Xx (l : Name) (c : ByteArray) : bj (l ++ [c]) = bj l + (c.size + 1) := by simp [bj]
theorem Yd (n : Name) (i : Nat) (c : ByteArray) (h : n[i]? = some c) : bj (n.take (i + 1)) = bj (n.take i) + (c.size + 1) := by
  obtain ⟨hk, rfl⟩ := List.getElem?_eq_some_iff.1 h
  rw [List.take_succ_eq_append_getElem hk, Xx]
theorem Bq (l : Name) : ∀ k, l.foldl (fun k s => k + (s.size + 1)) k = k + l.foldl (fun k s => k + (s.size + 1)) 0 := by
  induction l with
  | nil => intro k; simp
  | cons a l ih => intro k; simp only [List.foldl_cons]; rw [ih, ih (0 + _)]; omega
theorem kg (a b : Name) : bj (a ++ b) + 1 = bj a + bj b := by
  simp only [bj, List.foldl_append]
  rw [Bq b, Bq b 1]; omega
theorem pc (n : Name) (i : Nat) : bj (n.take i) ≤ bj n ∧ n.length < bj n := by
  constructor
  · have := kg (n.take i) (n.drop i)
    rw [List.take_append_drop] at this
    have h1 : 1 ≤ bj (n.drop i) := by simp only [bj]; rw [Bq]; omega
    omega
  · induction n with
    | nil => simp [bj]
    | cons a l ih =>
      have := kg [a] l
      simp only [List.singleton_append] at this
      have h1 : bj [a] = a.size + 2 := by simp [bj]; omega
      simp only [List.length_cons]
      omega
theorem wrap_i64 (x : Int) (h0 : -9223372036854775808 ≤ x) (h1 : x < 9223372036854775808) : IntKind.i64.wrap x = x := by
  simp [IntKind.wrap, IntKind.bits, IntKind.signed]; omega
theorem aet (n : Name) (hn : bj n < 17592186044416) : wl PP [] 0 (Tryz.f51.body.getD .skip) (du PP Tryz.f51.results.toList (fun r st => (r1 (bg .i64)).get true st.h r = some (bj n : Int))) (cq 0 [ar.val false n]) (bm []) := by
  unfold Tryz.f51
  rw [db]
  simp only [↓wR, RA, simprocAttr, TF]
  refine dy [3, 6, 7, 8] (fun (x : Nat) => [.sc (.int .i64 (bj (n.take x))), .vl false 1 (n.map (ak.val false)), .sc (.int .i64 n.length), .sc (.int .i64 x)]) (fun _ => []) (fun x => x ≤ n.length) (fun x => n.length - x) 0 (Nat.zero_le _) ?_ ?_ ?_
  · simp only [↓wR, RA, simprocAttr, TF] <;> rfl
  · simp only [↓wR, RA, simprocAttr, TF]
  · intro i hi
    have h1 := pc n i
    simp only [↓wR, RA, simprocAttr, TF]
    rw [cp]
    refine ⟨fun h => ?_, fun h => ?_⟩
    · have h4 : i < n.length := by simp at h; omega
      obtain ⟨c, hc⟩ : ∃ c, n[i]? = some c := ⟨n[i], by simp [h4]⟩
      have h2 := Yd n i c hc
      have h3 := (pc n (i + 1)).1
      simp only [↓wR, RA, simprocAttr, TF, hc]
      refine ⟨i + 1, by omega, by omega, ?_⟩
      rw [h2]
      simp only [List.cons.injEq, and_true, true_and, AV.sc.injEq, Value.int.injEq]
      refine ⟨?_, ?_⟩
      · rw [wrap_i64 ((c.size : Int) + 1) (by omega) (by omega), wrap_i64 _ (by omega) (by omega)]; omega
      · rw [wrap_i64 _ (by omega) (by omega)]; omega
    · have h4 : i = n.length := by simp at h; omega
      subst h4
      simp only [↓wR, RA, simprocAttr, TF, List.take_length]
noncomputable def yi (x : Name × Unit) : Option AV := if bj x.1 < 17592186044416 then some ((r1 (bg .i64)).E true ((bj x.1 : Int))) else none
set_option maxRecDepth 2000000 in
theorem Uu (x : Name × Unit) (r : AV) (h : yi x = some r) : bk PP 51 ((aC ar a0).E x) r := by
  by_cases hc : bj x.1 < 17592186044416
  case neg => simp only [yi, if_neg hc] at h; cases h
  simp only [yi, if_pos hc] at h
  cases h
  exact be (aw.nil PP) Tryz.func51 (by kernel_rfl) (by kernel_rfl) (by kernel_rfl) (Nat.le_of_ble_eq_true (by kernel_rfl)) (r1 (bg .i64)) true ((bj x.1 : Int)) (aet x.1 hc)
noncomputable abbrev al0 : Nat × Bool × (List AV → M AV) := (51, true, dm (aC ar a0) yi)
def x8 (n : Name) : Bool := n.any fun s => decide (lf s ≠ 0)
def dn (n : Name) : Int := if x8 n then 4 else if 255 < bj n then 5 else 0
theorem aaj (n : Name) (i : Nat) (c : ByteArray) (h : n[i]? = some c) : x8 (n.take (i + 1)) = (x8 (n.take i) || decide (lf c ≠ 0)) := by
  obtain ⟨hk, rfl⟩ := List.getElem?_eq_some_iff.1 h
  rw [List.take_succ_eq_append_getElem hk]
  simp only [x8, List.any_append, List.any_cons, List.any_nil, Bool.or_false]
theorem abo (n : Name) (i : Nat) (c : ByteArray) (h : n[i]? = some c) (hc : lf c ≠ 0) : x8 n = true := by
  simp only [x8, List.any_eq_true]
  exact ⟨c, List.mem_of_getElem? h, by simp [hc]⟩
theorem Z3 (s : ByteArray) : lf s = 0 ∨ lf s = 4 := by unfold lf; split <;> simp
theorem ab4 (n : Name) (hn : bj n < 17592186044416) : wl PP [ai8, al0] 0 (Tryz.f17.body.getD .skip) (du PP Tryz.f17.results.toList (fun r st => (r1 (bg .i64)).get true st.h r = some (dn n))) (cq 0 [ar.val false n]) (bm []) := by
  unfold Tryz.f17
  rw [db]
  simp only [↓wR, RA, simprocAttr, TF]
  refine dy [0, 6, 7, 8] (fun (x : Nat) => [.vl false 1 (n.map (ak.val false)), .vl false 1 (n.map (ak.val false)), .sc (.int .i64 n.length), .sc (.int .i64 x)]) (fun _ => []) (fun x => x ≤ n.length ∧ x8 (n.take x) = false) (fun x => n.length - x) 0 ⟨Nat.zero_le _, by simp [x8]⟩ ?_ ?_ ?_
  · simp only [↓wR, RA, simprocAttr, TF] <;> rfl
  · simp only [↓wR, RA, simprocAttr, TF]
  · rintro i ⟨hi, hb⟩
    have h1 := pc n i
    simp only [↓wR, RA, simprocAttr, TF]
    rw [cp]
    refine ⟨fun h => ?_, fun h => ?_⟩
    · have h4 : i < n.length := by simp at h; omega
      obtain ⟨c, hc⟩ : ∃ c, n[i]? = some c := ⟨n[i], by simp [h4]⟩
      simp only [↓wR, RA, simprocAttr, TF, hc, Fm]
      rw [cp]
      refine ⟨fun h => ?_, fun h => ?_⟩
      · have h5 : lf c ≠ 0 := by simpa using h
        have h6 : lf c = 4 := (Z3 c).resolve_left h5
        simp only [↓wR, RA, simprocAttr, TF, dn, abo n i c hc h5, h6]
      · have h5 : lf c = 0 := by simpa using h
        simp only [↓wR, RA, simprocAttr, TF]
        refine ⟨i + 1, ⟨by omega, by rw [aaj n i c hc, hb]; simp [h5]⟩, by omega, ?_⟩
        simp only [List.cons.injEq, and_true, true_and, AV.sc.injEq, Value.int.injEq]
        rw [wrap_i64 _ (by omega) (by omega)]; omega
    · have h4 : i = n.length := by simp at h; omega
      subst h4
      rw [List.take_length] at hb
      simp only [↓wR, RA, simprocAttr, TF, yi, hn]
      rw [cp]
      refine ⟨fun h => ?_, fun h => ?_⟩
      · have h5 : 255 < bj n := by simp at h; omega
        simp only [↓wR, RA, simprocAttr, TF, dn, hb, h5]
      · have h5 : ¬ 255 < bj n := by simp at h; omega
        simp only [↓wR, RA, simprocAttr, TF, dn, hb, h5]
noncomputable def nv (x : Name × Unit) : Option AV := if bj x.1 < 17592186044416 then some ((r1 (bg .i64)).E true (dn x.1)) else none
set_option maxRecDepth 2000000 in
theorem pn (x : Name × Unit) (r : AV) (h : nv x = some r) : bk PP 17 ((aC ar a0).E x) r := by
  by_cases hc : bj x.1 < 17592186044416
  case neg => simp only [nv, if_neg hc] at h; cases h
  simp only [nv, if_pos hc] at h
  cases h
  exact be (aw.cons (aq Rh) (aw.cons (aq Uu) (aw.nil PP))) Tryz.func17 (by kernel_rfl) (by kernel_rfl) (by kernel_rfl) (Nat.le_of_ble_eq_true (by kernel_rfl)) (r1 (bg .i64)) true (dn x.1) (ab4 x.1 hc)
noncomputable abbrev dz : Nat × Bool × (List AV → M AV) := (17, true, dm (aC ar a0) nv)
def low (c : UInt8) : UInt8 := if 65 ≤ c ∧ c ≤ 90 then c + 32 else c
def fold (s : ByteArray) : ByteArray := ⟨(s.data.toList.map low).toArray⟩
def my (l : List UInt8) (i : Nat) : List UInt8 := (l.take i).map low ++ l.drop i
theorem aks (l : List UInt8) (i : Nat) : (my l i).length = l.length := by simp [my]; omega
theorem Vi (l : List UInt8) (i : Nat) (h : i < l.length) : (my l i)[i]? = l[i]? := by
  simp [my, List.getElem?_append, Nat.min_eq_left (Nat.le_of_lt h)]
theorem Xg (l : List UInt8) (i : Nat) (h : i < l.length) : (my l i).take i ++ [low l[i]] ++ (my l i).drop (i + 1) = my l (i + 1) := by
  have h1 : ((l.take i).map low).length = i := by simp; omega
  have h2 : (my l i).take i = (l.take i).map low := by rw [my, List.take_append_of_le_length (by omega), List.take_of_length_le (by omega)]
  have h3 : (my l i).drop (i + 1) = l.drop (i + 1) := by
    rw [my, List.drop_append, List.drop_eq_nil_of_le (by omega), h1]
    simp
  rw [h2, h3, my, List.take_succ_eq_append_getElem h, List.map_append]
  rfl
theorem Qj (l : List UInt8) (i : Nat) (h : i < l.length) (hk : low l[i] = l[i]) : my l i = my l (i + 1) := by
  rw [← Xg l i h, hk]
  have : (my l i)[i]? = some l[i] := by rw [Vi l i h]; simp [h]
  obtain ⟨hlt, e⟩ := List.getElem?_eq_some_iff.1 this
  rw [← e, ← List.take_succ_eq_append_getElem hlt, List.take_append_drop]
set_option maxRecDepth 20000 in
theorem Yv (s : ByteArray) (hs : s.size ≤ 16777216) : wl PP [] 0 (Tryz.f133.body.getD .skip) (du PP Tryz.f133.results.toList (fun r st => (r1 ak).get true st.h r = some (fold s))) (cq 0 [ak.val false s]) (bm []) := by
  unfold Tryz.f133
  have hl : s.data.toList.length = s.size := by simp
  simp only [↓wR, RA, simprocAttr, TF, hs]
  refine dy [3, 8, 9, 10] (fun (x : Nat) => [.sl 0 0 s.size 1, .sl 0 0 s.size 1, .sc (.int .i64 s.size), .sc (.int .i64 x)]) (fun x => [some (.row ((my s.data.toList x).map (bz.val false)) 0 1 5)]) (fun x => x ≤ s.size) (fun x => s.size - x) 0 (Nat.zero_le _) ?_ ?_ ?_
  · simp only [↓wR, RA, simprocAttr, TF] <;> rfl
  · simp only [↓wR, RA, simprocAttr, TF] <;> rfl
  · intro i hi
    simp only [↓wR, RA, simprocAttr, TF]
    rw [cp]
    refine ⟨fun h => ?_, fun h => ?_⟩
    · have h4 : i < s.size := by simp at h; omega
      have h6 : i < s.data.toList.length := by omega
      have h5 : (my s.data.toList i)[i]? = some s.data.toList[i] := by rw [Vi s.data.toList i h6]; simp [h6]
      obtain ⟨c, hc⟩ : ∃ c, s.data.toList[i] = c := ⟨_, rfl⟩
      have hcl := c.toNat_lt
      rw [hc] at h5
      simp only [↓wR, RA, simprocAttr, TF, h4, h5]
      rw [cp]
      refine ⟨fun h1 => ?_, fun h1 => ?_⟩
      · simp only [↓wR, RA, simprocAttr, TF, h1]
        rw [cp]
        refine ⟨fun h2 => ?_, fun h2 => ?_⟩
        · have h7 : i + 1 ≤ s.size := by omega
          have hlow : low c = c + 32 := by
            simp at h1 h2
            have a1 : 65 ≤ c := by rw [UInt8.le_iff_toNat_le]; simp; omega
            have a2 : c ≤ 90 := by rw [UInt8.le_iff_toNat_le]; simp; omega
            simp [low, a1, a2]
          have hw : IntKind.u8.wrap (IntKind.u8.wrap ((c.toNat : Int) + 97) - 65) = ((low c).toNat : Int) := by
            simp at h1 h2
            rw [hlow]
            simp [IntKind.wrap, IntKind.bits, IntKind.signed, UInt8.toNat_add]
            omega
          have hst : List.map (bz.val false) (List.take i (my s.data.toList i)) ++ [AV.sc (Value.int IntKind.u8 ((low c).toNat : Int))] ++ List.map (bz.val false) (List.drop (i + 1) (my s.data.toList i)) = List.map (bz.val false) (my s.data.toList (i + 1)) := by
            rw [← Xg s.data.toList i h6, hc, List.map_append, List.map_append]; rfl
          simp only [↓wR, RA, simprocAttr, TF, h4, h7, aks, hl, hw, hst]
          refine ⟨i + 1, h7, by omega, ?_, rfl⟩
          rw [wrap_i64 _ (by omega) (by omega)]; rfl
        · simp only [↓wR, RA, simprocAttr, TF]
          have hk : low c = c := by
            simp at h2
            have a2 : ¬ c ≤ 90 := by rw [UInt8.le_iff_toNat_le]; simp; omega
            simp [low, a2]
          refine ⟨i + 1, by omega, by omega, ?_, ?_⟩
          · rw [wrap_i64 _ (by omega) (by omega)]; rfl
          · rw [Qj s.data.toList i h6 (by rw [hc]; exact hk)]
      · simp only [↓wR, RA, simprocAttr, TF, h1]
        have hk : low c = c := by
          simp at h1
          have a2 : ¬ 65 ≤ c := by rw [UInt8.le_iff_toNat_le]; simp; omega
          simp [low, a2]
        refine ⟨i + 1, by omega, by omega, ?_, ?_⟩
        · rw [wrap_i64 _ (by omega) (by omega)]; rfl
        · rw [Qj s.data.toList i h6 (by rw [hc]; exact hk)]
    · have h4 : i = s.size := by simp at h; omega
      subst h4
      have : ∃ m, List.map low s.data.toList = m := ⟨_, rfl⟩
      obtain ⟨m, hm⟩ := this
      have h5 : my s.data.toList s.size = m := by rw [my, List.take_of_length_le (Nat.le_of_eq hl), List.drop_eq_nil_of_le (Nat.le_of_eq hl), List.append_nil, hm]
      have hlm : m.length = s.size := by rw [← hm, List.length_map, hl]
      have h6 : List.take s.size (List.map (bz.val false) m) = List.map (bz.val false) m := List.take_of_length_le (by rw [List.length_map, hlm]; exact Nat.le_refl _)
      have hf : fold s = ⟨m.toArray⟩ := by rw [fold, hm]
      rw [h5, hf]
      simp only [↓wR, RA, simprocAttr, TF, hlm, h6]
noncomputable def th (x : ByteArray × Unit) : Option AV := if x.1.size ≤ 16777216 then some ((r1 ak).E true (fold x.1)) else none
set_option maxRecDepth 2000000 in
theorem zt (x : ByteArray × Unit) (r : AV) (h : th x = some r) : bk PP 133 ((aC ak a0).E x) r := by
  by_cases hc : x.1.size ≤ 16777216
  case neg => simp only [th, if_neg hc] at h; cases h
  simp only [th, if_pos hc] at h
  cases h
  exact be (aw.nil PP) Tryz.func133 (by kernel_rfl) (by kernel_rfl) (by kernel_rfl) (Nat.le_of_ble_eq_true (by kernel_rfl)) (r1 ak) true (fold x.1) (Yv x.1 hc)
noncomputable abbrev I8 : Nat × Bool × (List AV → M AV) := (133, true, dm (aC ak a0) th)
theorem aaf (a b : ByteArray) (ha : a.size ≤ 16777216) (hb : b.size ≤ 16777216) : wl PP [I8] 0 (Tryz.f91.body.getD .skip) (du PP Tryz.f91.results.toList (fun r st => (r1 bo).get true st.h r = some (decide (fold a = fold b)))) (cq 0 [ak.val false a, ak.val false b]) (bm []) := by
  unfold Tryz.f91
  simp only [↓wR, RA, simprocAttr, TF, th, ha, hb]
noncomputable def yv (x : ByteArray × ByteArray × Unit) : Option AV := if x.1.size ≤ 16777216 ∧ x.2.1.size ≤ 16777216 then some ((r1 bo).E true (decide (fold x.1 = fold x.2.1))) else none
set_option maxRecDepth 2000000 in
theorem U7 (x : ByteArray × ByteArray × Unit) (r : AV) (h : yv x = some r) : bk PP 91 ((aC ak (aC ak a0)).E x) r := by
  by_cases hc : x.1.size ≤ 16777216 ∧ x.2.1.size ≤ 16777216
  case neg => simp only [yv, if_neg hc] at h; cases h
  simp only [yv, if_pos hc] at h
  cases h
  exact be (aw.cons (aq zt) (aw.nil PP)) Tryz.func91 (by kernel_rfl) (by kernel_rfl) (by kernel_rfl) (Nat.le_of_ble_eq_true (by kernel_rfl)) (r1 bo) true (decide (fold x.1 = fold x.2.1)) (aaf x.1 x.2.1 hc.1 hc.2)
noncomputable abbrev ak1 : Nat × Bool × (List AV → M AV) := (91, true, dm (aC ak (aC ak a0)) yv)
end Go.Proofs.YtidomogemfchpaaGreat
end
section
set_option linter.unusedSimpArgs false
set_option linter.unusedVariables false
namespace Go.Proofs.YtidomogemfchpaaGreat
open Go.Vm
def ed : List ByteArray → List ByteArray → Nat
  | a :: r, b :: q => if fold a = fold b then ed r q + 1 else 0
  | _, _ => 0
theorem afl (l : List ByteArray) : ed l [] = 0 := by cases l <;> rfl
def common (a b : Name) : Nat := ed a.reverse b.reverse
theorem abi {l : List ByteArray} {x : Nat} {c : ByteArray} (h : x < l.length) (hc : l[l.length - 1 - x]? = some c) : l.reverse.drop x = c :: l.reverse.drop (x + 1) := by
  have h1 : l.reverse[x]? = some c := by rw [List.getElem?_reverse h]; exact hc
  obtain ⟨h2, h3⟩ := List.getElem?_eq_some_iff.1 h1
  rw [← h3]; exact List.drop_eq_getElem_cons h2
set_option maxRecDepth 20000 in
theorem X1 (a b : Name) (ha : ∀ s ∈ a, s.size ≤ 16777216) (hb : ∀ s ∈ b, s.size ≤ 16777216) (hla : a.length < 17592186044416) (hlb : b.length < 17592186044416) : wl PP [ak1] 0 (Tryz.f53.body.getD .skip) (du PP Tryz.f53.results.toList (fun r st => (r1 (bg .i64)).get true st.h r = some (common a b : Int))) (cq 0 [ar.val false a, ar.val false b]) (bm []) := by
  unfold Tryz.f53
  simp only [db]
  simp only [↓wR, RA, simprocAttr, TF]
  refine bn (T := []) (aw.nil PP) mixed Tryz.func90 rfl (by kernel_rfl) (by kernel_rfl) (by kernel_rfl) (by kernel_rfl) ?_; unfold Tryz.f90
  simp only [↓wR, RA, simprocAttr, TF]
  refine ⟨[2, 3, 4, 5, 10], ?_⟩
  have hib : vc PP 132 = some (Tryz.f132.ntmps, Tryz.f132.body.getD .skip) := by kernel_rfl
  simp only [↓wR, RA, simprocAttr, TF, hib]
  refine ⟨by kernel_rfl, fun l => ?_⟩
  unfold Tryz.f132
  simp only [↓wR, RA, simprocAttr, TF]
  refine D4 [0, 1, 3] (fun (x : Nat) => [.sc (.func (.yield l) #[] #[]), .ptr 4 0, .sc (.int .i64 ((a.length : Int) - 1 - x))]) (fun x => [some (.row [.vl false 1 (a.map (ak.val false))] 0 2 23), some (.row [.vl false 1 (b.map (ak.val false))] 0 2 23), some (.row [.sc (.int .i64 0)] 0 2 3), some (.row [.sc (.int .i64 x)] 0 2 3), some (.row [.vl false 1 (a.map (ak.val false))] 0 2 23)]) (fun x => x ≤ a.length ∧ common a b = x + ed (a.reverse.drop x) (b.reverse.drop x)) (fun x => a.length - x) 0 ⟨Nat.zero_le _, by simp [common]⟩ ?_ ?_ ?_
  · simp only [↓wR, RA, simprocAttr, TF]; simp; rw [wrap_i64 _ (by omega) (by omega)]
  · simp only [↓wR, RA, simprocAttr, TF] <;> rfl
  rintro x ⟨hx, hR⟩
  simp only [↓wR, RA, simprocAttr, TF]
  rw [wh]; refine ⟨fun h => ?_, fun h => ?_⟩
  · have hx' : x < a.length := by simp at h; omega
    obtain ⟨c, hc⟩ : ∃ c, a[a.length - 1 - x]? = some c := ⟨_, List.getElem?_eq_getElem (by omega)⟩
    have e : ((a.length : Int) - 1 - x).toNat = a.length - 1 - x := by omega
    have e2 : (0 : Int) ≤ (a.length : Int) - 1 - x := by omega
    simp only [↓wR, RA, simprocAttr, TF, e, hc, e2]
    refine yj [0, 1, 3, 12, 16] ?_
    simp only [↓wR, RA, simprocAttr, TF, zc, nb, hc]
    simp (disch := omega) only [ai, cd, ca, cf, cb]
    rw [cp]; refine ⟨fun h1 => ?_, fun h1 => ?_⟩
    · have hb0 : b.length ≤ x := by simp at h1; omega
      have hb1 : b.reverse.drop x = [] := List.drop_eq_nil_of_le (by simpa using hb0)
      rw [hb1, afl] at hR
      simp only [↓wR, RA, simprocAttr, TF, h1]
      rw [hR, Nat.add_zero]
    · have hb0 : x < b.length := by simp at h1; omega
      obtain ⟨d, hd⟩ : ∃ d, b[b.length - 1 - x]? = some d := ⟨_, List.getElem?_eq_getElem (by omega)⟩
      have e4 : ((b.length : Int) - ((a.length : Int) - ((a.length : Int) - 1 - x))).toNat = b.length - 1 - x := by omega
      have e5 : (0 : Int) ≤ (b.length : Int) - ((a.length : Int) - ((a.length : Int) - 1 - x)) := by omega
      simp only [↓wR, RA, simprocAttr, TF, h1, hd, e4, e5, yv, ha c (List.mem_of_getElem? hc), hb d (List.mem_of_getElem? hd)]
      rw [abi hx' hc, abi hb0 hd, ed] at hR
      rw [cp]; refine ⟨fun h2 => ?_, fun h2 => ?_⟩
      · have h3 : ¬ fold c = fold d := by simpa using h2
        rw [if_neg h3] at hR
        simp only [↓wR, RA, simprocAttr, TF, h2]
        rw [hR, Nat.add_zero]
      · have h3 : fold c = fold d := by simpa using h2
        rw [if_pos h3] at hR
        simp only [↓wR, RA, simprocAttr, TF, h2]
        refine ⟨x + 1, ⟨by omega, by omega⟩, by omega, ?_, ?_⟩
        · simp only [List.cons.injEq, and_true, true_and, AV.sc.injEq, Value.int.injEq]
          simp (disch := omega) only [ai, cd, ca, cf, cb]
          omega
        · simp (disch := omega) only [ai, cd, ca, cf, cb]
          rfl
  · have h4 : x = a.length := by simp at h; omega
    have h5 : a.reverse.drop x = [] := List.drop_eq_nil_of_le (by simp; omega)
    rw [h5, ed] at hR
    simp only [↓wR, RA, simprocAttr, TF, h]
    rw [hR, Nat.add_zero]
    all_goals simp
end Go.Proofs.YtidomogemfchpaaGreat
end
section
set_option linter.unusedSimpArgs false
set_option linter.unusedVariables false
namespace Go.Proofs.YtidomogemfchpaaGreat
open Go.Vm
theorem afh (args : List AV) : Aw PP 204 args (Cx.il args) :=
  Cx.sm (fn := (PP.funcs[204]?).getD default) (by kernel_rfl) (by kernel_rfl) (by kernel_rfl) (by kernel_rfl) (by kernel_rfl) args
noncomputable abbrev an0 : Nat × Bool × (List AV → M AV) := (204, true, Cx.il)
theorem ana : aw PP [an0] := aw.cons afh (aw.nil PP)
noncomputable def z5 (a b : ByteArray) : Int := Lib.compareBytes a.data.toList b.data.toList
theorem Mp (a b : ByteArray) : wl PP [] 0 (Tryz.f197.body.getD .skip) (du PP Tryz.f197.results.toList (fun r st => (r1 (bg .i64)).get true st.h r = some (z5 a b))) (cq 0 [ak.val false a, ak.val false b]) (bm []) := by
  unfold Tryz.f197
  simp only [↓wR, RA, simprocAttr, TF]
  refine bn (T := [an0]) ana mixed Tryz.func201 rfl (by kernel_rfl) (by kernel_rfl) (by kernel_rfl) (by kernel_rfl) ?_; unfold Tryz.f201
  simp only [↓wR, RA, simprocAttr, TF, z5]
noncomputable def yt (x : ByteArray × ByteArray × Unit) : Option AV := some ((r1 (bg .i64)).E true (z5 x.1 x.2.1))
set_option maxRecDepth 2000000 in
theorem I2 (x : ByteArray × ByteArray × Unit) (r : AV) (h : yt x = some r) : bk PP 197 ((aC ak (aC ak a0)).E x) r := by
  cases h
  exact be (aw.nil PP) Tryz.func197 (by kernel_rfl) (by kernel_rfl) (by kernel_rfl) (Nat.le_of_ble_eq_true (by kernel_rfl)) (r1 (bg .i64)) true (z5 x.1 x.2.1) (Mp x.1 x.2.1)
noncomputable abbrev Up : Nat × Bool × (List AV → M AV) := (197, true, dm (aC ak (aC ak a0)) yt)
theorem Qs (a b : ByteArray) (ha : a.size ≤ 16777216) (hb : b.size ≤ 16777216) : wl PP [I8, Up] 0 (Tryz.f187.body.getD .skip) (du PP Tryz.f187.results.toList (fun r st => (r1 (bg .i64)).get true st.h r = some (z5 (fold a) (fold b)))) (cq 0 [ak.val false a, ak.val false b]) (bm []) := by
  unfold Tryz.f187
  simp only [↓wR, RA, simprocAttr, TF, th, yt, ha, hb]
noncomputable def tz (x : ByteArray × ByteArray × Unit) : Option AV := if x.1.size ≤ 16777216 ∧ x.2.1.size ≤ 16777216 then some ((r1 (bg .i64)).E true (z5 (fold x.1) (fold x.2.1))) else none
set_option maxRecDepth 2000000 in
theorem Mn (x : ByteArray × ByteArray × Unit) (r : AV) (h : tz x = some r) : bk PP 187 ((aC ak (aC ak a0)).E x) r := by
  by_cases hc : x.1.size ≤ 16777216 ∧ x.2.1.size ≤ 16777216
  case neg => simp only [tz, if_neg hc] at h; cases h
  simp only [tz, if_pos hc] at h
  cases h
  exact be (aw.cons (aq zt) (aw.cons (aq I2) (aw.nil PP))) Tryz.func187 (by kernel_rfl) (by kernel_rfl) (by kernel_rfl) (Nat.le_of_ble_eq_true (by kernel_rfl)) (r1 (bg .i64)) true (z5 (fold x.1) (fold x.2.1)) (Qs x.1 x.2.1 hc.1 hc.2)
noncomputable abbrev aat : Nat × Bool × (List AV → M AV) := (187, true, dm (aC ak (aC ak a0)) tz)
def gm (n : Name) : List ByteArray := n.map fold
def bd (n : Name) : Prop := bj n ≤ 16777216
instance (n : Name) : Decidable (bd n) := inferInstanceAs (Decidable (_ ≤ _))
theorem aak {n : Name} {s : ByteArray} (h : s ∈ n) : s.size < bj n := by
  obtain ⟨a, b, rfl⟩ := List.append_of_mem h
  have h1 := kg a ([s] ++ b)
  have h2 := kg [s] b
  have h3 : bj [s] = s.size + 2 := by simp [bj]; omega
  have h4 : ∀ l : Name, 1 ≤ bj l := fun l => by have := (pc l 0).2; omega
  have := h4 a; have := h4 b
  simp only [List.singleton_append] at h1 h2
  omega
theorem bd.label {n : Name} (h : bd n) : ∀ s ∈ n, s.size ≤ 16777216 := fun s hs => by have := aak hs; unfold bd at h; omega
theorem bd.len {n : Name} (h : bd n) : n.length < 17592186044416 := by have := (pc n 0).2; unfold bd at h; omega
theorem Hy : ∀ r q : List ByteArray, ed r q ≤ q.length
  | [], q => by simp [ed]
  | a :: r, [] => by simp [ed]
  | a :: r, b :: q => by
    have := Hy r q
    simp only [ed, List.length_cons]
    split <;> omega
theorem Dc : ∀ r q : List ByteArray, ed r q ≤ r.length
  | [], q => by simp [ed]
  | a :: r, [] => by simp [ed]
  | a :: r, b :: q => by
    have := Dc r q
    simp only [ed, List.length_cons]
    split <;> omega
theorem Ou : ∀ r q : List ByteArray, ed r q = q.length ↔ q.map fold <+: r.map fold
  | [], [] => by simp [ed]
  | a :: r, [] => by simp [ed]
  | [], b :: q => by simp [ed]
  | a :: r, b :: q => by
    have := Ou r q
    simp only [ed, List.length_cons, List.map_cons, List.cons_prefix_cons]
    by_cases h : fold a = fold b
    · rw [if_pos h]
      constructor
      · intro h1; exact ⟨h.symm, this.1 (by omega)⟩
      · intro h1; have := this.2 h1.2; omega
    · rw [if_neg h]
      constructor
      · intro h1; omega
      · intro h1; exact (h h1.1.symm).elim
theorem Dz (n top : Name) : common n top = top.length ↔ gm top <:+ gm n := by
  unfold common gm
  rw [← List.length_reverse, Ou, List.map_reverse, List.map_reverse, List.reverse_prefix]
theorem Nq (a b : Name) : (a.length = b.length ∧ common a b = a.length) ↔ gm a = gm b := by
  constructor
  · rintro ⟨h1, h2⟩
    rw [h1] at h2
    have := (Dz a b).1 h2
    exact (this.eq_of_length (by simp [gm, h1])).symm
  · intro h
    have hl : a.length = b.length := by have := congrArg List.length h; simpa [gm] using this
    refine ⟨hl, ?_⟩
    rw [hl]
    exact (Dz a b).2 (by rw [h]; exact List.suffix_refl _)
def dk (a b : Name) : Bool := decide (gm a = gm b)
def dj (n top : Name) : Bool := decide (gm top <:+ gm n)
noncomputable def pj (x : Name × Name × Unit) : Option AV := if bd x.1 ∧ bd x.2.1 then some ((r1 (bg .i64)).E true ((common x.1 x.2.1 : Int))) else none
set_option maxRecDepth 2000000 in
theorem yq (x : Name × Name × Unit) (r : AV) (h : pj x = some r) : bk PP 53 ((aC ar (aC ar a0)).E x) r := by
  by_cases hc : bd x.1 ∧ bd x.2.1
  case neg => simp only [pj, if_neg hc] at h; cases h
  simp only [pj, if_pos hc] at h
  cases h
  exact be (aw.cons (aq U7) (aw.nil PP)) Tryz.func53 (by kernel_rfl) (by kernel_rfl) (by kernel_rfl) (Nat.le_of_ble_eq_true (by kernel_rfl)) (r1 (bg .i64)) true ((common x.1 x.2.1 : Int)) (X1 x.1 x.2.1 hc.1.label hc.2.label hc.1.len hc.2.len)
noncomputable abbrev Ia : Nat × Bool × (List AV → M AV) := (53, true, dm (aC ar (aC ar a0)) pj)
theorem Z7 (n top : Name) (hn : bd n) (ht : bd top) : wl PP [Ia] 0 (Tryz.f19.body.getD .skip) (du PP Tryz.f19.results.toList (fun r st => (r1 bo).get true st.h r = some (dj n top))) (cq 0 [ar.val false n, ar.val false top]) (bm []) := by
  unfold Tryz.f19
  simp only [db]
  simp only [↓wR, RA, simprocAttr, TF, pj, hn, ht]
  congr 1
  unfold dj
  have := Dz n top
  rw [Bool.eq_iff_iff]; simp [← this]; omega
noncomputable def i9 (x : Name × Name × Unit) : Option AV := if bd x.1 ∧ bd x.2.1 then some ((r1 bo).E true (dj x.1 x.2.1)) else none
set_option maxRecDepth 2000000 in
theorem lu (x : Name × Name × Unit) (r : AV) (h : i9 x = some r) : bk PP 19 ((aC ar (aC ar a0)).E x) r := by
  by_cases hc : bd x.1 ∧ bd x.2.1
  case neg => simp only [i9, if_neg hc] at h; cases h
  simp only [i9, if_pos hc] at h
  cases h
  exact be (aw.cons (aq yq) (aw.nil PP)) Tryz.func19 (by kernel_rfl) (by kernel_rfl) (by kernel_rfl) (Nat.le_of_ble_eq_true (by kernel_rfl)) (r1 bo) true (dj x.1 x.2.1) (Z7 x.1 x.2.1 hc.1 hc.2)
noncomputable abbrev ri : Nat × Bool × (List AV → M AV) := (19, true, dm (aC ar (aC ar a0)) i9)
theorem aeo (n top : Name) (hn : bd n) (ht : bd top) : wl PP [Ia] 0 (Tryz.f24.body.getD .skip) (du PP Tryz.f24.results.toList (fun r st => (r1 bo).get true st.h r = some (dk n top))) (cq 0 [ar.val false n, ar.val false top]) (bm []) := by
  unfold Tryz.f24
  simp only [db]
  simp only [↓wR, RA, simprocAttr, TF, pj, hn, ht]
  rw [cp]; refine ⟨fun h => ?_, fun h => ?_⟩
  · have hl : n.length = top.length := by simp at h; omega
    simp only [↓wR, RA, simprocAttr, TF, h, pj, hn, ht]
    congr 1
    unfold dk
    have := Nq n top
    rw [Bool.eq_iff_iff]; simp [← this, hl]; omega
  · have hl : ¬ n.length = top.length := by simp at h; omega
    simp only [↓wR, RA, simprocAttr, TF, h]
    have := Nq n top
    simp [dk, ← this, hl]
noncomputable def gi (x : Name × Name × Unit) : Option AV := if bd x.1 ∧ bd x.2.1 then some ((r1 bo).E true (dk x.1 x.2.1)) else none
set_option maxRecDepth 2000000 in
theorem ee (x : Name × Name × Unit) (r : AV) (h : gi x = some r) : bk PP 24 ((aC ar (aC ar a0)).E x) r := by
  by_cases hc : bd x.1 ∧ bd x.2.1
  case neg => simp only [gi, if_neg hc] at h; cases h
  simp only [gi, if_pos hc] at h
  cases h
  exact be (aw.cons (aq yq) (aw.nil PP)) Tryz.func24 (by kernel_rfl) (by kernel_rfl) (by kernel_rfl) (Nat.le_of_ble_eq_true (by kernel_rfl)) (r1 bo) true (dk x.1 x.2.1) (aeo x.1 x.2.1 hc.1 hc.2)
noncomputable abbrev dg : Nat × Bool × (List AV → M AV) := (24, true, dm (aC ar (aC ar a0)) gi)
noncomputable def aja (a b : Name) (k : Nat) : Int :=
  match a[a.length - 1 - k]?, b[b.length - 1 - k]? with
  | some x, some y => z5 (fold x) (fold y)
  | _, _ => 0
noncomputable def vy (a b : Name) : Int :=
  if common a b = a.length ∧ common a b = b.length then 0 else if common a b = a.length then -1 else if common a b = b.length then 1 else aja a b (common a b)
theorem Ut (a b : Name) (ha : bd a) (hb : bd b) : wl PP [Ia, aat] 0 (Tryz.f169.body.getD .skip) (du PP Tryz.f169.results.toList (fun r st => (r1 (bg .i64)).get true st.h r = some (vy a b))) (cq 0 [ar.val false a, ar.val false b]) (bm []) := by
  unfold Tryz.f169
  simp only [db]
  simp only [↓wR, RA, simprocAttr, TF, pj, ha, hb]
  have h1 := Dc a.reverse b.reverse
  have h2 := Hy a.reverse b.reverse
  rw [List.length_reverse] at h1 h2
  change common a b ≤ a.length at h1
  change common a b ≤ b.length at h2
  obtain ⟨k, hk⟩ : ∃ k, common a b = k := ⟨_, rfl⟩
  rw [hk] at h1 h2
  unfold vy
  rw [hk]
  rw [cp]; refine ⟨fun h => ?_, fun h => ?_⟩
  · simp only [↓wR, RA, simprocAttr, TF, h]
    have hka : k = a.length := by simp at h; omega
    rw [cp]; refine ⟨fun h3 => ?_, fun h3 => ?_⟩
    · have hkb : k = b.length := by simp at h3; omega
      simp only [↓wR, RA, simprocAttr, TF, h3]
      rw [if_pos ⟨hka, hkb⟩]
    · have hkb : ¬ k = b.length := by simp at h3; omega
      simp only [↓wR, RA, simprocAttr, TF, h3, h]
      rw [if_neg (fun e => hkb e.2), if_pos hka]
  · simp only [↓wR, RA, simprocAttr, TF, h]
    have hka : ¬ k = a.length := by simp at h; omega
    rw [cp]; refine ⟨fun h3 => ?_, fun h3 => ?_⟩
    · have hkb : k = b.length := by simp at h3; omega
      simp only [↓wR, RA, simprocAttr, TF, h3]
      rw [if_neg (fun e => hka e.1), if_neg hka, if_pos hkb]
    · have hkb : ¬ k = b.length := by simp at h3; omega
      rw [if_neg (fun e => hka e.1), if_neg hka, if_neg hkb]
      obtain ⟨x, hx⟩ : ∃ x, a[a.length - 1 - k]? = some x := ⟨_, List.getElem?_eq_getElem (by omega)⟩
      obtain ⟨y, hy⟩ : ∃ y, b[b.length - 1 - k]? = some y := ⟨_, List.getElem?_eq_getElem (by omega)⟩
      simp only [↓wR, RA, simprocAttr, TF, h3]
      refine ⟨by kernel_rfl, .inl ?_⟩
      have la := ha.len
      have lb := hb.len
      simp (disch := omega) only [ai, cd, ca, cf, cb]
      have e1 : (((a.length : Int) - 1) - k).toNat = a.length - 1 - k := by omega
      have e2 : (0 : Int) ≤ ((a.length : Int) - 1) - k := by omega
      have e3 : (((b.length : Int) - 1) - k).toNat = b.length - 1 - k := by omega
      have e4 : (0 : Int) ≤ ((b.length : Int) - 1) - k := by omega
      simp only [↓wR, RA, simprocAttr, TF, hx, e1, e2]
      simp (disch := omega) only [ai, cd, ca, cf, cb]
      simp only [↓wR, RA, simprocAttr, TF, hy, e3, e4, tz, ha.label x (List.mem_of_getElem? hx), hb.label y (List.mem_of_getElem? hy)]
      exact ⟨by kernel_rfl, by simp [aja, hx, hy]⟩
noncomputable def vz (x : Name × Name × Unit) : Option AV := if bd x.1 ∧ bd x.2.1 then some ((r1 (bg .i64)).E true (vy x.1 x.2.1)) else none
set_option maxRecDepth 2000000 in
theorem Pj (x : Name × Name × Unit) (r : AV) (h : vz x = some r) : bk PP 169 ((aC ar (aC ar a0)).E x) r := by
  by_cases hc : bd x.1 ∧ bd x.2.1
  case neg => simp only [vz, if_neg hc] at h; cases h
  simp only [vz, if_pos hc] at h
  cases h
  exact be (aw.cons (aq yq) (aw.cons (aq Mn) (aw.nil PP))) Tryz.func169 (by kernel_rfl) (by kernel_rfl) (by kernel_rfl) (Nat.le_of_ble_eq_true (by kernel_rfl)) (r1 (bg .i64)) true (vy x.1 x.2.1) (Ut x.1 x.2.1 hc.1 hc.2)
noncomputable abbrev aef : Nat × Bool × (List AV → M AV) := (169, true, dm (aC ar (aC ar a0)) vz)
end Go.Proofs.YtidomogemfchpaaGreat
end
section
set_option linter.unusedSimpArgs false
set_option linter.unusedVariables false
namespace Go.Proofs.YtidomogemfchpaaGreat
open Go.Vm
theorem bd.lt {n : Name} (h : bd n) : n.length < 16777216 := by have := (pc n 0).2; unfold bd at h; omega
theorem ae3 (n : Name) (hn : bd n) : wl PP [] 0 (Tryz.f67.body.getD .skip) (du PP Tryz.f67.results.toList (fun r st => (r1 ar).get true st.h r = some n)) (cq 0 [ar.val false n]) (bm []) := by
  unfold Tryz.f67
  simp only [db]
  have hlim : n.length * 16 ≤ 140737488355328 := by have := hn.lt; omega
  simp only [↓wR, RA, simprocAttr, TF, hlim]
noncomputable def kn (x : Name × Unit) : Option AV := if bd x.1 then some ((r1 ar).E true (x.1)) else none
set_option maxRecDepth 2000000 in
theorem mq (x : Name × Unit) (r : AV) (h : kn x = some r) : bk PP 67 ((aC ar a0).E x) r := by
  by_cases hc : bd x.1
  case neg => simp only [kn, if_neg hc] at h; cases h
  simp only [kn, if_pos hc] at h
  cases h
  exact be (aw.nil PP) Tryz.func67 (by kernel_rfl) (by kernel_rfl) (by kernel_rfl) (Nat.le_of_ble_eq_true (by kernel_rfl)) (r1 ar) true (x.1) (ae3 x.1 hc)
noncomputable abbrev p0 : Nat × Bool × (List AV → M AV) := (67, true, dm (aC ar a0) kn)
theorem aox {n : Name} {i : Nat} {c : ByteArray} (hc : n[i]? = some c) : gm (n.drop i) = fold c :: gm (n.drop (i + 1)) := by rw [Gw hc]; rfl
theorem ad6 (n : Name) (hn : bd n) : wl PP [I8] 0 (Tryz.f162.body.getD .skip) (du PP Tryz.f162.results.toList (fun r st => (r1 ar).get true st.h r = some (gm n))) (cq 0 [ar.val false n]) (bm []) := by
  unfold Tryz.f162
  simp only [db]
  have hln := hn.lt
  simp only [↓wR, RA, simprocAttr, TF]
  refine jo [6, 7, 8, 3] (fun (x : List ByteArray) => [.vl false 1 (n.map (ak.val false)), .sc (.int .i64 n.length), .sc (.int .i64 x.length), .sl 0 0 x.length 1]) (fun x => [some (.row (x.map (ak.val false)) 0 0 9)]) (fun x => x ++ gm (n.drop x.length) = gm n ∧ x.length ≤ n.length) (fun x => n.length - x.length) [] ⟨rfl, Nat.zero_le _⟩ (by simp only [↓wR, RA, simprocAttr, TF]; (refine l7.lax [] (by first | exact Nat.le_of_ble_eq_true rfl | (simp [bw]; omega)) ?_ ?_ <;> repeat' first | exact iq.nil | exact dc.nil | exact iw.same _ | exact iw.nil _ _ _ | exact iw.uy _ _ | exact dc.refl _ _ | apply iq.cons | apply dc.ghost | apply dc.same | apply dc.row)) ?_
  rintro x ⟨hR, hx⟩
  simp only [↓wR, RA, simprocAttr, TF]
  rw [cp]; refine ⟨fun h => ?_, fun h => ?_⟩
  · obtain ⟨c, hc, hd, hlt⟩ := ec h
    have hlim : (x.length + 1) * 16 ≤ 140737488355328 := by omega
    simp only [↓wR, RA, simprocAttr, TF, hc, th, hn.label c (List.mem_of_getElem? hc), hlim]
    refine ⟨x ++ [fold c], ⟨?_, by simp; omega⟩, by simp; omega, by (first | rfl | trivial | omega | ((try (simp (disch := omega) only [ai])); (try (simp only [FB])); first | done | rfl | omega)), by (first | rfl | trivial | omega | ((try (simp (disch := omega) only [ai])); (try (simp only [FB])); first | done | rfl | omega))⟩
    rw [← hR, aox hc]; simp
  · rw [fe h] at hR
    simp only [↓wR, RA, simprocAttr, TF, h]
    simpa [gm] using hR
noncomputable def Bh (x : Name × Unit) : Option AV := if bd x.1 then some ((r1 ar).E true (gm x.1)) else none
set_option maxRecDepth 2000000 in
theorem X9 (x : Name × Unit) (r : AV) (h : Bh x = some r) : bk PP 162 ((aC ar a0).E x) r := by
  by_cases hc : bd x.1
  case neg => simp only [Bh, if_neg hc] at h; cases h
  simp only [Bh, if_pos hc] at h
  cases h
  exact be (aw.cons (aq zt) (aw.nil PP)) Tryz.func162 (by kernel_rfl) (by kernel_rfl) (by kernel_rfl) (Nat.le_of_ble_eq_true (by kernel_rfl)) (r1 ar) true (gm x.1) (ad6 x.1 hc)
noncomputable abbrev aov : Nat × Bool × (List AV → M AV) := (162, true, dm (aC ar a0) Bh)
theorem qm {n : Name} (h : dn n = 0) : bj n ≤ 255 := by
  unfold dn at h
  split at h
  · cases h
  · split at h
    · cases h
    · omega
theorem bd.fit {n : Name} (h : bd n) : bj n < 17592186044416 := by unfold bd at h; omega
theorem bd.drop {n : Name} (h : bd n) (i : Nat) : bd (n.drop i) := by
  unfold bd at *
  have := kg (n.take i) (n.drop i)
  rw [List.take_append_drop] at this
  have h1 := (pc (n.take i) 0).2
  omega
def M6 (n : Name) : Name × Int := if dn n ≠ 0 then ([], dn n) else if n = [] then ([], 9) else (n.tail, 0)
theorem asx (n : Name) (hn : bd n) : wl PP [dz, p0] 0 (Tryz.f54.body.getD .skip) (du PP Tryz.f54.results.toList (fun r st => (r2 ar (bg .i64)).get true st.h r = some (M6 n))) (cq 0 [ar.val false n]) (bm []) := by
  unfold Tryz.f54
  simp only [db]
  simp only [↓wR, RA, simprocAttr, TF, nv, hn.fit]
  unfold M6
  rw [cp]; refine ⟨fun h => ?_, fun h => ?_⟩
  · have he : dn n ≠ 0 := by simpa using h
    simp only [↓wR, RA, simprocAttr, TF]
    rw [if_pos he]
  · have he : dn n = 0 := by simpa using h
    rw [if_neg (by omega)]
    simp only [↓wR, RA, simprocAttr, TF]
    rw [cp]; refine ⟨fun h2 => ?_, fun h2 => ?_⟩
    · have hn0 : n = [] := by simpa using h2
      simp only [↓wR, RA, simprocAttr, TF]
      rw [if_pos hn0]
    · have hn0 : n ≠ [] := by simpa using h2
      obtain ⟨a, m, rfl⟩ := List.exists_cons_of_ne_nil hn0
      rw [if_neg hn0]
      simp only [↓wR, RA, simprocAttr, TF]
      simp only [↓wR, RA, simprocAttr, TF, kn, show bd m from hn.drop 1]
      rfl
def s5 : ByteArray := ⟨#[42]⟩
def mj (s : ByteArray) : List UInt8 := UInt8.ofNat s.size :: s.data.toList
def nameBytes (n : Name) : List UInt8 := n.flatMap mj ++ [0]
def w5 (n : Name) : List UInt8 := if dn n ≠ 0 then [] else nameBytes n
theorem Gq (s) : (mj s).length = s.size + 1 := by simp [mj]
theorem I1 (n : Name) : (n.flatMap mj).length + 1 = bj n := by
  induction n with
  | nil => rfl
  | cons a l ih =>
    have := kg [a] l
    have h3 : bj [a] = a.size + 2 := by simp [bj]; omega
    simp only [List.singleton_append] at this
    simp only [List.flatMap_cons, List.length_append, Gq]
    omega
theorem Y4 (n : Name) (hn : bd n) : wl PP [dz] 0 (Tryz.f183.body.getD .skip) (du PP Tryz.f183.results.toList (fun r st => (r2 (ct bz) (bg .i64)).get true st.h r = some (w5 n, dn n))) (cq 0 [ar.val false n]) (bm []) := by
  unfold Tryz.f183
  simp only [db]
  have hln := hn.lt
  simp only [↓wR, RA, simprocAttr, TF, nv, hn.fit]
  rw [cp]; refine ⟨fun h => ?_, fun h => ?_⟩
  · have he : dn n ≠ 0 := by simpa using h
    have hb : w5 n = [] := if_pos he
    simp only [↓wR, RA, simprocAttr, TF, hb]
  have he : dn n = 0 := by simpa using h
  have hb : w5 n = nameBytes n := if_neg (by omega)
  rw [hb, he]
  simp only [↓wR, RA, simprocAttr, TF]
  refine jo [13, 14, 15, 5] (fun (x : Nat × List UInt8) => [.vl false 1 (n.map (ak.val false)), .sc (.int .i64 n.length), .sc (.int .i64 x.1), .sl 0 0 x.2.length 1]) (fun x => [some (.row (x.2.map (bz.val false)) 0 0 5)]) (fun x => x.2 ++ (n.drop x.1).flatMap mj = n.flatMap mj ∧ x.1 ≤ n.length) (fun x => n.length - x.1) (0, []) ⟨rfl, Nat.zero_le _⟩ (by simp only [↓wR, RA, simprocAttr, TF]; (refine l7.lax [] (by first | exact Nat.le_of_ble_eq_true rfl | (simp [bw]; omega)) ?_ ?_ <;> repeat' first | exact iq.nil | exact dc.nil | exact iw.same _ | exact iw.nil _ _ _ | exact iw.uy _ _ | exact dc.refl _ _ | apply iq.cons | apply dc.ghost | apply dc.same | apply dc.row)) ?_
  rintro ⟨i, x⟩ ⟨hR, hx⟩
  simp only at hR hx
  have hnb := I1 n
  have hsm := qm he
  simp only [↓wR, RA, simprocAttr, TF]
  rw [cp]; refine ⟨fun h2 => ?_, fun h2 => ?_⟩
  · obtain ⟨c, hc, hd, hlt⟩ := ec h2
    rw [hd, List.flatMap_cons] at hR
    have hl : x.length + (mj c).length ≤ (n.flatMap mj).length := by rw [← hR]; simp
    rw [Gq] at hl
    simp only [↓wR, RA, simprocAttr, TF, hc]; repeat (simp (disch := omega) only [ai, cd, ca, cf, cb]; try simp only [↓wR, RA, simprocAttr, TF, hc])
    refine ⟨(i + 1, x ++ mj c), ⟨by rw [← hR]; simp, hlt⟩, by simp; omega, ?_, by simp only [mj, List.map_append, List.map_cons, List.append_assoc, List.singleton_append, Ed]⟩
    simp only [List.cons.injEq, and_true, true_and, AV.sc.injEq, Value.int.injEq, AV.sl.injEq, mj, List.length_append, List.length_cons]
    refine ⟨by (try simp (disch := omega) only [ai, cd, ca, cf, cb]); simp, by simp; omega⟩
  · rw [fe h2] at hR
    have hl : x.length < bj n := by rw [← hnb, ← hR]; simp
    simp only [↓wR, RA, simprocAttr, TF, h2]; repeat (simp (disch := omega) only [ai, cd, ca, cf, cb]; try simp only [↓wR, RA, simprocAttr, TF, h2])
    simp only [nameBytes, ← hR]; simp
noncomputable def ur (x : Name × Unit) : Option AV := if bd x.1 then some ((r2 (ct bz) (bg .i64)).E true ((w5 x.1, dn x.1))) else none
set_option maxRecDepth 2000000 in
theorem Rg (x : Name × Unit) (r : AV) (h : ur x = some r) : bk PP 183 ((aC ar a0).E x) r := by
  by_cases hc : bd x.1
  case neg => simp only [ur, if_neg hc] at h; cases h
  simp only [ur, if_pos hc] at h
  cases h
  exact be (aw.cons (aq pn) (aw.nil PP)) Tryz.func183 (by kernel_rfl) (by kernel_rfl) (by kernel_rfl) (Nat.le_of_ble_eq_true (by kernel_rfl)) (r2 (ct bz) (bg .i64)) true ((w5 x.1, dn x.1)) (Y4 x.1 hc)
noncomputable abbrev aj9 : Nat × Bool × (List AV → M AV) := (183, true, dm (aC ar a0) ur)
end Go.Proofs.YtidomogemfchpaaGreat
end
section
set_option linter.unusedSimpArgs false
set_option linter.unusedVariables false
namespace Go.Proofs.YtidomogemfchpaaGreat
open Go.Vm
set_option maxRecDepth 2000000
theorem Hg {α : Type} {f : α → AV} {xs : List α} (h : xs ≠ []) (op l sz p q) : Ce op (.vl l sz (xs.map f)) (.sc (.slice none p q)) = nn op false := by
  cases xs with
  | nil => exact (h rfl).elim
  | cons x xs => rfl
def Jb (v : Value) : Prop := v = .slice none 0 0 ∨ ∃ a c, v = .slice (some a) 0 c
theorem z0 {f : Nat} {r : AV} {sz : Nat} (h : ∀ v, Jb v → bk PP f [.sc v] r) : bk PP f [.vl false sz []] r := by
  intro K w vs hK hrel
  obtain ⟨v, rfl, hv⟩ := An hrel
  have hE : Jb v := by
    cases hv with
    | vl => exact .inr ⟨_, _, rfl⟩
    | jx => exact .inl rfl
    | sq => exact .inr ⟨_, _, rfl⟩
  exact h v hE K w [v] hK (bh.cons (.sc v) (bh.nil _ _))
theorem ad9 (l : List UInt32) (hne : l ≠ []) (hl : l.length ≤ 16777216) : wl PP [] 0 (Tryz.f115.body.getD .skip) (du PP Tryz.f115.results.toList (fun r st => (r1 (ct dh)).get true st.h r = some l)) (cq 0 [(ct dh).val false l]) (bm []) := by
  unfold Tryz.f115
  rw [tj]
  have hb : l.length * 4 ≤ 140737488355328 := by omega
  simp only [↓wR, RA, simprocAttr, TF, Hg hne, hb]
theorem aag (v : Value) (hv : Jb v) : wl PP [] 0 (Tryz.f115.body.getD .skip) (du PP Tryz.f115.results.toList (fun r st => (r1 (ct dh)).get true st.h r = some [])) (cq 0 [.sc v]) (bm []) := by
  unfold Tryz.f115
  rcases hv with rfl | ⟨a, c, rfl⟩
  · simp only [↓wR, RA, simprocAttr, TF]
  · simp only [↓wR, RA, simprocAttr, TF]
noncomputable def xt (x : List UInt32 × Unit) : Option AV := if x.1.length ≤ 16777216 then some ((r1 (ct dh)).E true x.1) else none
theorem Ij (x : List UInt32 × Unit) (r : AV) (h : xt x = some r) : bk PP 115 ((aC (ct dh) a0).E x) r := by
  by_cases hc : x.1.length ≤ 16777216
  case neg => simp only [xt, if_neg hc] at h; cases h
  simp only [xt, if_pos hc] at h
  cases h
  obtain ⟨l, ⟨⟩⟩ := x
  by_cases hn : l = []
  · subst hn
    exact z0 (sz := 1) fun v hv => be (aw.nil PP) Tryz.func115 (by kernel_rfl) (by kernel_rfl) (by kernel_rfl) (Nat.le_of_ble_eq_true (by kernel_rfl)) (r1 (ct dh)) true [] (aag v hv)
  · exact be (aw.nil PP) Tryz.func115 (by kernel_rfl) (by kernel_rfl) (by kernel_rfl) (Nat.le_of_ble_eq_true (by kernel_rfl)) (r1 (ct dh)) true l (ad9 l hn hc)
noncomputable abbrev Y1 : Nat × Bool × (List AV → M AV) := (115, true, dm (aC (ct dh) a0) xt)
theorem ae9 (l : List ByteArray) (hne : l ≠ []) (hl : l.length ≤ 16777216) : wl PP [] 0 (Tryz.f116.body.getD .skip) (du PP Tryz.f116.results.toList (fun r st => (r1 (ct ak)).get true st.h r = some l)) (cq 0 [(ct ak).val false l]) (bm []) := by
  unfold Tryz.f116
  rw [tj]
  have hb : l.length * 16 ≤ 140737488355328 := by omega
  simp only [↓wR, RA, simprocAttr, TF, Hg hne, hb]
theorem Yx (v : Value) (hv : Jb v) : wl PP [] 0 (Tryz.f116.body.getD .skip) (du PP Tryz.f116.results.toList (fun r st => (r1 (ct ak)).get true st.h r = some [])) (cq 0 [.sc v]) (bm []) := by
  unfold Tryz.f116
  rcases hv with rfl | ⟨a, c, rfl⟩
  · simp only [↓wR, RA, simprocAttr, TF]
  · simp only [↓wR, RA, simprocAttr, TF]
noncomputable def xu (x : List ByteArray × Unit) : Option AV := if x.1.length ≤ 16777216 then some ((r1 (ct ak)).E true x.1) else none
theorem Is (x : List ByteArray × Unit) (r : AV) (h : xu x = some r) : bk PP 116 ((aC (ct ak) a0).E x) r := by
  by_cases hc : x.1.length ≤ 16777216
  case neg => simp only [xu, if_neg hc] at h; cases h
  simp only [xu, if_pos hc] at h
  cases h
  obtain ⟨l, ⟨⟩⟩ := x
  by_cases hn : l = []
  · subst hn
    exact z0 (sz := 1) fun v hv => be (aw.nil PP) Tryz.func116 (by kernel_rfl) (by kernel_rfl) (by kernel_rfl) (Nat.le_of_ble_eq_true (by kernel_rfl)) (r1 (ct ak)) true [] (Yx v hv)
  · exact be (aw.nil PP) Tryz.func116 (by kernel_rfl) (by kernel_rfl) (by kernel_rfl) (Nat.le_of_ble_eq_true (by kernel_rfl)) (r1 (ct ak)) true l (ae9 l hn hc)
noncomputable abbrev aaa : Nat × Bool × (List AV → M AV) := (116, true, dm (aC (ct ak) a0) xu)
theorem ajx (l : List UInt8) (hne : l ≠ []) (hl : l.length ≤ 16777216) : wl PP [] 0 (Tryz.f117.body.getD .skip) (du PP Tryz.f117.results.toList (fun r st => (r1 (ct bz)).get true st.h r = some l)) (cq 0 [(ct bz).val false l]) (bm []) := by
  unfold Tryz.f117
  rw [tj]
  have hb : l.length ≤ 140737488355328 := by omega
  simp only [↓wR, RA, simprocAttr, TF, Hg hne, hb]
theorem aew (v : Value) (hv : Jb v) : wl PP [] 0 (Tryz.f117.body.getD .skip) (du PP Tryz.f117.results.toList (fun r st => (r1 (ct bz)).get true st.h r = some [])) (cq 0 [.sc v]) (bm []) := by
  unfold Tryz.f117
  rcases hv with rfl | ⟨a, c, rfl⟩
  · simp only [↓wR, RA, simprocAttr, TF]
  · simp only [↓wR, RA, simprocAttr, TF]
noncomputable def z3 (x : List UInt8 × Unit) : Option AV := if x.1.length ≤ 16777216 then some ((r1 (ct bz)).E true x.1) else none
theorem K8 (x : List UInt8 × Unit) (r : AV) (h : z3 x = some r) : bk PP 117 ((aC (ct bz) a0).E x) r := by
  by_cases hc : x.1.length ≤ 16777216
  case neg => simp only [z3, if_neg hc] at h; cases h
  simp only [z3, if_pos hc] at h
  cases h
  obtain ⟨l, ⟨⟩⟩ := x
  by_cases hn : l = []
  · subst hn
    exact z0 (sz := 1) fun v hv => be (aw.nil PP) Tryz.func117 (by kernel_rfl) (by kernel_rfl) (by kernel_rfl) (Nat.le_of_ble_eq_true (by kernel_rfl)) (r1 (ct bz)) true [] (aew v hv)
  · exact be (aw.nil PP) Tryz.func117 (by kernel_rfl) (by kernel_rfl) (by kernel_rfl) (Nat.le_of_ble_eq_true (by kernel_rfl)) (r1 (ct bz)) true l (ajx l hn hc)
noncomputable abbrev ag7 : Nat × Bool × (List AV → M AV) := (117, true, dm (aC (ct bz) a0) z3)
end Go.Proofs.YtidomogemfchpaaGreat
end
section
set_option linter.unusedSimpArgs false
set_option linter.unusedVariables false
namespace Go.Proofs.YtidomogemfchpaaGreat
open Go.Vm
set_option maxRecDepth 2000000
structure Shape where
  names : Int
  nums : Int
  size : Int
  texts : Int
  raw : Int
noncomputable def tq : da Shape := vi (ig (bg .i64) (ig (bg .i64) (ig (bg .i64) (ig (bg .i64) (bg .i64))))) (fun s => (s.names, s.nums, s.size, s.texts, s.raw)) (fun p => ⟨p.1, p.2.1, p.2.2.1, p.2.2.2.1, p.2.2.2.2⟩) (fun _ => rfl) (fun _ => rfl)
theorem D0 (l : Bool) (s : Shape) : tq.val l s = .agg [.sc (.int .i64 s.names), .sc (.int .i64 s.nums), .sc (.int .i64 s.size), .sc (.int .i64 s.texts), .sc (.int .i64 s.raw)] := id rfl
theorem j4 (fr h) (a b c d e : Int) : tq.ew fr h (.agg [.sc (.int .i64 a), .sc (.int .i64 b), .sc (.int .i64 c), .sc (.int .i64 d), .sc (.int .i64 e)]) = some ⟨a, b, c, d, e⟩ := awa tq fr h ⟨a, b, c, d, e⟩
def je (t : UInt16) : Shape :=
  if (t.toNat : Int) = 1 then ⟨0, 0, 0, 0, 4⟩ else if (t.toNat : Int) = 28 then ⟨0, 0, 0, 0, 16⟩ else if (t.toNat : Int) = 2 then ⟨1, 0, 0, 0, 0⟩ else if (t.toNat : Int) = 5 then ⟨1, 0, 0, 0, 0⟩ else if (t.toNat : Int) = 12 then ⟨1, 0, 0, 0, 0⟩
  else if (t.toNat : Int) = 6 then ⟨2, 5, 4, 0, 0⟩ else if (t.toNat : Int) = 15 then ⟨1, 1, 2, 0, 0⟩ else if (t.toNat : Int) = 33 then ⟨1, 3, 2, 0, 0⟩ else if (t.toNat : Int) = 16 then ⟨0, 0, 0, -1, 0⟩ else if (t.toNat : Int) = 257 then ⟨0, 1, 1, 2, 0⟩ else ⟨0, 0, 0, 0, -1⟩
theorem ald (t : UInt16) : wl PP [] 0 (Tryz.f159.body.getD .skip) (du PP Tryz.f159.results.toList (fun r st => (r1 tq).get true st.h r = some (je t))) (cq 0 [cz.val false t]) (bm []) := by
  unfold Tryz.f159
  unfold je
  simp only [↓wR, RA, simprocAttr, TF]
  rw [c7]; refine ⟨fun ⟨h0, e0⟩ => ?_, fun ⟨h0, e0⟩ => ?_⟩
  · simp only [↓wR, RA, simprocAttr, TF, h0]
    rw [if_pos e0]
    exact j4 ..
  rw [if_neg e0]
  simp only [↓wR, RA, simprocAttr, TF, h0]
  rw [c7]; refine ⟨fun ⟨h1, e1⟩ => ?_, fun ⟨h1, e1⟩ => ?_⟩
  · simp only [↓wR, RA, simprocAttr, TF, h1]
    rw [if_pos e1]
    exact j4 ..
  rw [if_neg e1]
  simp only [↓wR, RA, simprocAttr, TF, h1]
  rw [c7]; refine ⟨fun ⟨h2, e2⟩ => ?_, fun ⟨h2, e2⟩ => ?_⟩
  · simp only [↓wR, RA, simprocAttr, TF, h2]
    rw [if_pos e2]
    exact j4 ..
  rw [if_neg e2]
  simp only [↓wR, RA, simprocAttr, TF, h2]
  rw [c7]; refine ⟨fun ⟨h3, e3⟩ => ?_, fun ⟨h3, e3⟩ => ?_⟩
  · simp only [↓wR, RA, simprocAttr, TF, h3]
    rw [if_pos e3]
    exact j4 ..
  rw [if_neg e3]
  simp only [↓wR, RA, simprocAttr, TF, h3]
  rw [c7]; refine ⟨fun ⟨h4, e4⟩ => ?_, fun ⟨h4, e4⟩ => ?_⟩
  · simp only [↓wR, RA, simprocAttr, TF, h4]
    rw [if_pos e4]
    exact j4 ..
  rw [if_neg e4]
  simp only [↓wR, RA, simprocAttr, TF, h4]
  rw [c7]; refine ⟨fun ⟨h5, e5⟩ => ?_, fun ⟨h5, e5⟩ => ?_⟩
  · simp only [↓wR, RA, simprocAttr, TF, h5]
    rw [if_pos e5]
    exact j4 ..
  rw [if_neg e5]
  simp only [↓wR, RA, simprocAttr, TF, h5]
  rw [c7]; refine ⟨fun ⟨h6, e6⟩ => ?_, fun ⟨h6, e6⟩ => ?_⟩
  · simp only [↓wR, RA, simprocAttr, TF, h6]
    rw [if_pos e6]
    exact j4 ..
  rw [if_neg e6]
  simp only [↓wR, RA, simprocAttr, TF, h6]
  rw [c7]; refine ⟨fun ⟨h7, e7⟩ => ?_, fun ⟨h7, e7⟩ => ?_⟩
  · simp only [↓wR, RA, simprocAttr, TF, h7]
    rw [if_pos e7]
    exact j4 ..
  rw [if_neg e7]
  simp only [↓wR, RA, simprocAttr, TF, h7]
  rw [c7]; refine ⟨fun ⟨h8, e8⟩ => ?_, fun ⟨h8, e8⟩ => ?_⟩
  · simp only [↓wR, RA, simprocAttr, TF, h8]
    rw [if_pos e8]
    exact j4 ..
  rw [if_neg e8]
  simp only [↓wR, RA, simprocAttr, TF, h8]
  rw [c7]; refine ⟨fun ⟨h9, e9⟩ => ?_, fun ⟨h9, e9⟩ => ?_⟩
  · simp only [↓wR, RA, simprocAttr, TF, h9]
    rw [if_pos e9]
    exact j4 ..
  rw [if_neg e9]
  simp only [↓wR, RA, simprocAttr, TF, h9]
  exact j4 ..
noncomputable def Dl (x : UInt16 × Unit) : Option AV := some ((r1 tq).E true (je x.1))
set_option maxRecDepth 2000000 in
theorem C7 (x : UInt16 × Unit) (r : AV) (h : Dl x = some r) : bk PP 159 ((aC cz a0).E x) r := by
  cases h
  exact be (aw.nil PP) Tryz.func159 (by kernel_rfl) (by kernel_rfl) (by kernel_rfl) (Nat.le_of_ble_eq_true (by kernel_rfl)) (r1 tq) true (je x.1) (ald x.1)
noncomputable abbrev Tz : Nat × Bool × (List AV → M AV) := (159, true, dm (aC cz a0) Dl)
def Gl (t : UInt16) : Bool := (t.toNat : Int) == 0 || (decide ((128 : Int) ≤ (t.toNat : Int)) && decide ((t.toNat : Int) ≤ 255))
theorem amf (t : UInt16) : wl PP [] 0 (Tryz.f158.body.getD .skip) (du PP Tryz.f158.results.toList (fun r st => (r1 bo).get true st.h r = some (Gl t))) (cq 0 [cz.val false t]) (bm []) := by
  unfold Tryz.f158
  unfold Gl
  simp only [↓wR, RA, simprocAttr, TF]
  rw [c7]; refine ⟨fun ⟨h, e⟩ => ?_, fun ⟨h, e⟩ => ?_⟩
  · simp only [↓wR, RA, simprocAttr, TF, h]
  · simp only [↓wR, RA, simprocAttr, TF, h]
    rw [b9]; refine ⟨fun h2 => ?_, fun h2 => ?_⟩
    · simp only [↓wR, RA, simprocAttr, TF, h2]
    · simp only [↓wR, RA, simprocAttr, TF, h2]
      rfl
noncomputable def U4 (x : UInt16 × Unit) : Option AV := some ((r1 bo).E true (Gl x.1))
set_option maxRecDepth 2000000 in
theorem afb (x : UInt16 × Unit) (r : AV) (h : U4 x = some r) : bk PP 158 ((aC cz a0).E x) r := by
  cases h
  exact be (aw.nil PP) Tryz.func158 (by kernel_rfl) (by kernel_rfl) (by kernel_rfl) (Nat.le_of_ble_eq_true (by kernel_rfl)) (r1 bo) true (Gl x.1) (amf x.1)
noncomputable abbrev auu : Nat × Bool × (List AV → M AV) := (158, true, dm (aC cz a0) U4)
noncomputable def Ei (n : UInt32) : List UInt8 := [UInt8.ofNat (n.toNat / 16777216), UInt8.ofNat (n.toNat / 65536), UInt8.ofNat (n.toNat / 256), UInt8.ofNat n.toNat]
theorem apa (n : UInt32) : wl PP [] 0 (Tryz.f182.body.getD .skip) (du PP Tryz.f182.results.toList (fun r st => (r1 (ct bz)).get true st.h r = some (Ei n))) (cq 0 [dh.val false n]) (bm []) := by
  unfold Tryz.f182
  simp only [↓wR, RA, simprocAttr, TF]
  rfl
noncomputable def Ly (x : UInt32 × Unit) : Option AV := some ((r1 (ct bz)).E true (Ei x.1))
set_option maxRecDepth 2000000 in
theorem ad8 (x : UInt32 × Unit) (r : AV) (h : Ly x = some r) : bk PP 182 ((aC dh a0).E x) r := by
  cases h
  exact be (aw.nil PP) Tryz.func182 (by kernel_rfl) (by kernel_rfl) (by kernel_rfl) (Nat.le_of_ble_eq_true (by kernel_rfl)) (r1 (ct bz)) true (Ei x.1) (apa x.1)
noncomputable abbrev aut : Nat × Bool × (List AV → M AV) := (182, true, dm (aC dh a0) Ly)
def Pb (c : UInt8) : Bool := decide (97 ≤ c.toNat ∧ c.toNat ≤ 122 ∨ 65 ≤ c.toNat ∧ c.toNat ≤ 90 ∨ 48 ≤ c.toNat ∧ c.toNat ≤ 57)
def Jp (s : ByteArray) : Bool := s.data.toList.all Pb && decide (1 ≤ s.size ∧ s.size ≤ 15)
theorem atq (s : ByteArray) (hs : s.size ≤ 16777216) : wl PP [] 0 (Tryz.f179.body.getD .skip) (du PP Tryz.f179.results.toList (fun r st => (r1 bo).get true st.h r = some (Jp s))) (cq 0 [ak.val false s]) (bm []) := by
  unfold Tryz.f179
  simp only [↓wR, RA, simprocAttr, TF]
  refine dy [0, 6, 7] (fun (i : Nat) => [.sc (.string s), .sc (.int .i64 s.size), .sc (.int .i64 i)]) (fun _ => []) (fun i => i ≤ s.size ∧ s.data.toList.all Pb = (s.data.toList.drop i).all Pb) (fun i => s.size - i) 0 ⟨Nat.zero_le _, rfl⟩ ?_ ?_ ?_
  · simp only [↓wR, RA, simprocAttr, TF] <;> rfl
  · simp only [↓wR, RA, simprocAttr, TF]
  rintro i ⟨hi, hR⟩
  simp only [↓wR, RA, simprocAttr, TF]
  rw [b9]; refine ⟨fun h => ?_, fun h => ?_⟩
  · obtain ⟨c, hc⟩ : ∃ c, s.data.toList[i]? = some c := ⟨_, List.getElem?_eq_getElem (by simp; omega)⟩
    have hd := Gw hc
    rw [hd, List.all_cons] at hR
    simp only [↓wR, RA, simprocAttr, TF, h, hc]; repeat (simp (disch := omega) only [ai, cd, ca, cf, cb]; try simp only [↓wR, RA, simprocAttr, TF, h, hc])
    repeat' (rw [b9]; refine ⟨fun h => ?_, fun h => ?_⟩ <;> simp only [↓wR, RA, simprocAttr, TF, h, hc])
    all_goals first
      | (have ht : Pb c = false := by (unfold Pb; rw [decide_eq_false_iff_not]; omega)
         rw [Jp, hR, ht]; rfl)
      | (have ht : Pb c = true := by (unfold Pb; rw [decide_eq_true_eq]; omega)
         refine ⟨i + 1, ⟨by omega, by rw [hR, ht]; simp⟩, by omega, by (first | rfl | trivial | omega | ((try (simp (disch := omega) only [ai])); (try (simp only [FB])); first | done | rfl | omega))⟩)
  · have hdn : s.data.toList.drop i = [] := List.drop_eq_nil_of_le (by simp; omega)
    rw [hdn, List.all_nil] at hR
    simp only [↓wR, RA, simprocAttr, TF, h]
    unfold Jp
    rw [hR]
    rw [b9]; refine ⟨fun h1 => ?_, fun h1 => ?_⟩
    · simp only [↓wR, RA, simprocAttr, TF, h1]
      congr 1
      rw [Bool.eq_iff_iff]; simp; omega
    · simp only [↓wR, RA, simprocAttr, TF, h1]
      congr 1
      rw [Bool.eq_iff_iff]; simp; omega
noncomputable def Sb (x : ByteArray × Unit) : Option AV := if x.1.size ≤ 16777216 then some ((r1 bo).E true (Jp x.1)) else none
set_option maxRecDepth 2000000 in
theorem anu (x : ByteArray × Unit) (r : AV) (h : Sb x = some r) : bk PP 179 ((aC ak a0).E x) r := by
  by_cases hc : x.1.size ≤ 16777216
  case neg => simp only [Sb, if_neg hc] at h; cases h
  simp only [Sb, if_pos hc] at h
  cases h
  exact be (aw.nil PP) Tryz.func179 (by kernel_rfl) (by kernel_rfl) (by kernel_rfl) (Nat.le_of_ble_eq_true (by kernel_rfl)) (r1 bo) true (Jp x.1) (atq x.1 hc)
noncomputable abbrev awf : Nat × Bool × (List AV → M AV) := (179, true, dm (aC ak a0) Sb)
end Go.Proofs.YtidomogemfchpaaGreat
end
section
set_option linter.unusedSimpArgs false
set_option linter.unusedVariables false
namespace Go.Proofs.YtidomogemfchpaaGreat
open Go.Vm
set_option maxRecDepth 2000000
def gh {α : Type} (f : α → Nat) (l : List α) : Nat := l.foldr (fun x k => f x + k + 1) 0
def x5 (d : c0) : Nat := gh bj d.names + d.nums.length + gh ByteArray.size d.texts + d.raw.length
theorem Ak {α : Type} {f : α → Nat} {l : List α} {x : α} (h : x ∈ l) : f x < gh f l := by
  induction l with
  | nil => cases h
  | cons a l ih =>
    simp only [gh, List.foldr_cons] at ih ⊢
    rcases List.mem_cons.1 h with rfl | h
    · omega
    · have := ih h; omega
theorem wi {α : Type} (f : α → Nat) (l : List α) : l.length ≤ gh f l := by
  induction l with
  | nil => exact Nat.le_refl _
  | cons a l ih => simp only [gh, List.foldr_cons, List.length_cons] at ih ⊢; omega
def dq (d : c0) : Prop := x5 d ≤ 16777216
instance (d : c0) : Decidable (dq d) := inferInstanceAs (Decidable (_ ≤ _))
theorem dq.name {d : c0} (h : dq d) : ∀ n ∈ d.names, bd n := fun n hn => by
  have h1 : bj n < gh bj d.names := Ak hn
  unfold dq x5 at h; unfold bd; omega
theorem dq.text {d : c0} (h : dq d) : ∀ s ∈ d.texts, s.size ≤ 16777216 := fun s hs => by
  have h1 : ByteArray.size s < gh ByteArray.size d.texts := Ak hs
  unfold dq x5 at h; omega
theorem dq.lens {d : c0} (h : dq d) : d.names.length ≤ 16777216 ∧ d.nums.length ≤ 16777216 ∧ d.texts.length ≤ 16777216 ∧ d.raw.length ≤ 16777216 := by
  have h1 := wi bj d.names
  have h2 := wi ByteArray.size d.texts
  unfold dq x5 at h; omega
noncomputable def Lz (s : Shape) : Int := IntKind.u32.wrap (1 * 2 ^ (if (8 * s.size).toNat ≤ 32 then (8 * s.size).toNat else 32))
noncomputable def zi (s : Shape) (t : UInt16) (d : c0) : Bool :=
  if (d.names.length : Int) ≠ s.names ∨ (d.nums.length : Int) ≠ s.nums ∨ (0 ≤ s.raw ∧ (d.raw.length : Int) ≠ s.raw) then false
  else if s.size < 4 ∧ (d.nums.any fun n => decide (Lz s ≤ (n.toNat : Int))) = true then false
  else if (t.toNat : Int) = 257 then decide (d.texts.length = 2) && Jp (d.texts.headD ⟨#[]⟩)
  else if s.texts = 0 then decide (d.texts.length = 0)
  else decide (0 < d.texts.length) && !(d.texts.any fun x => decide (255 < x.size))
noncomputable def Rs (s : Shape) (t : UInt16) (d : c0) : Bool :=
  if s.size < 4 ∧ (d.nums.any fun n => decide (Lz s ≤ (n.toNat : Int))) = true then false
  else if (t.toNat : Int) = 257 then decide (d.texts.length = 2) && Jp (d.texts.headD ⟨#[]⟩)
  else if s.texts = 0 then decide (d.texts.length = 0)
  else decide (0 < d.texts.length) && !(d.texts.any fun x => decide (255 < x.size))
theorem ari (s : Shape) (t : UInt16) (d : c0) (hs : 0 ≤ s.size ∧ s.size ≤ 4) (hd : dq d) : wl PP [awf] 0 (Tryz.f160.body.getD .skip) (du PP Tryz.f160.results.toList (fun r st => (r1 bo).get true st.h r = some (zi s t d))) (cq 0 [tq.val false s, cz.val false t, bq.val false d]) (bm []) := by
  unfold Tryz.f160
  obtain ⟨l1, l2, l3, l4⟩ := hd.lens
  simp only [D0, np, db]
  simp only [↓wR, RA, simprocAttr, TF]
  rw [gv]; refine ⟨fun ⟨h, e⟩ => ?_, fun ⟨h, e⟩ => ?_⟩
  · have hv : zi s t d = false := if_pos (.inl e)
    simp only [↓wR, RA, simprocAttr, TF, h, hv]
  simp only [↓wR, RA, simprocAttr, TF, h]
  rw [gv]; refine ⟨fun ⟨h2, e2⟩ => ?_, fun ⟨h2, e2⟩ => ?_⟩
  · have hv : zi s t d = false := if_pos (.inr (.inl e2))
    simp only [↓wR, RA, simprocAttr, TF, h2, hv]
  simp only [↓wR, RA, simprocAttr, TF, h2]
  have hraw : ¬ (0 ≤ s.raw ∧ (d.raw.length : Int) ≠ s.raw) → zi s t d = Rs s t d := fun hr => if_neg (fun h => by
    rcases h with h | h | h
    · exact h e
    · exact h e2
    · exact hr h)
  rw [b9]; refine ⟨fun h3 => ?_, fun h3 => ?_⟩
  simp only [↓wR, RA, simprocAttr, TF, h3]
  rw [gv]; refine ⟨fun ⟨h4, e4⟩ => ?_, fun ⟨h4, e4⟩ => ?_⟩
  have hv : zi s t d = false := if_pos (.inr (.inr ⟨h3, e4⟩))
  simp only [↓wR, RA, simprocAttr, TF, h4, hv]
  rw [hraw (fun q => q.2 e4)]
  simp only [↓wR, RA, simprocAttr, TF, h4]
  rotate_left
  rw [hraw (fun q => h3 q.1)]
  simp only [↓wR, RA, simprocAttr, TF, h3]
  all_goals
    clear hraw
    refine dy [1, 3, 5, 37, 38, 39] (fun (i : Nat) => [.sc (.int .u16 t.toNat), .ptr 0 0, .ptr 1 0, .vl false 1 (d.nums.map (dh.val false)), .sc (.int .i64 d.nums.length), .sc (.int .i64 i)]) (fun _ => [some (.row [.sc (.int .i64 s.names), .sc (.int .i64 s.nums), .sc (.int .i64 s.size), .sc (.int .i64 s.texts), .sc (.int .i64 s.raw)] 0 2 214), some (.row [.vl false 1 (d.names.map (ar.val false)), .vl false 1 (d.nums.map (dh.val false)), .vl false 1 (d.texts.map (ak.val false)), .vl false 1 (d.raw.map (bz.val false))] 0 2 83)]) (fun i => i ≤ d.nums.length ∧ (s.size < 4 → (d.nums.any fun n => decide (Lz s ≤ (n.toNat : Int))) = ((d.nums.drop i).any fun n => decide (Lz s ≤ (n.toNat : Int))))) (fun i => d.nums.length - i) 0 ⟨Nat.zero_le _, fun _ => rfl⟩ (by simp only [↓wR, RA, simprocAttr, TF] <;> rfl) (by simp only [↓wR, RA, simprocAttr, TF] <;> rfl) ?_
    clear h h2 e e2
    rintro i ⟨hi, hR⟩
    simp only [↓wR, RA, simprocAttr, TF]
    rw [b9]; refine ⟨fun h => ?_, fun h => ?_⟩
    · obtain ⟨c, hc, hd1, hlt⟩ := ec (decide_eq_true h)
      rw [hd1, List.any_cons] at hR
      simp only [↓wR, RA, simprocAttr, TF, h, hc]
      rw [b9]; refine ⟨fun h5 => ?_, fun h5 => ?_⟩
      · have hR := hR h5
        have h80 : (0 : Int) ≤ 8 * s.size := by omega
        simp only [↓wR, RA, simprocAttr, TF, h5, h80]; repeat (simp (disch := omega) only [ai, cd, ca, cf, cb]; try simp only [↓wR, RA, simprocAttr, TF, h5, h80])
        rw [b9]; refine ⟨fun h6 => ?_, fun h6 => ?_⟩
        · have hv : Rs s t d = false := by
            rw [Rs, if_pos ⟨h5, by rw [hR, decide_eq_true (show Lz s ≤ (c.toNat : Int) from h6)]; rfl⟩]
          simp only [↓wR, RA, simprocAttr, TF, h6, hv]
        · simp only [↓wR, RA, simprocAttr, TF, h6]; repeat (simp (disch := omega) only [ai, cd, ca, cf, cb]; try simp only [↓wR, RA, simprocAttr, TF, h6])
          refine ⟨i + 1, ⟨hlt, fun _ => ?_⟩, by omega, by (first | rfl | trivial | omega | ((try (simp (disch := omega) only [ai])); (try (simp only [FB])); first | done | rfl | omega))⟩
          rw [hR, decide_eq_false (show ¬ Lz s ≤ (c.toNat : Int) from h6), Bool.false_or]
      · simp only [↓wR, RA, simprocAttr, TF, h5]; repeat (simp (disch := omega) only [ai, cd, ca, cf, cb]; try simp only [↓wR, RA, simprocAttr, TF, h5])
        exact ⟨i + 1, ⟨hlt, fun h => h.elim⟩, by omega, by (first | rfl | trivial | omega | ((try (simp (disch := omega) only [ai])); (try (simp only [FB])); first | done | rfl | omega))⟩
    · rw [fe (decide_eq_false h), List.any_nil] at hR
      have hr : Rs s t d = if (t.toNat : Int) = 257 then decide (d.texts.length = 2) && Jp (d.texts.headD ⟨#[]⟩) else if s.texts = 0 then decide (d.texts.length = 0) else decide (0 < d.texts.length) && !(d.texts.any fun x => decide (255 < x.size)) := by
        rw [Rs, if_neg]; rintro ⟨q1, q2⟩; rw [hR q1] at q2; cases q2
      simp only [↓wR, RA, simprocAttr, TF, h]
      rw [c7]; refine ⟨fun ⟨h6, e6⟩ => ?_, fun ⟨h6, e6⟩ => ?_⟩
      · rw [if_pos e6] at hr
        simp only [↓wR, RA, simprocAttr, TF, h6]
        rw [c7]; refine ⟨fun ⟨h7, e7⟩ => ?_, fun ⟨h7, e7⟩ => ?_⟩
        · obtain ⟨c, hc⟩ : ∃ c, d.texts[0]? = some c := ⟨_, List.getElem?_eq_getElem (by omega)⟩
          have hh : d.texts.headD ⟨#[]⟩ = c := by
            cases ht : d.texts with
            | nil => rw [ht] at hc; cases hc
            | cons a l => rw [ht] at hc; simpa using hc
          rw [hh, decide_eq_true (show d.texts.length = 2 by omega)] at hr
          simp only [↓wR, RA, simprocAttr, TF, h7, hc, Sb, hd.text c (List.mem_of_getElem? hc)]
          rw [hr]; rfl
        · simp only [↓wR, RA, simprocAttr, TF, h7]
          rw [hr, decide_eq_false (show ¬ d.texts.length = 2 by omega)]; rfl
      · rw [if_neg e6] at hr
        simp only [↓wR, RA, simprocAttr, TF, h6]
        rw [c7]; refine ⟨fun ⟨h7, e7⟩ => ?_, fun ⟨h7, e7⟩ => ?_⟩
        · rw [if_pos e7] at hr
          simp only [↓wR, RA, simprocAttr, TF, h7]
          rw [hr]; congr 1
          rw [Bool.eq_iff_iff]; simp
        · rw [if_neg e7] at hr
          simp only [↓wR, RA, simprocAttr, TF, h7]
          rw [b9]; refine ⟨fun h8 => ?_, fun h8 => ?_⟩
          · simp only [↓wR, RA, simprocAttr, TF, h8]
            refine bn (T := []) (aw.nil PP) mixed Tryz.func180 rfl (by kernel_rfl) (by kernel_rfl) (by kernel_rfl) (by kernel_rfl) ?_; unfold Tryz.f180
            simp only [↓wR, RA, simprocAttr, TF]
            refine bn (T := []) (aw.nil PP) mixed Tryz.func192 rfl (by kernel_rfl) (by kernel_rfl) (by kernel_rfl) (by kernel_rfl) ?_; unfold Tryz.f192
            simp only [↓wR, RA, simprocAttr, TF]
            refine dy [0, 1, 7, 8] (fun (i : Nat) => [.vl false 1 (d.texts.map (ak.val false)), .sc (.func (.func 181) #[] #[]), .sc (.int .i64 d.texts.length), .sc (.int .i64 i)]) (fun _ => [some (.row [.sc (.int .i64 s.names), .sc (.int .i64 s.nums), .sc (.int .i64 s.size), .sc (.int .i64 s.texts), .sc (.int .i64 s.raw)] 0 2 214), some (.row [.vl false 1 (d.names.map (ar.val false)), .vl false 1 (d.nums.map (dh.val false)), .vl false 1 (d.texts.map (ak.val false)), .vl false 1 (d.raw.map (bz.val false))] 0 2 83)]) (fun i => i ≤ d.texts.length ∧ (d.texts.any fun x => decide (255 < x.size)) = ((d.texts.drop i).any fun x => decide (255 < x.size))) (fun i => d.texts.length - i) 0 ⟨Nat.zero_le _, rfl⟩ (by simp only [↓wR, RA, simprocAttr, TF] <;> rfl) (by simp only [↓wR, RA, simprocAttr, TF] <;> rfl) ?_
            rintro k ⟨hk, hK⟩
            simp only [↓wR, RA, simprocAttr, TF]
            rw [b9]; refine ⟨fun h9 => ?_, fun h9 => ?_⟩
            · obtain ⟨c, hc, hd1, hlt⟩ := ec (decide_eq_true h9)
              rw [hd1, List.any_cons] at hK
              simp only [↓wR, RA, simprocAttr, TF, h9, hc]; repeat (simp (disch := omega) only [ai, cd, ca, cf, cb]; try simp only [↓wR, RA, simprocAttr, TF, h9, hc])
              refine bn (T := []) (aw.nil PP) mixed Tryz.func181 rfl (by kernel_rfl) (by kernel_rfl) (by kernel_rfl) (by kernel_rfl) ?_; unfold Tryz.f181
              simp only [↓wR, RA, simprocAttr, TF]
              rw [b9]; refine ⟨fun h10 => ?_, fun h10 => ?_⟩
              · simp only [↓wR, RA, simprocAttr, TF, h10]
                rw [hr, hK, decide_eq_true (show 0 < d.texts.length by omega), decide_eq_true (show 255 < c.size by omega)]; rfl
              · simp only [↓wR, RA, simprocAttr, TF, h10]; repeat (simp (disch := omega) only [ai, cd, ca, cf, cb]; try simp only [↓wR, RA, simprocAttr, TF, h10])
                refine ⟨k + 1, ⟨hlt, ?_⟩, by omega, by (first | rfl | trivial | omega | ((try (simp (disch := omega) only [ai])); (try (simp only [FB])); first | done | rfl | omega))⟩
                rw [hK, decide_eq_false (show ¬ 255 < c.size by omega), Bool.false_or]
            · rw [fe (decide_eq_false h9), List.any_nil] at hK
              simp only [↓wR, RA, simprocAttr, TF, h9]
              rw [hr, hK, decide_eq_true (show 0 < d.texts.length by omega)]; rfl
          · simp only [↓wR, RA, simprocAttr, TF, h8]
            rw [hr, decide_eq_false (show ¬ 0 < d.texts.length by omega)]; rfl
theorem Si (t : UInt16) : 0 ≤ (je t).size ∧ (je t).size ≤ 4 := by
  unfold je
  repeat' split
  all_goals simp
noncomputable def Kc (x : Shape × UInt16 × c0 × Unit) : Option AV := if (0 ≤ x.1.size ∧ x.1.size ≤ 4) ∧ dq x.2.2.1 then some ((r1 bo).E true (zi x.1 x.2.1 x.2.2.1)) else none
set_option maxRecDepth 2000000 in
theorem ahq (x : Shape × UInt16 × c0 × Unit) (r : AV) (h : Kc x = some r) : bk PP 160 ((aC tq (aC cz (aC bq a0))).E x) r := by
  by_cases hc : (0 ≤ x.1.size ∧ x.1.size ≤ 4) ∧ dq x.2.2.1
  case neg => simp only [Kc, if_neg hc] at h; cases h
  simp only [Kc, if_pos hc] at h
  cases h
  exact be (aw.cons (aq anu) (aw.nil PP)) Tryz.func160 (by kernel_rfl) (by kernel_rfl) (by kernel_rfl) (Nat.le_of_ble_eq_true (by kernel_rfl)) (r1 bo) true (zi x.1 x.2.1 x.2.2.1) (ari x.1 x.2.1 x.2.2.1 hc.1 hc.2)
noncomputable abbrev avh : Nat × Bool × (List AV → M AV) := (160, true, dm (aC tq (aC cz (aC bq a0))) Kc)
end Go.Proofs.YtidomogemfchpaaGreat
end
