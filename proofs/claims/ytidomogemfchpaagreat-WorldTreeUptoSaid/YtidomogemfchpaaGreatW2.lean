/- A piece of the proof. Proved: where the arguments are together of bulk at most 1048576, the law WorldTree returns true (each name has one zone, and the root is reached), and what it was given reads afterwards as it did before. No other conditions. -/
import Derived.WalkKit
import Derived.CallsIn
import Derived.RangeFuncIn
import Derived.RangeFuncLeaves
import Derived.Orders
import Derived.OrdersIn
import Derived.Scope
import Derived.RangeFuncOwn
import Derived.Stop.SameAnswer
import Derived.Laws.Externs
import Derived.Lib.Bytealg
import Derived.ProofKit
import Derived.OpenShut
import Derived.ReadAgain
import Derived.Deep.Slices
import Derived.ChangeSame
import Derived.Test.YtidomogemfchpaaGreatProg
import Derived.KernelRfl
import Derived.Test.YtidomogemfchpaaGreatRows
import Derived.Maps.RangeRun
import Derived.JoinedCond
import Derived.Test.YtidomogemfchpaaGreatW1
set_option linter.unusedSimpArgs false
set_option linter.unusedVariables false
namespace Go.Vm
noncomputable section
structure yf (w w' : World) : Prop where
  size : w.heap.size ≤ w'.heap.size
  heap : ∀ b, b < w.heap.size → w'.heap[b]? = w.heap[b]?
  os : w'.os = w.os
  tape : w'.tape = w.tape
  output : w'.output = w.output
def ab1 (K : Nat → Nat → Prop) (w w' : World) : Nat → Nat → Prop := fun b j => K b j ∨ (w.heap.size ≤ b ∧ b < w'.heap.size)
def ag5 (P : Program) (f : Nat) (vs : List Value) (w : World) (X : Value → World → Prop) : Prop :=
  (∃ v, (callFunc f vs.toArray).run P w = .ok (.value v) w ∧ X v w) ∨
  ((callFunc f vs.toArray).run P w = .ok (.enter f vs.toArray) w ∧ Calls P f vs.toArray w (fun e w' => ∃ v, e = .returned v ∧ X v w'))
def bg (P : Program) (f : Nat) (args : List AV) (r : AV) : Prop :=
  ∀ (K : Nat → Nat → Prop) (w : World) (vs : List Value), (∀ b j, K b j → b < w.heap.size) → bj (gK w.heap.size K) w args vs →
    ag5 P f vs w (fun v w' => yf w w' ∧ Rel (gK w.heap.size (ab1 K w w')) w' r v)
theorem Uh {P : Program} {g w nt} {L : SL} {tmps : Array Value} {st : St} (hok : Ok g st.h w) (hs : dt g w nt L tmps) : ∀ (rs : List ResultVar) (l : List AV), ph P L st rs = some l →
    ∃ vs, (rs.mapM (uo tmps)).run P w = .ok vs w ∧ bj g w l vs := by
  intro rs
  induction rs with
  | nil => intro l h; simp [ph] at h; subst h; exact ⟨[], by simp, bj.nil _ _⟩
  | cons r rs ih =>
    intro l h
    cases r with
    | tmp t =>
      simp only [ph, Option.map_eq_some_iff] at h
      obtain ⟨l', h1, rfl⟩ := h
      obtain ⟨vs, h2, h3⟩ := ih l' h1
      refine ⟨tmps.getD t undef :: vs, ?_, bj.cons (hs.2 t) h3⟩
      simp only [List.mapM_cons, Sem.run_bind, uo, Sem.run_pure, Result.andThen_ok, h2]
    | cell c t =>
      simp only [ph] at h
      split at h
      · rename_i v st' hl
        rw [Option.map_eq_some_iff] at h
        obtain ⟨l', h1, rfl⟩ := h
        obtain ⟨vs, h2, h3⟩ := ih l' h1
        have hrel := hs.2 c
        have hptr : ∃ ad, tmps.getD c undef = .pointer (some ad) := by
          generalize lk L c = x at hrel hl
          generalize tmps.getD c undef = v at hrel
          cases hrel <;> first | exact ⟨_, rfl⟩ | cases hl
        obtain ⟨ad, had⟩ := hptr
        obtain ⟨u, h4, h5⟩ := ai0 (P := P) hok hrel hl had
        refine ⟨u :: vs, ?_, bj.cons h5 h3⟩
        have h6 : (uo tmps (.cell c t)).run P w = .ok u w := by simp [uo, had, asAddr, h4]
        simp only [List.mapM_cons, Sem.run_bind, h6, Result.andThen_ok, h2]
        rfl
      · cases h
theorem Ut {P : Program} {g w} {fn : Func} {tmps : Array Value} {l : List AV} {vs : List Value} (h : (fn.results.toList.mapM (uo tmps)).run P w = .ok vs w) (q4 : bj g w l vs) :
    ∃ v, (results fn tmps).run P w = .ok v w ∧ Rel g w (pack l) v := by
  have hmap : (fn.results.mapM (uo tmps)).run P w = .ok vs.toArray w := by
    rw [Array.mapM_eq_mapM_toList]
    simp [h]
  rw [aih]
  simp only [Sem.run_bind, hmap, Result.andThen_ok, Sem.run_pure]
  refine ⟨_, rfl, ?_⟩
  match l, vs, q4 with
  | [a1], [v1], q4 => simpa [pack] using q4.head
  | [], [], q4 => simp [pack]; exact .eu _ _ rfl (fun i a v h _ => by simp at h)
  | a1 :: a2 :: l, v1 :: v2 :: vs, q4 =>
    simp [pack]
    exact .eu _ _ (by have := q4.1; simp at this ⊢; omega) (fun i a v h1 h2 => q4.2 i a v h1 (by simpa using h2))
  | [], v :: vs, q4 => have := q4.1; simp at this
  | a :: l, [], q4 => have := q4.1; simp at this
  | [a1], v1 :: v2 :: vs, q4 => have := q4.1; simp at this
  | a1 :: a2 :: l, [v1], q4 => have := q4.1; simp at this
theorem Uv {P : Program} {T : dy} (hT : aj P T) (hm : P.follows .mixedOrders = true) {f : Nat} {fn : Func} {body : Code} (hf : P.funcs[f]? = some fn) (hb : fn.body = some body) (he : ke P f = true) (hs : dq fn.ntmps body = true)
    {args : List AV} (hl : args.length ≤ fn.ntmps) {ρ : Type} (R : RC ρ) (fr : Bool) (x : ρ)
    (h : wl P T 0 body (de P fn.results.toList (fun r st => R.get fr st.h r = some x)) (cb 0 args) (bp [])) : bg P f args (R.E fr x) := by
  intro K w vs hK hrel
  refine .inr ⟨sh he _ _, wi (ro := none) (n := 0) (callsIn_of_wp_marks hf hb trivial ?_)⟩
  let B : fg := { b0 := w.heap.size, w, K, O := fun _ => False, az := 0, pb := fun _ => none, n0 := w.heap.size }
  have hcur : ek B (gK w.heap.size K) (bp []) w := by
    refine ⟨⟨Nat.le_refl _, fun o x hx => ?_, fun o o' x x' b base base' _ hx => ?_, hK⟩, fun o _ _ => rfl, ⟨rfl, (fun o ho => (by rcases ho with ho | ho; cases ho; exact ho.elim)), fun _ _ h => h, fun _ _ _ => rfl, Nat.le_refl _, rfl, rfl, rfl, fun _ _ _ => rfl, fun o b base ho => ?_, fun _ _ h => .inl h, fun b cs e fr h => ⟨cs, fr, h, rfl⟩, fun b l h => ⟨l, h⟩⟩, Nat.zero_le _⟩
    · simp [bp, pj, Tr.get_nil] at hx
    · simp [bp, pj, Tr.get_nil] at hx
    · simp [bp, pj, Tr.get_nil] at ho
  refine wpIn_mono (arj hT hm (N := 0) (B := B) (nt := fn.ntmps) (fun _ h => h) (by show (0 : Nat) ≤ 1000; omega) (Nat.le_refl _) body hs _ _ _ (gK w.heap.size K) w _ h hcur (yh hrel hl) (Marks.nil _ _ _ _)) ?_
  rintro ex a w' ⟨e, L, st, g, rfl, hq, hc, hr, hd⟩
  have fin : Jq (ph P L st fn.results.toList) (fun r st => R.get fr st.h r = some x) st → bodyPostM (ff none) 0 P fn (fun e w' => ∃ v, e = .returned v ∧ yf w w' ∧ Rel (gK w.heap.size (ab1 K w w')) w' (R.E fr x) v) .ret a w' := by
    intro hq
    show LeavesInM (ff none) 0 P fn a.tmps _ a.defers .returning w'
    unfold Jq at hq
    cases hres : ph P L st fn.results.toList with
    | none => rw [hres] at hq; exact hq.elim
    | some l =>
      rw [hres] at hq
      have hbs := hc.base
      obtain ⟨bs, e1, e2, e3⟩ := hd
      rw [e1]
      refine Er (Good := fun u => Ok g st.h u ∧ yf w u ∧ (∀ a v, Rel g w' a v → Rel g u a v) ∧ u.heap.size = w'.heap.size) (S := fun b => w.heap.size ≤ b ∧ eh g st.h b) ?_ ?_ bs w'
        ⟨hc.ok, ⟨hbs.size, fun b hlt => hbs.frame b hlt (fun h => h), hbs.os, hbs.tape, hbs.output⟩, fun _ _ h => h, rfl⟩ e2 (fun b hb => ⟨⟨(e3 b hb).1, (e3 b hb).2.2⟩, (e3 b hb).2.1⟩)
      · rintro u b ⟨g1, g2, g3, g4⟩ ⟨hb1, hb2⟩ hb3
        have hput := Ok.E6 (ds' := none) g1 hb3 hb2
        exact ⟨hput.1, ⟨by rw [nl]; exact g2.size, fun c hc => (ey u _ (by omega)).trans (g2.heap c hc), g2.os, g2.tape, g2.output⟩, fun a v h => hput.2 a v (g3 a v h), by rw [nl]; exact g4⟩
      · rintro u ⟨g1, g2, g3, g4⟩
        obtain ⟨us, h1, h2⟩ := Uh (P := P) g1 ⟨hr.1, fun t => g3 _ _ (hr.2 t)⟩ fn.results.toList l hres
        obtain ⟨v, h3, h4⟩ := Ut h1 h2
        refine ⟨v, h3, v, rfl, g2, ?_⟩
        refine R.ok g1 ⟨fun b j hk => ?_, fun o cells k s e ho b base hi j hj => ?_⟩ (fun _ => ?_) h4 hq
        · rcases hbs.nk b j hk with h5 | h5 | h5
          · exact .inl h5
          · exact .inr ⟨h5, g1.K b j hk⟩
          · exact h5.elim
        · obtain ⟨b', base', h5, _, h6⟩ := g1.obj o _ ho
          rw [hi] at h5; cases h5
          rcases hbs.own o b base (by rw [ho]; rfl) hi with h7 | h7
          · exact .inr ⟨h7, h6.lt⟩
          · exact h7.elim
        · rw [hbs.b0]; exact Nat.le_refl _
  cases e with
  | normal => exact fin hq
  | ret => exact fin hq
  | exit id => exact hq.elim
theorem Rel.lift {b0 K g w a v} (h : Rel (gK b0 K) w a v) (hb : g.b0 ≤ b0) (hK : ∀ b j, K b j → g.K b j) : Rel g w a v := by
  have hno : ∀ o p, (gK b0 K).inj o ≠ some p := fun o p e => by cases e
  generalize hg : gK b0 K = g0 at h hno
  have hK' : ∀ b j, g0.K b j → g.K b j := by subst hg; exact hK
  have hb' : g.b0 ≤ g0.b0 := by subst hg; exact hb
  clear hg
  induction h with
  | sc x => exact .sc x
  | agg l vs hs _ ih => exact .agg l vs hs ih
  | eu l vs hs _ ih => exact .eu l vs hs ih
  | vl loc sz es b off cap c hsz hl hcap h _ ih => exact .vl loc sz es b off cap c hsz (fun e => Nat.le_trans hb' (hl e)) hcap (fun j a hj => ⟨hK' _ _ (h j a hj).1, (h j a hj).2⟩) ih
  | jh loc sz => exact .jh loc sz
  | rh loc sz a => exact .rh loc sz a
  | sl o off len sz b base cap hi hc hm hr => exact (hno _ _ hi).elim
  | tu o off sz a => exact .tu o off sz a
  | u4 o off sz => exact .u4 o off sz
  | ez a => exact .ez a
  | ptr o off b base hi => exact (hno _ _ hi).elim
  | fw l b off c h _ ih => exact .fw l b off c (fun j a hj => ⟨hK' _ _ (h j a hj).1, (h j a hj).2⟩) ih
  | fn f first captured va vb hs _ hs' _ ih ih' => exact .fn f first captured va vb hs ih hs' ih'
  | mp o b base hi => exact (hno _ _ hi).elim
  | qm t a v _ ih => exact .qm t a v ih
  | yl o b base hi => exact (hno _ _ hi).elim
  | bad v => exact .bad v
theorem B0 {l : List AV} (h : AV.fresh.go l = true) : ∀ a ∈ l, a.fresh = true := by
  induction l with
  | nil => intro a ha; cases ha
  | cons x l ih =>
    simp only [AV.fresh.go, Bool.and_eq_true] at h
    intro a ha
    rcases List.mem_cons.1 ha with rfl | ha
    · exact h.1
    · exact ih h.2 a ha
theorem aeh {a : AV} (h : a.fresh = true) : ∀ c ∈ a.cells, c.fresh = true := by
  cases a with
  | agg l => exact B0 h
  | sc v => intro c hc; simp only [AV.cells, List.mem_map] at hc; obtain ⟨x, _, rfl⟩ := hc; rfl
  | _ => intro c hc; simp only [AV.cells, List.mem_singleton] at hc; subst hc; exact h
theorem Rel.fresh {b0 K g w a v} (h : Rel (gK b0 K) w a v) (hf : a.fresh = true) (hb : g.b0 ≤ b0) (hK : ∀ b j, K b j → b0 ≤ b → g.K b j) : Rel g w a v := by
  generalize hg : gK b0 K = g0 at h
  have hK' : ∀ b j, g0.K b j → g0.b0 ≤ b → g.K b j := by subst hg; exact hK
  have hb' : g.b0 ≤ g0.b0 := by subst hg; exact hb
  clear hg hb hK
  induction h with
  | sc x => exact .sc x
  | agg l vs hs _ ih => exact .agg l vs hs (fun i a v ha hv => ih i a v ha hv (B0 hf a (List.mem_of_getElem? ha)))
  | eu l vs hs _ ih => exact .eu l vs hs (fun i a v ha hv => ih i a v ha hv (B0 hf a (List.mem_of_getElem? ha)))
  | vl loc sz es b off cap c hsz hl hcap h _ ih =>
    simp only [AV.fresh, Bool.and_eq_true] at hf
    have hbb := hl hf.1
    refine .vl loc sz es b off cap c hsz (fun e => Nat.le_trans hb' hbb) hcap (fun j a hj => ⟨hK' _ _ (h j a hj).1 hbb, (h j a hj).2⟩) (fun j a hj => ih j a hj ?_)
    obtain ⟨e, he, hc⟩ := List.mem_flatMap.1 (List.mem_of_getElem? hj)
    exact aeh (B0 hf.2 e he) a hc
  | jh loc sz => exact .jh loc sz
  | rh loc sz a => exact .rh loc sz a
  | sl o off len sz b base cap hi hc hm hr => cases hf
  | tu o off sz a => cases hf
  | u4 o off sz => cases hf
  | ez a => exact .ez a
  | ptr o off b base hi => cases hf
  | fw l b off c h _ ih => cases hf
  | fn f first captured va vb hs _ hs' _ ih ih' =>
    simp only [AV.fresh, Bool.and_eq_true] at hf
    exact .fn f first captured va vb hs (fun i a v ha hv => ih i a v ha hv (B0 hf.1 a (List.mem_of_getElem? ha))) hs' (fun i a v ha hv => ih' i a v ha hv (B0 hf.2 a (List.mem_of_getElem? ha)))
  | mp o b base hi => cases hf
  | qm t a v _ ih => exact .qm t a v (ih hf)
  | yl o b base hi => cases hf
  | bad v => cases hf
def Gh.more (g : Gh) (w w' : World) : Gh := { g with K := ab1 g.K w w' }
theorem Bo {g h w w'} {lo hi : Nat} (hok : Ok g h w) (q : yf w w') : Step g h w lo hi (g.more w w') h w' ∧ Ok (g.more w w') h w' := by
  have hext : Ext g w (g.more w w') w' := by
    refine ⟨rfl, fun _ _ h => h, fun _ _ h => .inl h, fun b j hj => ri (q.heap b (hok.K b j hj)), fun b cs e fr hb => ⟨cs, fr, (q.heap b (cf hb)).trans hb, rfl⟩, fun b l hb => ⟨l, (q.heap b (cf hb)).trans hb⟩⟩
  refine ⟨⟨hext, q.size, q.os, q.tape, q.output, fun b hb _ => q.heap b hb, fun _ h _ => h, fun o b base ho hi => .inr ⟨o, base, ho, hi⟩, fun b j hk => ?_⟩, ⟨Nat.le_trans hok.size q.size, fun o x hx => ?_, hok.sep, fun b j hk => ?_⟩⟩
  · rcases hk with hk | hk
    · exact .inl hk
    · exact .inr (.inl hk.1)
  · refine (hok.lz o x hx).imp id ?_
    rintro ⟨b, base, h1, h2, h3⟩
    refine ⟨b, base, h1, h2, h3.ext hext (q.heap b h3.lt) (fun j hk => ?_)⟩
    rcases hk with hk | hk
    · exact hk
    · have := h3.lt; omega
  · rcases hk with hk | hk
    · exact Nat.lt_of_lt_of_le (hok.K b j hk) q.size
    · exact hk.2
noncomputable def da {α : Type} (A : AC α) (F : α → Option AV) (args : List AV) : M AV := fun st =>
  match A.get .nil args with
  | some x => (F x).map fun r => (r, st)
  | none =>
    match A.get st.h args with
    | some x =>
      match F x with
      | some r => bif r.fresh then some (r, st) else none
      | none => none
    | none => none
theorem ai {P : Program} {f : Nat} {α : Type} {A : AC α} {F : α → Option AV} (h : ∀ x r, F x = some r → bg P f (A.E x) r) (args : List AV) : z7 P f args (da A F args) := by
  intro g st w vs r st' hok hfree hrel hm
  have go : ∀ (X : Value → World → Prop), ag5 P f vs w X → (∀ v w', X v w' → yf w w' ∧ Rel (g.more w w') w' r v) → st' = st →
      (∃ v w' g', (callFunc f vs.toArray).run P w = .ok (.value v) w' ∧ Step g st.h w st.nx st'.nx g' st'.h w' ∧ Ok g' st'.h w' ∧ Rel g' w' r v) ∨
      ((callFunc f vs.toArray).run P w = .ok (.enter f vs.toArray) w ∧ Calls P f vs.toArray w (fun e w' => ∃ v g', e = .returned v ∧ Step g st.h w st.nx st'.nx g' st'.h w' ∧ Ok g' st'.h w' ∧ Rel g' w' r v)) := by
    intro X hx hX e
    subst e
    rcases hx with ⟨v, h1, h2⟩ | ⟨h1, h2⟩
    · obtain ⟨q, hr⟩ := hX v w h2
      have := Bo (lo := st'.nx) (hi := st'.nx) hok q
      exact .inl ⟨v, w, _, h1, this.1, this.2, hr⟩
    · refine .inr ⟨h1, h2.mono ?_⟩
      rintro e w' ⟨v, rfl, h3⟩
      obtain ⟨q, hr⟩ := hX v w' h3
      have := Bo (lo := st'.nx) (hi := st'.nx) hok q
      exact ⟨v, _, rfl, this.1, this.2, hr⟩
  unfold da at hm
  cases h1 : A.get .nil args with
  | some x =>
    rw [h1] at hm
    simp only [Option.map_eq_some_iff] at hm
    obtain ⟨r', h2, h3⟩ := hm
    cases h3
    have hargs := A.ok (b0 := w.heap.size) (hok.part (hm := .nil) (fun o x hx => by rw [Tr.get_nil] at hx; cases hx)) (qc.nil g g.K (fun _ _ h => h)) hrel h1
    refine go _ (h x r h2 g.K w vs hok.K hargs) (fun v w' hv => ⟨hv.1, hv.2.lift hok.size (fun b j hk => hk)⟩) rfl
  | none =>
    rw [h1] at hm
    simp only at hm
    cases h2 : A.get st.h args with
    | none => rw [h2] at hm; cases hm
    | some x =>
      rw [h2] at hm
      simp only at hm
      cases h3 : F x with
      | none => rw [h3] at hm; cases hm
      | some r' =>
        rw [h3] at hm
        simp only at hm
        cases h4 : r'.fresh with
        | false => rw [h4] at hm; cases hm
        | true =>
          rw [h4] at hm
          cases hm
          have hargs := A.ok (b0 := w.heap.size) (K := fun b _ => b < w.heap.size) hok ⟨fun b j hk => hok.K b j hk, fun o cells k s e ho b base hi j hj => by
            obtain ⟨b', base', h5, _, h6⟩ := hok.obj o _ ho
            rw [hi] at h5; cases h5
            exact h6.lt⟩ hrel h2
          refine go _ (h x r h3 (fun b _ => b < w.heap.size) w vs (fun _ _ h => h) hargs) (fun v w' hv => ⟨hv.1, hv.2.fresh h4 hok.size (fun b j hk hle => ?_)⟩) rfl
          rcases hk with hk | hk
          · omega
          · exact .inr hk
theorem aj.nil (P : Program) : aj P [] := fun f b m h => by cases h
theorem aj.cons {P : Program} {f : Nat} {b : Bool} {m : List AV → M AV} {T : dy} (h : ∀ args, z7 P f args (m args)) (hT : aj P T) : aj P ((f, b, m) :: T) := by
  intro f' b' m' hf args
  simp only [dy.find] at hf
  by_cases e : f = f'
  · subst e
    simp only [Nat.beq_refl, cond_true, Option.some.injEq] at hf
    cases hf
    exact h args
  · rw [kx e, cond_false] at hf
    exact hT f' b' m' hf args
end
end Go.Vm
namespace Go.Vm
noncomputable section
def ahc (g : Gh) (st : St) (w : World) : fg := { gj g st.h w st.nx (fun _ => False) with n0 := w.heap.size }
theorem ek.ofC {g st w} (hok : Ok g st.h w) (hfr : ∀ o, st.nx ≤ o → g.inj o = none) : ek (ahc g st w) g st w :=
  ⟨hok, fun o h1 _ => hfr o h1, ⟨rfl, fun _o _ho => rfl, fun _ _ h => h, fun _ _ _ => rfl, Nat.le_refl _, rfl, rfl, rfl, fun _ _ _ => rfl, fun o _b base ho hi => .inr (.inr ⟨o, base, ho, hi⟩), fun _ _ h => .inl h,
    fun _b cs _e fr h => ⟨cs, fr, h, rfl⟩, fun _b l h => ⟨l, h⟩⟩, Nat.le_refl _⟩
theorem ek.avp {g st w g' st' w'} (h : ek (ahc g st w) g' st' w') (hfr : ∀ o, st.nx ≤ o → g.inj o = none) : Step g st.h w st.nx st'.nx g' st'.h w' := by
  have b := h.base
  have pins : ∀ o, o < st.nx → g'.inj o = g.inj o := fun o ho => b.pins o (.inl ho)
  refine ⟨⟨b.b0, fun o p hp => ?_, b.K, b.cell, b.yr, b.lp⟩, b.size, b.os, b.tape, b.output, fun c hc hn => b.frame c hc (fun hO => ?_), fun o ho hr => ?_, fun o c base ho hi => ?_, fun c j hk => ?_⟩
  · by_cases h1 : st.nx ≤ o
    · rw [hfr o h1] at hp; cases hp
    · rw [pins o (by omega)]; exact hp
  · rcases hO with hO | ⟨o, base, h1, h2⟩
    · exact hO
    · exact hn o base h1 h2
  · by_cases h1 : o < st.nx
    · rw [pins o h1]; exact ho
    · exact h.fresh o (by omega) (fun hf => hf)
  · rcases b.own o c base ho hi with h1 | h1 | h1
    · exact .inl h1
    · exact h1.elim
    · exact .inr h1
  · rcases b.nk c j hk with h1 | h1 | h1 | h1
    · exact .inl h1
    · exact .inr (.inl h1)
    · exact h1.elim
    · exact .inr (.inr h1)
theorem bm {P : Program} {T : dy} (hT : aj P T) (hm : P.follows .mixedOrders = true) {f : Nat} {fn : Func} {body : Code} (hf : P.funcs[f]? = some fn) (hb : fn.body = some body) (he : ke P f = true) (hs : dq fn.ntmps body = true)
    {args : List AV} (hl : Nat.ble args.length fn.ntmps = true) {st : St} (hp : Nat.ble st.nx 1000 = true) {R : AV → St → Prop}
    (h : wl P T st.nx body (de P fn.results.toList R) (cb 0 args) st) : pf P f args st R := by
  intro g w vs hok hfr hrel
  refine .inr ⟨sh he _ _, wi (ro := none) (n := 0) (callsIn_of_wp_marks hf hb trivial ?_)⟩
  have hcur := ek.ofC (w := w) hok hfr
  refine wpIn_mono (arj hT hm (N := 0) (B := ahc g st w) (nt := fn.ntmps) (fun _ h => h) (Nat.le_of_ble_eq_true hp) (Nat.le_refl _) body hs _ _ _ g w _ h hcur (yh hrel (Nat.le_of_ble_eq_true hl)) (Marks.nil _ _ _ _)) ?_
  rintro ex a w' ⟨e, L, st', g', rfl, hq, hc, hr, hd⟩
  have fin : Jq (ph P L st' fn.results.toList) R st' → bodyPostM (ff none) 0 P fn (fun e w' => ∃ v g' r st', e = .returned v ∧ R r st' ∧ st.nx ≤ st'.nx ∧ Step g st.h w st.nx st'.nx g' st'.h w' ∧ Ok g' st'.h w' ∧ Rel g' w' r v) .ret a w' := by
    intro hq
    show LeavesInM (ff none) 0 P fn a.tmps _ a.defers .returning w'
    unfold Jq at hq
    cases hres : ph P L st' fn.results.toList with
    | none => rw [hres] at hq; exact hq.elim
    | some l =>
      rw [hres] at hq
      obtain ⟨bs, e1, e2, e3⟩ := hd
      rw [e1]
      refine Er (Good := fun u => Ok g' st'.h u ∧ Step g st.h w st.nx st'.nx g' st'.h u ∧ (∀ a v, Rel g' w' a v → Rel g' u a v)) (S := fun b => w.heap.size ≤ b ∧ eh g' st'.h b) ?_ ?_ bs w'
        ⟨hc.ok, hc.avp hfr, fun _ _ h => h⟩ e2 (fun b hb => ⟨⟨(e3 b hb).1, (e3 b hb).2.2⟩, (e3 b hb).2.1⟩)
      · rintro u b ⟨g1, g2, g3⟩ ⟨hb1, hb2⟩ hb3
        have hput := Ok.E6 (ds' := none) g1 hb3 hb2
        exact ⟨hput.1, Step.acj (ds' := none) hok g2 hb1, fun a v h => hput.2 a v (g3 a v h)⟩
      · rintro u ⟨g1, g2, g3⟩
        obtain ⟨us, h1, h2⟩ := Uh (P := P) g1 ⟨hr.1, fun t => g3 _ _ (hr.2 t)⟩ fn.results.toList l hres
        obtain ⟨v, h3, h4⟩ := Ut h1 h2
        exact ⟨v, h3, v, g', _, st', rfl, hq, hc.az, g2, g1, h4⟩
  cases e with
  | normal => exact fin hq
  | ret => exact fin hq
  | exit id => exact hq.elim
end
end Go.Vm
namespace Go.Vm
noncomputable section
section code
variable (P : Program) (T : dy) (az : Nat) (Q : QL) (L : SL) (st : St)
theorem agf : wl P T az .skip Q L st = Q .normal L st := id rfl
theorem Vs (i ops d) : wl P T az (.region i ops d) Q L st = By P T ops d (Q .normal) L st := id rfl
theorem alj (a b) : wl P T az (.seq a b) Q L st = wl P T az a (ac4 (wl P T az b) Q) L st := id rfl
theorem afv (c a b) : wl P T az (.cond c a b) Q L st = ua (cz L c) (wl P T az a Q) (wl P T az b Q) L st := id rfl
theorem Z0 (i b) : wl P T az (.block i b) Q L st = wl P T az b (O0 i Q) L st := id rfl
theorem af9 (b) : wl P T az (.loop b) Q L st = qp az (wl P T az b) Q L st := id rfl
theorem afi (i) : wl P T az (.exit i) Q L st = Q (.exit i) L st := id rfl
theorem amh : wl P T az .ret Q L st = Q .ret L st := id rfl
theorem akw (W) : ac4 W Q .normal L st = W Q L st := id rfl
theorem ak5 (W i) : ac4 W Q (.exit i) L st = Q (.exit i) L st := id rfl
theorem ak3 (W) : ac4 W Q .ret L st = Q .ret L st := id rfl
theorem amq (i) : O0 i Q .normal L st = Q .normal L st := id rfl
theorem amr (i) : O0 i Q .ret L st = Q .ret L st := id rfl
theorem alz (i j) : O0 i Q (.exit j) L st = bif Nat.beq j i then Q .normal L st else Q (.exit j) L st := id rfl
theorem ag8 (keep X) : v5 az keep X Q .normal L st = X (jo az keep L st) (fo az keep L st) := id rfl
theorem agw (keep X i) : v5 az keep X Q (.exit i) L st = Q (.exit i) L st := id rfl
theorem aga (keep X) : v5 az keep X Q .ret L st = Q .ret L st := id rfl
theorem ake (rs R) : de P rs R .normal L st = Jq (ph P L st rs) R st := id rfl
theorem akp (rs R) : de P rs R .ret L st = Jq (ph P L st rs) R st := id rfl
theorem Wr (ops K) : By P T ops false K L st = opsL P T ops ops.toList K L st := id rfl
theorem Y1 (ops K) : opsL P T ops [] K L st = K L st := id rfl
theorem U9 (ops o r K) : opsL P T ops (o :: r) K L st = wj ops o.guard (aat P T o (opsL P T ops r K)) (Fw o.dst (opsL P T ops r K)) L st := id rfl
theorem Yj (ops K recs) : De P T ops [] K recs L st = (fv (Region.before ops) 0 recs = true ∧ K L st) := id rfl
theorem V9 (ops o r K recs) : De P T ops (o :: r) K recs L st = wj ops o.guard (fq P T o recs (De P T ops r K)) (Fw o.dst (De P T ops r K (recs ++ [⟨[], []⟩]))) L st := id rfl
theorem P6 (ops X Y) : wj ops none X Y L st = X L st := id rfl
theorem Q7 (ops j c X Y) : wj ops (some (j, c)) X Y L st = Cp (lk L (r8 ops j)) c X Y L st := id rfl
theorem Yp (b : Bool) (X Y : SL → St → Prop) : Cp (.sc (.bool b)) true X Y L st = ua (.sc (.bool b)) X Y L st := by cases b <;> simp [Cp, x5, z9, D3, ua, pd, AV.bool, AV.exact, nh]
theorem aa0 (b : Bool) (X Y : SL → St → Prop) : Cp (.sc (.bool b)) false X Y L st = ua (.sc (.bool b)) Y X L st := by cases b <;> simp [Cp, x5, z9, D3, ua, pd, AV.bool, AV.exact, nh]
theorem aai (c : Bool) (X Y : SL → St → Prop) : Cp (.sc undef) c X Y L st = Y L st := by simp [Cp, x5, z9, D3, AV.exact, undef]
theorem agc (o K) : aat P T o K L st = K8 (eg P T o (cz L) st) P o L st K := id rfl
theorem aao (v o K st') : K8 (some (v, st')) P o L st K = K (ft o.dst v L) st' := id rfl
theorem aad (K d r) : gi K d L r st = K (ft d r L) st := id rfl
theorem aas (ro F o recs K v bd) : Df ro F o recs K L st (some (v, bd)) = ((Ek st.nx F = true ∧ Nat.ble bd.nx cp = true) ∧ same (jj st.h F) bd.h (bif ro then F else []) ∧
    K (recs ++ [⟨F, (bif ro then [] else F) ++ dk st.nx (bd.nx - st.nx)⟩]) (ft o.dst v L) { h := oa bd.h (F ++ dk st.nx (bd.nx - st.nx)) st.h, nx := bd.nx, rl := [], wl := [] }) := id rfl
theorem V7 (d K) : Fw d K L st = K (ft d (.sc undef) L) st := id rfl
theorem bk (b X Y) : ua (.sc (.bool b)) X Y L st = ((b = true → X L st) ∧ (b = false → Y L st)) := id rfl
theorem Fj (X Y) : ua (.sc (.bool true)) X Y L st = X L st := by simp [ua, pd, AV.bool, AV.exact, nh]
theorem Gk (X Y) : ua (.sc (.bool false)) X Y L st = Y L st := by simp [ua, pd, AV.bool, AV.exact, nh]
theorem Wa (v d K) : Fe (some (v, st)) d L K = K (ft d v L) st := id rfl
theorem Vw (d v) : ft (some d) v L = (d, v) :: L := id rfl
theorem W4 (v) : ft none v L = L := id rfl
theorem amy (l R) : Jq (some l) R st = R (pack l) st := id rfl
theorem amk (d v) : lk ((d, v) :: L) d = v := by simp [lk]
theorem agi (d t v) (h : (d == t) = false) : lk ((d, v) :: L) t = lk L t := by
  have e : d ≠ t := by simpa using h
  rw [mf, if_neg e]
theorem aqu (t) : cz L (.tmp t) = lk L t := id rfl
theorem arl (v) : cz L (.const v) = .sc v := id rfl
theorem aqn (f) : cz L (.func f) = .sc (.func (.func f) #[] #[]) := id rfl
theorem am1 : ph P L st [] = some [] := id rfl
theorem al8 (t r) : ph P L st (.tmp t :: r) = (ph P L st r).map (lk L t :: ·) := id rfl
theorem aks (a t r) : ph P L st (.cell a t :: r) = match il P t (lk L a) st with | some (v, _) => (ph P L st r).map (v :: ·) | none => none := id rfl
end code
section ops
variable (P : Program) (T : dy) (ρ : Operand → AV) (d : Option Tmp) (ty : TypeId) (pos : String) (af : Array Edge) (gd : Option (Nat × Bool))
theorem Hl (x) : eg P T ⟨d, .move x, ty, pos, af, gd⟩ ρ = mono (M.pure (ρ x)) := id rfl
theorem Dl (x) : eg P T ⟨d, .assign x, ty, pos, af, gd⟩ ρ = mono (M.pure (ρ x)) := id rfl
theorem Hr (t a) : eg P T ⟨d, .load t a, ty, pos, af, gd⟩ ρ = mono (il P t (ρ a)) := id rfl
theorem x7 (s x f) : eg P T ⟨d, .fieldAddr s x f, ty, pos, af, gd⟩ ρ = mono (js P s (ρ x) f) := id rfl
theorem Oh (op t x y u) : eg P T ⟨d, .binOp op t x y u, ty, pos, af, gd⟩ ρ = mono (vz P ρ ⟨d, .binOp op t x y u, ty, pos, af, gd⟩ op t x y) := id rfl
theorem Hu (c a b) : eg P T ⟨d, .pick c a b, ty, pos, af, gd⟩ ρ = mono (s8 (ρ c) (ρ a) (ρ b)) := id rfl
theorem Es (t a x) : eg P T ⟨d, .store t a x, ty, pos, af, gd⟩ ρ = mono (nw P t (ρ a) (ρ x)) := id rfl
theorem Bb (t i) : eg P T ⟨d, .extract t i, ty, pos, af, gd⟩ ρ = mono (mi (ρ t) i) := id rfl
theorem xu (t x i) : eg P T ⟨d, .indexAddr t x i, ty, pos, af, gd⟩ ρ = mono (jt P t (ρ x) (ρ i)) := id rfl
theorem zl (x) : eg P T ⟨d, .nilCheck x, ty, pos, af, gd⟩ ρ = mono (je (ρ x)) := id rfl
theorem N4 (t) : eg P T ⟨d, .alloc t, ty, pos, af, gd⟩ ρ = mono (pn P t) := id rfl
theorem U8 (t x) : eg P T ⟨d, .box t x, ty, pos, af, gd⟩ ρ = mono (v7 t (ρ x)) := id rfl
theorem E9 (t ps) : eg P T ⟨d, .build t ps, ty, pos, af, gd⟩ ρ = mono (oy P t (ps.toList.map fun p => (p.1, ρ p.2))) := id rfl
theorem wa (t n ps) : eg P T ⟨d, .buildSlice t n ps, ty, pos, af, gd⟩ ρ = mono (ij P t n (ps.toList.map fun p => (p.1, ρ p.2))) := id rfl
theorem H7 (t r) : eg P T ⟨d, .makeMap t r, ty, pos, af, gd⟩ ρ = mono (p0 r) := id rfl
theorem Fy (f a b) : eg P T ⟨d, .makeFunc f a b, ty, pos, af, gd⟩ ρ = mono (M.pure (.fn f (a.toList.map ρ) (b.toList.map ρ))) := id rfl
theorem H6 (s u x) : eg P T ⟨d, .convert s u x, ty, pos, af, gd⟩ ρ = mono (nm P ρ ⟨d, .convert s u x, ty, pos, af, gd⟩ s u (ρ x)) := id rfl
theorem Mz (s x f) : eg P T ⟨d, .field s x f, ty, pos, af, gd⟩ ρ = mono (qw P s (ρ x) f) := id rfl
theorem M4 (t x i) : eg P T ⟨d, .index t x i, ty, pos, af, gd⟩ ρ = mono (qz P ρ ⟨d, .index t x i, ty, pos, af, gd⟩ t x i) := id rfl
theorem Nm (t x l h m) : eg P T ⟨d, .slice t x l h m, ty, pos, af, gd⟩ ρ = mono (pq P ρ ⟨d, .slice t x l h m, ty, pos, af, gd⟩ t x l h m) := id rfl
theorem Kp (t x i ok) : eg P T ⟨d, .lookup t x i ok, ty, pos, af, gd⟩ ρ = mono (pg P t (ρ x) (ρ i) ok) := id rfl
theorem D5 (t m k x) : eg P T ⟨d, .mapUpdate t m k x, ty, pos, af, gd⟩ ρ = mono (kr P t (ρ m) (ρ k) (ρ x)) := id rfl
theorem Kt (x ts) : eg P T ⟨d, .call { callee := .builtin .len, args := #[x], argTypes := ts }, ty, pos, af, gd⟩ ρ = mono (qa ((ts[0]?).bind P.underlying) (ρ x)) := id rfl
theorem Dm (s x ts) : eg P T ⟨d, .call { callee := .builtin .append, args := #[s, x], argTypes := ts }, ty, pos, af, gd⟩ ρ = mono (me P ts[0]? ((ts[1]?).bind P.underlying) (ρ s) (ρ x)) := id rfl
theorem Rq (f args ts) : eg P T ⟨d, .call { callee := .value f, args, argTypes := ts }, ty, pos, af, gd⟩ ρ = sd T (ρ f) (args.toList.map ρ) := id rfl
end ops
section monad
variable {α β : Type} (s : St)
theorem aqy (m : M α) : mono m s = match m s with | none => none | some (a, s') => bif decide (s.nx ≤ s'.nx) then some (a, s') else none := by
  have : ∀ a b, Nat.ble a b = decide (a ≤ b) := fun a b => by rw [Bool.eq_iff_iff]; simp
  unfold mono
  cases m s with
  | none => rfl
  | some p => simp only [this]
theorem aq2 (m : M α) (f : α → M β) : (m.bind f) s = match m s with | none => none | some (a, s') => f a s' := id rfl
theorem ara (a : α) : (M.pure a) s = some (a, s) := id rfl
theorem ard : (M.fail : M α) s = none := id rfl
theorem aqs (a : α) : (M.of (some a)) s = some (a, s) := id rfl
theorem aqp (b : Bool) (m m' : M α) : (bif b then m else m') s = bif b then m s else m' s := by cases b <;> rfl
theorem arn (o : Nat) : cw o s = match s.h.get o with | some x => some (x, { s with rl := o :: s.rl }) | none => none := id rfl
theorem arf (x : ba) : gm x s = bif decide (s.nx ≤ cp) then some (s.nx, { s with h := s.h.set depth s.nx (some x), nx := s.nx + 1, wl := s.nx :: s.wl }) else none := by
  have : Nat.ble s.nx cp = decide (s.nx ≤ cp) := by rw [Bool.eq_iff_iff]; simp
  unfold gm; rw [this]
theorem aqw (o : Nat) (x : ba) : gz o x s = match s.h.get o with | some _ => bif decide (o ≤ cp) then some ((), { s with h := s.h.set depth o (some x), wl := o :: s.wl }) else none | none => none := by
  have : Nat.ble o cp = decide (o ≤ cp) := by rw [Bool.eq_iff_iff]; simp
  unfold gz; rw [this]; rfl
theorem aql (o : Nat) : tk o s = match s.h.get o with | some _ => bif decide (o ≤ cp) then some ((), { s with h := s.h.set depth o none, wl := o :: s.wl }) else none | none => none := by
  have : Nat.ble o cp = decide (o ≤ cp) := by rw [Bool.eq_iff_iff]; simp
  unfold tk; rw [this]; rfl
theorem Zh (t : Tr ba) (n m : Nat) (x : Option ba) (h : n ≤ 16777214) : (Tr.set depth t n x).get m = if m = n then x else t.get m := ee t n m x h
theorem acw (n : Nat) : (Tr.nil : Tr ba).get n = none := id rfl
theorem atx (a b : Nat) : Nat.ble a b = decide (a ≤ b) := by rw [Bool.eq_iff_iff]; simp
theorem auq (a b : Nat) : Nat.blt a b = decide (a < b) := by rw [Bool.eq_iff_iff]; simp
theorem ah3 (a b : Nat) : Nat.beq a b = decide (a = b) := by rw [Bool.eq_iff_iff]; simp
end monad
theorem M2 {a : AV} {x y x' y' : Prop} (h1 : x → x') (h2 : y → y') (h : pd a x y) : pd a x' y' := by
  unfold pd at *
  split at h
  · exact ⟨fun e => h1 (h.1 e), fun e => h2 (h.2 e)⟩
  · exact h.elim
theorem xn {ops L gd} {x y x' y' : Prop} (h1 : x → x') (h2 : y → y') (h : guarded ops L gd x y) : guarded ops L gd x' y' := by
  unfold guarded at *
  split at h
  · exact h1 h
  · unfold x5 at *
    split at h
    · exact ⟨fun e => h1 (h.1 e), fun e => h2 (h.2 e)⟩
    · exact h.elim
theorem pf.mono {P f args st} {R R' : AV → St → Prop} (h : ∀ r st, R r st → R' r st) (hc : pf P f args st R) : pf P f args st R' := by
  intro g w vs h1 h2 h3
  rcases hc g w vs h1 h2 h3 with ⟨v, w', g', r, st', q1, q2, q3⟩ | ⟨q1, q2⟩
  · exact .inl ⟨v, w', g', r, st', q1, h _ _ q2, q3⟩
  · refine .inr ⟨q1, q2.mono ?_⟩
    rintro e w' ⟨v, g', r, st', p1, p2, p3⟩
    exact ⟨v, g', r, st', p1, h _ _ p2, p3⟩
theorem ai2 {P o L st} {K K' : SL → St → Prop} (h : ∀ L st, K L st → K' L st) (hc : L5 P o L st K) : L5 P o L st K' := by
  unfold L5 ajx at *
  split at hc
  · split at hc
    · exact pf.mono (fun r st hk => h _ _ hk) hc
    · exact hc.elim
  · exact hc.elim
theorem D0 {P T ops} {K K' : SL → St → Prop} (h : ∀ L st, K L st → K' L st) : ∀ (l : List Oper) (L : SL) (st : St), opsL P T ops l K L st → opsL P T ops l K' L st
  | [], L, st, hh => h L st hh
  | o :: r, L, st, hh => xn (fun q => by
      unfold aat K8 at *
      split at q
      · exact D0 h r _ _ q
      · exact ai2 (fun L st => D0 h r L st) q) (fun q => D0 h r _ _ q) hh
theorem Ed {P T ops} {K K' : SL → St → Prop} (h : ∀ L st, K L st → K' L st) : ∀ (l : List Oper) (recs : List Rec) (L : SL) (st : St), De P T ops l K recs L st → De P T ops l K' recs L st
  | [], recs, L, st, hh => ⟨hh.1, h L st hh.2⟩
  | o :: r, recs, L, st, hh => xn (fun q => by
      unfold fq kh Df at *
      split at q
      · exact ⟨q.1, q.2.1, Ed h r _ _ _ q.2.2⟩
      · exact q.elim) (fun q => Ed h r _ _ _ q) hh
theorem El {P T ops} {K K' : SL → St → Prop} (h : ∀ L st, K L st → K' L st) : ∀ (l : List Oper) (recs : List Rec) (L : SL) (st : St), Lh P T ops l K recs L st → Lh P T ops l K' recs L st
  | [], recs, L, st, hh => ⟨hh.1, h L st hh.2⟩
  | o :: r, recs, L, st, hh => xn (fun q => Rj (fun _ _ _ k => El h r _ _ _ k) q) (fun q => El h r _ _ _ q) hh
theorem wz {P T l az ops} {R : Ga} (hR : ∀ p args (X X' : Ex → St → Prop) st, (∀ e st, X e st → X' e st) → R p args X st → R p args X' st) {K K' : Option Ex → SL → St → Prop} (h : ∀ pe L st, K pe L st → K' pe L st) :
    ∀ (ls : List Oper) (pe : Option Ex) (L : SL) (st : St), Co P T l R az ops ls K pe L st → Co P T l R az ops ls K' pe L st
  | [], pe, L, st, hh => h pe L st hh
  | o :: r, pe, L, st, hh => xn (fun q => by
      unfold opI T6 at *
      split at q
      · unfold Fe at *
        split at q
        · exact wz hR h r _ _ _ q
        · exact q.elim
      · obtain ⟨h0, keep, q⟩ := q
        refine ⟨h0, keep, hR _ _ _ _ _ (fun e st q => ?_) q⟩
        cases e with
        | normal => exact wz hR h r _ _ _ q
        | ret => exact wz hR h r _ _ _ q
        | exit id => exact wz hR h r _ _ _ q) (fun q => wz hR h r _ _ _ q) hh
theorem Pj {P : Program} {T : dy} {l az : Nat} {R : Ga} (hR : ∀ p args (X X' : Ex → St → Prop) st, (∀ e st, X e st → X' e st) → R p args X st → R p args X' st) :
    ∀ (c : Code) (Q Q' : QI), (∀ e pe L st, Q e pe L st → Q' e pe L st) → ∀ pe L st, od P T l R az c Q pe L st → od P T l R az c Q' pe L st := by
  intro c
  induction c with
  | skip => intro Q Q' h pe L st hh; exact h _ _ _ _ hh
  | label l => intro Q Q' h pe L st hh; exact h _ _ _ _ hh
  | exit i => intro Q Q' h pe L st hh; exact h _ _ _ _ hh
  | ret => intro Q Q' h pe L st hh; exact h _ _ _ _ hh
  | region i ops draw =>
    intro Q Q' h pe L st hh
    cases draw with
    | false => exact wz hR (h _) _ _ _ _ hh
    | true => exact ⟨hh.1, hh.2.imp (Ed (h _ _) _ _ _ _) (El (h _ _) _ _ _ _)⟩
  | seq a b iha ihb =>
    intro Q Q' h pe L st hh
    refine iha _ _ ?_ pe L st hh
    intro e pe L st q
    cases e with
    | normal => exact ihb _ _ h pe L st q
    | _ => exact h _ _ _ _ q
  | cond c a b iha ihb => intro Q Q' h pe L st hh; exact M2 (iha _ _ h pe L st) (ihb _ _ h pe L st) hh
  | block i b ih =>
    intro Q Q' h pe L st hh
    refine ih _ _ ?_ pe L st hh
    intro e pe L st q
    cases e with
    | exit j =>
      simp only [O9] at *
      cases hb : Nat.beq j i with
      | true => rw [hb] at q; exact h _ _ _ _ q
      | false => rw [hb] at q; exact h _ _ _ _ q
    | _ => exact h _ _ _ _ q
  | loop b ih =>
    intro Q Q' h pe L st hh
    obtain ⟨h0, keep, hh⟩ := hh
    refine ⟨h0, keep, fun X hX => hh X fun vs os q => hX vs os (ih _ _ ?_ _ _ _ q)⟩
    intro e pe L st q
    cases e with
    | normal => exact q
    | _ => exact h _ _ _ _ q
  | scope b ih => intro _ _ _ _ _ _ hh; exact hh.elim
  | rangeFunc => intro _ _ _ _ _ _ hh; exact hh.elim
  | goto => intro _ _ _ _ _ _ hh; exact hh.elim
  | refuse => intro _ _ _ _ _ _ hh; exact hh.elim
theorem aor {P : Program} {T : dy} : ∀ (c : Code) (az : Nat) (Q Q' : QL), (∀ e L st, Q e L st → Q' e L st) → ∀ L st, wl P T az c Q L st → wl P T az c Q' L st := by
  intro c
  induction c with
  | skip => intro az Q Q' h L st hh; exact h _ _ _ hh
  | label l => intro az Q Q' h L st hh; exact h _ _ _ hh
  | exit i => intro az Q Q' h L st hh; exact h _ _ _ hh
  | ret => intro az Q Q' h L st hh; exact h _ _ _ hh
  | region i ops draw =>
    intro az Q Q' h L st hh
    cases draw with
    | false => exact D0 (h _) _ _ _ hh
    | true => exact ⟨hh.1, hh.2.imp (Ed (h _) _ _ _ _) (El (h _) _ _ _ _)⟩
  | seq a b iha ihb =>
    intro az Q Q' h L st hh
    refine iha _ _ _ ?_ L st hh
    intro e L st q
    cases e with
    | normal => exact ihb _ _ _ h L st q
    | _ => exact h _ _ _ q
  | cond c a b iha ihb => intro az Q Q' h L st hh; exact M2 (iha _ _ _ h L st) (ihb _ _ _ h L st) hh
  | block i b ih =>
    intro az Q Q' h L st hh
    refine ih _ _ _ ?_ L st hh
    intro e L st q
    cases e with
    | exit j =>
      simp only [O0] at *
      cases hb : Nat.beq j i with
      | true => rw [hb] at q; exact h _ _ _ q
      | false => rw [hb] at q; exact h _ _ _ q
    | _ => exact h _ _ _ q
  | loop b ih =>
    intro az Q Q' h L st hh
    obtain ⟨keep, hh⟩ := hh
    refine ⟨keep, fun X hX => hh X fun vs os q => hX vs os (ih _ _ _ ?_ _ _ q)⟩
    intro e L st q
    cases e with
    | normal => exact q
    | _ => exact h _ _ _ q
  | scope b ih => intro az Q Q' h L st hh; exact ih _ _ _ h L st hh
  | rangeFunc f ps a b iha ihb =>
    intro az Q Q' h L st hh
    obtain ⟨keep, h0, hh⟩ := hh
    refine ⟨keep, h0, ?_⟩
    unfold Kd at *
    split at hh
    · unfold Iq at *
      split at hh
      · refine ⟨hh.1, fun l => Pj (fun p args X X' st hX hr => ⟨hr.1, hr.2.1, iha _ _ _ (fun e L st q => (by
          cases e with
          | normal => exact ihb _ _ _ (fun e _ st q => hX e st q) _ _ q
          | _ => exact q.elim)) _ _ hr.2.2⟩) _ _ _ (fun e pe L st q => (by
          cases e with
          | exit id => exact q.elim
          | normal =>
            cases pe with
            | none => exact h _ _ _ q
            | some e => exact h _ _ _ q
          | ret =>
            cases pe with
            | none => exact h _ _ _ q
            | some e => exact h _ _ _ q)) _ _ _ (hh.2 l)⟩
      · exact hh.elim
    · exact hh.elim
  | goto => intro _ _ _ _ _ _ hh; exact hh.elim
  | refuse => intro _ _ _ _ _ _ hh; exact hh.elim
theorem Fb {P : Program} {T : dy} {az : Nat} (c : Code) (Q Q' : QL) (h : ∀ e L st, Q e L st → Q' e L st) (L : SL) (st : St) (hh : wl P T az c Q L st) : wl P T az c Q' L st := aor c az Q Q' h L st hh
theorem c6 {α : Type} {P : Program} {T : dy} {az : Nat} {b : Code} {Q : QL} {L : SL} {st : St} (keep : List Nat) (V : α → List AV) (O : α → List (Option ba)) (I : α → Prop) (μ : α → Nat) (x : α) (hx : I x)
    (hv : jo az keep L st = V x) (ho : fo az keep L st = O x)
    (step : ∀ x, I x → wl P T az b (v5 az keep (fun vs os => ∃ y, I y ∧ μ y < μ x ∧ vs = V y ∧ os = O y) Q) (l5 keep (V x)) (bp (O x))) : qp az (wl P T az b) Q L st :=
  qp.of keep V O I μ x hx hv ho (fun _ _ h => Fb b _ _ h) step
section cods
theorem o9 {α : Type} (C : c7 α) (l : Bool) (xs : List α) : (cq C).val l xs = .vl l C.sz (xs.map (C.val l)) := id rfl
theorem zd {α : Type} (C : c7 α) : (cq C).sz = 1 := id rfl
theorem V2 : an.sz = 1 := id rfl
theorem Zb : cj.sz = 1 := id rfl
theorem D4 : c9.sz = 1 := id rfl
theorem w6 : be.sz = 1 := id rfl
theorem wy (k : IntKind) : (aw k).sz = 1 := id rfl
theorem Bn : bo.sz = 1 := id rfl
theorem Ds (l : Bool) (x : UInt8) : cj.val l x = .sc (.int .u8 x.toNat) := id rfl
theorem Sf (l : Bool) (x : UInt16) : c9.val l x = .sc (.int .u16 x.toNat) := id rfl
theorem Qm (l : Bool) (x : UInt32) : be.val l x = .sc (.int .u32 x.toNat) := id rfl
theorem Qa (k : IntKind) (l : Bool) (x : Int) : (aw k).val l x = .sc (.int k x) := id rfl
theorem Mq (l : Bool) (x : Bool) : bo.val l x = .sc (.bool x) := id rfl
theorem af0 (o i : Nat) : idx [] o i = none := id rfl
theorem Y0 {α : Type} (C : c7 α) (τ : Nat → Option Nat) (l : Bool) : AV.c0 τ ∘ C.val l = C.val l := by funext x; exact Lx C τ l x
theorem Qb (l : Bool) (x : ByteArray) : an.val l x = .sc (.string x) := id rfl
theorem ux {α : Type} (C : c7 α) (fr : Bool) (h : Tr ba) (a : AV) (h1 : a.known = true) (h2 : a.isAgg = C.agg) : C.fj fr h a = C.dec fr h a.cells := by
  unfold c7.fj; rw [h1, h2]; simp
theorem Ry (fr : Bool) (h : Tr ba) (n : Int) (h0 : 0 ≤ n) (h1 : n < 4294967296) : be.fj fr h (.sc (.int .u32 n)) = some (UInt32.ofNat n.toNat) := by
  rw [ux _ _ _ _ rfl rfl]; show ac5 (.int .u32 n) = _; simp [ac5, h0, h1]
theorem Wq (fr : Bool) (h : Tr ba) (n : UInt32) : be.fj fr h (.sc (.int .u32 n.toNat)) = some n := be.Je fr h true n (fun _ => rfl)
theorem uv (fr : Bool) (h : Tr ba) (n : UInt16) : c9.fj fr h (.sc (.int .u16 n.toNat)) = some n := c9.Je fr h true n (fun _ => rfl)
theorem Sq (k : IntKind) (fr : Bool) (h : Tr ba) (n : Int) : (aw k).fj fr h (.sc (.int k n)) = some n := (aw k).Je fr h true n (fun _ => rfl)
theorem Nf (fr : Bool) (h : Tr ba) (b : Bool) : bo.fj fr h (.sc (.bool b)) = some b := bo.Je fr h true b (fun _ => rfl)
theorem Qn (fr : Bool) (h : Tr ba) (s : ByteArray) : an.fj fr h (.sc (.string s)) = some s := an.Je fr h true s (fun _ => rfl)
theorem zu {α : Type} (C : c7 α) (fr : Bool) (h : Tr ba) (a : AV) (h1 : a.known = true) (h2 : a.isAgg = false) (h3 : a.cells = [a]) : (cq C).fj fr h a = fy C fr h a := by
  rw [ux _ _ _ _ h1 h2, h3]; rfl
theorem ate {α : Type} (C : c7 α) (fr : Bool) (h : Tr ba) (l : Bool) (xs : List α) (hl : (l || !fr) = true) : (cq C).fj fr h (.vl l C.sz (xs.map (C.val l))) = some xs := by
  refine (cq C).Je fr h l xs ?_
  cases fr <;> simp_all
theorem ace {α : Type} (C : c7 α) (fr : Bool) (h : Tr ba) : fy C fr h (.sc (.slice none 0 0)) = some [] := id rfl
theorem vi {α : Type} (C : c7 α) (fr : Bool) (h : Tr ba) (l : Bool) (xs : List α) (n : Nat) (hn : n = C.sz) (hl : (l || !fr) = true) : fy C fr h (.vl l n (xs.map (C.val l))) = some xs := by
  subst hn
  have : (cq C).fj fr h (.vl l C.sz (xs.map (C.val l))) = some xs := ate C fr h l xs hl
  rwa [zu C fr h _ rfl rfl rfl] at this
theorem ag4 {α : Type} (C : c7 α) (fr : Bool) (h : Tr ba) (o off len n : Nat) : fy C fr h (.sl o off len n) = bif decide (n = C.sz) then (h.get o).bind (nb C fr h off len) else none := by
  show (bif Nat.beq n C.sz then _ else _) = _
  rw [ah3]
theorem axo {α : Type} (C : c7 α) (fr : Bool) (h : Tr ba) (n : Nat) (l : List AV) : xk C fr h (n + 1) l = match C.dec fr h (l.take C.sz), xk C fr h n (l.drop C.sz) with | some x, some xs => some (x :: xs) | _, _ => none := id rfl
theorem Rc (fr : Bool) (h : Tr ba) (n : Int) (h0 : 0 ≤ n) (h1 : n < 256) : cj.dec fr h [.sc (.int .u8 n)] = some (UInt8.ofNat n.toNat) := by
  show u8V (.int .u8 n) = _; simp [u8V, h0, h1]
theorem auu {α β : Type} (A : c7 α) (B : c7 β) (l : Bool) (p : α × β) : (r2 A B).E l p = .eu [A.val l p.1, B.val l p.2] := id rfl
theorem aua {α : Type} (A : c7 α) (l : Bool) (x : α) : (r1 A).E l x = A.val l x := id rfl
theorem abl (T : dy) (g : Nat) (a b : Array Value) (args : List AV) : sd T (.sc (.func (.func g) a b)) args = qo T g (a.toList.map .sc ++ args ++ b.toList.map .sc) := id rfl
theorem Y6 (T : dy) (g : Nat) (a b : List AV) (args : List AV) : sd T (.fn (.func g) a b) args = qo T g (a ++ args ++ b) := id rfl
theorem Wf (f : Nat) (b : Bool) (m : List AV → M AV) (T : dy) (args : List AV) : qo ((f, b, m) :: T) f args = mono (m args) := by simp [qo, dy.find]
theorem Sg (f g : Nat) (b : Bool) (m : List AV → M AV) (T : dy) (args : List AV) (h : (f == g) = false) : qo ((f, b, m) :: T) g args = qo T g args := by
  have : f ≠ g := by simpa using h
  simp [qo, dy.find, kx this]
theorem abf {α : Type} (A : AC α) (F : α → Option AV) (args : List AV) (st : St) : da A F args st = match A.get .nil args with | some x => (F x).map fun r => (r, st) | none => match A.get st.h args with | some x => (match F x with | some r => bif r.fresh then some (r, st) else none | none => none) | none => none := id rfl
theorem aus {α β : Type} (A : c7 α) (B : c7 β) (fr : Bool) (h : Tr ba) (a b : AV) : (r2 A B).get fr h (.eu [a, b]) = match A.fj fr h a, B.fj fr h b with | some x, some y => some (x, y) | _, _ => none := id rfl
theorem auw (h : Tr ba) : a0.get h [] = some () := id rfl
theorem ats {α β : Type} (C : c7 α) (R : AC β) (h : Tr ba) (a : AV) (r : List AV) : (aC C R).get h (a :: r) = match C.fj false h a, R.get h r with | some x, some y => some (x, y) | _, _ => none := id rfl
theorem atw {α : Type} (A : c7 α) (fr : Bool) (h : Tr ba) (a : AV) : (r1 A).get fr h a = A.fj fr h a := id rfl
end cods
section
variable (P : Program)
theorem U5 (pl : Nat → Option (Nat × Nat)) (cells : List AV) : tw pl cells [] = some cells := id rfl
theorem S2 (pl : Nat → Option (Nat × Nat)) (cells : List AV) (i : Nat) (v : AV) (rest : List (Nat × AV)) : tw pl cells ((i, v) :: rest) = match pl i with
    | none => none
    | some (off, size) => bif !v.known || !(Nat.beq v.cells.length size) || !(Nat.ble (off + size) cells.length) then none else tw pl (cells.take off ++ v.cells ++ cells.drop (off + size)) rest := id rfl
def Ak (t : TypeId) : Option (List AV × List (Nat × Nat)) :=
  match ec P t, P.underlying t with
  | some z, some (.struct fields) => (Fs P fields).map fun pl => (z.cells.toList.map .sc, pl)
  | _, _ => none
theorem Sy (t : TypeId) (ps : List (Nat × AV)) : oy P t ps = match Ak P t with
    | some (z, pl) => .of ((tw (fun i => pl[i]?) z ps).map .agg)
    | none => oy P t ps := by
  cases hb : Ak P t with
  | none => rfl
  | some q =>
    obtain ⟨z, pl⟩ := q
    simp only [Ak] at hb
    split at hb
    · rename_i z' fs hz hu
      cases hp : Fs P fs with
      | none => simp [hp] at hb
      | some pl' =>
        simp [hp] at hb
        obtain ⟨rfl, rfl⟩ := hb
        simp [oy, hz, hu, hp]
    · cases hb
def A8 (t : TypeId) : Option (TypeId × Nat × List AV) :=
  match nr P t with
  | none => none
  | some e =>
    match c8 P e, ec P e with
    | some sz, some z => bif Nat.beq z.cells.size sz then some (e, sz, z.cells.toList.map .sc) else none
    | _, _ => none
theorem Dn (t : TypeId) (len : Nat) (ps : List (Nat × AV)) : ij P t len ps = match A8 P t with
    | some (e, sz, z) =>
      match tw (fun i => some (i * sz, sz)) (List.replicate len z).flatten ps with
      | some cells => bif Nat.ble (len * sz) 16777216 && Nat.ble len 16777216 then j3 e sz len cells else .fail
      | none => .fail
    | none => ij P t len ps := by
  cases hb : A8 P t with
  | none => rfl
  | some q =>
    obtain ⟨e, sz, z⟩ := q
    simp only [A8] at hb
    split at hb
    · cases hb
    · rename_i e' he
      split at hb
      · rename_i sz' z' hs hz
        cases hq : Nat.beq z'.cells.size sz' with
        | false => simp [hq] at hb
        | true =>
          simp [hq] at hb
          obtain ⟨rfl, rfl, rfl⟩ := hb
          simp only [ij, he, hs, hz, hq, Bool.and_true]
          rfl
      · cases hb
end
section ranges
variable (P : Program) (T : dy) (l az : Nat) (R : Ga) (Q : QI) (pe : Option Ex) (L : SL) (st : St)
theorem abh (f : Operand) (ps : Array Tmp) (a b : Code) (Q : QL) : wl P T az (.rangeFunc f ps a b) Q L st = ams P T f ps.toList (fun p => wl P T p a) (fun p => wl P T p b) az Q L st := id rfl
theorem ack : od P T l R az .skip Q pe L st = Q .normal pe L st := id rfl
theorem P1 (i : Nat) (ops : Array Oper) : od P T l R az (.region i ops false) Q pe L st = Co P T l R az ops ops.toList (Q .normal) pe L st := id rfl
theorem agy (a b : Code) : od P T l R az (.seq a b) Q pe L st = od P T l R az a (ab3 (od P T l R az b) Q) pe L st := id rfl
theorem abt (c : Operand) (a b : Code) : od P T l R az (.cond c a b) Q pe L st = Ae (cz L c) (od P T l R az a Q) (od P T l R az b Q) pe L st := id rfl
theorem Vk (i : Nat) (a : Code) : od P T l R az (.block i a) Q pe L st = od P T l R az a (O9 i Q) pe L st := id rfl
theorem Y8 (i : Nat) : od P T l R az (.exit i) Q pe L st = Q (.exit i) pe L st := id rfl
theorem af3 : od P T l R az .ret Q pe L st = Q .ret pe L st := id rfl
theorem al1 (W : QI → Option Ex → SL → St → Prop) : ab3 W Q .normal pe L st = W Q pe L st := id rfl
theorem ano (W : QI → Option Ex → SL → St → Prop) (i : Nat) : ab3 W Q (.exit i) pe L st = Q (.exit i) pe L st := id rfl
theorem ant (W : QI → Option Ex → SL → St → Prop) : ab3 W Q .ret pe L st = Q .ret pe L st := id rfl
theorem ak7 (i : Nat) : O9 i Q .normal pe L st = Q .normal pe L st := id rfl
theorem akb (i : Nat) : O9 i Q .ret pe L st = Q .ret pe L st := id rfl
theorem ana (i j : Nat) : O9 i Q (.exit j) pe L st = if j = i then Q .normal pe L st else Q (.exit j) pe L st := by
  show (bif Nat.beq j i then _ else _) = _
  rw [ah3]; by_cases h : j = i <;> simp [h]
theorem ago (Q' : QL) : xg Q' Q .normal pe L st = (pe = none ∧ Q' .normal L st) := id rfl
theorem afy (Q' : QL) (i : Nat) : xg Q' Q (.exit i) pe L st = Q (.exit i) pe L st := id rfl
theorem afm (Q' : QL) : xg Q' Q .ret pe L st = Q .ret pe L st := id rfl
theorem agh (Q : QL) (L0 : SL) : acp Q L0 .normal none L st = Q .normal L0 st := id rfl
theorem af6 (Q : QL) (L0 : SL) (e : Ex) : acp Q L0 .ret (some e) L st = Q e L0 st := id rfl
theorem acn (ops : Array Oper) (K : Option Ex → SL → St → Prop) : Co P T l R az ops [] K pe L st = K pe L st := id rfl
theorem Vp (ops : Array Oper) (o : Oper) (r : List Oper) (K : Option Ex → SL → St → Prop) : Co P T l R az ops (o :: r) K pe L st = Hq ops o.guard (opI P T l R az o (Co P T l R az ops r K)) (Uc o.dst (Co P T l R az ops r K)) pe L st := id rfl
theorem Td (ops : Array Oper) (X Y : Option Ex → SL → St → Prop) : Hq ops none X Y pe L st = X pe L st := id rfl
theorem Rn (ops : Array Oper) (j : Nat) (c : Bool) (X Y : Option Ex → SL → St → Prop) : Hq ops (some (j, c)) X Y pe L st = Zd (lk L (r8 ops j)) c X Y pe L st := id rfl
theorem adf (b : Bool) (X Y : Option Ex → SL → St → Prop) : Zd (.sc (.bool b)) true X Y pe L st = Ae (.sc (.bool b)) X Y pe L st := by cases b <;> simp [Zd, x5, z9, D3, Ae, pd, AV.bool, AV.exact, nh]
theorem af2 (X Y : Option Ex → SL → St → Prop) : Ae (.sc (.bool true)) X Y pe L st = X pe L st := by simp [Ae, pd, AV.bool, AV.exact, nh]
theorem aha (X Y : Option Ex → SL → St → Prop) : Ae (.sc (.bool false)) X Y pe L st = Y pe L st := by simp [Ae, pd, AV.bool, AV.exact, nh]
theorem qs (b : Bool) (X Y : Option Ex → SL → St → Prop) : Ae (.sc (.bool b)) X Y pe L st = ((b = true → X pe L st) ∧ (b = false → Y pe L st)) := by simp [Ae, pd, AV.bool, AV.exact, nh]
theorem Rp (d : Option Tmp) (K : Option Ex → SL → St → Prop) : Uc d K pe L st = K pe (ft d (.sc undef) L) st := id rfl
theorem amp (o : Oper) (K : Option Ex → SL → St → Prop) : opI P T l R az o K pe L st = T6 P T R az o K pe L st (yieldOf l o L) := id rfl
theorem alp (o : Oper) (K : Option Ex → SL → St → Prop) : T6 P T R az o K pe L st none = Fe (eg P T o (cz L) st) o.dst L (K pe) := id rfl
theorem ac9 (d : Option Tmp) (K : Option Ex → SL → St → Prop) : Yu d L K .normal st = K none (ft d (.sc (.bool true)) L) st := id rfl
theorem aaj (d : Option Tmp) (K : Option Ex → SL → St → Prop) : Yu d L K .ret st = K (some .ret) (ft d (.sc (.bool false)) L) st := id rfl
theorem af7 (B : QL → SL → St → Prop) (X : Ex → St → Prop) : aq6 B X .normal L st = B (fun e _ st => X e st) L st := id rfl
theorem Wb (k : Nat) (va vb : Array Value) : zh l (.sc (.func (.yield k) va vb)) = (Nat.beq k l && Nat.beq va.size 0 && Nat.beq vb.size 0) := id rfl
theorem N1 : w7 [] [] L = L := id rfl
theorem Kb (t : Nat) (ts : List Nat) (v : AV) (vs : List AV) : w7 (t :: ts) (v :: vs) L = w7 ts vs ((t, v) :: L) := id rfl
theorem apm {α : Type} {b : Code} (keep : List Nat) (V : α → List AV) (O : α → List (Option ba)) (I : α → Prop) (μ : α → Nat) (x : α) (hx : I x) (hR : ∀ p args (X X' : Ex → St → Prop) st, (∀ e st, X e st → X' e st) → R p args X st → R p args X' st)
    (hv : jo az keep L st = V x) (ho : fo az keep L st = O x)
    (step : ∀ x, I x → od P T l R az b (xg (v5 az keep (fun vs os => ∃ y, I y ∧ μ y < μ x ∧ vs = V y ∧ os = O y) (fun _ _ _ => False)) Q) none (l5 keep (V x)) (bp (O x))) : od P T l R az (.loop b) Q none L st :=
  ⟨rfl, qp.of (B := fun Q' L st => od P T l R az b (xg Q' Q) none L st) keep V O I μ x hx hv ho (fun Q1 Q2 h L st hh => Pj hR b _ _ (fun e pe L st q => by
    cases e with
    | normal => exact ⟨q.1, h _ _ _ q.2⟩
    | ret => exact q
    | exit i => exact q) none L st hh) step⟩
theorem Og {ps : List Tmp} {a b : Code} {L0 : SL} : ∀ p args (X X' : Ex → St → Prop) st, (∀ e st, X e st → X' e st) → ln ps (fun p => wl P T p a) (fun p => wl P T p b) L0 p args X st → ln ps (fun p => wl P T p a) (fun p => wl P T p b) L0 p args X' st :=
  fun p args X X' st hX hr => ⟨hr.1, hr.2.1, Fb _ _ _ (fun e L st q => by
    cases e with
    | normal => exact Fb _ _ _ (fun e _ st q => hX e st q) _ _ q
    | _ => exact q.elim) _ _ hr.2.2⟩
end ranges
section yields
variable {lp : Nat} {L : SL} {d : Option Tmp} {ty : TypeId} {pos : String} {af : Array Edge} {gd : Option (Nat × Bool)}
theorem Ks (x) : yieldOf lp ⟨d, .move x, ty, pos, af, gd⟩ L = none := id rfl
theorem Ft (x) : yieldOf lp ⟨d, .assign x, ty, pos, af, gd⟩ L = none := id rfl
theorem K1 (t a) : yieldOf lp ⟨d, .load t a, ty, pos, af, gd⟩ L = none := id rfl
theorem Be (s x f) : yieldOf lp ⟨d, .fieldAddr s x f, ty, pos, af, gd⟩ L = none := id rfl
theorem Ic (op t x y u) : yieldOf lp ⟨d, .binOp op t x y u, ty, pos, af, gd⟩ L = none := id rfl
theorem Kh (c a b) : yieldOf lp ⟨d, .pick c a b, ty, pos, af, gd⟩ L = none := id rfl
theorem Hz (t a x) : yieldOf lp ⟨d, .store t a x, ty, pos, af, gd⟩ L = none := id rfl
theorem Bd (t x i) : yieldOf lp ⟨d, .indexAddr t x i, ty, pos, af, gd⟩ L = none := id rfl
theorem Ie (t) : yieldOf lp ⟨d, .alloc t, ty, pos, af, gd⟩ L = none := id rfl
theorem Kw (op t x) : yieldOf lp ⟨d, .unOp op t x, ty, pos, af, gd⟩ L = none := id rfl
theorem M0 (x ts) : yieldOf lp ⟨d, .call { callee := .builtin .len, args := #[x], argTypes := ts }, ty, pos, af, gd⟩ L = none := id rfl
theorem Jf (f : Operand) (args : Array Operand) (ts : Array TypeId) : yieldOf lp ⟨d, .call { callee := .value f, args := args, argTypes := ts }, ty, pos, af, gd⟩ L = bif zh lp (cz L f) then some args else none := id rfl
end yields
end
end Go.Vm
namespace Go.Vm
noncomputable section
section
variable (P : Program) (ρ : Operand → AV) (d : Option Tmp) (ty : TypeId) (pos : String) (af : Array Edge) (gd : Option (Nat × Bool)) (t u : TypeId) (x y : Operand)
theorem I8 (op : BinOp) (k k' : IntKind) (a b : Int) (hx : ρ x = .sc (.int k a)) (hy : ρ y = .sc (.int k' b)) :
    mg P ρ ⟨d, .binOp op t x y u, ty, pos, af, gd⟩ op t (.sc (.int k a)) (.sc (.int k' b)) = M.of ((ev P (binOp op t (.int k a) (.int k' b))).map .sc) := by
  have h1 : ∀ s : Sem Value, ev P (do pure (Next.value (← s))) = (ev P s).map Next.value := by
    intro s
    induction s with
    | pure b => rfl
    | program k ih => exact ih P
    | choose q k ih =>
      simp only [bind, Sem.bind, ev]
      split
      · exact ih 0
      · rfl
    | mark m k ih => exact ih
    | _ => rfl
  have h2 : execOp (fun z => ((ρ z).fk).getD undef) ⟨d, .binOp op t x y u, ty, pos, af, gd⟩ = (do pure (Next.value (← (do eqGuard op t x y (.int k a) (.int k' b); binOp op t (.int k a) (.int k' b))))) := by
    simp only [execOp, hx, hy, AV.fk, Option.getD_some]
  have h3 : ev P (do eqGuard op t x y (.int k a) (.int k' b); binOp op t (.int k a) (.int k' b)) = ev P (binOp op t (.int k a) (.int k' b)) := by
    cases op <;> rfl
  unfold mg ry
  simp only [AV.fk, Option.isSome_some, Bool.and_self, cond_true]
  rw [h2, h1, h3]
  cases ev P (binOp op t (.int k a) (.int k' b)) <;> rfl
theorem alm (k k' : IntKind) (a b : Int) (h : 0 ≤ b) : ev P (binOp .shl t (.int k a) (.int k' b)) = some (.int k (k.wrap (a * 2 ^ (min b.toNat k.bits)))) := by
  have : ¬ b < 0 := by omega
  simp [binOp, Op.shift, this, ta]
theorem alh (k k' : IntKind) (a b : Int) (h : 0 ≤ b) : ev P (binOp .shr t (.int k a) (.int k' b)) = some (.int k (a.fdiv (2 ^ (min b.toNat k.bits)))) := by
  have : ¬ b < 0 := by omega
  simp [binOp, Op.shift, this, ta]
theorem aqi (k : IntKind) (a b : Int) : ev P (binOp .or t (.int k a) (.int k b)) = some (.int k (k.wrap (((a % 2 ^ k.bits).toNat ||| (b % 2 ^ k.bits).toNat : Nat) : Int))) := by
  simp [binOp, Op.intBits, ta]
theorem ao0 {d : TypeDesc} (h : P.underlying t = some d) : ev P (underlying t) = some d := by
  rw [underlying]
  show ev P (match P.underlying t with | some d => pure d | none => _) = _
  rw [h]; rfl
theorem I0 (op : BinOp) (a b : ByteArray) (hx : ρ x = .sc (.string a)) (hy : ρ y = .sc (.string b)) :
    mg P ρ ⟨d, .binOp op t x y u, ty, pos, af, gd⟩ op t (.sc (.string a)) (.sc (.string b)) = M.of ((ev P (binOp op t (.string a) (.string b))).map .sc) := by
  have h1 : ∀ s : Sem Value, ev P (do pure (Next.value (← s))) = (ev P s).map Next.value := by
    intro s
    induction s with
    | pure b => rfl
    | program k ih => exact ih P
    | choose q k ih =>
      simp only [bind, Sem.bind, ev]
      split
      · exact ih 0
      · rfl
    | mark m k ih => exact ih
    | _ => rfl
  have h2 : execOp (fun z => ((ρ z).fk).getD undef) ⟨d, .binOp op t x y u, ty, pos, af, gd⟩ = (do pure (Next.value (← (do eqGuard op t x y (.string a) (.string b); binOp op t (.string a) (.string b))))) := by
    simp only [execOp, hx, hy, AV.fk, Option.getD_some]
  have h3 : ev P (do eqGuard op t x y (.string a) (.string b); binOp op t (.string a) (.string b)) = ev P (binOp op t (.string a) (.string b)) := by
    cases op <;> rfl
  unfold mg ry
  simp only [AV.fk, Option.isSome_some, Bool.and_self, cond_true]
  rw [h2, h1, h3]
  cases ev P (binOp op t (.string a) (.string b)) <;> rfl
theorem str_eq (a b : ByteArray) : (a.toList == b.toList) = decide (a = b) := by
  rw [ByteArray.toList_eq, ByteArray.toList_eq, Bool.eq_iff_iff]
  simp only [beq_iff_eq, decide_eq_true_eq]
  constructor
  · intro h
    cases a; cases b
    congr 1
    exact Array.ext' h
  · intro h; rw [h]
theorem Sh (a b : ByteArray) : ev P (binOp .eql t (.string a) (.string b)) = some (.bool (decide (a = b))) := by
  rw [← str_eq]; rfl
theorem Ti (a b : ByteArray) : ev P (binOp .neq t (.string a) (.string b)) = some (.bool (!decide (a = b))) := by
  rw [← str_eq]; rfl
end
def Ll (u : Option TypeDesc) : Bool := match u with | some (.slice _) => true | _ => false
theorem agz (e) : Ll (some (.slice e)) = true := id rfl
theorem afp {u} (h : Ll u = true) : ∃ e, u = some (.slice e) := by
  unfold Ll at h; split at h
  · exact ⟨_, rfl⟩
  · cases h
theorem agt {P : Program} {t op x y} (h : Ll (P.underlying t) = true) : Dz P t op x y = B4 op x y := by
  obtain ⟨e, he⟩ := afp h
  unfold Dz; rw [he]
theorem Tf (P : Program) (ρ o op t l sz es b) : mg P ρ o op t (.vl l sz es) b = Dz P t op (.vl l sz es) b := id rfl
theorem afq (b) : m6 .eql b = M.pure (.sc (.bool b)) := id rfl
theorem Fz (P : Program) (ρ : Operand → AV) (d ty pos af gd) (t u : TypeId) (x y : Operand) (op : BinOp) (a b : Option Addr) (n c m k : Nat) (hx : ρ x = .sc (.slice a n c)) (hy : ρ y = .sc (.slice b m k)) :
    mg P ρ ⟨d, .binOp op t x y u, ty, pos, af, gd⟩ op t (.sc (.slice a n c)) (.sc (.slice b m k)) = M.of ((ev P (binOp op t (.slice a n c) (.slice b m k))).map .sc) := by
  have h1 : ∀ s : Sem Value, ev P (do pure (Next.value (← s))) = (ev P s).map Next.value := by
    intro s
    induction s with
    | pure b => rfl
    | program k ih => exact ih P
    | choose q k ih =>
      simp only [bind, Sem.bind, ev]
      split
      · exact ih 0
      · rfl
    | mark m k ih => exact ih
    | _ => rfl
  have h2 : execOp (fun z => ((ρ z).fk).getD undef) ⟨d, .binOp op t x y u, ty, pos, af, gd⟩ = (do pure (Next.value (← (do eqGuard op t x y (.slice a n c) (.slice b m k); binOp op t (.slice a n c) (.slice b m k))))) := by
    simp only [execOp, hx, hy, AV.fk, Option.getD_some]
  have h3 : ev P (do eqGuard op t x y (.slice a n c) (.slice b m k); binOp op t (.slice a n c) (.slice b m k)) = ev P (binOp op t (.slice a n c) (.slice b m k)) := by
    cases op <;> rfl
  unfold mg ry
  simp only [AV.fk, Option.isSome_some, Bool.and_self, cond_true]
  rw [h2, h1, h3]
  cases ev P (binOp op t (.slice a n c) (.slice b m k)) <;> rfl
theorem Xi {P : Program} {t : TypeId} {a : Option Addr} {n c m k : Nat} (d : Nat) (h : Ll (P.underlying t) = true) : ev P (Op.equalIn (d + 1) t (.slice a n c) (.slice none m k)) = some a.isNone := by
  obtain ⟨e, he⟩ := afp h
  simp only [Op.equalIn]
  rw [n5, ao0 P t he]
  cases a <;> rfl
theorem K2 {P : Program} {t : TypeId} {a : Option Addr} {n c m k : Nat} (h : Ll (P.underlying t) = true) : ev P (binOp .eql t (.slice a n c) (.slice none m k)) = some (.bool a.isNone) := by
  show ev P (do pure (Value.bool (← Op.equalIn (9999 + 1) t (.slice a n c) (.slice none m k)))) = _
  rw [n5, Xi 9999 h]
  rfl
end
end Go.Vm
namespace Go.Vm
noncomputable section
abbrev Name := List ByteArray
structure ct where
  names : List Name
  nums : List UInt32
  texts : List ByteArray
  raw : List UInt8
def mkD (a : List Name) (b : List UInt32) (c : List ByteArray) (e : List UInt8) : ct := ⟨a, b, c, e⟩
theorem agr (d : ct) : mkD d.names d.nums d.texts d.raw = d := id rfl
noncomputable def ay : c7 Name := cq an
noncomputable def b9 : c7 ct := xp (ko (cq ay) (ko (cq be) (ko ay (cq cj)))) (fun d => (d.names, d.nums, d.texts, d.raw)) (fun p => ⟨p.1, p.2.1, p.2.2.1, p.2.2.2⟩) (fun _ => rfl) (fun _ => rfl)
theorem dz (l : Bool) (n : Name) : ay.val l n = .vl l 1 (n.map (an.val l)) := id rfl
theorem si : ay.sz = 1 := id rfl
theorem Q3 : b9.sz = 4 := id rfl
theorem lj (l : Bool) (d : ct) : b9.val l d = .agg [.vl l 1 (d.names.map (ay.val l)), .vl l 1 (d.nums.map (be.val l)), .vl l 1 (d.texts.map (an.val l)), .vl l 1 (d.raw.map (cj.val l))] := id rfl
theorem Of (fr : Bool) (h : Tr ba) (x1 x2 x3 x4 : AV) :
    b9.fj fr h (.agg [x1, x2, x3, x4]) = match fy ay fr h x1, fy be fr h x2, fy an fr h x3, fy cj fr h x4 with
      | some a, some b, some c, some e => some (mkD a b c e)
      | _, _, _, _ => none := by
  rw [ux _ _ _ _ rfl rfl]
  have h1 : b9.dec fr h (AV.agg [x1, x2, x3, x4]).cells = Option.map (fun p => (⟨p.1, p.2.1, p.2.2.1, p.2.2.2⟩ : ct)) ((ko (cq ay) (ko (cq be) (ko ay (cq cj)))).dec fr h [x1, x2, x3, x4]) := rfl
  have d2 : ∀ {α β : Type} (A : c7 α) (B : c7 β) (l : List AV), (ko A B).dec fr h l = match A.dec fr h (l.take A.sz), B.dec fr h (l.drop A.sz) with | some x, some y => some (x, y) | _, _ => none := fun _ _ _ => rfl
  have l1 : ∀ {α : Type} (C : c7 α) (x : AV), (cq C).dec fr h [x] = fy C fr h x := fun _ _ => rfl
  have n1 : ∀ x, ay.dec fr h [x] = fy an fr h x := fun _ => rfl
  rw [h1]
  simp only [d2, zd, si, List.take_succ_cons, List.take_zero, List.drop_succ_cons, List.drop_zero, l1, n1]
  cases fy ay fr h x1 <;> cases fy be fr h x2 <;> cases fy an fr h x3 <;> cases fy cj fr h x4 <;> rfl
theorem Ix {α : Type} (C : c7 α) (fr : Bool) (h : Tr ba) (l : Bool) (n : Nat) (es : List AV) : (cq C).fj fr h (.vl l n es) = fy C fr h (.vl l n es) := zu C fr h _ rfl rfl rfl
theorem Kn {α : Type} (C : c7 α) (fr : Bool) (h : Tr ba) (o off len n : Nat) : (cq C).fj fr h (.sl o off len n) = fy C fr h (.sl o off len n) := zu C fr h _ rfl rfl rfl
theorem A6 {α : Type} (C : c7 α) (fr : Bool) (h : Tr ba) : (cq C).fj fr h (.sc (.slice none 0 0)) = some [] := by
  rw [zu C fr h _ rfl rfl rfl]; rfl
theorem Eo (fr : Bool) (h : Tr ba) (l : Bool) (n : Nat) (es : List AV) : ay.fj fr h (.vl l n es) = fy an fr h (.vl l n es) := zu an fr h _ rfl rfl rfl
theorem D7 (fr : Bool) (h : Tr ba) (o off len n : Nat) : ay.fj fr h (.sl o off len n) = fy an fr h (.sl o off len n) := zu an fr h _ rfl rfl rfl
theorem Cl (fr : Bool) (h : Tr ba) : ay.fj fr h (.sc (.slice none 0 0)) = some [] := A6 an fr h
theorem Ck (l : List UInt8) : l.map zb = l.map (cj.val false) := id rfl
theorem K5 {α : Type} (C : c7 α) (b : Bool) (l : List α) : AV.names.go (l.map (C.val b)) = [] := E2 (fun c hc => by
  obtain ⟨x, _, rfl⟩ := List.mem_map.1 hc
  exact I7 C b x)
theorem vp : ∀ (l : List UInt8) (b : Bool), bytesOf (l.map (cj.val b)) = some l
  | [], _ => rfl
  | c :: l, b => by
    rw [List.map_cons, Ds, bytesOf, vp l b]
    simp
end
end Go.Vm
section
namespace Go.Vm.Cx
open Go.Vm
noncomputable section
theorem Av {P : Program} (w : World) : ∀ (ns : List Int) (a : Addr) (i : Nat) (acc : ByteArray), (∀ (j : Nat) x, ns[j]? = some x → (load (a.add (i + j))).run P w = .ok (.int .u8 x) w) →
    (Extern.Bytes.loadBytes (a.add i) ns.length acc).run P w = .ok ⟨acc.data ++ (ns.map fun n => UInt8.ofNat n.toNat).toArray⟩ w
  | [], a, i, acc, _ => by simp [Extern.Bytes.loadBytes]
  | x :: l, a, i, acc, h => by
    have h0 := h 0 x rfl
    rw [Nat.add_zero] at h0
    have e : (a.add i).add 1 = a.add (i + 1) := by
      unfold Addr.add
      by_cases hj : i = 0
      · subst hj; simp
      · simp [hj]; omega
    have ih := Av (P := P) w l a (i + 1) (acc.push x.toNat.toUInt8) (fun j y hy => by
      have := h (j + 1) y (by simpa using hy)
      rw [show i + 1 + j = i + (j + 1) from by omega]; exact this)
    simp only [List.length_cons, Extern.Bytes.loadBytes, Sem.run_bind, h0, Result.andThen]
    rw [e, ih]
    congr 1
    apply ByteArray.ext
    simp [ByteArray.push, Nat.toUInt8]
theorem Tm {l : List Int} {l' : List Value} (h : l' = l.map (Value.int .u8)) (j : Nat) (x : Int) (hx : l[j]? = some x) : l'[j]? = some (.int .u8 x) := by rw [h, List.getElem?_map, hx]; rfl
theorem A1 {P : Program} {g st bd w} {a : AV} {v : Value} {l : List AV} {bs : List UInt8} (hok : Ok g st.h w) (hr : Rel g w a v) (h : cellsIn 1 a st = some (l, bd)) (hb : bytesOf l = some bs) :
    (Extern.Bytes.bytesOf v).run P w = .ok ⟨bs.toArray⟩ w := by
  obtain ⟨_, _, n, news, hsrc, hrl⟩ := vg (P := P) hok hr h
  obtain ⟨ns, e1, e2⟩ := Bq _ _ _ hrl hb
  obtain ⟨r1, r2⟩ := hsrc.run w rfl
  cases v with
  | slice p len cap =>
    have hn : n = len := by simp [Builtin.lenOf] at r1; exact r1.symm
    subst hn
    cases p with
    | none =>
      have : news = [] := by simpa [Builtin.firstCells] using r2
      subst this
      have : ns = [] := by simpa using e1.symm
      subst this
      subst e2
      rfl
    | some a =>
      simp only [Builtin.firstCells, Nat.mul_one] at r2
      unfold loadCells at r2
      obtain ⟨l', q1, q2, q3⟩ := loadCellsFrom_ok a n 0 #[] _ _ r2
      have hl' : l' = news := by simpa using q2.symm
      subst hl'
      have hlen : ns.length = n := by rw [← q1, e1, List.length_map]
      have := Av (P := P) w ns a 0 .empty (fun j x hx => by
        exact q3 j _ (Tm e1 j x hx))
      rw [hlen] at this
      have e0 : a.add 0 = a := by simp [Addr.add]
      rw [e0] at this
      show (Extern.Bytes.loadBytes a n .empty).run P w = _
      rw [this, e2]
      congr 2
      simp [ByteArray.empty, ByteArray.emptyWithCapacity]
      rfl
  | string s =>
    have hn : n = s.size := by simp [Builtin.lenOf] at r1; exact r1.symm
    subst hn
    simp only [Builtin.firstCells, Sem.run_pure, Result.ok.injEq, and_true] at r2
    have h1 := congrArg Array.toList r2
    rw [e1] at h1
    show Result.ok s w = _
    congr 1
    apply ByteArray.ext
    apply Array.ext'
    rw [e2]
    have h2 := congrArg (List.map fun v : Value => match v with | .int _ n => UInt8.ofNat n.toNat | _ => 0) h1
    simp only [List.map_map, Array.toList_map] at h2
    have h3 : (s.extract 0 s.size).data.toList = s.data.toList := by simp
    rw [h3] at h2
    have h4 : (List.map ((fun v : Value => match v with | .int _ n => UInt8.ofNat n.toNat | _ => 0) ∘ fun b : UInt8 => Value.int .u8 (b.toNat : Int)) s.data.toList) = s.data.toList := by
      rw [show ((fun v : Value => match v with | .int _ n => UInt8.ofNat n.toNat | _ => 0) ∘ fun b : UInt8 => Value.int .u8 (b.toNat : Int)) = id from by funext b; simp]
      simp
    rw [h4] at h2
    rw [h2]
    simp
  | _ => simp [Builtin.lenOf, stuck] at r1
def Bm (args : List AV) : M AV :=
  match args with
  | [a] => .pure a
  | _ => .fail
def g8 (args : List AV) : M AV :=
  match args with
  | [a, b] => (cellsIn 1 a).bind fun x => (cellsIn 1 b).bind fun y =>
    match bytesOf x with
    | some x =>
      match bytesOf y with
      | some y => .pure (.sc (goInt (Lib.compareBytes x y)))
      | none => .fail
    | none => .fail
  | _ => .fail
def dr {α : Type} (m : M α) : Prop := ∀ st v bd, m st = some (v, bd) → bd.h = st.h ∧ bd.nx = st.nx
theorem dr.pure {α : Type} (a : α) : dr (M.pure a) := fun st v bd h => by cases h; exact ⟨rfl, rfl⟩
theorem dr.fail {α : Type} : dr (M.fail : M α) := fun st v bd h => by cases h
theorem dr.bind {α β : Type} {m : M α} {f : α → M β} (hm : dr m) (h : ∀ x, dr (f x)) : dr (m.bind f) := fun st v bd hb => by
  obtain ⟨x, s1, h1, h2⟩ := bind_some hb
  have h3 := hm _ _ _ h1
  have h4 := h x _ _ _ h2
  exact ⟨h4.1.trans h3.1, h4.2.trans h3.2⟩
theorem dr.cw (id : Nat) : dr (Vm.cw id) := fun _st _v _st1 h => (en h).2
theorem dr.cond {α : Type} {b : Bool} {x y : M α} (hx : dr x) (hy : dr y) : dr (bif b then x else y) := by cases b <;> assumption
theorem dr.cellsIn (sz : Nat) (v : AV) : dr (Vm.cellsIn sz v) := by
  unfold Vm.cellsIn wk
  repeat' (first | exact dr.pure _ | exact dr.fail | apply dr.cond | (refine dr.bind (dr.cw _) fun x => ?_) | split)
theorem zo (args : List AV) : dr (g8 args) := by
  unfold g8; split
  · exact dr.bind (dr.cellsIn _ _) fun x => dr.bind (dr.cellsIn _ _) fun y => by
      split
      · split
        · exact dr.pure _
        · exact dr.fail
      · exact dr.fail
  · exact dr.fail
theorem Is {P : Program} {f : Nat} {fn : Func} (hf : P.funcs[f]? = some fn) (h1 : (fn.name == "runtime.NumGoroutine") = false) (h2 : fn.body.isNone = true) (h3 : Extern.findNext fn = none) (h4 : Extern.find fn = some Extern.AbiNoEscape.same) (args : List AV) :
    z7 P f args (Bm args) := by
  intro g st w vs r st' hok hfree hrel hm
  refine .inl ?_
  unfold Bm at hm
  split at hm
  · rename_i a
    cases hm
    obtain ⟨v, rfl, hv⟩ := y9 hrel
    refine ⟨v, w, g, ?_, .refl _ _ _ _ _, hok, hv⟩
    rw [run_callFunc_extern hf h1 h2 h3 h4]
    rfl
  · cases hm
theorem uw {P : Program} {f : Nat} {fn : Func} (hf : P.funcs[f]? = some fn) (h1 : (fn.name == "runtime.NumGoroutine") = false) (h2 : fn.body.isNone = true) (h3 : Extern.findNext fn = none) (h4 : Extern.find fn = some Extern.BytealgCompare.compare) (args : List AV) :
    z7 P f args (g8 args) := by
  intro g st w vs r st' hok hfree hrel hm
  refine .inl ?_
  have hst := zo _ _ _ _ hm
  unfold g8 at hm
  split at hm
  · rename_i a c
    obtain ⟨x, s1, e1, hm⟩ := bind_some hm
    obtain ⟨y, s2, e2, hm⟩ := bind_some hm
    cases hx : bytesOf x with
    | none => rw [hx] at hm; cases hm
    | some bx =>
    cases hy : bytesOf y with
    | none => rw [hx, hy] at hm; cases hm
    | some yb =>
    rw [hx, hy] at hm
    cases hm
    have hh := dr.cellsIn _ _ _ _ _ e1
    match vs, hrel with
    | [v, u], hrel =>
      have r1 := A1 (P := P) hok hrel.head e1 hx
      have r2 := A1 (P := P) (st := s1) (by rw [hh.1]; exact hok) hrel.tail.head e2 hy
      refine ⟨goInt (Lib.compareBytes bx yb), w, g, ?_, ?_, ?_, .sc _⟩
      · rw [run_callFunc_extern hf h1 h2 h3 h4]
        have : (Extern.BytealgCompare.compare #[v, u]).run P w = .ok (goInt (Lib.compareBytes bx yb)) w := by
          change Sem.run P (do pure (goInt (Extern.BytealgCompare.cmp (← Extern.Bytes.bytesOf v) (← Extern.Bytes.bytesOf u)))) w = _
          simp only [Sem.run_bind, r1, r2, Result.andThen, Sem.run_pure]
          rw [Lib.cmp_eq]
        show ((Extern.BytealgCompare.compare #[v, u]).run P w).andThen _ = _
        rw [this]
        rfl
      · rw [hst.1, hst.2]; exact .refl _ _ _ _ _
      · rw [hst.1]; exact hok
    | [], hrel => have := hrel.1; simp at this
    | [v], hrel => have := hrel.1; simp at this
    | _ :: _ :: _ :: _, hrel => have := hrel.1; simp at this
  · cases hm
end
end Go.Vm.Cx
end
section
set_option linter.unusedSimpArgs false
set_option linter.unnecessarySimpa false
namespace Go.Vm
noncomputable section
def roT (o : Option (Bool × (List AV → M AV))) : Bool := match o with | some (b, _) => b | none => false
theorem aq4 (b m) : roT (some (b, m)) = b := id rfl
theorem ed {o : Oper} {L : SL} {x : Operand} (h : x ∈ o.op.operands) : cg o L x = cz L x := by
  cases x with
  | tmp t =>
    show (bif o.op.operands.any (fun x => match x with | .tmp u => Nat.beq u t | _ => false) then lk L t else .bad) = lk L t
    have : o.op.operands.any (fun x => match x with | .tmp u => Nat.beq u t | _ => false) = true := by
      rw [Array.any_eq_true']
      exact ⟨_, h, by simp⟩
    rw [this]; rfl
  | const v => rfl
  | global g => rfl
  | func f => rfl
theorem gp {o : Oper} {L : SL} {l : List Operand} (h : ∀ x ∈ l, x ∈ o.op.operands) : l.map (cg o L) = l.map (cz L) := List.map_congr_left fun x hx => ed (h x hx)
theorem Nb {o : Oper} {L : SL} {l : List (Nat × Operand)} (h : ∀ x ∈ l, x.2 ∈ o.op.operands) : l.map (fun p => (p.1, cg o L p.2)) = l.map (fun p => (p.1, cz L p.2)) := List.map_congr_left fun x hx => by rw [ed (h x hx)]
def er (ro : Bool) (F : List Nat) (o : Oper) (recs : List Rec) (K : List Rec → SL → St → Prop) (L : SL) (st : St) (m : M AV) : Prop := Df ro F o recs K L st (m { h := jj st.h F, nx := st.nx, rl := [], wl := [] })
theorem Ve (ro F o recs K L st m) : er ro F o recs K L st m = Df ro F o recs K L st (m { h := jj st.h F, nx := st.nx, rl := [], wl := [] }) := id rfl
section ops
variable (P : Program) (T : dy) (L : SL) (st : St) (recs : List Rec) (K : List Rec → SL → St → Prop) (d : Option Tmp) (ty : TypeId) (pos : String) (af : Array Edge) (gd : Option (Nat × Bool))
theorem Zs (x) : fq P T ⟨d, .move x, ty, pos, af, gd⟩ recs K L st = er (true) ([]) ⟨d, .move x, ty, pos, af, gd⟩ recs K L st (mono (M.pure (cz L x))) := by
  unfold fq kh lq er
  simp only [i4, cond_true]
  have hm : ∀ y, y ∈ ([x] : List Operand) → cg ⟨d, .move x, ty, pos, af, gd⟩ L y = cz L y := fun y hy => ed (by simpa [Op.operands, Call.operands] using hy)
  have hmap : ([x] : List Operand).map (cg ⟨d, .move x, ty, pos, af, gd⟩ L) = ([x] : List Operand).map (cz L) := gp (fun y hy => by simpa [Op.operands, Call.operands] using hy)
  have ho : (⟨d, .move x, ty, pos, af, gd⟩ : Oper).op.operands.toList = [x] := by simp [Op.operands, Call.operands]
  rw [Hl, hm x (by simp)]
  rfl
theorem Rf (x) : fq P T ⟨d, .assign x, ty, pos, af, gd⟩ recs K L st = er (true) ([]) ⟨d, .assign x, ty, pos, af, gd⟩ recs K L st (mono (M.pure (cz L x))) := by
  unfold fq kh lq er
  simp only [i4, cond_true]
  have hm : ∀ y, y ∈ ([x] : List Operand) → cg ⟨d, .assign x, ty, pos, af, gd⟩ L y = cz L y := fun y hy => ed (by simpa [Op.operands, Call.operands] using hy)
  have hmap : ([x] : List Operand).map (cg ⟨d, .assign x, ty, pos, af, gd⟩ L) = ([x] : List Operand).map (cz L) := gp (fun y hy => by simpa [Op.operands, Call.operands] using hy)
  have ho : (⟨d, .assign x, ty, pos, af, gd⟩ : Oper).op.operands.toList = [x] := by simp [Op.operands, Call.operands]
  rw [Dl, hm x (by simp)]
  rfl
theorem aah (t a) : fq P T ⟨d, .load t a, ty, pos, af, gd⟩ recs K L st = er (true) ((cz L a).names) ⟨d, .load t a, ty, pos, af, gd⟩ recs K L st (mono (il P t (cz L a))) := by
  unfold fq kh lq er
  simp only [i4, cond_false]
  have hm : ∀ y, y ∈ ([a] : List Operand) → cg ⟨d, .load t a, ty, pos, af, gd⟩ L y = cz L y := fun y hy => ed (by simpa [Op.operands, Call.operands] using hy)
  have hmap : ([a] : List Operand).map (cg ⟨d, .load t a, ty, pos, af, gd⟩ L) = ([a] : List Operand).map (cz L) := gp (fun y hy => by simpa [Op.operands, Call.operands] using hy)
  have ho : (⟨d, .load t a, ty, pos, af, gd⟩ : Oper).op.operands.toList = [a] := by simp [Op.operands, Call.operands]
  rw [Hr, hm a (by simp)]
  rfl
theorem H0 (s x f) : fq P T ⟨d, .fieldAddr s x f, ty, pos, af, gd⟩ recs K L st = er (true) ([]) ⟨d, .fieldAddr s x f, ty, pos, af, gd⟩ recs K L st (mono (js P s (cz L x) f)) := by
  unfold fq kh lq er
  simp only [i4, cond_true]
  have hm : ∀ y, y ∈ ([x] : List Operand) → cg ⟨d, .fieldAddr s x f, ty, pos, af, gd⟩ L y = cz L y := fun y hy => ed (by simpa [Op.operands, Call.operands] using hy)
  have hmap : ([x] : List Operand).map (cg ⟨d, .fieldAddr s x f, ty, pos, af, gd⟩ L) = ([x] : List Operand).map (cz L) := gp (fun y hy => by simpa [Op.operands, Call.operands] using hy)
  have ho : (⟨d, .fieldAddr s x f, ty, pos, af, gd⟩ : Oper).op.operands.toList = [x] := by simp [Op.operands, Call.operands]
  rw [x7, hm x (by simp)]
  rfl
theorem Wl (op t x y u) : fq P T ⟨d, .binOp op t x y u, ty, pos, af, gd⟩ recs K L st = er (true) ([]) ⟨d, .binOp op t x y u, ty, pos, af, gd⟩ recs K L st (mono (vz P (cg ⟨d, .binOp op t x y u, ty, pos, af, gd⟩ L) ⟨d, .binOp op t x y u, ty, pos, af, gd⟩ op t x y)) := by
  unfold fq kh lq er
  simp only [i4, cond_true]
  have hm : ∀ y, y ∈ ([x, y] : List Operand) → cg ⟨d, .binOp op t x y u, ty, pos, af, gd⟩ L y = cz L y := fun y hy => ed (by simpa [Op.operands, Call.operands] using hy)
  have hmap : ([x, y] : List Operand).map (cg ⟨d, .binOp op t x y u, ty, pos, af, gd⟩ L) = ([x, y] : List Operand).map (cz L) := gp (fun y hy => by simpa [Op.operands, Call.operands] using hy)
  have ho : (⟨d, .binOp op t x y u, ty, pos, af, gd⟩ : Oper).op.operands.toList = [x, y] := by simp [Op.operands, Call.operands]
  rfl
theorem aa2 (c a b) : fq P T ⟨d, .pick c a b, ty, pos, af, gd⟩ recs K L st = er (true) ([]) ⟨d, .pick c a b, ty, pos, af, gd⟩ recs K L st (mono (s8 (cz L c) (cz L a) (cz L b))) := by
  unfold fq kh lq er
  simp only [i4, cond_true]
  have hm : ∀ y, y ∈ ([c, a, b] : List Operand) → cg ⟨d, .pick c a b, ty, pos, af, gd⟩ L y = cz L y := fun y hy => ed (by simpa [Op.operands, Call.operands] using hy)
  have hmap : ([c, a, b] : List Operand).map (cg ⟨d, .pick c a b, ty, pos, af, gd⟩ L) = ([c, a, b] : List Operand).map (cz L) := gp (fun y hy => by simpa [Op.operands, Call.operands] using hy)
  have ho : (⟨d, .pick c a b, ty, pos, af, gd⟩ : Oper).op.operands.toList = [c, a, b] := by simp [Op.operands, Call.operands]
  rw [Hu, hm c (by simp), hm a (by simp), hm b (by simp)]
  rfl
theorem Vq (t a x) : fq P T ⟨d, .store t a x, ty, pos, af, gd⟩ recs K L st = er (false) ((cz L a).names) ⟨d, .store t a x, ty, pos, af, gd⟩ recs K L st (mono (nw P t (cz L a) (cz L x))) := by
  unfold fq kh lq er
  simp only [i4, cond_false]
  have hm : ∀ y, y ∈ ([a, x] : List Operand) → cg ⟨d, .store t a x, ty, pos, af, gd⟩ L y = cz L y := fun y hy => ed (by simpa [Op.operands, Call.operands] using hy)
  have hmap : ([a, x] : List Operand).map (cg ⟨d, .store t a x, ty, pos, af, gd⟩ L) = ([a, x] : List Operand).map (cz L) := gp (fun y hy => by simpa [Op.operands, Call.operands] using hy)
  have ho : (⟨d, .store t a x, ty, pos, af, gd⟩ : Oper).op.operands.toList = [a, x] := by simp [Op.operands, Call.operands]
  rw [Es, hm a (by simp), hm x (by simp)]
  rfl
theorem Nt (t i) : fq P T ⟨d, .extract t i, ty, pos, af, gd⟩ recs K L st = er (true) ([]) ⟨d, .extract t i, ty, pos, af, gd⟩ recs K L st (mono (mi (cz L t) i)) := by
  unfold fq kh lq er
  simp only [i4, cond_true]
  have hm : ∀ y, y ∈ ([t] : List Operand) → cg ⟨d, .extract t i, ty, pos, af, gd⟩ L y = cz L y := fun y hy => ed (by simpa [Op.operands, Call.operands] using hy)
  have hmap : ([t] : List Operand).map (cg ⟨d, .extract t i, ty, pos, af, gd⟩ L) = ([t] : List Operand).map (cz L) := gp (fun y hy => by simpa [Op.operands, Call.operands] using hy)
  have ho : (⟨d, .extract t i, ty, pos, af, gd⟩ : Oper).op.operands.toList = [t] := by simp [Op.operands, Call.operands]
  rw [Bb, hm t (by simp)]
  rfl
theorem H8 (t x i) : fq P T ⟨d, .indexAddr t x i, ty, pos, af, gd⟩ recs K L st = er (true) ([]) ⟨d, .indexAddr t x i, ty, pos, af, gd⟩ recs K L st (mono (jt P t (cz L x) (cz L i))) := by
  unfold fq kh lq er
  simp only [i4, cond_true]
  have hm : ∀ y, y ∈ ([x, i] : List Operand) → cg ⟨d, .indexAddr t x i, ty, pos, af, gd⟩ L y = cz L y := fun y hy => ed (by simpa [Op.operands, Call.operands] using hy)
  have hmap : ([x, i] : List Operand).map (cg ⟨d, .indexAddr t x i, ty, pos, af, gd⟩ L) = ([x, i] : List Operand).map (cz L) := gp (fun y hy => by simpa [Op.operands, Call.operands] using hy)
  have ho : (⟨d, .indexAddr t x i, ty, pos, af, gd⟩ : Oper).op.operands.toList = [x, i] := by simp [Op.operands, Call.operands]
  rw [xu, hm x (by simp), hm i (by simp)]
  rfl
theorem K0 (x) : fq P T ⟨d, .nilCheck x, ty, pos, af, gd⟩ recs K L st = er (true) ([]) ⟨d, .nilCheck x, ty, pos, af, gd⟩ recs K L st (mono (je (cz L x))) := by
  unfold fq kh lq er
  simp only [i4, cond_true]
  have hm : ∀ y, y ∈ ([x] : List Operand) → cg ⟨d, .nilCheck x, ty, pos, af, gd⟩ L y = cz L y := fun y hy => ed (by simpa [Op.operands, Call.operands] using hy)
  have hmap : ([x] : List Operand).map (cg ⟨d, .nilCheck x, ty, pos, af, gd⟩ L) = ([x] : List Operand).map (cz L) := gp (fun y hy => by simpa [Op.operands, Call.operands] using hy)
  have ho : (⟨d, .nilCheck x, ty, pos, af, gd⟩ : Oper).op.operands.toList = [x] := by simp [Op.operands, Call.operands]
  rw [zl, hm x (by simp)]
  rfl
theorem V4 (t) : fq P T ⟨d, .alloc t, ty, pos, af, gd⟩ recs K L st = er (true) (reach st.h fl [] []) ⟨d, .alloc t, ty, pos, af, gd⟩ recs K L st (mono (pn P t)) := by
  unfold fq kh lq er
  simp only [i4, cond_false]
  have hm : ∀ y, y ∈ ([] : List Operand) → cg ⟨d, .alloc t, ty, pos, af, gd⟩ L y = cz L y := fun y hy => ed (by simpa [Op.operands, Call.operands] using hy)
  have hmap : ([] : List Operand).map (cg ⟨d, .alloc t, ty, pos, af, gd⟩ L) = ([] : List Operand).map (cz L) := gp (fun y hy => by simpa [Op.operands, Call.operands] using hy)
  have ho : (⟨d, .alloc t, ty, pos, af, gd⟩ : Oper).op.operands.toList = [] := by simp [Op.operands, Call.operands]
  rw [ho, hmap]
  rfl
theorem Vv (t ps) : fq P T ⟨d, .build t ps, ty, pos, af, gd⟩ recs K L st = er (true) (reach st.h fl (AV.names.go ((ps.toList.map (·.2)).map (cz L))) []) ⟨d, .build t ps, ty, pos, af, gd⟩ recs K L st (mono (oy P t (ps.toList.map fun p => (p.1, cz L p.2)))) := by
  unfold fq kh lq er
  simp only [i4, cond_false]
  have hm : ∀ y, y ∈ ((ps.toList.map (·.2)) : List Operand) → cg ⟨d, .build t ps, ty, pos, af, gd⟩ L y = cz L y := fun y hy => ed (by simpa [Op.operands, Call.operands] using hy)
  have hmap : ((ps.toList.map (·.2)) : List Operand).map (cg ⟨d, .build t ps, ty, pos, af, gd⟩ L) = ((ps.toList.map (·.2)) : List Operand).map (cz L) := gp (fun y hy => by simpa [Op.operands, Call.operands] using hy)
  have ho : (⟨d, .build t ps, ty, pos, af, gd⟩ : Oper).op.operands.toList = (ps.toList.map (·.2)) := by simp [Op.operands, Call.operands]
  rw [ho, hmap]
  rw [E9, Nb (fun x hx => by simp [Op.operands]; exact ⟨_, by simpa using hx⟩)]
  rfl
theorem Fp (t n ps) : fq P T ⟨d, .buildSlice t n ps, ty, pos, af, gd⟩ recs K L st = er (true) (reach st.h fl (AV.names.go ((ps.toList.map (·.2)).map (cz L))) []) ⟨d, .buildSlice t n ps, ty, pos, af, gd⟩ recs K L st (mono (ij P t n (ps.toList.map fun p => (p.1, cz L p.2)))) := by
  unfold fq kh lq er
  simp only [i4, cond_false]
  have hm : ∀ y, y ∈ ((ps.toList.map (·.2)) : List Operand) → cg ⟨d, .buildSlice t n ps, ty, pos, af, gd⟩ L y = cz L y := fun y hy => ed (by simpa [Op.operands, Call.operands] using hy)
  have hmap : ((ps.toList.map (·.2)) : List Operand).map (cg ⟨d, .buildSlice t n ps, ty, pos, af, gd⟩ L) = ((ps.toList.map (·.2)) : List Operand).map (cz L) := gp (fun y hy => by simpa [Op.operands, Call.operands] using hy)
  have ho : (⟨d, .buildSlice t n ps, ty, pos, af, gd⟩ : Oper).op.operands.toList = (ps.toList.map (·.2)) := by simp [Op.operands, Call.operands]
  rw [ho, hmap]
  rw [wa, Nb (fun x hx => by simp [Op.operands]; exact ⟨_, by simpa using hx⟩)]
  rfl
theorem Wu (t x l h m) : fq P T ⟨d, .slice t x l h m, ty, pos, af, gd⟩ recs K L st = er (true) (reach st.h fl (AV.names.go ((#[x] ++ l.toArray ++ h.toArray ++ m.toArray).toList.map (cz L))) []) ⟨d, .slice t x l h m, ty, pos, af, gd⟩ recs K L st (mono (pq P (cg ⟨d, .slice t x l h m, ty, pos, af, gd⟩ L) ⟨d, .slice t x l h m, ty, pos, af, gd⟩ t x l h m)) := by
  unfold fq kh lq er
  simp only [i4, cond_false]
  have hm : ∀ y, y ∈ ((#[x] ++ l.toArray ++ h.toArray ++ m.toArray).toList : List Operand) → cg ⟨d, .slice t x l h m, ty, pos, af, gd⟩ L y = cz L y := fun y hy => ed (by simpa [Op.operands, Call.operands] using hy)
  have hmap : ((#[x] ++ l.toArray ++ h.toArray ++ m.toArray).toList : List Operand).map (cg ⟨d, .slice t x l h m, ty, pos, af, gd⟩ L) = ((#[x] ++ l.toArray ++ h.toArray ++ m.toArray).toList : List Operand).map (cz L) := gp (fun y hy => by simpa [Op.operands, Call.operands] using hy)
  have ho : (⟨d, .slice t x l h m, ty, pos, af, gd⟩ : Oper).op.operands.toList = (#[x] ++ l.toArray ++ h.toArray ++ m.toArray).toList := by simp [Op.operands, Call.operands]
  rw [ho, hmap]
  rfl
theorem aow (op t x) : fq P T ⟨d, .unOp op t x, ty, pos, af, gd⟩ recs K L st = er (true) (reach st.h fl (AV.names.go ([x].map (cz L))) []) ⟨d, .unOp op t x, ty, pos, af, gd⟩ recs K L st (mono (g6 P (cg ⟨d, .unOp op t x, ty, pos, af, gd⟩ L) ⟨d, .unOp op t x, ty, pos, af, gd⟩ [x])) := by
  unfold fq kh lq er
  simp only [i4, cond_false]
  have hm : ∀ y, y ∈ ([x] : List Operand) → cg ⟨d, .unOp op t x, ty, pos, af, gd⟩ L y = cz L y := fun y hy => ed (by simpa [Op.operands, Call.operands] using hy)
  have hmap : ([x] : List Operand).map (cg ⟨d, .unOp op t x, ty, pos, af, gd⟩ L) = ([x] : List Operand).map (cz L) := gp (fun y hy => by simpa [Op.operands, Call.operands] using hy)
  have ho : (⟨d, .unOp op t x, ty, pos, af, gd⟩ : Oper).op.operands.toList = [x] := by simp [Op.operands, Call.operands]
  rw [ho, hmap]
  rfl
theorem aft (x ts) : fq P T ⟨d, .call { callee := .builtin .len, args := #[x], argTypes := ts }, ty, pos, af, gd⟩ recs K L st = er (true) ([]) ⟨d, .call { callee := .builtin .len, args := #[x], argTypes := ts }, ty, pos, af, gd⟩ recs K L st (mono (qa ((ts[0]?).bind P.underlying) (cz L x))) := by
  unfold fq kh lq er
  simp only [i4, cond_true]
  have hm : ∀ y, y ∈ ([x] : List Operand) → cg ⟨d, .call { callee := .builtin .len, args := #[x], argTypes := ts }, ty, pos, af, gd⟩ L y = cz L y := fun y hy => ed (by simpa [Op.operands, Call.operands] using hy)
  have hmap : ([x] : List Operand).map (cg ⟨d, .call { callee := .builtin .len, args := #[x], argTypes := ts }, ty, pos, af, gd⟩ L) = ([x] : List Operand).map (cz L) := gp (fun y hy => by simpa [Op.operands, Call.operands] using hy)
  have ho : (⟨d, .call { callee := .builtin .len, args := #[x], argTypes := ts }, ty, pos, af, gd⟩ : Oper).op.operands.toList = [x] := by simp [Op.operands, Call.operands]
  rw [Kt, hm x (by simp)]
  rfl
theorem Ql (s x ts) : fq P T ⟨d, .call { callee := .builtin .append, args := #[s, x], argTypes := ts }, ty, pos, af, gd⟩ recs K L st = er (false) (reach st.h fl (AV.names.go ([s, x].map (cz L))) []) ⟨d, .call { callee := .builtin .append, args := #[s, x], argTypes := ts }, ty, pos, af, gd⟩ recs K L st (mono (me P ts[0]? ((ts[1]?).bind P.underlying) (cz L s) (cz L x))) := by
  unfold fq kh lq er
  simp only [i4, cond_false]
  have hm : ∀ y, y ∈ ([s, x] : List Operand) → cg ⟨d, .call { callee := .builtin .append, args := #[s, x], argTypes := ts }, ty, pos, af, gd⟩ L y = cz L y := fun y hy => ed (by simpa [Op.operands, Call.operands] using hy)
  have hmap : ([s, x] : List Operand).map (cg ⟨d, .call { callee := .builtin .append, args := #[s, x], argTypes := ts }, ty, pos, af, gd⟩ L) = ([s, x] : List Operand).map (cz L) := gp (fun y hy => by simpa [Op.operands, Call.operands] using hy)
  have ho : (⟨d, .call { callee := .builtin .append, args := #[s, x], argTypes := ts }, ty, pos, af, gd⟩ : Oper).op.operands.toList = [s, x] := by simp [Op.operands, Call.operands]
  rw [ho, hmap]
  rw [Dm, hm s (by simp), hm x (by simp)]
  rfl
theorem Zo (f args ts) : fq P T ⟨d, .call { callee := .value f, args, argTypes := ts }, ty, pos, af, gd⟩ recs K L st = er (py T (cz L) ⟨d, .call { callee := .value f, args, argTypes := ts }, ty, pos, af, gd⟩) (reach st.h fl (AV.names.go ((f :: args.toList).map (cz L))) []) ⟨d, .call { callee := .value f, args, argTypes := ts }, ty, pos, af, gd⟩ recs K L st (sd T (cz L f) (args.toList.map (cz L))) := by
  unfold fq kh lq er
  simp only [i4, cond_false]
  have h1 : ⟨d, .call { callee := .value f, args, argTypes := ts }, ty, pos, af, gd⟩ = (⟨d, .call { callee := .value f, args, argTypes := ts }, ty, pos, af, gd⟩ : Oper) := rfl
  have hf : cg ⟨d, .call { callee := .value f, args, argTypes := ts }, ty, pos, af, gd⟩ L f = cz L f := ed (by simp [Op.operands, Call.operands])
  have ha : args.toList.map (cg ⟨d, .call { callee := .value f, args, argTypes := ts }, ty, pos, af, gd⟩ L) = args.toList.map (cz L) := gp (fun x hx => by simp [Op.operands, Call.operands]; exact .inr (by simpa using hx))
  have hr : py T (cg ⟨d, .call { callee := .value f, args, argTypes := ts }, ty, pos, af, gd⟩ L) ⟨d, .call { callee := .value f, args, argTypes := ts }, ty, pos, af, gd⟩ = py T (cz L) ⟨d, .call { callee := .value f, args, argTypes := ts }, ty, pos, af, gd⟩ := by simp only [py, hf]
  have ho : (⟨d, .call { callee := .value f, args, argTypes := ts }, ty, pos, af, gd⟩ : Oper).op.operands.toList.map (cg ⟨d, .call { callee := .value f, args, argTypes := ts }, ty, pos, af, gd⟩ L) = (f :: args.toList).map (cz L) := by
    show ((#[f] ++ args).toList).map _ = _
    simp only [Array.toList_append, List.map_append, ha, List.map_cons, hf]
    rfl
  rw [hr, ho]
  show Df _ _ _ _ _ _ _ (sd T (cg _ L f) (args.toList.map (cg _ L)) _) = _
  rw [hf, ha]
theorem Mr (n args ts) : py T (cz L) ⟨d, .call { callee := .value (.func n), args, argTypes := ts }, ty, pos, af, gd⟩ = roT (T.find n) := by simp only [py, cz]; rfl
end ops
theorem V8 (P T ops K L st) : By P T ops true K L st = (ld ops = true ∧ (De P T ops ops.toList K [] L st ∨ Lh P T ops ops.toList K [] L st)) := id rfl
theorem U3 (n) : Ek n [] = true := id rfl
theorem S5 (n o r) : Ek n (o :: r) = (Nat.blt o n && Ek n r) := id rfl
theorem aax (h h') : same h h' [] = True := id rfl
theorem Vt (h h' o r) : same h h' (o :: r) = (h.get o = h'.get o ∧ same h h' r) := id rfl
theorem Vj (h) : jj h [] = .nil := id rfl
theorem Pr (h o r) : jj h (o :: r) = Tr.set depth (jj h r) o (h.get o) := id rfl
theorem Tg (h1 h) : oa h1 [] h = h := id rfl
theorem M6 (h1 o r h) : oa h1 (o :: r) h = Tr.set depth (oa h1 r h) o (h1.get o) := id rfl
theorem Vz (t ts v vs) : l5 (t :: ts) (v :: vs) = (t, v) :: l5 ts vs := id rfl
theorem Vx (P T f ps A B p Q L0 st0) : ami P T f ps A B p Q L0 st0 = (Nat.ble p 1000 = true ∧ Kd P T ps A B p Q L0 st0 (vr (cz L0 f))) := id rfl
theorem Z5 (P T ps A B p Q L0 st0 g caps) : Kd P T ps A B p Q L0 st0 (some (g, caps)) = Iq P T ps A B p Q L0 st0 caps (sb P g) := id rfl
theorem acv (P T ps A B p Q L0 st0 caps nt code) : Iq P T ps A B p Q L0 st0 caps (some (nt, code)) = (Nat.ble (caps.length + 1) nt = true ∧ ∀ l : Nat, od P T l (ln ps A B L0) p code (acp Q L0) none (cb 0 (.sc (.func (.yield l) #[] #[]) :: caps)) st0) := id rfl
theorem Ww (g c) : vr (.fn (.func g) [] c) = some (g, c) := id rfl
theorem D9 {P : Program} {T : dy} {l : Nat} {az : Nat} {L : SL} {st : St} {Q : QI} {ps : List Tmp} {ra rb : Code} {L0 : SL} {α : Type} {b : Code} (keep : List Nat) (V : α → List AV) (O : α → List (Option ba)) (I : α → Prop) (μ : α → Nat) (x : α) (hx : I x)
    (hv : jo az keep L st = V x) (ho : fo az keep L st = O x)
    (step : ∀ x, I x → od P T l (ln ps (fun p => wl P T p ra) (fun p => wl P T p rb) L0) az b (xg (v5 az keep (fun vs os => ∃ y, I y ∧ μ y < μ x ∧ vs = V y ∧ os = O y) (fun _ _ _ => False)) Q) none (l5 keep (V x)) (bp (O x))) : od P T l (ln ps (fun p => wl P T p ra) (fun p => wl P T p rb) L0) az (.loop b) Q none L st :=
  apm (keep := keep) (V := V) (O := O) (I := I) (μ := μ) (x := x) (hx := hx) (hR := Og P T) (hv := hv) (ho := ho) (step := step)
theorem vh {P : Program} {T : dy} {R : Ga} {az : Nat} {L : SL} {st : St} {o : Oper} {K : Option Ex → SL → St → Prop} {args : Array Operand} (keep : List Nat) (h : vn R (fo az keep L st).length args o.dst K (l5 keep (jo az keep L st)) (bp (fo az keep L st))) : T6 P T R az o K none L st (some args) := ⟨rfl, keep, h⟩
theorem Tn (P : Program) : ∀ s : Sem Value, ev P (do pure (Next.value (← s))) = (ev P s).map Next.value := by
  intro s
  induction s with
  | pure b => rfl
  | program k ih => exact ih P
  | choose q k ih =>
    simp only [bind, Sem.bind, ev]
    split
    · exact ih 0
    · rfl
  | mark m k ih => exact ih
  | _ => rfl
def aa4 (m : M AV) : M AV := m
def ab9 (a : AV) (m : M AV) : M AV :=
  match a.bool with
  | some b => M.pure (.sc (.bool (!b)))
  | none => m
theorem akm (b : Bool) (m : M AV) : ab9 (.sc (.bool b)) m = M.pure (.sc (.bool (!b))) := id rfl
theorem ast {a : AV} {b : Bool} (h : a.bool = some b) : a = .sc (.bool b) := by
  unfold AV.bool AV.exact nh at h
  cases a with
  | sc v => cases v <;> simp at h; rw [h]
  | _ => cases h
theorem Rh (P : Program) (ρ : Operand → AV) (d ty pos af gd) (t : TypeId) (x : Operand) : g6 P ρ ⟨d, .unOp .not t x, ty, pos, af, gd⟩ [x] = ab9 (ρ x) (aa4 (g6 P ρ ⟨d, .unOp .not t x, ty, pos, af, gd⟩ [x])) := by
  unfold ab9
  split
  · rename_i b hb
    have hx := ast hb
    have h2 : execOp (fun z => ((ρ z).fk).getD undef) ⟨d, .unOp .not t x, ty, pos, af, gd⟩ = (do pure (Next.value (← Op.unary .not (.bool b)))) := by
      simp only [execOp, hx, AV.fk, Option.getD_some]
    unfold g6 kq ry
    simp only [List.all_cons, List.all_nil, hx, AV.fk, Option.isSome_some, Bool.and_true, cond_true]
    rw [h2, Tn]
    rfl
  · rfl
theorem U4 (P : Program) (T : dy) (ρ : Operand → AV) (d ty pos af gd) (t : TypeId) (x : Operand) : eg P T ⟨d, .unOp .not t x, ty, pos, af, gd⟩ ρ = mono (ab9 (ρ x) (aa4 (g6 P ρ ⟨d, .unOp .not t x, ty, pos, af, gd⟩ [x]))) := by
  exact congrArg mono (Rh ..)
theorem ags (P : Program) (T : dy) (L : SL) (st : St) (recs : List Rec) (K : List Rec → SL → St → Prop) (d ty pos af gd) (t x) : fq P T ⟨d, .unOp .not t x, ty, pos, af, gd⟩ recs K L st = er true (reach st.h fl (AV.names.go ([x].map (cz L))) []) ⟨d, .unOp .not t x, ty, pos, af, gd⟩ recs K L st (mono (ab9 (cz L x) (aa4 (g6 P (cg ⟨d, .unOp .not t x, ty, pos, af, gd⟩ L) ⟨d, .unOp .not t x, ty, pos, af, gd⟩ [x])))) := by
  rw [aow]
  have h := Rh P (cg ⟨d, .unOp .not t x, ty, pos, af, gd⟩ L) d ty pos af gd t x
  rw [ed (by simp [Op.operands])] at h
  rw [← h]
theorem Oq (l : List UInt8) : bytesOf (l.map zb) = some l := by rw [Ck, vp]
theorem Nk (a b : ByteArray) : Cx.g8 [.sc (.string a), .sc (.string b)] = M.pure (.sc (goInt (Lib.compareBytes a.data.toList b.data.toList))) := by
  unfold Cx.g8 cellsIn
  simp only [Nat.beq_refl, cond_true]
  unfold M.bind M.pure
  simp only [Oq]
  rfl
theorem Ge {α : Type} (C : c7 α) (f : Bool) (h : C.sz = 1) (ha : C.agg = false) (l : List α) : (l.map (C.val f)).flatMap AV.cells = l.map (C.val f) := by
  induction l with
  | nil => rfl
  | cons x l ih =>
    simp only [List.map_cons, List.flatMap_cons, ih]
    obtain ⟨c, h1, h2, _⟩ := C.one ha f x
    have : C.val f x = c := by simp [c7.val, ha, h1]
    rw [this, h2]; rfl
theorem Ob (f g : Bool) (a b : List UInt8) : Cx.g8 [.vl f 1 (a.map (cj.val f)), .vl g 1 (b.map (cj.val g))] = M.pure (.sc (goInt (Lib.compareBytes a b))) := by
  unfold Cx.g8 cellsIn
  simp only [Nat.beq_refl, cond_true, Ge cj _ rfl rfl]
  unfold M.bind M.pure
  simp only [vp]
  rfl
theorem Nj {L : SL} {d ty pos af gd} {op t u x y} : cg ⟨d, .binOp op t x y u, ty, pos, af, gd⟩ L x = cz L x := ed (by simp [Op.operands])
theorem Mt {L : SL} {d ty pos af gd} {op t u x y} : cg ⟨d, .binOp op t x y u, ty, pos, af, gd⟩ L y = cz L y := ed (by simp [Op.operands])
theorem Qc {L : SL} {d ty pos af gd} {h l m t x} : cg ⟨d, .slice t x l h m, ty, pos, af, gd⟩ L x = cz L x := ed (by simp [Op.operands])
theorem Sr {L : SL} {d ty pos af gd} {h l m t x} : cg ⟨d, .slice t x l (some h) m, ty, pos, af, gd⟩ L h = cz L h := ed (by simp [Op.operands])
def afn (P : Program) (ρ : Operand → AV) (o : Oper) (l : List Operand) : M AV := g6 P ρ o l
def aa1 (u : Option TypeDesc) (a ix : AV) (m : M AV) : M AV :=
  match u with
  | some .string =>
    match a with
    | .sc (.string s) =>
      match ix with
      | .sc (.int _ n) =>
        match (bif decide (0 ≤ n) then s.data.toList[n.toNat]? else none) with
        | some b => M.pure (.sc (.int .u8 b.toNat))
        | none => m
      | _ => m
    | _ => m
  | _ => m
theorem Yo (s : ByteArray) (k : IntKind) (n : Int) (m : M AV) : aa1 (some .string) (.sc (.string s)) (.sc (.int k n)) m = match (bif decide (0 ≤ n) then s.data.toList[n.toNat]? else none) with | some b => M.pure (.sc (.int .u8 b.toNat)) | none => m := id rfl
theorem Iz (P : Program) (ρ : Operand → AV) (d ty pos af gd) (t : TypeId) (x i : Operand) : g6 P ρ ⟨d, .index t x i, ty, pos, af, gd⟩ [x, i] = aa1 (P.underlying t) (ρ x) (ρ i) (afn P ρ ⟨d, .index t x i, ty, pos, af, gd⟩ [x, i]) := by
  unfold aa1
  split
  · rename_i hu
    split
    · rename_i s hx
      split
      · rename_i k n hi
        split
        · rename_i b hb
          cases h0 : decide (0 ≤ n) with
          | false => rw [h0] at hb; cases hb
          | true =>
          rw [h0, cond_true] at hb
          have h0 : 0 ≤ n := by simpa using h0
          have hb' : s[n.toNat]? = some b := by
            obtain ⟨h1, h2⟩ := List.getElem?_eq_some_iff.1 hb
            simp at h1
            rw [getElem?_pos s n.toNat (by simpa using h1)]
            rw [← h2]; rfl
          have h2 : execOp (fun z => ((ρ z).fk).getD undef) ⟨d, .index t x i, ty, pos, af, gd⟩ = (do pure (Next.value (← Instr.index t (.string s) (.int k n)))) := by
            simp only [execOp, hx, hi, AV.fk, Option.getD_some]
          unfold g6 kq ry
          simp only [List.all_cons, List.all_nil, hx, hi, AV.fk, Option.isSome_some, Bool.and_true, cond_true]
          rw [h2, Tn]
          have h3 : ev P (Instr.index t (.string s) (.int k n)) = some (.int .u8 b.toNat) := by
            simp [Instr.index, asIntOf, underlying, program, ev, hu, h0, hb', bind, Sem.bind, pure]
          rw [h3]
          rfl
        · rfl
      · rfl
    · rfl
  · rfl
theorem Pc (a n : Nat) : (a : Int).fdiv (n : Int) = ((a / n : Nat) : Int) := by
  rw [Int.fdiv_eq_ediv_of_nonneg _ (by omega)]; rfl
theorem abe (a : Nat) : (a : Int).fdiv 256 = ((a / 256 : Nat) : Int) := Pc a 256
theorem Rv (a : Nat) : (a : Int).fdiv 65536 = ((a / 65536 : Nat) : Int) := Pc a 65536
theorem H3 (a : Nat) : (a : Int).fdiv 16777216 = ((a / 16777216 : Nat) : Int) := Pc a 16777216
theorem ab2 (f : Nat) (m) (T : dy) : dy.find ((f, m) :: T) f = some m := by simp [dy.find]
theorem Wk (f g : Nat) (m) (T : dy) (h : (f == g) = false) : dy.find ((f, m) :: T) g = dy.find T g := by
  have e : f ≠ g := by simpa using h
  simp [dy.find, kx e]
end
end Go.Vm
end
namespace Go.Vm
noncomputable section
def A9 (P : Program) (t : TypeId) : Option (Nat × Nat × Nat) :=
  match nr P t with
  | some e =>
    match c8 P e, jm P e, ec P e with
    | some sz, some bytes, some z => bif Nat.blt 0 sz && Nat.blt 0 bytes && Nat.beq z.cells.size sz then some (e, sz, bytes) else none
    | _, _, _ => none
  | none => none
end
end Go.Vm
section
set_option linter.unusedSimpArgs false
set_option linter.unusedVariables false
namespace Go.Vm
noncomputable section
def Ze (q : Option (Nat × Nat × Nat)) (s x : AV) : M AV :=
  match q with
  | some (e, sz, bytes) => (cellsIn sz x).bind (m4 e sz bytes s)
  | none => M.fail
theorem aky (e sz bytes s x) : Ze (some (e, sz, bytes)) s x = (cellsIn sz x).bind (m4 e sz bytes s) := id rfl
theorem Qg (P : Program) (t e : TypeId) (s x : AV) : me P (some t) (some (.slice e)) s x = Ze (A9 P t) s x := by
  unfold me Ze A9
  simp only [Option.bind_some]
  cases nr P t with
  | none => rfl
  | some e =>
    simp only
    cases c8 P e with
    | none => rfl
    | some sz =>
      cases jm P e with
      | none => rfl
      | some bytes =>
        cases ec P e with
        | none => rfl
        | some z =>
          simp only
          cases (Nat.blt 0 sz && Nat.blt 0 bytes && Nat.beq z.cells.size sz) <;> rfl
theorem Qt (P : Program) (t : TypeId) (s x : AV) : me P (some t) (some .string) s x = Ze (A9 P t) s x := by
  unfold me Ze A9
  simp only [Option.bind_some]
  cases nr P t with
  | none => rfl
  | some e =>
    simp only
    cases c8 P e with
    | none => rfl
    | some sz =>
      cases jm P e with
      | none => rfl
      | some bytes =>
        cases ec P e with
        | none => rfl
        | some z =>
          simp only
          cases (Nat.blt 0 sz && Nat.blt 0 bytes && Nat.beq z.cells.size sz) <;> rfl
theorem Na (e sz bytes new) : m4 e sz bytes (.sc (.slice none 0 0)) new = bif new.isEmpty then M.pure (.sc (.slice none 0 0)) else bif Nat.ble (new.length * bytes) 140737488355328 then j3 e sz (new.length / sz) new else M.fail := id rfl
theorem Qu (e sz bytes o off len sz' new) : m4 e sz bytes (.sl o off len sz') new = bif Nat.beq sz sz' then (cw o).bind (xd e sz bytes o off len new) else M.fail := id rfl
theorem Nd (e sz bytes o off len new cells k st et) : xd e sz bytes o off len new (.row cells k st et) = (bif Nat.beq et e && new.all AV.one && Nat.ble (off + len * sz) cells.length && Nat.ble ((len * sz + new.length) * bytes) 140737488355328 then
      bif Nat.ble k (off + len * sz) then
        (tk o).bind fun _ => (gm (.row ((cells.take (off + len * sz)).drop off ++ new) (k - off) (pk st) et)).bind fun id => M.pure (.sl id 0 (len + new.length / sz) sz)
      else bif new.isEmpty then M.pure (.sl o off len sz)
      else M.fail
    else M.fail) := id rfl
theorem aqj : pk 0 = 0 := id rfl
def cellsOf {α : Type} (C : c7 α) (f : Bool) (xs : List α) : List AV := xs.flatMap (C.cells f)
theorem Nq {α : Type} (C : c7 α) (f) : cellsOf C f [] = [] := id rfl
theorem z5 {α : Type} (C : c7 α) (f) (xs : List α) : (cellsOf C f xs).length = xs.length * C.sz := by
  induction xs with
  | nil => simp [cellsOf]
  | cons x xs ih =>
    simp only [cellsOf] at ih
    simp [cellsOf, C.len, ih, Nat.succ_mul]; omega
theorem adp {α : Type} (C : c7 α) (f) (xs ys : List α) : cellsOf C f (xs ++ ys) = cellsOf C f xs ++ cellsOf C f ys := by simp [cellsOf]
theorem aew {α : Type} (C : c7 α) (f) (x : α) : cellsOf C f [x] = C.cells f x := by simp [cellsOf]
theorem Aa {α : Type} (C : c7 α) (f) (xs : List α) : (cellsOf C f xs).all AV.one = true := by
  rw [List.all_eq_true]
  intro c hc
  obtain ⟨x, _, hx⟩ := List.mem_flatMap.1 hc
  exact (C.pl f x c hx).one
theorem If {α : Type} (C : c7 α) (f) (xs : List α) : AV.names.go (cellsOf C f xs) = [] := E2 (fun c hc => by
  obtain ⟨x, _, hx⟩ := List.mem_flatMap.1 hc
  exact (C.pl f x c hx).names)
theorem Nc {α : Type} (C : c7 α) (τ) (f) (xs : List α) : (cellsOf C f xs).map (AV.c0 τ) = cellsOf C f xs := by
  rw [← j9]
  exact Oy (fun c hc => by
    obtain ⟨x, _, hx⟩ := List.mem_flatMap.1 hc
    exact (C.pl f x c hx).c0 τ)
theorem F6 {α : Type} {xs : List α} {i : Nat} {x : α} (h : xs[i]? = some x) : xs.drop i = x :: xs.drop (i + 1) := by
  obtain ⟨h1, h2⟩ := List.getElem?_eq_some_iff.1 h
  rw [← h2]; exact List.drop_eq_getElem_cons h1
theorem G7 {α : Type} (C : c7 α) (f) (xs : List α) : (xs.map (C.val f)).flatMap AV.cells = cellsOf C f xs := by
  rw [List.flatMap_map]; congr 1; funext x; exact C.Dy f x
theorem Jk {α : Type} (C : c7 α) (fr : Bool) (h : Tr ba) (f : Bool) (xs : List α) (k st et) (n : Nat) (hn : n = xs.length) (hf : (f || !fr) = true) : nb C fr h 0 n (.row (cellsOf C f xs) k st et) = some xs := by
  subst hn
  simp only [nb, Nat.zero_add, z5, Nat.ble_self_eq_true, cond_true, List.drop_zero]
  have : (cellsOf C f xs).take (xs.length * C.sz) = cellsOf C f xs := List.take_of_length_le (by rw [z5]; exact Nat.le_refl _)
  rw [this]
  exact Uz C fr h f (fun e => by subst e; simpa using hf) xs
theorem Tb {α : Type} (C : c7 α) (fr h cells k st et) : nb C fr h 0 0 (.row cells k st et) = some [] := by
  have h : Nat.ble 0 cells.length = true := Nat.ble_eq_true_of_le (Nat.zero_le _)
  simp [nb, xk, h]
def pa {α : Type} (C : c7 α) (fr : Bool) (h : Tr ba) : List AV → Option (List α)
  | [] => some []
  | a :: l => match C.dec fr h [a], pa C fr h l with
    | some x, some xs => some (x :: xs)
    | _, _ => none
def avg {α : Type} (a b : Option (List α)) : Option (List α) := match a, b with | some x, some y => some (x ++ y) | _, _ => none
def aqz {α : Type} (a : Option α) (b : Option (List α)) : Option (List α) := match a, b with | some x, some y => some (x :: y) | _, _ => none
theorem am9 {α : Type} (a b : List α) : avg (some a) (some b) = some (a ++ b) := id rfl
theorem agq {α : Type} (a : α) (b : List α) : aqz (some a) (some b) = some (a :: b) := id rfl
theorem Pk {α : Type} (C : c7 α) (fr h) : pa C fr h [] = some [] := id rfl
theorem D8 {α : Type} (C : c7 α) (fr h a l) : pa C fr h (a :: l) = aqz (C.dec fr h [a]) (pa C fr h l) := id rfl
theorem Ou {α : Type} (C : c7 α) (fr h) : ∀ a b, pa C fr h (a ++ b) = avg (pa C fr h a) (pa C fr h b)
  | [], b => by
    simp only [List.nil_append, Pk]
    cases pa C fr h b <;> rfl
  | x :: a, b => by
    simp only [List.cons_append, D8, Ou C fr h a b]
    cases C.dec fr h [x] <;> cases pa C fr h a <;> cases pa C fr h b <;> rfl
theorem abw {α : Type} (C : c7 α) (hz : C.sz = 1) (fr h) : ∀ cells : List AV, xk C fr h cells.length cells = pa C fr h cells
  | [] => rfl
  | a :: l => by
    have h1 : (a :: l).take C.sz = [a] := by rw [hz]; rfl
    have h2 : (a :: l).drop C.sz = l := by rw [hz]; rfl
    simp only [List.length_cons, xk, h1, h2, abw C hz fr h l]
    rfl
theorem u9 {α : Type} (C : c7 α) (hz : C.sz = 1) (fr h n cells k st et) (hn : n = cells.length) : nb C fr h 0 n (.row cells k st et) = pa C fr h cells := by
  subst hn
  simp only [nb, hz, Nat.mul_one, Nat.zero_add, Nat.ble_self_eq_true, cond_true, List.drop_zero, List.take_length]
  exact abw C hz fr h cells
theorem Dk {α : Type} (C : c7 α) (hz : C.sz = 1) (ha : C.agg = false) (fr h f) (hf : fr = true → f = true) : ∀ l : List α, pa C fr h (l.map (C.val f)) = some l
  | [] => rfl
  | x :: l => by
    obtain ⟨c, h1, _⟩ := C.one ha f x
    have hv : C.val f x = c := by simp [c7.val, ha, h1]
    have hd := C.rt fr h f x hf
    rw [h1] at hd
    rw [List.map_cons, D8, Dk C hz ha fr h f hf l, hv, hd]; rfl
theorem ab0 {α β : Type} (f : α → β) (l : List α) (n : Nat) : (l.map f).take n = (l.take n).map f := List.map_take.symm
theorem Z6 {α β : Type} (f : α → β) (l : List α) (n : Nat) : (l.map f).drop n = (l.drop n).map f := List.map_drop.symm
theorem C8 {α β : Type} (f : α → β) (l : List α) : (l.map f).isEmpty = l.isEmpty := by cases l <;> rfl
theorem Ef {α : Type} (l : List α) (x : α) : (l ++ [x]).isEmpty = false := by cases l <;> rfl
theorem Fg (a b : List AV) : AV.names.go (a ++ b) = AV.names.go a ++ AV.names.go b := by
  induction a with
  | nil => rfl
  | cons x a ih => simp only [List.cons_append, AV.names.go, ih, List.append_assoc]
theorem rtT {α : Type} (C : c7 α) (h : Tr ba) (x : α) : C.fj true h (C.val true x) = some x := C.Je true h true x (fun _ => rfl)
theorem rtF {α : Type} (C : c7 α) (h : Tr ba) (l : Bool) (x : α) : C.fj false h (C.val l x) = some x := C.Je false h l x (fun e => by cases e)
theorem Zv (s : ByteArray) : s.data.toList.length = s.size := by simp
theorem agm {α : Type} {l : List α} {n : Nat} (h : l.length ≤ n) : l.take n = l := List.take_of_length_le h
theorem aw6 {α : Type} (C : c7 α) (fr : Bool) (h : Tr ba) (x : α) : C.fj fr h (C.val fr x) = some x := C.Je fr h fr x (fun e => e)
theorem bu {a b : Nat} (h : a ≤ b) : decide (a ≤ b) = true := by simpa using h
theorem b7 {a b : Nat} (h : a < b) : decide (a < b) = true := by simpa using h
theorem bw {a b : Int} (h : a ≤ b) : decide (a ≤ b) = true := by simpa using h
theorem bz {a b : Int} (h : a < b) : decide (a < b) = true := by simpa using h
theorem ah (x : Int) (h0 : -9223372036854775808 ≤ x) (h1 : x < 9223372036854775808) : IntKind.i64.wrap x = x := by
  simp [IntKind.wrap, IntKind.bits, IntKind.signed]; omega
theorem an2 (n : Nat) : IntKind.u8.wrap (n : Int) = ((UInt8.ofNat n).toNat : Int) := by simp [IntKind.wrap, IntKind.bits, IntKind.signed]
theorem afr (n : Nat) : IntKind.u32.wrap (n : Int) = ((UInt32.ofNat n).toNat : Int) := by simp [IntKind.wrap, IntKind.bits, IntKind.signed]
theorem bf {p : Prop} [Decidable p] {X Y : SL → St → Prop} {L st} : ua (.sc (.bool (decide p))) X Y L st = ((p → X L st) ∧ (¬ p → Y L st)) := by
  by_cases h : p <;> simp [h, Fj, Gk]
theorem dc {a b : Int} {X Y : SL → St → Prop} {L st} : ua (.sc (.bool (a == b))) X Y L st = (((a == b) = true ∧ a = b → X L st) ∧ ((a == b) = false ∧ a ≠ b → Y L st)) := by
  by_cases h : a = b
  · subst h; simp [Fj]
  · have : (a == b) = false := by simpa using h
    simp [h, this, Gk]
theorem gu {a b : Int} {X Y : SL → St → Prop} {L st} : ua (.sc (.bool (a != b))) X Y L st = (((a != b) = true ∧ a ≠ b → X L st) ∧ ((a != b) = false ∧ a = b → Y L st)) := by
  by_cases h : a = b
  · subst h; simp [Gk]
  · have : (a != b) = true := by simpa using h
    simp [h, this, Fj]
theorem Wo (P : Program) (T : dy) (ρ : Operand → AV) (d ty pos af gd) (x ts) : eg P T ⟨d, .call { callee := .builtin .cap, args := #[x], argTypes := ts }, ty, pos, af, gd⟩ ρ = mono (z2 ((ts[0]?).bind P.underlying) (ρ x)) := id rfl
theorem V3 (e a n c) : z2 (some (.slice e)) (.sc (.slice a n c)) = M.pure (.sc (goInt c)) := id rfl
def aom (P : Program) (q : Option (Nat × Nat × Nat)) (s x : AV) : M AV :=
  match q with
  | some (e, sz, bytes) =>
    match B9 P e sz x with
    | some new => m4 e sz bytes s new
    | none => M.fail
  | none => M.fail
theorem amt (P : Program) (e sz bytes s x) : aom P (some (e, sz, bytes)) s x = match B9 P e sz x with | some new => m4 e sz bytes s new | none => M.fail := id rfl
theorem Rg (P : Program) (t : TypeId) (k : IntKind) (s x : AV) : me P (some t) (some (.int k)) s x = aom P (A9 P t) s x := by
  unfold me aom A9
  simp only [Option.bind_some]
  cases nr P t with
  | none => rfl
  | some e =>
    simp only
    cases c8 P e with
    | none => rfl
    | some sz =>
      cases jm P e with
      | none => rfl
      | some bytes =>
        cases ec P e with
        | none => rfl
        | some z =>
          simp only
          cases (Nat.blt 0 sz && Nat.blt 0 bytes && Nat.beq z.cells.size sz) <;> rfl
def Yz (z : Option Value) (sz : Nat) (n : Int) : Option (List AV) :=
  match z with
  | some z => bif decide (0 ≤ n) && decide (n ≤ 1073741824) && Nat.beq z.cells.size sz then some ((List.replicate n.toNat (z.cells.toList.map AV.sc)).flatten) else none
  | none => none
theorem aa8 (z sz n) : Yz (some z) sz n = bif decide (0 ≤ n) && decide (n ≤ 1073741824) && Nat.beq z.cells.size sz then some ((List.replicate n.toNat (z.cells.toList.map AV.sc)).flatten) else none := id rfl
theorem W0 (P : Program) (e sz : Nat) (k : IntKind) (n : Int) : B9 P e sz (.sc (.int k n)) = Yz (ec P e) sz n := by
  simp only [B9, Yz, vk, AV.int, AV.exact, Option.bind_some, intOf, Option.map_some]
  cases ec P e <;> rfl
theorem ag9 {α : Type} (n : Nat) (x : α) : (List.replicate n [x]).flatten = List.replicate n x := by
  induction n with
  | zero => rfl
  | succ n ih => simp [List.replicate_succ, ih]
theorem Ns {α : Type} {n : Nat} {x : α} (h : 0 < n) : (List.replicate n x).isEmpty = false := by
  cases n with
  | zero => omega
  | succ n => rfl
theorem nc0 : ((0 : Nat) : Int) = 0 := id rfl
theorem nc1 : ((1 : Nat) : Int) = 1 := id rfl
theorem ann (n : Nat) : List.replicate n (AV.sc (.int .u8 0)) = (List.replicate n (0 : UInt8)).map (cj.val false) := by rw [List.map_replicate]; rfl
def aj8 (P : Program) (u : Option TypeDesc) (x hi : AV) (m : M AV) : M AV :=
  match u with
  | some (.slice e) =>
    match c8 P e with
    | some _ =>
      match x with
      | .sc (.slice none 0 0) =>
        match hi with
        | .sc (.int .i64 0) => M.pure (.sc (.slice none 0 0))
        | _ => m
      | _ => m
    | none => m
  | _ => m
theorem anm (P : Program) (e m) (h : (c8 P e).isSome = true) : aj8 P (some (.slice e)) (.sc (.slice none 0 0)) (.sc (.int .i64 0)) m = M.pure (.sc (.slice none 0 0)) := by
  obtain ⟨n, hn⟩ := Option.isSome_iff_exists.1 h
  simp only [aj8, hn]
theorem Dq (P : Program) (ρ : Operand → AV) (d ty pos af gd) (t : TypeId) (x h : Operand) : g6 P ρ ⟨d, .slice t x none (some h) none, ty, pos, af, gd⟩ (.slice t x none (some h) none : Op).operands.toList = aj8 P (P.underlying t) (ρ x) (ρ h) (afn P ρ ⟨d, .slice t x none (some h) none, ty, pos, af, gd⟩ (.slice t x none (some h) none : Op).operands.toList) := by
  unfold aj8
  split
  · rename_i e hu
    split
    · rename_i n hn
      split
      · rename_i hx
        split
        · rename_i hh
          have h2 : execOp (fun z => ((ρ z).fk).getD undef) ⟨d, .slice t x none (some h) none, ty, pos, af, gd⟩ = (do pure (Next.value (← Instr.sliceAt t (.slice none 0 0) none (some (.int .i64 0)) none))) := by
            simp only [execOp, hx, hh, AV.fk, Option.getD_some, Option.map_some, Option.map_none]
          have hi : ∃ i, P.info? e = some i := by
            unfold c8 at hn
            cases hq : P.info? e with
            | none => rw [hq] at hn; cases hn
            | some i => exact ⟨i, rfl⟩
          obtain ⟨i, hi⟩ := hi
          have h3 : ev P (Instr.sliceAt t (.slice none 0 0) none (some (.int .i64 0)) none) = some (.slice none 0 0) := by
            simp [Instr.sliceAt, Instr.slice, Instr.sliceBounds, Instr.sliceBound, asIntOf, underlying, program, ev, hu, sizeOf, typeInfo, hi, bind, Sem.bind, pure]
          unfold g6 kq ry
          simp only [Op.operands]
          simp [hx, hh, AV.fk]
          rw [h2, Tn, h3]
          rfl
        · rfl
      · rfl
    · rfl
  · rfl
def ao1 {α : Type} (o sz : Nat) (l : List α) : AV := bif l.isEmpty then .sc (.slice none 0 0) else .sl o 0 l.length sz
def aht (cells : List AV) (k st : Nat) (et : TypeId) : List (Option ba) := bif cells.isEmpty then [] else [some (.row cells k st et)]
theorem amo {α : Type} {o sz} {l : List α} (h : l.isEmpty = false) : ao1 o sz l = .sl o 0 l.length sz := by simp [ao1, h]
theorem U0 {α : Type} (o sz) (l : List α) (c : α) : ao1 o sz (l ++ [c]) = .sl o 0 (l.length + 1) sz := by rw [amo (Ef l c)]; simp
theorem am4 {cells : List AV} {k st et} (h : cells.isEmpty = false) : aht cells k st et = [some (.row cells k st et)] := by simp [aht, h]
theorem aol {α : Type} {f : α → AV} {l : List α} {k st et} (h : l.isEmpty = false) : aht (l.map f) k st et = [some (.row (l.map f) k st et)] := am4 (by rw [C8, h])
theorem Vd {α : Type} (f : α → AV) (l : List α) (c : α) (k st et) : aht ((l ++ [c]).map f) k st et = [some (.row (l.map f ++ [f c]) k st et)] := by rw [aol (Ef l c)]; simp
theorem di {α : Type} {l : List α} {i : Nat} (h : decide ((i : Int) < (l.length : Int)) = true) : ∃ c, l[i]? = some c ∧ l.drop i = c :: l.drop (i + 1) ∧ i < l.length := by
  have h1 : i < l.length := by simp at h; omega
  exact ⟨l[i], List.getElem?_eq_getElem h1, List.drop_eq_getElem_cons h1, h1⟩
theorem du {α : Type} {l : List α} {i : Nat} (h : decide ((i : Int) < (l.length : Int)) = false) : l.drop i = [] := by
  have h1 : ¬ i < l.length := by simp at h; omega
  exact List.drop_eq_nil_of_le (by omega)
def z4 (D : List Nat) : Nat → List (Option ba) → List (Option ba)
  | _, [] => []
  | i, x :: r => (bif we i D then x else none) :: z4 D (i + 1) r
def Bg (D : List Nat) : Nat → List (Option ba) → List (Option ba)
  | _, [] => []
  | i, x :: r => (bif we i D then none else x) :: Bg D (i + 1) r
theorem W7 (D) : ∀ (i : Nat) (os : List (Option ba)), (z4 D i os).length = os.length
  | _, [] => rfl
  | i, x :: r => by simp [z4, W7 D (i + 1) r]
theorem Le (D) : ∀ (i : Nat) (os : List (Option ba)), (Bg D i os).length = os.length
  | _, [] => rfl
  | i, x :: r => by simp [Bg, Le D (i + 1) r]
theorem Vh (D) : ∀ (os : List (Option ba)) (i j : Nat), ((z4 D i os)[j]?).join = if (i + j) ∈ D then (os[j]?).join else none
  | [], i, j => by simp [z4]
  | x :: r, i, 0 => by
    simp only [z4, List.getElem?_cons_zero, Option.join_some, Nat.add_zero]
    cases hb : we i D with
    | true => rw [if_pos ((sk i D).1 hb)]; rfl
    | false => rw [if_neg (fun h => by rw [(sk i D).2 h] at hb; cases hb)]; rfl
  | x :: r, i, j + 1 => by
    simp only [z4, List.getElem?_cons_succ]
    rw [Vh D r (i + 1) j, show i + 1 + j = i + (j + 1) from by omega]
theorem Wc (D) : ∀ (os : List (Option ba)) (i j : Nat), ((Bg D i os)[j]?).join = if (i + j) ∈ D then none else (os[j]?).join
  | [], i, j => by simp [Bg]
  | x :: r, i, 0 => by
    simp only [Bg, List.getElem?_cons_zero, Option.join_some, Nat.add_zero]
    cases hb : we i D with
    | true => rw [if_pos ((sk i D).1 hb)]; rfl
    | false => rw [if_neg (fun h => by rw [(sk i D).2 h] at hb; cases hb)]; rfl
  | x :: r, i, j + 1 => by
    simp only [Bg, List.getElem?_cons_succ]
    rw [Wc D r (i + 1) j, show i + 1 + j = i + (j + 1) from by omega]
theorem Tp (os : List (Option ba)) (h : os.length ≤ cp) (o : Nat) : (bp os).h.get o = (os[o]?).join := by
  simp only [bp]
  rw [uu _ _ _ (by omega), if_pos (Nat.zero_le _), Nat.sub_zero]
inductive jl (h : Tr ba) : AV → AV → Prop
  | same (a : AV) : jl h a a
  | data {α : Type} (C : c7 α) (fr : Bool) (x : α) (a : AV) (hd : C.fj fr h a = some x) : jl h a (C.val fr x)
  | bad (a : AV) : jl h a .bad
  | nil (o off sz : Nat) : jl h (.sc (.slice none 0 0)) (.sl o off 0 sz)
  | x8 (loc : Bool) (sz : Nat) : jl h (.sc (.slice none 0 0)) (.vl loc sz [])
inductive jb (h : Tr ba) : List AV → List AV → Prop
  | nil : jb h [] []
  | cons {a b : AV} {l m : List AV} (h1 : jl h a b) (h2 : jb h l m) : jb h (a :: l) (b :: m)
theorem jb.len {h l m} (hl : jb h l m) : m.length = l.length := by
  induction hl with
  | nil => rfl
  | cons _ _ ih => simp [ih]
theorem jb.get {h l m} (hl : jb h l m) : ∀ (i : Nat) b, m[i]? = some b → ∃ a, l[i]? = some a ∧ jl h a b := by
  induction hl with
  | nil => intro i b hb; simp at hb
  | cons h1 h2 ih =>
    intro i b hb
    cases i with
    | zero => simp at hb; subst hb; exact ⟨_, rfl, h1⟩
    | succ i => exact ih i b (by simpa using hb)
inductive dm (h : Tr ba) : List (Option ba) → List (Option ba) → Prop
  | nil : dm h [] []
  | ghost {st et m} (h2 : dm h [] m) : dm h [] (some (.row [] 0 st et) :: m)
  | same {x l m} (h2 : dm h l m) : dm h (x :: l) (x :: m)
  | gone {x l m} (h2 : dm h l m) : dm h (x :: l) (none :: m)
  | row {cells cells' k st et l m} (h1 : jb h cells cells') (h2 : dm h l m) : dm h (some (.row cells k st et) :: l) (some (.row cells' k st et) :: m)
theorem dm.refl (h) : ∀ l, dm h l l
  | [] => .nil
  | x :: l => .same (dm.refl h l)
theorem dm.len {h l m} (hl : dm h l m) : l.length ≤ m.length := by induction hl <;> simp_all
theorem dm.get {h l m} (hl : dm h l m) : ∀ (i : Nat) y, (m[i]?).join = some y → (l[i]?).join = some y ∨ (∃ cells cells' k st et, y = .row cells' k st et ∧ (l[i]?).join = some (.row cells k st et) ∧ jb h cells cells') ∨ (l.length ≤ i ∧ y7 y) := by
  induction hl with
  | nil => intro i y hy; simp at hy
  | @ghost st et m h2 ih =>
    intro i y hy
    cases i with
    | zero => simp at hy; subst hy; exact .inr (.inr ⟨Nat.le_refl _, st, et, rfl⟩)
    | succ i => exact .inr (.inr ⟨Nat.zero_le _, (by
        rcases ih i y (by simpa using hy) with h | ⟨_, _, _, _, _, _, h, _⟩ | h
        · simp at h
        · simp at h
        · exact h.2)⟩)
  | same h2 ih =>
    intro i y hy
    cases i with
    | zero => exact .inl hy
    | succ i => exact (ih i y (by simpa using hy)).imp id (Or.imp id (fun h => ⟨Nat.succ_le_succ h.1, h.2⟩))
  | gone h2 ih =>
    intro i y hy
    cases i with
    | zero => simp at hy
    | succ i => exact (ih i y (by simpa using hy)).imp id (Or.imp id (fun h => ⟨Nat.succ_le_succ h.1, h.2⟩))
  | row h1 h2 ih =>
    intro i y hy
    cases i with
    | zero => simp at hy; subst hy; exact .inr (.inl ⟨_, _, _, _, _, rfl, rfl, h1⟩)
    | succ i => exact (ih i y (by simpa using hy)).imp id (Or.imp id (fun h => ⟨Nat.succ_le_succ h.1, h.2⟩))
theorem tr.lax {vs vs' : List AV} {os os' : List (Option ba)} {az : Nat} (D : List Nat) (hlen' : os'.length ≤ cp) (hv : jb (bp (z4 D 0 os)).h vs vs') (ho : dm (bp (z4 D 0 os)).h (Bg D 0 os) os') : tr az vs os vs' os' := by
  have holen : os.length ≤ os'.length := by have := ho.len; rw [Le] at this; exact this
  have hlen : os.length ≤ cp := Nat.le_trans holen hlen'
  refine ⟨hv.len, fun q => Nat.le_trans q holen, fun g w us hok hfree hr => ?_⟩
  obtain ⟨hD, ehD⟩ : ∃ hD, (bp (z4 D 0 os)).h = hD := ⟨_, rfl⟩
  rw [ehD] at hv ho
  have cw : ∀ o, (bp os).h.get o = (os[o]?).join := Tp os hlen
  have hgetD : ∀ o, hD.get o = if o ∈ D then (os[o]?).join else none := fun o => by
    rw [← ehD, Tp _ (by rw [W7]; exact hlen), Vh, Nat.zero_add]
  have hget' : ∀ o y, (bp os').h.get o = some y → (o ∉ D ∧ ((bp os).h.get o = some y ∨ ∃ cells cells' k st et, y = .row cells' k st et ∧ (bp os).h.get o = some (.row cells k st et) ∧ jb hD cells cells')) ∨ (os.length ≤ o ∧ y7 y) := fun o y hy => by
    rw [Tp _ hlen'] at hy
    have hmid : ∀ z, ((Bg D 0 os)[o]?).join = some z → o ∉ D ∧ (os[o]?).join = some z := fun z hz => by
      rw [Wc, Nat.zero_add] at hz
      by_cases hd : o ∈ D
      · rw [if_pos hd] at hz; cases hz
      · rw [if_neg hd] at hz; exact ⟨hd, hz⟩
    rw [cw]
    rcases ho.get o y hy with h1 | ⟨cells, cells', k, st, et, h1, h2, h3⟩ | h1
    · exact .inl ⟨(hmid _ h1).1, .inl (hmid _ h1).2⟩
    · exact .inl ⟨(hmid _ h2).1, .inr ⟨cells, cells', k, st, et, h1, (hmid _ h2).2, h3⟩⟩
    · rw [Le] at h1; exact .inr h1
  have hsub : ∀ o x, hD.get o = some x → o ∈ D ∧ (bp os).h.get o = some x := fun o x hx => by
    rw [hgetD] at hx
    by_cases hd : o ∈ D
    · rw [if_pos hd] at hx; rw [cw]; exact ⟨hd, hx⟩
    · rw [if_neg hd] at hx; cases hx
  have hokD : Ok g hD w := hok.part (fun o x hx => (hsub o x hx).2)
  obtain ⟨K', eK⟩ : ∃ K' : Nat → Nat → Prop, (fun b j => g.K b j ∨ ∃ o base cells k s e, hD.get o = some (.row cells k s e) ∧ g.inj o = some (b, base) ∧ ∃ i, i < cells.length ∧ j = base + i) = K' := ⟨_, rfl⟩
  have hK' : ∀ b j, K' b j ↔ (g.K b j ∨ ∃ o base cells k s e, hD.get o = some (.row cells k s e) ∧ g.inj o = some (b, base) ∧ ∃ i, i < cells.length ∧ j = base + i) := fun b j => by rw [← eK]
  have hlend : qc g hD K' := ⟨fun b j h => (hK' b j).2 (.inl h), fun o cells k s e h b base hi j hj => (hK' _ _).2 (.inr ⟨o, base, cells, k, s, e, h, hi, j, hj, rfl⟩)⟩
  have hlax : ∀ {a b : AV} {v : Value}, jl hD a b → Rel g w a v → Rel { g with K := K' } w b v := fun {a b v} hl hrel => by
    have hup : Rel { g with K := K' } w a v := Rel.ext (g := g) (w := w) (g' := { g with K := K' }) (w' := w) ⟨rfl, fun _ _ h => h, fun b j h => (hK' b j).2 (.inl h), fun _ _ _ => rfl, fun b cs e fr h => ⟨cs, fr, h, rfl⟩, fun b l h => ⟨l, h⟩⟩ hrel
    cases hl with
    | same => exact hup
    | data C fr x a hd => exact (C.Vl hokD hlend (fun _ => Nat.le_refl g.b0) hrel hd).lift (Nat.le_refl _) (fun _ _ h => h)
    | bad => exact .bad _
    | nil o off sz => obtain rfl := hup.exact rfl; exact .u4 _ _ _
    | x8 loc sz => obtain rfl := hup.exact rfl; exact .jh _ _
  refine ⟨{ g with K := K' }, ⟨hok.size, fun o y hy => ?_, fun o o' x x' b base base' hne hx hx' hb hb' => ?_, fun b j hk => ?_⟩, ⟨by rw [hv.len]; exact hr.1, fun i b v hb hv' => ?_⟩, rfl, fun o q => hfree o (Nat.le_trans holen q), fun _ _ => rfl, fun b j h => (hK' b j).2 (.inl h), fun o b base ho' hi' => ?_, fun b j hk => ?_⟩
  · rcases hget' o y hy with ⟨hnd, hy⟩ | ⟨hge, hgh⟩
    case inr => exact .inl ⟨hfree o hge, hgh⟩
    have hKo : ∀ b base, g.inj o = some (b, base) → ((bp os).h.get o).isSome = true → ∀ j, K' b j → g.K b j := fun b base hi hs j hk => by
      rcases (hK' b j).1 hk with h | ⟨o2, base2, cells, k, s, e, h1, h2, _⟩
      · exact h
      · exfalso
        obtain ⟨hd2, h1'⟩ := hsub o2 _ h1
        obtain ⟨x, hx⟩ := Option.isSome_iff_exists.1 hs
        exact hok.sep o o2 x _ b base base2 (fun e => hnd (by rw [e]; exact hd2)) hx h1' hi h2
    have hext : Ext g w { g with K := K' } w := ⟨rfl, fun _ _ h => h, fun b j h => (hK' b j).2 (.inl h), fun _ _ _ => rfl, fun b cs e fr h => ⟨cs, fr, h, rfl⟩, fun b l h => ⟨l, h⟩⟩
    rcases hy with hy | ⟨cells, cells', k, st, et, rfl, hy, hcl⟩
    · refine (hok.lz o y hy).imp id ?_
      rintro ⟨b, base, h1, h2, h3⟩
      exact ⟨b, base, h1, h2, h3.ext hext rfl (fun j hj => hKo b base h1 (by rw [hy]; rfl) j hj)⟩
    · refine (hok.lz o _ hy).imp (fun q => ⟨q.1, by
        obtain ⟨s0, e0, he⟩ := q.2
        simp only [ba.row.injEq] at he
        obtain ⟨rfl, rfl, rfl, rfl⟩ := he
        cases hcl
        exact ⟨_, _, rfl⟩⟩) ?_
      rintro ⟨b, base, h1, h2, cs, fr, r1, r2, r3, r4, r5, r6, r7⟩
      refine ⟨b, base, h1, h2, cs, fr, r1, by rw [hcl.len]; exact r2, fun j c hc => ?_, r4, fun j hj => r5 j (hKo b base h1 (by rw [hy]; rfl) j hj), r6, fun e => by rw [hcl.len]; exact r7 e⟩
      obtain ⟨a, ha, hla⟩ := hcl.get j c hc
      obtain ⟨u, hu, hru⟩ := r3 j a ha
      exact ⟨u, hu, hlax hla hru⟩
  · have q : ∀ o y p, (bp os').h.get o = some y → g.inj o = some p → ∃ z, (bp os).h.get o = some z := fun o y p hy hp => by
      rcases hget' o y hy with ⟨_, h | ⟨_, _, _, _, _, _, h, _⟩⟩ | ⟨h, _⟩
      · exact ⟨_, h⟩
      · exact ⟨_, h⟩
      · rw [hfree o h] at hp; cases hp
    obtain ⟨z, hz⟩ := q o x _ hx hb
    obtain ⟨z', hz'⟩ := q o' x' _ hx' hb'
    exact hok.sep o o' z z' b base base' hne hz hz' hb hb'
  · rcases (hK' b j).1 hk with h | ⟨o, base, cells, k, s, e, h1, h2, _⟩
    · exact hok.K b j h
    · obtain ⟨b', base', h3, _, h4⟩ := hokD.obj o _ h1
      rw [h2] at h3; cases h3
      exact h4.lt
  · obtain ⟨a, ha, hla⟩ := hv.get i b hb
    exact hlax hla (hr.2 i a v ha hv')
  · obtain ⟨y, hy⟩ := Option.isSome_iff_exists.1 ho'
    rcases hget' o y hy with ⟨_, h | ⟨_, _, _, _, _, _, h, _⟩⟩ | ⟨h, _⟩
    · exact ⟨o, base, by rw [h]; rfl, hi'⟩
    · exact ⟨o, base, by rw [h]; rfl, hi'⟩
    · have : g.inj o = some (b, base) := hi'
      rw [hfree o h] at this; cases this
  · rcases (hK' b j).1 hk with h | ⟨o, base, cells, k, s, e, h1, h2, _⟩
    · exact .inl h
    · exact .inr ⟨o, base, by rw [(hsub o _ h1).2]; rfl, h2⟩
theorem anb {α : Type} {P : Program} {T : dy} {az : Nat} {b : Code} {Q : QL} {L : SL} {st : St} (keep : List Nat) (V : α → List AV) (O : α → List (Option ba)) (I : α → Prop) (μ : α → Nat) (x : α) (hx : I x)
    (hv : tr az (jo az keep L st) (fo az keep L st) (V x) (O x))
    (step : ∀ x, I x → wl P T az b (v5 az keep (fun vs os => ∃ y, I y ∧ μ y < μ x ∧ tr az vs os (V y) (O y)) Q) (l5 keep (V x)) (bp (O x))) : qp az (wl P T az b) Q L st :=
  qp.ap5 keep V O I μ x hx hv (fun _ _ h => Fb b _ _ h) step
theorem nd {α : Type} {P : Program} {T : dy} {az : Nat} {b : Code} {Q : QL} {L : SL} {st : St} (keep : List Nat) (V : α → List AV) (O : α → List (Option ba)) (I : α → Prop) (μ : α → Nat) (x : α) (hx : I x)
    (hv : tr az (jo az keep L st) (fo az keep L st) (V x) (O x))
    (step : ∀ x, I x → wl P T az b (v5 az keep (fun vs os => ∃ y, I y ∧ μ y < μ x ∧ vs = V y ∧ os = O y) Q) (l5 keep (V x)) (bp (O x))) : qp az (wl P T az b) Q L st :=
  anb keep V O I μ x hx hv (fun x hi => Fb b _ _ (fun e L' st' hq => by
    cases e with
    | normal =>
      obtain ⟨y, h1, h2, h3, h4⟩ := hq
      refine ⟨y, h1, h2, ?_⟩
      rw [h3, h4]; exact .refl _ _ _
    | exit id => exact hq
    | ret => exact hq) _ _ (step x hi))
theorem Fa (f) (l) : (List.map (an.val f) l).flatMap AV.cells = l.map (an.val f) := Ge an f rfl rfl l
theorem Rl (f) (l) : (List.map (an.val f) l).all AV.one = true := by rw [← Fa f l, G7]; exact Aa _ _ _
theorem Hy (fr h n cells k st et) (hn : n = cells.length) : nb an fr h 0 n (.row cells k st et) = pa an fr h cells := u9 an rfl fr h n cells k st et hn
theorem Nw (fr h f) (l) : pa an fr h (List.map (an.val f) l) = some l := by
  have e : List.map (an.val f) l = List.map (an.val true) l := by cases f <;> rfl
  rw [e]; exact Dk an rfl rfl fr h true (fun _ => rfl) l
theorem Hb (f) (l) : (List.map (cj.val f) l).flatMap AV.cells = l.map (cj.val f) := Ge cj f rfl rfl l
theorem Wi (f) (l) : (List.map (cj.val f) l).all AV.one = true := by rw [← Hb f l, G7]; exact Aa _ _ _
theorem J9 (fr h n cells k st et) (hn : n = cells.length) : nb cj fr h 0 n (.row cells k st et) = pa cj fr h cells := u9 cj rfl fr h n cells k st et hn
theorem S7 (fr h f) (l) : pa cj fr h (List.map (cj.val f) l) = some l := by
  have e : List.map (cj.val f) l = List.map (cj.val true) l := by cases f <;> rfl
  rw [e]; exact Dk cj rfl rfl fr h true (fun _ => rfl) l
theorem E5 (f) (l) : (List.map (be.val f) l).flatMap AV.cells = l.map (be.val f) := Ge be f rfl rfl l
theorem P4 (f) (l) : (List.map (be.val f) l).all AV.one = true := by rw [← E5 f l, G7]; exact Aa _ _ _
theorem Ij (fr h n cells k st et) (hn : n = cells.length) : nb be fr h 0 n (.row cells k st et) = pa be fr h cells := u9 be rfl fr h n cells k st et hn
theorem Mv (fr h f) (l) : pa be fr h (List.map (be.val f) l) = some l := by
  have e : List.map (be.val f) l = List.map (be.val true) l := by cases f <;> rfl
  rw [e]; exact Dk be rfl rfl fr h true (fun _ => rfl) l
theorem C2 (f) (l) : (List.map (ay.val f) l).flatMap AV.cells = l.map (ay.val f) := Ge ay f rfl rfl l
theorem Nr (f) (l) : (List.map (ay.val f) l).all AV.one = true := by rw [← C2 f l, G7]; exact Aa _ _ _
theorem Gl (fr h n cells k st et) (hn : n = cells.length) : nb ay fr h 0 n (.row cells k st et) = pa ay fr h cells := u9 ay rfl fr h n cells k st et hn
theorem Ko (fr h f) (l) (hf : (f || !fr) = true) : pa ay fr h (List.map (ay.val f) l) = some l := Dk ay rfl rfl fr h f (fun e => by subst e; simpa using hf) l
theorem I6 (fr h l n xs) (hn : n = 1) (hl : (l || !fr) = true) : fy an fr h (.vl l n (xs.map (an.val false))) = some xs := by
  cases l with
  | true => exact vi an fr h true xs n hn hl
  | false => exact vi an fr h false xs n hn hl
theorem Sz : an.val true = an.val false := id rfl
theorem N5 (fr h l n xs) (hn : n = 1) (hl : (l || !fr) = true) : fy cj fr h (.vl l n (xs.map (cj.val false))) = some xs := by
  cases l with
  | true => exact vi cj fr h true xs n hn hl
  | false => exact vi cj fr h false xs n hn hl
theorem Uy : cj.val true = cj.val false := id rfl
theorem I4 (fr h l n xs) (hn : n = 1) (hl : (l || !fr) = true) : fy be fr h (.vl l n (xs.map (be.val false))) = some xs := by
  cases l with
  | true => exact vi be fr h true xs n hn hl
  | false => exact vi be fr h false xs n hn hl
theorem P9 : be.val true = be.val false := id rfl
theorem Vn (fr h) (c : UInt8) : cj.dec fr h [.sc (.int .u8 c.toNat)] = some c := cj.rt fr h true c (fun _ => rfl)
theorem S9 (fr h) (c : UInt16) : c9.dec fr h [.sc (.int .u16 c.toNat)] = some c := c9.rt fr h true c (fun _ => rfl)
theorem S6 (fr h) (c : UInt32) : be.dec fr h [.sc (.int .u32 c.toNat)] = some c := be.rt fr h true c (fun _ => rfl)
theorem W6 (a b : List AV) : AV.fresh.go (a ++ b) = (AV.fresh.go a && AV.fresh.go b) := by
  induction a with
  | nil => rfl
  | cons x a ih => simp only [List.cons_append, AV.fresh.go, ih, Bool.and_assoc]
theorem adl (f) (l : List UInt8) : AV.fresh.go (l.map (cj.val f)) = true := by
  induction l with
  | nil => rfl
  | cons x l ih => simp only [List.map_cons, AV.fresh.go, ih]; rfl
theorem M9 (f) (c : Name) : (ay.val f c).one = true := id rfl
theorem Ih (f) (c : Name) : (ay.val f c).cells = [ay.val f c] := id rfl
theorem Vy (fr h a) : (cq cj).dec fr h [a] = fy cj fr h a := id rfl
theorem J8 (fr h n cells k st et) (hn : n = cells.length) : nb (cq cj) fr h 0 n (.row cells k st et) = pa (cq cj) fr h cells := u9 (cq cj) rfl fr h n cells k st et hn
end
end Go.Vm
end
section
set_option linter.unusedVariables false
set_option maxRecDepth 4000
namespace Go.Vm
theorem wR : type_of% @agf ∧ type_of% @Vs ∧ type_of% @alj ∧ type_of% @afv ∧ type_of% @Z0 ∧ type_of% @af9 ∧ type_of% @afi ∧ type_of% @amh ∧ type_of% @akw ∧ type_of% @ak5 ∧ type_of% @ak3 ∧ type_of% @amq ∧ type_of% @amr ∧ type_of% @alz ∧ type_of% @ag8 ∧ type_of% @agw ∧ type_of% @aga ∧ type_of% @ake ∧ type_of% @akp ∧ type_of% @Wr ∧ type_of% @Y1 ∧ type_of% @U9 ∧ type_of% @P6 ∧ type_of% @Q7 ∧ type_of% @Yp ∧ type_of% @aa0 ∧ type_of% @aai ∧ type_of% @agc ∧ type_of% @aao ∧ type_of% @aad ∧ type_of% @V8 ∧ type_of% @Yj ∧ type_of% @V9 ∧ type_of% @Ve ∧ type_of% @aas ∧ type_of% @V7 ∧ type_of% @Wa ∧ type_of% @amy ∧ type_of% @Fj ∧ type_of% @Gk ∧ type_of% @abh ∧ type_of% @ack ∧ type_of% @P1 ∧ type_of% @agy ∧ type_of% @abt ∧ type_of% @Vk ∧ type_of% @Y8 ∧ type_of% @af3 ∧ type_of% @al1 ∧ type_of% @ano ∧ type_of% @ant ∧ type_of% @ak7 ∧ type_of% @akb ∧ type_of% @ana ∧ type_of% @ago ∧ type_of% @afy ∧ type_of% @afm ∧ type_of% @agh ∧ type_of% @af6 ∧ type_of% @acn ∧ type_of% @Vp ∧ type_of% @Td ∧ type_of% @Rn ∧ type_of% @adf ∧ type_of% @af2 ∧ type_of% @aha ∧ type_of% @Rp ∧ type_of% @amp ∧ type_of% @alp ∧ type_of% @ac9 ∧ type_of% @aaj ∧ type_of% @af7 ∧ type_of% @N1 ∧ type_of% @Kb :=
  ⟨@agf, @Vs, @alj, @afv, @Z0, @af9, @afi, @amh, @akw, @ak5, @ak3, @amq, @amr, @alz, @ag8, @agw, @aga, @ake, @akp, @Wr, @Y1, @U9, @P6, @Q7, @Yp, @aa0, @aai, @agc, @aao, @aad, @V8, @Yj, @V9, @Ve, @aas, @V7, @Wa, @amy, @Fj, @Gk, @abh, @ack, @P1, @agy, @abt, @Vk, @Y8, @af3, @al1, @ano, @ant, @ak7, @akb, @ana, @ago, @afy, @afm, @agh, @af6, @acn, @Vp, @Td, @Rn, @adf, @af2, @aha, @Rp, @amp, @alp, @ac9, @aaj, @af7, @N1, @Kb⟩
theorem R0 : type_of% @Z6 ∧ type_of% @ann ∧ type_of% @List.length_take.{0} ∧ type_of% @nc0 ∧ type_of% @nc1 ∧ type_of% @Int.sub_zero ∧ type_of% @Int.sub_self ∧ type_of% @Int.zero_add ∧ type_of% @Rg ∧ type_of% @amt ∧ type_of% @W0 ∧ type_of% @aa8 ∧ type_of% @ag9 ∧ type_of% @Ns ∧ type_of% @List.length_replicate.{0} ∧ type_of% @Wo ∧ type_of% @V3 ∧ type_of% @anm ∧ type_of% @Dq ∧ type_of% @M4 ∧ type_of% @Iz ∧ type_of% @Yo ∧ type_of% @abe ∧ type_of% @Rv ∧ type_of% @H3 ∧ type_of% @Zv ∧ type_of% @agm ∧ type_of% @an2 ∧ type_of% @afr ∧ type_of% @Pk ∧ type_of% @D8 ∧ type_of% @Ou ∧ type_of% @am9 ∧ type_of% @agq ∧ type_of% @Nw ∧ type_of% @S7 ∧ type_of% @Mv ∧ type_of% @Ko ∧ type_of% @Vn ∧ type_of% @S9 ∧ type_of% @S6 ∧ type_of% @List.length_append.{0} ∧ type_of% @rtT ∧ type_of% @rtF ∧ type_of% @Go.Vm.pq.eq_1 ∧ type_of% @Go.Vm.bounds.eq_1 ∧ type_of% @Go.Vm.Dh.eq_1 ∧ type_of% @Go.Vm.Dh.eq_2 :=
  ⟨@Z6, @ann, @List.length_take.{0}, @nc0, @nc1, @Int.sub_zero, @Int.sub_self, @Int.zero_add, @Rg, @amt, @W0, @aa8, @ag9, @Ns, @List.length_replicate.{0}, @Wo, @V3, @anm, @Dq, @M4, @Iz, @Yo, @abe, @Rv, @H3, @Zv, @agm, @an2, @afr, @Pk, @D8, @Ou, @am9, @agq, @Nw, @S7, @Mv, @Ko, @Vn, @S9, @S6, @List.length_append.{0}, @rtT, @rtF, @Go.Vm.pq.eq_1, @Go.Vm.bounds.eq_1, @Go.Vm.Dh.eq_1, @Go.Vm.Dh.eq_2⟩
theorem R1 : type_of% @Go.Vm.qz.eq_1 ∧ type_of% @Go.Vm.qw.eq_def ∧ type_of% @Go.Vm.pg.eq_def ∧ type_of% @Fg ∧ type_of% @If ∧ type_of% @Nc ∧ type_of% @Tb ∧ type_of% @Nat.div_one ∧ type_of% @Qg ∧ type_of% @Qt ∧ type_of% @aky ∧ type_of% @Na ∧ type_of% @Qu ∧ type_of% @Nd ∧ type_of% @aqj ∧ type_of% @Fa ∧ type_of% @Hb ∧ type_of% @E5 ∧ type_of% @C2 ∧ type_of% @Rl ∧ type_of% @Wi ∧ type_of% @P4 ∧ type_of% @Nr ∧ type_of% @Sz ∧ type_of% @Uy ∧ type_of% @P9 ∧ type_of% @agz ∧ type_of% @agt ∧ type_of% @Tf ∧ type_of% @afq ∧ type_of% @Fz ∧ type_of% @K2 ∧ type_of% @Option.isNone_none.{0} ∧ type_of% @Option.isNone_some.{0} ∧ type_of% @agr :=
  ⟨@Go.Vm.qz.eq_1, @Go.Vm.qw.eq_def, @Go.Vm.pg.eq_def, @Fg, @If, @Nc, @Tb, @Nat.div_one, @Qg, @Qt, @aky, @Na, @Qu, @Nd, @aqj, @Fa, @Hb, @E5, @C2, @Rl, @Wi, @P4, @Nr, @Sz, @Uy, @P9, @agz, @agt, @Tf, @afq, @Fz, @K2, @Option.isNone_none.{0}, @Option.isNone_some.{0}, @agr⟩
theorem R2 : type_of% @M9 ∧ type_of% @Ih ∧ type_of% @I6 ∧ type_of% @N5 ∧ type_of% @I4 ∧ type_of% @W6 ∧ type_of% @adl ∧ type_of% @Vy ∧ type_of% @J8 ∧ type_of% @Hy ∧ type_of% @J9 ∧ type_of% @Ij ∧ type_of% @Gl ∧ type_of% @ab0 ∧ type_of% @C8 ∧ type_of% @List.isEmpty_cons.{0} ∧ type_of% @List.isEmpty_nil.{0} ∧ type_of% @List.flatMap_nil.{0, 0} ∧ type_of% @Nj ∧ type_of% @Mt ∧ type_of% @Qc ∧ type_of% @Sr ∧ type_of% @and_true ∧ type_of% @true_and ∧ type_of% @Nk ∧ type_of% @Ob ∧ type_of% @U4 ∧ type_of% @ags ∧ type_of% @akm ∧ type_of% @and_self ∧ type_of% @List.size_toArray.{0} ∧ type_of% @Vz ∧ type_of% @Vx ∧ type_of% @Z5 ∧ type_of% @acv ∧ type_of% @Ww ∧ type_of% @Zs ∧ type_of% @Rf ∧ type_of% @aah ∧ type_of% @H0 ∧ type_of% @Wl ∧ type_of% @aa2 ∧ type_of% @Vq ∧ type_of% @Nt ∧ type_of% @H8 :=
  ⟨@M9, @Ih, @I6, @N5, @I4, @W6, @adl, @Vy, @J8, @Hy, @J9, @Ij, @Gl, @ab0, @C8, @List.isEmpty_cons.{0}, @List.isEmpty_nil.{0}, @List.flatMap_nil.{0, 0}, @Nj, @Mt, @Qc, @Sr, @and_true, @true_and, @Nk, @Ob, @U4, @ags, @akm, @and_self, @List.size_toArray.{0}, @Vz, @Vx, @Z5, @acv, @Ww, @Zs, @Rf, @aah, @H0, @Wl, @aa2, @Vq, @Nt, @H8⟩
theorem R3 : type_of% @K0 ∧ type_of% @V4 ∧ type_of% @Vv ∧ type_of% @Fp ∧ type_of% @Wu ∧ type_of% @aft ∧ type_of% @Ql ∧ type_of% @Zo ∧ type_of% @U3 ∧ type_of% @S5 ∧ type_of% @aax ∧ type_of% @Vt ∧ type_of% @Vj ∧ type_of% @Pr ∧ type_of% @Tg ∧ type_of% @M6 ∧ type_of% @aq4 ∧ type_of% @ab2 ∧ type_of% @Wk ∧ type_of% @Mr ∧ type_of% @I0 ∧ type_of% @Sh ∧ type_of% @Ti ∧ type_of% @vp ∧ type_of% @Go.Vm.cellsIn.eq_1 ∧ type_of% @Go.Vm.cellsIn.eq_2 ∧ type_of% @Go.Vm.cellsIn.eq_5 ∧ type_of% @Go.Vm.cellsIn.eq_6 ∧ type_of% @Go.Vm.wk.eq_1 ∧ type_of% @Go.Vm.yv.eq_1 ∧ type_of% @Ck ∧ type_of% @K5 ∧ type_of% @Ix ∧ type_of% @Kn ∧ type_of% @A6 ∧ type_of% @Eo ∧ type_of% @D7 ∧ type_of% @Cl ∧ type_of% @Ks ∧ type_of% @Ft ∧ type_of% @K1 ∧ type_of% @Be ∧ type_of% @Ic ∧ type_of% @Kh ∧ type_of% @Hz :=
  ⟨@K0, @V4, @Vv, @Fp, @Wu, @aft, @Ql, @Zo, @U3, @S5, @aax, @Vt, @Vj, @Pr, @Tg, @M6, @aq4, @ab2, @Wk, @Mr, @I0, @Sh, @Ti, @vp, @Go.Vm.cellsIn.eq_1, @Go.Vm.cellsIn.eq_2, @Go.Vm.cellsIn.eq_5, @Go.Vm.cellsIn.eq_6, @Go.Vm.wk.eq_1, @Go.Vm.yv.eq_1, @Ck, @K5, @Ix, @Kn, @A6, @Eo, @D7, @Cl, @Ks, @Ft, @K1, @Be, @Ic, @Kh, @Hz⟩
theorem R4 : type_of% @Bd ∧ type_of% @Ie ∧ type_of% @Kw ∧ type_of% @M0 ∧ type_of% @Jf ∧ type_of% @Wb ∧ type_of% @si ∧ type_of% @Q3 ∧ type_of% @Of ∧ type_of% @ace ∧ type_of% @vi ∧ type_of% @ag4 ∧ type_of% @Rc ∧ type_of% @Sy ∧ type_of% @Dn ∧ type_of% @U5 ∧ type_of% @S2 ∧ type_of% @Go.Vm.j3.eq_1 ∧ type_of% @List.flatten_cons.{0} ∧ type_of% @List.flatten_nil.{0} ∧ type_of% @List.replicate_succ.{0} ∧ type_of% @List.replicate_zero.{0} ∧ type_of% @Vw ∧ type_of% @W4 ∧ type_of% @amk ∧ type_of% @agi ∧ type_of% @aqu ∧ type_of% @arl ∧ type_of% @aqn ∧ type_of% @Hl ∧ type_of% @Dl ∧ type_of% @Hr ∧ type_of% @x7 ∧ type_of% @Oh :=
  ⟨@Bd, @Ie, @Kw, @M0, @Jf, @Wb, @si, @Q3, @Of, @ace, @vi, @ag4, @Rc, @Sy, @Dn, @U5, @S2, @Go.Vm.j3.eq_1, @List.flatten_cons.{0}, @List.flatten_nil.{0}, @List.replicate_succ.{0}, @List.replicate_zero.{0}, @Vw, @W4, @amk, @agi, @aqu, @arl, @aqn, @Hl, @Dl, @Hr, @x7, @Oh⟩
theorem R5 : type_of% @Hu ∧ type_of% @Es ∧ type_of% @Bb ∧ type_of% @xu ∧ type_of% @zl ∧ type_of% @N4 ∧ type_of% @U8 ∧ type_of% @E9 ∧ type_of% @wa ∧ type_of% @H7 ∧ type_of% @Fy ∧ type_of% @H6 ∧ type_of% @Mz ∧ type_of% @Nm ∧ type_of% @Kp ∧ type_of% @D5 ∧ type_of% @Kt ∧ type_of% @Dm ∧ type_of% @Rq ∧ type_of% @I8 ∧ type_of% @alm ∧ type_of% @alh ∧ type_of% @aqi ∧ type_of% @Go.IntKind.bits.eq_6 ∧ type_of% @Nat.min_def ∧ type_of% @aqy ∧ type_of% @aq2 ∧ type_of% @ara ∧ type_of% @ard ∧ type_of% @aqs ∧ type_of% @aqp ∧ type_of% @arn ∧ type_of% @arf ∧ type_of% @aqw ∧ type_of% @aql ∧ type_of% @Zh ∧ type_of% @acw ∧ type_of% @atx ∧ type_of% @auq ∧ type_of% @ah3 ∧ type_of% @Go.Vm.v7.eq_1 ∧ type_of% @Go.Vm.pn.eq_1 ∧ type_of% @Go.Vm.nw.eq_def :=
  ⟨@Hu, @Es, @Bb, @xu, @zl, @N4, @U8, @E9, @wa, @H7, @Fy, @H6, @Mz, @Nm, @Kp, @D5, @Kt, @Dm, @Rq, @I8, @alm, @alh, @aqi, @Go.IntKind.bits.eq_6, @Nat.min_def, @aqy, @aq2, @ara, @ard, @aqs, @aqp, @arn, @arf, @aqw, @aql, @Zh, @acw, @atx, @auq, @ah3, @Go.Vm.v7.eq_1, @Go.Vm.pn.eq_1, @Go.Vm.nw.eq_def⟩
theorem R6 : type_of% @Go.Vm.Da.eq_1 ∧ type_of% @Go.Vm.s8.eq_1 ∧ type_of% @Go.Vm.mi.eq_1 ∧ type_of% @Go.Vm.je.eq_1 ∧ type_of% @Go.Vm.je.eq_2 ∧ type_of% @Go.Vm.AV.known.eq_2 ∧ type_of% @Go.Value.oneCell'.eq_3 ∧ type_of% @Go.Vm.AV.cells.eq_1 ∧ type_of% @Go.Vm.AV.cells.eq_2 ∧ type_of% @Go.Vm.AV.cells.eq_3 ∧ type_of% @Go.Value.cells.eq_1 ∧ type_of% @Go.Value.cells.eq_2 ∧ type_of% @Go.Vm.AV.one.eq_4 ∧ type_of% @Go.Vm.AV.one.eq_5 ∧ type_of% @Go.Vm.js.eq_1 ∧ type_of% @Go.Vm.il.eq_1 ∧ type_of% @Go.Vm.il.eq_2 ∧ type_of% @Go.Vm.y5.eq_1 ∧ type_of% @Go.Vm.pv.eq_1 ∧ type_of% @Go.Vm.qa.eq_2 ∧ type_of% @Go.Vm.qa.eq_6 ∧ type_of% @Go.Vm.jc.eq_1 ∧ type_of% @Go.Vm.jc.eq_3 ∧ type_of% @Go.Vm.jc.eq_4 ∧ type_of% @Go.Vm.vz.eq_1 ∧ type_of% @Go.Vm.B7.eq_1 ∧ type_of% @Go.Vm.Iu.eq_1 ∧ type_of% @Go.Vm.ll.eq_1 ∧ type_of% @Go.Vm.ll.eq_2 ∧ type_of% @Go.Vm.ll.eq_3 ∧ type_of% @Go.Vm.ll.eq_4 ∧ type_of% @Go.Vm.ll.eq_5 ∧ type_of% @Go.Vm.ll.eq_6 ∧ type_of% @Go.Vm.ll.eq_7 ∧ type_of% @Go.Vm.ll.eq_8 ∧ type_of% @Go.Vm.ll.eq_9 ∧ type_of% @Go.Vm.ll.eq_10 :=
  ⟨@Go.Vm.Da.eq_1, @Go.Vm.s8.eq_1, @Go.Vm.mi.eq_1, @Go.Vm.je.eq_1, @Go.Vm.je.eq_2, @Go.Vm.AV.known.eq_2, @Go.Value.oneCell'.eq_3, @Go.Vm.AV.cells.eq_1, @Go.Vm.AV.cells.eq_2, @Go.Vm.AV.cells.eq_3, @Go.Value.cells.eq_1, @Go.Value.cells.eq_2, @Go.Vm.AV.one.eq_4, @Go.Vm.AV.one.eq_5, @Go.Vm.js.eq_1, @Go.Vm.il.eq_1, @Go.Vm.il.eq_2, @Go.Vm.y5.eq_1, @Go.Vm.pv.eq_1, @Go.Vm.qa.eq_2, @Go.Vm.qa.eq_6, @Go.Vm.jc.eq_1, @Go.Vm.jc.eq_3, @Go.Vm.jc.eq_4, @Go.Vm.vz.eq_1, @Go.Vm.B7.eq_1, @Go.Vm.Iu.eq_1, @Go.Vm.ll.eq_1, @Go.Vm.ll.eq_2, @Go.Vm.ll.eq_3, @Go.Vm.ll.eq_4, @Go.Vm.ll.eq_5, @Go.Vm.ll.eq_6, @Go.Vm.ll.eq_7, @Go.Vm.ll.eq_8, @Go.Vm.ll.eq_9, @Go.Vm.ll.eq_10⟩
theorem R7 : type_of% @Go.Vm.AV.int.eq_1 ∧ type_of% @Go.Vm.AV.bool.eq_1 ∧ type_of% @Go.Vm.AV.exact.eq_1 ∧ type_of% @Go.Vm.AV.exact.eq_2 ∧ type_of% @Go.Vm.intOf.eq_1 ∧ type_of% @Go.Vm.intOf.eq_2 ∧ type_of% @Go.Vm.nh.eq_1 ∧ type_of% @Go.Vm.jt.eq_1 ∧ type_of% @Go.Vm.tj.eq_1 ∧ type_of% @Go.Vm.tj.eq_2 ∧ type_of% @Go.Vm.vk.eq_1 ∧ type_of% @Go.Vm.A0.eq_1 ∧ type_of% @Go.Vm.nr.eq_1 ∧ type_of% @Go.Vm.nm.eq_1 ∧ type_of% @Go.Vm.nj.eq_1 ∧ type_of% @Go.Vm.nj.eq_3 ∧ type_of% @Go.Vm.nj.eq_9 ∧ type_of% @Go.Vm.Dc.eq_1 ∧ type_of% @Go.Vm.Pg.eq_1 ∧ type_of% @Go.Vm.F7.eq_1 ∧ type_of% @Go.Vm.isSlice.eq_4 ∧ type_of% @Go.Vm.Bz.eq_1 ∧ type_of% @Go.goInt.eq_1 ∧ type_of% @am1 ∧ type_of% @al8 ∧ type_of% @aks ∧ type_of% @Go.Vm.pack.eq_1 ∧ type_of% @Go.Vm.pack.eq_2 ∧ type_of% @Go.Vm.cb.eq_1 ∧ type_of% @Go.Vm.cb.eq_2 ∧ type_of% @Go.Vm.bp.eq_1 ∧ type_of% @Go.Vm.pj.eq_1 ∧ type_of% @Go.Vm.pj.eq_2 ∧ type_of% @Go.Vm.r8.eq_1 ∧ type_of% @o9 ∧ type_of% @zd ∧ type_of% @V2 ∧ type_of% @Zb ∧ type_of% @w6 ∧ type_of% @wy ∧ type_of% @Ds :=
  ⟨@Go.Vm.AV.int.eq_1, @Go.Vm.AV.bool.eq_1, @Go.Vm.AV.exact.eq_1, @Go.Vm.AV.exact.eq_2, @Go.Vm.intOf.eq_1, @Go.Vm.intOf.eq_2, @Go.Vm.nh.eq_1, @Go.Vm.jt.eq_1, @Go.Vm.tj.eq_1, @Go.Vm.tj.eq_2, @Go.Vm.vk.eq_1, @Go.Vm.A0.eq_1, @Go.Vm.nr.eq_1, @Go.Vm.nm.eq_1, @Go.Vm.nj.eq_1, @Go.Vm.nj.eq_3, @Go.Vm.nj.eq_9, @Go.Vm.Dc.eq_1, @Go.Vm.Pg.eq_1, @Go.Vm.F7.eq_1, @Go.Vm.isSlice.eq_4, @Go.Vm.Bz.eq_1, @Go.goInt.eq_1, @am1, @al8, @aks, @Go.Vm.pack.eq_1, @Go.Vm.pack.eq_2, @Go.Vm.cb.eq_1, @Go.Vm.cb.eq_2, @Go.Vm.bp.eq_1, @Go.Vm.pj.eq_1, @Go.Vm.pj.eq_2, @Go.Vm.r8.eq_1, @o9, @zd, @V2, @Zb, @w6, @wy, @Ds⟩
theorem R8 : type_of% @Sf ∧ type_of% @Qm ∧ type_of% @Qa ∧ type_of% @Mq ∧ type_of% @Qb ∧ type_of% @Go.Vm.jo.eq_1 ∧ type_of% @Go.Vm.fo.eq_1 ∧ type_of% @Go.Vm.gb.eq_1 ∧ type_of% @Go.Vm.ox.eq_1 ∧ type_of% @Go.Vm.ox.eq_2 ∧ type_of% @Go.Vm.reach.eq_2 ∧ type_of% @Go.Vm.reach.eq_3 ∧ type_of% @Go.Vm.fl.eq_1 ∧ type_of% @Go.Vm.dk.eq_1 ∧ type_of% @Go.Vm.dk.eq_2 ∧ type_of% @Go.Vm.AV.names.eq_1 ∧ type_of% @Go.Vm.AV.names.eq_2 ∧ type_of% @Go.Vm.AV.names.eq_3 ∧ type_of% @Go.Vm.AV.names.eq_4 ∧ type_of% @Go.Vm.AV.names.eq_5 ∧ type_of% @Go.Vm.AV.names.eq_6 ∧ type_of% @Go.Vm.AV.names.eq_9 ∧ type_of% @Go.Vm.AV.names.go.eq_1 ∧ type_of% @Go.Vm.AV.names.go.eq_2 ∧ type_of% @Go.Vm.ba.names.eq_1 ∧ type_of% @Go.Vm.ba.names.eq_2 ∧ type_of% @Go.Vm.AV.c0.eq_1 ∧ type_of% @Go.Vm.AV.c0.eq_2 ∧ type_of% @Go.Vm.AV.c0.eq_3 ∧ type_of% @Go.Vm.AV.c0.eq_4 ∧ type_of% @Go.Vm.AV.c0.eq_5 ∧ type_of% @Go.Vm.AV.c0.eq_6 ∧ type_of% @Go.Vm.AV.c0.eq_7 ∧ type_of% @Go.Vm.AV.c0.eq_8 ∧ type_of% @Go.Vm.AV.c0.eq_11 ∧ type_of% @Go.Vm.ba.c0.eq_1 ∧ type_of% @Go.Vm.ba.c0.eq_2 ∧ type_of% @G3 ∧ type_of% @af0 ∧ type_of% @Go.Vm.i3.eq_1 ∧ type_of% @Go.Vm.i3.eq_2 ∧ type_of% @Go.Vm.l5.eq_2 ∧ type_of% @j9 ∧ type_of% @Option.bind_some.{0, 0} ∧ type_of% @Option.bind_none.{0, 0} ∧ type_of% @Option.map_some.{0, 0} ∧ type_of% @Option.getD_some.{0} ∧ type_of% @Option.getD_none.{0} ∧ type_of% @Option.isSome_some.{0} :=
  ⟨@Sf, @Qm, @Qa, @Mq, @Qb, @Go.Vm.jo.eq_1, @Go.Vm.fo.eq_1, @Go.Vm.gb.eq_1, @Go.Vm.ox.eq_1, @Go.Vm.ox.eq_2, @Go.Vm.reach.eq_2, @Go.Vm.reach.eq_3, @Go.Vm.fl.eq_1, @Go.Vm.dk.eq_1, @Go.Vm.dk.eq_2, @Go.Vm.AV.names.eq_1, @Go.Vm.AV.names.eq_2, @Go.Vm.AV.names.eq_3, @Go.Vm.AV.names.eq_4, @Go.Vm.AV.names.eq_5, @Go.Vm.AV.names.eq_6, @Go.Vm.AV.names.eq_9, @Go.Vm.AV.names.go.eq_1, @Go.Vm.AV.names.go.eq_2, @Go.Vm.ba.names.eq_1, @Go.Vm.ba.names.eq_2, @Go.Vm.AV.c0.eq_1, @Go.Vm.AV.c0.eq_2, @Go.Vm.AV.c0.eq_3, @Go.Vm.AV.c0.eq_4, @Go.Vm.AV.c0.eq_5, @Go.Vm.AV.c0.eq_6, @Go.Vm.AV.c0.eq_7, @Go.Vm.AV.c0.eq_8, @Go.Vm.AV.c0.eq_11, @Go.Vm.ba.c0.eq_1, @Go.Vm.ba.c0.eq_2, @G3, @af0, @Go.Vm.i3.eq_1, @Go.Vm.i3.eq_2, @Go.Vm.l5.eq_2, @j9, @Option.bind_some.{0, 0}, @Option.bind_none.{0, 0}, @Option.map_some.{0, 0}, @Option.getD_some.{0}, @Option.getD_none.{0}, @Option.isSome_some.{0}⟩
theorem R9 : type_of% @List.getElem?_cons_zero.{0} ∧ type_of% @List.getElem?_toArray.{0} ∧ type_of% @Go.Vm.cp.eq_1 ∧ type_of% @List.drop_zero.{0} ∧ type_of% @List.drop_succ_cons.{0} ∧ type_of% @List.drop_nil.{0} ∧ type_of% @List.take_succ_cons.{0} ∧ type_of% @List.take_zero.{0} ∧ type_of% @List.length_cons.{0} ∧ type_of% @List.length_nil.{0} ∧ type_of% @List.length_map.{0, 0} ∧ type_of% @List.getElem?_cons_succ.{0} ∧ type_of% @List.getElem?_map.{0, 0} ∧ type_of% @List.getElem?_drop.{0} ∧ type_of% @List.map_cons.{0, 0} ∧ type_of% @List.map_nil.{0, 0} ∧ type_of% @List.nil_append.{0} ∧ type_of% @List.cons_append.{0} ∧ type_of% @List.append_nil.{0} ∧ type_of% @List.all_cons.{0} ∧ type_of% @List.all_nil.{0} ∧ type_of% @cond_true.{1} ∧ type_of% @cond_false.{1} ∧ type_of% @decide_true ∧ type_of% @decide_false ∧ type_of% @Bool.and_true ∧ type_of% @Bool.true_and ∧ type_of% @Bool.and_self ∧ type_of% @Bool.not_true ∧ type_of% @Bool.not_false ∧ type_of% @BEq.rfl.{0} ∧ type_of% @Nat.zero_le ∧ type_of% @Nat.le_refl ∧ type_of% @Nat.add_zero ∧ type_of% @Nat.zero_add ∧ type_of% @Nat.mul_one ∧ type_of% @Int.toNat_natCast ∧ type_of% @Int.natCast_nonneg ∧ type_of% @Nat.sub_self ∧ type_of% @List.contains_nil.{0} ∧ type_of% @List.contains_cons.{0} ∧ type_of% @Bool.or_false ∧ type_of% @Bool.false_or ∧ type_of% @Bool.or_true ∧ type_of% @Bool.true_or ∧ type_of% @List.map_map.{0, 0, 0} ∧ type_of% @Y0 ∧ type_of% @Lx ∧ type_of% @I7 ∧ type_of% @Kc ∧ type_of% @Wq ∧ type_of% @uv :=
  ⟨@List.getElem?_cons_zero.{0}, @List.getElem?_toArray.{0}, @Go.Vm.cp.eq_1, @List.drop_zero.{0}, @List.drop_succ_cons.{0}, @List.drop_nil.{0}, @List.take_succ_cons.{0}, @List.take_zero.{0}, @List.length_cons.{0}, @List.length_nil.{0}, @List.length_map.{0, 0}, @List.getElem?_cons_succ.{0}, @List.getElem?_map.{0, 0}, @List.getElem?_drop.{0}, @List.map_cons.{0, 0}, @List.map_nil.{0, 0}, @List.nil_append.{0}, @List.cons_append.{0}, @List.append_nil.{0}, @List.all_cons.{0}, @List.all_nil.{0}, @cond_true.{1}, @cond_false.{1}, @decide_true, @decide_false, @Bool.and_true, @Bool.true_and, @Bool.and_self, @Bool.not_true, @Bool.not_false, @BEq.rfl.{0}, @Nat.zero_le, @Nat.le_refl, @Nat.add_zero, @Nat.zero_add, @Nat.mul_one, @Int.toNat_natCast, @Int.natCast_nonneg, @Nat.sub_self, @List.contains_nil.{0}, @List.contains_cons.{0}, @Bool.or_false, @Bool.false_or, @Bool.or_true, @Bool.true_or, @List.map_map.{0, 0, 0}, @Y0, @Lx, @I7, @Kc, @Wq, @uv⟩
theorem R10 : type_of% @Sq ∧ type_of% @Nf ∧ type_of% @Qn ∧ type_of% @atw ∧ type_of% @aus ∧ type_of% @auw ∧ type_of% @ats ∧ type_of% @aua ∧ type_of% @auu ∧ type_of% @abl ∧ type_of% @Y6 ∧ type_of% @Wf ∧ type_of% @Sg ∧ type_of% @abf ∧ type_of% @Go.Vm.AV.fresh.eq_1 ∧ type_of% @Go.Vm.AV.fresh.eq_3 ∧ type_of% @Go.Vm.AV.fresh.eq_4 ∧ type_of% @Go.Vm.AV.fresh.go.eq_1 ∧ type_of% @Go.Vm.AV.fresh.go.eq_2 ∧ type_of% @List.map_append.{0, 0} :=
  ⟨@Sq, @Nf, @Qn, @atw, @aus, @auw, @ats, @aua, @auu, @abl, @Y6, @Wf, @Sg, @abf, @Go.Vm.AV.fresh.eq_1, @Go.Vm.AV.fresh.eq_3, @Go.Vm.AV.fresh.eq_4, @Go.Vm.AV.fresh.go.eq_1, @Go.Vm.AV.fresh.go.eq_2, @List.map_append.{0, 0}⟩
theorem RA : type_of% R0 ∧ type_of% R1 ∧ type_of% R2 ∧ type_of% R3 ∧ type_of% R4 ∧ type_of% R5 ∧ type_of% R6 ∧ type_of% R7 ∧ type_of% R8 ∧ type_of% R9 ∧ type_of% R10 :=
  ⟨R0, R1, R2, R3, R4, R5, R6, R7, R8, R9, R10⟩
theorem FB : type_of% @List.cons.injEq.{0} ∧ type_of% @U0 ∧ type_of% @Vd ∧ type_of% @List.length_append.{0} ∧ type_of% @List.length_cons.{0} ∧ type_of% @List.length_nil.{0} ∧ type_of% @List.map_append.{0, 0} ∧ type_of% @List.map_cons.{0, 0} ∧ type_of% @List.map_nil.{0, 0} ∧ type_of% @and_true ∧ type_of% @true_and ∧ type_of% @and_self ∧ type_of% @AV.sc.injEq ∧ type_of% @AV.sl.injEq ∧ type_of% @ba.row.injEq ∧ type_of% @Option.some.injEq.{0} ∧ type_of% @Value.int.injEq ∧ type_of% @Nat.zero_add :=
  ⟨@List.cons.injEq.{0}, @U0, @Vd, @List.length_append.{0}, @List.length_cons.{0}, @List.length_nil.{0}, @List.map_append.{0, 0}, @List.map_cons.{0, 0}, @List.map_nil.{0, 0}, @and_true, @true_and, @and_self, @AV.sc.injEq, @AV.sl.injEq, @ba.row.injEq, @Option.some.injEq.{0}, @Value.int.injEq, @Nat.zero_add⟩
end Go.Vm
end
section
namespace Go.Vm
noncomputable section
open Go.ChangeShapes Go.WideShapes Go.ChangeAt
mutual
def j6 {H : Type} : DataW H → Nat
  | .lit (.string bytes) => bytes.length + 1
  | .lit _ => 1
  | .nil => 1
  | .ptr d => j6 d + 1
  | .slice elems spare => lu elems + lu spare + 1
  | .agg parts => lu parts + 1
  | .iface _ d => j6 d + 1
  | .map entries => Se entries + 1
  | .held _ => 1
def lu {H : Type} : List (DataW H) → Nat
  | [] => 0
  | d :: r => j6 d + lu r
def Se {H : Type} : List (Lit × DataW H) → Nat
  | [] => 0
  | x :: r => ajk x + Se r
def ajk {H : Type} : Lit × DataW H → Nat
  | (.string bytes, d) => bytes.length + j6 d + 1
  | (_, d) => j6 d + 1
end
def abv (W : World) : Nat → Nat → Prop := fun b _ => b < W.heap.size
def Rd (P : Program) (t : TypeId) {α : Type} (C : c7 α) (μ : α → Nat) : Prop :=
  ∀ {H : Type} (enc : TypeId × Value → H) (W : World) (b0 fuel : Nat) (cs : List Value) (x : DataW H × List MemPlace), DataW.trod enc P W 0 (fun _ => true) true fuel t cs = some x →
    ∃ y, bj (gK b0 (abv W)) W (C.cells false y) cs ∧ μ y ≤ j6 x.1
theorem avy {P : Program} {t : TypeId} (ht : P.underlying t = some (.int .u8)) : Rd P t cj (fun _ => 1) := by
  intro H enc W b0 fuel cs x h
  obtain ⟨n, rfl, rfl, hw⟩ := DataW.trod_int ht h
  have hx : 0 ≤ n ∧ n ≤ 255 := by simpa [Lit.wf, IntKind.min, IntKind.max, IntKind.signed, IntKind.bits] using hw
  refine ⟨UInt8.ofNat n.toNat, ?_, by simp [j6]⟩
  have : n = ((UInt8.ofNat n.toNat).toNat : Int) := by rw [UInt8.toNat_ofNat']; omega
  exact bj.one (by (conv => rhs; rw [this]); exact .sc _)
theorem am3 {P : Program} {t : TypeId} (ht : P.underlying t = some (.int .u16)) : Rd P t c9 (fun _ => 1) := by
  intro H enc W b0 fuel cs x h
  obtain ⟨n, rfl, rfl, hw⟩ := DataW.trod_int ht h
  have hx : 0 ≤ n ∧ n ≤ 65535 := by simpa [Lit.wf, IntKind.min, IntKind.max, IntKind.signed, IntKind.bits] using hw
  refine ⟨UInt16.ofNat n.toNat, ?_, by simp [j6]⟩
  have : n = ((UInt16.ofNat n.toNat).toNat : Int) := by rw [UInt16.toNat_ofNat']; omega
  exact bj.one (by (conv => rhs; rw [this]); exact .sc _)
theorem anv {P : Program} {t : TypeId} (ht : P.underlying t = some (.int .u32)) : Rd P t be (fun _ => 1) := by
  intro H enc W b0 fuel cs x h
  obtain ⟨n, rfl, rfl, hw⟩ := DataW.trod_int ht h
  have hx : 0 ≤ n ∧ n ≤ 4294967295 := Go.bounds_u32 hw
  refine ⟨UInt32.ofNat n.toNat, ?_, by simp [j6]⟩
  have : n = ((UInt32.ofNat n.toNat).toNat : Int) := by rw [UInt32.toNat_ofNat']; omega
  exact bj.one (by (conv => rhs; rw [this]); exact .sc _)
theorem au9 {P : Program} {t : TypeId} (ht : P.underlying t = some .string) : Rd P t an (fun s => s.size + 1) := by
  intro H enc W b0 fuel cs x h
  obtain ⟨s, rfl, rfl, _⟩ := DataW.trod_string ht h
  refine ⟨s, bj.one (.sc _), ?_⟩
  show s.size + 1 ≤ j6 (DataW.lit (Lit.string s.data.toList))
  rw [j6, Array.length_toList]
  exact Nat.le_refl _
theorem arq (ao k s v j : Nat) (h3 : v = k * s) (hge : v ≤ j) : ao + k * s + (j - v) = ao + j := by rw [← h3]; omega
def q9 {α : Type} (μ : α → Nat) : List α → Nat
  | [] => 0
  | x :: r => μ x + q9 μ r
theorem N3 {α : Type} (μ : α → Nat) : ∀ a b : List α, q9 μ (a ++ b) = q9 μ a + q9 μ b
  | [], b => by simp [q9]
  | x :: a, b => by simp [q9, N3 μ a b]; omega
theorem Jg {H : Type} : ∀ a b : List (DataW H), lu (a ++ b) = lu a + lu b
  | [], b => by simp [lu]
  | x :: a, b => by simp [lu, Jg a b]; omega
theorem arv {P : Program} {t e : TypeId} {α : Type} {C : c7 α} {μ : α → Nat} (ht : P.underlying t = some (.slice e)) (hsz : P.cellsOf e = C.sz) (hpos : 0 < C.sz) (he : Rd P e C μ) : Rd P t (cq C) (fun l => q9 μ l + 1) := by
  intro H enc W b0 fuel cs x h
  rcases Go.Deep.open_slice ht h with ⟨rfl, rfl⟩ | ⟨a, len, cap, m, n, D, Pl, rfl, _, hl, hm, hmm, rfl, hx⟩
  · exact ⟨[], bj.one (.jh _ _), by simp [q9, j6]⟩
  · simp only [if_true] at hmm
    subst hmm
    have spot : 0 < m → a.spot = none ∧ a.block < W.heap.size := by
      intro h0
      obtain ⟨cs', h1, _⟩ := hx 0 h0
      rw [hsz] at h1
      simp only [World.cells?, Nat.zero_le, if_true] at h1
      have h2 := mapM_some_get h1 0 0 (by simp [hpos])
      have hlen := mapM_some_length h1
      have h3 : ∃ v, cs'[0]? = some v := ⟨cs'[0]'(by rw [hlen]; simpa using hpos), by simp⟩
      obtain ⟨v, hv⟩ := h3
      rw [hv] at h2
      simp only [Nat.zero_mul, Addr.add, if_true] at h2
      simp only [World.cell?] at h2
      split at h2
      · rename_i c _ _ hb
        cases hs : a.spot with
        | none => exact ⟨rfl, cf hb⟩
        | some s => simp [hs] at h2
      · cases h2
    have build : ∀ k, k ≤ len → ∃ (xs : List α) (vs : List Value), xs.length = k ∧ bj (gK b0 (abv W)) W (xs.flatMap (C.cells false)) vs ∧ vs.length = k * C.sz ∧ (∀ j v, vs[j]? = some v → W.cell? ⟨a.block, a.off + j, none⟩ = some v) ∧
        q9 μ xs ≤ lu ((List.range k).map D) := by
      intro k
      induction k with
      | zero => intro _; exact ⟨[], [], rfl, bj.nil _ _, by simp, (fun j v hj => by simp at hj), by simp [q9, lu]⟩
      | succ k ih =>
        intro hk
        obtain ⟨xs, vs, h1, h2, h3, h4, h5⟩ := ih (by omega)
        obtain ⟨cs', h6, h7⟩ := hx k (by omega)
        obtain ⟨y, h8, h9⟩ := he enc W b0 n cs' _ h7
        rw [hsz] at h6
        simp only [World.cells?, Nat.zero_le, if_true] at h6
        have hlen := mapM_some_length h6
        simp only [List.length_range] at hlen
        refine ⟨xs ++ [y], vs ++ cs', by simp [h1], ?_, by simp [h3, hlen, Nat.succ_mul], fun j v hj => ?_, ?_⟩
        · rw [List.flatMap_append]; exact h2.append (by simpa using h8)
        · by_cases hj1 : j < vs.length
          · rw [List.getElem?_append_left hj1] at hj; exact h4 j v hj
          · rw [List.getElem?_append_right (by omega)] at hj
            have hj2 := (List.getElem?_eq_some_iff.1 hj).1
            have h10 := mapM_some_get h6 (j - vs.length) (j - vs.length) (List.getElem?_range (by rw [← hlen]; exact hj2))
            rw [hj] at h10
            have hs := (spot (by omega)).1
            have e : (a.add (k * C.sz)).add (j - vs.length) = ⟨a.block, a.off + j, none⟩ := by
              obtain ⟨ab, ao, azs⟩ := a
              simp only at hs
              subst hs
              rw [Addr.mq, Addr.mq]
              have hge : vs.length ≤ j := Nat.le_of_not_lt hj1
              rw [arq ao k C.sz vs.length j h3 hge]
            rw [e] at h10
            exact h10
        · rw [N3, List.range_succ, List.map_append, Jg]
          simp only [q9, List.map_cons, List.map_nil, lu]
          have : μ y ≤ j6 (D k) := h9
          omega
    obtain ⟨xs, vs, h1, h2, h3, h4, h5⟩ := build len (Nat.le_refl _)
    refine ⟨xs, bj.one ?_, by
      simp only [j6]
      have : q9 μ xs ≤ lu ((List.range len).map D) := h5
      omega⟩
    by_cases h0 : 0 < m
    · obtain ⟨hs, hb⟩ := spot h0
      obtain ⟨ab, ao, azs⟩ := a
      simp only at hs hb h4
      subst hs
      rw [← h1]
      refine ajn C h2 (by omega) (fun e => by cases e) (fun j v hj => ⟨hb, h4 j v hj⟩)
    · have hl0 : len = 0 := by omega
      have hm0 : m = 0 := by omega
      subst hl0 hm0
      have : xs = [] := List.eq_nil_of_length_eq_zero h1
      subst this
      exact .rh _ _ _
def Wv (P : Program) (fs : List Field) (off : Nat) {α : Type} (C : c7 α) (μ : α → Nat) : Prop :=
  ∀ {H : Type} (enc : TypeId × Value → H) (W : World) (b0 n : Nat) (cs : List Value) (ys : List (DataW H × List MemPlace)), ys.length = fs.length →
    (∀ (i : Nat) f, fs[i]? = some f → DataW.trod enc P W 0 (fun _ => true) true n f.type ((cs.drop f.offset).take (P.cellsOf f.type)) = ys[i]?) →
    ∃ y, bj (gK b0 (abv W)) W (C.cells false y) ((cs.drop off).take C.sz) ∧ μ y ≤ lu (ys.map (·.1))
theorem atj {P : Program} {f : Field} {off : Nat} {α : Type} {C : c7 α} {μ : α → Nat} (ho : f.offset = off) (hs : P.cellsOf f.type = C.sz) (h : Rd P f.type C μ) : Wv P [f] off C μ := by
  intro H enc W b0 n cs ys hl hf
  match ys, hl with
  | [y0], _ =>
    have := hf 0 f rfl
    obtain ⟨y, h1, h2⟩ := h enc W b0 n _ y0 this
    rw [ho, hs] at h1
    exact ⟨y, h1, by simp [lu]; exact h2⟩
theorem aoj {P : Program} {f : Field} {fs : List Field} {off : Nat} {α β : Type} {A : c7 α} {B : c7 β} {μ : α → Nat} {ν : β → Nat} (ho : f.offset = off) (hs : P.cellsOf f.type = A.sz) (h : Rd P f.type A μ) (hr : Wv P fs (off + A.sz) B ν) :
    Wv P (f :: fs) off (ko A B) (fun p => μ p.1 + ν p.2) := by
  intro H enc W b0 n cs ys hl hf
  match ys, hl with
  | y0 :: ys, hl =>
    have h0 := hf 0 f rfl
    obtain ⟨y, h1, h2⟩ := h enc W b0 n _ y0 h0
    obtain ⟨z, h3, h4⟩ := hr enc W b0 n cs ys (by simpa using hl) (fun i g hg => by have := hf (i + 1) g (by simpa using hg); simpa using this)
    rw [ho, hs] at h1
    refine ⟨(y, z), ?_, by simp [lu]; omega⟩
    have := h1.append h3
    rwa [show (cs.drop off).take A.sz ++ (cs.drop (off + A.sz)).take B.sz = (cs.drop off).take (A.sz + B.sz) from by
      rw [List.take_add, List.drop_drop]] at this
theorem aml {P : Program} {t : TypeId} {fs : Array Field} {α : Type} {C : c7 α} {μ : α → Nat} (ht : P.underlying t = some (.struct fs)) (hc : P.cellsOf t = C.sz) (h : Wv P fs.toList 0 C μ) : Rd P t C (fun x => μ x + 1) := by
  intro H enc W b0 fuel cs x hx
  obtain ⟨xs, n, _, rfl, hl, hlen, hf⟩ := DataW.trod_struct ht hx
  obtain ⟨y, h1, h2⟩ := h enc W b0 n cs xs (by simpa using hlen) (fun i f hi => hf i f (by simpa using hi))
  refine ⟨y, ?_, by simp [j6]; exact h2⟩
  rwa [List.drop_zero, List.take_of_length_le (by omega)] at h1
theorem at7 {P : Program} {t : TypeId} {α β : Type} {C : c7 α} {μ : α → Nat} {f : β → α} {i : α → β} {h1 : ∀ y, i (f y) = y} {h2 : ∀ x, f (i x) = x} (h : Rd P t C μ) : Rd P t (xp C f i h1 h2) (fun y => μ (f y)) := by
  intro H enc W b0 fuel cs x hx
  obtain ⟨y, h3, h4⟩ := h enc W b0 fuel cs x hx
  exact ⟨i y, by show bj _ _ (C.cells false (f (i y))) cs; rw [h2]; exact h3, by show μ (f (i y)) ≤ _; rw [h2]; exact h4⟩
def RdA (P : Program) (ts : List TypeId) {α : Type} (A : AC α) (μ : α → Nat) : Prop :=
  ∀ {H : Type} (enc : TypeId × Value → H) (W : World) (b0 b1 : Nat) (vs : List Value) (ds : List (DataW H)) (ps : List MemPlace), (∀ (j : Nat) t v, ts[j]? = some t → vs[j]? = some v → Value.okWide P W .any b1 t v) →
    DataW.TrodAll enc P W 0 (fun _ => true) true ts vs ds ps → ∃ y, bj (gK b0 (abv W)) W (A.E y) vs ∧ μ y ≤ lu ds
theorem ata (P : Program) : RdA P [] a0 (fun _ => 0) := by
  intro H enc W b0 b1 vs ds ps _ h
  obtain ⟨rfl, rfl, rfl⟩ := trodAll_nil h
  exact ⟨(), bj.nil _ _, Nat.zero_le _⟩
theorem ahd {P : Program} {W : World} {b : Nat} {t : TypeId} {v : Value} (h : ju P t = some true) (ho : Value.okWide P W .any b t v) : ∃ cs, v = .agg cs := by
  unfold ju at h
  unfold Value.okWide at ho
  cases hu : P.underlying t with
  | none => rw [hu] at h; cases h
  | some d =>
    rw [hu] at h ho
    cases d <;> simp_all <;> exact ⟨_, ho.choose_spec.1⟩
theorem aa7 {P : Program} {t : TypeId} {ts : List TypeId} {α β : Type} {C : c7 α} {R : AC β} {μ : α → Nat} {ν : β → Nat} (ha : ju P t = some C.agg) (h : Rd P t C μ) (hr : RdA P ts R ν) : RdA P (t :: ts) (aC C R) (fun p => μ p.1 + ν p.2) := by
  intro H enc W b0 b1 vs ds ps hok hall
  obtain ⟨v, vs1, d, ds1, p, q, rfl, rfl, rfl, h0, h1⟩ := trodAll_cons hall
  obtain ⟨fuel, hf⟩ := h0
  obtain ⟨y, h2, h3⟩ := h enc W b0 fuel _ _ hf
  obtain ⟨z, h4, h5⟩ := hr enc W b0 b1 vs1 ds1 q (fun j t v ht hv => hok (j + 1) t v (by simpa using ht) (by simpa using hv)) h1
  have h3' : μ y ≤ j6 d := h3
  refine ⟨(y, z), bj.cons ?_ h4, by simp only [lu]; omega⟩
  have hv := hok 0 t v rfl rfl
  show Rel _ _ (C.val false y) v
  unfold c7.val
  cases hg : C.agg with
  | true =>
    obtain ⟨cs, rfl⟩ := ahd (by rw [ha, hg]) hv
    exact .agg _ cs (by simpa [Value.cells] using h2.1) (fun i a v ha hv => h2.2 i a v ha (by simpa [Value.cells] using hv))
  | false =>
    obtain ⟨c, h6, h7, _⟩ := C.one hg false y
    rw [cond_false, h6]
    rw [h6] at h2
    have hcs : v.cells.toList = [v] := by
      have hl := h2.1
      simp only [List.length_singleton] at hl
      cases v with
      | agg cs =>
        exfalso
        unfold ju at ha
        unfold Value.okWide at hv
        cases hu : P.underlying t with
        | none => rw [hu] at ha; cases ha
        | some d =>
          rw [hu] at ha hv
          have hcell : Cell.okWide P W .any b1 t (.agg cs) := by
            cases d <;> simp_all
          rw [hg] at ha
          unfold Cell.okWide Cell.ok at hcell
          rw [hu] at hcell
          cases d <;> simp_all
      | _ => rfl
    rw [hcs] at h2
    exact h2.head
theorem adg {W W' : World} (q : yf W W') {p : MemPlace} (h : p.block < W.heap.size) : W.sameAt W' p := by
  cases p with
  | cell b off => exact ri (q.heap b h)
  | map b => exact q.heap b h
theorem again {H : Type} {enc : TypeId × Value → H} {P : Program} {W W' : World} {sp : Nat → Bool} (K : Kids P (· < P.types.size)) (hz : ∀ t e, t < P.types.size → P.underlying t = some (.slice e) → 0 < P.cellsOf e) (q : yf W W') :
    ∀ {ts : List TypeId} {vs : List Value} {ds : List (DataW H)} {ps : List MemPlace}, (∀ t ∈ ts, t < P.types.size) → DataW.TrodAll enc P W 0 (fun _ => true) true ts vs ds ps → (∀ p ∈ ps, sp p.block = true) → (∀ p ∈ ps, p.block < W.heap.size) →
      DataW.TrodAll enc P W' 0 sp true ts vs ds ps
  | [], [], [], _, _, h, _, _ => h
  | t :: ts, v :: vs, d :: ds, ps, hT, ⟨p, p', h1, h2, e⟩, hs, hl => by
    obtain ⟨n, hn⟩ := h1
    subst e
    have h3 := DataW.trod_respare (spare' := sp) K hz n t _ _ (hT t (by simp)) hn (fun x hx => hs x (by simp only [List.mem_append]; exact .inl hx))
    have h4 := DataW.trod_carry (w' := W') n t _ _ h3 (fun x hx => adg q (hl x (by simp only [List.mem_append]; exact .inl hx)))
    exact ⟨p, p', ⟨n, h4⟩, again K hz q (fun t ht => hT t (by simp [ht])) h2 (fun x hx => hs x (by simp [hx])) (fun x hx => hl x (by simp [hx])), rfl⟩
theorem aia {W W' : World} (q : yf W W') (may : MemPlace → Prop) : W.keptBut W' may := by
  refine ⟨q.os, q.output, fun i hi => ?_⟩
  rw [q.heap i hi]
  split
  · rename_i c t fr c' t' fr' h1 h2
    rw [h1] at h2
    cases h2
    exact ⟨rfl, rfl, rfl, fun _ _ => rfl⟩
  · rename_i es cl es' cl' h1 h2
    rw [h1] at h2
    cases h2
    exact .inr ⟨rfl, rfl⟩
  · rfl
def aik (P : Program) : Bool := (List.range P.types.size).all fun t => match P.underlying t with | some (.slice e) => Nat.blt 0 (P.cellsOf e) | _ => true
theorem Xz {P : Program} (h : aik P = true) (t e : TypeId) (ht : t < P.types.size) (hu : P.underlying t = some (.slice e)) : 0 < P.cellsOf e := by
  have := List.all_eq_true.1 h t (List.mem_range.2 ht)
  simp only [hu] at this
  exact Nat.le_of_ble_eq_true this
def atd (P : Program) (l : List TypeId) : Bool := l.all fun t => Nat.blt t P.types.size
theorem ahy {P : Program} {l : List TypeId} (h : atd P l = true) : ∀ t ∈ l, t < P.types.size := fun t ht => Nat.le_of_ble_eq_true (List.all_eq_true.1 h t ht)
theorem aou {P : Program} (hlaid : laidOutB P = true) (hmaps : mapsRowed P = true) (hz : ∀ t e, t < P.types.size → P.underlying t = some (.slice e) → 0 < P.cellsOf e) {f : Nat} {fn : Func} {s : ChangeSpec} {tb : TypeId}
    (he : ke P f = true) (hvars : s.vars = []) (hres : fn.resultTypes = #[tb]) (htb : P.underlying tb = some .bool) (hpar : ∀ t ∈ fn.params.toList, t < P.types.size)
    (hfn : ∀ (H : Type) (ds : List (DataW H)), ds.length = fn.params.toList.length → s.fn H ds = { results := [.lit (.bool true)], args := ds }) {α : Type} {A : AC α} {μ : α → Nat} (hA : RdA P fn.params.toList A μ) {N : Option Nat}
    (hcall : ∀ x, (∀ n, N = some n → μ x ≤ n) → bg P f (A.E x) (.sc (.bool true)))
    {H : Type} (enc : TypeId × Value → H) (W : World) (base : Nat) (args : Array Value) (ds gs : List (DataW H)) (before : List MemPlace) (hval : ∀ (j : Nat) t v, fn.params[j]? = some t → args[j]? = some v → Value.okWide P W .any base t v)
    (hW : DataW.Whole enc P fn.params.toList s.vars false W args.toList ds gs before) (hN : ∀ n, N = some n → lu (ds ++ gs) ≤ n) :
    Calls P f args W fun e W' => ∃ v, e = .returned v ∧ s.post enc P fn false true false false W args v W' := by
  have hW' := hW
  obtain ⟨p, q, hA0, hV, rfl, hfz, hnd⟩ := hW
  rw [hvars] at hV
  obtain ⟨rfl, rfl⟩ := trodVars_none hV
  obtain ⟨x, hx, hμ⟩ := hA enc W W.heap.size base args.toList ds p (fun j t v ht hv => hval j t v (by simpa using ht) (by simpa using hv)) hA0
  have hp := hcall x (fun n hn => Nat.le_trans hμ (by have := hN n hn; simpa using this)) (abv W) W args.toList (fun _ _ h => h) hx
  have hlen : ds.length = fn.params.toList.length := by
    have : ∀ {ts : List TypeId} {vs : List Value} {ds : List (DataW H)} {ps : List MemPlace}, DataW.TrodAll enc P W 0 (fun _ => true) true ts vs ds ps → ds.length = ts.length := by
      intro ts
      induction ts with
      | nil => intro vs ds ps h; obtain ⟨_, rfl, _⟩ := trodAll_nil h; rfl
      | cons t ts ih => intro vs ds ps h; obtain ⟨v, vs1, d, ds1, p, q, rfl, rfl, rfl, h0, h1⟩ := trodAll_cons h; simp [ih h1]
    exact this hA0
  have hlt : ∀ y ∈ p ++ [], y.block < W.heap.size := fun y hy => hW'.lt y hy
  have hspec := hfn H ds hlen
  rcases hp with ⟨v, hv, _⟩ | ⟨_, hc⟩
  · rw [sh he] at hv; cases hv
  · refine hc.mono ?_
    rintro e W' ⟨v, rfl, hq, hr⟩
    obtain rfl := hr.exact rfl
    refine ⟨_, rfl, ds, [], p ++ [], [], p, [], hW', ?_, ?_, ?_, aia hq _, fun e => by cases e⟩
    · rw [List.append_nil, hspec, hres]
      exact trodAll_cons_mk (Go.RowKit.shut_bool htb _) trodAll_mk0
    · rw [List.append_nil, hspec]
      exact again (kids_rows hlaid hmaps) hz hq hpar hA0 (fun y hy => by have := hlt y (by simp [hy]); simpa using this) (fun y hy => hlt y (by simp [hy]))
    · rw [List.append_nil, hspec, hvars]
      rfl
end
end Go.Vm
end
section
set_option linter.unusedVariables false
namespace Go.Vm
open Go.Proofs
theorem akg : (Tryz.prog.underlying 3 = some (.int .i64)) ∧
  (Tryz.prog.underlying 5 = some (.int .u8)) ∧
  (Tryz.prog.underlying 9 = some (.string)) ∧
  (Tryz.prog.underlying 22 = some (.slice 9)) ∧
  (Tryz.prog.underlying 23 = some (.slice 9)) ∧
  (Tryz.prog.underlying 24 = some (.slice 40)) ∧
  (Tryz.prog.underlying 37 = some (.int .u32)) ∧
  (Tryz.prog.underlying 38 = some (.slice 83)) ∧
  (Tryz.prog.underlying 46 = some (.slice 26)) ∧
  (Tryz.prog.underlying 47 = some (.slice 71)) :=
  ⟨by kernel_rfl, by kernel_rfl, by kernel_rfl, by kernel_rfl, by kernel_rfl, by kernel_rfl, by kernel_rfl, by kernel_rfl, by kernel_rfl, by kernel_rfl⟩
theorem an4 : (Tryz.prog.underlying 48 = some (.slice 37)) ∧
  (Tryz.prog.underlying 68 = some (.slice 3)) ∧
  (Tryz.prog.underlying 76 = some (.slice 23)) ∧
  (Tryz.prog.underlying 81 = some (.slice 5)) ∧
  (Tryz.prog.underlying 102 = some (.slice 101)) ∧
  (Tryz.prog.underlying 142 = some (.map 37 4)) ∧
  (Tryz.prog.underlying 249 = some (.slice 81)) :=
  ⟨by kernel_rfl, by kernel_rfl, by kernel_rfl, by kernel_rfl, by kernel_rfl, by kernel_rfl, by kernel_rfl⟩
theorem am2 : (ju Tryz.prog 3 = some false) ∧
  (ju Tryz.prog 4 = some false) ∧
  (ju Tryz.prog 5 = some false) ∧
  (ju Tryz.prog 9 = some false) ∧
  (ju Tryz.prog 22 = some false) ∧
  (ju Tryz.prog 23 = some false) ∧
  (ju Tryz.prog 24 = some false) ∧
  (ju Tryz.prog 26 = some true) :=
  ⟨by kernel_rfl, by kernel_rfl, by kernel_rfl, by kernel_rfl, by kernel_rfl, by kernel_rfl, by kernel_rfl, by kernel_rfl⟩
theorem an5 : (ju Tryz.prog 28 = some false) ∧
  (ju Tryz.prog 33 = some false) ∧
  (ju Tryz.prog 36 = some false) ∧
  (ju Tryz.prog 37 = some false) ∧
  (ju Tryz.prog 38 = some false) ∧
  (ju Tryz.prog 40 = some true) ∧
  (ju Tryz.prog 46 = some false) ∧
  (ju Tryz.prog 47 = some false) ∧
  (ju Tryz.prog 48 = some false) ∧
  (ju Tryz.prog 50 = some true) ∧
  (ju Tryz.prog 68 = some false) ∧
  (ju Tryz.prog 71 = some true) ∧
  (ju Tryz.prog 76 = some false) ∧
  (ju Tryz.prog 81 = some false) :=
  ⟨by kernel_rfl, by kernel_rfl, by kernel_rfl, by kernel_rfl, by kernel_rfl, by kernel_rfl, by kernel_rfl, by kernel_rfl, by kernel_rfl, by kernel_rfl, by kernel_rfl, by kernel_rfl, by kernel_rfl, by kernel_rfl⟩
theorem akx : (ju Tryz.prog 83 = some true) ∧
  (ju Tryz.prog 100 = some true) ∧
  (ju Tryz.prog 178 = some false) :=
  ⟨by kernel_rfl, by kernel_rfl, by kernel_rfl⟩
theorem alc : (ju Tryz.prog 214 = some true) := by kernel_rfl
theorem agj : (c8 Tryz.prog 3 = some 1) ∧
  (c8 Tryz.prog 4 = some 1) ∧
  (c8 Tryz.prog 5 = some 1) ∧
  (c8 Tryz.prog 9 = some 1) ∧
  (c8 Tryz.prog 22 = some 1) ∧
  (c8 Tryz.prog 23 = some 1) ∧
  (c8 Tryz.prog 24 = some 1) ∧
  (c8 Tryz.prog 26 = some 2) :=
  ⟨by kernel_rfl, by kernel_rfl, by kernel_rfl, by kernel_rfl, by kernel_rfl, by kernel_rfl, by kernel_rfl, by kernel_rfl⟩
theorem afc : (c8 Tryz.prog 28 = some 1) ∧
  (c8 Tryz.prog 33 = some 1) ∧
  (c8 Tryz.prog 36 = some 1) ∧
  (c8 Tryz.prog 37 = some 1) ∧
  (c8 Tryz.prog 38 = some 1) ∧
  (c8 Tryz.prog 40 = some 5) ∧
  (c8 Tryz.prog 46 = some 1) ∧
  (c8 Tryz.prog 47 = some 1) ∧
  (c8 Tryz.prog 48 = some 1) ∧
  (c8 Tryz.prog 50 = some 3) ∧
  (c8 Tryz.prog 68 = some 1) ∧
  (c8 Tryz.prog 71 = some 2) ∧
  (c8 Tryz.prog 76 = some 1) ∧
  (c8 Tryz.prog 81 = some 1) :=
  ⟨by kernel_rfl, by kernel_rfl, by kernel_rfl, by kernel_rfl, by kernel_rfl, by kernel_rfl, by kernel_rfl, by kernel_rfl, by kernel_rfl, by kernel_rfl, by kernel_rfl, by kernel_rfl, by kernel_rfl, by kernel_rfl⟩
theorem afw : (c8 Tryz.prog 83 = some 4) ∧
  (c8 Tryz.prog 100 = some 3) ∧
  (c8 Tryz.prog 178 = some 1) :=
  ⟨by kernel_rfl, by kernel_rfl, by kernel_rfl⟩
theorem afk : (c8 Tryz.prog 214 = some 5) := by kernel_rfl
theorem afe : (ec Tryz.prog 3 = some (.int .i64 0)) ∧
  (ec Tryz.prog 4 = some (.bool false)) ∧
  (ec Tryz.prog 5 = some (.int .u8 0)) ∧
  (ec Tryz.prog 23 = some (.slice none 0 0)) ∧
  (ec Tryz.prog 26 = some (.agg #[.slice none 0 0, .slice none 0 0])) :=
  ⟨by kernel_rfl, by kernel_rfl, by kernel_rfl, by kernel_rfl, by kernel_rfl⟩
theorem agv : (ec Tryz.prog 40 = some (.agg #[.slice none 0 0, .int .u16 0, .int .u16 0, .int .u32 0, .slice none 0 0])) ∧
  (ec Tryz.prog 71 = some (.agg #[.int .u32 0, .slice none 0 0])) ∧
  (ec Tryz.prog 76 = some (.slice none 0 0)) :=
  ⟨by kernel_rfl, by kernel_rfl, by kernel_rfl⟩
theorem afd : (ec Tryz.prog 83 = some (.agg #[.slice none 0 0, .slice none 0 0, .slice none 0 0, .slice none 0 0])) ∧
  (ec Tryz.prog 100 = some (.agg #[.slice none 0 0, .slice none 0 0, .slice none 0 0])) :=
  ⟨by kernel_rfl, by kernel_rfl⟩
theorem afl : (ec Tryz.prog 214 = some (.agg #[.int .i64 0, .int .i64 0, .int .i64 0, .int .i64 0, .int .i64 0])) := by kernel_rfl
theorem al7 : (A8 Tryz.prog 22 = some (9, 1, [.sc (.string .empty)])) ∧
  (A8 Tryz.prog 23 = some (9, 1, [.sc (.string .empty)])) ∧
  (A8 Tryz.prog 38 = some (83, 4, [.sc (.slice none 0 0), .sc (.slice none 0 0), .sc (.slice none 0 0), .sc (.slice none 0 0)])) ∧
  (A8 Tryz.prog 48 = some (37, 1, [.sc (.int .u32 0)])) ∧
  (A8 Tryz.prog 68 = some (3, 1, [.sc (.int .i64 0)])) ∧
  (A8 Tryz.prog 76 = some (23, 1, [.sc (.slice none 0 0)])) ∧
  (A8 Tryz.prog 81 = some (5, 1, [.sc (.int .u8 0)])) ∧
  (A8 Tryz.prog 249 = some (81, 1, [.sc (.slice none 0 0)])) :=
  ⟨by kernel_rfl, by kernel_rfl, by kernel_rfl, by kernel_rfl, by kernel_rfl, by kernel_rfl, by kernel_rfl, by kernel_rfl⟩
theorem Zk : (Ak Tryz.prog 40 = some ([.sc (.slice none 0 0), .sc (.int .u16 0), .sc (.int .u16 0), .sc (.int .u32 0), .sc (.slice none 0 0)], [(0, 1), (1, 1), (2, 1), (3, 1), (4, 1)])) ∧
  (Ak Tryz.prog 83 = some ([.sc (.slice none 0 0), .sc (.slice none 0 0), .sc (.slice none 0 0), .sc (.slice none 0 0)], [(0, 1), (1, 1), (2, 1), (3, 1)])) :=
  ⟨by kernel_rfl, by kernel_rfl⟩
theorem ac7 : (Ak Tryz.prog 100 = some ([.sc (.slice none 0 0), .sc (.slice none 0 0), .sc (.slice none 0 0)], [(0, 3)])) ∧
  (Ak Tryz.prog 180 = some ([.sc (.slice none 0 0), .sc (.slice none 0 0), .sc (.int .i64 0)], [(0, 2), (2, 1)])) ∧
  (Ak Tryz.prog 214 = some ([.sc (.int .i64 0), .sc (.int .i64 0), .sc (.int .i64 0), .sc (.int .i64 0), .sc (.int .i64 0)], [(0, 1), (1, 1), (2, 1), (3, 1), (4, 1)])) :=
  ⟨by kernel_rfl, by kernel_rfl, by kernel_rfl⟩
theorem Ys : (fu Tryz.prog 26 0 = some ⟨"Origin", 23, 0, false, "", "", 0⟩) ∧
  (fu Tryz.prog 26 1 = some ⟨"Sets", 24, 1, false, "", "", 24⟩) :=
  ⟨by kernel_rfl, by kernel_rfl⟩
theorem abz : (fu Tryz.prog 40 0 = some ⟨"Owner", 23, 0, false, "", "", 0⟩) ∧
  (fu Tryz.prog 40 1 = some ⟨"Type", 28, 1, false, "", "", 24⟩) ∧
  (fu Tryz.prog 40 2 = some ⟨"Class", 36, 2, false, "", "", 26⟩) ∧
  (fu Tryz.prog 40 4 = some ⟨"Data", 38, 4, false, "", "", 32⟩) ∧
  (fu Tryz.prog 50 0 = some ⟨"Zones", 46, 0, false, "", "", 0⟩) ∧
  (fu Tryz.prog 50 1 = some ⟨"Hosts", 47, 1, false, "", "", 24⟩) ∧
  (fu Tryz.prog 50 2 = some ⟨"Hints", 48, 2, false, "", "", 48⟩) :=
  ⟨by kernel_rfl, by kernel_rfl, by kernel_rfl, by kernel_rfl, by kernel_rfl, by kernel_rfl, by kernel_rfl⟩
theorem aan : (fu Tryz.prog 71 0 = some ⟨"Addr", 37, 0, false, "", "", 0⟩) ∧
  (fu Tryz.prog 71 1 = some ⟨"Zones", 68, 1, false, "", "", 8⟩) ∧
  (fu Tryz.prog 83 0 = some ⟨"Names", 76, 0, false, "", "", 0⟩) ∧
  (fu Tryz.prog 83 1 = some ⟨"Nums", 48, 1, false, "", "", 24⟩) ∧
  (fu Tryz.prog 83 2 = some ⟨"Texts", 22, 2, false, "", "", 48⟩) ∧
  (fu Tryz.prog 83 3 = some ⟨"Raw", 81, 3, false, "", "", 72⟩) :=
  ⟨by kernel_rfl, by kernel_rfl, by kernel_rfl, by kernel_rfl, by kernel_rfl, by kernel_rfl⟩
theorem abm : (fu Tryz.prog 100 0 = some ⟨"w", 50, 0, false, "", "nomenclator/world", 0⟩) ∧
  (fu Tryz.prog 180 0 = some ⟨"z", 26, 0, false, "", "nomenclator/zone", 0⟩) ∧
  (fu Tryz.prog 180 1 = some ⟨"e", 33, 2, false, "", "nomenclator/zone", 48⟩) :=
  ⟨by kernel_rfl, by kernel_rfl, by kernel_rfl⟩
theorem aa5 : (fu Tryz.prog 214 0 = some ⟨"names", 3, 0, false, "", "nomenclator/rdata", 0⟩) ∧
  (fu Tryz.prog 214 1 = some ⟨"nums", 3, 1, false, "", "nomenclator/rdata", 8⟩) ∧
  (fu Tryz.prog 214 2 = some ⟨"size", 3, 2, false, "", "nomenclator/rdata", 16⟩) ∧
  (fu Tryz.prog 214 3 = some ⟨"texts", 3, 3, false, "", "nomenclator/rdata", 24⟩) ∧
  (fu Tryz.prog 214 4 = some ⟨"raw", 3, 4, false, "", "nomenclator/rdata", 32⟩) :=
  ⟨by kernel_rfl, by kernel_rfl, by kernel_rfl, by kernel_rfl, by kernel_rfl⟩
theorem an1 : (A9 Tryz.prog 22 = some (9, 1, 16)) ∧
  (A9 Tryz.prog 23 = some (9, 1, 16)) ∧
  (A9 Tryz.prog 38 = some (83, 4, 96)) ∧
  (A9 Tryz.prog 48 = some (37, 1, 4)) ∧
  (A9 Tryz.prog 76 = some (23, 1, 24)) ∧
  (A9 Tryz.prog 81 = some (5, 1, 1)) :=
  ⟨by kernel_rfl, by kernel_rfl, by kernel_rfl, by kernel_rfl, by kernel_rfl, by kernel_rfl⟩
theorem TF : type_of% akg ∧ type_of% an4 ∧ type_of% am2 ∧ type_of% an5 ∧ type_of% akx ∧ type_of% alc ∧ type_of% agj ∧ type_of% afc ∧ type_of% afw ∧ type_of% afk ∧ type_of% afe ∧ type_of% agv ∧ type_of% afd ∧ type_of% afl ∧ type_of% al7 ∧ type_of% Zk ∧ type_of% ac7 ∧ type_of% Ys ∧ type_of% abz ∧ type_of% aan ∧ type_of% abm ∧ type_of% aa5 ∧ type_of% an1 :=
  ⟨akg, an4, am2, an5, akx, alc, agj, afc, afw, afk, afe, agv, afd, afl, al7, Zk, ac7, Ys, abz, aan, abm, aa5, an1⟩
end Go.Vm
end
section
set_option linter.unusedSimpArgs false
set_option linter.unusedVariables false
namespace Go.Proofs.YtidomogemfchpaaGreat
open Go.Vm
noncomputable abbrev PP := Tryz.prog
theorem mixed : PP.follows .mixedOrders = true := by kernel_rfl
theorem bb {T : dy} (hT : aj PP T) {f : Nat} {fn : Func} (hf : PP.funcs[f]? = some fn) (hb : fn.body.isSome = true) (he : ke PP f = true) (hs : dq fn.ntmps (fn.body.getD .skip) = true)
    {args : List AV} (hl : args.length ≤ fn.ntmps) {ρ : Type} (R : RC ρ) (fr : Bool) (x : ρ)
    (h : wl PP T 0 (fn.body.getD .skip) (de PP fn.results.toList (fun r st => R.get fr st.h r = some x)) (cb 0 args) (bp [])) : bg PP f args (R.E fr x) :=
  Uv (body := fn.body.getD .skip) hT mixed hf (by cases hq : fn.body with | none => rw [hq] at hb; cases hb | some b => rfl) he hs hl R fr x h
def kn (s : ByteArray) : Int := if s.size < 1 ∨ 63 < s.size then 4 else 0
theorem Xr (s : ByteArray) : wl PP [] 0 (Tryz.f50.body.getD .skip) (de PP Tryz.f50.results.toList (fun r st => (r1 (aw .i64)).get true st.h r = some (kn s))) (cb 0 [an.val false s]) (bp []) := by
  unfold Tryz.f50
  simp only [↓wR, RA, simprocAttr, TF]
  rw [bk]
  refine ⟨fun h => ?_, fun h => ?_⟩
  · have h1 : s.size < 1 := by simp at h; omega
    simp only [↓wR, RA, simprocAttr, TF, kn, h, h1, true_or]
  · have h1 : ¬ s.size < 1 := by simp at h; omega
    simp only [↓wR, RA, simprocAttr, TF, h]
    rw [bk]
    refine ⟨fun h => ?_, fun h => ?_⟩
    · have h2 : 63 < s.size := by simp at h; omega
      simp only [↓wR, RA, simprocAttr, TF, kn, h2, or_true]
    · have h2 : ¬ 63 < s.size := by simp at h; omega
      simp only [↓wR, RA, simprocAttr, TF, kn, h1, h2, or_self]
noncomputable def E1 (x : ByteArray × Unit) : Option AV := some ((r1 (aw .i64)).E true (kn x.1))
set_option maxRecDepth 2000000 in
theorem So (x : ByteArray × Unit) (r : AV) (h : E1 x = some r) : bg PP 50 ((aC an a0).E x) r := by
  cases h
  exact bb (aj.nil PP) Tryz.func50 (by kernel_rfl) (by kernel_rfl) (by kernel_rfl) (Nat.le_of_ble_eq_true (by kernel_rfl)) (r1 (aw .i64)) true (kn x.1) (Xr x.1)
noncomputable abbrev aji : Nat × Bool × (List AV → M AV) := (50, true, da (aC an a0) E1)
def ca (n : Name) : Nat := n.foldl (fun k s => k + (s.size + 1)) 1
theorem Xh (l : Name) (c : ByteArray) : ca (l ++ [c]) = ca l + (c.size + 1) := by simp [ca]
theorem Xc (n : Name) (i : Nat) (c : ByteArray) (h : n[i]? = some c) : ca (n.take (i + 1)) = ca (n.take i) + (c.size + 1) := by
  obtain ⟨hk, rfl⟩ := List.getElem?_eq_some_iff.1 h
  rw [List.take_succ_eq_append_getElem hk, Xh]
theorem A7 (l : Name) : ∀ k, l.foldl (fun k s => k + (s.size + 1)) k = k + l.foldl (fun k s => k + (s.size + 1)) 0 := by
  induction l with
  | nil => intro k; simp
  | cons a l ih => intro k; simp only [List.foldl_cons]; rw [ih, ih (0 + _)]; omega
theorem l9 (a b : Name) : ca (a ++ b) + 1 = ca a + ca b := by
  simp only [ca, List.foldl_append]
  rw [A7 b, A7 b 1]; omega
theorem oq (n : Name) (i : Nat) : ca (n.take i) ≤ ca n ∧ n.length < ca n := by
  constructor
  · have := l9 (n.take i) (n.drop i)
    rw [List.take_append_drop] at this
    have h1 : 1 ≤ ca (n.drop i) := by simp only [ca]; rw [A7]; omega
    omega
  · induction n with
    | nil => simp [ca]
    | cons a l ih =>
      have := l9 [a] l
      simp only [List.singleton_append] at this
      have h1 : ca [a] = a.size + 2 := by simp [ca]; omega
      simp only [List.length_cons]
      omega
theorem wrap_i64 (x : Int) (h0 : -9223372036854775808 ≤ x) (h1 : x < 9223372036854775808) : IntKind.i64.wrap x = x := by
  simp [IntKind.wrap, IntKind.bits, IntKind.signed]; omega
theorem ady (n : Name) (hn : ca n < 17592186044416) : wl PP [] 0 (Tryz.f51.body.getD .skip) (de PP Tryz.f51.results.toList (fun r st => (r1 (aw .i64)).get true st.h r = some (ca n : Int))) (cb 0 [ay.val false n]) (bp []) := by
  unfold Tryz.f51
  rw [dz]
  simp only [↓wR, RA, simprocAttr, TF]
  refine c6 [3, 6, 7, 8] (fun (x : Nat) => [.sc (.int .i64 (ca (n.take x))), .vl false 1 (n.map (an.val false)), .sc (.int .i64 n.length), .sc (.int .i64 x)]) (fun _ => []) (fun x => x ≤ n.length) (fun x => n.length - x) 0 (Nat.zero_le _) ?_ ?_ ?_
  · simp only [↓wR, RA, simprocAttr, TF] <;> rfl
  · simp only [↓wR, RA, simprocAttr, TF]
  · intro i hi
    have h1 := oq n i
    simp only [↓wR, RA, simprocAttr, TF]
    rw [bk]
    refine ⟨fun h => ?_, fun h => ?_⟩
    · have h4 : i < n.length := by simp at h; omega
      obtain ⟨c, hc⟩ : ∃ c, n[i]? = some c := ⟨n[i], by simp [h4]⟩
      have h2 := Xc n i c hc
      have h3 := (oq n (i + 1)).1
      simp only [↓wR, RA, simprocAttr, TF, hc]
      refine ⟨i + 1, by omega, by omega, ?_⟩
      rw [h2]
      simp only [List.cons.injEq, and_true, true_and, AV.sc.injEq, Value.int.injEq]
      refine ⟨?_, ?_⟩
      · rw [wrap_i64 ((c.size : Int) + 1) (by omega) (by omega), wrap_i64 _ (by omega) (by omega)]; omega
      · rw [wrap_i64 _ (by omega) (by omega)]; omega
    · have h4 : i = n.length := by simp at h; omega
      subst h4
      simp only [↓wR, RA, simprocAttr, TF, List.take_length]
noncomputable def yd (x : Name × Unit) : Option AV := if ca x.1 < 17592186044416 then some ((r1 (aw .i64)).E true ((ca x.1 : Int))) else none
set_option maxRecDepth 2000000 in
theorem T3 (x : Name × Unit) (r : AV) (h : yd x = some r) : bg PP 51 ((aC ay a0).E x) r := by
  by_cases hc : ca x.1 < 17592186044416
  case neg => simp only [yd, if_neg hc] at h; cases h
  simp only [yd, if_pos hc] at h
  cases h
  exact bb (aj.nil PP) Tryz.func51 (by kernel_rfl) (by kernel_rfl) (by kernel_rfl) (Nat.le_of_ble_eq_true (by kernel_rfl)) (r1 (aw .i64)) true ((ca x.1 : Int)) (ady x.1 hc)
noncomputable abbrev an7 : Nat × Bool × (List AV → M AV) := (51, true, da (aC ay a0) yd)
def w5 (n : Name) : Bool := n.any fun s => decide (kn s ≠ 0)
def ea (n : Name) : Int := if w5 n then 4 else if 255 < ca n then 5 else 0
theorem ac1 (n : Name) (i : Nat) (c : ByteArray) (h : n[i]? = some c) : w5 (n.take (i + 1)) = (w5 (n.take i) || decide (kn c ≠ 0)) := by
  obtain ⟨hk, rfl⟩ := List.getElem?_eq_some_iff.1 h
  rw [List.take_succ_eq_append_getElem hk]
  simp only [w5, List.any_append, List.any_cons, List.any_nil, Bool.or_false]
theorem Z4 (n : Name) (i : Nat) (c : ByteArray) (h : n[i]? = some c) (hc : kn c ≠ 0) : w5 n = true := by
  simp only [w5, List.any_eq_true]
  exact ⟨c, List.mem_of_getElem? h, by simp [hc]⟩
theorem aap (s : ByteArray) : kn s = 0 ∨ kn s = 4 := by unfold kn; split <;> simp
theorem acm (n : Name) (hn : ca n < 17592186044416) : wl PP [aji, an7] 0 (Tryz.f17.body.getD .skip) (de PP Tryz.f17.results.toList (fun r st => (r1 (aw .i64)).get true st.h r = some (ea n))) (cb 0 [ay.val false n]) (bp []) := by
  unfold Tryz.f17
  rw [dz]
  simp only [↓wR, RA, simprocAttr, TF]
  refine c6 [0, 6, 7, 8] (fun (x : Nat) => [.vl false 1 (n.map (an.val false)), .vl false 1 (n.map (an.val false)), .sc (.int .i64 n.length), .sc (.int .i64 x)]) (fun _ => []) (fun x => x ≤ n.length ∧ w5 (n.take x) = false) (fun x => n.length - x) 0 ⟨Nat.zero_le _, by simp [w5]⟩ ?_ ?_ ?_
  · simp only [↓wR, RA, simprocAttr, TF] <;> rfl
  · simp only [↓wR, RA, simprocAttr, TF]
  · rintro i ⟨hi, hb⟩
    have h1 := oq n i
    simp only [↓wR, RA, simprocAttr, TF]
    rw [bk]
    refine ⟨fun h => ?_, fun h => ?_⟩
    · have h4 : i < n.length := by simp at h; omega
      obtain ⟨c, hc⟩ : ∃ c, n[i]? = some c := ⟨n[i], by simp [h4]⟩
      simp only [↓wR, RA, simprocAttr, TF, hc, E1]
      rw [bk]
      refine ⟨fun h => ?_, fun h => ?_⟩
      · have h5 : kn c ≠ 0 := by simpa using h
        have h6 : kn c = 4 := (aap c).resolve_left h5
        simp only [↓wR, RA, simprocAttr, TF, ea, Z4 n i c hc h5, h6]
      · have h5 : kn c = 0 := by simpa using h
        simp only [↓wR, RA, simprocAttr, TF]
        refine ⟨i + 1, ⟨by omega, by rw [ac1 n i c hc, hb]; simp [h5]⟩, by omega, ?_⟩
        simp only [List.cons.injEq, and_true, true_and, AV.sc.injEq, Value.int.injEq]
        rw [wrap_i64 _ (by omega) (by omega)]; omega
    · have h4 : i = n.length := by simp at h; omega
      subst h4
      rw [List.take_length] at hb
      simp only [↓wR, RA, simprocAttr, TF, yd, hn]
      rw [bk]
      refine ⟨fun h => ?_, fun h => ?_⟩
      · have h5 : 255 < ca n := by simp at h; omega
        simp only [↓wR, RA, simprocAttr, TF, ea, hb, h5]
      · have h5 : ¬ 255 < ca n := by simp at h; omega
        simp only [↓wR, RA, simprocAttr, TF, ea, hb, h5]
noncomputable def l7 (x : Name × Unit) : Option AV := if ca x.1 < 17592186044416 then some ((r1 (aw .i64)).E true (ea x.1)) else none
set_option maxRecDepth 2000000 in
theorem ky (x : Name × Unit) (r : AV) (h : l7 x = some r) : bg PP 17 ((aC ay a0).E x) r := by
  by_cases hc : ca x.1 < 17592186044416
  case neg => simp only [l7, if_neg hc] at h; cases h
  simp only [l7, if_pos hc] at h
  cases h
  exact bb (aj.cons (ai So) (aj.cons (ai T3) (aj.nil PP))) Tryz.func17 (by kernel_rfl) (by kernel_rfl) (by kernel_rfl) (Nat.le_of_ble_eq_true (by kernel_rfl)) (r1 (aw .i64)) true (ea x.1) (acm x.1 hc)
noncomputable abbrev dw : Nat × Bool × (List AV → M AV) := (17, true, da (aC ay a0) l7)
def low (c : UInt8) : UInt8 := if 65 ≤ c ∧ c ≤ 90 then c + 32 else c
def fold (s : ByteArray) : ByteArray := ⟨(s.data.toList.map low).toArray⟩
def mn (l : List UInt8) (i : Nat) : List UInt8 := (l.take i).map low ++ l.drop i
theorem akn (l : List UInt8) (i : Nat) : (mn l i).length = l.length := by simp [mn]; omega
theorem Vi (l : List UInt8) (i : Nat) (h : i < l.length) : (mn l i)[i]? = l[i]? := by
  simp [mn, List.getElem?_append, Nat.min_eq_left (Nat.le_of_lt h)]
theorem U1 (l : List UInt8) (i : Nat) (h : i < l.length) : (mn l i).take i ++ [low l[i]] ++ (mn l i).drop (i + 1) = mn l (i + 1) := by
  have h1 : ((l.take i).map low).length = i := by simp; omega
  have h2 : (mn l i).take i = (l.take i).map low := by rw [mn, List.take_append_of_le_length (by omega), List.take_of_length_le (by omega)]
  have h3 : (mn l i).drop (i + 1) = l.drop (i + 1) := by
    rw [mn, List.drop_append, List.drop_eq_nil_of_le (by omega), h1]
    simp
  rw [h2, h3, mn, List.take_succ_eq_append_getElem h, List.map_append]
  rfl
theorem Qj (l : List UInt8) (i : Nat) (h : i < l.length) (hk : low l[i] = l[i]) : mn l i = mn l (i + 1) := by
  rw [← U1 l i h, hk]
  have : (mn l i)[i]? = some l[i] := by rw [Vi l i h]; simp [h]
  obtain ⟨hlt, e⟩ := List.getElem?_eq_some_iff.1 this
  rw [← e, ← List.take_succ_eq_append_getElem hlt, List.take_append_drop]
set_option maxRecDepth 20000 in
theorem acq (s : ByteArray) (hs : s.size ≤ 16777216) : wl PP [] 0 (Tryz.f133.body.getD .skip) (de PP Tryz.f133.results.toList (fun r st => (r1 an).get true st.h r = some (fold s))) (cb 0 [an.val false s]) (bp []) := by
  unfold Tryz.f133
  have hl : s.data.toList.length = s.size := by simp
  simp only [↓wR, RA, simprocAttr, TF, hs]
  refine c6 [3, 8, 9, 10] (fun (x : Nat) => [.sl 0 0 s.size 1, .sl 0 0 s.size 1, .sc (.int .i64 s.size), .sc (.int .i64 x)]) (fun x => [some (.row ((mn s.data.toList x).map (cj.val false)) 0 1 5)]) (fun x => x ≤ s.size) (fun x => s.size - x) 0 (Nat.zero_le _) ?_ ?_ ?_
  · simp only [↓wR, RA, simprocAttr, TF] <;> rfl
  · simp only [↓wR, RA, simprocAttr, TF] <;> rfl
  · intro i hi
    simp only [↓wR, RA, simprocAttr, TF]
    rw [bk]
    refine ⟨fun h => ?_, fun h => ?_⟩
    · have h4 : i < s.size := by simp at h; omega
      have h6 : i < s.data.toList.length := by omega
      have h5 : (mn s.data.toList i)[i]? = some s.data.toList[i] := by rw [Vi s.data.toList i h6]; simp [h6]
      obtain ⟨c, hc⟩ : ∃ c, s.data.toList[i] = c := ⟨_, rfl⟩
      have hcl := c.toNat_lt
      rw [hc] at h5
      simp only [↓wR, RA, simprocAttr, TF, h4, h5]
      rw [bk]
      refine ⟨fun h1 => ?_, fun h1 => ?_⟩
      · simp only [↓wR, RA, simprocAttr, TF, h1]
        rw [bk]
        refine ⟨fun h2 => ?_, fun h2 => ?_⟩
        · have h7 : i + 1 ≤ s.size := by omega
          have hlow : low c = c + 32 := by
            simp at h1 h2
            have a1 : 65 ≤ c := by rw [UInt8.le_iff_toNat_le]; simp; omega
            have a2 : c ≤ 90 := by rw [UInt8.le_iff_toNat_le]; simp; omega
            simp [low, a1, a2]
          have hw : IntKind.u8.wrap (IntKind.u8.wrap ((c.toNat : Int) + 97) - 65) = ((low c).toNat : Int) := by
            simp at h1 h2
            rw [hlow]
            simp [IntKind.wrap, IntKind.bits, IntKind.signed, UInt8.toNat_add]
            omega
          have hst : List.map (cj.val false) (List.take i (mn s.data.toList i)) ++ [AV.sc (Value.int IntKind.u8 ((low c).toNat : Int))] ++ List.map (cj.val false) (List.drop (i + 1) (mn s.data.toList i)) = List.map (cj.val false) (mn s.data.toList (i + 1)) := by
            rw [← U1 s.data.toList i h6, hc, List.map_append, List.map_append]; rfl
          simp only [↓wR, RA, simprocAttr, TF, h4, h7, akn, hl, hw, hst]
          refine ⟨i + 1, h7, by omega, ?_, rfl⟩
          rw [wrap_i64 _ (by omega) (by omega)]; rfl
        · simp only [↓wR, RA, simprocAttr, TF]
          have hk : low c = c := by
            simp at h2
            have a2 : ¬ c ≤ 90 := by rw [UInt8.le_iff_toNat_le]; simp; omega
            simp [low, a2]
          refine ⟨i + 1, by omega, by omega, ?_, ?_⟩
          · rw [wrap_i64 _ (by omega) (by omega)]; rfl
          · rw [Qj s.data.toList i h6 (by rw [hc]; exact hk)]
      · simp only [↓wR, RA, simprocAttr, TF, h1]
        have hk : low c = c := by
          simp at h1
          have a2 : ¬ 65 ≤ c := by rw [UInt8.le_iff_toNat_le]; simp; omega
          simp [low, a2]
        refine ⟨i + 1, by omega, by omega, ?_, ?_⟩
        · rw [wrap_i64 _ (by omega) (by omega)]; rfl
        · rw [Qj s.data.toList i h6 (by rw [hc]; exact hk)]
    · have h4 : i = s.size := by simp at h; omega
      subst h4
      have : ∃ m, List.map low s.data.toList = m := ⟨_, rfl⟩
      obtain ⟨m, hm⟩ := this
      have h5 : mn s.data.toList s.size = m := by rw [mn, List.take_of_length_le (Nat.le_of_eq hl), List.drop_eq_nil_of_le (Nat.le_of_eq hl), List.append_nil, hm]
      have hlm : m.length = s.size := by rw [← hm, List.length_map, hl]
      have h6 : List.take s.size (List.map (cj.val false) m) = List.map (cj.val false) m := List.take_of_length_le (by rw [List.length_map, hlm]; exact Nat.le_refl _)
      have hf : fold s = ⟨m.toArray⟩ := by rw [fold, hm]
      rw [h5, hf]
      simp only [↓wR, RA, simprocAttr, TF, hlm, h6]
noncomputable def rp (x : ByteArray × Unit) : Option AV := if x.1.size ≤ 16777216 then some ((r1 an).E true (fold x.1)) else none
set_option maxRecDepth 2000000 in
theorem zy (x : ByteArray × Unit) (r : AV) (h : rp x = some r) : bg PP 133 ((aC an a0).E x) r := by
  by_cases hc : x.1.size ≤ 16777216
  case neg => simp only [rp, if_neg hc] at h; cases h
  simp only [rp, if_pos hc] at h
  cases h
  exact bb (aj.nil PP) Tryz.func133 (by kernel_rfl) (by kernel_rfl) (by kernel_rfl) (Nat.le_of_ble_eq_true (by kernel_rfl)) (r1 an) true (fold x.1) (acq x.1 hc)
noncomputable abbrev Ky : Nat × Bool × (List AV → M AV) := (133, true, da (aC an a0) rp)
theorem Zi (a b : ByteArray) (ha : a.size ≤ 16777216) (hb : b.size ≤ 16777216) : wl PP [Ky] 0 (Tryz.f91.body.getD .skip) (de PP Tryz.f91.results.toList (fun r st => (r1 bo).get true st.h r = some (decide (fold a = fold b)))) (cb 0 [an.val false a, an.val false b]) (bp []) := by
  unfold Tryz.f91
  simp only [↓wR, RA, simprocAttr, TF, rp, ha, hb]
noncomputable def yn (x : ByteArray × ByteArray × Unit) : Option AV := if x.1.size ≤ 16777216 ∧ x.2.1.size ≤ 16777216 then some ((r1 bo).E true (decide (fold x.1 = fold x.2.1))) else none
set_option maxRecDepth 2000000 in
theorem Uk (x : ByteArray × ByteArray × Unit) (r : AV) (h : yn x = some r) : bg PP 91 ((aC an (aC an a0)).E x) r := by
  by_cases hc : x.1.size ≤ 16777216 ∧ x.2.1.size ≤ 16777216
  case neg => simp only [yn, if_neg hc] at h; cases h
  simp only [yn, if_pos hc] at h
  cases h
  exact bb (aj.cons (ai zy) (aj.nil PP)) Tryz.func91 (by kernel_rfl) (by kernel_rfl) (by kernel_rfl) (Nat.le_of_ble_eq_true (by kernel_rfl)) (r1 bo) true (decide (fold x.1 = fold x.2.1)) (Zi x.1 x.2.1 hc.1 hc.2)
noncomputable abbrev amn : Nat × Bool × (List AV → M AV) := (91, true, da (aC an (aC an a0)) yn)
end Go.Proofs.YtidomogemfchpaaGreat
end
section
set_option linter.unusedSimpArgs false
set_option linter.unusedVariables false
namespace Go.Proofs.YtidomogemfchpaaGreat
open Go.Vm
def jw : List ByteArray → List ByteArray → Nat
  | a :: r, b :: q => if fold a = fold b then jw r q + 1 else 0
  | _, _ => 0
theorem aej (l : List ByteArray) : jw l [] = 0 := by cases l <;> rfl
def common (a b : Name) : Nat := jw a.reverse b.reverse
theorem Yy {l : List ByteArray} {x : Nat} {c : ByteArray} (h : x < l.length) (hc : l[l.length - 1 - x]? = some c) : l.reverse.drop x = c :: l.reverse.drop (x + 1) := by
  have h1 : l.reverse[x]? = some c := by rw [List.getElem?_reverse h]; exact hc
  obtain ⟨h2, h3⟩ := List.getElem?_eq_some_iff.1 h1
  rw [← h3]; exact List.drop_eq_getElem_cons h2
set_option maxRecDepth 20000 in
theorem Xw (a b : Name) (ha : ∀ s ∈ a, s.size ≤ 16777216) (hb : ∀ s ∈ b, s.size ≤ 16777216) (hla : a.length < 17592186044416) (hlb : b.length < 17592186044416) : wl PP [amn] 0 (Tryz.f53.body.getD .skip) (de PP Tryz.f53.results.toList (fun r st => (r1 (aw .i64)).get true st.h r = some (common a b : Int))) (cb 0 [ay.val false a, ay.val false b]) (bp []) := by
  unfold Tryz.f53
  simp only [dz]
  simp only [↓wR, RA, simprocAttr, TF]
  refine bm (T := []) (aj.nil PP) mixed Tryz.func90 rfl (by kernel_rfl) (by kernel_rfl) (by kernel_rfl) (by kernel_rfl) ?_; unfold Tryz.f90
  simp only [↓wR, RA, simprocAttr, TF]
  refine ⟨[2, 3, 4, 5, 10], ?_⟩
  have hib : sb PP 132 = some (Tryz.f132.ntmps, Tryz.f132.body.getD .skip) := by kernel_rfl
  simp only [↓wR, RA, simprocAttr, TF, hib]
  refine ⟨by kernel_rfl, fun l => ?_⟩
  unfold Tryz.f132
  simp only [↓wR, RA, simprocAttr, TF]
  refine D9 [0, 1, 3] (fun (x : Nat) => [.sc (.func (.yield l) #[] #[]), .ptr 4 0, .sc (.int .i64 ((a.length : Int) - 1 - x))]) (fun x => [some (.row [.vl false 1 (a.map (an.val false))] 0 2 23), some (.row [.vl false 1 (b.map (an.val false))] 0 2 23), some (.row [.sc (.int .i64 0)] 0 2 3), some (.row [.sc (.int .i64 x)] 0 2 3), some (.row [.vl false 1 (a.map (an.val false))] 0 2 23)]) (fun x => x ≤ a.length ∧ common a b = x + jw (a.reverse.drop x) (b.reverse.drop x)) (fun x => a.length - x) 0 ⟨Nat.zero_le _, by simp [common]⟩ ?_ ?_ ?_
  · simp only [↓wR, RA, simprocAttr, TF]; simp; rw [wrap_i64 _ (by omega) (by omega)]
  · simp only [↓wR, RA, simprocAttr, TF] <;> rfl
  rintro x ⟨hx, hR⟩
  simp only [↓wR, RA, simprocAttr, TF]
  rw [qs]; refine ⟨fun h => ?_, fun h => ?_⟩
  · have hx' : x < a.length := by simp at h; omega
    obtain ⟨c, hc⟩ : ∃ c, a[a.length - 1 - x]? = some c := ⟨_, List.getElem?_eq_getElem (by omega)⟩
    have e : ((a.length : Int) - 1 - x).toNat = a.length - 1 - x := by omega
    have e2 : (0 : Int) ≤ (a.length : Int) - 1 - x := by omega
    simp only [↓wR, RA, simprocAttr, TF, e, hc, e2]
    refine vh [0, 1, 3, 12, 16] ?_
    simp only [↓wR, RA, simprocAttr, TF, vn, ln, hc]
    simp (disch := omega) only [ah, bu, b7, bw, bz]
    rw [bk]; refine ⟨fun h1 => ?_, fun h1 => ?_⟩
    · have hb0 : b.length ≤ x := by simp at h1; omega
      have hb1 : b.reverse.drop x = [] := List.drop_eq_nil_of_le (by simpa using hb0)
      rw [hb1, aej] at hR
      simp only [↓wR, RA, simprocAttr, TF, h1]
      rw [hR, Nat.add_zero]
    · have hb0 : x < b.length := by simp at h1; omega
      obtain ⟨d, hd⟩ : ∃ d, b[b.length - 1 - x]? = some d := ⟨_, List.getElem?_eq_getElem (by omega)⟩
      have e4 : ((b.length : Int) - ((a.length : Int) - ((a.length : Int) - 1 - x))).toNat = b.length - 1 - x := by omega
      have e5 : (0 : Int) ≤ (b.length : Int) - ((a.length : Int) - ((a.length : Int) - 1 - x)) := by omega
      simp only [↓wR, RA, simprocAttr, TF, h1, hd, e4, e5, yn, ha c (List.mem_of_getElem? hc), hb d (List.mem_of_getElem? hd)]
      rw [Yy hx' hc, Yy hb0 hd, jw] at hR
      rw [bk]; refine ⟨fun h2 => ?_, fun h2 => ?_⟩
      · have h3 : ¬ fold c = fold d := by simpa using h2
        rw [if_neg h3] at hR
        simp only [↓wR, RA, simprocAttr, TF, h2]
        rw [hR, Nat.add_zero]
      · have h3 : fold c = fold d := by simpa using h2
        rw [if_pos h3] at hR
        simp only [↓wR, RA, simprocAttr, TF, h2]
        refine ⟨x + 1, ⟨by omega, by omega⟩, by omega, ?_, ?_⟩
        · simp only [List.cons.injEq, and_true, true_and, AV.sc.injEq, Value.int.injEq]
          simp (disch := omega) only [ah, bu, b7, bw, bz]
          omega
        · simp (disch := omega) only [ah, bu, b7, bw, bz]
          rfl
  · have h4 : x = a.length := by simp at h; omega
    have h5 : a.reverse.drop x = [] := List.drop_eq_nil_of_le (by simp; omega)
    rw [h5, jw] at hR
    simp only [↓wR, RA, simprocAttr, TF, h]
    rw [hR, Nat.add_zero]
    all_goals simp
end Go.Proofs.YtidomogemfchpaaGreat
end
section
set_option linter.unusedSimpArgs false
set_option linter.unusedVariables false
namespace Go.Proofs.YtidomogemfchpaaGreat
open Go.Vm
theorem adu (args : List AV) : z7 PP 204 args (Cx.g8 args) :=
  Cx.uw (fn := (PP.funcs[204]?).getD default) (by kernel_rfl) (by kernel_rfl) (by kernel_rfl) (by kernel_rfl) (by kernel_rfl) args
noncomputable abbrev ali : Nat × Bool × (List AV → M AV) := (204, true, Cx.g8)
theorem anw : aj PP [ali] := aj.cons adu (aj.nil PP)
noncomputable def Ip (a b : ByteArray) : Int := Lib.compareBytes a.data.toList b.data.toList
theorem Mo (a b : ByteArray) : wl PP [] 0 (Tryz.f197.body.getD .skip) (de PP Tryz.f197.results.toList (fun r st => (r1 (aw .i64)).get true st.h r = some (Ip a b))) (cb 0 [an.val false a, an.val false b]) (bp []) := by
  unfold Tryz.f197
  simp only [↓wR, RA, simprocAttr, TF]
  refine bm (T := [ali]) anw mixed Tryz.func201 rfl (by kernel_rfl) (by kernel_rfl) (by kernel_rfl) (by kernel_rfl) ?_; unfold Tryz.f201
  simp only [↓wR, RA, simprocAttr, TF, Ip]
noncomputable def ye (x : ByteArray × ByteArray × Unit) : Option AV := some ((r1 (aw .i64)).E true (Ip x.1 x.2.1))
set_option maxRecDepth 2000000 in
theorem Il (x : ByteArray × ByteArray × Unit) (r : AV) (h : ye x = some r) : bg PP 197 ((aC an (aC an a0)).E x) r := by
  cases h
  exact bb (aj.nil PP) Tryz.func197 (by kernel_rfl) (by kernel_rfl) (by kernel_rfl) (Nat.le_of_ble_eq_true (by kernel_rfl)) (r1 (aw .i64)) true (Ip x.1 x.2.1) (Mo x.1 x.2.1)
noncomputable abbrev Un : Nat × Bool × (List AV → M AV) := (197, true, da (aC an (aC an a0)) ye)
theorem P8 (a b : ByteArray) (ha : a.size ≤ 16777216) (hb : b.size ≤ 16777216) : wl PP [Ky, Un] 0 (Tryz.f187.body.getD .skip) (de PP Tryz.f187.results.toList (fun r st => (r1 (aw .i64)).get true st.h r = some (Ip (fold a) (fold b)))) (cb 0 [an.val false a, an.val false b]) (bp []) := by
  unfold Tryz.f187
  simp only [↓wR, RA, simprocAttr, TF, rp, ye, ha, hb]
noncomputable def sx (x : ByteArray × ByteArray × Unit) : Option AV := if x.1.size ≤ 16777216 ∧ x.2.1.size ≤ 16777216 then some ((r1 (aw .i64)).E true (Ip (fold x.1) (fold x.2.1))) else none
set_option maxRecDepth 2000000 in
theorem Mk (x : ByteArray × ByteArray × Unit) (r : AV) (h : sx x = some r) : bg PP 187 ((aC an (aC an a0)).E x) r := by
  by_cases hc : x.1.size ≤ 16777216 ∧ x.2.1.size ≤ 16777216
  case neg => simp only [sx, if_neg hc] at h; cases h
  simp only [sx, if_pos hc] at h
  cases h
  exact bb (aj.cons (ai zy) (aj.cons (ai Il) (aj.nil PP))) Tryz.func187 (by kernel_rfl) (by kernel_rfl) (by kernel_rfl) (Nat.le_of_ble_eq_true (by kernel_rfl)) (r1 (aw .i64)) true (Ip (fold x.1) (fold x.2.1)) (P8 x.1 x.2.1 hc.1 hc.2)
noncomputable abbrev Zp : Nat × Bool × (List AV → M AV) := (187, true, da (aC an (aC an a0)) sx)
def gq (n : Name) : List ByteArray := n.map fold
def bt (n : Name) : Prop := ca n ≤ 16777216
instance (n : Name) : Decidable (bt n) := inferInstanceAs (Decidable (_ ≤ _))
theorem aab {n : Name} {s : ByteArray} (h : s ∈ n) : s.size < ca n := by
  obtain ⟨a, b, rfl⟩ := List.append_of_mem h
  have h1 := l9 a ([s] ++ b)
  have h2 := l9 [s] b
  have h3 : ca [s] = s.size + 2 := by simp [ca]; omega
  have h4 : ∀ l : Name, 1 ≤ ca l := fun l => by have := (oq l 0).2; omega
  have := h4 a; have := h4 b
  simp only [List.singleton_append] at h1 h2
  omega
theorem bt.label {n : Name} (h : bt n) : ∀ s ∈ n, s.size ≤ 16777216 := fun s hs => by have := aab hs; unfold bt at h; omega
theorem bt.len {n : Name} (h : bt n) : n.length < 17592186044416 := by have := (oq n 0).2; unfold bt at h; omega
theorem Sm : ∀ r q : List ByteArray, jw r q ≤ q.length
  | [], q => by simp [jw]
  | a :: r, [] => by simp [jw]
  | a :: r, b :: q => by
    have := Sm r q
    simp only [jw, List.length_cons]
    split <;> omega
theorem Ke : ∀ r q : List ByteArray, jw r q ≤ r.length
  | [], q => by simp [jw]
  | a :: r, [] => by simp [jw]
  | a :: r, b :: q => by
    have := Ke r q
    simp only [jw, List.length_cons]
    split <;> omega
theorem Nz : ∀ r q : List ByteArray, jw r q = q.length ↔ q.map fold <+: r.map fold
  | [], [] => by simp [jw]
  | a :: r, [] => by simp [jw]
  | [], b :: q => by simp [jw]
  | a :: r, b :: q => by
    have := Nz r q
    simp only [jw, List.length_cons, List.map_cons, List.cons_prefix_cons]
    by_cases h : fold a = fold b
    · rw [if_pos h]
      constructor
      · intro h1; exact ⟨h.symm, this.1 (by omega)⟩
      · intro h1; have := this.2 h1.2; omega
    · rw [if_neg h]
      constructor
      · intro h1; omega
      · intro h1; exact (h h1.1.symm).elim
theorem Cy (n top : Name) : common n top = top.length ↔ gq top <:+ gq n := by
  unfold common gq
  rw [← List.length_reverse, Nz, List.map_reverse, List.map_reverse, List.reverse_prefix]
theorem N6 (a b : Name) : (a.length = b.length ∧ common a b = a.length) ↔ gq a = gq b := by
  constructor
  · rintro ⟨h1, h2⟩
    rw [h1] at h2
    have := (Cy a b).1 h2
    exact (this.eq_of_length (by simp [gq, h1])).symm
  · intro h
    have hl : a.length = b.length := by have := congrArg List.length h; simpa [gq] using this
    refine ⟨hl, ?_⟩
    rw [hl]
    exact (Cy a b).2 (by rw [h]; exact List.suffix_refl _)
def gx (a b : Name) : Bool := decide (gq a = gq b)
def dp (n top : Name) : Bool := decide (gq top <:+ gq n)
noncomputable def ow (x : Name × Name × Unit) : Option AV := if bt x.1 ∧ bt x.2.1 then some ((r1 (aw .i64)).E true ((common x.1 x.2.1 : Int))) else none
set_option maxRecDepth 2000000 in
theorem x9 (x : Name × Name × Unit) (r : AV) (h : ow x = some r) : bg PP 53 ((aC ay (aC ay a0)).E x) r := by
  by_cases hc : bt x.1 ∧ bt x.2.1
  case neg => simp only [ow, if_neg hc] at h; cases h
  simp only [ow, if_pos hc] at h
  cases h
  exact bb (aj.cons (ai Uk) (aj.nil PP)) Tryz.func53 (by kernel_rfl) (by kernel_rfl) (by kernel_rfl) (Nat.le_of_ble_eq_true (by kernel_rfl)) (r1 (aw .i64)) true ((common x.1 x.2.1 : Int)) (Xw x.1 x.2.1 hc.1.label hc.2.label hc.1.len hc.2.len)
noncomputable abbrev G1 : Nat × Bool × (List AV → M AV) := (53, true, da (aC ay (aC ay a0)) ow)
theorem abk (n top : Name) (hn : bt n) (ht : bt top) : wl PP [G1] 0 (Tryz.f19.body.getD .skip) (de PP Tryz.f19.results.toList (fun r st => (r1 bo).get true st.h r = some (dp n top))) (cb 0 [ay.val false n, ay.val false top]) (bp []) := by
  unfold Tryz.f19
  simp only [dz]
  simp only [↓wR, RA, simprocAttr, TF, ow, hn, ht]
  congr 1
  unfold dp
  have := Cy n top
  rw [Bool.eq_iff_iff]; simp [← this]; omega
noncomputable def g7 (x : Name × Name × Unit) : Option AV := if bt x.1 ∧ bt x.2.1 then some ((r1 bo).E true (dp x.1 x.2.1)) else none
set_option maxRecDepth 2000000 in
theorem my (x : Name × Name × Unit) (r : AV) (h : g7 x = some r) : bg PP 19 ((aC ay (aC ay a0)).E x) r := by
  by_cases hc : bt x.1 ∧ bt x.2.1
  case neg => simp only [g7, if_neg hc] at h; cases h
  simp only [g7, if_pos hc] at h
  cases h
  exact bb (aj.cons (ai x9) (aj.nil PP)) Tryz.func19 (by kernel_rfl) (by kernel_rfl) (by kernel_rfl) (Nat.le_of_ble_eq_true (by kernel_rfl)) (r1 bo) true (dp x.1 x.2.1) (abk x.1 x.2.1 hc.1 hc.2)
noncomputable abbrev px : Nat × Bool × (List AV → M AV) := (19, true, da (aC ay (aC ay a0)) g7)
theorem ads (n top : Name) (hn : bt n) (ht : bt top) : wl PP [G1] 0 (Tryz.f24.body.getD .skip) (de PP Tryz.f24.results.toList (fun r st => (r1 bo).get true st.h r = some (gx n top))) (cb 0 [ay.val false n, ay.val false top]) (bp []) := by
  unfold Tryz.f24
  simp only [dz]
  simp only [↓wR, RA, simprocAttr, TF, ow, hn, ht]
  rw [bk]; refine ⟨fun h => ?_, fun h => ?_⟩
  · have hl : n.length = top.length := by simp at h; omega
    simp only [↓wR, RA, simprocAttr, TF, h, ow, hn, ht]
    congr 1
    unfold gx
    have := N6 n top
    rw [Bool.eq_iff_iff]; simp [← this, hl]; omega
  · have hl : ¬ n.length = top.length := by simp at h; omega
    simp only [↓wR, RA, simprocAttr, TF, h]
    have := N6 n top
    simp [gx, ← this, hl]
noncomputable def iy (x : Name × Name × Unit) : Option AV := if bt x.1 ∧ bt x.2.1 then some ((r1 bo).E true (gx x.1 x.2.1)) else none
set_option maxRecDepth 2000000 in
theorem i7 (x : Name × Name × Unit) (r : AV) (h : iy x = some r) : bg PP 24 ((aC ay (aC ay a0)).E x) r := by
  by_cases hc : bt x.1 ∧ bt x.2.1
  case neg => simp only [iy, if_neg hc] at h; cases h
  simp only [iy, if_pos hc] at h
  cases h
  exact bb (aj.cons (ai x9) (aj.nil PP)) Tryz.func24 (by kernel_rfl) (by kernel_rfl) (by kernel_rfl) (Nat.le_of_ble_eq_true (by kernel_rfl)) (r1 bo) true (gx x.1 x.2.1) (ads x.1 x.2.1 hc.1 hc.2)
noncomputable abbrev dx : Nat × Bool × (List AV → M AV) := (24, true, da (aC ay (aC ay a0)) iy)
noncomputable def aqt (a b : Name) (k : Nat) : Int :=
  match a[a.length - 1 - k]?, b[b.length - 1 - k]? with
  | some x, some y => Ip (fold x) (fold y)
  | _, _ => 0
noncomputable def adh (a b : Name) : Int :=
  if common a b = a.length ∧ common a b = b.length then 0 else if common a b = a.length then -1 else if common a b = b.length then 1 else aqt a b (common a b)
theorem Tk (a b : Name) (ha : bt a) (hb : bt b) : wl PP [G1, Zp] 0 (Tryz.f169.body.getD .skip) (de PP Tryz.f169.results.toList (fun r st => (r1 (aw .i64)).get true st.h r = some (adh a b))) (cb 0 [ay.val false a, ay.val false b]) (bp []) := by
  unfold Tryz.f169
  simp only [dz]
  simp only [↓wR, RA, simprocAttr, TF, ow, ha, hb]
  have h1 := Ke a.reverse b.reverse
  have h2 := Sm a.reverse b.reverse
  rw [List.length_reverse] at h1 h2
  change common a b ≤ a.length at h1
  change common a b ≤ b.length at h2
  obtain ⟨k, hk⟩ : ∃ k, common a b = k := ⟨_, rfl⟩
  rw [hk] at h1 h2
  unfold adh
  rw [hk]
  rw [bk]; refine ⟨fun h => ?_, fun h => ?_⟩
  · simp only [↓wR, RA, simprocAttr, TF, h]
    have hka : k = a.length := by simp at h; omega
    rw [bk]; refine ⟨fun h3 => ?_, fun h3 => ?_⟩
    · have hkb : k = b.length := by simp at h3; omega
      simp only [↓wR, RA, simprocAttr, TF, h3]
      rw [if_pos ⟨hka, hkb⟩]
    · have hkb : ¬ k = b.length := by simp at h3; omega
      simp only [↓wR, RA, simprocAttr, TF, h3, h]
      rw [if_neg (fun e => hkb e.2), if_pos hka]
  · simp only [↓wR, RA, simprocAttr, TF, h]
    have hka : ¬ k = a.length := by simp at h; omega
    rw [bk]; refine ⟨fun h3 => ?_, fun h3 => ?_⟩
    · have hkb : k = b.length := by simp at h3; omega
      simp only [↓wR, RA, simprocAttr, TF, h3]
      rw [if_neg (fun e => hka e.1), if_neg hka, if_pos hkb]
    · have hkb : ¬ k = b.length := by simp at h3; omega
      rw [if_neg (fun e => hka e.1), if_neg hka, if_neg hkb]
      obtain ⟨x, hx⟩ : ∃ x, a[a.length - 1 - k]? = some x := ⟨_, List.getElem?_eq_getElem (by omega)⟩
      obtain ⟨y, hy⟩ : ∃ y, b[b.length - 1 - k]? = some y := ⟨_, List.getElem?_eq_getElem (by omega)⟩
      simp only [↓wR, RA, simprocAttr, TF, h3]
      refine ⟨by kernel_rfl, .inl ?_⟩
      have la := ha.len
      have lb := hb.len
      simp (disch := omega) only [ah, bu, b7, bw, bz]
      have e1 : (((a.length : Int) - 1) - k).toNat = a.length - 1 - k := by omega
      have e2 : (0 : Int) ≤ ((a.length : Int) - 1) - k := by omega
      have e3 : (((b.length : Int) - 1) - k).toNat = b.length - 1 - k := by omega
      have e4 : (0 : Int) ≤ ((b.length : Int) - 1) - k := by omega
      simp only [↓wR, RA, simprocAttr, TF, hx, e1, e2]
      simp (disch := omega) only [ah, bu, b7, bw, bz]
      simp only [↓wR, RA, simprocAttr, TF, hy, e3, e4, sx, ha.label x (List.mem_of_getElem? hx), hb.label y (List.mem_of_getElem? hy)]
      exact ⟨by kernel_rfl, by simp [aqt, hx, hy]⟩
noncomputable def ue (x : Name × Name × Unit) : Option AV := if bt x.1 ∧ bt x.2.1 then some ((r1 (aw .i64)).E true (adh x.1 x.2.1)) else none
set_option maxRecDepth 2000000 in
theorem Oo (x : Name × Name × Unit) (r : AV) (h : ue x = some r) : bg PP 169 ((aC ay (aC ay a0)).E x) r := by
  by_cases hc : bt x.1 ∧ bt x.2.1
  case neg => simp only [ue, if_neg hc] at h; cases h
  simp only [ue, if_pos hc] at h
  cases h
  exact bb (aj.cons (ai x9) (aj.cons (ai Mk) (aj.nil PP))) Tryz.func169 (by kernel_rfl) (by kernel_rfl) (by kernel_rfl) (Nat.le_of_ble_eq_true (by kernel_rfl)) (r1 (aw .i64)) true (adh x.1 x.2.1) (Tk x.1 x.2.1 hc.1 hc.2)
noncomputable abbrev aep : Nat × Bool × (List AV → M AV) := (169, true, da (aC ay (aC ay a0)) ue)
end Go.Proofs.YtidomogemfchpaaGreat
end
section
set_option linter.unusedSimpArgs false
set_option linter.unusedVariables false
namespace Go.Proofs.YtidomogemfchpaaGreat
open Go.Vm
theorem bt.lt {n : Name} (h : bt n) : n.length < 16777216 := by have := (oq n 0).2; unfold bt at h; omega
theorem ae7 (n : Name) (hn : bt n) : wl PP [] 0 (Tryz.f67.body.getD .skip) (de PP Tryz.f67.results.toList (fun r st => (r1 ay).get true st.h r = some n)) (cb 0 [ay.val false n]) (bp []) := by
  unfold Tryz.f67
  simp only [dz]
  have hlim : n.length * 16 ≤ 140737488355328 := by have := hn.lt; omega
  simp only [↓wR, RA, simprocAttr, TF, hlim]
noncomputable def ng (x : Name × Unit) : Option AV := if bt x.1 then some ((r1 ay).E true (x.1)) else none
set_option maxRecDepth 2000000 in
theorem pr (x : Name × Unit) (r : AV) (h : ng x = some r) : bg PP 67 ((aC ay a0).E x) r := by
  by_cases hc : bt x.1
  case neg => simp only [ng, if_neg hc] at h; cases h
  simp only [ng, if_pos hc] at h
  cases h
  exact bb (aj.nil PP) Tryz.func67 (by kernel_rfl) (by kernel_rfl) (by kernel_rfl) (Nat.le_of_ble_eq_true (by kernel_rfl)) (r1 ay) true (x.1) (ae7 x.1 hc)
noncomputable abbrev yw : Nat × Bool × (List AV → M AV) := (67, true, da (aC ay a0) ng)
theorem aob {n : Name} {i : Nat} {c : ByteArray} (hc : n[i]? = some c) : gq (n.drop i) = fold c :: gq (n.drop (i + 1)) := by rw [F6 hc]; rfl
theorem aeb (n : Name) (hn : bt n) : wl PP [Ky] 0 (Tryz.f162.body.getD .skip) (de PP Tryz.f162.results.toList (fun r st => (r1 ay).get true st.h r = some (gq n))) (cb 0 [ay.val false n]) (bp []) := by
  unfold Tryz.f162
  simp only [dz]
  have hln := hn.lt
  simp only [↓wR, RA, simprocAttr, TF]
  refine nd [6, 7, 8, 3] (fun (x : List ByteArray) => [.vl false 1 (n.map (an.val false)), .sc (.int .i64 n.length), .sc (.int .i64 x.length), .sl 0 0 x.length 1]) (fun x => [some (.row (x.map (an.val false)) 0 0 9)]) (fun x => x ++ gq (n.drop x.length) = gq n ∧ x.length ≤ n.length) (fun x => n.length - x.length) [] ⟨rfl, Nat.zero_le _⟩ (by simp only [↓wR, RA, simprocAttr, TF]; (refine tr.lax [] (by first | exact Nat.le_of_ble_eq_true rfl | (simp [cp]; omega)) ?_ ?_ <;> repeat' first | exact jb.nil | exact dm.nil | exact jl.same _ | exact jl.nil _ _ _ | exact jl.x8 _ _ | exact dm.refl _ _ | apply jb.cons | apply dm.ghost | apply dm.same | apply dm.row)) ?_
  rintro x ⟨hR, hx⟩
  simp only [↓wR, RA, simprocAttr, TF]
  rw [bk]; refine ⟨fun h => ?_, fun h => ?_⟩
  · obtain ⟨c, hc, hd, hlt⟩ := di h
    have hlim : (x.length + 1) * 16 ≤ 140737488355328 := by omega
    simp only [↓wR, RA, simprocAttr, TF, hc, rp, hn.label c (List.mem_of_getElem? hc), hlim]
    refine ⟨x ++ [fold c], ⟨?_, by simp; omega⟩, by simp; omega, by (first | rfl | trivial | omega | ((try (simp (disch := omega) only [ah])); (try (simp only [FB])); first | done | rfl | omega)), by (first | rfl | trivial | omega | ((try (simp (disch := omega) only [ah])); (try (simp only [FB])); first | done | rfl | omega))⟩
    rw [← hR, aob hc]; simp
  · rw [du h] at hR
    simp only [↓wR, RA, simprocAttr, TF, h]
    simpa [gq] using hR
noncomputable def Am (x : Name × Unit) : Option AV := if bt x.1 then some ((r1 ay).E true (gq x.1)) else none
set_option maxRecDepth 2000000 in
theorem Xl (x : Name × Unit) (r : AV) (h : Am x = some r) : bg PP 162 ((aC ay a0).E x) r := by
  by_cases hc : bt x.1
  case neg => simp only [Am, if_neg hc] at h; cases h
  simp only [Am, if_pos hc] at h
  cases h
  exact bb (aj.cons (ai zy) (aj.nil PP)) Tryz.func162 (by kernel_rfl) (by kernel_rfl) (by kernel_rfl) (Nat.le_of_ble_eq_true (by kernel_rfl)) (r1 ay) true (gq x.1) (aeb x.1 hc)
noncomputable abbrev apq : Nat × Bool × (List AV → M AV) := (162, true, da (aC ay a0) Am)
theorem Xk {n : Name} (h : ea n = 0) : ca n ≤ 255 := by
  unfold ea at h
  split at h
  · cases h
  · split at h
    · cases h
    · omega
theorem bt.fit {n : Name} (h : bt n) : ca n < 17592186044416 := by unfold bt at h; omega
theorem bt.drop {n : Name} (h : bt n) (i : Nat) : bt (n.drop i) := by
  unfold bt at *
  have := l9 (n.take i) (n.drop i)
  rw [List.take_append_drop] at this
  have h1 := (oq (n.take i) 0).2
  omega
def jr (n : Name) : Name × Int := if ea n ≠ 0 then ([], ea n) else if n = [] then ([], 9) else (n.tail, 0)
theorem Xb (n : Name) (hn : bt n) : wl PP [dw, yw] 0 (Tryz.f54.body.getD .skip) (de PP Tryz.f54.results.toList (fun r st => (r2 ay (aw .i64)).get true st.h r = some (jr n))) (cb 0 [ay.val false n]) (bp []) := by
  unfold Tryz.f54
  simp only [dz]
  simp only [↓wR, RA, simprocAttr, TF, l7, hn.fit]
  unfold jr
  rw [bk]; refine ⟨fun h => ?_, fun h => ?_⟩
  · have he : ea n ≠ 0 := by simpa using h
    simp only [↓wR, RA, simprocAttr, TF]
    rw [if_pos he]
  · have he : ea n = 0 := by simpa using h
    rw [if_neg (by omega)]
    simp only [↓wR, RA, simprocAttr, TF]
    rw [bk]; refine ⟨fun h2 => ?_, fun h2 => ?_⟩
    · have hn0 : n = [] := by simpa using h2
      simp only [↓wR, RA, simprocAttr, TF]
      rw [if_pos hn0]
    · have hn0 : n ≠ [] := by simpa using h2
      obtain ⟨a, m, rfl⟩ := List.exists_cons_of_ne_nil hn0
      rw [if_neg hn0]
      simp only [↓wR, RA, simprocAttr, TF]
      simp only [↓wR, RA, simprocAttr, TF, ng, show bt m from hn.drop 1]
      rfl
noncomputable def vv (x : Name × Unit) : Option AV := if bt x.1 then some ((r2 ay (aw .i64)).E true (jr x.1)) else none
set_option maxRecDepth 2000000 in
theorem Qf (x : Name × Unit) (r : AV) (h : vv x = some r) : bg PP 54 ((aC ay a0).E x) r := by
  by_cases hc : bt x.1
  case neg => simp only [vv, if_neg hc] at h; cases h
  simp only [vv, if_pos hc] at h
  cases h
  exact bb (aj.cons (ai ky) (aj.cons (ai pr) (aj.nil PP))) Tryz.func54 (by kernel_rfl) (by kernel_rfl) (by kernel_rfl) (Nat.le_of_ble_eq_true (by kernel_rfl)) (r2 ay (aw .i64)) true (jr x.1) (Xb x.1 hc)
noncomputable abbrev aiz : Nat × Bool × (List AV → M AV) := (54, true, da (aC ay a0) vv)
def aiy : ByteArray := ⟨#[42]⟩
def mc (s : ByteArray) : List UInt8 := UInt8.ofNat s.size :: s.data.toList
def nameBytes (n : Name) : List UInt8 := n.flatMap mc ++ [0]
def vy (n : Name) : List UInt8 := if ea n ≠ 0 then [] else nameBytes n
theorem Ff (s) : (mc s).length = s.size + 1 := by simp [mc]
theorem Ik (n : Name) : (n.flatMap mc).length + 1 = ca n := by
  induction n with
  | nil => rfl
  | cons a l ih =>
    have := l9 [a] l
    have h3 : ca [a] = a.size + 2 := by simp [ca]; omega
    simp only [List.singleton_append] at this
    simp only [List.flatMap_cons, List.length_append, Ff]
    omega
theorem acs (n : Name) (hn : bt n) : wl PP [dw] 0 (Tryz.f183.body.getD .skip) (de PP Tryz.f183.results.toList (fun r st => (r2 (cq cj) (aw .i64)).get true st.h r = some (vy n, ea n))) (cb 0 [ay.val false n]) (bp []) := by
  unfold Tryz.f183
  simp only [dz]
  have hln := hn.lt
  simp only [↓wR, RA, simprocAttr, TF, l7, hn.fit]
  rw [bk]; refine ⟨fun h => ?_, fun h => ?_⟩
  · have he : ea n ≠ 0 := by simpa using h
    have hb : vy n = [] := if_pos he
    simp only [↓wR, RA, simprocAttr, TF, hb]
  have he : ea n = 0 := by simpa using h
  have hb : vy n = nameBytes n := if_neg (by omega)
  rw [hb, he]
  simp only [↓wR, RA, simprocAttr, TF]
  refine nd [13, 14, 15, 5] (fun (x : Nat × List UInt8) => [.vl false 1 (n.map (an.val false)), .sc (.int .i64 n.length), .sc (.int .i64 x.1), .sl 0 0 x.2.length 1]) (fun x => [some (.row (x.2.map (cj.val false)) 0 0 5)]) (fun x => x.2 ++ (n.drop x.1).flatMap mc = n.flatMap mc ∧ x.1 ≤ n.length) (fun x => n.length - x.1) (0, []) ⟨rfl, Nat.zero_le _⟩ (by simp only [↓wR, RA, simprocAttr, TF]; (refine tr.lax [] (by first | exact Nat.le_of_ble_eq_true rfl | (simp [cp]; omega)) ?_ ?_ <;> repeat' first | exact jb.nil | exact dm.nil | exact jl.same _ | exact jl.nil _ _ _ | exact jl.x8 _ _ | exact dm.refl _ _ | apply jb.cons | apply dm.ghost | apply dm.same | apply dm.row)) ?_
  rintro ⟨i, x⟩ ⟨hR, hx⟩
  simp only at hR hx
  have hnb := Ik n
  have hsm := Xk he
  simp only [↓wR, RA, simprocAttr, TF]
  rw [bk]; refine ⟨fun h2 => ?_, fun h2 => ?_⟩
  · obtain ⟨c, hc, hd, hlt⟩ := di h2
    rw [hd, List.flatMap_cons] at hR
    have hl : x.length + (mc c).length ≤ (n.flatMap mc).length := by rw [← hR]; simp
    rw [Ff] at hl
    simp only [↓wR, RA, simprocAttr, TF, hc]; repeat (simp (disch := omega) only [ah, bu, b7, bw, bz]; try simp only [↓wR, RA, simprocAttr, TF, hc])
    refine ⟨(i + 1, x ++ mc c), ⟨by rw [← hR]; simp, hlt⟩, by simp; omega, ?_, by simp only [mc, List.map_append, List.map_cons, List.append_assoc, List.singleton_append, Ds]⟩
    simp only [List.cons.injEq, and_true, true_and, AV.sc.injEq, Value.int.injEq, AV.sl.injEq, mc, List.length_append, List.length_cons]
    refine ⟨by (try simp (disch := omega) only [ah, bu, b7, bw, bz]); simp, by simp; omega⟩
  · rw [du h2] at hR
    have hl : x.length < ca n := by rw [← hnb, ← hR]; simp
    simp only [↓wR, RA, simprocAttr, TF, h2]; repeat (simp (disch := omega) only [ah, bu, b7, bw, bz]; try simp only [↓wR, RA, simprocAttr, TF, h2])
    simp only [nameBytes, ← hR]; simp
noncomputable def th (x : Name × Unit) : Option AV := if bt x.1 then some ((r2 (cq cj) (aw .i64)).E true ((vy x.1, ea x.1))) else none
set_option maxRecDepth 2000000 in
theorem Te (x : Name × Unit) (r : AV) (h : th x = some r) : bg PP 183 ((aC ay a0).E x) r := by
  by_cases hc : bt x.1
  case neg => simp only [th, if_neg hc] at h; cases h
  simp only [th, if_pos hc] at h
  cases h
  exact bb (aj.cons (ai ky) (aj.nil PP)) Tryz.func183 (by kernel_rfl) (by kernel_rfl) (by kernel_rfl) (Nat.le_of_ble_eq_true (by kernel_rfl)) (r2 (cq cj) (aw .i64)) true ((vy x.1, ea x.1)) (acs x.1 hc)
noncomputable abbrev ajy : Nat × Bool × (List AV → M AV) := (183, true, da (aC ay a0) th)
end Go.Proofs.YtidomogemfchpaaGreat
end
section
set_option linter.unusedSimpArgs false
set_option linter.unusedVariables false
namespace Go.Proofs.YtidomogemfchpaaGreat
open Go.Vm
set_option maxRecDepth 2000000
theorem Gu {α : Type} {f : α → AV} {xs : List α} (h : xs ≠ []) (op l sz p q) : B4 op (.vl l sz (xs.map f)) (.sc (.slice none p q)) = m6 op false := by
  cases xs with
  | nil => exact (h rfl).elim
  | cons x xs => rfl
def K3 (v : Value) : Prop := v = .slice none 0 0 ∨ ∃ a c, v = .slice (some a) 0 c
theorem zx {f : Nat} {r : AV} {sz : Nat} (h : ∀ v, K3 v → bg PP f [.sc v] r) : bg PP f [.vl false sz []] r := by
  intro K w vs hK hrel
  obtain ⟨v, rfl, hv⟩ := y9 hrel
  have hE : K3 v := by
    cases hv with
    | vl => exact .inr ⟨_, _, rfl⟩
    | jh => exact .inl rfl
    | rh => exact .inr ⟨_, _, rfl⟩
  exact h v hE K w [v] hK (bj.cons (.sc v) (bj.nil _ _))
theorem ae3 (l : List UInt32) (hne : l ≠ []) (hl : l.length ≤ 16777216) : wl PP [] 0 (Tryz.f115.body.getD .skip) (de PP Tryz.f115.results.toList (fun r st => (r1 (cq be)).get true st.h r = some l)) (cb 0 [(cq be).val false l]) (bp []) := by
  unfold Tryz.f115
  rw [o9]
  have hb : l.length * 4 ≤ 140737488355328 := by omega
  simp only [↓wR, RA, simprocAttr, TF, Gu hne, hb]
theorem Zr (v : Value) (hv : K3 v) : wl PP [] 0 (Tryz.f115.body.getD .skip) (de PP Tryz.f115.results.toList (fun r st => (r1 (cq be)).get true st.h r = some [])) (cb 0 [.sc v]) (bp []) := by
  unfold Tryz.f115
  rcases hv with rfl | ⟨a, c, rfl⟩
  · simp only [↓wR, RA, simprocAttr, TF]
  · simp only [↓wR, RA, simprocAttr, TF]
noncomputable def xe (x : List UInt32 × Unit) : Option AV := if x.1.length ≤ 16777216 then some ((r1 (cq be)).E true x.1) else none
theorem Ig (x : List UInt32 × Unit) (r : AV) (h : xe x = some r) : bg PP 115 ((aC (cq be) a0).E x) r := by
  by_cases hc : x.1.length ≤ 16777216
  case neg => simp only [xe, if_neg hc] at h; cases h
  simp only [xe, if_pos hc] at h
  cases h
  obtain ⟨l, ⟨⟩⟩ := x
  by_cases hn : l = []
  · subst hn
    exact zx (sz := 1) fun v hv => bb (aj.nil PP) Tryz.func115 (by kernel_rfl) (by kernel_rfl) (by kernel_rfl) (Nat.le_of_ble_eq_true (by kernel_rfl)) (r1 (cq be)) true [] (Zr v hv)
  · exact bb (aj.nil PP) Tryz.func115 (by kernel_rfl) (by kernel_rfl) (by kernel_rfl) (Nat.le_of_ble_eq_true (by kernel_rfl)) (r1 (cq be)) true l (ae3 l hn hc)
noncomputable abbrev aae : Nat × Bool × (List AV → M AV) := (115, true, da (aC (cq be) a0) xe)
theorem aec (l : List ByteArray) (hne : l ≠ []) (hl : l.length ≤ 16777216) : wl PP [] 0 (Tryz.f116.body.getD .skip) (de PP Tryz.f116.results.toList (fun r st => (r1 (cq an)).get true st.h r = some l)) (cb 0 [(cq an).val false l]) (bp []) := by
  unfold Tryz.f116
  rw [o9]
  have hb : l.length * 16 ≤ 140737488355328 := by omega
  simp only [↓wR, RA, simprocAttr, TF, Gu hne, hb]
theorem acb (v : Value) (hv : K3 v) : wl PP [] 0 (Tryz.f116.body.getD .skip) (de PP Tryz.f116.results.toList (fun r st => (r1 (cq an)).get true st.h r = some [])) (cb 0 [.sc v]) (bp []) := by
  unfold Tryz.f116
  rcases hv with rfl | ⟨a, c, rfl⟩
  · simp only [↓wR, RA, simprocAttr, TF]
  · simp only [↓wR, RA, simprocAttr, TF]
noncomputable def w8 (x : List ByteArray × Unit) : Option AV := if x.1.length ≤ 16777216 then some ((r1 (cq an)).E true x.1) else none
theorem Hw (x : List ByteArray × Unit) (r : AV) (h : w8 x = some r) : bg PP 116 ((aC (cq an) a0).E x) r := by
  by_cases hc : x.1.length ≤ 16777216
  case neg => simp only [w8, if_neg hc] at h; cases h
  simp only [w8, if_pos hc] at h
  cases h
  obtain ⟨l, ⟨⟩⟩ := x
  by_cases hn : l = []
  · subst hn
    exact zx (sz := 1) fun v hv => bb (aj.nil PP) Tryz.func116 (by kernel_rfl) (by kernel_rfl) (by kernel_rfl) (Nat.le_of_ble_eq_true (by kernel_rfl)) (r1 (cq an)) true [] (acb v hv)
  · exact bb (aj.nil PP) Tryz.func116 (by kernel_rfl) (by kernel_rfl) (by kernel_rfl) (Nat.le_of_ble_eq_true (by kernel_rfl)) (r1 (cq an)) true l (aec l hn hc)
noncomputable abbrev aar : Nat × Bool × (List AV → M AV) := (116, true, da (aC (cq an) a0) w8)
theorem ajg (l : List UInt8) (hne : l ≠ []) (hl : l.length ≤ 16777216) : wl PP [] 0 (Tryz.f117.body.getD .skip) (de PP Tryz.f117.results.toList (fun r st => (r1 (cq cj)).get true st.h r = some l)) (cb 0 [(cq cj).val false l]) (bp []) := by
  unfold Tryz.f117
  rw [o9]
  have hb : l.length ≤ 140737488355328 := by omega
  simp only [↓wR, RA, simprocAttr, TF, Gu hne, hb]
theorem aex (v : Value) (hv : K3 v) : wl PP [] 0 (Tryz.f117.body.getD .skip) (de PP Tryz.f117.results.toList (fun r st => (r1 (cq cj)).get true st.h r = some [])) (cb 0 [.sc v]) (bp []) := by
  unfold Tryz.f117
  rcases hv with rfl | ⟨a, c, rfl⟩
  · simp only [↓wR, RA, simprocAttr, TF]
  · simp only [↓wR, RA, simprocAttr, TF]
noncomputable def zn (x : List UInt8 × Unit) : Option AV := if x.1.length ≤ 16777216 then some ((r1 (cq cj)).E true x.1) else none
theorem Iv (x : List UInt8 × Unit) (r : AV) (h : zn x = some r) : bg PP 117 ((aC (cq cj) a0).E x) r := by
  by_cases hc : x.1.length ≤ 16777216
  case neg => simp only [zn, if_neg hc] at h; cases h
  simp only [zn, if_pos hc] at h
  cases h
  obtain ⟨l, ⟨⟩⟩ := x
  by_cases hn : l = []
  · subst hn
    exact zx (sz := 1) fun v hv => bb (aj.nil PP) Tryz.func117 (by kernel_rfl) (by kernel_rfl) (by kernel_rfl) (Nat.le_of_ble_eq_true (by kernel_rfl)) (r1 (cq cj)) true [] (aex v hv)
  · exact bb (aj.nil PP) Tryz.func117 (by kernel_rfl) (by kernel_rfl) (by kernel_rfl) (Nat.le_of_ble_eq_true (by kernel_rfl)) (r1 (cq cj)) true l (ajg l hn hc)
noncomputable abbrev afs : Nat × Bool × (List AV → M AV) := (117, true, da (aC (cq cj) a0) zn)
end Go.Proofs.YtidomogemfchpaaGreat
end
section
set_option linter.unusedSimpArgs false
set_option linter.unusedVariables false
namespace Go.Proofs.YtidomogemfchpaaGreat
open Go.Vm
set_option maxRecDepth 2000000
structure Shape where
  names : Int
  nums : Int
  size : Int
  texts : Int
  raw : Int
noncomputable def rz : c7 Shape := xp (ko (aw .i64) (ko (aw .i64) (ko (aw .i64) (ko (aw .i64) (aw .i64))))) (fun s => (s.names, s.nums, s.size, s.texts, s.raw)) (fun p => ⟨p.1, p.2.1, p.2.2.1, p.2.2.2.1, p.2.2.2.2⟩) (fun _ => rfl) (fun _ => rfl)
theorem Ci (l : Bool) (s : Shape) : rz.val l s = .agg [.sc (.int .i64 s.names), .sc (.int .i64 s.nums), .sc (.int .i64 s.size), .sc (.int .i64 s.texts), .sc (.int .i64 s.raw)] := id rfl
theorem jn (fr h) (a b c d e : Int) : rz.fj fr h (.agg [.sc (.int .i64 a), .sc (.int .i64 b), .sc (.int .i64 c), .sc (.int .i64 d), .sc (.int .i64 e)]) = some ⟨a, b, c, d, e⟩ := aw6 rz fr h ⟨a, b, c, d, e⟩
def ig (t : UInt16) : Shape :=
  if (t.toNat : Int) = 1 then ⟨0, 0, 0, 0, 4⟩ else if (t.toNat : Int) = 28 then ⟨0, 0, 0, 0, 16⟩ else if (t.toNat : Int) = 2 then ⟨1, 0, 0, 0, 0⟩ else if (t.toNat : Int) = 5 then ⟨1, 0, 0, 0, 0⟩ else if (t.toNat : Int) = 12 then ⟨1, 0, 0, 0, 0⟩
  else if (t.toNat : Int) = 6 then ⟨2, 5, 4, 0, 0⟩ else if (t.toNat : Int) = 15 then ⟨1, 1, 2, 0, 0⟩ else if (t.toNat : Int) = 33 then ⟨1, 3, 2, 0, 0⟩ else if (t.toNat : Int) = 16 then ⟨0, 0, 0, -1, 0⟩ else if (t.toNat : Int) = 257 then ⟨0, 1, 1, 2, 0⟩ else ⟨0, 0, 0, 0, -1⟩
theorem amj (t : UInt16) : wl PP [] 0 (Tryz.f159.body.getD .skip) (de PP Tryz.f159.results.toList (fun r st => (r1 rz).get true st.h r = some (ig t))) (cb 0 [c9.val false t]) (bp []) := by
  unfold Tryz.f159
  unfold ig
  simp only [↓wR, RA, simprocAttr, TF]
  rw [dc]; refine ⟨fun ⟨h0, e0⟩ => ?_, fun ⟨h0, e0⟩ => ?_⟩
  · simp only [↓wR, RA, simprocAttr, TF, h0]
    rw [if_pos e0]
    exact jn ..
  rw [if_neg e0]
  simp only [↓wR, RA, simprocAttr, TF, h0]
  rw [dc]; refine ⟨fun ⟨h1, e1⟩ => ?_, fun ⟨h1, e1⟩ => ?_⟩
  · simp only [↓wR, RA, simprocAttr, TF, h1]
    rw [if_pos e1]
    exact jn ..
  rw [if_neg e1]
  simp only [↓wR, RA, simprocAttr, TF, h1]
  rw [dc]; refine ⟨fun ⟨h2, e2⟩ => ?_, fun ⟨h2, e2⟩ => ?_⟩
  · simp only [↓wR, RA, simprocAttr, TF, h2]
    rw [if_pos e2]
    exact jn ..
  rw [if_neg e2]
  simp only [↓wR, RA, simprocAttr, TF, h2]
  rw [dc]; refine ⟨fun ⟨h3, e3⟩ => ?_, fun ⟨h3, e3⟩ => ?_⟩
  · simp only [↓wR, RA, simprocAttr, TF, h3]
    rw [if_pos e3]
    exact jn ..
  rw [if_neg e3]
  simp only [↓wR, RA, simprocAttr, TF, h3]
  rw [dc]; refine ⟨fun ⟨h4, e4⟩ => ?_, fun ⟨h4, e4⟩ => ?_⟩
  · simp only [↓wR, RA, simprocAttr, TF, h4]
    rw [if_pos e4]
    exact jn ..
  rw [if_neg e4]
  simp only [↓wR, RA, simprocAttr, TF, h4]
  rw [dc]; refine ⟨fun ⟨h5, e5⟩ => ?_, fun ⟨h5, e5⟩ => ?_⟩
  · simp only [↓wR, RA, simprocAttr, TF, h5]
    rw [if_pos e5]
    exact jn ..
  rw [if_neg e5]
  simp only [↓wR, RA, simprocAttr, TF, h5]
  rw [dc]; refine ⟨fun ⟨h6, e6⟩ => ?_, fun ⟨h6, e6⟩ => ?_⟩
  · simp only [↓wR, RA, simprocAttr, TF, h6]
    rw [if_pos e6]
    exact jn ..
  rw [if_neg e6]
  simp only [↓wR, RA, simprocAttr, TF, h6]
  rw [dc]; refine ⟨fun ⟨h7, e7⟩ => ?_, fun ⟨h7, e7⟩ => ?_⟩
  · simp only [↓wR, RA, simprocAttr, TF, h7]
    rw [if_pos e7]
    exact jn ..
  rw [if_neg e7]
  simp only [↓wR, RA, simprocAttr, TF, h7]
  rw [dc]; refine ⟨fun ⟨h8, e8⟩ => ?_, fun ⟨h8, e8⟩ => ?_⟩
  · simp only [↓wR, RA, simprocAttr, TF, h8]
    rw [if_pos e8]
    exact jn ..
  rw [if_neg e8]
  simp only [↓wR, RA, simprocAttr, TF, h8]
  rw [dc]; refine ⟨fun ⟨h9, e9⟩ => ?_, fun ⟨h9, e9⟩ => ?_⟩
  · simp only [↓wR, RA, simprocAttr, TF, h9]
    rw [if_pos e9]
    exact jn ..
  rw [if_neg e9]
  simp only [↓wR, RA, simprocAttr, TF, h9]
  exact jn ..
noncomputable def Ct (x : UInt16 × Unit) : Option AV := some ((r1 rz).E true (ig x.1))
set_option maxRecDepth 2000000 in
theorem C0 (x : UInt16 × Unit) (r : AV) (h : Ct x = some r) : bg PP 159 ((aC c9 a0).E x) r := by
  cases h
  exact bb (aj.nil PP) Tryz.func159 (by kernel_rfl) (by kernel_rfl) (by kernel_rfl) (Nat.le_of_ble_eq_true (by kernel_rfl)) (r1 rz) true (ig x.1) (amj x.1)
noncomputable abbrev Us : Nat × Bool × (List AV → M AV) := (159, true, da (aC c9 a0) Ct)
def Fv (t : UInt16) : Bool := (t.toNat : Int) == 0 || (decide ((128 : Int) ≤ (t.toNat : Int)) && decide ((t.toNat : Int) ≤ 255))
theorem alv (t : UInt16) : wl PP [] 0 (Tryz.f158.body.getD .skip) (de PP Tryz.f158.results.toList (fun r st => (r1 bo).get true st.h r = some (Fv t))) (cb 0 [c9.val false t]) (bp []) := by
  unfold Tryz.f158
  unfold Fv
  simp only [↓wR, RA, simprocAttr, TF]
  rw [dc]; refine ⟨fun ⟨h, e⟩ => ?_, fun ⟨h, e⟩ => ?_⟩
  · simp only [↓wR, RA, simprocAttr, TF, h]
  · simp only [↓wR, RA, simprocAttr, TF, h]
    rw [bf]; refine ⟨fun h2 => ?_, fun h2 => ?_⟩
    · simp only [↓wR, RA, simprocAttr, TF, h2]
    · simp only [↓wR, RA, simprocAttr, TF, h2]
      rfl
noncomputable def Ty (x : UInt16 × Unit) : Option AV := some ((r1 bo).E true (Fv x.1))
set_option maxRecDepth 2000000 in
theorem afa (x : UInt16 × Unit) (r : AV) (h : Ty x = some r) : bg PP 158 ((aC c9 a0).E x) r := by
  cases h
  exact bb (aj.nil PP) Tryz.func158 (by kernel_rfl) (by kernel_rfl) (by kernel_rfl) (Nat.le_of_ble_eq_true (by kernel_rfl)) (r1 bo) true (Fv x.1) (alv x.1)
noncomputable abbrev aut : Nat × Bool × (List AV → M AV) := (158, true, da (aC c9 a0) Ty)
noncomputable def En (n : UInt32) : List UInt8 := [UInt8.ofNat (n.toNat / 16777216), UInt8.ofNat (n.toNat / 65536), UInt8.ofNat (n.toNat / 256), UInt8.ofNat n.toNat]
theorem aoy (n : UInt32) : wl PP [] 0 (Tryz.f182.body.getD .skip) (de PP Tryz.f182.results.toList (fun r st => (r1 (cq cj)).get true st.h r = some (En n))) (cb 0 [be.val false n]) (bp []) := by
  unfold Tryz.f182
  simp only [↓wR, RA, simprocAttr, TF]
  rfl
noncomputable def Ln (x : UInt32 × Unit) : Option AV := some ((r1 (cq cj)).E true (En x.1))
set_option maxRecDepth 2000000 in
theorem aer (x : UInt32 × Unit) (r : AV) (h : Ln x = some r) : bg PP 182 ((aC be a0).E x) r := by
  cases h
  exact bb (aj.nil PP) Tryz.func182 (by kernel_rfl) (by kernel_rfl) (by kernel_rfl) (Nat.le_of_ble_eq_true (by kernel_rfl)) (r1 (cq cj)) true (En x.1) (aoy x.1)
noncomputable abbrev auk : Nat × Bool × (List AV → M AV) := (182, true, da (aC be a0) Ln)
def O1 (c : UInt8) : Bool := decide (97 ≤ c.toNat ∧ c.toNat ≤ 122 ∨ 65 ≤ c.toNat ∧ c.toNat ≤ 90 ∨ 48 ≤ c.toNat ∧ c.toNat ≤ 57)
def J6 (s : ByteArray) : Bool := s.data.toList.all O1 && decide (1 ≤ s.size ∧ s.size ≤ 15)
theorem atq (s : ByteArray) (hs : s.size ≤ 16777216) : wl PP [] 0 (Tryz.f179.body.getD .skip) (de PP Tryz.f179.results.toList (fun r st => (r1 bo).get true st.h r = some (J6 s))) (cb 0 [an.val false s]) (bp []) := by
  unfold Tryz.f179
  simp only [↓wR, RA, simprocAttr, TF]
  refine c6 [0, 6, 7] (fun (i : Nat) => [.sc (.string s), .sc (.int .i64 s.size), .sc (.int .i64 i)]) (fun _ => []) (fun i => i ≤ s.size ∧ s.data.toList.all O1 = (s.data.toList.drop i).all O1) (fun i => s.size - i) 0 ⟨Nat.zero_le _, rfl⟩ ?_ ?_ ?_
  · simp only [↓wR, RA, simprocAttr, TF] <;> rfl
  · simp only [↓wR, RA, simprocAttr, TF]
  rintro i ⟨hi, hR⟩
  simp only [↓wR, RA, simprocAttr, TF]
  rw [bf]; refine ⟨fun h => ?_, fun h => ?_⟩
  · obtain ⟨c, hc⟩ : ∃ c, s.data.toList[i]? = some c := ⟨_, List.getElem?_eq_getElem (by simp; omega)⟩
    have hd := F6 hc
    rw [hd, List.all_cons] at hR
    simp only [↓wR, RA, simprocAttr, TF, h, hc]; repeat (simp (disch := omega) only [ah, bu, b7, bw, bz]; try simp only [↓wR, RA, simprocAttr, TF, h, hc])
    repeat' (rw [bf]; refine ⟨fun h => ?_, fun h => ?_⟩ <;> simp only [↓wR, RA, simprocAttr, TF, h, hc])
    all_goals first
      | (have ht : O1 c = false := by (unfold O1; rw [decide_eq_false_iff_not]; omega)
         rw [J6, hR, ht]; rfl)
      | (have ht : O1 c = true := by (unfold O1; rw [decide_eq_true_eq]; omega)
         refine ⟨i + 1, ⟨by omega, by rw [hR, ht]; simp⟩, by omega, by (first | rfl | trivial | omega | ((try (simp (disch := omega) only [ah])); (try (simp only [FB])); first | done | rfl | omega))⟩)
  · have hdn : s.data.toList.drop i = [] := List.drop_eq_nil_of_le (by simp; omega)
    rw [hdn, List.all_nil] at hR
    simp only [↓wR, RA, simprocAttr, TF, h]
    unfold J6
    rw [hR]
    rw [bf]; refine ⟨fun h1 => ?_, fun h1 => ?_⟩
    · simp only [↓wR, RA, simprocAttr, TF, h1]
      congr 1
      rw [Bool.eq_iff_iff]; simp; omega
    · simp only [↓wR, RA, simprocAttr, TF, h1]
      congr 1
      rw [Bool.eq_iff_iff]; simp; omega
noncomputable def S8 (x : ByteArray × Unit) : Option AV := if x.1.size ≤ 16777216 then some ((r1 bo).E true (J6 x.1)) else none
set_option maxRecDepth 2000000 in
theorem amc (x : ByteArray × Unit) (r : AV) (h : S8 x = some r) : bg PP 179 ((aC an a0).E x) r := by
  by_cases hc : x.1.size ≤ 16777216
  case neg => simp only [S8, if_neg hc] at h; cases h
  simp only [S8, if_pos hc] at h
  cases h
  exact bb (aj.nil PP) Tryz.func179 (by kernel_rfl) (by kernel_rfl) (by kernel_rfl) (Nat.le_of_ble_eq_true (by kernel_rfl)) (r1 bo) true (J6 x.1) (atq x.1 hc)
noncomputable abbrev aw2 : Nat × Bool × (List AV → M AV) := (179, true, da (aC an a0) S8)
end Go.Proofs.YtidomogemfchpaaGreat
end
section
set_option linter.unusedSimpArgs false
set_option linter.unusedVariables false
namespace Go.Proofs.YtidomogemfchpaaGreat
open Go.Vm
set_option maxRecDepth 2000000
def g9 {α : Type} (f : α → Nat) (l : List α) : Nat := l.foldr (fun x k => f x + k + 1) 0
def su (d : ct) : Nat := g9 ca d.names + d.nums.length + g9 ByteArray.size d.texts + d.raw.length
theorem qx {α : Type} {f : α → Nat} {l : List α} {x : α} (h : x ∈ l) : f x < g9 f l := by
  induction l with
  | nil => cases h
  | cons a l ih =>
    simp only [g9, List.foldr_cons] at ih ⊢
    rcases List.mem_cons.1 h with rfl | h
    · omega
    · have := ih h; omega
theorem pw {α : Type} (f : α → Nat) (l : List α) : l.length ≤ g9 f l := by
  induction l with
  | nil => exact Nat.le_refl _
  | cons a l ih => simp only [g9, List.foldr_cons, List.length_cons] at ih ⊢; omega
def dn (d : ct) : Prop := su d ≤ 16777216
instance (d : ct) : Decidable (dn d) := inferInstanceAs (Decidable (_ ≤ _))
theorem dn.name {d : ct} (h : dn d) : ∀ n ∈ d.names, bt n := fun n hn => by
  have h1 : ca n < g9 ca d.names := qx hn
  unfold dn su at h; unfold bt; omega
theorem dn.text {d : ct} (h : dn d) : ∀ s ∈ d.texts, s.size ≤ 16777216 := fun s hs => by
  have h1 : ByteArray.size s < g9 ByteArray.size d.texts := qx hs
  unfold dn su at h; omega
theorem dn.lens {d : ct} (h : dn d) : d.names.length ≤ 16777216 ∧ d.nums.length ≤ 16777216 ∧ d.texts.length ≤ 16777216 ∧ d.raw.length ≤ 16777216 := by
  have h1 := pw ca d.names
  have h2 := pw ByteArray.size d.texts
  unfold dn su at h; omega
noncomputable def L9 (s : Shape) : Int := IntKind.u32.wrap (1 * 2 ^ (if (8 * s.size).toNat ≤ 32 then (8 * s.size).toNat else 32))
noncomputable def u7 (s : Shape) (t : UInt16) (d : ct) : Bool :=
  if (d.names.length : Int) ≠ s.names ∨ (d.nums.length : Int) ≠ s.nums ∨ (0 ≤ s.raw ∧ (d.raw.length : Int) ≠ s.raw) then false
  else if s.size < 4 ∧ (d.nums.any fun n => decide (L9 s ≤ (n.toNat : Int))) = true then false
  else if (t.toNat : Int) = 257 then decide (d.texts.length = 2) && J6 (d.texts.headD ⟨#[]⟩)
  else if s.texts = 0 then decide (d.texts.length = 0)
  else decide (0 < d.texts.length) && !(d.texts.any fun x => decide (255 < x.size))
noncomputable def Qd (s : Shape) (t : UInt16) (d : ct) : Bool :=
  if s.size < 4 ∧ (d.nums.any fun n => decide (L9 s ≤ (n.toNat : Int))) = true then false
  else if (t.toNat : Int) = 257 then decide (d.texts.length = 2) && J6 (d.texts.headD ⟨#[]⟩)
  else if s.texts = 0 then decide (d.texts.length = 0)
  else decide (0 < d.texts.length) && !(d.texts.any fun x => decide (255 < x.size))
theorem atc (s : Shape) (t : UInt16) (d : ct) (hs : 0 ≤ s.size ∧ s.size ≤ 4) (hd : dn d) : wl PP [aw2] 0 (Tryz.f160.body.getD .skip) (de PP Tryz.f160.results.toList (fun r st => (r1 bo).get true st.h r = some (u7 s t d))) (cb 0 [rz.val false s, c9.val false t, b9.val false d]) (bp []) := by
  unfold Tryz.f160
  obtain ⟨l1, l2, l3, l4⟩ := hd.lens
  simp only [Ci, lj, dz]
  simp only [↓wR, RA, simprocAttr, TF]
  rw [gu]; refine ⟨fun ⟨h, e⟩ => ?_, fun ⟨h, e⟩ => ?_⟩
  · have hv : u7 s t d = false := if_pos (.inl e)
    simp only [↓wR, RA, simprocAttr, TF, h, hv]
  simp only [↓wR, RA, simprocAttr, TF, h]
  rw [gu]; refine ⟨fun ⟨h2, e2⟩ => ?_, fun ⟨h2, e2⟩ => ?_⟩
  · have hv : u7 s t d = false := if_pos (.inr (.inl e2))
    simp only [↓wR, RA, simprocAttr, TF, h2, hv]
  simp only [↓wR, RA, simprocAttr, TF, h2]
  have hraw : ¬ (0 ≤ s.raw ∧ (d.raw.length : Int) ≠ s.raw) → u7 s t d = Qd s t d := fun hr => if_neg (fun h => by
    rcases h with h | h | h
    · exact h e
    · exact h e2
    · exact hr h)
  rw [bf]; refine ⟨fun h3 => ?_, fun h3 => ?_⟩
  simp only [↓wR, RA, simprocAttr, TF, h3]
  rw [gu]; refine ⟨fun ⟨h4, e4⟩ => ?_, fun ⟨h4, e4⟩ => ?_⟩
  have hv : u7 s t d = false := if_pos (.inr (.inr ⟨h3, e4⟩))
  simp only [↓wR, RA, simprocAttr, TF, h4, hv]
  rw [hraw (fun q => q.2 e4)]
  simp only [↓wR, RA, simprocAttr, TF, h4]
  rotate_left
  rw [hraw (fun q => h3 q.1)]
  simp only [↓wR, RA, simprocAttr, TF, h3]
  all_goals
    clear hraw
    refine c6 [1, 3, 5, 37, 38, 39] (fun (i : Nat) => [.sc (.int .u16 t.toNat), .ptr 0 0, .ptr 1 0, .vl false 1 (d.nums.map (be.val false)), .sc (.int .i64 d.nums.length), .sc (.int .i64 i)]) (fun _ => [some (.row [.sc (.int .i64 s.names), .sc (.int .i64 s.nums), .sc (.int .i64 s.size), .sc (.int .i64 s.texts), .sc (.int .i64 s.raw)] 0 2 214), some (.row [.vl false 1 (d.names.map (ay.val false)), .vl false 1 (d.nums.map (be.val false)), .vl false 1 (d.texts.map (an.val false)), .vl false 1 (d.raw.map (cj.val false))] 0 2 83)]) (fun i => i ≤ d.nums.length ∧ (s.size < 4 → (d.nums.any fun n => decide (L9 s ≤ (n.toNat : Int))) = ((d.nums.drop i).any fun n => decide (L9 s ≤ (n.toNat : Int))))) (fun i => d.nums.length - i) 0 ⟨Nat.zero_le _, fun _ => rfl⟩ (by simp only [↓wR, RA, simprocAttr, TF] <;> rfl) (by simp only [↓wR, RA, simprocAttr, TF] <;> rfl) ?_
    clear h h2 e e2
    rintro i ⟨hi, hR⟩
    simp only [↓wR, RA, simprocAttr, TF]
    rw [bf]; refine ⟨fun h => ?_, fun h => ?_⟩
    · obtain ⟨c, hc, hd1, hlt⟩ := di (decide_eq_true h)
      rw [hd1, List.any_cons] at hR
      simp only [↓wR, RA, simprocAttr, TF, h, hc]
      rw [bf]; refine ⟨fun h5 => ?_, fun h5 => ?_⟩
      · have hR := hR h5
        have h80 : (0 : Int) ≤ 8 * s.size := by omega
        simp only [↓wR, RA, simprocAttr, TF, h5, h80]; repeat (simp (disch := omega) only [ah, bu, b7, bw, bz]; try simp only [↓wR, RA, simprocAttr, TF, h5, h80])
        rw [bf]; refine ⟨fun h6 => ?_, fun h6 => ?_⟩
        · have hv : Qd s t d = false := by
            rw [Qd, if_pos ⟨h5, by rw [hR, decide_eq_true (show L9 s ≤ (c.toNat : Int) from h6)]; rfl⟩]
          simp only [↓wR, RA, simprocAttr, TF, h6, hv]
        · simp only [↓wR, RA, simprocAttr, TF, h6]; repeat (simp (disch := omega) only [ah, bu, b7, bw, bz]; try simp only [↓wR, RA, simprocAttr, TF, h6])
          refine ⟨i + 1, ⟨hlt, fun _ => ?_⟩, by omega, by (first | rfl | trivial | omega | ((try (simp (disch := omega) only [ah])); (try (simp only [FB])); first | done | rfl | omega))⟩
          rw [hR, decide_eq_false (show ¬ L9 s ≤ (c.toNat : Int) from h6), Bool.false_or]
      · simp only [↓wR, RA, simprocAttr, TF, h5]; repeat (simp (disch := omega) only [ah, bu, b7, bw, bz]; try simp only [↓wR, RA, simprocAttr, TF, h5])
        exact ⟨i + 1, ⟨hlt, fun h => h.elim⟩, by omega, by (first | rfl | trivial | omega | ((try (simp (disch := omega) only [ah])); (try (simp only [FB])); first | done | rfl | omega))⟩
    · rw [du (decide_eq_false h), List.any_nil] at hR
      have hr : Qd s t d = if (t.toNat : Int) = 257 then decide (d.texts.length = 2) && J6 (d.texts.headD ⟨#[]⟩) else if s.texts = 0 then decide (d.texts.length = 0) else decide (0 < d.texts.length) && !(d.texts.any fun x => decide (255 < x.size)) := by
        rw [Qd, if_neg]; rintro ⟨q1, q2⟩; rw [hR q1] at q2; cases q2
      simp only [↓wR, RA, simprocAttr, TF, h]
      rw [dc]; refine ⟨fun ⟨h6, e6⟩ => ?_, fun ⟨h6, e6⟩ => ?_⟩
      · rw [if_pos e6] at hr
        simp only [↓wR, RA, simprocAttr, TF, h6]
        rw [dc]; refine ⟨fun ⟨h7, e7⟩ => ?_, fun ⟨h7, e7⟩ => ?_⟩
        · obtain ⟨c, hc⟩ : ∃ c, d.texts[0]? = some c := ⟨_, List.getElem?_eq_getElem (by omega)⟩
          have hh : d.texts.headD ⟨#[]⟩ = c := by
            cases ht : d.texts with
            | nil => rw [ht] at hc; cases hc
            | cons a l => rw [ht] at hc; simpa using hc
          rw [hh, decide_eq_true (show d.texts.length = 2 by omega)] at hr
          simp only [↓wR, RA, simprocAttr, TF, h7, hc, S8, hd.text c (List.mem_of_getElem? hc)]
          rw [hr]; rfl
        · simp only [↓wR, RA, simprocAttr, TF, h7]
          rw [hr, decide_eq_false (show ¬ d.texts.length = 2 by omega)]; rfl
      · rw [if_neg e6] at hr
        simp only [↓wR, RA, simprocAttr, TF, h6]
        rw [dc]; refine ⟨fun ⟨h7, e7⟩ => ?_, fun ⟨h7, e7⟩ => ?_⟩
        · rw [if_pos e7] at hr
          simp only [↓wR, RA, simprocAttr, TF, h7]
          rw [hr]; congr 1
          rw [Bool.eq_iff_iff]; simp
        · rw [if_neg e7] at hr
          simp only [↓wR, RA, simprocAttr, TF, h7]
          rw [bf]; refine ⟨fun h8 => ?_, fun h8 => ?_⟩
          · simp only [↓wR, RA, simprocAttr, TF, h8]
            refine bm (T := []) (aj.nil PP) mixed Tryz.func180 rfl (by kernel_rfl) (by kernel_rfl) (by kernel_rfl) (by kernel_rfl) ?_; unfold Tryz.f180
            simp only [↓wR, RA, simprocAttr, TF]
            refine bm (T := []) (aj.nil PP) mixed Tryz.func192 rfl (by kernel_rfl) (by kernel_rfl) (by kernel_rfl) (by kernel_rfl) ?_; unfold Tryz.f192
            simp only [↓wR, RA, simprocAttr, TF]
            refine c6 [0, 1, 7, 8] (fun (i : Nat) => [.vl false 1 (d.texts.map (an.val false)), .sc (.func (.func 181) #[] #[]), .sc (.int .i64 d.texts.length), .sc (.int .i64 i)]) (fun _ => [some (.row [.sc (.int .i64 s.names), .sc (.int .i64 s.nums), .sc (.int .i64 s.size), .sc (.int .i64 s.texts), .sc (.int .i64 s.raw)] 0 2 214), some (.row [.vl false 1 (d.names.map (ay.val false)), .vl false 1 (d.nums.map (be.val false)), .vl false 1 (d.texts.map (an.val false)), .vl false 1 (d.raw.map (cj.val false))] 0 2 83)]) (fun i => i ≤ d.texts.length ∧ (d.texts.any fun x => decide (255 < x.size)) = ((d.texts.drop i).any fun x => decide (255 < x.size))) (fun i => d.texts.length - i) 0 ⟨Nat.zero_le _, rfl⟩ (by simp only [↓wR, RA, simprocAttr, TF] <;> rfl) (by simp only [↓wR, RA, simprocAttr, TF] <;> rfl) ?_
            rintro k ⟨hk, hK⟩
            simp only [↓wR, RA, simprocAttr, TF]
            rw [bf]; refine ⟨fun h9 => ?_, fun h9 => ?_⟩
            · obtain ⟨c, hc, hd1, hlt⟩ := di (decide_eq_true h9)
              rw [hd1, List.any_cons] at hK
              simp only [↓wR, RA, simprocAttr, TF, h9, hc]; repeat (simp (disch := omega) only [ah, bu, b7, bw, bz]; try simp only [↓wR, RA, simprocAttr, TF, h9, hc])
              refine bm (T := []) (aj.nil PP) mixed Tryz.func181 rfl (by kernel_rfl) (by kernel_rfl) (by kernel_rfl) (by kernel_rfl) ?_; unfold Tryz.f181
              simp only [↓wR, RA, simprocAttr, TF]
              rw [bf]; refine ⟨fun h10 => ?_, fun h10 => ?_⟩
              · simp only [↓wR, RA, simprocAttr, TF, h10]
                rw [hr, hK, decide_eq_true (show 0 < d.texts.length by omega), decide_eq_true (show 255 < c.size by omega)]; rfl
              · simp only [↓wR, RA, simprocAttr, TF, h10]; repeat (simp (disch := omega) only [ah, bu, b7, bw, bz]; try simp only [↓wR, RA, simprocAttr, TF, h10])
                refine ⟨k + 1, ⟨hlt, ?_⟩, by omega, by (first | rfl | trivial | omega | ((try (simp (disch := omega) only [ah])); (try (simp only [FB])); first | done | rfl | omega))⟩
                rw [hK, decide_eq_false (show ¬ 255 < c.size by omega), Bool.false_or]
            · rw [du (decide_eq_false h9), List.any_nil] at hK
              simp only [↓wR, RA, simprocAttr, TF, h9]
              rw [hr, hK, decide_eq_true (show 0 < d.texts.length by omega)]; rfl
          · simp only [↓wR, RA, simprocAttr, TF, h8]
            rw [hr, decide_eq_false (show ¬ 0 < d.texts.length by omega)]; rfl
theorem Q8 (t : UInt16) : 0 ≤ (ig t).size ∧ (ig t).size ≤ 4 := by
  unfold ig
  repeat' split
  all_goals simp
noncomputable def Iy (x : Shape × UInt16 × ct × Unit) : Option AV := if (0 ≤ x.1.size ∧ x.1.size ≤ 4) ∧ dn x.2.2.1 then some ((r1 bo).E true (u7 x.1 x.2.1 x.2.2.1)) else none
set_option maxRecDepth 2000000 in
theorem ajj (x : Shape × UInt16 × ct × Unit) (r : AV) (h : Iy x = some r) : bg PP 160 ((aC rz (aC c9 (aC b9 a0))).E x) r := by
  by_cases hc : (0 ≤ x.1.size ∧ x.1.size ≤ 4) ∧ dn x.2.2.1
  case neg => simp only [Iy, if_neg hc] at h; cases h
  simp only [Iy, if_pos hc] at h
  cases h
  exact bb (aj.cons (ai amc) (aj.nil PP)) Tryz.func160 (by kernel_rfl) (by kernel_rfl) (by kernel_rfl) (Nat.le_of_ble_eq_true (by kernel_rfl)) (r1 bo) true (u7 x.1 x.2.1 x.2.2.1) (atc x.1 x.2.1 x.2.2.1 hc.1 hc.2)
noncomputable abbrev awb : Nat × Bool × (List AV → M AV) := (160, true, da (aC rz (aC c9 (aC b9 a0))) Iy)
end Go.Proofs.YtidomogemfchpaaGreat
end
