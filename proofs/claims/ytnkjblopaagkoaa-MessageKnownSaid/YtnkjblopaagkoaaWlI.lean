/- Walks on abstract values: calls that leave memory alone. No condition. -/
import Derived.Test.YtnkjblopaagkoaaWlH
namespace Go.Vm
noncomputable section

/-- All memory that was there is as it was. -/
structure Quiet (w w' : World) : Prop where
  size : w.heap.size ≤ w'.heap.size
  heap : ∀ b, b < w.heap.size → w'.heap[b]? = w.heap[b]?
  os : w'.os = w.os
  tape : w'.tape = w.tape
  output : w'.output = w.output
def newK (K : Nat → Nat → Prop) (w w' : World) : Nat → Nat → Prop := fun b j => K b j ∨ (w.heap.size ≤ b ∧ b < w'.heap.size)
def PureRun (P : Program) (f : Nat) (vs : List Value) (w : World) (X : Value → World → Prop) : Prop :=
  (∃ v, (callFunc f vs.toArray).run P w = .ok (.value v) w ∧ X v w) ∨
  ((callFunc f vs.toArray).run P w = .ok (.enter f vs.toArray) w ∧ Calls P f vs.toArray w (fun e w' => ∃ v, e = .returned v ∧ X v w'))
/-- A call at arguments that stay comes to r. -/
def CallPure (P : Program) (f : Nat) (args : List AV) (r : AV) : Prop :=
  ∀ (K : Nat → Nat → Prop) (w : World) (vs : List Value), (∀ b j, K b j → b < w.heap.size) → RelL (gK w.heap.size K) w args vs →
    PureRun P f vs w (fun v w' => Quiet w w' ∧ Rel (gK w.heap.size (newK K w w')) w' r v)

/-- Results: read only. -/
theorem resL_ok {P : Program} {g w nt} {L : SL} {tmps : Array Value} {st : St} (hok : Ok g st.h w) (hs : RelSL g w nt L tmps) : ∀ (rs : List ResultVar) (l : List AV), resL P L st rs = some l →
    ∃ vs, (rs.mapM (resultSem tmps)).run P w = .ok vs w ∧ RelL g w l vs := by
  intro rs
  induction rs with
  | nil => intro l h; simp [resL] at h; subst h; exact ⟨[], by simp, RelL.nil _ _⟩
  | cons r rs ih =>
    intro l h
    cases r with
    | tmp t =>
      simp only [resL, Option.map_eq_some_iff] at h
      obtain ⟨l', h1, rfl⟩ := h
      obtain ⟨vs, h2, h3⟩ := ih l' h1
      refine ⟨tmps.getD t undef :: vs, ?_, RelL.cons (hs.2 t) h3⟩
      simp only [List.mapM_cons, Sem.run_bind, resultSem, Sem.run_pure, Result.andThen_ok, h2]
    | cell c t =>
      simp only [resL] at h
      split at h
      · rename_i v st' hl
        rw [Option.map_eq_some_iff] at h
        obtain ⟨l', h1, rfl⟩ := h
        obtain ⟨vs, h2, h3⟩ := ih l' h1
        have hrel := hs.2 c
        have hptr : ∃ ad, tmps.getD c undef = .pointer (some ad) := by
          generalize lk L c = x at hrel hl
          generalize tmps.getD c undef = v at hrel
          cases hrel <;> first | exact ⟨_, rfl⟩ | cases hl
        obtain ⟨ad, had⟩ := hptr
        obtain ⟨u, h4, h5⟩ := loadVar_of (P := P) hok hrel hl had
        refine ⟨u :: vs, ?_, RelL.cons h5 h3⟩
        have h6 : (resultSem tmps (.cell c t)).run P w = .ok u w := by simp [resultSem, had, asAddr, h4]
        simp only [List.mapM_cons, Sem.run_bind, h6, Result.andThen_ok, h2]
        rfl
      · cases h

theorem pack_ok {P : Program} {g w} {fn : Func} {tmps : Array Value} {l : List AV} {vs : List Value} (h : (fn.results.toList.mapM (resultSem tmps)).run P w = .ok vs w) (q4 : RelL g w l vs) :
    ∃ v, (results fn tmps).run P w = .ok v w ∧ Rel g w (pack l) v := by
  have hmap : (fn.results.mapM (resultSem tmps)).run P w = .ok vs.toArray w := by
    rw [Array.mapM_eq_mapM_toList]
    simp [h]
  rw [results_eq]
  simp only [Sem.run_bind, hmap, Result.andThen_ok, Sem.run_pure]
  refine ⟨_, rfl, ?_⟩
  match l, vs, q4 with
  | [a1], [v1], q4 => simpa [pack] using q4.head
  | [], [], q4 => simp [pack]; exact .tup _ _ rfl (fun i a v h _ => by simp at h)
  | a1 :: a2 :: l, v1 :: v2 :: vs, q4 =>
    simp [pack]
    exact .tup _ _ (by have := q4.1; simp at this ⊢; omega) (fun i a v h1 h2 => q4.2 i a v h1 (by simpa using h2))
  | [], v :: vs, q4 => have := q4.1; simp at this
  | a :: l, [], q4 => have := q4.1; simp at this
  | [a1], v1 :: v2 :: vs, q4 => have := q4.1; simp at this
  | a1 :: a2 :: l, [v1], q4 => have := q4.1; simp at this

/-- A call out of the walk of its body, from no memory of its own on. -/
theorem callPure_of_wl {P : Program} {T : Tab} (hT : TabOk P T) (hm : P.follows .mixedOrders = true) {f : Nat} {fn : Func} {body : Code} (hf : P.funcs[f]? = some fn) (hb : fn.body = some body) (he : entered P f = true) (hs : slotsIn fn.ntmps body = true)
    {args : List AV} (hl : args.length ≤ fn.ntmps) {ρ : Type} (R : RC ρ) (fr : Bool) (x : ρ)
    (h : wl P T 0 body (retQ P fn.results.toList (fun r st => R.get fr st.h r = some x)) (argsL 0 args) (stK [])) : CallPure P f args (R.E fr x) := by
  intro K w vs hK hrel
  refine .inr ⟨entered_ok he _ _, calls_of_callsIn (ro := none) (n := 0) (callsIn_of_wp_marks hf hb trivial ?_)⟩
  let B : BaseP := { b0 := w.heap.size, w, K, O := fun _ => False, pin := 0, pb := fun _ => none, n0 := w.heap.size }
  have hcur : Cur B (gK w.heap.size K) (stK []) w := by
    refine ⟨⟨Nat.le_refl _, fun o x hx => ?_, fun o o' x x' b base base' _ hx => ?_, hK⟩, fun o _ _ => rfl, ⟨rfl, (fun o ho => (by rcases ho with ho | ho; cases ho; exact ho.elim)), fun _ _ h => h, fun _ _ _ => rfl, Nat.le_refl _, rfl, rfl, rfl, fun _ _ _ => rfl, fun o b base ho => ?_, fun _ _ h => .inl h, fun b cs e fr h => ⟨cs, fr, h, rfl⟩, fun b l h => ⟨l, h⟩⟩, Nat.zero_le _⟩
    · simp [stK, heapK, Tr.get_nil] at hx
    · simp [stK, heapK, Tr.get_nil] at hx
    · simp [stK, heapK, Tr.get_nil] at ho
  refine wpIn_mono (wl_ok hT hm (N := 0) (B := B) (nt := fn.ntmps) (fun _ h => h) (by show (0 : Nat) ≤ 1000; omega) (Nat.le_refl _) body hs _ _ _ (gK w.heap.size K) w _ h hcur (relSL_args hrel hl) (Marks.nil _ _ _ _)) ?_
  rintro ex a w' ⟨e, L, st, g, rfl, hq, hc, hr, hd⟩
  have fin : retR (resL P L st fn.results.toList) (fun r st => R.get fr st.h r = some x) st → bodyPostM (fence none) 0 P fn (fun e w' => ∃ v, e = .returned v ∧ Quiet w w' ∧ Rel (gK w.heap.size (newK K w w')) w' (R.E fr x) v) .ret a w' := by
    intro hq
    show LeavesInM (fence none) 0 P fn a.tmps _ a.defers .returning w'
    unfold retR at hq
    cases hres : resL P L st fn.results.toList with
    | none => rw [hres] at hq; exact hq.elim
    | some l =>
      rw [hres] at hq
      have hbs := hc.base
      obtain ⟨bs, e1, e2, e3⟩ := hd
      have e1 := e1.trans (List.append_nil _)
      rw [e1]
      refine leaves_good (Good := fun u => Ok g st.h u ∧ Quiet w u ∧ (∀ a v, Rel g w' a v → Rel g u a v) ∧ u.heap.size = w'.heap.size) (S := fun b => w.heap.size ≤ b ∧ Unowned g st.h b) ?_ ?_ bs w'
        ⟨hc.ok, ⟨hbs.size, fun b hlt => hbs.frame b hlt (fun h => h), hbs.os, hbs.tape, hbs.output⟩, fun _ _ h => h, rfl⟩ e2 (fun b hb => ⟨⟨(e3 b hb).1, (e3 b hb).2.2⟩, (e3 b hb).2.1⟩)
      · rintro u b ⟨g1, g2, g3, g4⟩ ⟨hb1, hb2⟩ hb3
        have hput := Ok.put_unowned (ds' := none) g1 hb3 hb2
        exact ⟨hput.1, ⟨by rw [putB_size]; exact g2.size, fun c hc => (putB_other u _ (by omega)).trans (g2.heap c hc), g2.os, g2.tape, g2.output⟩, fun a v h => hput.2 a v (g3 a v h), by rw [putB_size]; exact g4⟩
      · rintro u ⟨g1, g2, g3, g4⟩
        obtain ⟨us, h1, h2⟩ := resL_ok (P := P) g1 ⟨hr.1, fun t => g3 _ _ (hr.2 t)⟩ fn.results.toList l hres
        obtain ⟨v, h3, h4⟩ := pack_ok h1 h2
        refine ⟨v, h3, v, rfl, g2, ?_⟩
        refine R.ok g1 ⟨fun b j hk => ?_, fun o cells k s e ho b base hi j hj => ?_⟩ (fun _ => ?_) h4 hq
        · rcases hbs.Kold b j hk with h5 | h5 | h5
          · exact .inl h5
          · exact .inr ⟨h5, g1.K b j hk⟩
          · exact h5.elim
        · obtain ⟨b', base', h5, _, h6⟩ := g1.obj o _ ho
          rw [hi] at h5; cases h5
          rcases hbs.own o b base (by rw [ho]; rfl) hi with h7 | h7
          · exact .inr ⟨h7, h6.lt⟩
          · exact h7.elim
        · rw [hbs.b0]; exact Nat.le_refl _
  cases e with
  | normal => exact fin hq
  | ret => exact fin hq
  | exit id => exact hq.elim

/-! ### At the place of the call -/
theorem Rel.lift {b0 K g w a v} (h : Rel (gK b0 K) w a v) (hb : g.b0 ≤ b0) (hK : ∀ b j, K b j → g.K b j) : Rel g w a v := by
  have hno : ∀ o p, (gK b0 K).inj o ≠ some p := fun o p e => by cases e
  generalize hg : gK b0 K = g0 at h hno
  have hK' : ∀ b j, g0.K b j → g.K b j := by subst hg; exact hK
  have hb' : g.b0 ≤ g0.b0 := by subst hg; exact hb
  clear hg
  induction h with
  | sc x => exact .sc x
  | agg l vs hs _ ih => exact .agg l vs hs ih
  | tup l vs hs _ ih => exact .tup l vs hs ih
  | vl loc sz es b off cap c hsz hl hcap h _ ih => exact .vl loc sz es b off cap c hsz (fun e => Nat.le_trans hb' (hl e)) hcap (fun j a hj => ⟨hK' _ _ (h j a hj).1, (h j a hj).2⟩) ih
  | vlnil loc sz => exact .vlnil loc sz
  | vlz loc sz a => exact .vlz loc sz a
  | sl o off len sz b base cap hi hc hm hr => exact (hno _ _ hi).elim
  | slz o off sz a => exact .slz o off sz a
  | sln o off sz => exact .sln o off sz
  | ez a => exact .ez a
  | ptr o off b base hi => exact (hno _ _ hi).elim
  | cptr l b off c h _ ih => exact .cptr l b off c (fun j a hj => ⟨hK' _ _ (h j a hj).1, (h j a hj).2⟩) ih
  | fn f first captured va vb hs _ hs' _ ih ih' => exact .fn f first captured va vb hs ih hs' ih'
  | mp o b base hi => exact (hno _ _ hi).elim
  | ifc t a v _ ih => exact .ifc t a v ih
  | yl o b base hi => exact (hno _ _ hi).elim
  | bad v => exact .bad v
theorem freshGo {l : List AV} (h : AV.fresh.go l = true) : ∀ a ∈ l, a.fresh = true := by
  induction l with
  | nil => intro a ha; cases ha
  | cons x l ih =>
    simp only [AV.fresh.go, Bool.and_eq_true] at h
    intro a ha
    rcases List.mem_cons.1 ha with rfl | ha
    · exact h.1
    · exact ih h.2 a ha
theorem fresh_cells {a : AV} (h : a.fresh = true) : ∀ c ∈ a.cells, c.fresh = true := by
  cases a with
  | agg l => exact freshGo h
  | sc v => intro c hc; simp only [AV.cells, List.mem_map] at hc; obtain ⟨x, _, rfl⟩ := hc; rfl
  | _ => intro c hc; simp only [AV.cells, List.mem_singleton] at hc; subst hc; exact h
theorem Rel.fresh {b0 K g w a v} (h : Rel (gK b0 K) w a v) (hf : a.fresh = true) (hb : g.b0 ≤ b0) (hK : ∀ b j, K b j → b0 ≤ b → g.K b j) : Rel g w a v := by
  generalize hg : gK b0 K = g0 at h
  have hK' : ∀ b j, g0.K b j → g0.b0 ≤ b → g.K b j := by subst hg; exact hK
  have hb' : g.b0 ≤ g0.b0 := by subst hg; exact hb
  clear hg hb hK
  induction h with
  | sc x => exact .sc x
  | agg l vs hs _ ih => exact .agg l vs hs (fun i a v ha hv => ih i a v ha hv (freshGo hf a (List.mem_of_getElem? ha)))
  | tup l vs hs _ ih => exact .tup l vs hs (fun i a v ha hv => ih i a v ha hv (freshGo hf a (List.mem_of_getElem? ha)))
  | vl loc sz es b off cap c hsz hl hcap h _ ih =>
    simp only [AV.fresh, Bool.and_eq_true] at hf
    have hbb := hl hf.1
    refine .vl loc sz es b off cap c hsz (fun e => Nat.le_trans hb' hbb) hcap (fun j a hj => ⟨hK' _ _ (h j a hj).1 hbb, (h j a hj).2⟩) (fun j a hj => ih j a hj ?_)
    obtain ⟨e, he, hc⟩ := List.mem_flatMap.1 (List.mem_of_getElem? hj)
    exact fresh_cells (freshGo hf.2 e he) a hc
  | vlnil loc sz => exact .vlnil loc sz
  | vlz loc sz a => exact .vlz loc sz a
  | sl o off len sz b base cap hi hc hm hr => cases hf
  | slz o off sz a => cases hf
  | sln o off sz => cases hf
  | ez a => exact .ez a
  | ptr o off b base hi => cases hf
  | cptr l b off c h _ ih => cases hf
  | fn f first captured va vb hs _ hs' _ ih ih' =>
    simp only [AV.fresh, Bool.and_eq_true] at hf
    exact .fn f first captured va vb hs (fun i a v ha hv => ih i a v ha hv (freshGo hf.1 a (List.mem_of_getElem? ha))) hs' (fun i a v ha hv => ih' i a v ha hv (freshGo hf.2 a (List.mem_of_getElem? ha)))
  | mp o b base hi => cases hf
  | ifc t a v _ ih => exact .ifc t a v (ih hf)
  | yl o b base hi => cases hf
  | bad v => cases hf

def Gh.more (g : Gh) (w w' : World) : Gh := { g with K := newK g.K w w' }
/-- A call that leaves memory alone is a step that leaves all objects as they were. -/
theorem quiet_step {g h w w'} {lo hi : Nat} (hok : Ok g h w) (q : Quiet w w') : Step g h w lo hi (g.more w w') h w' ∧ Ok (g.more w w') h w' := by
  have hext : Ext g w (g.more w w') w' := by
    refine ⟨rfl, fun _ _ h => h, fun _ _ h => .inl h, fun b j hj => cell_heap (q.heap b (hok.K b j hj)), fun b cs e fr hb => ⟨cs, fr, (q.heap b (lt_of_heap hb)).trans hb, rfl⟩, fun b l hb => ⟨l, (q.heap b (lt_of_heap hb)).trans hb⟩⟩
  refine ⟨⟨hext, q.size, q.os, q.tape, q.output, fun b hb _ => q.heap b hb, fun _ h _ => h, fun o b base ho hi => .inr ⟨o, base, ho, hi⟩, fun b j hk => ?_⟩, ⟨Nat.le_trans hok.size q.size, fun o x hx => ?_, hok.sep, fun b j hk => ?_⟩⟩
  · rcases hk with hk | hk
    · exact .inl hk
    · exact .inr (.inl hk.1)
  · refine (hok.obj' o x hx).imp id ?_
    rintro ⟨b, base, h1, h2, h3⟩
    refine ⟨b, base, h1, h2, h3.ext hext (q.heap b h3.lt) (fun j hk => ?_)⟩
    rcases hk with hk | hk
    · exact hk
    · have := h3.lt; omega
  · rcases hk with hk | hk
    · exact Nat.lt_of_lt_of_le (hok.K b j hk) q.size
    · exact hk.2

/-- What a call that leaves memory alone comes to: its arguments are read as data. -/
noncomputable def pureM {α : Type} (A : AC α) (F : α → Option AV) (args : List AV) : M AV := fun st =>
  match A.get .nil args with
  | some x => (F x).map fun r => (r, st)
  | none =>
    match A.get st.h args with
    | some x =>
      match F x with
      | some r => bif r.fresh then some (r, st) else none
      | none => none
    | none => none

theorem pure_entry {P : Program} {f : Nat} {α : Type} {A : AC α} {F : α → Option AV} (h : ∀ x r, F x = some r → CallPure P f (A.E x) r) (args : List AV) : CallG P f args (pureM A F args) := by
  intro g st w vs r st' hok hfree hrel hm
  have go : ∀ (X : Value → World → Prop), PureRun P f vs w X → (∀ v w', X v w' → Quiet w w' ∧ Rel (g.more w w') w' r v) → st' = st →
      (∃ v w' g', (callFunc f vs.toArray).run P w = .ok (.value v) w' ∧ Step g st.h w st.nx st'.nx g' st'.h w' ∧ Ok g' st'.h w' ∧ Rel g' w' r v) ∨
      ((callFunc f vs.toArray).run P w = .ok (.enter f vs.toArray) w ∧ Calls P f vs.toArray w (fun e w' => ∃ v g', e = .returned v ∧ Step g st.h w st.nx st'.nx g' st'.h w' ∧ Ok g' st'.h w' ∧ Rel g' w' r v)) := by
    intro X hx hX e
    subst e
    rcases hx with ⟨v, h1, h2⟩ | ⟨h1, h2⟩
    · obtain ⟨q, hr⟩ := hX v w h2
      have := quiet_step (lo := st'.nx) (hi := st'.nx) hok q
      exact .inl ⟨v, w, _, h1, this.1, this.2, hr⟩
    · refine .inr ⟨h1, h2.mono ?_⟩
      rintro e w' ⟨v, rfl, h3⟩
      obtain ⟨q, hr⟩ := hX v w' h3
      have := quiet_step (lo := st'.nx) (hi := st'.nx) hok q
      exact ⟨v, _, rfl, this.1, this.2, hr⟩
  unfold pureM at hm
  cases h1 : A.get .nil args with
  | some x =>
    rw [h1] at hm
    simp only [Option.map_eq_some_iff] at hm
    obtain ⟨r', h2, h3⟩ := hm
    cases h3
    have hargs := A.ok (b0 := w.heap.size) (hok.part (hm := .nil) (fun o x hx => by rw [Tr.get_nil] at hx; cases hx)) (Lends.nil g g.K (fun _ _ h => h)) hrel h1
    refine go _ (h x r h2 g.K w vs hok.K hargs) (fun v w' hv => ⟨hv.1, hv.2.lift hok.size (fun b j hk => hk)⟩) rfl
  | none =>
    rw [h1] at hm
    simp only at hm
    cases h2 : A.get st.h args with
    | none => rw [h2] at hm; cases hm
    | some x =>
      rw [h2] at hm
      simp only at hm
      cases h3 : F x with
      | none => rw [h3] at hm; cases hm
      | some r' =>
        rw [h3] at hm
        simp only at hm
        cases h4 : r'.fresh with
        | false => rw [h4] at hm; cases hm
        | true =>
          rw [h4] at hm
          cases hm
          have hargs := A.ok (b0 := w.heap.size) (K := fun b _ => b < w.heap.size) hok ⟨fun b j hk => hok.K b j hk, fun o cells k s e ho b base hi j hj => by
            obtain ⟨b', base', h5, _, h6⟩ := hok.obj o _ ho
            rw [hi] at h5; cases h5
            exact h6.lt⟩ hrel h2
          refine go _ (h x r h3 (fun b _ => b < w.heap.size) w vs (fun _ _ h => h) hargs) (fun v w' hv => ⟨hv.1, hv.2.fresh h4 hok.size (fun b j hk hle => ?_)⟩) rfl
          rcases hk with hk | hk
          · omega
          · exact .inr hk

theorem TabOk.nil (P : Program) : TabOk P [] := fun f b m h => by cases h
theorem TabOk.cons {P : Program} {f : Nat} {b : Bool} {m : List AV → M AV} {T : Tab} (h : ∀ args, CallG P f args (m args)) (hT : TabOk P T) : TabOk P ((f, b, m) :: T) := by
  intro f' b' m' hf args
  simp only [Tab.find] at hf
  by_cases e : f = f'
  · subst e
    simp only [Nat.beq_refl, cond_true, Option.some.injEq] at hf
    cases hf
    exact h args
  · rw [beq_no e, cond_false] at hf
    exact hT f' b' m' hf args

end
end Go.Vm
