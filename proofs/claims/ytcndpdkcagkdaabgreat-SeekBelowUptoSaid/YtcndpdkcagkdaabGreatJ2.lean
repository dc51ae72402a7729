/- A piece of the proof. Proved: where the arguments are together of bulk at most 1048576, the law SeekBelow returns true (under a name that is not there, and beyond a cut), and what it was given reads afterwards as it did before. No other conditions. -/
import Derived.WalkKit
import Derived.CallsIn
import Derived.RangeFuncIn
import Derived.RangeFuncLeaves
import Derived.Orders
import Derived.OrdersIn
import Derived.Scope
import Derived.RangeFuncOwn
import Derived.Stop.SameAnswer
import Derived.Laws.Externs
import Derived.Lib.Bytealg
import Derived.ProofKit
import Derived.OpenShut
import Derived.ReadAgain
import Derived.Deep.Slices
import Derived.ChangeSame
import Derived.Test.YtcndpdkcagkdaabGreatProg
import Derived.KernelRfl
import Derived.Test.YtcndpdkcagkdaabGreatRows
import Derived.Maps.RangeRun
import Derived.JoinedCond
import Derived.Test.YtcndpdkcagkdaabGreatJ1
set_option linter.unusedSimpArgs false
set_option linter.unusedVariables false
namespace Go.Vm
noncomputable section
structure Quiet (w w' : World) : Prop where
  size : w.heap.size ≤ w'.heap.size
  heap : ∀ b, b < w.heap.size → w'.heap[b]? = w.heap[b]?
  os : w'.os = w.os
  tape : w'.tape = w.tape
  output : w'.output = w.output
def newK (K : Nat → Nat → Prop) (w w' : World) : Nat → Nat → Prop := fun b j => K b j ∨ (w.heap.size ≤ b ∧ b < w'.heap.size)
def PureRun (P : Program) (f : Nat) (vs : List Value) (w : World) (X : Value → World → Prop) : Prop :=
  (∃ v, (callFunc f vs.toArray).run P w = .ok (.value v) w ∧ X v w) ∨
  ((callFunc f vs.toArray).run P w = .ok (.enter f vs.toArray) w ∧ Calls P f vs.toArray w (fun e w' => ∃ v, e = .returned v ∧ X v w'))
def CallPure (P : Program) (f : Nat) (args : List AV) (r : AV) : Prop :=
  ∀ (K : Nat → Nat → Prop) (w : World) (vs : List Value), (∀ b j, K b j → b < w.heap.size) → RelL (gK w.heap.size K) w args vs →
    PureRun P f vs w (fun v w' => Quiet w w' ∧ Rel (gK w.heap.size (newK K w w')) w' r v)
theorem resL_ok {P : Program} {g w nt} {L : SL} {tmps : Array Value} {st : St} (hok : Ok g st.h w) (hs : RelSL g w nt L tmps) : ∀ (rs : List ResultVar) (l : List AV), resL P L st rs = some l →
    ∃ vs, (rs.mapM (resultSem tmps)).run P w = .ok vs w ∧ RelL g w l vs := by
  intro rs
  induction rs with
  | nil => intro l h; simp [resL] at h; subst h; exact ⟨[], by simp, RelL.nil _ _⟩
  | cons r rs ih =>
    intro l h
    cases r with
    | tmp t =>
      simp only [resL, Option.map_eq_some_iff] at h
      obtain ⟨l', h1, rfl⟩ := h
      obtain ⟨vs, h2, h3⟩ := ih l' h1
      refine ⟨tmps.getD t undef :: vs, ?_, RelL.cons (hs.2 t) h3⟩
      simp only [List.mapM_cons, Sem.run_bind, resultSem, Sem.run_pure, Result.andThen_ok, h2]
    | cell c t =>
      simp only [resL] at h
      split at h
      · rename_i v st' hl
        rw [Option.map_eq_some_iff] at h
        obtain ⟨l', h1, rfl⟩ := h
        obtain ⟨vs, h2, h3⟩ := ih l' h1
        have hrel := hs.2 c
        have hptr : ∃ ad, tmps.getD c undef = .pointer (some ad) := by
          generalize lk L c = x at hrel hl
          generalize tmps.getD c undef = v at hrel
          cases hrel <;> first | exact ⟨_, rfl⟩ | cases hl
        obtain ⟨ad, had⟩ := hptr
        obtain ⟨u, h4, h5⟩ := loadVar_of (P := P) hok hrel hl had
        refine ⟨u :: vs, ?_, RelL.cons h5 h3⟩
        have h6 : (resultSem tmps (.cell c t)).run P w = .ok u w := by simp [resultSem, had, asAddr, h4]
        simp only [List.mapM_cons, Sem.run_bind, h6, Result.andThen_ok, h2]
        rfl
      · cases h
theorem pack_ok {P : Program} {g w} {fn : Func} {tmps : Array Value} {l : List AV} {vs : List Value} (h : (fn.results.toList.mapM (resultSem tmps)).run P w = .ok vs w) (q4 : RelL g w l vs) :
    ∃ v, (results fn tmps).run P w = .ok v w ∧ Rel g w (pack l) v := by
  have hmap : (fn.results.mapM (resultSem tmps)).run P w = .ok vs.toArray w := by
    rw [Array.mapM_eq_mapM_toList]
    simp [h]
  rw [results_eq]
  simp only [Sem.run_bind, hmap, Result.andThen_ok, Sem.run_pure]
  refine ⟨_, rfl, ?_⟩
  match l, vs, q4 with
  | [a1], [v1], q4 => simpa [pack] using q4.head
  | [], [], q4 => simp [pack]; exact .tup _ _ rfl (fun i a v h _ => by simp at h)
  | a1 :: a2 :: l, v1 :: v2 :: vs, q4 =>
    simp [pack]
    exact .tup _ _ (by have := q4.1; simp at this ⊢; omega) (fun i a v h1 h2 => q4.2 i a v h1 (by simpa using h2))
  | [], v :: vs, q4 => have := q4.1; simp at this
  | a :: l, [], q4 => have := q4.1; simp at this
  | [a1], v1 :: v2 :: vs, q4 => have := q4.1; simp at this
  | a1 :: a2 :: l, [v1], q4 => have := q4.1; simp at this
theorem callPure_of_wl {P : Program} {T : Tab} (hT : TabOk P T) (hm : P.follows .mixedOrders = true) {f : Nat} {fn : Func} {body : Code} (hf : P.funcs[f]? = some fn) (hb : fn.body = some body) (he : entered P f = true) (hs : slotsIn fn.ntmps body = true)
    {args : List AV} (hl : args.length ≤ fn.ntmps) {ρ : Type} (R : RC ρ) (fr : Bool) (x : ρ)
    (h : wl P T 0 body (retQ P fn.results.toList (fun r st => R.get fr st.h r = some x)) (argsL 0 args) (stK [])) : CallPure P f args (R.E fr x) := by
  intro K w vs hK hrel
  refine .inr ⟨entered_ok he _ _, calls_of_callsIn (ro := none) (n := 0) (callsIn_of_wp_marks hf hb trivial ?_)⟩
  let B : BaseP := { b0 := w.heap.size, w, K, O := fun _ => False, pin := 0, pb := fun _ => none, n0 := w.heap.size }
  have hcur : Cur B (gK w.heap.size K) (stK []) w := by
    refine ⟨⟨Nat.le_refl _, fun o x hx => ?_, fun o o' x x' b base base' _ hx => ?_, hK⟩, fun o _ _ => rfl, ⟨rfl, (fun o ho => (by rcases ho with ho | ho; cases ho; exact ho.elim)), fun _ _ h => h, fun _ _ _ => rfl, Nat.le_refl _, rfl, rfl, rfl, fun _ _ _ => rfl, fun o b base ho => ?_, fun _ _ h => .inl h, fun b cs e fr h => ⟨cs, fr, h, rfl⟩, fun b l h => ⟨l, h⟩⟩, Nat.zero_le _⟩
    · simp [stK, heapK, Tr.get_nil] at hx
    · simp [stK, heapK, Tr.get_nil] at hx
    · simp [stK, heapK, Tr.get_nil] at ho
  refine wpIn_mono (wl_ok hT hm (N := 0) (B := B) (nt := fn.ntmps) (fun _ h => h) (by show (0 : Nat) ≤ 1000; omega) (Nat.le_refl _) body hs _ _ _ (gK w.heap.size K) w _ h hcur (relSL_args hrel hl) (Marks.nil _ _ _ _)) ?_
  rintro ex a w' ⟨e, L, st, g, rfl, hq, hc, hr, hd⟩
  have fin : retR (resL P L st fn.results.toList) (fun r st => R.get fr st.h r = some x) st → bodyPostM (fence none) 0 P fn (fun e w' => ∃ v, e = .returned v ∧ Quiet w w' ∧ Rel (gK w.heap.size (newK K w w')) w' (R.E fr x) v) .ret a w' := by
    intro hq
    show LeavesInM (fence none) 0 P fn a.tmps _ a.defers .returning w'
    unfold retR at hq
    cases hres : resL P L st fn.results.toList with
    | none => rw [hres] at hq; exact hq.elim
    | some l =>
      rw [hres] at hq
      have hbs := hc.base
      obtain ⟨bs, e1, e2, e3⟩ := hd
      rw [e1]
      refine leaves_good (Good := fun u => Ok g st.h u ∧ Quiet w u ∧ (∀ a v, Rel g w' a v → Rel g u a v) ∧ u.heap.size = w'.heap.size) (S := fun b => w.heap.size ≤ b ∧ Unowned g st.h b) ?_ ?_ bs w'
        ⟨hc.ok, ⟨hbs.size, fun b hlt => hbs.frame b hlt (fun h => h), hbs.os, hbs.tape, hbs.output⟩, fun _ _ h => h, rfl⟩ e2 (fun b hb => ⟨⟨(e3 b hb).1, (e3 b hb).2.2⟩, (e3 b hb).2.1⟩)
      · rintro u b ⟨g1, g2, g3, g4⟩ ⟨hb1, hb2⟩ hb3
        have hput := Ok.put_unowned (ds' := none) g1 hb3 hb2
        exact ⟨hput.1, ⟨by rw [putB_size]; exact g2.size, fun c hc => (putB_other u _ (by omega)).trans (g2.heap c hc), g2.os, g2.tape, g2.output⟩, fun a v h => hput.2 a v (g3 a v h), by rw [putB_size]; exact g4⟩
      · rintro u ⟨g1, g2, g3, g4⟩
        obtain ⟨us, h1, h2⟩ := resL_ok (P := P) g1 ⟨hr.1, fun t => g3 _ _ (hr.2 t)⟩ fn.results.toList l hres
        obtain ⟨v, h3, h4⟩ := pack_ok h1 h2
        refine ⟨v, h3, v, rfl, g2, ?_⟩
        refine R.ok g1 ⟨fun b j hk => ?_, fun o cells k s e ho b base hi j hj => ?_⟩ (fun _ => ?_) h4 hq
        · rcases hbs.Kold b j hk with h5 | h5 | h5
          · exact .inl h5
          · exact .inr ⟨h5, g1.K b j hk⟩
          · exact h5.elim
        · obtain ⟨b', base', h5, _, h6⟩ := g1.obj o _ ho
          rw [hi] at h5; cases h5
          rcases hbs.own o b base (by rw [ho]; rfl) hi with h7 | h7
          · exact .inr ⟨h7, h6.lt⟩
          · exact h7.elim
        · rw [hbs.b0]; exact Nat.le_refl _
  cases e with
  | normal => exact fin hq
  | ret => exact fin hq
  | exit id => exact hq.elim
theorem Rel.lift {b0 K g w a v} (h : Rel (gK b0 K) w a v) (hb : g.b0 ≤ b0) (hK : ∀ b j, K b j → g.K b j) : Rel g w a v := by
  have hno : ∀ o p, (gK b0 K).inj o ≠ some p := fun o p e => by cases e
  generalize hg : gK b0 K = g0 at h hno
  have hK' : ∀ b j, g0.K b j → g.K b j := by subst hg; exact hK
  have hb' : g.b0 ≤ g0.b0 := by subst hg; exact hb
  clear hg
  induction h with
  | sc x => exact .sc x
  | agg l vs hs _ ih => exact .agg l vs hs ih
  | tup l vs hs _ ih => exact .tup l vs hs ih
  | vl loc sz es b off cap c hsz hl hcap h _ ih => exact .vl loc sz es b off cap c hsz (fun e => Nat.le_trans hb' (hl e)) hcap (fun j a hj => ⟨hK' _ _ (h j a hj).1, (h j a hj).2⟩) ih
  | vlnil loc sz => exact .vlnil loc sz
  | vlz loc sz a => exact .vlz loc sz a
  | sl o off len sz b base cap hi hc hm hr => exact (hno _ _ hi).elim
  | slz o off sz a => exact .slz o off sz a
  | sln o off sz => exact .sln o off sz
  | ez a => exact .ez a
  | ptr o off b base hi => exact (hno _ _ hi).elim
  | cptr l b off c h _ ih => exact .cptr l b off c (fun j a hj => ⟨hK' _ _ (h j a hj).1, (h j a hj).2⟩) ih
  | fn f first captured va vb hs _ hs' _ ih ih' => exact .fn f first captured va vb hs ih hs' ih'
  | mp o b base hi => exact (hno _ _ hi).elim
  | ifc t a v _ ih => exact .ifc t a v ih
  | yl o b base hi => exact (hno _ _ hi).elim
  | bad v => exact .bad v
theorem freshGo {l : List AV} (h : AV.fresh.go l = true) : ∀ a ∈ l, a.fresh = true := by
  induction l with
  | nil => intro a ha; cases ha
  | cons x l ih =>
    simp only [AV.fresh.go, Bool.and_eq_true] at h
    intro a ha
    rcases List.mem_cons.1 ha with rfl | ha
    · exact h.1
    · exact ih h.2 a ha
theorem fresh_cells {a : AV} (h : a.fresh = true) : ∀ c ∈ a.cells, c.fresh = true := by
  cases a with
  | agg l => exact freshGo h
  | sc v => intro c hc; simp only [AV.cells, List.mem_map] at hc; obtain ⟨x, _, rfl⟩ := hc; rfl
  | _ => intro c hc; simp only [AV.cells, List.mem_singleton] at hc; subst hc; exact h
theorem Rel.fresh {b0 K g w a v} (h : Rel (gK b0 K) w a v) (hf : a.fresh = true) (hb : g.b0 ≤ b0) (hK : ∀ b j, K b j → b0 ≤ b → g.K b j) : Rel g w a v := by
  generalize hg : gK b0 K = g0 at h
  have hK' : ∀ b j, g0.K b j → g0.b0 ≤ b → g.K b j := by subst hg; exact hK
  have hb' : g.b0 ≤ g0.b0 := by subst hg; exact hb
  clear hg hb hK
  induction h with
  | sc x => exact .sc x
  | agg l vs hs _ ih => exact .agg l vs hs (fun i a v ha hv => ih i a v ha hv (freshGo hf a (List.mem_of_getElem? ha)))
  | tup l vs hs _ ih => exact .tup l vs hs (fun i a v ha hv => ih i a v ha hv (freshGo hf a (List.mem_of_getElem? ha)))
  | vl loc sz es b off cap c hsz hl hcap h _ ih =>
    simp only [AV.fresh, Bool.and_eq_true] at hf
    have hbb := hl hf.1
    refine .vl loc sz es b off cap c hsz (fun e => Nat.le_trans hb' hbb) hcap (fun j a hj => ⟨hK' _ _ (h j a hj).1 hbb, (h j a hj).2⟩) (fun j a hj => ih j a hj ?_)
    obtain ⟨e, he, hc⟩ := List.mem_flatMap.1 (List.mem_of_getElem? hj)
    exact fresh_cells (freshGo hf.2 e he) a hc
  | vlnil loc sz => exact .vlnil loc sz
  | vlz loc sz a => exact .vlz loc sz a
  | sl o off len sz b base cap hi hc hm hr => cases hf
  | slz o off sz a => cases hf
  | sln o off sz => cases hf
  | ez a => exact .ez a
  | ptr o off b base hi => cases hf
  | cptr l b off c h _ ih => cases hf
  | fn f first captured va vb hs _ hs' _ ih ih' =>
    simp only [AV.fresh, Bool.and_eq_true] at hf
    exact .fn f first captured va vb hs (fun i a v ha hv => ih i a v ha hv (freshGo hf.1 a (List.mem_of_getElem? ha))) hs' (fun i a v ha hv => ih' i a v ha hv (freshGo hf.2 a (List.mem_of_getElem? ha)))
  | mp o b base hi => cases hf
  | ifc t a v _ ih => exact .ifc t a v (ih hf)
  | yl o b base hi => cases hf
  | bad v => cases hf
def Gh.more (g : Gh) (w w' : World) : Gh := { g with K := newK g.K w w' }
theorem quiet_step {g h w w'} {lo hi : Nat} (hok : Ok g h w) (q : Quiet w w') : Step g h w lo hi (g.more w w') h w' ∧ Ok (g.more w w') h w' := by
  have hext : Ext g w (g.more w w') w' := by
    refine ⟨rfl, fun _ _ h => h, fun _ _ h => .inl h, fun b j hj => cell_heap (q.heap b (hok.K b j hj)), fun b cs e fr hb => ⟨cs, fr, (q.heap b (lt_of_heap hb)).trans hb, rfl⟩, fun b l hb => ⟨l, (q.heap b (lt_of_heap hb)).trans hb⟩⟩
  refine ⟨⟨hext, q.size, q.os, q.tape, q.output, fun b hb _ => q.heap b hb, fun _ h _ => h, fun o b base ho hi => .inr ⟨o, base, ho, hi⟩, fun b j hk => ?_⟩, ⟨Nat.le_trans hok.size q.size, fun o x hx => ?_, hok.sep, fun b j hk => ?_⟩⟩
  · rcases hk with hk | hk
    · exact .inl hk
    · exact .inr (.inl hk.1)
  · refine (hok.obj' o x hx).imp id ?_
    rintro ⟨b, base, h1, h2, h3⟩
    refine ⟨b, base, h1, h2, h3.ext hext (q.heap b h3.lt) (fun j hk => ?_)⟩
    rcases hk with hk | hk
    · exact hk
    · have := h3.lt; omega
  · rcases hk with hk | hk
    · exact Nat.lt_of_lt_of_le (hok.K b j hk) q.size
    · exact hk.2
noncomputable def pureM {α : Type} (A : AC α) (F : α → Option AV) (args : List AV) : M AV := fun st =>
  match A.get .nil args with
  | some x => (F x).map fun r => (r, st)
  | none =>
    match A.get st.h args with
    | some x =>
      match F x with
      | some r => bif r.fresh then some (r, st) else none
      | none => none
    | none => none
theorem pure_entry {P : Program} {f : Nat} {α : Type} {A : AC α} {F : α → Option AV} (h : ∀ x r, F x = some r → CallPure P f (A.E x) r) (args : List AV) : CallG P f args (pureM A F args) := by
  intro g st w vs r st' hok hfree hrel hm
  have go : ∀ (X : Value → World → Prop), PureRun P f vs w X → (∀ v w', X v w' → Quiet w w' ∧ Rel (g.more w w') w' r v) → st' = st →
      (∃ v w' g', (callFunc f vs.toArray).run P w = .ok (.value v) w' ∧ Step g st.h w st.nx st'.nx g' st'.h w' ∧ Ok g' st'.h w' ∧ Rel g' w' r v) ∨
      ((callFunc f vs.toArray).run P w = .ok (.enter f vs.toArray) w ∧ Calls P f vs.toArray w (fun e w' => ∃ v g', e = .returned v ∧ Step g st.h w st.nx st'.nx g' st'.h w' ∧ Ok g' st'.h w' ∧ Rel g' w' r v)) := by
    intro X hx hX e
    subst e
    rcases hx with ⟨v, h1, h2⟩ | ⟨h1, h2⟩
    · obtain ⟨q, hr⟩ := hX v w h2
      have := quiet_step (lo := st'.nx) (hi := st'.nx) hok q
      exact .inl ⟨v, w, _, h1, this.1, this.2, hr⟩
    · refine .inr ⟨h1, h2.mono ?_⟩
      rintro e w' ⟨v, rfl, h3⟩
      obtain ⟨q, hr⟩ := hX v w' h3
      have := quiet_step (lo := st'.nx) (hi := st'.nx) hok q
      exact ⟨v, _, rfl, this.1, this.2, hr⟩
  unfold pureM at hm
  cases h1 : A.get .nil args with
  | some x =>
    rw [h1] at hm
    simp only [Option.map_eq_some_iff] at hm
    obtain ⟨r', h2, h3⟩ := hm
    cases h3
    have hargs := A.ok (b0 := w.heap.size) (hok.part (hm := .nil) (fun o x hx => by rw [Tr.get_nil] at hx; cases hx)) (Lends.nil g g.K (fun _ _ h => h)) hrel h1
    refine go _ (h x r h2 g.K w vs hok.K hargs) (fun v w' hv => ⟨hv.1, hv.2.lift hok.size (fun b j hk => hk)⟩) rfl
  | none =>
    rw [h1] at hm
    simp only at hm
    cases h2 : A.get st.h args with
    | none => rw [h2] at hm; cases hm
    | some x =>
      rw [h2] at hm
      simp only at hm
      cases h3 : F x with
      | none => rw [h3] at hm; cases hm
      | some r' =>
        rw [h3] at hm
        simp only at hm
        cases h4 : r'.fresh with
        | false => rw [h4] at hm; cases hm
        | true =>
          rw [h4] at hm
          cases hm
          have hargs := A.ok (b0 := w.heap.size) (K := fun b _ => b < w.heap.size) hok ⟨fun b j hk => hok.K b j hk, fun o cells k s e ho b base hi j hj => by
            obtain ⟨b', base', h5, _, h6⟩ := hok.obj o _ ho
            rw [hi] at h5; cases h5
            exact h6.lt⟩ hrel h2
          refine go _ (h x r h3 (fun b _ => b < w.heap.size) w vs (fun _ _ h => h) hargs) (fun v w' hv => ⟨hv.1, hv.2.fresh h4 hok.size (fun b j hk hle => ?_)⟩) rfl
          rcases hk with hk | hk
          · omega
          · exact .inr hk
theorem TabOk.nil (P : Program) : TabOk P [] := fun f b m h => by cases h
theorem TabOk.cons {P : Program} {f : Nat} {b : Bool} {m : List AV → M AV} {T : Tab} (h : ∀ args, CallG P f args (m args)) (hT : TabOk P T) : TabOk P ((f, b, m) :: T) := by
  intro f' b' m' hf args
  simp only [Tab.find] at hf
  by_cases e : f = f'
  · subst e
    simp only [Nat.beq_refl, cond_true, Option.some.injEq] at hf
    cases hf
    exact h args
  · rw [beq_no e, cond_false] at hf
    exact hT f' b' m' hf args
end
end Go.Vm
namespace Go.Vm
noncomputable section
def baseC (g : Gh) (st : St) (w : World) : BaseP := { baseAt g st.h w st.nx (fun _ => False) with n0 := w.heap.size }
theorem Cur.ofC {g st w} (hok : Ok g st.h w) (hfr : ∀ o, st.nx ≤ o → g.inj o = none) : Cur (baseC g st w) g st w :=
  ⟨hok, fun o h1 _ => hfr o h1, ⟨rfl, fun _o _ho => rfl, fun _ _ h => h, fun _ _ _ => rfl, Nat.le_refl _, rfl, rfl, rfl, fun _ _ _ => rfl, fun o _b base ho hi => .inr (.inr ⟨o, base, ho, hi⟩), fun _ _ h => .inl h,
    fun _b cs _e fr h => ⟨cs, fr, h, rfl⟩, fun _b l h => ⟨l, h⟩⟩, Nat.le_refl _⟩
theorem Cur.backC {g st w g' st' w'} (h : Cur (baseC g st w) g' st' w') (hfr : ∀ o, st.nx ≤ o → g.inj o = none) : Step g st.h w st.nx st'.nx g' st'.h w' := by
  have b := h.base
  have pins : ∀ o, o < st.nx → g'.inj o = g.inj o := fun o ho => b.pins o (.inl ho)
  refine ⟨⟨b.b0, fun o p hp => ?_, b.K, b.cell, b.blk, b.lp⟩, b.size, b.os, b.tape, b.output, fun c hc hn => b.frame c hc (fun hO => ?_), fun o ho hr => ?_, fun o c base ho hi => ?_, fun c j hk => ?_⟩
  · by_cases h1 : st.nx ≤ o
    · rw [hfr o h1] at hp; cases hp
    · rw [pins o (by omega)]; exact hp
  · rcases hO with hO | ⟨o, base, h1, h2⟩
    · exact hO
    · exact hn o base h1 h2
  · by_cases h1 : o < st.nx
    · rw [pins o h1]; exact ho
    · exact h.fresh o (by omega) (fun hf => hf)
  · rcases b.own o c base ho hi with h1 | h1 | h1
    · exact .inl h1
    · exact h1.elim
    · exact .inr h1
  · rcases b.Kold c j hk with h1 | h1 | h1 | h1
    · exact .inl h1
    · exact .inr (.inl h1)
    · exact h1.elim
    · exact .inr (.inr h1)
theorem callAt_of_wl {P : Program} {T : Tab} (hT : TabOk P T) (hm : P.follows .mixedOrders = true) {f : Nat} {fn : Func} {body : Code} (hf : P.funcs[f]? = some fn) (hb : fn.body = some body) (he : entered P f = true) (hs : slotsIn fn.ntmps body = true)
    {args : List AV} (hl : Nat.ble args.length fn.ntmps = true) {st : St} (hp : Nat.ble st.nx 1000 = true) {R : AV → St → Prop}
    (h : wl P T st.nx body (retQ P fn.results.toList R) (argsL 0 args) st) : CallAt P f args st R := by
  intro g w vs hok hfr hrel
  refine .inr ⟨entered_ok he _ _, calls_of_callsIn (ro := none) (n := 0) (callsIn_of_wp_marks hf hb trivial ?_)⟩
  have hcur := Cur.ofC (w := w) hok hfr
  refine wpIn_mono (wl_ok hT hm (N := 0) (B := baseC g st w) (nt := fn.ntmps) (fun _ h => h) (Nat.le_of_ble_eq_true hp) (Nat.le_refl _) body hs _ _ _ g w _ h hcur (relSL_args hrel (Nat.le_of_ble_eq_true hl)) (Marks.nil _ _ _ _)) ?_
  rintro ex a w' ⟨e, L, st', g', rfl, hq, hc, hr, hd⟩
  have fin : retR (resL P L st' fn.results.toList) R st' → bodyPostM (fence none) 0 P fn (fun e w' => ∃ v g' r st', e = .returned v ∧ R r st' ∧ st.nx ≤ st'.nx ∧ Step g st.h w st.nx st'.nx g' st'.h w' ∧ Ok g' st'.h w' ∧ Rel g' w' r v) .ret a w' := by
    intro hq
    show LeavesInM (fence none) 0 P fn a.tmps _ a.defers .returning w'
    unfold retR at hq
    cases hres : resL P L st' fn.results.toList with
    | none => rw [hres] at hq; exact hq.elim
    | some l =>
      rw [hres] at hq
      obtain ⟨bs, e1, e2, e3⟩ := hd
      rw [e1]
      refine leaves_good (Good := fun u => Ok g' st'.h u ∧ Step g st.h w st.nx st'.nx g' st'.h u ∧ (∀ a v, Rel g' w' a v → Rel g' u a v)) (S := fun b => w.heap.size ≤ b ∧ Unowned g' st'.h b) ?_ ?_ bs w'
        ⟨hc.ok, hc.backC hfr, fun _ _ h => h⟩ e2 (fun b hb => ⟨⟨(e3 b hb).1, (e3 b hb).2.2⟩, (e3 b hb).2.1⟩)
      · rintro u b ⟨g1, g2, g3⟩ ⟨hb1, hb2⟩ hb3
        have hput := Ok.put_unowned (ds' := none) g1 hb3 hb2
        exact ⟨hput.1, Step.put_late (ds' := none) hok g2 hb1, fun a v h => hput.2 a v (g3 a v h)⟩
      · rintro u ⟨g1, g2, g3⟩
        obtain ⟨us, h1, h2⟩ := resL_ok (P := P) g1 ⟨hr.1, fun t => g3 _ _ (hr.2 t)⟩ fn.results.toList l hres
        obtain ⟨v, h3, h4⟩ := pack_ok h1 h2
        exact ⟨v, h3, v, g', _, st', rfl, hq, hc.pin, g2, g1, h4⟩
  cases e with
  | normal => exact fin hq
  | ret => exact fin hq
  | exit id => exact hq.elim
end
end Go.Vm
namespace Go.Vm
noncomputable section
section code
variable (P : Program) (T : Tab) (pin : Nat) (Q : QL) (L : SL) (st : St)
theorem wl_skip : wl P T pin .skip Q L st = Q .normal L st := id rfl
theorem wl_label (l) : wl P T pin (.label l) Q L st = Q .normal L st := id rfl
theorem wl_region (i ops d) : wl P T pin (.region i ops d) Q L st = regionL P T ops d (Q .normal) L st := id rfl
theorem wl_seq (a b) : wl P T pin (.seq a b) Q L st = wl P T pin a (seqQ (wl P T pin b) Q) L st := id rfl
theorem wl_cond (c a b) : wl P T pin (.cond c a b) Q L st = boolK (evL L c) (wl P T pin a Q) (wl P T pin b Q) L st := id rfl
theorem wl_block (i b) : wl P T pin (.block i b) Q L st = wl P T pin b (blkQ i Q) L st := id rfl
theorem wl_loop (b) : wl P T pin (.loop b) Q L st = LoopL pin (wl P T pin b) Q L st := id rfl
theorem wl_scope (b) : wl P T pin (.scope b) Q L st = wl P T pin b Q L st := id rfl
theorem wl_exit (i) : wl P T pin (.exit i) Q L st = Q (.exit i) L st := id rfl
theorem wl_ret : wl P T pin .ret Q L st = Q .ret L st := id rfl
theorem seqQ_n (W) : seqQ W Q .normal L st = W Q L st := id rfl
theorem seqQ_e (W i) : seqQ W Q (.exit i) L st = Q (.exit i) L st := id rfl
theorem seqQ_r (W) : seqQ W Q .ret L st = Q .ret L st := id rfl
theorem blkQ_n (i) : blkQ i Q .normal L st = Q .normal L st := id rfl
theorem blkQ_r (i) : blkQ i Q .ret L st = Q .ret L st := id rfl
theorem blkQ_e (i j) : blkQ i Q (.exit j) L st = bif Nat.beq j i then Q .normal L st else Q (.exit j) L st := id rfl
theorem headQ_n (keep X) : headQ pin keep X Q .normal L st = X (canonV pin keep L st) (canonO pin keep L st) := id rfl
theorem headQ_e (keep X i) : headQ pin keep X Q (.exit i) L st = Q (.exit i) L st := id rfl
theorem headQ_r (keep X) : headQ pin keep X Q .ret L st = Q .ret L st := id rfl
theorem retQ_n (rs R) : retQ P rs R .normal L st = retR (resL P L st rs) R st := id rfl
theorem retQ_r (rs R) : retQ P rs R .ret L st = retR (resL P L st rs) R st := id rfl
theorem regionL_f (ops K) : regionL P T ops false K L st = opsL P T ops ops.toList K L st := id rfl
theorem opsL_nil (ops K) : opsL P T ops [] K L st = K L st := id rfl
theorem opsL_cons (ops o r K) : opsL P T ops (o :: r) K L st = guardedK ops o.guard (opDo P T o (opsL P T ops r K)) (opSkip o.dst (opsL P T ops r K)) L st := id rfl
theorem opsD_nil (ops K recs) : opsD P T ops [] K recs L st = (calmAll (Region.before ops) 0 recs = true ∧ K L st) := id rfl
theorem opsD_cons (ops o r K recs) : opsD P T ops (o :: r) K recs L st = guardedK ops o.guard (opDoD P T o recs (opsD P T ops r K)) (opSkip o.dst (opsD P T ops r K (recs ++ [⟨[], []⟩]))) L st := id rfl
theorem guardedK_n (ops X Y) : guardedK ops none X Y L st = X L st := id rfl
theorem guardedK_t (ops j c X Y) : guardedK ops (some (j, c)) X Y L st = guardK (lk L (gslot ops j)) c X Y L st := id rfl
theorem guardK_t (b : Bool) (X Y : SL → St → Prop) : guardK (.sc (.bool b)) true X Y L st = boolK (.sc (.bool b)) X Y L st := by cases b <;> simp [guardK, wantP, wantA, wantV, boolK, boolAV, AV.bool, AV.exact, boolOf]
theorem guardK_f (b : Bool) (X Y : SL → St → Prop) : guardK (.sc (.bool b)) false X Y L st = boolK (.sc (.bool b)) Y X L st := by cases b <;> simp [guardK, wantP, wantA, wantV, boolK, boolAV, AV.bool, AV.exact, boolOf]
theorem guardK_u (c : Bool) (X Y : SL → St → Prop) : guardK (.sc undef) c X Y L st = Y L st := by simp [guardK, wantP, wantA, wantV, AV.exact, undef]
theorem opDo_eq (o K) : opDo P T o K L st = afterE (operL P T o (evL L) st) P o L st K := id rfl
theorem afterE_s (v o K st') : afterE (some (v, st')) P o L st K = K (putL o.dst v L) st' := id rfl
theorem contK_eq (K d r) : contK K d L r st = K (putL d r L) st := id rfl
theorem drawnK_s (ro F o recs K v st1) : drawnK ro F o recs K L st (some (v, st1)) = ((allLt st.nx F = true ∧ Nat.ble st1.nx limit = true) ∧ same (maskH st.h F) st1.h (bif ro then F else []) ∧
    K (recs ++ [⟨F, (bif ro then [] else F) ++ fromTo st.nx (st1.nx - st.nx)⟩]) (putL o.dst v L) { h := mergeH st1.h (F ++ fromTo st.nx (st1.nx - st.nx)) st.h, nx := st1.nx, rl := [], wl := [] }) := id rfl
theorem opSkip_eq (d K) : opSkip d K L st = K (putL d (.sc undef) L) st := id rfl
theorem boolK_b (b X Y) : boolK (.sc (.bool b)) X Y L st = ((b = true → X L st) ∧ (b = false → Y L st)) := id rfl
theorem boolK_t (X Y) : boolK (.sc (.bool true)) X Y L st = X L st := by simp [boolK, boolAV, AV.bool, AV.exact, boolOf]
theorem boolK_f (X Y) : boolK (.sc (.bool false)) X Y L st = Y L st := by simp [boolK, boolAV, AV.bool, AV.exact, boolOf]
theorem afterOp_s (v d K) : afterOp (some (v, st)) d L K = K (putL d v L) st := id rfl
theorem putL_some (d v) : putL (some d) v L = (d, v) :: L := id rfl
theorem putL_none (v) : putL none v L = L := id rfl
theorem retR_s (l R) : retR (some l) R st = R (pack l) st := id rfl
theorem lk_hit (d v) : lk ((d, v) :: L) d = v := by simp [lk]
theorem lk_miss (d t v) (h : (d == t) = false) : lk ((d, v) :: L) t = lk L t := by
  have e : d ≠ t := by simpa using h
  rw [lk_cons, if_neg e]
theorem evL_t (t) : evL L (.tmp t) = lk L t := id rfl
theorem evL_c (v) : evL L (.const v) = .sc v := id rfl
theorem evL_f (f) : evL L (.func f) = .sc (.func (.func f) #[] #[]) := id rfl
theorem resL_n : resL P L st [] = some [] := id rfl
theorem resL_t (t r) : resL P L st (.tmp t :: r) = (resL P L st r).map (lk L t :: ·) := id rfl
theorem resL_c (a t r) : resL P L st (.cell a t :: r) = match opLoad P t (lk L a) st with | some (v, _) => (resL P L st r).map (v :: ·) | none => none := id rfl
end code
section ops
variable (P : Program) (T : Tab) (ρ : Operand → AV) (d : Option Tmp) (ty : TypeId) (pos : String) (af : Array Edge) (gd : Option (Nat × Bool))
theorem operL_move (x) : operL P T ⟨d, .move x, ty, pos, af, gd⟩ ρ = mono (M.pure (ρ x)) := id rfl
theorem operL_assign (x) : operL P T ⟨d, .assign x, ty, pos, af, gd⟩ ρ = mono (M.pure (ρ x)) := id rfl
theorem operL_load (t a) : operL P T ⟨d, .load t a, ty, pos, af, gd⟩ ρ = mono (opLoad P t (ρ a)) := id rfl
theorem operL_fieldAddr (s x f) : operL P T ⟨d, .fieldAddr s x f, ty, pos, af, gd⟩ ρ = mono (opFieldAddr P s (ρ x) f) := id rfl
theorem operL_binOp (op t x y u) : operL P T ⟨d, .binOp op t x y u, ty, pos, af, gd⟩ ρ = mono (opBin P ρ ⟨d, .binOp op t x y u, ty, pos, af, gd⟩ op t x y) := id rfl
theorem operL_pick (c a b) : operL P T ⟨d, .pick c a b, ty, pos, af, gd⟩ ρ = mono (opPick (ρ c) (ρ a) (ρ b)) := id rfl
theorem operL_store (t a x) : operL P T ⟨d, .store t a x, ty, pos, af, gd⟩ ρ = mono (opStore P t (ρ a) (ρ x)) := id rfl
theorem operL_extract (t i) : operL P T ⟨d, .extract t i, ty, pos, af, gd⟩ ρ = mono (opExtract (ρ t) i) := id rfl
theorem operL_indexAddr (t x i) : operL P T ⟨d, .indexAddr t x i, ty, pos, af, gd⟩ ρ = mono (opIndexAddr P t (ρ x) (ρ i)) := id rfl
theorem operL_nilCheck (x) : operL P T ⟨d, .nilCheck x, ty, pos, af, gd⟩ ρ = mono (opNilCheck (ρ x)) := id rfl
theorem operL_alloc (t) : operL P T ⟨d, .alloc t, ty, pos, af, gd⟩ ρ = mono (opAlloc P t) := id rfl
theorem operL_box (t x) : operL P T ⟨d, .box t x, ty, pos, af, gd⟩ ρ = mono (opBox t (ρ x)) := id rfl
theorem operL_build (t ps) : operL P T ⟨d, .build t ps, ty, pos, af, gd⟩ ρ = mono (opBuild P t (ps.toList.map fun p => (p.1, ρ p.2))) := id rfl
theorem operL_buildSlice (t n ps) : operL P T ⟨d, .buildSlice t n ps, ty, pos, af, gd⟩ ρ = mono (opBuildSlice P t n (ps.toList.map fun p => (p.1, ρ p.2))) := id rfl
theorem operL_makeFunc (f a b) : operL P T ⟨d, .makeFunc f a b, ty, pos, af, gd⟩ ρ = mono (M.pure (.fn f (a.toList.map ρ) (b.toList.map ρ))) := id rfl
theorem operL_convert (s u x) : operL P T ⟨d, .convert s u x, ty, pos, af, gd⟩ ρ = mono (opConvert P ρ ⟨d, .convert s u x, ty, pos, af, gd⟩ s u (ρ x)) := id rfl
theorem operL_field (s x f) : operL P T ⟨d, .field s x f, ty, pos, af, gd⟩ ρ = mono (opField P s (ρ x) f) := id rfl
theorem operL_index (t x i) : operL P T ⟨d, .index t x i, ty, pos, af, gd⟩ ρ = mono (opIndex P ρ ⟨d, .index t x i, ty, pos, af, gd⟩ t x i) := id rfl
theorem operL_slice (t x l h m) : operL P T ⟨d, .slice t x l h m, ty, pos, af, gd⟩ ρ = mono (opSlice P ρ ⟨d, .slice t x l h m, ty, pos, af, gd⟩ t x l h m) := id rfl
theorem operL_len (x ts) : operL P T ⟨d, .call { callee := .builtin .len, args := #[x], argTypes := ts }, ty, pos, af, gd⟩ ρ = mono (opLen ((ts[0]?).bind P.underlying) (ρ x)) := id rfl
theorem operL_append (s x ts) : operL P T ⟨d, .call { callee := .builtin .append, args := #[s, x], argTypes := ts }, ty, pos, af, gd⟩ ρ = mono (opAppend P ts[0]? ((ts[1]?).bind P.underlying) (ρ s) (ρ x)) := id rfl
theorem operL_call (f args ts) : operL P T ⟨d, .call { callee := .value f, args, argTypes := ts }, ty, pos, af, gd⟩ ρ = callV T (ρ f) (args.toList.map ρ) := id rfl
end ops
section monad
variable {α β : Type} (s : St)
theorem monoE (m : M α) : mono m s = match m s with | none => none | some (a, s') => bif decide (s.nx ≤ s'.nx) then some (a, s') else none := by
  have : ∀ a b, Nat.ble a b = decide (a ≤ b) := fun a b => by rw [Bool.eq_iff_iff]; simp
  unfold mono
  cases m s with
  | none => rfl
  | some p => simp only [this]
theorem bindE (m : M α) (f : α → M β) : (m.bind f) s = match m s with | none => none | some (a, s') => f a s' := id rfl
theorem pureE (a : α) : (M.pure a) s = some (a, s) := id rfl
theorem failE : (M.fail : M α) s = none := id rfl
theorem ofE_s (a : α) : (M.of (some a)) s = some (a, s) := id rfl
theorem condE (b : Bool) (m m' : M α) : (bif b then m else m') s = bif b then m s else m' s := by cases b <;> rfl
theorem hgetE (o : Nat) : hget o s = match s.h.get o with | some x => some (x, { s with rl := o :: s.rl }) | none => none := id rfl
theorem hnewE (x : AObj) : hnew x s = bif decide (s.nx ≤ limit) then some (s.nx, { s with h := s.h.set depth s.nx (some x), nx := s.nx + 1, wl := s.nx :: s.wl }) else none := by
  have : Nat.ble s.nx limit = decide (s.nx ≤ limit) := by rw [Bool.eq_iff_iff]; simp
  unfold hnew; rw [this]
theorem hsetE (o : Nat) (x : AObj) : hset o x s = match s.h.get o with | some _ => bif decide (o ≤ limit) then some ((), { s with h := s.h.set depth o (some x), wl := o :: s.wl }) else none | none => none := by
  have : Nat.ble o limit = decide (o ≤ limit) := by rw [Bool.eq_iff_iff]; simp
  unfold hset; rw [this]; rfl
theorem hdelE (o : Nat) : hdel o s = match s.h.get o with | some _ => bif decide (o ≤ limit) then some ((), { s with h := s.h.set depth o none, wl := o :: s.wl }) else none | none => none := by
  have : Nat.ble o limit = decide (o ≤ limit) := by rw [Bool.eq_iff_iff]; simp
  unfold hdel; rw [this]; rfl
theorem get_set' (t : Tr AObj) (n m : Nat) (x : Option AObj) (h : n ≤ 16777214) : (Tr.set depth t n x).get m = if m = n then x else t.get m := get_set t n m x h
theorem get_nil' (n : Nat) : (Tr.nil : Tr AObj).get n = none := id rfl
theorem bleE (a b : Nat) : Nat.ble a b = decide (a ≤ b) := by rw [Bool.eq_iff_iff]; simp
theorem bltE (a b : Nat) : Nat.blt a b = decide (a < b) := by rw [Bool.eq_iff_iff]; simp
theorem beqE (a b : Nat) : Nat.beq a b = decide (a = b) := by rw [Bool.eq_iff_iff]; simp
end monad
theorem boolAV_mono {a : AV} {x y x' y' : Prop} (h1 : x → x') (h2 : y → y') (h : boolAV a x y) : boolAV a x' y' := by
  unfold boolAV at *
  split at h
  · exact ⟨fun e => h1 (h.1 e), fun e => h2 (h.2 e)⟩
  · exact h.elim
theorem guarded_mono {ops L gd} {x y x' y' : Prop} (h1 : x → x') (h2 : y → y') (h : guarded ops L gd x y) : guarded ops L gd x' y' := by
  unfold guarded at *
  split at h
  · exact h1 h
  · unfold wantP at *
    split at h
    · exact ⟨fun e => h1 (h.1 e), fun e => h2 (h.2 e)⟩
    · exact h.elim
theorem CallAt.mono {P f args st} {R R' : AV → St → Prop} (h : ∀ r st, R r st → R' r st) (hc : CallAt P f args st R) : CallAt P f args st R' := by
  intro g w vs h1 h2 h3
  rcases hc g w vs h1 h2 h3 with ⟨v, w', g', r, st', q1, q2, q3⟩ | ⟨q1, q2⟩
  · exact .inl ⟨v, w', g', r, st', q1, h _ _ q2, q3⟩
  · refine .inr ⟨q1, q2.mono ?_⟩
    rintro e w' ⟨v, g', r, st', p1, p2, p3⟩
    exact ⟨v, g', r, st', p1, h _ _ p2, p3⟩
theorem callO_mono {P o L st} {K K' : SL → St → Prop} (h : ∀ L st, K L st → K' L st) (hc : callO P o L st K) : callO P o L st K' := by
  unfold callO callK at *
  split at hc
  · split at hc
    · exact CallAt.mono (fun r st hk => h _ _ hk) hc
    · exact hc.elim
  · exact hc.elim
theorem opsL_mono {P T ops} {K K' : SL → St → Prop} (h : ∀ L st, K L st → K' L st) : ∀ (l : List Oper) (L : SL) (st : St), opsL P T ops l K L st → opsL P T ops l K' L st
  | [], L, st, hh => h L st hh
  | o :: r, L, st, hh => guarded_mono (fun q => by
      unfold opDo afterE at *
      split at q
      · exact opsL_mono h r _ _ q
      · exact callO_mono (fun L st => opsL_mono h r L st) q) (fun q => opsL_mono h r _ _ q) hh
theorem opsD_mono {P T ops} {K K' : SL → St → Prop} (h : ∀ L st, K L st → K' L st) : ∀ (l : List Oper) (recs : List Rec) (L : SL) (st : St), opsD P T ops l K recs L st → opsD P T ops l K' recs L st
  | [], recs, L, st, hh => ⟨hh.1, h L st hh.2⟩
  | o :: r, recs, L, st, hh => guarded_mono (fun q => by
      unfold opDoD drawnF drawnK at *
      split at q
      · exact ⟨q.1, q.2.1, opsD_mono h r _ _ _ q.2.2⟩
      · exact q.elim) (fun q => opsD_mono h r _ _ _ q) hh
theorem opsX_mono {P T ops} {K K' : SL → St → Prop} (h : ∀ L st, K L st → K' L st) : ∀ (l : List Oper) (recs : List Rec) (L : SL) (st : St), opsX P T ops l K recs L st → opsX P T ops l K' recs L st
  | [], recs, L, st, hh => ⟨hh.1, h L st hh.2⟩
  | o :: r, recs, L, st, hh => guarded_mono (fun q => opDoX_mono (fun _ _ _ k => opsX_mono h r _ _ _ k) q) (fun q => opsX_mono h r _ _ _ q) hh
theorem opsI_mono {P T l pin ops} {R : Rnd} (hR : ∀ p args (X X' : Ex → St → Prop) st, (∀ e st, X e st → X' e st) → R p args X st → R p args X' st) {K K' : Option Ex → SL → St → Prop} (h : ∀ pe L st, K pe L st → K' pe L st) :
    ∀ (ls : List Oper) (pe : Option Ex) (L : SL) (st : St), opsI P T l R pin ops ls K pe L st → opsI P T l R pin ops ls K' pe L st
  | [], pe, L, st, hh => h pe L st hh
  | o :: r, pe, L, st, hh => guarded_mono (fun q => by
      unfold opI opIm at *
      split at q
      · unfold afterOp at *
        split at q
        · exact opsI_mono hR h r _ _ _ q
        · exact q.elim
      · obtain ⟨h0, keep, q⟩ := q
        refine ⟨h0, keep, hR _ _ _ _ _ (fun e st q => ?_) q⟩
        cases e with
        | normal => exact opsI_mono hR h r _ _ _ q
        | ret => exact opsI_mono hR h r _ _ _ q
        | exit id => exact opsI_mono hR h r _ _ _ q) (fun q => opsI_mono hR h r _ _ _ q) hh
theorem wlI_mono {P : Program} {T : Tab} {l pin : Nat} {R : Rnd} (hR : ∀ p args (X X' : Ex → St → Prop) st, (∀ e st, X e st → X' e st) → R p args X st → R p args X' st) :
    ∀ (c : Code) (Q Q' : QI), (∀ e pe L st, Q e pe L st → Q' e pe L st) → ∀ pe L st, wlI P T l R pin c Q pe L st → wlI P T l R pin c Q' pe L st := by
  intro c
  induction c with
  | skip => intro Q Q' h pe L st hh; exact h _ _ _ _ hh
  | label l => intro Q Q' h pe L st hh; exact h _ _ _ _ hh
  | exit i => intro Q Q' h pe L st hh; exact h _ _ _ _ hh
  | ret => intro Q Q' h pe L st hh; exact h _ _ _ _ hh
  | region i ops draw =>
    intro Q Q' h pe L st hh
    cases draw with
    | false => exact opsI_mono hR (h _) _ _ _ _ hh
    | true => exact ⟨hh.1, hh.2.imp (opsD_mono (h _ _) _ _ _ _) (opsX_mono (h _ _) _ _ _ _)⟩
  | seq a b iha ihb =>
    intro Q Q' h pe L st hh
    refine iha _ _ ?_ pe L st hh
    intro e pe L st q
    cases e with
    | normal => exact ihb _ _ h pe L st q
    | _ => exact h _ _ _ _ q
  | cond c a b iha ihb => intro Q Q' h pe L st hh; exact boolAV_mono (iha _ _ h pe L st) (ihb _ _ h pe L st) hh
  | block i b ih =>
    intro Q Q' h pe L st hh
    refine ih _ _ ?_ pe L st hh
    intro e pe L st q
    cases e with
    | exit j =>
      simp only [blkI] at *
      cases hb : Nat.beq j i with
      | true => rw [hb] at q; exact h _ _ _ _ q
      | false => rw [hb] at q; exact h _ _ _ _ q
    | _ => exact h _ _ _ _ q
  | loop b ih =>
    intro Q Q' h pe L st hh
    obtain ⟨h0, keep, hh⟩ := hh
    refine ⟨h0, keep, fun X hX => hh X fun vs os q => hX vs os (ih _ _ ?_ _ _ _ q)⟩
    intro e pe L st q
    cases e with
    | normal => exact q
    | _ => exact h _ _ _ _ q
  | scope b ih => intro _ _ _ _ _ _ hh; exact hh.elim
  | rangeFunc => intro _ _ _ _ _ _ hh; exact hh.elim
  | goto => intro _ _ _ _ _ _ hh; exact hh.elim
  | refuse => intro _ _ _ _ _ _ hh; exact hh.elim
theorem wl_mono' {P : Program} {T : Tab} : ∀ (c : Code) (pin : Nat) (Q Q' : QL), (∀ e L st, Q e L st → Q' e L st) → ∀ L st, wl P T pin c Q L st → wl P T pin c Q' L st := by
  intro c
  induction c with
  | skip => intro pin Q Q' h L st hh; exact h _ _ _ hh
  | label l => intro pin Q Q' h L st hh; exact h _ _ _ hh
  | exit i => intro pin Q Q' h L st hh; exact h _ _ _ hh
  | ret => intro pin Q Q' h L st hh; exact h _ _ _ hh
  | region i ops draw =>
    intro pin Q Q' h L st hh
    cases draw with
    | false => exact opsL_mono (h _) _ _ _ hh
    | true => exact ⟨hh.1, hh.2.imp (opsD_mono (h _) _ _ _ _) (opsX_mono (h _) _ _ _ _)⟩
  | seq a b iha ihb =>
    intro pin Q Q' h L st hh
    refine iha _ _ _ ?_ L st hh
    intro e L st q
    cases e with
    | normal => exact ihb _ _ _ h L st q
    | _ => exact h _ _ _ q
  | cond c a b iha ihb => intro pin Q Q' h L st hh; exact boolAV_mono (iha _ _ _ h L st) (ihb _ _ _ h L st) hh
  | block i b ih =>
    intro pin Q Q' h L st hh
    refine ih _ _ _ ?_ L st hh
    intro e L st q
    cases e with
    | exit j =>
      simp only [blkQ] at *
      cases hb : Nat.beq j i with
      | true => rw [hb] at q; exact h _ _ _ q
      | false => rw [hb] at q; exact h _ _ _ q
    | _ => exact h _ _ _ q
  | loop b ih =>
    intro pin Q Q' h L st hh
    obtain ⟨keep, hh⟩ := hh
    refine ⟨keep, fun X hX => hh X fun vs os q => hX vs os (ih _ _ _ ?_ _ _ q)⟩
    intro e L st q
    cases e with
    | normal => exact q
    | _ => exact h _ _ _ q
  | scope b ih => intro pin Q Q' h L st hh; exact ih _ _ _ h L st hh
  | rangeFunc f ps a b iha ihb =>
    intro pin Q Q' h L st hh
    obtain ⟨keep, h0, hh⟩ := hh
    refine ⟨keep, h0, ?_⟩
    unfold rangeV at *
    split at hh
    · unfold rangeW at *
      split at hh
      · refine ⟨hh.1, fun l => wlI_mono (fun p args X X' st hX hr => ⟨hr.1, hr.2.1, iha _ _ _ (fun e L st q => (by
          cases e with
          | normal => exact ihb _ _ _ (fun e _ st q => hX e st q) _ _ q
          | _ => exact q.elim)) _ _ hr.2.2⟩) _ _ _ (fun e pe L st q => (by
          cases e with
          | exit id => exact q.elim
          | normal =>
            cases pe with
            | none => exact h _ _ _ q
            | some e => exact h _ _ _ q
          | ret =>
            cases pe with
            | none => exact h _ _ _ q
            | some e => exact h _ _ _ q)) _ _ _ (hh.2 l)⟩
      · exact hh.elim
    · exact hh.elim
  | goto => intro _ _ _ _ _ _ hh; exact hh.elim
  | refuse => intro _ _ _ _ _ _ hh; exact hh.elim
theorem wl_mono {P : Program} {T : Tab} {pin : Nat} (c : Code) (Q Q' : QL) (h : ∀ e L st, Q e L st → Q' e L st) (L : SL) (st : St) (hh : wl P T pin c Q L st) : wl P T pin c Q' L st := wl_mono' c pin Q Q' h L st hh
theorem loop_of {α : Type} {P : Program} {T : Tab} {pin : Nat} {b : Code} {Q : QL} {L : SL} {st : St} (keep : List Nat) (V : α → List AV) (O : α → List (Option AObj)) (I : α → Prop) (μ : α → Nat) (x : α) (hx : I x)
    (hv : canonV pin keep L st = V x) (ho : canonO pin keep L st = O x)
    (step : ∀ x, I x → wl P T pin b (headQ pin keep (fun vs os => ∃ y, I y ∧ μ y < μ x ∧ vs = V y ∧ os = O y) Q) (zipK keep (V x)) (stK (O x))) : LoopL pin (wl P T pin b) Q L st :=
  LoopL.of keep V O I μ x hx hv ho (fun _ _ h => wl_mono b _ _ h) step
section cods
theorem codL_val {α : Type} (C : Cod α) (l : Bool) (xs : List α) : (codL C).val l xs = .vl l C.sz (xs.map (C.val l)) := id rfl
theorem codL_sz {α : Type} (C : Cod α) : (codL C).sz = 1 := id rfl
theorem codStr_sz : codStr.sz = 1 := id rfl
theorem codU8_sz : codU8.sz = 1 := id rfl
theorem codU16_sz : codU16.sz = 1 := id rfl
theorem codU32_sz : codU32.sz = 1 := id rfl
theorem codInt_sz (k : IntKind) : (codInt k).sz = 1 := id rfl
theorem codBool_sz : codBool.sz = 1 := id rfl
theorem codU8_val (l : Bool) (x : UInt8) : codU8.val l x = .sc (.int .u8 x.toNat) := id rfl
theorem codU16_val (l : Bool) (x : UInt16) : codU16.val l x = .sc (.int .u16 x.toNat) := id rfl
theorem codU32_val (l : Bool) (x : UInt32) : codU32.val l x = .sc (.int .u32 x.toNat) := id rfl
theorem codInt_val (k : IntKind) (l : Bool) (x : Int) : (codInt k).val l x = .sc (.int k x) := id rfl
theorem codBool_val (l : Bool) (x : Bool) : codBool.val l x = .sc (.bool x) := id rfl
theorem idx_nil (o i : Nat) : idx [] o i = none := id rfl
theorem ren_comp {α : Type} (C : Cod α) (τ : Nat → Option Nat) (l : Bool) : AV.ren τ ∘ C.val l = C.val l := by funext x; exact val_ren C τ l x
theorem codStr_val (l : Bool) (x : ByteArray) : codStr.val l x = .sc (.string x) := id rfl
theorem decV_one {α : Type} (C : Cod α) (fr : Bool) (h : Tr AObj) (a : AV) (h1 : a.known = true) (h2 : a.isAgg = C.agg) : C.decV fr h a = C.dec fr h a.cells := by
  unfold Cod.decV; rw [h1, h2]; simp
theorem codU32_rt (fr : Bool) (h : Tr AObj) (n : UInt32) : codU32.decV fr h (.sc (.int .u32 n.toNat)) = some n := codU32.rtV fr h true n (fun _ => rfl)
theorem codU16_rt (fr : Bool) (h : Tr AObj) (n : UInt16) : codU16.decV fr h (.sc (.int .u16 n.toNat)) = some n := codU16.rtV fr h true n (fun _ => rfl)
theorem codInt_dec (k : IntKind) (fr : Bool) (h : Tr AObj) (n : Int) : (codInt k).decV fr h (.sc (.int k n)) = some n := (codInt k).rtV fr h true n (fun _ => rfl)
theorem codBool_dec (fr : Bool) (h : Tr AObj) (b : Bool) : codBool.decV fr h (.sc (.bool b)) = some b := codBool.rtV fr h true b (fun _ => rfl)
theorem codStr_dec (fr : Bool) (h : Tr AObj) (s : ByteArray) : codStr.decV fr h (.sc (.string s)) = some s := codStr.rtV fr h true s (fun _ => rfl)
theorem codL_dec {α : Type} (C : Cod α) (fr : Bool) (h : Tr AObj) (a : AV) (h1 : a.known = true) (h2 : a.isAgg = false) (h3 : a.cells = [a]) : (codL C).decV fr h a = decS C fr h a := by
  rw [decV_one _ _ _ _ h1 h2, h3]; rfl
theorem codL_vl {α : Type} (C : Cod α) (fr : Bool) (h : Tr AObj) (l : Bool) (xs : List α) (hl : (l || !fr) = true) : (codL C).decV fr h (.vl l C.sz (xs.map (C.val l))) = some xs := by
  refine (codL C).rtV fr h l xs ?_
  cases fr <;> simp_all
theorem decS_nil {α : Type} (C : Cod α) (fr : Bool) (h : Tr AObj) : decS C fr h (.sc (.slice none 0 0)) = some [] := id rfl
theorem decS_vl {α : Type} (C : Cod α) (fr : Bool) (h : Tr AObj) (l : Bool) (xs : List α) (n : Nat) (hn : n = C.sz) (hl : (l || !fr) = true) : decS C fr h (.vl l n (xs.map (C.val l))) = some xs := by
  subst hn
  have : (codL C).decV fr h (.vl l C.sz (xs.map (C.val l))) = some xs := codL_vl C fr h l xs hl
  rwa [codL_dec C fr h _ rfl rfl rfl] at this
theorem decS_sl {α : Type} (C : Cod α) (fr : Bool) (h : Tr AObj) (o off len n : Nat) : decS C fr h (.sl o off len n) = bif decide (n = C.sz) then (h.get o).bind (decRow C fr h off len) else none := by
  show (bif Nat.beq n C.sz then _ else _) = _
  rw [beqE]
theorem decN_s {α : Type} (C : Cod α) (fr : Bool) (h : Tr AObj) (n : Nat) (l : List AV) : decN C fr h (n + 1) l = match C.dec fr h (l.take C.sz), decN C fr h n (l.drop C.sz) with | some x, some xs => some (x :: xs) | _, _ => none := id rfl
theorem codU8_dec1 (fr : Bool) (h : Tr AObj) (n : Int) (h0 : 0 ≤ n) (h1 : n < 256) : codU8.dec fr h [.sc (.int .u8 n)] = some (UInt8.ofNat n.toNat) := by
  show u8V (.int .u8 n) = _; simp [u8V, h0, h1]
theorem r2_E {α β : Type} (A : Cod α) (B : Cod β) (l : Bool) (p : α × β) : (r2 A B).E l p = .tup [A.val l p.1, B.val l p.2] := id rfl
theorem r1_E {α : Type} (A : Cod α) (l : Bool) (x : α) : (r1 A).E l x = A.val l x := id rfl
theorem callV_sc (T : Tab) (g : Nat) (a b : Array Value) (args : List AV) : callV T (.sc (.func (.func g) a b)) args = callT T g (a.toList.map .sc ++ args ++ b.toList.map .sc) := id rfl
theorem callV_fn (T : Tab) (g : Nat) (a b : List AV) (args : List AV) : callV T (.fn (.func g) a b) args = callT T g (a ++ args ++ b) := id rfl
theorem callT_hit (f : Nat) (b : Bool) (m : List AV → M AV) (T : Tab) (args : List AV) : callT ((f, b, m) :: T) f args = mono (m args) := by simp [callT, Tab.find]
theorem callT_miss (f g : Nat) (b : Bool) (m : List AV → M AV) (T : Tab) (args : List AV) (h : (f == g) = false) : callT ((f, b, m) :: T) g args = callT T g args := by
  have : f ≠ g := by simpa using h
  simp [callT, Tab.find, beq_no this]
theorem pureM_eq {α : Type} (A : AC α) (F : α → Option AV) (args : List AV) (st : St) : pureM A F args st = match A.get .nil args with | some x => (F x).map fun r => (r, st) | none => match A.get st.h args with | some x => (match F x with | some r => bif r.fresh then some (r, st) else none | none => none) | none => none := id rfl
theorem r2_D {α β : Type} (A : Cod α) (B : Cod β) (fr : Bool) (h : Tr AObj) (a b : AV) : (r2 A B).get fr h (.tup [a, b]) = match A.decV fr h a, B.decV fr h b with | some x, some y => some (x, y) | _, _ => none := id rfl
theorem a0_D (h : Tr AObj) : a0.get h [] = some () := id rfl
theorem aC_D {α β : Type} (C : Cod α) (R : AC β) (h : Tr AObj) (a : AV) (r : List AV) : (aC C R).get h (a :: r) = match C.decV false h a, R.get h r with | some x, some y => some (x, y) | _, _ => none := id rfl
theorem r1_D {α : Type} (A : Cod α) (fr : Bool) (h : Tr AObj) (a : AV) : (r1 A).get fr h a = A.decV fr h a := id rfl
end cods
section
variable (P : Program)
theorem afill_nil (pl : Nat → Option (Nat × Nat)) (cells : List AV) : afill pl cells [] = some cells := id rfl
theorem afill_cons (pl : Nat → Option (Nat × Nat)) (cells : List AV) (i : Nat) (v : AV) (rest : List (Nat × AV)) : afill pl cells ((i, v) :: rest) = match pl i with
    | none => none
    | some (off, size) => bif !v.known || !(Nat.beq v.cells.length size) || !(Nat.ble (off + size) cells.length) then none else afill pl (cells.take off ++ v.cells ++ cells.drop (off + size)) rest := id rfl
def buildT (t : TypeId) : Option (List AV × List (Nat × Nat)) :=
  match zeroT P t, P.underlying t with
  | some z, some (.struct fields) => (placesT P fields).map fun pl => (z.cells.toList.map .sc, pl)
  | _, _ => none
theorem opBuild_eq (t : TypeId) (ps : List (Nat × AV)) : opBuild P t ps = match buildT P t with
    | some (z, pl) => .of ((afill (fun i => pl[i]?) z ps).map .agg)
    | none => opBuild P t ps := by
  cases hb : buildT P t with
  | none => rfl
  | some q =>
    obtain ⟨z, pl⟩ := q
    simp only [buildT] at hb
    split at hb
    · rename_i z' fs hz hu
      cases hp : placesT P fs with
      | none => simp [hp] at hb
      | some pl' =>
        simp [hp] at hb
        obtain ⟨rfl, rfl⟩ := hb
        simp [opBuild, hz, hu, hp]
    · cases hb
def rowT (t : TypeId) : Option (TypeId × Nat × List AV) :=
  match elemT P t with
  | none => none
  | some e =>
    match sizeT P e, zeroT P e with
    | some sz, some z => bif Nat.beq z.cells.size sz then some (e, sz, z.cells.toList.map .sc) else none
    | _, _ => none
theorem opBuildSlice_eq (t : TypeId) (len : Nat) (ps : List (Nat × AV)) : opBuildSlice P t len ps = match rowT P t with
    | some (e, sz, z) =>
      match afill (fun i => some (i * sz, sz)) (List.replicate len z).flatten ps with
      | some cells => bif Nat.ble (len * sz) 16777216 && Nat.ble len 16777216 then newRowOf e sz len cells else .fail
      | none => .fail
    | none => opBuildSlice P t len ps := by
  cases hb : rowT P t with
  | none => rfl
  | some q =>
    obtain ⟨e, sz, z⟩ := q
    simp only [rowT] at hb
    split at hb
    · cases hb
    · rename_i e' he
      split at hb
      · rename_i sz' z' hs hz
        cases hq : Nat.beq z'.cells.size sz' with
        | false => simp [hq] at hb
        | true =>
          simp [hq] at hb
          obtain ⟨rfl, rfl, rfl⟩ := hb
          simp only [opBuildSlice, he, hs, hz, hq, Bool.and_true]
          rfl
      · cases hb
end
section ranges
variable (P : Program) (T : Tab) (l pin : Nat) (R : Rnd) (Q : QI) (pe : Option Ex) (L : SL) (st : St)
theorem wl_range (f : Operand) (ps : Array Tmp) (a b : Code) (Q : QL) : wl P T pin (.rangeFunc f ps a b) Q L st = RangeL P T f ps.toList (fun p => wl P T p a) (fun p => wl P T p b) pin Q L st := id rfl
theorem wlI_skip : wlI P T l R pin .skip Q pe L st = Q .normal pe L st := id rfl
theorem wlI_region (i : Nat) (ops : Array Oper) : wlI P T l R pin (.region i ops false) Q pe L st = opsI P T l R pin ops ops.toList (Q .normal) pe L st := id rfl
theorem wlI_seq (a b : Code) : wlI P T l R pin (.seq a b) Q pe L st = wlI P T l R pin a (seqI (wlI P T l R pin b) Q) pe L st := id rfl
theorem wlI_cond (c : Operand) (a b : Code) : wlI P T l R pin (.cond c a b) Q pe L st = boolI (evL L c) (wlI P T l R pin a Q) (wlI P T l R pin b Q) pe L st := id rfl
theorem wlI_block (i : Nat) (a : Code) : wlI P T l R pin (.block i a) Q pe L st = wlI P T l R pin a (blkI i Q) pe L st := id rfl
theorem wlI_exit (i : Nat) : wlI P T l R pin (.exit i) Q pe L st = Q (.exit i) pe L st := id rfl
theorem wlI_ret : wlI P T l R pin .ret Q pe L st = Q .ret pe L st := id rfl
theorem seqI_n (W : QI → Option Ex → SL → St → Prop) : seqI W Q .normal pe L st = W Q pe L st := id rfl
theorem seqI_e (W : QI → Option Ex → SL → St → Prop) (i : Nat) : seqI W Q (.exit i) pe L st = Q (.exit i) pe L st := id rfl
theorem seqI_r (W : QI → Option Ex → SL → St → Prop) : seqI W Q .ret pe L st = Q .ret pe L st := id rfl
theorem blkI_n (i : Nat) : blkI i Q .normal pe L st = Q .normal pe L st := id rfl
theorem blkI_r (i : Nat) : blkI i Q .ret pe L st = Q .ret pe L st := id rfl
theorem blkI_e (i j : Nat) : blkI i Q (.exit j) pe L st = if j = i then Q .normal pe L st else Q (.exit j) pe L st := by
  show (bif Nat.beq j i then _ else _) = _
  rw [beqE]; by_cases h : j = i <;> simp [h]
theorem headI_n (Q' : QL) : headI Q' Q .normal pe L st = (pe = none ∧ Q' .normal L st) := id rfl
theorem headI_e (Q' : QL) (i : Nat) : headI Q' Q (.exit i) pe L st = Q (.exit i) pe L st := id rfl
theorem headI_r (Q' : QL) : headI Q' Q .ret pe L st = Q .ret pe L st := id rfl
theorem endI_nn (Q : QL) (L0 : SL) : endI Q L0 .normal none L st = Q .normal L0 st := id rfl
theorem endI_rs (Q : QL) (L0 : SL) (e : Ex) : endI Q L0 .ret (some e) L st = Q e L0 st := id rfl
theorem opsI_nil (ops : Array Oper) (K : Option Ex → SL → St → Prop) : opsI P T l R pin ops [] K pe L st = K pe L st := id rfl
theorem opsI_cons (ops : Array Oper) (o : Oper) (r : List Oper) (K : Option Ex → SL → St → Prop) : opsI P T l R pin ops (o :: r) K pe L st = guardedI ops o.guard (opI P T l R pin o (opsI P T l R pin ops r K)) (opSkipI o.dst (opsI P T l R pin ops r K)) pe L st := id rfl
theorem guardedI_n (ops : Array Oper) (X Y : Option Ex → SL → St → Prop) : guardedI ops none X Y pe L st = X pe L st := id rfl
theorem guardedI_t (ops : Array Oper) (j : Nat) (c : Bool) (X Y : Option Ex → SL → St → Prop) : guardedI ops (some (j, c)) X Y pe L st = guardI (lk L (gslot ops j)) c X Y pe L st := id rfl
theorem guardI_t (b : Bool) (X Y : Option Ex → SL → St → Prop) : guardI (.sc (.bool b)) true X Y pe L st = boolI (.sc (.bool b)) X Y pe L st := by cases b <;> simp [guardI, wantP, wantA, wantV, boolI, boolAV, AV.bool, AV.exact, boolOf]
theorem boolI_t (X Y : Option Ex → SL → St → Prop) : boolI (.sc (.bool true)) X Y pe L st = X pe L st := by simp [boolI, boolAV, AV.bool, AV.exact, boolOf]
theorem boolI_f (X Y : Option Ex → SL → St → Prop) : boolI (.sc (.bool false)) X Y pe L st = Y pe L st := by simp [boolI, boolAV, AV.bool, AV.exact, boolOf]
theorem boolI_b (b : Bool) (X Y : Option Ex → SL → St → Prop) : boolI (.sc (.bool b)) X Y pe L st = ((b = true → X pe L st) ∧ (b = false → Y pe L st)) := by simp [boolI, boolAV, AV.bool, AV.exact, boolOf]
theorem opSkipI_eq (d : Option Tmp) (K : Option Ex → SL → St → Prop) : opSkipI d K pe L st = K pe (putL d (.sc undef) L) st := id rfl
theorem opI_eq (o : Oper) (K : Option Ex → SL → St → Prop) : opI P T l R pin o K pe L st = opIm P T R pin o K pe L st (yieldOf l o L) := id rfl
theorem opIm_n (o : Oper) (K : Option Ex → SL → St → Prop) : opIm P T R pin o K pe L st none = afterOp (operL P T o (evL L) st) o.dst L (K pe) := id rfl
theorem afterY_n (d : Option Tmp) (K : Option Ex → SL → St → Prop) : afterY d L K .normal st = K none (putL d (.sc (.bool true)) L) st := id rfl
theorem afterY_r (d : Option Tmp) (K : Option Ex → SL → St → Prop) : afterY d L K .ret st = K (some .ret) (putL d (.sc (.bool false)) L) st := id rfl
theorem thenR_n (B : QL → SL → St → Prop) (X : Ex → St → Prop) : thenR B X .normal L st = B (fun e _ st => X e st) L st := id rfl
theorem isYield_y (k : Nat) (va vb : Array Value) : isYield l (.sc (.func (.yield k) va vb)) = (Nat.beq k l && Nat.beq va.size 0 && Nat.beq vb.size 0) := id rfl
theorem putArgs_nil : putArgs [] [] L = L := id rfl
theorem putArgs_cons (t : Nat) (ts : List Nat) (v : AV) (vs : List AV) : putArgs (t :: ts) (v :: vs) L = putArgs ts vs ((t, v) :: L) := id rfl
theorem loopI_of {α : Type} {b : Code} (keep : List Nat) (V : α → List AV) (O : α → List (Option AObj)) (I : α → Prop) (μ : α → Nat) (x : α) (hx : I x) (hR : ∀ p args (X X' : Ex → St → Prop) st, (∀ e st, X e st → X' e st) → R p args X st → R p args X' st)
    (hv : canonV pin keep L st = V x) (ho : canonO pin keep L st = O x)
    (step : ∀ x, I x → wlI P T l R pin b (headI (headQ pin keep (fun vs os => ∃ y, I y ∧ μ y < μ x ∧ vs = V y ∧ os = O y) (fun _ _ _ => False)) Q) none (zipK keep (V x)) (stK (O x))) : wlI P T l R pin (.loop b) Q none L st :=
  ⟨rfl, LoopL.of (B := fun Q' L st => wlI P T l R pin b (headI Q' Q) none L st) keep V O I μ x hx hv ho (fun Q1 Q2 h L st hh => wlI_mono hR b _ _ (fun e pe L st q => by
    cases e with
    | normal => exact ⟨q.1, h _ _ _ q.2⟩
    | ret => exact q
    | exit i => exact q) none L st hh) step⟩
theorem roundC_mono {ps : List Tmp} {a b : Code} {L0 : SL} : ∀ p args (X X' : Ex → St → Prop) st, (∀ e st, X e st → X' e st) → roundC ps (fun p => wl P T p a) (fun p => wl P T p b) L0 p args X st → roundC ps (fun p => wl P T p a) (fun p => wl P T p b) L0 p args X' st :=
  fun p args X X' st hX hr => ⟨hr.1, hr.2.1, wl_mono _ _ _ (fun e L st q => by
    cases e with
    | normal => exact wl_mono _ _ _ (fun e _ st q => hX e st q) _ _ q
    | _ => exact q.elim) _ _ hr.2.2⟩
end ranges
section yields
variable {lp : Nat} {L : SL} {d : Option Tmp} {ty : TypeId} {pos : String} {af : Array Edge} {gd : Option (Nat × Bool)}
theorem yieldOf_move (x) : yieldOf lp ⟨d, .move x, ty, pos, af, gd⟩ L = none := id rfl
theorem yieldOf_assign (x) : yieldOf lp ⟨d, .assign x, ty, pos, af, gd⟩ L = none := id rfl
theorem yieldOf_load (t a) : yieldOf lp ⟨d, .load t a, ty, pos, af, gd⟩ L = none := id rfl
theorem yieldOf_fieldAddr (s x f) : yieldOf lp ⟨d, .fieldAddr s x f, ty, pos, af, gd⟩ L = none := id rfl
theorem yieldOf_binOp (op t x y u) : yieldOf lp ⟨d, .binOp op t x y u, ty, pos, af, gd⟩ L = none := id rfl
theorem yieldOf_pick (c a b) : yieldOf lp ⟨d, .pick c a b, ty, pos, af, gd⟩ L = none := id rfl
theorem yieldOf_store (t a x) : yieldOf lp ⟨d, .store t a x, ty, pos, af, gd⟩ L = none := id rfl
theorem yieldOf_indexAddr (t x i) : yieldOf lp ⟨d, .indexAddr t x i, ty, pos, af, gd⟩ L = none := id rfl
theorem yieldOf_alloc (t) : yieldOf lp ⟨d, .alloc t, ty, pos, af, gd⟩ L = none := id rfl
theorem yieldOf_unOp (op t x) : yieldOf lp ⟨d, .unOp op t x, ty, pos, af, gd⟩ L = none := id rfl
theorem yieldOf_len (x ts) : yieldOf lp ⟨d, .call { callee := .builtin .len, args := #[x], argTypes := ts }, ty, pos, af, gd⟩ L = none := id rfl
theorem yieldOf_call (f : Operand) (args : Array Operand) (ts : Array TypeId) : yieldOf lp ⟨d, .call { callee := .value f, args := args, argTypes := ts }, ty, pos, af, gd⟩ L = bif isYield lp (evL L f) then some args else none := id rfl
end yields
end
end Go.Vm
namespace Go.Vm
noncomputable section
section
variable (P : Program) (ρ : Operand → AV) (d : Option Tmp) (ty : TypeId) (pos : String) (af : Array Edge) (gd : Option (Nat × Bool)) (t u : TypeId) (x y : Operand)
theorem binElse_ints (op : BinOp) (k k' : IntKind) (a b : Int) (hx : ρ x = .sc (.int k a)) (hy : ρ y = .sc (.int k' b)) :
    binElse P ρ ⟨d, .binOp op t x y u, ty, pos, af, gd⟩ op t (.sc (.int k a)) (.sc (.int k' b)) = M.of ((ev P (binOp op t (.int k a) (.int k' b))).map .sc) := by
  have h1 : ∀ s : Sem Value, ev P (do pure (Next.value (← s))) = (ev P s).map Next.value := by
    intro s
    induction s with
    | pure b => rfl
    | program k ih => exact ih P
    | choose q k ih =>
      simp only [bind, Sem.bind, ev]
      split
      · exact ih 0
      · rfl
    | mark m k ih => exact ih
    | _ => rfl
  have h2 : execOp (fun z => ((ρ z).toV).getD undef) ⟨d, .binOp op t x y u, ty, pos, af, gd⟩ = (do pure (Next.value (← (do eqGuard op t x y (.int k a) (.int k' b); binOp op t (.int k a) (.int k' b))))) := by
    simp only [execOp, hx, hy, AV.toV, Option.getD_some]
  have h3 : ev P (do eqGuard op t x y (.int k a) (.int k' b); binOp op t (.int k a) (.int k' b)) = ev P (binOp op t (.int k a) (.int k' b)) := by
    cases op <;> rfl
  unfold binElse apure
  simp only [AV.toV, Option.isSome_some, Bool.and_self, cond_true]
  rw [h2, h1, h3]
  cases ev P (binOp op t (.int k a) (.int k' b)) <;> rfl
theorem ev_shl (k k' : IntKind) (a b : Int) (h : 0 ≤ b) : ev P (binOp .shl t (.int k a) (.int k' b)) = some (.int k (k.wrap (a * 2 ^ (min b.toNat k.bits)))) := by
  have : ¬ b < 0 := by omega
  simp [binOp, Op.shift, this, ev_pure]
theorem ev_shr (k k' : IntKind) (a b : Int) (h : 0 ≤ b) : ev P (binOp .shr t (.int k a) (.int k' b)) = some (.int k (a.fdiv (2 ^ (min b.toNat k.bits)))) := by
  have : ¬ b < 0 := by omega
  simp [binOp, Op.shift, this, ev_pure]
theorem binElse_bools (op : BinOp) (a b : Bool) (hx : ρ x = .sc (.bool a)) (hy : ρ y = .sc (.bool b)) :
    binElse P ρ ⟨d, .binOp op t x y u, ty, pos, af, gd⟩ op t (.sc (.bool a)) (.sc (.bool b)) = M.of ((ev P (binOp op t (.bool a) (.bool b))).map .sc) := by
  have h1 : ∀ s : Sem Value, ev P (do pure (Next.value (← s))) = (ev P s).map Next.value := by
    intro s
    induction s with
    | pure b => rfl
    | program k ih => exact ih P
    | choose q k ih =>
      simp only [bind, Sem.bind, ev]
      split
      · exact ih 0
      · rfl
    | mark m k ih => exact ih
    | _ => rfl
  have h2 : execOp (fun z => ((ρ z).toV).getD undef) ⟨d, .binOp op t x y u, ty, pos, af, gd⟩ = (do pure (Next.value (← (do eqGuard op t x y (.bool a) (.bool b); binOp op t (.bool a) (.bool b))))) := by
    simp only [execOp, hx, hy, AV.toV, Option.getD_some]
  have h3 : ev P (do eqGuard op t x y (.bool a) (.bool b); binOp op t (.bool a) (.bool b)) = ev P (binOp op t (.bool a) (.bool b)) := by
    cases op <;> rfl
  unfold binElse apure
  simp only [AV.toV, Option.isSome_some, Bool.and_self, cond_true]
  rw [h2, h1, h3]
  cases ev P (binOp op t (.bool a) (.bool b)) <;> rfl
theorem ev_under {d : TypeDesc} (h : P.underlying t = some d) : ev P (underlying t) = some d := by
  rw [underlying]
  show ev P (match P.underlying t with | some d => pure d | none => _) = _
  rw [h]; rfl
theorem ev_eqIn_bool (n : Nat) (a b : Bool) (h : P.underlying t = some .bool) : ev P (Op.equalIn (n + 1) t (.bool a) (.bool b)) = some (a == b) := by
  simp only [Op.equalIn]
  rw [ev_bind', ev_under P t h]
  rfl
theorem ev_eql_bool (a b : Bool) (h : P.underlying t = some .bool) : ev P (binOp .eql t (.bool a) (.bool b)) = some (.bool (a == b)) := by
  show ev P (do pure (Value.bool (← Op.equalIn (9999 + 1) t (.bool a) (.bool b)))) = _
  rw [ev_bind', ev_eqIn_bool P t 9999 a b h]
  rfl
theorem binElse_strs (op : BinOp) (a b : ByteArray) (hx : ρ x = .sc (.string a)) (hy : ρ y = .sc (.string b)) :
    binElse P ρ ⟨d, .binOp op t x y u, ty, pos, af, gd⟩ op t (.sc (.string a)) (.sc (.string b)) = M.of ((ev P (binOp op t (.string a) (.string b))).map .sc) := by
  have h1 : ∀ s : Sem Value, ev P (do pure (Next.value (← s))) = (ev P s).map Next.value := by
    intro s
    induction s with
    | pure b => rfl
    | program k ih => exact ih P
    | choose q k ih =>
      simp only [bind, Sem.bind, ev]
      split
      · exact ih 0
      · rfl
    | mark m k ih => exact ih
    | _ => rfl
  have h2 : execOp (fun z => ((ρ z).toV).getD undef) ⟨d, .binOp op t x y u, ty, pos, af, gd⟩ = (do pure (Next.value (← (do eqGuard op t x y (.string a) (.string b); binOp op t (.string a) (.string b))))) := by
    simp only [execOp, hx, hy, AV.toV, Option.getD_some]
  have h3 : ev P (do eqGuard op t x y (.string a) (.string b); binOp op t (.string a) (.string b)) = ev P (binOp op t (.string a) (.string b)) := by
    cases op <;> rfl
  unfold binElse apure
  simp only [AV.toV, Option.isSome_some, Bool.and_self, cond_true]
  rw [h2, h1, h3]
  cases ev P (binOp op t (.string a) (.string b)) <;> rfl
theorem str_eq (a b : ByteArray) : (a.toList == b.toList) = decide (a = b) := by
  rw [ByteArray.toList_eq, ByteArray.toList_eq, Bool.eq_iff_iff]
  simp only [beq_iff_eq, decide_eq_true_eq]
  constructor
  · intro h
    cases a; cases b
    congr 1
    exact Array.ext' h
  · intro h; rw [h]
theorem ev_eql_str (a b : ByteArray) : ev P (binOp .eql t (.string a) (.string b)) = some (.bool (decide (a = b))) := by
  rw [← str_eq]; rfl
theorem ev_neq_str (a b : ByteArray) : ev P (binOp .neq t (.string a) (.string b)) = some (.bool (!decide (a = b))) := by
  rw [← str_eq]; rfl
end
def isSlT (u : Option TypeDesc) : Bool := match u with | some (.slice _) => true | _ => false
theorem isSlT_s (e) : isSlT (some (.slice e)) = true := id rfl
theorem isSlT_e {u} (h : isSlT u = true) : ∃ e, u = some (.slice e) := by
  unfold isSlT at h; split at h
  · exact ⟨_, rfl⟩
  · cases h
theorem eqRef_s {P : Program} {t op x y} (h : isSlT (P.underlying t) = true) : eqRef P t op x y = eqSlice op x y := by
  obtain ⟨e, he⟩ := isSlT_e h
  unfold eqRef; rw [he]
theorem binElse_vl (P : Program) (ρ o op t l sz es b) : binElse P ρ o op t (.vl l sz es) b = eqRef P t op (.vl l sz es) b := id rfl
theorem yesNo_e (b) : yesNo .eql b = M.pure (.sc (.bool b)) := id rfl
theorem binElse_slices (P : Program) (ρ : Operand → AV) (d ty pos af gd) (t u : TypeId) (x y : Operand) (op : BinOp) (a b : Option Addr) (n c m k : Nat) (hx : ρ x = .sc (.slice a n c)) (hy : ρ y = .sc (.slice b m k)) :
    binElse P ρ ⟨d, .binOp op t x y u, ty, pos, af, gd⟩ op t (.sc (.slice a n c)) (.sc (.slice b m k)) = M.of ((ev P (binOp op t (.slice a n c) (.slice b m k))).map .sc) := by
  have h1 : ∀ s : Sem Value, ev P (do pure (Next.value (← s))) = (ev P s).map Next.value := by
    intro s
    induction s with
    | pure b => rfl
    | program k ih => exact ih P
    | choose q k ih =>
      simp only [bind, Sem.bind, ev]
      split
      · exact ih 0
      · rfl
    | mark m k ih => exact ih
    | _ => rfl
  have h2 : execOp (fun z => ((ρ z).toV).getD undef) ⟨d, .binOp op t x y u, ty, pos, af, gd⟩ = (do pure (Next.value (← (do eqGuard op t x y (.slice a n c) (.slice b m k); binOp op t (.slice a n c) (.slice b m k))))) := by
    simp only [execOp, hx, hy, AV.toV, Option.getD_some]
  have h3 : ev P (do eqGuard op t x y (.slice a n c) (.slice b m k); binOp op t (.slice a n c) (.slice b m k)) = ev P (binOp op t (.slice a n c) (.slice b m k)) := by
    cases op <;> rfl
  unfold binElse apure
  simp only [AV.toV, Option.isSome_some, Bool.and_self, cond_true]
  rw [h2, h1, h3]
  cases ev P (binOp op t (.slice a n c) (.slice b m k)) <;> rfl
theorem ev_eqIn_slnil {P : Program} {t : TypeId} {a : Option Addr} {n c m k : Nat} (d : Nat) (h : isSlT (P.underlying t) = true) : ev P (Op.equalIn (d + 1) t (.slice a n c) (.slice none m k)) = some a.isNone := by
  obtain ⟨e, he⟩ := isSlT_e h
  simp only [Op.equalIn]
  rw [ev_bind', ev_under P t he]
  cases a <;> rfl
theorem ev_eql_slnil {P : Program} {t : TypeId} {a : Option Addr} {n c m k : Nat} (h : isSlT (P.underlying t) = true) : ev P (binOp .eql t (.slice a n c) (.slice none m k)) = some (.bool a.isNone) := by
  show ev P (do pure (Value.bool (← Op.equalIn (9999 + 1) t (.slice a n c) (.slice none m k)))) = _
  rw [ev_bind', ev_eqIn_slnil 9999 h]
  rfl
end
end Go.Vm
namespace Go.Vm
noncomputable section
abbrev Name := List ByteArray
structure RData where
  names : List Name
  nums : List UInt32
  texts : List ByteArray
  raw : List UInt8
def mkD (a : List Name) (b : List UInt32) (c : List ByteArray) (e : List UInt8) : RData := ⟨a, b, c, e⟩
theorem mkD_eta (d : RData) : mkD d.names d.nums d.texts d.raw = d := id rfl
noncomputable def codName : Cod Name := codL codStr
noncomputable def codData : Cod RData := codIso (codP (codL codName) (codP (codL codU32) (codP codName (codL codU8)))) (fun d => (d.names, d.nums, d.texts, d.raw)) (fun p => ⟨p.1, p.2.1, p.2.2.1, p.2.2.2⟩) (fun _ => rfl) (fun _ => rfl)
theorem codName_val (l : Bool) (n : Name) : codName.val l n = .vl l 1 (n.map (codStr.val l)) := id rfl
theorem codName_sz : codName.sz = 1 := id rfl
theorem codData_sz : codData.sz = 4 := id rfl
theorem codData_val (l : Bool) (d : RData) : codData.val l d = .agg [.vl l 1 (d.names.map (codName.val l)), .vl l 1 (d.nums.map (codU32.val l)), .vl l 1 (d.texts.map (codStr.val l)), .vl l 1 (d.raw.map (codU8.val l))] := id rfl
theorem codData_dec (fr : Bool) (h : Tr AObj) (x1 x2 x3 x4 : AV) :
    codData.decV fr h (.agg [x1, x2, x3, x4]) = match decS codName fr h x1, decS codU32 fr h x2, decS codStr fr h x3, decS codU8 fr h x4 with
      | some a, some b, some c, some e => some (mkD a b c e)
      | _, _, _, _ => none := by
  rw [decV_one _ _ _ _ rfl rfl]
  have h1 : codData.dec fr h (AV.agg [x1, x2, x3, x4]).cells = Option.map (fun p => (⟨p.1, p.2.1, p.2.2.1, p.2.2.2⟩ : RData)) ((codP (codL codName) (codP (codL codU32) (codP codName (codL codU8)))).dec fr h [x1, x2, x3, x4]) := rfl
  have d2 : ∀ {α β : Type} (A : Cod α) (B : Cod β) (l : List AV), (codP A B).dec fr h l = match A.dec fr h (l.take A.sz), B.dec fr h (l.drop A.sz) with | some x, some y => some (x, y) | _, _ => none := fun _ _ _ => rfl
  have l1 : ∀ {α : Type} (C : Cod α) (x : AV), (codL C).dec fr h [x] = decS C fr h x := fun _ _ => rfl
  have n1 : ∀ x, codName.dec fr h [x] = decS codStr fr h x := fun _ => rfl
  rw [h1]
  simp only [d2, codL_sz, codName_sz, List.take_succ_cons, List.take_zero, List.drop_succ_cons, List.drop_zero, l1, n1]
  cases decS codName fr h x1 <;> cases decS codU32 fr h x2 <;> cases decS codStr fr h x3 <;> cases decS codU8 fr h x4 <;> rfl
theorem codL_decV_vl {α : Type} (C : Cod α) (fr : Bool) (h : Tr AObj) (l : Bool) (n : Nat) (es : List AV) : (codL C).decV fr h (.vl l n es) = decS C fr h (.vl l n es) := codL_dec C fr h _ rfl rfl rfl
theorem codL_decV_sl {α : Type} (C : Cod α) (fr : Bool) (h : Tr AObj) (o off len n : Nat) : (codL C).decV fr h (.sl o off len n) = decS C fr h (.sl o off len n) := codL_dec C fr h _ rfl rfl rfl
theorem codL_decV_nil {α : Type} (C : Cod α) (fr : Bool) (h : Tr AObj) : (codL C).decV fr h (.sc (.slice none 0 0)) = some [] := by
  rw [codL_dec C fr h _ rfl rfl rfl]; rfl
theorem codName_decV_vl (fr : Bool) (h : Tr AObj) (l : Bool) (n : Nat) (es : List AV) : codName.decV fr h (.vl l n es) = decS codStr fr h (.vl l n es) := codL_dec codStr fr h _ rfl rfl rfl
theorem codName_decV_sl (fr : Bool) (h : Tr AObj) (o off len n : Nat) : codName.decV fr h (.sl o off len n) = decS codStr fr h (.sl o off len n) := codL_dec codStr fr h _ rfl rfl rfl
theorem codName_decV_nil (fr : Bool) (h : Tr AObj) : codName.decV fr h (.sc (.slice none 0 0)) = some [] := codL_decV_nil codStr fr h
theorem byteCell_map (l : List UInt8) : l.map byteCell = l.map (codU8.val false) := id rfl
theorem names_go_val {α : Type} (C : Cod α) (b : Bool) (l : List α) : AV.names.go (l.map (C.val b)) = [] := namesGo_nil (fun c hc => by
  obtain ⟨x, _, rfl⟩ := List.mem_map.1 hc
  exact val_names C b x)
theorem bytesOf_val : ∀ (l : List UInt8) (b : Bool), bytesOf (l.map (codU8.val b)) = some l
  | [], _ => rfl
  | c :: l, b => by
    rw [List.map_cons, codU8_val, bytesOf, bytesOf_val l b]
    simp
end
end Go.Vm
section
namespace Go.Vm.Cx
open Go.Vm
noncomputable section
theorem run_loadX {P : Program} (w : World) : ∀ (ns : List Int) (a : Addr) (i : Nat) (acc : ByteArray), (∀ (j : Nat) x, ns[j]? = some x → (load (a.add (i + j))).run P w = .ok (.int .u8 x) w) →
    (Extern.Bytes.loadBytes (a.add i) ns.length acc).run P w = .ok ⟨acc.data ++ (ns.map fun n => UInt8.ofNat n.toNat).toArray⟩ w
  | [], a, i, acc, _ => by simp [Extern.Bytes.loadBytes]
  | x :: l, a, i, acc, h => by
    have h0 := h 0 x rfl
    rw [Nat.add_zero] at h0
    have e : (a.add i).add 1 = a.add (i + 1) := by
      unfold Addr.add
      by_cases hj : i = 0
      · subst hj; simp
      · simp [hj]; omega
    have ih := run_loadX (P := P) w l a (i + 1) (acc.push x.toNat.toUInt8) (fun j y hy => by
      have := h (j + 1) y (by simpa using hy)
      rw [show i + 1 + j = i + (j + 1) from by omega]; exact this)
    simp only [List.length_cons, Extern.Bytes.loadBytes, Sem.run_bind, h0, Result.andThen]
    rw [e, ih]
    congr 1
    apply ByteArray.ext
    simp [ByteArray.push, Nat.toUInt8]
theorem map_int {l : List Int} {l' : List Value} (h : l' = l.map (Value.int .u8)) (j : Nat) (x : Int) (hx : l[j]? = some x) : l'[j]? = some (.int .u8 x) := by rw [h, List.getElem?_map, hx]; rfl
theorem src_bytes {P : Program} {g st st1 w} {a : AV} {v : Value} {l : List AV} {bs : List UInt8} (hok : Ok g st.h w) (hr : Rel g w a v) (h : cellsIn 1 a st = some (l, st1)) (hb : bytesOf l = some bs) :
    (Extern.Bytes.bytesOf v).run P w = .ok ⟨bs.toArray⟩ w := by
  obtain ⟨_, _, n, news, hsrc, hrl⟩ := cellsIn_ok (P := P) hok hr h
  obtain ⟨ns, e1, e2⟩ := bytesOf_ok _ _ _ hrl hb
  obtain ⟨r1, r2⟩ := hsrc.run w rfl
  cases v with
  | slice p len cap =>
    have hn : n = len := by simp [Builtin.lenOf] at r1; exact r1.symm
    subst hn
    cases p with
    | none =>
      have : news = [] := by simpa [Builtin.firstCells] using r2
      subst this
      have : ns = [] := by simpa using e1.symm
      subst this
      subst e2
      rfl
    | some a =>
      simp only [Builtin.firstCells, Nat.mul_one] at r2
      unfold loadCells at r2
      obtain ⟨l', q1, q2, q3⟩ := loadCellsFrom_ok a n 0 #[] _ _ r2
      have hl' : l' = news := by simpa using q2.symm
      subst hl'
      have hlen : ns.length = n := by rw [← q1, e1, List.length_map]
      have := run_loadX (P := P) w ns a 0 .empty (fun j x hx => by
        exact q3 j _ (map_int e1 j x hx))
      rw [hlen] at this
      have e0 : a.add 0 = a := by simp [Addr.add]
      rw [e0] at this
      show (Extern.Bytes.loadBytes a n .empty).run P w = _
      rw [this, e2]
      congr 2
      simp [ByteArray.empty, ByteArray.emptyWithCapacity]
      rfl
  | string s =>
    have hn : n = s.size := by simp [Builtin.lenOf] at r1; exact r1.symm
    subst hn
    simp only [Builtin.firstCells, Sem.run_pure, Result.ok.injEq, and_true] at r2
    have h1 := congrArg Array.toList r2
    rw [e1] at h1
    show Result.ok s w = _
    congr 1
    apply ByteArray.ext
    apply Array.ext'
    rw [e2]
    have h2 := congrArg (List.map fun v : Value => match v with | .int _ n => UInt8.ofNat n.toNat | _ => 0) h1
    simp only [List.map_map, Array.toList_map] at h2
    have h3 : (s.extract 0 s.size).data.toList = s.data.toList := by simp
    rw [h3] at h2
    have h4 : (List.map ((fun v : Value => match v with | .int _ n => UInt8.ofNat n.toNat | _ => 0) ∘ fun b : UInt8 => Value.int .u8 (b.toNat : Int)) s.data.toList) = s.data.toList := by
      rw [show ((fun v : Value => match v with | .int _ n => UInt8.ofNat n.toNat | _ => 0) ∘ fun b : UInt8 => Value.int .u8 (b.toNat : Int)) = id from by funext b; simp]
      simp
    rw [h4] at h2
    rw [h2]
    simp
  | _ => simp [Builtin.lenOf, stuck] at r1
def sameE (args : List AV) : M AV :=
  match args with
  | [a] => .pure a
  | _ => .fail
def compareE (args : List AV) : M AV :=
  match args with
  | [a, b] => (cellsIn 1 a).bind fun x => (cellsIn 1 b).bind fun y =>
    match bytesOf x with
    | some x =>
      match bytesOf y with
      | some y => .pure (.sc (goInt (Lib.compareBytes x y)))
      | none => .fail
    | none => .fail
  | _ => .fail
def Still {α : Type} (m : M α) : Prop := ∀ st v st1, m st = some (v, st1) → st1.h = st.h ∧ st1.nx = st.nx
theorem Still.pure {α : Type} (a : α) : Still (M.pure a) := fun st v st1 h => by cases h; exact ⟨rfl, rfl⟩
theorem Still.fail {α : Type} : Still (M.fail : M α) := fun st v st1 h => by cases h
theorem Still.bind {α β : Type} {m : M α} {f : α → M β} (hm : Still m) (h : ∀ x, Still (f x)) : Still (m.bind f) := fun st v st1 hb => by
  obtain ⟨x, s1, h1, h2⟩ := bind_some hb
  have h3 := hm _ _ _ h1
  have h4 := h x _ _ _ h2
  exact ⟨h4.1.trans h3.1, h4.2.trans h3.2⟩
theorem Still.hget (id : Nat) : Still (Vm.hget id) := fun _st _v _st1 h => (hget_some h).2
theorem Still.cond {α : Type} {b : Bool} {x y : M α} (hx : Still x) (hy : Still y) : Still (bif b then x else y) := by cases b <;> assumption
theorem Still.cellsIn (sz : Nat) (v : AV) : Still (Vm.cellsIn sz v) := by
  unfold Vm.cellsIn cellsObj
  repeat' (first | exact Still.pure _ | exact Still.fail | apply Still.cond | (refine Still.bind (Still.hget _) fun x => ?_) | split)
theorem compareE_still (args : List AV) : Still (compareE args) := by
  unfold compareE; split
  · exact Still.bind (Still.cellsIn _ _) fun x => Still.bind (Still.cellsIn _ _) fun y => by
      split
      · split
        · exact Still.pure _
        · exact Still.fail
      · exact Still.fail
  · exact Still.fail
theorem same_call {P : Program} {f : Nat} {fn : Func} (hf : P.funcs[f]? = some fn) (h1 : (fn.name == "runtime.NumGoroutine") = false) (h2 : fn.body.isNone = true) (h3 : Extern.findNext fn = none) (h4 : Extern.find fn = some Extern.AbiNoEscape.same) (args : List AV) :
    CallG P f args (sameE args) := by
  intro g st w vs r st' hok hfree hrel hm
  refine .inl ?_
  unfold sameE at hm
  split at hm
  · rename_i a
    cases hm
    obtain ⟨v, rfl, hv⟩ := relL_one hrel
    refine ⟨v, w, g, ?_, .refl _ _ _ _ _, hok, hv⟩
    rw [run_callFunc_extern hf h1 h2 h3 h4]
    rfl
  · cases hm
theorem compare_call {P : Program} {f : Nat} {fn : Func} (hf : P.funcs[f]? = some fn) (h1 : (fn.name == "runtime.NumGoroutine") = false) (h2 : fn.body.isNone = true) (h3 : Extern.findNext fn = none) (h4 : Extern.find fn = some Extern.BytealgCompare.compare) (args : List AV) :
    CallG P f args (compareE args) := by
  intro g st w vs r st' hok hfree hrel hm
  refine .inl ?_
  have hst := compareE_still _ _ _ _ hm
  unfold compareE at hm
  split at hm
  · rename_i a c
    obtain ⟨x, s1, e1, hm⟩ := bind_some hm
    obtain ⟨y, s2, e2, hm⟩ := bind_some hm
    cases hx : bytesOf x with
    | none => rw [hx] at hm; cases hm
    | some bx =>
    cases hy : bytesOf y with
    | none => rw [hx, hy] at hm; cases hm
    | some yb =>
    rw [hx, hy] at hm
    cases hm
    have hh := Still.cellsIn _ _ _ _ _ e1
    match vs, hrel with
    | [v, u], hrel =>
      have r1 := src_bytes (P := P) hok hrel.head e1 hx
      have r2 := src_bytes (P := P) (st := s1) (by rw [hh.1]; exact hok) hrel.tail.head e2 hy
      refine ⟨goInt (Lib.compareBytes bx yb), w, g, ?_, ?_, ?_, .sc _⟩
      · rw [run_callFunc_extern hf h1 h2 h3 h4]
        have : (Extern.BytealgCompare.compare #[v, u]).run P w = .ok (goInt (Lib.compareBytes bx yb)) w := by
          change Sem.run P (do pure (goInt (Extern.BytealgCompare.cmp (← Extern.Bytes.bytesOf v) (← Extern.Bytes.bytesOf u)))) w = _
          simp only [Sem.run_bind, r1, r2, Result.andThen, Sem.run_pure]
          rw [Lib.cmp_eq]
        show ((Extern.BytealgCompare.compare #[v, u]).run P w).andThen _ = _
        rw [this]
        rfl
      · rw [hst.1, hst.2]; exact .refl _ _ _ _ _
      · rw [hst.1]; exact hok
    | [], hrel => have := hrel.1; simp at this
    | [v], hrel => have := hrel.1; simp at this
    | _ :: _ :: _ :: _, hrel => have := hrel.1; simp at this
  · cases hm
end
end Go.Vm.Cx
end
section
set_option linter.unusedSimpArgs false
set_option linter.unnecessarySimpa false
namespace Go.Vm
noncomputable section
def roT (o : Option (Bool × (List AV → M AV))) : Bool := match o with | some (b, _) => b | none => false
theorem roT_s (b m) : roT (some (b, m)) = b := id rfl
theorem onlyOf_mem {o : Oper} {L : SL} {x : Operand} (h : x ∈ o.op.operands) : onlyOf o L x = evL L x := by
  cases x with
  | tmp t =>
    show (bif o.op.operands.any (fun x => match x with | .tmp u => Nat.beq u t | _ => false) then lk L t else .bad) = lk L t
    have : o.op.operands.any (fun x => match x with | .tmp u => Nat.beq u t | _ => false) = true := by
      rw [Array.any_eq_true']
      exact ⟨_, h, by simp⟩
    rw [this]; rfl
  | const v => rfl
  | global g => rfl
  | func f => rfl
theorem onlyOf_map {o : Oper} {L : SL} {l : List Operand} (h : ∀ x ∈ l, x ∈ o.op.operands) : l.map (onlyOf o L) = l.map (evL L) := List.map_congr_left fun x hx => onlyOf_mem (h x hx)
theorem onlyOf_map2 {o : Oper} {L : SL} {l : List (Nat × Operand)} (h : ∀ x ∈ l, x.2 ∈ o.op.operands) : l.map (fun p => (p.1, onlyOf o L p.2)) = l.map (fun p => (p.1, evL L p.2)) := List.map_congr_left fun x hx => by rw [onlyOf_mem (h x hx)]
def drawnQ (ro : Bool) (F : List Nat) (o : Oper) (recs : List Rec) (K : List Rec → SL → St → Prop) (L : SL) (st : St) (m : M AV) : Prop := drawnK ro F o recs K L st (m { h := maskH st.h F, nx := st.nx, rl := [], wl := [] })
theorem drawnQ_eq (ro F o recs K L st m) : drawnQ ro F o recs K L st m = drawnK ro F o recs K L st (m { h := maskH st.h F, nx := st.nx, rl := [], wl := [] }) := id rfl
section ops
variable (P : Program) (T : Tab) (L : SL) (st : St) (recs : List Rec) (K : List Rec → SL → St → Prop) (d : Option Tmp) (ty : TypeId) (pos : String) (af : Array Edge) (gd : Option (Nat × Bool))
theorem opD_move (x) : opDoD P T ⟨d, .move x, ty, pos, af, gd⟩ recs K L st = drawnQ (true) (reach st.h reachFuel (AV.names.go ([x].map (evL L))) []) ⟨d, .move x, ty, pos, af, gd⟩ recs K L st (mono (M.pure (evL L x))) := by
  unfold opDoD drawnF footOf drawnQ
  have hm : ∀ y, y ∈ ([x] : List Operand) → onlyOf ⟨d, .move x, ty, pos, af, gd⟩ L y = evL L y := fun y hy => onlyOf_mem (by simpa [Op.operands, Call.operands] using hy)
  have hmap : ([x] : List Operand).map (onlyOf ⟨d, .move x, ty, pos, af, gd⟩ L) = ([x] : List Operand).map (evL L) := onlyOf_map (fun y hy => by simpa [Op.operands, Call.operands] using hy)
  have ho : (⟨d, .move x, ty, pos, af, gd⟩ : Oper).op.operands.toList = [x] := by simp [Op.operands, Call.operands]
  rw [ho, hmap]
  rw [operL_move, hm x (by simp)]
  rfl
theorem opD_assign (x) : opDoD P T ⟨d, .assign x, ty, pos, af, gd⟩ recs K L st = drawnQ (true) (reach st.h reachFuel (AV.names.go ([x].map (evL L))) []) ⟨d, .assign x, ty, pos, af, gd⟩ recs K L st (mono (M.pure (evL L x))) := by
  unfold opDoD drawnF footOf drawnQ
  have hm : ∀ y, y ∈ ([x] : List Operand) → onlyOf ⟨d, .assign x, ty, pos, af, gd⟩ L y = evL L y := fun y hy => onlyOf_mem (by simpa [Op.operands, Call.operands] using hy)
  have hmap : ([x] : List Operand).map (onlyOf ⟨d, .assign x, ty, pos, af, gd⟩ L) = ([x] : List Operand).map (evL L) := onlyOf_map (fun y hy => by simpa [Op.operands, Call.operands] using hy)
  have ho : (⟨d, .assign x, ty, pos, af, gd⟩ : Oper).op.operands.toList = [x] := by simp [Op.operands, Call.operands]
  rw [ho, hmap]
  rw [operL_assign, hm x (by simp)]
  rfl
theorem opD_load (t a) : opDoD P T ⟨d, .load t a, ty, pos, af, gd⟩ recs K L st = drawnQ (true) (reach st.h reachFuel (AV.names.go ([a].map (evL L))) []) ⟨d, .load t a, ty, pos, af, gd⟩ recs K L st (mono (opLoad P t (evL L a))) := by
  unfold opDoD drawnF footOf drawnQ
  have hm : ∀ y, y ∈ ([a] : List Operand) → onlyOf ⟨d, .load t a, ty, pos, af, gd⟩ L y = evL L y := fun y hy => onlyOf_mem (by simpa [Op.operands, Call.operands] using hy)
  have hmap : ([a] : List Operand).map (onlyOf ⟨d, .load t a, ty, pos, af, gd⟩ L) = ([a] : List Operand).map (evL L) := onlyOf_map (fun y hy => by simpa [Op.operands, Call.operands] using hy)
  have ho : (⟨d, .load t a, ty, pos, af, gd⟩ : Oper).op.operands.toList = [a] := by simp [Op.operands, Call.operands]
  rw [ho, hmap]
  rw [operL_load, hm a (by simp)]
  rfl
theorem opD_fieldAddr (s x f) : opDoD P T ⟨d, .fieldAddr s x f, ty, pos, af, gd⟩ recs K L st = drawnQ (true) (reach st.h reachFuel (AV.names.go ([x].map (evL L))) []) ⟨d, .fieldAddr s x f, ty, pos, af, gd⟩ recs K L st (mono (opFieldAddr P s (evL L x) f)) := by
  unfold opDoD drawnF footOf drawnQ
  have hm : ∀ y, y ∈ ([x] : List Operand) → onlyOf ⟨d, .fieldAddr s x f, ty, pos, af, gd⟩ L y = evL L y := fun y hy => onlyOf_mem (by simpa [Op.operands, Call.operands] using hy)
  have hmap : ([x] : List Operand).map (onlyOf ⟨d, .fieldAddr s x f, ty, pos, af, gd⟩ L) = ([x] : List Operand).map (evL L) := onlyOf_map (fun y hy => by simpa [Op.operands, Call.operands] using hy)
  have ho : (⟨d, .fieldAddr s x f, ty, pos, af, gd⟩ : Oper).op.operands.toList = [x] := by simp [Op.operands, Call.operands]
  rw [ho, hmap]
  rw [operL_fieldAddr, hm x (by simp)]
  rfl
theorem opD_binOp (op t x y u) : opDoD P T ⟨d, .binOp op t x y u, ty, pos, af, gd⟩ recs K L st = drawnQ (true) (reach st.h reachFuel (AV.names.go ([x, y].map (evL L))) []) ⟨d, .binOp op t x y u, ty, pos, af, gd⟩ recs K L st (mono (opBin P (onlyOf ⟨d, .binOp op t x y u, ty, pos, af, gd⟩ L) ⟨d, .binOp op t x y u, ty, pos, af, gd⟩ op t x y)) := by
  unfold opDoD drawnF footOf drawnQ
  have hm : ∀ y, y ∈ ([x, y] : List Operand) → onlyOf ⟨d, .binOp op t x y u, ty, pos, af, gd⟩ L y = evL L y := fun y hy => onlyOf_mem (by simpa [Op.operands, Call.operands] using hy)
  have hmap : ([x, y] : List Operand).map (onlyOf ⟨d, .binOp op t x y u, ty, pos, af, gd⟩ L) = ([x, y] : List Operand).map (evL L) := onlyOf_map (fun y hy => by simpa [Op.operands, Call.operands] using hy)
  have ho : (⟨d, .binOp op t x y u, ty, pos, af, gd⟩ : Oper).op.operands.toList = [x, y] := by simp [Op.operands, Call.operands]
  rw [ho, hmap]
  rfl
theorem opD_pick (c a b) : opDoD P T ⟨d, .pick c a b, ty, pos, af, gd⟩ recs K L st = drawnQ (true) (reach st.h reachFuel (AV.names.go ([c, a, b].map (evL L))) []) ⟨d, .pick c a b, ty, pos, af, gd⟩ recs K L st (mono (opPick (evL L c) (evL L a) (evL L b))) := by
  unfold opDoD drawnF footOf drawnQ
  have hm : ∀ y, y ∈ ([c, a, b] : List Operand) → onlyOf ⟨d, .pick c a b, ty, pos, af, gd⟩ L y = evL L y := fun y hy => onlyOf_mem (by simpa [Op.operands, Call.operands] using hy)
  have hmap : ([c, a, b] : List Operand).map (onlyOf ⟨d, .pick c a b, ty, pos, af, gd⟩ L) = ([c, a, b] : List Operand).map (evL L) := onlyOf_map (fun y hy => by simpa [Op.operands, Call.operands] using hy)
  have ho : (⟨d, .pick c a b, ty, pos, af, gd⟩ : Oper).op.operands.toList = [c, a, b] := by simp [Op.operands, Call.operands]
  rw [ho, hmap]
  rw [operL_pick, hm c (by simp), hm a (by simp), hm b (by simp)]
  rfl
theorem opD_store (t a x) : opDoD P T ⟨d, .store t a x, ty, pos, af, gd⟩ recs K L st = drawnQ (false) (reach st.h reachFuel (AV.names.go ([a, x].map (evL L))) []) ⟨d, .store t a x, ty, pos, af, gd⟩ recs K L st (mono (opStore P t (evL L a) (evL L x))) := by
  unfold opDoD drawnF footOf drawnQ
  have hm : ∀ y, y ∈ ([a, x] : List Operand) → onlyOf ⟨d, .store t a x, ty, pos, af, gd⟩ L y = evL L y := fun y hy => onlyOf_mem (by simpa [Op.operands, Call.operands] using hy)
  have hmap : ([a, x] : List Operand).map (onlyOf ⟨d, .store t a x, ty, pos, af, gd⟩ L) = ([a, x] : List Operand).map (evL L) := onlyOf_map (fun y hy => by simpa [Op.operands, Call.operands] using hy)
  have ho : (⟨d, .store t a x, ty, pos, af, gd⟩ : Oper).op.operands.toList = [a, x] := by simp [Op.operands, Call.operands]
  rw [ho, hmap]
  rw [operL_store, hm a (by simp), hm x (by simp)]
  rfl
theorem opD_indexAddr (t x i) : opDoD P T ⟨d, .indexAddr t x i, ty, pos, af, gd⟩ recs K L st = drawnQ (true) (reach st.h reachFuel (AV.names.go ([x, i].map (evL L))) []) ⟨d, .indexAddr t x i, ty, pos, af, gd⟩ recs K L st (mono (opIndexAddr P t (evL L x) (evL L i))) := by
  unfold opDoD drawnF footOf drawnQ
  have hm : ∀ y, y ∈ ([x, i] : List Operand) → onlyOf ⟨d, .indexAddr t x i, ty, pos, af, gd⟩ L y = evL L y := fun y hy => onlyOf_mem (by simpa [Op.operands, Call.operands] using hy)
  have hmap : ([x, i] : List Operand).map (onlyOf ⟨d, .indexAddr t x i, ty, pos, af, gd⟩ L) = ([x, i] : List Operand).map (evL L) := onlyOf_map (fun y hy => by simpa [Op.operands, Call.operands] using hy)
  have ho : (⟨d, .indexAddr t x i, ty, pos, af, gd⟩ : Oper).op.operands.toList = [x, i] := by simp [Op.operands, Call.operands]
  rw [ho, hmap]
  rw [operL_indexAddr, hm x (by simp), hm i (by simp)]
  rfl
theorem opD_nilCheck (x) : opDoD P T ⟨d, .nilCheck x, ty, pos, af, gd⟩ recs K L st = drawnQ (true) (reach st.h reachFuel (AV.names.go ([x].map (evL L))) []) ⟨d, .nilCheck x, ty, pos, af, gd⟩ recs K L st (mono (opNilCheck (evL L x))) := by
  unfold opDoD drawnF footOf drawnQ
  have hm : ∀ y, y ∈ ([x] : List Operand) → onlyOf ⟨d, .nilCheck x, ty, pos, af, gd⟩ L y = evL L y := fun y hy => onlyOf_mem (by simpa [Op.operands, Call.operands] using hy)
  have hmap : ([x] : List Operand).map (onlyOf ⟨d, .nilCheck x, ty, pos, af, gd⟩ L) = ([x] : List Operand).map (evL L) := onlyOf_map (fun y hy => by simpa [Op.operands, Call.operands] using hy)
  have ho : (⟨d, .nilCheck x, ty, pos, af, gd⟩ : Oper).op.operands.toList = [x] := by simp [Op.operands, Call.operands]
  rw [ho, hmap]
  rw [operL_nilCheck, hm x (by simp)]
  rfl
theorem opD_alloc (t) : opDoD P T ⟨d, .alloc t, ty, pos, af, gd⟩ recs K L st = drawnQ (true) (reach st.h reachFuel [] []) ⟨d, .alloc t, ty, pos, af, gd⟩ recs K L st (mono (opAlloc P t)) := by
  unfold opDoD drawnF footOf drawnQ
  have hm : ∀ y, y ∈ ([] : List Operand) → onlyOf ⟨d, .alloc t, ty, pos, af, gd⟩ L y = evL L y := fun y hy => onlyOf_mem (by simpa [Op.operands, Call.operands] using hy)
  have hmap : ([] : List Operand).map (onlyOf ⟨d, .alloc t, ty, pos, af, gd⟩ L) = ([] : List Operand).map (evL L) := onlyOf_map (fun y hy => by simpa [Op.operands, Call.operands] using hy)
  have ho : (⟨d, .alloc t, ty, pos, af, gd⟩ : Oper).op.operands.toList = [] := by simp [Op.operands, Call.operands]
  rw [ho, hmap]
  rfl
theorem opD_build (t ps) : opDoD P T ⟨d, .build t ps, ty, pos, af, gd⟩ recs K L st = drawnQ (true) (reach st.h reachFuel (AV.names.go ((ps.toList.map (·.2)).map (evL L))) []) ⟨d, .build t ps, ty, pos, af, gd⟩ recs K L st (mono (opBuild P t (ps.toList.map fun p => (p.1, evL L p.2)))) := by
  unfold opDoD drawnF footOf drawnQ
  have hm : ∀ y, y ∈ ((ps.toList.map (·.2)) : List Operand) → onlyOf ⟨d, .build t ps, ty, pos, af, gd⟩ L y = evL L y := fun y hy => onlyOf_mem (by simpa [Op.operands, Call.operands] using hy)
  have hmap : ((ps.toList.map (·.2)) : List Operand).map (onlyOf ⟨d, .build t ps, ty, pos, af, gd⟩ L) = ((ps.toList.map (·.2)) : List Operand).map (evL L) := onlyOf_map (fun y hy => by simpa [Op.operands, Call.operands] using hy)
  have ho : (⟨d, .build t ps, ty, pos, af, gd⟩ : Oper).op.operands.toList = (ps.toList.map (·.2)) := by simp [Op.operands, Call.operands]
  rw [ho, hmap]
  rw [operL_build, onlyOf_map2 (fun x hx => by simp [Op.operands]; exact ⟨_, by simpa using hx⟩)]
  rfl
theorem opD_buildSlice (t n ps) : opDoD P T ⟨d, .buildSlice t n ps, ty, pos, af, gd⟩ recs K L st = drawnQ (true) (reach st.h reachFuel (AV.names.go ((ps.toList.map (·.2)).map (evL L))) []) ⟨d, .buildSlice t n ps, ty, pos, af, gd⟩ recs K L st (mono (opBuildSlice P t n (ps.toList.map fun p => (p.1, evL L p.2)))) := by
  unfold opDoD drawnF footOf drawnQ
  have hm : ∀ y, y ∈ ((ps.toList.map (·.2)) : List Operand) → onlyOf ⟨d, .buildSlice t n ps, ty, pos, af, gd⟩ L y = evL L y := fun y hy => onlyOf_mem (by simpa [Op.operands, Call.operands] using hy)
  have hmap : ((ps.toList.map (·.2)) : List Operand).map (onlyOf ⟨d, .buildSlice t n ps, ty, pos, af, gd⟩ L) = ((ps.toList.map (·.2)) : List Operand).map (evL L) := onlyOf_map (fun y hy => by simpa [Op.operands, Call.operands] using hy)
  have ho : (⟨d, .buildSlice t n ps, ty, pos, af, gd⟩ : Oper).op.operands.toList = (ps.toList.map (·.2)) := by simp [Op.operands, Call.operands]
  rw [ho, hmap]
  rw [operL_buildSlice, onlyOf_map2 (fun x hx => by simp [Op.operands]; exact ⟨_, by simpa using hx⟩)]
  rfl
theorem opD_slice (t x l h m) : opDoD P T ⟨d, .slice t x l h m, ty, pos, af, gd⟩ recs K L st = drawnQ (true) (reach st.h reachFuel (AV.names.go ((#[x] ++ l.toArray ++ h.toArray ++ m.toArray).toList.map (evL L))) []) ⟨d, .slice t x l h m, ty, pos, af, gd⟩ recs K L st (mono (opSlice P (onlyOf ⟨d, .slice t x l h m, ty, pos, af, gd⟩ L) ⟨d, .slice t x l h m, ty, pos, af, gd⟩ t x l h m)) := by
  unfold opDoD drawnF footOf drawnQ
  have hm : ∀ y, y ∈ ((#[x] ++ l.toArray ++ h.toArray ++ m.toArray).toList : List Operand) → onlyOf ⟨d, .slice t x l h m, ty, pos, af, gd⟩ L y = evL L y := fun y hy => onlyOf_mem (by simpa [Op.operands, Call.operands] using hy)
  have hmap : ((#[x] ++ l.toArray ++ h.toArray ++ m.toArray).toList : List Operand).map (onlyOf ⟨d, .slice t x l h m, ty, pos, af, gd⟩ L) = ((#[x] ++ l.toArray ++ h.toArray ++ m.toArray).toList : List Operand).map (evL L) := onlyOf_map (fun y hy => by simpa [Op.operands, Call.operands] using hy)
  have ho : (⟨d, .slice t x l h m, ty, pos, af, gd⟩ : Oper).op.operands.toList = (#[x] ++ l.toArray ++ h.toArray ++ m.toArray).toList := by simp [Op.operands, Call.operands]
  rw [ho, hmap]
  rfl
theorem opD_unOp (op t x) : opDoD P T ⟨d, .unOp op t x, ty, pos, af, gd⟩ recs K L st = drawnQ (true) (reach st.h reachFuel (AV.names.go ([x].map (evL L))) []) ⟨d, .unOp op t x, ty, pos, af, gd⟩ recs K L st (mono (opPure P (onlyOf ⟨d, .unOp op t x, ty, pos, af, gd⟩ L) ⟨d, .unOp op t x, ty, pos, af, gd⟩ [x])) := by
  unfold opDoD drawnF footOf drawnQ
  have hm : ∀ y, y ∈ ([x] : List Operand) → onlyOf ⟨d, .unOp op t x, ty, pos, af, gd⟩ L y = evL L y := fun y hy => onlyOf_mem (by simpa [Op.operands, Call.operands] using hy)
  have hmap : ([x] : List Operand).map (onlyOf ⟨d, .unOp op t x, ty, pos, af, gd⟩ L) = ([x] : List Operand).map (evL L) := onlyOf_map (fun y hy => by simpa [Op.operands, Call.operands] using hy)
  have ho : (⟨d, .unOp op t x, ty, pos, af, gd⟩ : Oper).op.operands.toList = [x] := by simp [Op.operands, Call.operands]
  rw [ho, hmap]
  rfl
theorem opD_len (x ts) : opDoD P T ⟨d, .call { callee := .builtin .len, args := #[x], argTypes := ts }, ty, pos, af, gd⟩ recs K L st = drawnQ (true) (reach st.h reachFuel (AV.names.go ([x].map (evL L))) []) ⟨d, .call { callee := .builtin .len, args := #[x], argTypes := ts }, ty, pos, af, gd⟩ recs K L st (mono (opLen ((ts[0]?).bind P.underlying) (evL L x))) := by
  unfold opDoD drawnF footOf drawnQ
  have hm : ∀ y, y ∈ ([x] : List Operand) → onlyOf ⟨d, .call { callee := .builtin .len, args := #[x], argTypes := ts }, ty, pos, af, gd⟩ L y = evL L y := fun y hy => onlyOf_mem (by simpa [Op.operands, Call.operands] using hy)
  have hmap : ([x] : List Operand).map (onlyOf ⟨d, .call { callee := .builtin .len, args := #[x], argTypes := ts }, ty, pos, af, gd⟩ L) = ([x] : List Operand).map (evL L) := onlyOf_map (fun y hy => by simpa [Op.operands, Call.operands] using hy)
  have ho : (⟨d, .call { callee := .builtin .len, args := #[x], argTypes := ts }, ty, pos, af, gd⟩ : Oper).op.operands.toList = [x] := by simp [Op.operands, Call.operands]
  rw [ho, hmap]
  rw [operL_len, hm x (by simp)]
  rfl
theorem opD_append (s x ts) : opDoD P T ⟨d, .call { callee := .builtin .append, args := #[s, x], argTypes := ts }, ty, pos, af, gd⟩ recs K L st = drawnQ (false) (reach st.h reachFuel (AV.names.go ([s, x].map (evL L))) []) ⟨d, .call { callee := .builtin .append, args := #[s, x], argTypes := ts }, ty, pos, af, gd⟩ recs K L st (mono (opAppend P ts[0]? ((ts[1]?).bind P.underlying) (evL L s) (evL L x))) := by
  unfold opDoD drawnF footOf drawnQ
  have hm : ∀ y, y ∈ ([s, x] : List Operand) → onlyOf ⟨d, .call { callee := .builtin .append, args := #[s, x], argTypes := ts }, ty, pos, af, gd⟩ L y = evL L y := fun y hy => onlyOf_mem (by simpa [Op.operands, Call.operands] using hy)
  have hmap : ([s, x] : List Operand).map (onlyOf ⟨d, .call { callee := .builtin .append, args := #[s, x], argTypes := ts }, ty, pos, af, gd⟩ L) = ([s, x] : List Operand).map (evL L) := onlyOf_map (fun y hy => by simpa [Op.operands, Call.operands] using hy)
  have ho : (⟨d, .call { callee := .builtin .append, args := #[s, x], argTypes := ts }, ty, pos, af, gd⟩ : Oper).op.operands.toList = [s, x] := by simp [Op.operands, Call.operands]
  rw [ho, hmap]
  rw [operL_append, hm s (by simp), hm x (by simp)]
  rfl
theorem opD_call (f args ts) : opDoD P T ⟨d, .call { callee := .value f, args, argTypes := ts }, ty, pos, af, gd⟩ recs K L st = drawnQ (readsOnly T (evL L) ⟨d, .call { callee := .value f, args, argTypes := ts }, ty, pos, af, gd⟩) (reach st.h reachFuel (AV.names.go ((f :: args.toList).map (evL L))) []) ⟨d, .call { callee := .value f, args, argTypes := ts }, ty, pos, af, gd⟩ recs K L st (callV T (evL L f) (args.toList.map (evL L))) := by
  unfold opDoD drawnF footOf drawnQ
  have h1 : ⟨d, .call { callee := .value f, args, argTypes := ts }, ty, pos, af, gd⟩ = (⟨d, .call { callee := .value f, args, argTypes := ts }, ty, pos, af, gd⟩ : Oper) := rfl
  have hf : onlyOf ⟨d, .call { callee := .value f, args, argTypes := ts }, ty, pos, af, gd⟩ L f = evL L f := onlyOf_mem (by simp [Op.operands, Call.operands])
  have ha : args.toList.map (onlyOf ⟨d, .call { callee := .value f, args, argTypes := ts }, ty, pos, af, gd⟩ L) = args.toList.map (evL L) := onlyOf_map (fun x hx => by simp [Op.operands, Call.operands]; exact .inr (by simpa using hx))
  have hr : readsOnly T (onlyOf ⟨d, .call { callee := .value f, args, argTypes := ts }, ty, pos, af, gd⟩ L) ⟨d, .call { callee := .value f, args, argTypes := ts }, ty, pos, af, gd⟩ = readsOnly T (evL L) ⟨d, .call { callee := .value f, args, argTypes := ts }, ty, pos, af, gd⟩ := by simp only [readsOnly, hf]
  have ho : (⟨d, .call { callee := .value f, args, argTypes := ts }, ty, pos, af, gd⟩ : Oper).op.operands.toList.map (onlyOf ⟨d, .call { callee := .value f, args, argTypes := ts }, ty, pos, af, gd⟩ L) = (f :: args.toList).map (evL L) := by
    show ((#[f] ++ args).toList).map _ = _
    simp only [Array.toList_append, List.map_append, ha, List.map_cons, hf]
    rfl
  rw [hr, ho]
  show drawnK _ _ _ _ _ _ _ (callV T (onlyOf _ L f) (args.toList.map (onlyOf _ L)) _) = _
  rw [hf, ha]
theorem readsOnly_f (n args ts) : readsOnly T (evL L) ⟨d, .call { callee := .value (.func n), args, argTypes := ts }, ty, pos, af, gd⟩ = roT (T.find n) := by simp only [readsOnly, evL]; rfl
end ops
theorem regionL_d (P T ops K L st) : regionL P T ops true K L st = (slotsCalm ops = true ∧ (opsD P T ops ops.toList K [] L st ∨ opsX P T ops ops.toList K [] L st)) := id rfl
theorem allLt_nil (n) : allLt n [] = true := id rfl
theorem allLt_cons (n o r) : allLt n (o :: r) = (Nat.blt o n && allLt n r) := id rfl
theorem same_nil (h h') : same h h' [] = True := id rfl
theorem same_cons (h h' o r) : same h h' (o :: r) = (h.get o = h'.get o ∧ same h h' r) := id rfl
theorem maskH_nil (h) : maskH h [] = .nil := id rfl
theorem maskH_cons (h o r) : maskH h (o :: r) = Tr.set depth (maskH h r) o (h.get o) := id rfl
theorem mergeH_nil (h1 h) : mergeH h1 [] h = h := id rfl
theorem mergeH_cons (h1 o r h) : mergeH h1 (o :: r) h = Tr.set depth (mergeH h1 r h) o (h1.get o) := id rfl
theorem zipK_cons (t ts v vs) : zipK (t :: ts) (v :: vs) = (t, v) :: zipK ts vs := id rfl
theorem rangeC_eq (P T f ps A B p Q L0 st0) : rangeC P T f ps A B p Q L0 st0 = (Nat.ble p 1000 = true ∧ rangeV P T ps A B p Q L0 st0 (iterFn (evL L0 f))) := id rfl
theorem rangeV_s (P T ps A B p Q L0 st0 g caps) : rangeV P T ps A B p Q L0 st0 (some (g, caps)) = rangeW P T ps A B p Q L0 st0 caps (iterB P g) := id rfl
theorem rangeW_s (P T ps A B p Q L0 st0 caps nt code) : rangeW P T ps A B p Q L0 st0 caps (some (nt, code)) = (Nat.ble (caps.length + 1) nt = true ∧ ∀ l : Nat, wlI P T l (roundC ps A B L0) p code (endI Q L0) none (argsL 0 (.sc (.func (.yield l) #[] #[]) :: caps)) st0) := id rfl
theorem iterFn_fn (g c) : iterFn (.fn (.func g) [] c) = some (g, c) := id rfl
theorem loopI_of' {P : Program} {T : Tab} {l : Nat} {pin : Nat} {L : SL} {st : St} {Q : QI} {ps : List Tmp} {ra rb : Code} {L0 : SL} {α : Type} {b : Code} (keep : List Nat) (V : α → List AV) (O : α → List (Option AObj)) (I : α → Prop) (μ : α → Nat) (x : α) (hx : I x)
    (hv : canonV pin keep L st = V x) (ho : canonO pin keep L st = O x)
    (step : ∀ x, I x → wlI P T l (roundC ps (fun p => wl P T p ra) (fun p => wl P T p rb) L0) pin b (headI (headQ pin keep (fun vs os => ∃ y, I y ∧ μ y < μ x ∧ vs = V y ∧ os = O y) (fun _ _ _ => False)) Q) none (zipK keep (V x)) (stK (O x))) : wlI P T l (roundC ps (fun p => wl P T p ra) (fun p => wl P T p rb) L0) pin (.loop b) Q none L st :=
  loopI_of (keep := keep) (V := V) (O := O) (I := I) (μ := μ) (x := x) (hx := hx) (hR := roundC_mono P T) (hv := hv) (ho := ho) (step := step)
theorem yield_keep {P : Program} {T : Tab} {R : Rnd} {pin : Nat} {L : SL} {st : St} {o : Oper} {K : Option Ex → SL → St → Prop} {args : Array Operand} (keep : List Nat) (h : yieldC R (canonO pin keep L st).length args o.dst K (zipK keep (canonV pin keep L st)) (stK (canonO pin keep L st))) : opIm P T R pin o K none L st (some args) := ⟨rfl, keep, h⟩
theorem ev_next (P : Program) : ∀ s : Sem Value, ev P (do pure (Next.value (← s))) = (ev P s).map Next.value := by
  intro s
  induction s with
  | pure b => rfl
  | program k ih => exact ih P
  | choose q k ih =>
    simp only [bind, Sem.bind, ev]
    split
    · exact ih 0
    · rfl
  | mark m k ih => exact ih
  | _ => rfl
def stuckM (m : M AV) : M AV := m
def notE (a : AV) (m : M AV) : M AV :=
  match a.bool with
  | some b => M.pure (.sc (.bool (!b)))
  | none => m
theorem notE_b (b : Bool) (m : M AV) : notE (.sc (.bool b)) m = M.pure (.sc (.bool (!b))) := id rfl
theorem bool_is {a : AV} {b : Bool} (h : a.bool = some b) : a = .sc (.bool b) := by
  unfold AV.bool AV.exact boolOf at h
  cases a with
  | sc v => cases v <;> simp at h; rw [h]
  | _ => cases h
theorem opPure_not (P : Program) (ρ : Operand → AV) (d ty pos af gd) (t : TypeId) (x : Operand) : opPure P ρ ⟨d, .unOp .not t x, ty, pos, af, gd⟩ [x] = notE (ρ x) (stuckM (opPure P ρ ⟨d, .unOp .not t x, ty, pos, af, gd⟩ [x])) := by
  unfold notE
  split
  · rename_i b hb
    have hx := bool_is hb
    have h2 : execOp (fun z => ((ρ z).toV).getD undef) ⟨d, .unOp .not t x, ty, pos, af, gd⟩ = (do pure (Next.value (← Op.unary .not (.bool b)))) := by
      simp only [execOp, hx, AV.toV, Option.getD_some]
    unfold opPure exactAll apure
    simp only [List.all_cons, List.all_nil, hx, AV.toV, Option.isSome_some, Bool.and_true, cond_true]
    rw [h2, ev_next]
    rfl
  · rfl
theorem operL_not (P : Program) (T : Tab) (ρ : Operand → AV) (d ty pos af gd) (t : TypeId) (x : Operand) : operL P T ⟨d, .unOp .not t x, ty, pos, af, gd⟩ ρ = mono (notE (ρ x) (stuckM (opPure P ρ ⟨d, .unOp .not t x, ty, pos, af, gd⟩ [x]))) := by
  exact congrArg mono (opPure_not ..)
theorem opD_not (P : Program) (T : Tab) (L : SL) (st : St) (recs : List Rec) (K : List Rec → SL → St → Prop) (d ty pos af gd) (t x) : opDoD P T ⟨d, .unOp .not t x, ty, pos, af, gd⟩ recs K L st = drawnQ true (reach st.h reachFuel (AV.names.go ([x].map (evL L))) []) ⟨d, .unOp .not t x, ty, pos, af, gd⟩ recs K L st (mono (notE (evL L x) (stuckM (opPure P (onlyOf ⟨d, .unOp .not t x, ty, pos, af, gd⟩ L) ⟨d, .unOp .not t x, ty, pos, af, gd⟩ [x])))) := by
  rw [opD_unOp]
  have h := opPure_not P (onlyOf ⟨d, .unOp .not t x, ty, pos, af, gd⟩ L) d ty pos af gd t x
  rw [onlyOf_mem (by simp [Op.operands])] at h
  rw [← h]
theorem bytesOf_byteCell (l : List UInt8) : bytesOf (l.map byteCell) = some l := by rw [byteCell_map, bytesOf_val]
theorem compareE_ss (a b : ByteArray) : Cx.compareE [.sc (.string a), .sc (.string b)] = M.pure (.sc (goInt (Lib.compareBytes a.data.toList b.data.toList))) := by
  unfold Cx.compareE cellsIn
  simp only [Nat.beq_refl, cond_true]
  unfold M.bind M.pure
  simp only [bytesOf_byteCell]
  rfl
theorem flatVal {α : Type} (C : Cod α) (f : Bool) (h : C.sz = 1) (ha : C.agg = false) (l : List α) : (l.map (C.val f)).flatMap AV.cells = l.map (C.val f) := by
  induction l with
  | nil => rfl
  | cons x l ih =>
    simp only [List.map_cons, List.flatMap_cons, ih]
    obtain ⟨c, h1, h2, _⟩ := C.one ha f x
    have : C.val f x = c := by simp [Cod.val, ha, h1]
    rw [this, h2]; rfl
theorem compareE_vv (f g : Bool) (a b : List UInt8) : Cx.compareE [.vl f 1 (a.map (codU8.val f)), .vl g 1 (b.map (codU8.val g))] = M.pure (.sc (goInt (Lib.compareBytes a b))) := by
  unfold Cx.compareE cellsIn
  simp only [Nat.beq_refl, cond_true, flatVal codU8 _ rfl rfl]
  unfold M.bind M.pure
  simp only [bytesOf_val]
  rfl
theorem onlyOf_bin1 {L : SL} {d ty pos af gd} {op t u x y} : onlyOf ⟨d, .binOp op t x y u, ty, pos, af, gd⟩ L x = evL L x := onlyOf_mem (by simp [Op.operands])
theorem onlyOf_bin2 {L : SL} {d ty pos af gd} {op t u x y} : onlyOf ⟨d, .binOp op t x y u, ty, pos, af, gd⟩ L y = evL L y := onlyOf_mem (by simp [Op.operands])
theorem onlyOf_slx {L : SL} {d ty pos af gd} {h l m t x} : onlyOf ⟨d, .slice t x l h m, ty, pos, af, gd⟩ L x = evL L x := onlyOf_mem (by simp [Op.operands])
theorem onlyOf_slh {L : SL} {d ty pos af gd} {h l m t x} : onlyOf ⟨d, .slice t x l (some h) m, ty, pos, af, gd⟩ L h = evL L h := onlyOf_mem (by simp [Op.operands])
def opPureS (P : Program) (ρ : Operand → AV) (o : Oper) (l : List Operand) : M AV := opPure P ρ o l
def indexE (u : Option TypeDesc) (a ix : AV) (m : M AV) : M AV :=
  match u with
  | some .string =>
    match a with
    | .sc (.string s) =>
      match ix with
      | .sc (.int _ n) =>
        match (bif decide (0 ≤ n) then s.data.toList[n.toNat]? else none) with
        | some b => M.pure (.sc (.int .u8 b.toNat))
        | none => m
      | _ => m
    | _ => m
  | _ => m
theorem indexE_s (s : ByteArray) (k : IntKind) (n : Int) (m : M AV) : indexE (some .string) (.sc (.string s)) (.sc (.int k n)) m = match (bif decide (0 ≤ n) then s.data.toList[n.toNat]? else none) with | some b => M.pure (.sc (.int .u8 b.toNat)) | none => m := id rfl
theorem opPure_index (P : Program) (ρ : Operand → AV) (d ty pos af gd) (t : TypeId) (x i : Operand) : opPure P ρ ⟨d, .index t x i, ty, pos, af, gd⟩ [x, i] = indexE (P.underlying t) (ρ x) (ρ i) (opPureS P ρ ⟨d, .index t x i, ty, pos, af, gd⟩ [x, i]) := by
  unfold indexE
  split
  · rename_i hu
    split
    · rename_i s hx
      split
      · rename_i k n hi
        split
        · rename_i b hb
          cases h0 : decide (0 ≤ n) with
          | false => rw [h0] at hb; cases hb
          | true =>
          rw [h0, cond_true] at hb
          have h0 : 0 ≤ n := by simpa using h0
          have hb' : s[n.toNat]? = some b := by
            obtain ⟨h1, h2⟩ := List.getElem?_eq_some_iff.1 hb
            simp at h1
            rw [getElem?_pos s n.toNat (by simpa using h1)]
            rw [← h2]; rfl
          have h2 : execOp (fun z => ((ρ z).toV).getD undef) ⟨d, .index t x i, ty, pos, af, gd⟩ = (do pure (Next.value (← Instr.index t (.string s) (.int k n)))) := by
            simp only [execOp, hx, hi, AV.toV, Option.getD_some]
          unfold opPure exactAll apure
          simp only [List.all_cons, List.all_nil, hx, hi, AV.toV, Option.isSome_some, Bool.and_true, cond_true]
          rw [h2, ev_next]
          have h3 : ev P (Instr.index t (.string s) (.int k n)) = some (.int .u8 b.toNat) := by
            simp [Instr.index, asIntOf, underlying, program, ev, hu, h0, hb', bind, Sem.bind, pure]
          rw [h3]
          rfl
        · rfl
      · rfl
    · rfl
  · rfl
theorem fdiv_nat (a n : Nat) : (a : Int).fdiv (n : Int) = ((a / n : Nat) : Int) := by
  rw [Int.fdiv_eq_ediv_of_nonneg _ (by omega)]; rfl
theorem fdiv_256 (a : Nat) : (a : Int).fdiv 256 = ((a / 256 : Nat) : Int) := fdiv_nat a 256
theorem fdiv_65536 (a : Nat) : (a : Int).fdiv 65536 = ((a / 65536 : Nat) : Int) := fdiv_nat a 65536
theorem fdiv_16777216 (a : Nat) : (a : Int).fdiv 16777216 = ((a / 16777216 : Nat) : Int) := fdiv_nat a 16777216
theorem find_hit (f : Nat) (m) (T : Tab) : Tab.find ((f, m) :: T) f = some m := by simp [Tab.find]
theorem find_miss (f g : Nat) (m) (T : Tab) (h : (f == g) = false) : Tab.find ((f, m) :: T) g = Tab.find T g := by
  have e : f ≠ g := by simpa using h
  simp [Tab.find, beq_no e]
end
end Go.Vm
end
namespace Go.Vm
noncomputable section
def appT (P : Program) (t : TypeId) : Option (Nat × Nat × Nat) :=
  match elemT P t with
  | some e =>
    match sizeT P e, bytesT P e, zeroT P e with
    | some sz, some bytes, some z => bif Nat.blt 0 sz && Nat.blt 0 bytes && Nat.beq z.cells.size sz then some (e, sz, bytes) else none
    | _, _, _ => none
  | none => none
end
end Go.Vm
section
set_option linter.unusedSimpArgs false
set_option linter.unusedVariables false
namespace Go.Vm
noncomputable section
def appM (q : Option (Nat × Nat × Nat)) (s x : AV) : M AV :=
  match q with
  | some (e, sz, bytes) => (cellsIn sz x).bind (aappend e sz bytes s)
  | none => M.fail
theorem appM_s (e sz bytes s x) : appM (some (e, sz, bytes)) s x = (cellsIn sz x).bind (aappend e sz bytes s) := id rfl
theorem opAppend_l (P : Program) (t e : TypeId) (s x : AV) : opAppend P (some t) (some (.slice e)) s x = appM (appT P t) s x := by
  unfold opAppend appM appT
  simp only [Option.bind_some]
  cases elemT P t with
  | none => rfl
  | some e =>
    simp only
    cases sizeT P e with
    | none => rfl
    | some sz =>
      cases bytesT P e with
      | none => rfl
      | some bytes =>
        cases zeroT P e with
        | none => rfl
        | some z =>
          simp only
          cases (Nat.blt 0 sz && Nat.blt 0 bytes && Nat.beq z.cells.size sz) <;> rfl
theorem opAppend_t (P : Program) (t : TypeId) (s x : AV) : opAppend P (some t) (some .string) s x = appM (appT P t) s x := by
  unfold opAppend appM appT
  simp only [Option.bind_some]
  cases elemT P t with
  | none => rfl
  | some e =>
    simp only
    cases sizeT P e with
    | none => rfl
    | some sz =>
      cases bytesT P e with
      | none => rfl
      | some bytes =>
        cases zeroT P e with
        | none => rfl
        | some z =>
          simp only
          cases (Nat.blt 0 sz && Nat.blt 0 bytes && Nat.beq z.cells.size sz) <;> rfl
theorem aappend_nil (e sz bytes new) : aappend e sz bytes (.sc (.slice none 0 0)) new = bif new.isEmpty then M.pure (.sc (.slice none 0 0)) else bif Nat.ble (new.length * bytes) 140737488355328 then newRowOf e sz (new.length / sz) new else M.fail := id rfl
theorem aappend_sl (e sz bytes o off len sz' new) : aappend e sz bytes (.sl o off len sz') new = bif Nat.beq sz sz' then (hget o).bind (appendObj e sz bytes o off len new) else M.fail := id rfl
theorem appendObj_r (e sz bytes o off len new cells k st et) : appendObj e sz bytes o off len new (.row cells k st et) = (bif Nat.beq et e && new.all AV.one && Nat.ble (off + len * sz) cells.length && Nat.ble ((len * sz + new.length) * bytes) 140737488355328 then
      bif Nat.ble k (off + len * sz) then
        (hdel o).bind fun _ => (hnew (.row ((cells.take (off + len * sz)).drop off ++ new) (k - off) (part' st) et)).bind fun id => M.pure (.sl id 0 (len + new.length / sz) sz)
      else bif new.isEmpty then M.pure (.sl o off len sz)
      else M.fail
    else M.fail) := id rfl
theorem part0 : part' 0 = 0 := id rfl
def cellsOf {α : Type} (C : Cod α) (f : Bool) (xs : List α) : List AV := xs.flatMap (C.cells f)
theorem cellsOf_nil {α : Type} (C : Cod α) (f) : cellsOf C f [] = [] := id rfl
theorem cellsOf_len {α : Type} (C : Cod α) (f) (xs : List α) : (cellsOf C f xs).length = xs.length * C.sz := by
  induction xs with
  | nil => simp [cellsOf]
  | cons x xs ih =>
    simp only [cellsOf] at ih
    simp [cellsOf, C.len, ih, Nat.succ_mul]; omega
theorem cellsOf_app {α : Type} (C : Cod α) (f) (xs ys : List α) : cellsOf C f (xs ++ ys) = cellsOf C f xs ++ cellsOf C f ys := by simp [cellsOf]
theorem cellsOf_one {α : Type} (C : Cod α) (f) (x : α) : cellsOf C f [x] = C.cells f x := by simp [cellsOf]
theorem cellsOf_all {α : Type} (C : Cod α) (f) (xs : List α) : (cellsOf C f xs).all AV.one = true := by
  rw [List.all_eq_true]
  intro c hc
  obtain ⟨x, _, hx⟩ := List.mem_flatMap.1 hc
  exact (C.pl f x c hx).one
theorem cellsOf_names {α : Type} (C : Cod α) (f) (xs : List α) : AV.names.go (cellsOf C f xs) = [] := namesGo_nil (fun c hc => by
  obtain ⟨x, _, hx⟩ := List.mem_flatMap.1 hc
  exact (C.pl f x c hx).names)
theorem cellsOf_ren {α : Type} (C : Cod α) (τ) (f) (xs : List α) : (cellsOf C f xs).map (AV.ren τ) = cellsOf C f xs := by
  rw [← renGo_map]
  exact renGo_id (fun c hc => by
    obtain ⟨x, _, hx⟩ := List.mem_flatMap.1 hc
    exact (C.pl f x c hx).ren τ)
theorem drop_at {α : Type} {xs : List α} {i : Nat} {x : α} (h : xs[i]? = some x) : xs.drop i = x :: xs.drop (i + 1) := by
  obtain ⟨h1, h2⟩ := List.getElem?_eq_some_iff.1 h
  rw [← h2]; exact List.drop_eq_getElem_cons h1
theorem flat_cod {α : Type} (C : Cod α) (f) (xs : List α) : (xs.map (C.val f)).flatMap AV.cells = cellsOf C f xs := by
  rw [List.flatMap_map]; congr 1; funext x; exact C.val_cells f x
theorem decRow_cells {α : Type} (C : Cod α) (fr : Bool) (h : Tr AObj) (f : Bool) (xs : List α) (k st et) (n : Nat) (hn : n = xs.length) (hf : (f || !fr) = true) : decRow C fr h 0 n (.row (cellsOf C f xs) k st et) = some xs := by
  subst hn
  simp only [decRow, Nat.zero_add, cellsOf_len, Nat.ble_self_eq_true, cond_true, List.drop_zero]
  have : (cellsOf C f xs).take (xs.length * C.sz) = cellsOf C f xs := List.take_of_length_le (by rw [cellsOf_len]; exact Nat.le_refl _)
  rw [this]
  exact decN_flat C fr h f (fun e => by subst e; simpa using hf) xs
theorem decRow_nil {α : Type} (C : Cod α) (fr h cells k st et) : decRow C fr h 0 0 (.row cells k st et) = some [] := by
  have h : Nat.ble 0 cells.length = true := Nat.ble_eq_true_of_le (Nat.zero_le _)
  simp [decRow, decN, h]
def dec1 {α : Type} (C : Cod α) (fr : Bool) (h : Tr AObj) : List AV → Option (List α)
  | [] => some []
  | a :: l => match C.dec fr h [a], dec1 C fr h l with
    | some x, some xs => some (x :: xs)
    | _, _ => none
def two1 {α : Type} (a b : Option (List α)) : Option (List α) := match a, b with | some x, some y => some (x ++ y) | _, _ => none
def cons1 {α : Type} (a : Option α) (b : Option (List α)) : Option (List α) := match a, b with | some x, some y => some (x :: y) | _, _ => none
theorem two1_s {α : Type} (a b : List α) : two1 (some a) (some b) = some (a ++ b) := id rfl
theorem cons1_s {α : Type} (a : α) (b : List α) : cons1 (some a) (some b) = some (a :: b) := id rfl
theorem dec1_nil {α : Type} (C : Cod α) (fr h) : dec1 C fr h [] = some [] := id rfl
theorem dec1_cons {α : Type} (C : Cod α) (fr h a l) : dec1 C fr h (a :: l) = cons1 (C.dec fr h [a]) (dec1 C fr h l) := id rfl
theorem dec1_app {α : Type} (C : Cod α) (fr h) : ∀ a b, dec1 C fr h (a ++ b) = two1 (dec1 C fr h a) (dec1 C fr h b)
  | [], b => by
    simp only [List.nil_append, dec1_nil]
    cases dec1 C fr h b <;> rfl
  | x :: a, b => by
    simp only [List.cons_append, dec1_cons, dec1_app C fr h a b]
    cases C.dec fr h [x] <;> cases dec1 C fr h a <;> cases dec1 C fr h b <;> rfl
theorem decN_one {α : Type} (C : Cod α) (hz : C.sz = 1) (fr h) : ∀ cells : List AV, decN C fr h cells.length cells = dec1 C fr h cells
  | [] => rfl
  | a :: l => by
    have h1 : (a :: l).take C.sz = [a] := by rw [hz]; rfl
    have h2 : (a :: l).drop C.sz = l := by rw [hz]; rfl
    simp only [List.length_cons, decN, h1, h2, decN_one C hz fr h l]
    rfl
theorem decRow_one {α : Type} (C : Cod α) (hz : C.sz = 1) (fr h n cells k st et) (hn : n = cells.length) : decRow C fr h 0 n (.row cells k st et) = dec1 C fr h cells := by
  subst hn
  simp only [decRow, hz, Nat.mul_one, Nat.zero_add, Nat.ble_self_eq_true, cond_true, List.drop_zero, List.take_length]
  exact decN_one C hz fr h cells
theorem dec1_map {α : Type} (C : Cod α) (hz : C.sz = 1) (ha : C.agg = false) (fr h f) (hf : fr = true → f = true) : ∀ l : List α, dec1 C fr h (l.map (C.val f)) = some l
  | [] => rfl
  | x :: l => by
    obtain ⟨c, h1, _⟩ := C.one ha f x
    have hv : C.val f x = c := by simp [Cod.val, ha, h1]
    have hd := C.rt fr h f x hf
    rw [h1] at hd
    rw [List.map_cons, dec1_cons, dec1_map C hz ha fr h f hf l, hv, hd]; rfl
theorem take_map {α β : Type} (f : α → β) (l : List α) (n : Nat) : (l.map f).take n = (l.take n).map f := List.map_take.symm
theorem drop_map {α β : Type} (f : α → β) (l : List α) (n : Nat) : (l.map f).drop n = (l.drop n).map f := List.map_drop.symm
theorem isEmpty_map' {α β : Type} (f : α → β) (l : List α) : (l.map f).isEmpty = l.isEmpty := by cases l <;> rfl
theorem isEmpty_app_one {α : Type} (l : List α) (x : α) : (l ++ [x]).isEmpty = false := by cases l <;> rfl
theorem namesGo_append (a b : List AV) : AV.names.go (a ++ b) = AV.names.go a ++ AV.names.go b := by
  induction a with
  | nil => rfl
  | cons x a ih => simp only [List.cons_append, AV.names.go, ih, List.append_assoc]
theorem rtT {α : Type} (C : Cod α) (h : Tr AObj) (x : α) : C.decV true h (C.val true x) = some x := C.rtV true h true x (fun _ => rfl)
theorem rtF {α : Type} (C : Cod α) (h : Tr AObj) (l : Bool) (x : α) : C.decV false h (C.val l x) = some x := C.rtV false h l x (fun e => by cases e)
theorem data_len (s : ByteArray) : s.data.toList.length = s.size := by simp
theorem take_le {α : Type} {l : List α} {n : Nat} (h : l.length ≤ n) : l.take n = l := List.take_of_length_le h
theorem rtF' {α : Type} (C : Cod α) (fr : Bool) (h : Tr AObj) (x : α) : C.decV fr h (C.val fr x) = some x := C.rtV fr h fr x (fun e => e)
theorem dleN {a b : Nat} (h : a ≤ b) : decide (a ≤ b) = true := by simpa using h
theorem dltN {a b : Nat} (h : a < b) : decide (a < b) = true := by simpa using h
theorem dleI {a b : Int} (h : a ≤ b) : decide (a ≤ b) = true := by simpa using h
theorem dltI {a b : Int} (h : a < b) : decide (a < b) = true := by simpa using h
theorem wrapI64 (x : Int) (h0 : -9223372036854775808 ≤ x) (h1 : x < 9223372036854775808) : IntKind.i64.wrap x = x := by
  simp [IntKind.wrap, IntKind.bits, IntKind.signed]; omega
theorem u8_nat (n : Nat) : IntKind.u8.wrap (n : Int) = ((UInt8.ofNat n).toNat : Int) := by simp [IntKind.wrap, IntKind.bits, IntKind.signed]
theorem boolK_d {p : Prop} [Decidable p] {X Y : SL → St → Prop} {L st} : boolK (.sc (.bool (decide p))) X Y L st = ((p → X L st) ∧ (¬ p → Y L st)) := by
  by_cases h : p <;> simp [h, boolK_t, boolK_f]
theorem boolK_eqI {a b : Int} {X Y : SL → St → Prop} {L st} : boolK (.sc (.bool (a == b))) X Y L st = (((a == b) = true ∧ a = b → X L st) ∧ ((a == b) = false ∧ a ≠ b → Y L st)) := by
  by_cases h : a = b
  · subst h; simp [boolK_t]
  · have : (a == b) = false := by simpa using h
    simp [h, this, boolK_f]
theorem boolK_neI {a b : Int} {X Y : SL → St → Prop} {L st} : boolK (.sc (.bool (a != b))) X Y L st = (((a != b) = true ∧ a ≠ b → X L st) ∧ ((a != b) = false ∧ a = b → Y L st)) := by
  by_cases h : a = b
  · subst h; simp [boolK_f]
  · have : (a != b) = true := by simpa using h
    simp [h, this, boolK_t]
theorem operL_cap (P : Program) (T : Tab) (ρ : Operand → AV) (d ty pos af gd) (x ts) : operL P T ⟨d, .call { callee := .builtin .cap, args := #[x], argTypes := ts }, ty, pos, af, gd⟩ ρ = mono (opCap ((ts[0]?).bind P.underlying) (ρ x)) := id rfl
theorem opCap_nil (e a n c) : opCap (some (.slice e)) (.sc (.slice a n c)) = M.pure (.sc (goInt c)) := id rfl
def appZ (P : Program) (q : Option (Nat × Nat × Nat)) (s x : AV) : M AV :=
  match q with
  | some (e, sz, bytes) =>
    match zerosOf P e sz x with
    | some new => aappend e sz bytes s new
    | none => M.fail
  | none => M.fail
theorem appZ_s (P : Program) (e sz bytes s x) : appZ P (some (e, sz, bytes)) s x = match zerosOf P e sz x with | some new => aappend e sz bytes s new | none => M.fail := id rfl
theorem opAppend_z (P : Program) (t : TypeId) (k : IntKind) (s x : AV) : opAppend P (some t) (some (.int k)) s x = appZ P (appT P t) s x := by
  unfold opAppend appZ appT
  simp only [Option.bind_some]
  cases elemT P t with
  | none => rfl
  | some e =>
    simp only
    cases sizeT P e with
    | none => rfl
    | some sz =>
      cases bytesT P e with
      | none => rfl
      | some bytes =>
        cases zeroT P e with
        | none => rfl
        | some z =>
          simp only
          cases (Nat.blt 0 sz && Nat.blt 0 bytes && Nat.beq z.cells.size sz) <;> rfl
def zerosZ (z : Option Value) (sz : Nat) (n : Int) : Option (List AV) :=
  match z with
  | some z => bif decide (0 ≤ n) && decide (n ≤ 1073741824) && Nat.beq z.cells.size sz then some ((List.replicate n.toNat (z.cells.toList.map AV.sc)).flatten) else none
  | none => none
theorem zerosZ_s (z sz n) : zerosZ (some z) sz n = bif decide (0 ≤ n) && decide (n ≤ 1073741824) && Nat.beq z.cells.size sz then some ((List.replicate n.toNat (z.cells.toList.map AV.sc)).flatten) else none := id rfl
theorem zerosOf_n (P : Program) (e sz : Nat) (k : IntKind) (n : Int) : zerosOf P e sz (.sc (.int k n)) = zerosZ (zeroT P e) sz n := by
  simp only [zerosOf, zerosZ, asN, AV.int, AV.exact, Option.bind_some, intOf, Option.map_some]
  cases zeroT P e <;> rfl
theorem rep_one {α : Type} (n : Nat) (x : α) : (List.replicate n [x]).flatten = List.replicate n x := by
  induction n with
  | zero => rfl
  | succ n ih => simp [List.replicate_succ, ih]
theorem rep_isEmpty {α : Type} {n : Nat} {x : α} (h : 0 < n) : (List.replicate n x).isEmpty = false := by
  cases n with
  | zero => omega
  | succ n => rfl
theorem nc0 : ((0 : Nat) : Int) = 0 := id rfl
theorem nc1 : ((1 : Nat) : Int) = 1 := id rfl
theorem rep_u8 (n : Nat) : List.replicate n (AV.sc (.int .u8 0)) = (List.replicate n (0 : UInt8)).map (codU8.val false) := by rw [List.map_replicate]; rfl
def nilE (P : Program) (u : Option TypeDesc) (x hi : AV) (m : M AV) : M AV :=
  match u with
  | some (.slice e) =>
    match sizeT P e with
    | some _ =>
      match x with
      | .sc (.slice none 0 0) =>
        match hi with
        | .sc (.int .i64 0) => M.pure (.sc (.slice none 0 0))
        | _ => m
      | _ => m
    | none => m
  | _ => m
theorem nilE_s (P : Program) (e m) (h : (sizeT P e).isSome = true) : nilE P (some (.slice e)) (.sc (.slice none 0 0)) (.sc (.int .i64 0)) m = M.pure (.sc (.slice none 0 0)) := by
  obtain ⟨n, hn⟩ := Option.isSome_iff_exists.1 h
  simp only [nilE, hn]
theorem opPure_sliceNil (P : Program) (ρ : Operand → AV) (d ty pos af gd) (t : TypeId) (x h : Operand) : opPure P ρ ⟨d, .slice t x none (some h) none, ty, pos, af, gd⟩ (.slice t x none (some h) none : Op).operands.toList = nilE P (P.underlying t) (ρ x) (ρ h) (opPureS P ρ ⟨d, .slice t x none (some h) none, ty, pos, af, gd⟩ (.slice t x none (some h) none : Op).operands.toList) := by
  unfold nilE
  split
  · rename_i e hu
    split
    · rename_i n hn
      split
      · rename_i hx
        split
        · rename_i hh
          have h2 : execOp (fun z => ((ρ z).toV).getD undef) ⟨d, .slice t x none (some h) none, ty, pos, af, gd⟩ = (do pure (Next.value (← Instr.sliceAt t (.slice none 0 0) none (some (.int .i64 0)) none))) := by
            simp only [execOp, hx, hh, AV.toV, Option.getD_some, Option.map_some, Option.map_none]
          have hi : ∃ i, P.info? e = some i := by
            unfold sizeT at hn
            cases hq : P.info? e with
            | none => rw [hq] at hn; cases hn
            | some i => exact ⟨i, rfl⟩
          obtain ⟨i, hi⟩ := hi
          have h3 : ev P (Instr.sliceAt t (.slice none 0 0) none (some (.int .i64 0)) none) = some (.slice none 0 0) := by
            simp [Instr.sliceAt, Instr.slice, Instr.sliceBounds, Instr.sliceBound, asIntOf, underlying, program, ev, hu, sizeOf, typeInfo, hi, bind, Sem.bind, pure]
          unfold opPure exactAll apure
          simp only [Op.operands]
          simp [hx, hh, AV.toV]
          rw [h2, ev_next, h3]
          rfl
        · rfl
      · rfl
    · rfl
  · rfl
def accV {α : Type} (o sz : Nat) (l : List α) : AV := bif l.isEmpty then .sc (.slice none 0 0) else .sl o 0 l.length sz
def accO (cells : List AV) (k st : Nat) (et : TypeId) : List (Option AObj) := bif cells.isEmpty then [] else [some (.row cells k st et)]
theorem accV_some {α : Type} {o sz} {l : List α} (h : l.isEmpty = false) : accV o sz l = .sl o 0 l.length sz := by simp [accV, h]
theorem accV_snoc {α : Type} (o sz) (l : List α) (c : α) : accV o sz (l ++ [c]) = .sl o 0 (l.length + 1) sz := by rw [accV_some (isEmpty_app_one l c)]; simp
theorem accO_some {cells : List AV} {k st et} (h : cells.isEmpty = false) : accO cells k st et = [some (.row cells k st et)] := by simp [accO, h]
theorem accO_map {α : Type} {f : α → AV} {l : List α} {k st et} (h : l.isEmpty = false) : accO (l.map f) k st et = [some (.row (l.map f) k st et)] := accO_some (by rw [isEmpty_map', h])
theorem accO_snoc {α : Type} (f : α → AV) (l : List α) (c : α) (k st et) : accO ((l ++ [c]).map f) k st et = [some (.row (l.map f ++ [f c]) k st et)] := by rw [accO_map (isEmpty_app_one l c)]; simp
theorem at_lt {α : Type} {l : List α} {i : Nat} (h : decide ((i : Int) < (l.length : Int)) = true) : ∃ c, l[i]? = some c ∧ l.drop i = c :: l.drop (i + 1) ∧ i < l.length := by
  have h1 : i < l.length := by simp at h; omega
  exact ⟨l[i], List.getElem?_eq_getElem h1, List.drop_eq_getElem_cons h1, h1⟩
theorem at_ge {α : Type} {l : List α} {i : Nat} (h : decide ((i : Int) < (l.length : Int)) = false) : l.drop i = [] := by
  have h1 : ¬ i < l.length := by simp at h; omega
  exact List.drop_eq_nil_of_le (by omega)
def keepO (D : List Nat) : Nat → List (Option AObj) → List (Option AObj)
  | _, [] => []
  | i, x :: r => (bif memN i D then x else none) :: keepO D (i + 1) r
def dropO (D : List Nat) : Nat → List (Option AObj) → List (Option AObj)
  | _, [] => []
  | i, x :: r => (bif memN i D then none else x) :: dropO D (i + 1) r
theorem keepO_len (D) : ∀ (i : Nat) (os : List (Option AObj)), (keepO D i os).length = os.length
  | _, [] => rfl
  | i, x :: r => by simp [keepO, keepO_len D (i + 1) r]
theorem dropO_len (D) : ∀ (i : Nat) (os : List (Option AObj)), (dropO D i os).length = os.length
  | _, [] => rfl
  | i, x :: r => by simp [dropO, dropO_len D (i + 1) r]
theorem keepO_get (D) : ∀ (os : List (Option AObj)) (i j : Nat), ((keepO D i os)[j]?).join = if (i + j) ∈ D then (os[j]?).join else none
  | [], i, j => by simp [keepO]
  | x :: r, i, 0 => by
    simp only [keepO, List.getElem?_cons_zero, Option.join_some, Nat.add_zero]
    cases hb : memN i D with
    | true => rw [if_pos ((memN_iff i D).1 hb)]; rfl
    | false => rw [if_neg (fun h => by rw [(memN_iff i D).2 h] at hb; cases hb)]; rfl
  | x :: r, i, j + 1 => by
    simp only [keepO, List.getElem?_cons_succ]
    rw [keepO_get D r (i + 1) j, show i + 1 + j = i + (j + 1) from by omega]
theorem dropO_get (D) : ∀ (os : List (Option AObj)) (i j : Nat), ((dropO D i os)[j]?).join = if (i + j) ∈ D then none else (os[j]?).join
  | [], i, j => by simp [dropO]
  | x :: r, i, 0 => by
    simp only [dropO, List.getElem?_cons_zero, Option.join_some, Nat.add_zero]
    cases hb : memN i D with
    | true => rw [if_pos ((memN_iff i D).1 hb)]; rfl
    | false => rw [if_neg (fun h => by rw [(memN_iff i D).2 h] at hb; cases hb)]; rfl
  | x :: r, i, j + 1 => by
    simp only [dropO, List.getElem?_cons_succ]
    rw [dropO_get D r (i + 1) j, show i + 1 + j = i + (j + 1) from by omega]
theorem stK_get (os : List (Option AObj)) (h : os.length ≤ limit) (o : Nat) : (stK os).h.get o = (os[o]?).join := by
  simp only [stK]
  rw [heapK_get _ _ _ (by omega), if_pos (Nat.zero_le _), Nat.sub_zero]
inductive Lax (h : Tr AObj) : AV → AV → Prop
  | same (a : AV) : Lax h a a
  | data {α : Type} (C : Cod α) (fr : Bool) (x : α) (a : AV) (hd : C.decV fr h a = some x) : Lax h a (C.val fr x)
  | bad (a : AV) : Lax h a .bad
  | nil (o off sz : Nat) : Lax h (.sc (.slice none 0 0)) (.sl o off 0 sz)
  | nilv (loc : Bool) (sz : Nat) : Lax h (.sc (.slice none 0 0)) (.vl loc sz [])
inductive LaxL (h : Tr AObj) : List AV → List AV → Prop
  | nil : LaxL h [] []
  | cons {a b : AV} {l m : List AV} (h1 : Lax h a b) (h2 : LaxL h l m) : LaxL h (a :: l) (b :: m)
theorem LaxL.len {h l m} (hl : LaxL h l m) : m.length = l.length := by
  induction hl with
  | nil => rfl
  | cons _ _ ih => simp [ih]
theorem LaxL.get {h l m} (hl : LaxL h l m) : ∀ (i : Nat) b, m[i]? = some b → ∃ a, l[i]? = some a ∧ Lax h a b := by
  induction hl with
  | nil => intro i b hb; simp at hb
  | cons h1 h2 ih =>
    intro i b hb
    cases i with
    | zero => simp at hb; subst hb; exact ⟨_, rfl, h1⟩
    | succ i => exact ih i b (by simpa using hb)
inductive LaxO (h : Tr AObj) : List (Option AObj) → List (Option AObj) → Prop
  | nil : LaxO h [] []
  | ghost {st et m} (h2 : LaxO h [] m) : LaxO h [] (some (.row [] 0 st et) :: m)
  | same {x l m} (h2 : LaxO h l m) : LaxO h (x :: l) (x :: m)
  | gone {x l m} (h2 : LaxO h l m) : LaxO h (x :: l) (none :: m)
  | row {cells cells' k st et l m} (h1 : LaxL h cells cells') (h2 : LaxO h l m) : LaxO h (some (.row cells k st et) :: l) (some (.row cells' k st et) :: m)
theorem LaxO.refl (h) : ∀ l, LaxO h l l
  | [] => .nil
  | x :: l => .same (LaxO.refl h l)
theorem LaxO.len {h l m} (hl : LaxO h l m) : l.length ≤ m.length := by induction hl <;> simp_all
theorem LaxO.get {h l m} (hl : LaxO h l m) : ∀ (i : Nat) y, (m[i]?).join = some y → (l[i]?).join = some y ∨ (∃ cells cells' k st et, y = .row cells' k st et ∧ (l[i]?).join = some (.row cells k st et) ∧ LaxL h cells cells') ∨ (l.length ≤ i ∧ Ghostly y) := by
  induction hl with
  | nil => intro i y hy; simp at hy
  | @ghost st et m h2 ih =>
    intro i y hy
    cases i with
    | zero => simp at hy; subst hy; exact .inr (.inr ⟨Nat.le_refl _, st, et, rfl⟩)
    | succ i => exact .inr (.inr ⟨Nat.zero_le _, (by
        rcases ih i y (by simpa using hy) with h | ⟨_, _, _, _, _, _, h, _⟩ | h
        · simp at h
        · simp at h
        · exact h.2)⟩)
  | same h2 ih =>
    intro i y hy
    cases i with
    | zero => exact .inl hy
    | succ i => exact (ih i y (by simpa using hy)).imp id (Or.imp id (fun h => ⟨Nat.succ_le_succ h.1, h.2⟩))
  | gone h2 ih =>
    intro i y hy
    cases i with
    | zero => simp at hy
    | succ i => exact (ih i y (by simpa using hy)).imp id (Or.imp id (fun h => ⟨Nat.succ_le_succ h.1, h.2⟩))
  | row h1 h2 ih =>
    intro i y hy
    cases i with
    | zero => simp at hy; subst hy; exact .inr (.inl ⟨_, _, _, _, _, rfl, rfl, h1⟩)
    | succ i => exact (ih i y (by simpa using hy)).imp id (Or.imp id (fun h => ⟨Nat.succ_le_succ h.1, h.2⟩))
theorem WkV.lax {vs vs' : List AV} {os os' : List (Option AObj)} {pin : Nat} (D : List Nat) (hlen' : os'.length ≤ limit) (hv : LaxL (stK (keepO D 0 os)).h vs vs') (ho : LaxO (stK (keepO D 0 os)).h (dropO D 0 os) os') : WkV pin vs os vs' os' := by
  have holen : os.length ≤ os'.length := by have := ho.len; rw [dropO_len] at this; exact this
  have hlen : os.length ≤ limit := Nat.le_trans holen hlen'
  refine ⟨hv.len, fun q => Nat.le_trans q holen, fun g w us hok hfree hr => ?_⟩
  obtain ⟨hD, ehD⟩ : ∃ hD, (stK (keepO D 0 os)).h = hD := ⟨_, rfl⟩
  rw [ehD] at hv ho
  have hget : ∀ o, (stK os).h.get o = (os[o]?).join := stK_get os hlen
  have hgetD : ∀ o, hD.get o = if o ∈ D then (os[o]?).join else none := fun o => by
    rw [← ehD, stK_get _ (by rw [keepO_len]; exact hlen), keepO_get, Nat.zero_add]
  have hget' : ∀ o y, (stK os').h.get o = some y → (o ∉ D ∧ ((stK os).h.get o = some y ∨ ∃ cells cells' k st et, y = .row cells' k st et ∧ (stK os).h.get o = some (.row cells k st et) ∧ LaxL hD cells cells')) ∨ (os.length ≤ o ∧ Ghostly y) := fun o y hy => by
    rw [stK_get _ hlen'] at hy
    have hmid : ∀ z, ((dropO D 0 os)[o]?).join = some z → o ∉ D ∧ (os[o]?).join = some z := fun z hz => by
      rw [dropO_get, Nat.zero_add] at hz
      by_cases hd : o ∈ D
      · rw [if_pos hd] at hz; cases hz
      · rw [if_neg hd] at hz; exact ⟨hd, hz⟩
    rw [hget]
    rcases ho.get o y hy with h1 | ⟨cells, cells', k, st, et, h1, h2, h3⟩ | h1
    · exact .inl ⟨(hmid _ h1).1, .inl (hmid _ h1).2⟩
    · exact .inl ⟨(hmid _ h2).1, .inr ⟨cells, cells', k, st, et, h1, (hmid _ h2).2, h3⟩⟩
    · rw [dropO_len] at h1; exact .inr h1
  have hsub : ∀ o x, hD.get o = some x → o ∈ D ∧ (stK os).h.get o = some x := fun o x hx => by
    rw [hgetD] at hx
    by_cases hd : o ∈ D
    · rw [if_pos hd] at hx; rw [hget]; exact ⟨hd, hx⟩
    · rw [if_neg hd] at hx; cases hx
  have hokD : Ok g hD w := hok.part (fun o x hx => (hsub o x hx).2)
  obtain ⟨K', eK⟩ : ∃ K' : Nat → Nat → Prop, (fun b j => g.K b j ∨ ∃ o base cells k s e, hD.get o = some (.row cells k s e) ∧ g.inj o = some (b, base) ∧ ∃ i, i < cells.length ∧ j = base + i) = K' := ⟨_, rfl⟩
  have hK' : ∀ b j, K' b j ↔ (g.K b j ∨ ∃ o base cells k s e, hD.get o = some (.row cells k s e) ∧ g.inj o = some (b, base) ∧ ∃ i, i < cells.length ∧ j = base + i) := fun b j => by rw [← eK]
  have hlend : Lends g hD K' := ⟨fun b j h => (hK' b j).2 (.inl h), fun o cells k s e h b base hi j hj => (hK' _ _).2 (.inr ⟨o, base, cells, k, s, e, h, hi, j, hj, rfl⟩)⟩
  have hlax : ∀ {a b : AV} {v : Value}, Lax hD a b → Rel g w a v → Rel { g with K := K' } w b v := fun {a b v} hl hrel => by
    have hup : Rel { g with K := K' } w a v := Rel.ext (g := g) (w := w) (g' := { g with K := K' }) (w' := w) ⟨rfl, fun _ _ h => h, fun b j h => (hK' b j).2 (.inl h), fun _ _ _ => rfl, fun b cs e fr h => ⟨cs, fr, h, rfl⟩, fun b l h => ⟨l, h⟩⟩ hrel
    cases hl with
    | same => exact hup
    | data C fr x a hd => exact (C.okV hokD hlend (fun _ => Nat.le_refl g.b0) hrel hd).lift (Nat.le_refl _) (fun _ _ h => h)
    | bad => exact .bad _
    | nil o off sz => obtain rfl := hup.exact rfl; exact .sln _ _ _
    | nilv loc sz => obtain rfl := hup.exact rfl; exact .vlnil _ _
  refine ⟨{ g with K := K' }, ⟨hok.size, fun o y hy => ?_, fun o o' x x' b base base' hne hx hx' hb hb' => ?_, fun b j hk => ?_⟩, ⟨by rw [hv.len]; exact hr.1, fun i b v hb hv' => ?_⟩, rfl, fun o q => hfree o (Nat.le_trans holen q), fun _ _ => rfl, fun b j h => (hK' b j).2 (.inl h), fun o b base ho' hi' => ?_, fun b j hk => ?_⟩
  · rcases hget' o y hy with ⟨hnd, hy⟩ | ⟨hge, hgh⟩
    case inr => exact .inl ⟨hfree o hge, hgh⟩
    have hKo : ∀ b base, g.inj o = some (b, base) → ((stK os).h.get o).isSome = true → ∀ j, K' b j → g.K b j := fun b base hi hs j hk => by
      rcases (hK' b j).1 hk with h | ⟨o2, base2, cells, k, s, e, h1, h2, _⟩
      · exact h
      · exfalso
        obtain ⟨hd2, h1'⟩ := hsub o2 _ h1
        obtain ⟨x, hx⟩ := Option.isSome_iff_exists.1 hs
        exact hok.sep o o2 x _ b base base2 (fun e => hnd (by rw [e]; exact hd2)) hx h1' hi h2
    have hext : Ext g w { g with K := K' } w := ⟨rfl, fun _ _ h => h, fun b j h => (hK' b j).2 (.inl h), fun _ _ _ => rfl, fun b cs e fr h => ⟨cs, fr, h, rfl⟩, fun b l h => ⟨l, h⟩⟩
    rcases hy with hy | ⟨cells, cells', k, st, et, rfl, hy, hcl⟩
    · refine (hok.obj' o y hy).imp id ?_
      rintro ⟨b, base, h1, h2, h3⟩
      exact ⟨b, base, h1, h2, h3.ext hext rfl (fun j hj => hKo b base h1 (by rw [hy]; rfl) j hj)⟩
    · refine (hok.obj' o _ hy).imp (fun q => ⟨q.1, by
        obtain ⟨s0, e0, he⟩ := q.2
        simp only [AObj.row.injEq] at he
        obtain ⟨rfl, rfl, rfl, rfl⟩ := he
        cases hcl
        exact ⟨_, _, rfl⟩⟩) ?_
      rintro ⟨b, base, h1, h2, cs, fr, r1, r2, r3, r4, r5, r6, r7⟩
      refine ⟨b, base, h1, h2, cs, fr, r1, by rw [hcl.len]; exact r2, fun j c hc => ?_, r4, fun j hj => r5 j (hKo b base h1 (by rw [hy]; rfl) j hj), r6, fun e => by rw [hcl.len]; exact r7 e⟩
      obtain ⟨a, ha, hla⟩ := hcl.get j c hc
      obtain ⟨u, hu, hru⟩ := r3 j a ha
      exact ⟨u, hu, hlax hla hru⟩
  · have q : ∀ o y p, (stK os').h.get o = some y → g.inj o = some p → ∃ z, (stK os).h.get o = some z := fun o y p hy hp => by
      rcases hget' o y hy with ⟨_, h | ⟨_, _, _, _, _, _, h, _⟩⟩ | ⟨h, _⟩
      · exact ⟨_, h⟩
      · exact ⟨_, h⟩
      · rw [hfree o h] at hp; cases hp
    obtain ⟨z, hz⟩ := q o x _ hx hb
    obtain ⟨z', hz'⟩ := q o' x' _ hx' hb'
    exact hok.sep o o' z z' b base base' hne hz hz' hb hb'
  · rcases (hK' b j).1 hk with h | ⟨o, base, cells, k, s, e, h1, h2, _⟩
    · exact hok.K b j h
    · obtain ⟨b', base', h3, _, h4⟩ := hokD.obj o _ h1
      rw [h2] at h3; cases h3
      exact h4.lt
  · obtain ⟨a, ha, hla⟩ := hv.get i b hb
    exact hlax hla (hr.2 i a v ha hv')
  · obtain ⟨y, hy⟩ := Option.isSome_iff_exists.1 ho'
    rcases hget' o y hy with ⟨_, h | ⟨_, _, _, _, _, _, h, _⟩⟩ | ⟨h, _⟩
    · exact ⟨o, base, by rw [h]; rfl, hi'⟩
    · exact ⟨o, base, by rw [h]; rfl, hi'⟩
    · have : g.inj o = some (b, base) := hi'
      rw [hfree o h] at this; cases this
  · rcases (hK' b j).1 hk with h | ⟨o, base, cells, k, s, e, h1, h2, _⟩
    · exact .inl h
    · exact .inr ⟨o, base, by rw [(hsub o _ h1).2]; rfl, h2⟩
theorem loop_of_w {α : Type} {P : Program} {T : Tab} {pin : Nat} {b : Code} {Q : QL} {L : SL} {st : St} (keep : List Nat) (V : α → List AV) (O : α → List (Option AObj)) (I : α → Prop) (μ : α → Nat) (x : α) (hx : I x)
    (hv : WkV pin (canonV pin keep L st) (canonO pin keep L st) (V x) (O x))
    (step : ∀ x, I x → wl P T pin b (headQ pin keep (fun vs os => ∃ y, I y ∧ μ y < μ x ∧ WkV pin vs os (V y) (O y)) Q) (zipK keep (V x)) (stK (O x))) : LoopL pin (wl P T pin b) Q L st :=
  LoopL.of_w keep V O I μ x hx hv (fun _ _ h => wl_mono b _ _ h) step
theorem loop_of_g {α : Type} {P : Program} {T : Tab} {pin : Nat} {b : Code} {Q : QL} {L : SL} {st : St} (keep : List Nat) (V : α → List AV) (O : α → List (Option AObj)) (I : α → Prop) (μ : α → Nat) (x : α) (hx : I x)
    (hv : WkV pin (canonV pin keep L st) (canonO pin keep L st) (V x) (O x))
    (step : ∀ x, I x → wl P T pin b (headQ pin keep (fun vs os => ∃ y, I y ∧ μ y < μ x ∧ vs = V y ∧ os = O y) Q) (zipK keep (V x)) (stK (O x))) : LoopL pin (wl P T pin b) Q L st :=
  loop_of_w keep V O I μ x hx hv (fun x hi => wl_mono b _ _ (fun e L' st' hq => by
    cases e with
    | normal =>
      obtain ⟨y, h1, h2, h3, h4⟩ := hq
      refine ⟨y, h1, h2, ?_⟩
      rw [h3, h4]; exact .refl _ _ _
    | exit id => exact hq
    | ret => exact hq) _ _ (step x hi))
theorem flat_codStr (f) (l) : (List.map (codStr.val f) l).flatMap AV.cells = l.map (codStr.val f) := flatVal codStr f rfl rfl l
theorem all_codStr (f) (l) : (List.map (codStr.val f) l).all AV.one = true := by rw [← flat_codStr f l, flat_cod]; exact cellsOf_all _ _ _
theorem decRow_codStr (fr h n cells k st et) (hn : n = cells.length) : decRow codStr fr h 0 n (.row cells k st et) = dec1 codStr fr h cells := decRow_one codStr rfl fr h n cells k st et hn
theorem dec1_codStr (fr h f) (l) : dec1 codStr fr h (List.map (codStr.val f) l) = some l := by
  have e : List.map (codStr.val f) l = List.map (codStr.val true) l := by cases f <;> rfl
  rw [e]; exact dec1_map codStr rfl rfl fr h true (fun _ => rfl) l
theorem flat_codU8 (f) (l) : (List.map (codU8.val f) l).flatMap AV.cells = l.map (codU8.val f) := flatVal codU8 f rfl rfl l
theorem all_codU8 (f) (l) : (List.map (codU8.val f) l).all AV.one = true := by rw [← flat_codU8 f l, flat_cod]; exact cellsOf_all _ _ _
theorem decRow_codU8 (fr h n cells k st et) (hn : n = cells.length) : decRow codU8 fr h 0 n (.row cells k st et) = dec1 codU8 fr h cells := decRow_one codU8 rfl fr h n cells k st et hn
theorem dec1_codU8 (fr h f) (l) : dec1 codU8 fr h (List.map (codU8.val f) l) = some l := by
  have e : List.map (codU8.val f) l = List.map (codU8.val true) l := by cases f <;> rfl
  rw [e]; exact dec1_map codU8 rfl rfl fr h true (fun _ => rfl) l
theorem flat_codU32 (f) (l) : (List.map (codU32.val f) l).flatMap AV.cells = l.map (codU32.val f) := flatVal codU32 f rfl rfl l
theorem all_codU32 (f) (l) : (List.map (codU32.val f) l).all AV.one = true := by rw [← flat_codU32 f l, flat_cod]; exact cellsOf_all _ _ _
theorem decRow_codU32 (fr h n cells k st et) (hn : n = cells.length) : decRow codU32 fr h 0 n (.row cells k st et) = dec1 codU32 fr h cells := decRow_one codU32 rfl fr h n cells k st et hn
theorem dec1_codU32 (fr h f) (l) : dec1 codU32 fr h (List.map (codU32.val f) l) = some l := by
  have e : List.map (codU32.val f) l = List.map (codU32.val true) l := by cases f <;> rfl
  rw [e]; exact dec1_map codU32 rfl rfl fr h true (fun _ => rfl) l
theorem decRow_codName (fr h n cells k st et) (hn : n = cells.length) : decRow codName fr h 0 n (.row cells k st et) = dec1 codName fr h cells := decRow_one codName rfl fr h n cells k st et hn
theorem dec1_codName (fr h f) (l) (hf : (f || !fr) = true) : dec1 codName fr h (List.map (codName.val f) l) = some l := dec1_map codName rfl rfl fr h f (fun e => by subst e; simpa using hf) l
theorem decS_tcodStr (fr h l n xs) (hn : n = 1) (hl : (l || !fr) = true) : decS codStr fr h (.vl l n (xs.map (codStr.val false))) = some xs := by
  cases l with
  | true => exact decS_vl codStr fr h true xs n hn hl
  | false => exact decS_vl codStr fr h false xs n hn hl
theorem loc_codStr : codStr.val true = codStr.val false := id rfl
theorem decS_tcodU8 (fr h l n xs) (hn : n = 1) (hl : (l || !fr) = true) : decS codU8 fr h (.vl l n (xs.map (codU8.val false))) = some xs := by
  cases l with
  | true => exact decS_vl codU8 fr h true xs n hn hl
  | false => exact decS_vl codU8 fr h false xs n hn hl
theorem loc_codU8 : codU8.val true = codU8.val false := id rfl
theorem decS_tcodU32 (fr h l n xs) (hn : n = 1) (hl : (l || !fr) = true) : decS codU32 fr h (.vl l n (xs.map (codU32.val false))) = some xs := by
  cases l with
  | true => exact decS_vl codU32 fr h true xs n hn hl
  | false => exact decS_vl codU32 fr h false xs n hn hl
theorem loc_codU32 : codU32.val true = codU32.val false := id rfl
theorem dec_codStr (fr h s) : codStr.dec fr h [.sc (.string s)] = some s := id rfl
theorem dec_codU8 (fr h) (c : UInt8) : codU8.dec fr h [.sc (.int .u8 c.toNat)] = some c := codU8.rt fr h true c (fun _ => rfl)
theorem dec_codU16 (fr h) (c : UInt16) : codU16.dec fr h [.sc (.int .u16 c.toNat)] = some c := codU16.rt fr h true c (fun _ => rfl)
theorem dec_codU32 (fr h) (c : UInt32) : codU32.dec fr h [.sc (.int .u32 c.toNat)] = some c := codU32.rt fr h true c (fun _ => rfl)
theorem fresh_app (a b : List AV) : AV.fresh.go (a ++ b) = (AV.fresh.go a && AV.fresh.go b) := by
  induction a with
  | nil => rfl
  | cons x a ih => simp only [List.cons_append, AV.fresh.go, ih, Bool.and_assoc]
theorem fresh_u8 (f) (l : List UInt8) : AV.fresh.go (l.map (codU8.val f)) = true := by
  induction l with
  | nil => rfl
  | cons x l ih => simp only [List.map_cons, AV.fresh.go, ih]; rfl
theorem codName_one (f) (c : Name) : (codName.val f c).one = true := id rfl
theorem codName_cells (f) (c : Name) : (codName.val f c).cells = [codName.val f c] := id rfl
theorem dec_bytes (fr h a) : (codL codU8).dec fr h [a] = decS codU8 fr h a := id rfl
theorem decRow_bytes (fr h n cells k st et) (hn : n = cells.length) : decRow (codL codU8) fr h 0 n (.row cells k st et) = dec1 (codL codU8) fr h cells := decRow_one (codL codU8) rfl fr h n cells k st et hn
end
end Go.Vm
end
section
set_option linter.unusedVariables false
set_option maxRecDepth 4000
namespace Go.Vm
theorem wR : type_of% @wl_skip ∧ type_of% @wl_label ∧ type_of% @wl_region ∧ type_of% @wl_seq ∧ type_of% @wl_cond ∧ type_of% @wl_block ∧ type_of% @wl_loop ∧ type_of% @wl_scope ∧ type_of% @wl_exit ∧ type_of% @wl_ret ∧ type_of% @seqQ_n ∧ type_of% @seqQ_e ∧ type_of% @seqQ_r ∧ type_of% @blkQ_n ∧ type_of% @blkQ_r ∧ type_of% @blkQ_e ∧ type_of% @headQ_n ∧ type_of% @headQ_e ∧ type_of% @headQ_r ∧ type_of% @retQ_n ∧ type_of% @retQ_r ∧ type_of% @regionL_f ∧ type_of% @opsL_nil ∧ type_of% @opsL_cons ∧ type_of% @guardedK_n ∧ type_of% @guardedK_t ∧ type_of% @guardK_t ∧ type_of% @guardK_f ∧ type_of% @guardK_u ∧ type_of% @opDo_eq ∧ type_of% @afterE_s ∧ type_of% @contK_eq ∧ type_of% @regionL_d ∧ type_of% @opsD_nil ∧ type_of% @opsD_cons ∧ type_of% @drawnQ_eq ∧ type_of% @drawnK_s ∧ type_of% @opSkip_eq ∧ type_of% @afterOp_s ∧ type_of% @retR_s ∧ type_of% @boolK_t ∧ type_of% @boolK_f ∧ type_of% @wl_range ∧ type_of% @wlI_skip ∧ type_of% @wlI_region ∧ type_of% @wlI_seq ∧ type_of% @wlI_cond ∧ type_of% @wlI_block ∧ type_of% @wlI_exit ∧ type_of% @wlI_ret ∧ type_of% @seqI_n ∧ type_of% @seqI_e ∧ type_of% @seqI_r ∧ type_of% @blkI_n ∧ type_of% @blkI_r ∧ type_of% @blkI_e ∧ type_of% @headI_n ∧ type_of% @headI_e ∧ type_of% @headI_r ∧ type_of% @endI_nn ∧ type_of% @endI_rs ∧ type_of% @opsI_nil ∧ type_of% @opsI_cons ∧ type_of% @guardedI_n ∧ type_of% @guardedI_t ∧ type_of% @guardI_t ∧ type_of% @boolI_t ∧ type_of% @boolI_f ∧ type_of% @opSkipI_eq ∧ type_of% @opI_eq ∧ type_of% @opIm_n ∧ type_of% @afterY_n ∧ type_of% @afterY_r ∧ type_of% @thenR_n ∧ type_of% @putArgs_nil ∧ type_of% @putArgs_cons :=
  ⟨@wl_skip, @wl_label, @wl_region, @wl_seq, @wl_cond, @wl_block, @wl_loop, @wl_scope, @wl_exit, @wl_ret, @seqQ_n, @seqQ_e, @seqQ_r, @blkQ_n, @blkQ_r, @blkQ_e, @headQ_n, @headQ_e, @headQ_r, @retQ_n, @retQ_r, @regionL_f, @opsL_nil, @opsL_cons, @guardedK_n, @guardedK_t, @guardK_t, @guardK_f, @guardK_u, @opDo_eq, @afterE_s, @contK_eq, @regionL_d, @opsD_nil, @opsD_cons, @drawnQ_eq, @drawnK_s, @opSkip_eq, @afterOp_s, @retR_s, @boolK_t, @boolK_f, @wl_range, @wlI_skip, @wlI_region, @wlI_seq, @wlI_cond, @wlI_block, @wlI_exit, @wlI_ret, @seqI_n, @seqI_e, @seqI_r, @blkI_n, @blkI_r, @blkI_e, @headI_n, @headI_e, @headI_r, @endI_nn, @endI_rs, @opsI_nil, @opsI_cons, @guardedI_n, @guardedI_t, @guardI_t, @boolI_t, @boolI_f, @opSkipI_eq, @opI_eq, @opIm_n, @afterY_n, @afterY_r, @thenR_n, @putArgs_nil, @putArgs_cons⟩
theorem R0 : type_of% @drop_map ∧ type_of% @rep_u8 ∧ type_of% @nc0 ∧ type_of% @nc1 ∧ type_of% @Int.sub_zero ∧ type_of% @Int.sub_self ∧ type_of% @Int.zero_add ∧ type_of% @opAppend_z ∧ type_of% @appZ_s ∧ type_of% @zerosOf_n ∧ type_of% @zerosZ_s ∧ type_of% @rep_one ∧ type_of% @rep_isEmpty ∧ type_of% @List.length_replicate.{0} ∧ type_of% @operL_cap ∧ type_of% @opCap_nil ∧ type_of% @nilE_s ∧ type_of% @opPure_sliceNil ∧ type_of% @operL_index ∧ type_of% @opPure_index ∧ type_of% @indexE_s ∧ type_of% @fdiv_256 ∧ type_of% @fdiv_65536 ∧ type_of% @fdiv_16777216 ∧ type_of% @data_len ∧ type_of% @take_le ∧ type_of% @u8_nat ∧ type_of% @dec1_nil ∧ type_of% @dec1_cons ∧ type_of% @dec1_app ∧ type_of% @two1_s ∧ type_of% @cons1_s ∧ type_of% @dec1_codStr ∧ type_of% @dec1_codU8 ∧ type_of% @dec1_codU32 ∧ type_of% @dec1_codName ∧ type_of% @dec_codStr ∧ type_of% @dec_codU8 ∧ type_of% @dec_codU16 ∧ type_of% @dec_codU32 ∧ type_of% @List.length_append.{0} ∧ type_of% @rtT ∧ type_of% @rtF ∧ type_of% @Go.Vm.opSlice.eq_1 ∧ type_of% @Go.Vm.bounds.eq_1 ∧ type_of% @Go.Vm.bnd.eq_1 ∧ type_of% @Go.Vm.bnd.eq_2 :=
  ⟨@drop_map, @rep_u8, @nc0, @nc1, @Int.sub_zero, @Int.sub_self, @Int.zero_add, @opAppend_z, @appZ_s, @zerosOf_n, @zerosZ_s, @rep_one, @rep_isEmpty, @List.length_replicate.{0}, @operL_cap, @opCap_nil, @nilE_s, @opPure_sliceNil, @operL_index, @opPure_index, @indexE_s, @fdiv_256, @fdiv_65536, @fdiv_16777216, @data_len, @take_le, @u8_nat, @dec1_nil, @dec1_cons, @dec1_app, @two1_s, @cons1_s, @dec1_codStr, @dec1_codU8, @dec1_codU32, @dec1_codName, @dec_codStr, @dec_codU8, @dec_codU16, @dec_codU32, @List.length_append.{0}, @rtT, @rtF, @Go.Vm.opSlice.eq_1, @Go.Vm.bounds.eq_1, @Go.Vm.bnd.eq_1, @Go.Vm.bnd.eq_2⟩
theorem R1 : type_of% @Go.Vm.opIndex.eq_1 ∧ type_of% @Go.Vm.opField.eq_def ∧ type_of% @namesGo_append ∧ type_of% @cellsOf_names ∧ type_of% @cellsOf_ren ∧ type_of% @decRow_nil ∧ type_of% @Nat.div_one ∧ type_of% @opAppend_l ∧ type_of% @opAppend_t ∧ type_of% @appM_s ∧ type_of% @aappend_nil ∧ type_of% @aappend_sl ∧ type_of% @appendObj_r ∧ type_of% @part0 ∧ type_of% @flat_codStr ∧ type_of% @flat_codU8 ∧ type_of% @flat_codU32 ∧ type_of% @all_codStr ∧ type_of% @all_codU8 ∧ type_of% @all_codU32 ∧ type_of% @loc_codStr ∧ type_of% @loc_codU8 ∧ type_of% @loc_codU32 ∧ type_of% @isSlT_s ∧ type_of% @eqRef_s ∧ type_of% @binElse_vl ∧ type_of% @yesNo_e ∧ type_of% @binElse_slices ∧ type_of% @ev_eql_slnil ∧ type_of% @Option.isNone_none.{0} ∧ type_of% @Option.isNone_some.{0} ∧ type_of% @mkD_eta :=
  ⟨@Go.Vm.opIndex.eq_1, @Go.Vm.opField.eq_def, @namesGo_append, @cellsOf_names, @cellsOf_ren, @decRow_nil, @Nat.div_one, @opAppend_l, @opAppend_t, @appM_s, @aappend_nil, @aappend_sl, @appendObj_r, @part0, @flat_codStr, @flat_codU8, @flat_codU32, @all_codStr, @all_codU8, @all_codU32, @loc_codStr, @loc_codU8, @loc_codU32, @isSlT_s, @eqRef_s, @binElse_vl, @yesNo_e, @binElse_slices, @ev_eql_slnil, @Option.isNone_none.{0}, @Option.isNone_some.{0}, @mkD_eta⟩
theorem R2 : type_of% @codName_one ∧ type_of% @codName_cells ∧ type_of% @decS_tcodStr ∧ type_of% @decS_tcodU8 ∧ type_of% @decS_tcodU32 ∧ type_of% @fresh_app ∧ type_of% @fresh_u8 ∧ type_of% @dec_bytes ∧ type_of% @decRow_bytes ∧ type_of% @decRow_codStr ∧ type_of% @decRow_codU8 ∧ type_of% @decRow_codU32 ∧ type_of% @decRow_codName ∧ type_of% @take_map ∧ type_of% @isEmpty_map' ∧ type_of% @List.isEmpty_cons.{0} ∧ type_of% @List.isEmpty_nil.{0} ∧ type_of% @List.flatMap_nil.{0, 0} ∧ type_of% @onlyOf_bin1 ∧ type_of% @onlyOf_bin2 ∧ type_of% @onlyOf_slx ∧ type_of% @onlyOf_slh ∧ type_of% @and_true ∧ type_of% @true_and ∧ type_of% @compareE_ss ∧ type_of% @compareE_vv ∧ type_of% @operL_not ∧ type_of% @opD_not ∧ type_of% @notE_b ∧ type_of% @and_self ∧ type_of% @List.size_toArray.{0} ∧ type_of% @zipK_cons ∧ type_of% @rangeC_eq ∧ type_of% @rangeV_s ∧ type_of% @rangeW_s ∧ type_of% @iterFn_fn ∧ type_of% @opD_move ∧ type_of% @opD_assign ∧ type_of% @opD_load ∧ type_of% @opD_fieldAddr ∧ type_of% @opD_binOp ∧ type_of% @opD_pick ∧ type_of% @opD_store ∧ type_of% @opD_indexAddr :=
  ⟨@codName_one, @codName_cells, @decS_tcodStr, @decS_tcodU8, @decS_tcodU32, @fresh_app, @fresh_u8, @dec_bytes, @decRow_bytes, @decRow_codStr, @decRow_codU8, @decRow_codU32, @decRow_codName, @take_map, @isEmpty_map', @List.isEmpty_cons.{0}, @List.isEmpty_nil.{0}, @List.flatMap_nil.{0, 0}, @onlyOf_bin1, @onlyOf_bin2, @onlyOf_slx, @onlyOf_slh, @and_true, @true_and, @compareE_ss, @compareE_vv, @operL_not, @opD_not, @notE_b, @and_self, @List.size_toArray.{0}, @zipK_cons, @rangeC_eq, @rangeV_s, @rangeW_s, @iterFn_fn, @opD_move, @opD_assign, @opD_load, @opD_fieldAddr, @opD_binOp, @opD_pick, @opD_store, @opD_indexAddr⟩
theorem R3 : type_of% @opD_nilCheck ∧ type_of% @opD_alloc ∧ type_of% @opD_build ∧ type_of% @opD_buildSlice ∧ type_of% @opD_slice ∧ type_of% @opD_len ∧ type_of% @opD_append ∧ type_of% @opD_call ∧ type_of% @allLt_nil ∧ type_of% @allLt_cons ∧ type_of% @same_nil ∧ type_of% @same_cons ∧ type_of% @maskH_nil ∧ type_of% @maskH_cons ∧ type_of% @mergeH_nil ∧ type_of% @mergeH_cons ∧ type_of% @roT_s ∧ type_of% @find_hit ∧ type_of% @find_miss ∧ type_of% @readsOnly_f ∧ type_of% @binElse_strs ∧ type_of% @ev_eql_str ∧ type_of% @ev_neq_str ∧ type_of% @bytesOf_val ∧ type_of% @Go.Vm.cellsIn.eq_1 ∧ type_of% @Go.Vm.cellsIn.eq_2 ∧ type_of% @Go.Vm.cellsIn.eq_5 ∧ type_of% @Go.Vm.cellsIn.eq_6 ∧ type_of% @Go.Vm.cellsObj.eq_1 ∧ type_of% @Go.Vm.bytesStr.eq_1 ∧ type_of% @byteCell_map ∧ type_of% @names_go_val ∧ type_of% @codL_decV_vl ∧ type_of% @codL_decV_sl ∧ type_of% @codL_decV_nil ∧ type_of% @codName_decV_vl ∧ type_of% @codName_decV_sl ∧ type_of% @codName_decV_nil ∧ type_of% @yieldOf_move ∧ type_of% @yieldOf_assign ∧ type_of% @yieldOf_load ∧ type_of% @yieldOf_fieldAddr ∧ type_of% @yieldOf_binOp ∧ type_of% @yieldOf_pick ∧ type_of% @yieldOf_store :=
  ⟨@opD_nilCheck, @opD_alloc, @opD_build, @opD_buildSlice, @opD_slice, @opD_len, @opD_append, @opD_call, @allLt_nil, @allLt_cons, @same_nil, @same_cons, @maskH_nil, @maskH_cons, @mergeH_nil, @mergeH_cons, @roT_s, @find_hit, @find_miss, @readsOnly_f, @binElse_strs, @ev_eql_str, @ev_neq_str, @bytesOf_val, @Go.Vm.cellsIn.eq_1, @Go.Vm.cellsIn.eq_2, @Go.Vm.cellsIn.eq_5, @Go.Vm.cellsIn.eq_6, @Go.Vm.cellsObj.eq_1, @Go.Vm.bytesStr.eq_1, @byteCell_map, @names_go_val, @codL_decV_vl, @codL_decV_sl, @codL_decV_nil, @codName_decV_vl, @codName_decV_sl, @codName_decV_nil, @yieldOf_move, @yieldOf_assign, @yieldOf_load, @yieldOf_fieldAddr, @yieldOf_binOp, @yieldOf_pick, @yieldOf_store⟩
theorem R4 : type_of% @yieldOf_indexAddr ∧ type_of% @yieldOf_alloc ∧ type_of% @yieldOf_unOp ∧ type_of% @yieldOf_len ∧ type_of% @yieldOf_call ∧ type_of% @isYield_y ∧ type_of% @codName_sz ∧ type_of% @codData_sz ∧ type_of% @codData_dec ∧ type_of% @decS_nil ∧ type_of% @decS_vl ∧ type_of% @decS_sl ∧ type_of% @codU8_dec1 ∧ type_of% @opBuild_eq ∧ type_of% @opBuildSlice_eq ∧ type_of% @afill_nil ∧ type_of% @afill_cons ∧ type_of% @Go.Vm.newRowOf.eq_1 ∧ type_of% @List.flatten_cons.{0} ∧ type_of% @List.flatten_nil.{0} ∧ type_of% @List.replicate_succ.{0} ∧ type_of% @List.replicate_zero.{0} ∧ type_of% @putL_some ∧ type_of% @putL_none ∧ type_of% @lk_hit ∧ type_of% @lk_miss ∧ type_of% @evL_t ∧ type_of% @evL_c ∧ type_of% @evL_f ∧ type_of% @operL_move ∧ type_of% @operL_assign ∧ type_of% @operL_load ∧ type_of% @operL_fieldAddr ∧ type_of% @operL_binOp :=
  ⟨@yieldOf_indexAddr, @yieldOf_alloc, @yieldOf_unOp, @yieldOf_len, @yieldOf_call, @isYield_y, @codName_sz, @codData_sz, @codData_dec, @decS_nil, @decS_vl, @decS_sl, @codU8_dec1, @opBuild_eq, @opBuildSlice_eq, @afill_nil, @afill_cons, @Go.Vm.newRowOf.eq_1, @List.flatten_cons.{0}, @List.flatten_nil.{0}, @List.replicate_succ.{0}, @List.replicate_zero.{0}, @putL_some, @putL_none, @lk_hit, @lk_miss, @evL_t, @evL_c, @evL_f, @operL_move, @operL_assign, @operL_load, @operL_fieldAddr, @operL_binOp⟩
theorem R5 : type_of% @operL_pick ∧ type_of% @operL_store ∧ type_of% @operL_extract ∧ type_of% @operL_indexAddr ∧ type_of% @operL_nilCheck ∧ type_of% @operL_alloc ∧ type_of% @operL_box ∧ type_of% @operL_build ∧ type_of% @operL_buildSlice ∧ type_of% @operL_makeFunc ∧ type_of% @operL_convert ∧ type_of% @operL_field ∧ type_of% @operL_slice ∧ type_of% @operL_len ∧ type_of% @operL_append ∧ type_of% @operL_call ∧ type_of% @binElse_ints ∧ type_of% @binElse_bools ∧ type_of% @ev_shl ∧ type_of% @ev_shr ∧ type_of% @ev_eql_bool ∧ type_of% @Go.IntKind.bits.eq_6 ∧ type_of% @Nat.min_def ∧ type_of% @monoE ∧ type_of% @bindE ∧ type_of% @pureE ∧ type_of% @failE ∧ type_of% @ofE_s ∧ type_of% @condE ∧ type_of% @hgetE ∧ type_of% @hnewE ∧ type_of% @hsetE ∧ type_of% @hdelE ∧ type_of% @get_set' ∧ type_of% @get_nil' ∧ type_of% @bleE ∧ type_of% @bltE ∧ type_of% @beqE ∧ type_of% @Go.Vm.opBox.eq_1 ∧ type_of% @Go.Vm.opAlloc.eq_1 ∧ type_of% @Go.Vm.opStore.eq_def :=
  ⟨@operL_pick, @operL_store, @operL_extract, @operL_indexAddr, @operL_nilCheck, @operL_alloc, @operL_box, @operL_build, @operL_buildSlice, @operL_makeFunc, @operL_convert, @operL_field, @operL_slice, @operL_len, @operL_append, @operL_call, @binElse_ints, @binElse_bools, @ev_shl, @ev_shr, @ev_eql_bool, @Go.IntKind.bits.eq_6, @Nat.min_def, @monoE, @bindE, @pureE, @failE, @ofE_s, @condE, @hgetE, @hnewE, @hsetE, @hdelE, @get_set', @get_nil', @bleE, @bltE, @beqE, @Go.Vm.opBox.eq_1, @Go.Vm.opAlloc.eq_1, @Go.Vm.opStore.eq_def⟩
theorem R6 : type_of% @Go.Vm.storeObj.eq_1 ∧ type_of% @Go.Vm.opPick.eq_1 ∧ type_of% @Go.Vm.opExtract.eq_1 ∧ type_of% @Go.Vm.opNilCheck.eq_1 ∧ type_of% @Go.Vm.opNilCheck.eq_2 ∧ type_of% @Go.Vm.AV.known.eq_2 ∧ type_of% @Go.Value.oneCell'.eq_3 ∧ type_of% @Go.Vm.AV.cells.eq_1 ∧ type_of% @Go.Vm.AV.cells.eq_2 ∧ type_of% @Go.Vm.AV.cells.eq_3 ∧ type_of% @Go.Value.cells.eq_1 ∧ type_of% @Go.Value.cells.eq_2 ∧ type_of% @Go.Vm.AV.one.eq_4 ∧ type_of% @Go.Vm.AV.one.eq_5 ∧ type_of% @Go.Vm.opFieldAddr.eq_1 ∧ type_of% @Go.Vm.opLoad.eq_1 ∧ type_of% @Go.Vm.opLoad.eq_2 ∧ type_of% @Go.Vm.loadObj.eq_1 ∧ type_of% @Go.Vm.ofCells.eq_1 ∧ type_of% @Go.Vm.opLen.eq_2 ∧ type_of% @Go.Vm.opLen.eq_6 ∧ type_of% @Go.Vm.sliceLen.eq_1 ∧ type_of% @Go.Vm.sliceLen.eq_3 ∧ type_of% @Go.Vm.sliceLen.eq_4 ∧ type_of% @Go.Vm.opBin.eq_1 ∧ type_of% @Go.Vm.binVals.eq_1 ∧ type_of% @Go.Vm.binInt.eq_1 ∧ type_of% @Go.Vm.intOp.eq_1 ∧ type_of% @Go.Vm.intOp.eq_2 ∧ type_of% @Go.Vm.intOp.eq_3 ∧ type_of% @Go.Vm.intOp.eq_4 ∧ type_of% @Go.Vm.intOp.eq_5 ∧ type_of% @Go.Vm.intOp.eq_6 ∧ type_of% @Go.Vm.intOp.eq_7 ∧ type_of% @Go.Vm.intOp.eq_8 ∧ type_of% @Go.Vm.intOp.eq_9 ∧ type_of% @Go.Vm.intOp.eq_10 :=
  ⟨@Go.Vm.storeObj.eq_1, @Go.Vm.opPick.eq_1, @Go.Vm.opExtract.eq_1, @Go.Vm.opNilCheck.eq_1, @Go.Vm.opNilCheck.eq_2, @Go.Vm.AV.known.eq_2, @Go.Value.oneCell'.eq_3, @Go.Vm.AV.cells.eq_1, @Go.Vm.AV.cells.eq_2, @Go.Vm.AV.cells.eq_3, @Go.Value.cells.eq_1, @Go.Value.cells.eq_2, @Go.Vm.AV.one.eq_4, @Go.Vm.AV.one.eq_5, @Go.Vm.opFieldAddr.eq_1, @Go.Vm.opLoad.eq_1, @Go.Vm.opLoad.eq_2, @Go.Vm.loadObj.eq_1, @Go.Vm.ofCells.eq_1, @Go.Vm.opLen.eq_2, @Go.Vm.opLen.eq_6, @Go.Vm.sliceLen.eq_1, @Go.Vm.sliceLen.eq_3, @Go.Vm.sliceLen.eq_4, @Go.Vm.opBin.eq_1, @Go.Vm.binVals.eq_1, @Go.Vm.binInt.eq_1, @Go.Vm.intOp.eq_1, @Go.Vm.intOp.eq_2, @Go.Vm.intOp.eq_3, @Go.Vm.intOp.eq_4, @Go.Vm.intOp.eq_5, @Go.Vm.intOp.eq_6, @Go.Vm.intOp.eq_7, @Go.Vm.intOp.eq_8, @Go.Vm.intOp.eq_9, @Go.Vm.intOp.eq_10⟩
theorem R7 : type_of% @Go.Vm.AV.int.eq_1 ∧ type_of% @Go.Vm.AV.bool.eq_1 ∧ type_of% @Go.Vm.AV.exact.eq_1 ∧ type_of% @Go.Vm.AV.exact.eq_2 ∧ type_of% @Go.Vm.intOf.eq_1 ∧ type_of% @Go.Vm.intOf.eq_2 ∧ type_of% @Go.Vm.boolOf.eq_1 ∧ type_of% @Go.Vm.opIndexAddr.eq_1 ∧ type_of% @Go.Vm.indexIn.eq_1 ∧ type_of% @Go.Vm.indexIn.eq_2 ∧ type_of% @Go.Vm.asN.eq_1 ∧ type_of% @Go.Vm.elemIs.eq_1 ∧ type_of% @Go.Vm.elemT.eq_1 ∧ type_of% @Go.Vm.opConvert.eq_1 ∧ type_of% @Go.Vm.convKinds.eq_1 ∧ type_of% @Go.Vm.convKinds.eq_3 ∧ type_of% @Go.Vm.convKinds.eq_9 ∧ type_of% @Go.Vm.convSB.eq_1 ∧ type_of% @Go.Vm.isU8.eq_1 ∧ type_of% @Go.Vm.convBS.eq_1 ∧ type_of% @Go.Vm.isSlice.eq_4 ∧ type_of% @Go.Vm.convInt.eq_1 ∧ type_of% @Go.goInt.eq_1 ∧ type_of% @resL_n ∧ type_of% @resL_t ∧ type_of% @resL_c ∧ type_of% @Go.Vm.pack.eq_1 ∧ type_of% @Go.Vm.pack.eq_2 ∧ type_of% @Go.Vm.argsL.eq_1 ∧ type_of% @Go.Vm.argsL.eq_2 ∧ type_of% @Go.Vm.stK.eq_1 ∧ type_of% @Go.Vm.heapK.eq_1 ∧ type_of% @Go.Vm.heapK.eq_2 ∧ type_of% @Go.Vm.gslot.eq_1 ∧ type_of% @codL_val ∧ type_of% @codL_sz ∧ type_of% @codStr_sz ∧ type_of% @codU8_sz ∧ type_of% @codU32_sz ∧ type_of% @codInt_sz ∧ type_of% @codU8_val :=
  ⟨@Go.Vm.AV.int.eq_1, @Go.Vm.AV.bool.eq_1, @Go.Vm.AV.exact.eq_1, @Go.Vm.AV.exact.eq_2, @Go.Vm.intOf.eq_1, @Go.Vm.intOf.eq_2, @Go.Vm.boolOf.eq_1, @Go.Vm.opIndexAddr.eq_1, @Go.Vm.indexIn.eq_1, @Go.Vm.indexIn.eq_2, @Go.Vm.asN.eq_1, @Go.Vm.elemIs.eq_1, @Go.Vm.elemT.eq_1, @Go.Vm.opConvert.eq_1, @Go.Vm.convKinds.eq_1, @Go.Vm.convKinds.eq_3, @Go.Vm.convKinds.eq_9, @Go.Vm.convSB.eq_1, @Go.Vm.isU8.eq_1, @Go.Vm.convBS.eq_1, @Go.Vm.isSlice.eq_4, @Go.Vm.convInt.eq_1, @Go.goInt.eq_1, @resL_n, @resL_t, @resL_c, @Go.Vm.pack.eq_1, @Go.Vm.pack.eq_2, @Go.Vm.argsL.eq_1, @Go.Vm.argsL.eq_2, @Go.Vm.stK.eq_1, @Go.Vm.heapK.eq_1, @Go.Vm.heapK.eq_2, @Go.Vm.gslot.eq_1, @codL_val, @codL_sz, @codStr_sz, @codU8_sz, @codU32_sz, @codInt_sz, @codU8_val⟩
theorem R8 : type_of% @codU16_val ∧ type_of% @codU32_val ∧ type_of% @codInt_val ∧ type_of% @codBool_val ∧ type_of% @codStr_val ∧ type_of% @Go.Vm.canonV.eq_1 ∧ type_of% @Go.Vm.canonO.eq_1 ∧ type_of% @Go.Vm.canonN.eq_1 ∧ type_of% @Go.Vm.namesAt.eq_1 ∧ type_of% @Go.Vm.namesAt.eq_2 ∧ type_of% @Go.Vm.reach.eq_2 ∧ type_of% @Go.Vm.reach.eq_3 ∧ type_of% @Go.Vm.reachFuel.eq_1 ∧ type_of% @Go.Vm.fromTo.eq_1 ∧ type_of% @Go.Vm.fromTo.eq_2 ∧ type_of% @Go.Vm.AV.names.eq_1 ∧ type_of% @Go.Vm.AV.names.eq_2 ∧ type_of% @Go.Vm.AV.names.eq_3 ∧ type_of% @Go.Vm.AV.names.eq_4 ∧ type_of% @Go.Vm.AV.names.eq_5 ∧ type_of% @Go.Vm.AV.names.eq_9 ∧ type_of% @Go.Vm.AV.names.go.eq_1 ∧ type_of% @Go.Vm.AV.names.go.eq_2 ∧ type_of% @Go.Vm.AObj.names.eq_1 ∧ type_of% @Go.Vm.AV.ren.eq_1 ∧ type_of% @Go.Vm.AV.ren.eq_2 ∧ type_of% @Go.Vm.AV.ren.eq_3 ∧ type_of% @Go.Vm.AV.ren.eq_4 ∧ type_of% @Go.Vm.AV.ren.eq_5 ∧ type_of% @Go.Vm.AV.ren.eq_6 ∧ type_of% @Go.Vm.AV.ren.eq_7 ∧ type_of% @Go.Vm.AV.ren.eq_11 ∧ type_of% @Go.Vm.AObj.ren.eq_1 ∧ type_of% @idx_cons ∧ type_of% @idx_nil ∧ type_of% @Go.Vm.getObj'.eq_1 ∧ type_of% @Go.Vm.getObj'.eq_2 ∧ type_of% @Go.Vm.zipK.eq_2 ∧ type_of% @renGo_map ∧ type_of% @Option.bind_some.{0, 0} ∧ type_of% @Option.bind_none.{0, 0} ∧ type_of% @Option.map_some.{0, 0} ∧ type_of% @Option.getD_some.{0} ∧ type_of% @Option.getD_none.{0} ∧ type_of% @Option.isSome_some.{0} :=
  ⟨@codU16_val, @codU32_val, @codInt_val, @codBool_val, @codStr_val, @Go.Vm.canonV.eq_1, @Go.Vm.canonO.eq_1, @Go.Vm.canonN.eq_1, @Go.Vm.namesAt.eq_1, @Go.Vm.namesAt.eq_2, @Go.Vm.reach.eq_2, @Go.Vm.reach.eq_3, @Go.Vm.reachFuel.eq_1, @Go.Vm.fromTo.eq_1, @Go.Vm.fromTo.eq_2, @Go.Vm.AV.names.eq_1, @Go.Vm.AV.names.eq_2, @Go.Vm.AV.names.eq_3, @Go.Vm.AV.names.eq_4, @Go.Vm.AV.names.eq_5, @Go.Vm.AV.names.eq_9, @Go.Vm.AV.names.go.eq_1, @Go.Vm.AV.names.go.eq_2, @Go.Vm.AObj.names.eq_1, @Go.Vm.AV.ren.eq_1, @Go.Vm.AV.ren.eq_2, @Go.Vm.AV.ren.eq_3, @Go.Vm.AV.ren.eq_4, @Go.Vm.AV.ren.eq_5, @Go.Vm.AV.ren.eq_6, @Go.Vm.AV.ren.eq_7, @Go.Vm.AV.ren.eq_11, @Go.Vm.AObj.ren.eq_1, @idx_cons, @idx_nil, @Go.Vm.getObj'.eq_1, @Go.Vm.getObj'.eq_2, @Go.Vm.zipK.eq_2, @renGo_map, @Option.bind_some.{0, 0}, @Option.bind_none.{0, 0}, @Option.map_some.{0, 0}, @Option.getD_some.{0}, @Option.getD_none.{0}, @Option.isSome_some.{0}⟩
theorem R9 : type_of% @List.getElem?_cons_zero.{0} ∧ type_of% @List.getElem?_toArray.{0} ∧ type_of% @Go.Vm.limit.eq_1 ∧ type_of% @List.drop_zero.{0} ∧ type_of% @List.drop_succ_cons.{0} ∧ type_of% @List.drop_nil.{0} ∧ type_of% @List.take_succ_cons.{0} ∧ type_of% @List.take_zero.{0} ∧ type_of% @List.length_cons.{0} ∧ type_of% @List.length_nil.{0} ∧ type_of% @List.length_map.{0, 0} ∧ type_of% @List.getElem?_cons_succ.{0} ∧ type_of% @List.getElem?_map.{0, 0} ∧ type_of% @List.getElem?_drop.{0} ∧ type_of% @List.map_cons.{0, 0} ∧ type_of% @List.map_nil.{0, 0} ∧ type_of% @List.nil_append.{0} ∧ type_of% @List.cons_append.{0} ∧ type_of% @List.append_nil.{0} ∧ type_of% @List.all_cons.{0} ∧ type_of% @List.all_nil.{0} ∧ type_of% @cond_true.{1} ∧ type_of% @cond_false.{1} ∧ type_of% @decide_true ∧ type_of% @decide_false ∧ type_of% @Bool.and_true ∧ type_of% @Bool.true_and ∧ type_of% @Bool.and_self ∧ type_of% @Bool.not_true ∧ type_of% @Bool.not_false ∧ type_of% @BEq.rfl.{0} ∧ type_of% @Nat.zero_le ∧ type_of% @Nat.le_refl ∧ type_of% @Nat.add_zero ∧ type_of% @Nat.zero_add ∧ type_of% @Nat.mul_one ∧ type_of% @Int.toNat_natCast ∧ type_of% @Int.natCast_nonneg ∧ type_of% @Nat.sub_self ∧ type_of% @List.contains_nil.{0} ∧ type_of% @List.contains_cons.{0} ∧ type_of% @Bool.or_false ∧ type_of% @Bool.false_or ∧ type_of% @Bool.or_true ∧ type_of% @Bool.true_or ∧ type_of% @List.map_map.{0, 0, 0} ∧ type_of% @ren_comp ∧ type_of% @val_ren ∧ type_of% @val_names ∧ type_of% @val_known ∧ type_of% @codU32_rt ∧ type_of% @codU16_rt :=
  ⟨@List.getElem?_cons_zero.{0}, @List.getElem?_toArray.{0}, @Go.Vm.limit.eq_1, @List.drop_zero.{0}, @List.drop_succ_cons.{0}, @List.drop_nil.{0}, @List.take_succ_cons.{0}, @List.take_zero.{0}, @List.length_cons.{0}, @List.length_nil.{0}, @List.length_map.{0, 0}, @List.getElem?_cons_succ.{0}, @List.getElem?_map.{0, 0}, @List.getElem?_drop.{0}, @List.map_cons.{0, 0}, @List.map_nil.{0, 0}, @List.nil_append.{0}, @List.cons_append.{0}, @List.append_nil.{0}, @List.all_cons.{0}, @List.all_nil.{0}, @cond_true.{1}, @cond_false.{1}, @decide_true, @decide_false, @Bool.and_true, @Bool.true_and, @Bool.and_self, @Bool.not_true, @Bool.not_false, @BEq.rfl.{0}, @Nat.zero_le, @Nat.le_refl, @Nat.add_zero, @Nat.zero_add, @Nat.mul_one, @Int.toNat_natCast, @Int.natCast_nonneg, @Nat.sub_self, @List.contains_nil.{0}, @List.contains_cons.{0}, @Bool.or_false, @Bool.false_or, @Bool.or_true, @Bool.true_or, @List.map_map.{0, 0, 0}, @ren_comp, @val_ren, @val_names, @val_known, @codU32_rt, @codU16_rt⟩
theorem R10 : type_of% @codInt_dec ∧ type_of% @codBool_dec ∧ type_of% @codStr_dec ∧ type_of% @r1_D ∧ type_of% @r2_D ∧ type_of% @a0_D ∧ type_of% @aC_D ∧ type_of% @r1_E ∧ type_of% @r2_E ∧ type_of% @callV_sc ∧ type_of% @callV_fn ∧ type_of% @callT_hit ∧ type_of% @callT_miss ∧ type_of% @pureM_eq ∧ type_of% @Go.Vm.AV.fresh.eq_1 ∧ type_of% @Go.Vm.AV.fresh.eq_2 ∧ type_of% @Go.Vm.AV.fresh.eq_3 ∧ type_of% @Go.Vm.AV.fresh.eq_4 ∧ type_of% @Go.Vm.AV.fresh.go.eq_1 ∧ type_of% @Go.Vm.AV.fresh.go.eq_2 ∧ type_of% @List.map_append.{0, 0} :=
  ⟨@codInt_dec, @codBool_dec, @codStr_dec, @r1_D, @r2_D, @a0_D, @aC_D, @r1_E, @r2_E, @callV_sc, @callV_fn, @callT_hit, @callT_miss, @pureM_eq, @Go.Vm.AV.fresh.eq_1, @Go.Vm.AV.fresh.eq_2, @Go.Vm.AV.fresh.eq_3, @Go.Vm.AV.fresh.eq_4, @Go.Vm.AV.fresh.go.eq_1, @Go.Vm.AV.fresh.go.eq_2, @List.map_append.{0, 0}⟩
theorem RA : type_of% R0 ∧ type_of% R1 ∧ type_of% R2 ∧ type_of% R3 ∧ type_of% R4 ∧ type_of% R5 ∧ type_of% R6 ∧ type_of% R7 ∧ type_of% R8 ∧ type_of% R9 ∧ type_of% R10 :=
  ⟨R0, R1, R2, R3, R4, R5, R6, R7, R8, R9, R10⟩
end Go.Vm
end
section
namespace Go.Vm
noncomputable section
open Go.ChangeShapes Go.WideShapes Go.ChangeAt
mutual
def bulkD {H : Type} : DataW H → Nat
  | .lit (.string bytes) => bytes.length + 1
  | .lit _ => 1
  | .nil => 1
  | .ptr d => bulkD d + 1
  | .slice elems spare => bulkL elems + bulkL spare + 1
  | .agg parts => bulkL parts + 1
  | .iface _ d => bulkD d + 1
  | .map entries => bulkE entries + 1
  | .held _ => 1
def bulkL {H : Type} : List (DataW H) → Nat
  | [] => 0
  | d :: r => bulkD d + bulkL r
def bulkE {H : Type} : List (Lit × DataW H) → Nat
  | [] => 0
  | x :: r => bulkX x + bulkE r
def bulkX {H : Type} : Lit × DataW H → Nat
  | (.string bytes, d) => bytes.length + bulkD d + 1
  | (_, d) => bulkD d + 1
end
def allW (W : World) : Nat → Nat → Prop := fun b _ => b < W.heap.size
def Rd (P : Program) (t : TypeId) {α : Type} (C : Cod α) (μ : α → Nat) : Prop :=
  ∀ {H : Type} (enc : TypeId × Value → H) (W : World) (b0 fuel : Nat) (cs : List Value) (x : DataW H × List MemPlace), DataW.trod enc P W 0 (fun _ => true) true fuel t cs = some x →
    ∃ y, RelL (gK b0 (allW W)) W (C.cells false y) cs ∧ μ y ≤ bulkD x.1
theorem rd_u8 {P : Program} {t : TypeId} (ht : P.underlying t = some (.int .u8)) : Rd P t codU8 (fun _ => 1) := by
  intro H enc W b0 fuel cs x h
  obtain ⟨n, rfl, rfl, hw⟩ := DataW.trod_int ht h
  have hx : 0 ≤ n ∧ n ≤ 255 := by simpa [Lit.wf, IntKind.min, IntKind.max, IntKind.signed, IntKind.bits] using hw
  refine ⟨UInt8.ofNat n.toNat, ?_, by simp [bulkD]⟩
  have : n = ((UInt8.ofNat n.toNat).toNat : Int) := by rw [UInt8.toNat_ofNat']; omega
  exact RelL.one (by conv => rhs; rw [this]
                     exact .sc _)
theorem rd_u16 {P : Program} {t : TypeId} (ht : P.underlying t = some (.int .u16)) : Rd P t codU16 (fun _ => 1) := by
  intro H enc W b0 fuel cs x h
  obtain ⟨n, rfl, rfl, hw⟩ := DataW.trod_int ht h
  have hx : 0 ≤ n ∧ n ≤ 65535 := by simpa [Lit.wf, IntKind.min, IntKind.max, IntKind.signed, IntKind.bits] using hw
  refine ⟨UInt16.ofNat n.toNat, ?_, by simp [bulkD]⟩
  have : n = ((UInt16.ofNat n.toNat).toNat : Int) := by rw [UInt16.toNat_ofNat']; omega
  exact RelL.one (by conv => rhs; rw [this]
                     exact .sc _)
theorem rd_u32 {P : Program} {t : TypeId} (ht : P.underlying t = some (.int .u32)) : Rd P t codU32 (fun _ => 1) := by
  intro H enc W b0 fuel cs x h
  obtain ⟨n, rfl, rfl, hw⟩ := DataW.trod_int ht h
  have hx : 0 ≤ n ∧ n ≤ 4294967295 := Go.bounds_u32 hw
  refine ⟨UInt32.ofNat n.toNat, ?_, by simp [bulkD]⟩
  have : n = ((UInt32.ofNat n.toNat).toNat : Int) := by rw [UInt32.toNat_ofNat']; omega
  exact RelL.one (by conv => rhs; rw [this]
                     exact .sc _)
theorem rd_str {P : Program} {t : TypeId} (ht : P.underlying t = some .string) : Rd P t codStr (fun s => s.size + 1) := by
  intro H enc W b0 fuel cs x h
  obtain ⟨s, rfl, rfl, _⟩ := DataW.trod_string ht h
  refine ⟨s, RelL.one (.sc _), ?_⟩
  show s.size + 1 ≤ bulkD (DataW.lit (Lit.string s.data.toList))
  rw [bulkD, Array.length_toList]
  exact Nat.le_refl _
theorem off_aux (ao k s v j : Nat) (h3 : v = k * s) (hge : v ≤ j) : ao + k * s + (j - v) = ao + j := by rw [← h3]; omega
def sumμ {α : Type} (μ : α → Nat) : List α → Nat
  | [] => 0
  | x :: r => μ x + sumμ μ r
theorem sumμ_append {α : Type} (μ : α → Nat) : ∀ a b : List α, sumμ μ (a ++ b) = sumμ μ a + sumμ μ b
  | [], b => by simp [sumμ]
  | x :: a, b => by simp [sumμ, sumμ_append μ a b]; omega
theorem bulkL_append {H : Type} : ∀ a b : List (DataW H), bulkL (a ++ b) = bulkL a + bulkL b
  | [], b => by simp [bulkL]
  | x :: a, b => by simp [bulkL, bulkL_append a b]; omega
theorem rd_list {P : Program} {t e : TypeId} {α : Type} {C : Cod α} {μ : α → Nat} (ht : P.underlying t = some (.slice e)) (hsz : P.cellsOf e = C.sz) (hpos : 0 < C.sz) (he : Rd P e C μ) : Rd P t (codL C) (fun l => sumμ μ l + 1) := by
  intro H enc W b0 fuel cs x h
  rcases Go.Deep.open_slice ht h with ⟨rfl, rfl⟩ | ⟨a, len, cap, m, n, D, Pl, rfl, _, hl, hm, hmm, rfl, hx⟩
  · exact ⟨[], RelL.one (.vlnil _ _), by simp [sumμ, bulkD]⟩
  · simp only [if_true] at hmm
    subst hmm
    have spot : 0 < m → a.spot = none ∧ a.block < W.heap.size := by
      intro h0
      obtain ⟨cs', h1, _⟩ := hx 0 h0
      rw [hsz] at h1
      simp only [World.cells?, Nat.zero_le, if_true] at h1
      have h2 := mapM_some_get h1 0 0 (by simp [hpos])
      have hlen := mapM_some_length h1
      have h3 : ∃ v, cs'[0]? = some v := ⟨cs'[0]'(by rw [hlen]; simpa using hpos), by simp⟩
      obtain ⟨v, hv⟩ := h3
      rw [hv] at h2
      simp only [Nat.zero_mul, Addr.add, if_true] at h2
      simp only [World.cell?] at h2
      split at h2
      · rename_i c _ _ hb
        cases hs : a.spot with
        | none => exact ⟨rfl, lt_of_heap hb⟩
        | some s => simp [hs] at h2
      · cases h2
    have build : ∀ k, k ≤ len → ∃ (xs : List α) (vs : List Value), xs.length = k ∧ RelL (gK b0 (allW W)) W (xs.flatMap (C.cells false)) vs ∧ vs.length = k * C.sz ∧ (∀ j v, vs[j]? = some v → W.cell? ⟨a.block, a.off + j, none⟩ = some v) ∧
        sumμ μ xs ≤ bulkL ((List.range k).map D) := by
      intro k
      induction k with
      | zero => intro _; exact ⟨[], [], rfl, RelL.nil _ _, by simp, (fun j v hj => by simp at hj), by simp [sumμ, bulkL]⟩
      | succ k ih =>
        intro hk
        obtain ⟨xs, vs, h1, h2, h3, h4, h5⟩ := ih (by omega)
        obtain ⟨cs', h6, h7⟩ := hx k (by omega)
        obtain ⟨y, h8, h9⟩ := he enc W b0 n cs' _ h7
        rw [hsz] at h6
        simp only [World.cells?, Nat.zero_le, if_true] at h6
        have hlen := mapM_some_length h6
        simp only [List.length_range] at hlen
        refine ⟨xs ++ [y], vs ++ cs', by simp [h1], ?_, by simp [h3, hlen, Nat.succ_mul], fun j v hj => ?_, ?_⟩
        · rw [List.flatMap_append]; exact h2.append (by simpa using h8)
        · by_cases hj1 : j < vs.length
          · rw [List.getElem?_append_left hj1] at hj; exact h4 j v hj
          · rw [List.getElem?_append_right (by omega)] at hj
            have hj2 := (List.getElem?_eq_some_iff.1 hj).1
            have h10 := mapM_some_get h6 (j - vs.length) (j - vs.length) (List.getElem?_range (by rw [← hlen]; exact hj2))
            rw [hj] at h10
            have hs := (spot (by omega)).1
            have e : (a.add (k * C.sz)).add (j - vs.length) = ⟨a.block, a.off + j, none⟩ := by
              obtain ⟨ab, ao, azs⟩ := a
              simp only at hs
              subst hs
              rw [Addr.add_at, Addr.add_at]
              have hge : vs.length ≤ j := Nat.le_of_not_lt hj1
              rw [off_aux ao k C.sz vs.length j h3 hge]
            rw [e] at h10
            exact h10
        · rw [sumμ_append, List.range_succ, List.map_append, bulkL_append]
          simp only [sumμ, List.map_cons, List.map_nil, bulkL]
          have : μ y ≤ bulkD (D k) := h9
          omega
    obtain ⟨xs, vs, h1, h2, h3, h4, h5⟩ := build len (Nat.le_refl _)
    refine ⟨xs, RelL.one ?_, by
      simp only [bulkD]
      have : sumμ μ xs ≤ bulkL ((List.range len).map D) := h5
      omega⟩
    by_cases h0 : 0 < m
    · obtain ⟨hs, hb⟩ := spot h0
      obtain ⟨ab, ao, azs⟩ := a
      simp only at hs hb h4
      subst hs
      rw [← h1]
      refine vl_of C h2 (by omega) (fun e => by cases e) (fun j v hj => ⟨hb, h4 j v hj⟩)
    · have hl0 : len = 0 := by omega
      have hm0 : m = 0 := by omega
      subst hl0 hm0
      have : xs = [] := List.eq_nil_of_length_eq_zero h1
      subst this
      exact .vlz _ _ _
def RdF (P : Program) (fs : List Field) (off : Nat) {α : Type} (C : Cod α) (μ : α → Nat) : Prop :=
  ∀ {H : Type} (enc : TypeId × Value → H) (W : World) (b0 n : Nat) (cs : List Value) (ys : List (DataW H × List MemPlace)), ys.length = fs.length →
    (∀ (i : Nat) f, fs[i]? = some f → DataW.trod enc P W 0 (fun _ => true) true n f.type ((cs.drop f.offset).take (P.cellsOf f.type)) = ys[i]?) →
    ∃ y, RelL (gK b0 (allW W)) W (C.cells false y) ((cs.drop off).take C.sz) ∧ μ y ≤ bulkL (ys.map (·.1))
theorem rdF_one {P : Program} {f : Field} {off : Nat} {α : Type} {C : Cod α} {μ : α → Nat} (ho : f.offset = off) (hs : P.cellsOf f.type = C.sz) (h : Rd P f.type C μ) : RdF P [f] off C μ := by
  intro H enc W b0 n cs ys hl hf
  match ys, hl with
  | [y0], _ =>
    have := hf 0 f rfl
    obtain ⟨y, h1, h2⟩ := h enc W b0 n _ y0 this
    rw [ho, hs] at h1
    exact ⟨y, h1, by simp [bulkL]; exact h2⟩
theorem rdF_cons {P : Program} {f : Field} {fs : List Field} {off : Nat} {α β : Type} {A : Cod α} {B : Cod β} {μ : α → Nat} {ν : β → Nat} (ho : f.offset = off) (hs : P.cellsOf f.type = A.sz) (h : Rd P f.type A μ) (hr : RdF P fs (off + A.sz) B ν) :
    RdF P (f :: fs) off (codP A B) (fun p => μ p.1 + ν p.2) := by
  intro H enc W b0 n cs ys hl hf
  match ys, hl with
  | y0 :: ys, hl =>
    have h0 := hf 0 f rfl
    obtain ⟨y, h1, h2⟩ := h enc W b0 n _ y0 h0
    obtain ⟨z, h3, h4⟩ := hr enc W b0 n cs ys (by simpa using hl) (fun i g hg => by have := hf (i + 1) g (by simpa using hg); simpa using this)
    rw [ho, hs] at h1
    refine ⟨(y, z), ?_, by simp [bulkL]; omega⟩
    have := h1.append h3
    rwa [show (cs.drop off).take A.sz ++ (cs.drop (off + A.sz)).take B.sz = (cs.drop off).take (A.sz + B.sz) from by
      rw [List.take_add, List.drop_drop]] at this
theorem rd_struct {P : Program} {t : TypeId} {fs : Array Field} {α : Type} {C : Cod α} {μ : α → Nat} (ht : P.underlying t = some (.struct fs)) (hc : P.cellsOf t = C.sz) (h : RdF P fs.toList 0 C μ) : Rd P t C (fun x => μ x + 1) := by
  intro H enc W b0 fuel cs x hx
  obtain ⟨xs, n, _, rfl, hl, hlen, hf⟩ := DataW.trod_struct ht hx
  obtain ⟨y, h1, h2⟩ := h enc W b0 n cs xs (by simpa using hlen) (fun i f hi => hf i f (by simpa using hi))
  refine ⟨y, ?_, by simp [bulkD]; exact h2⟩
  rwa [List.drop_zero, List.take_of_length_le (by omega)] at h1
theorem rd_iso {P : Program} {t : TypeId} {α β : Type} {C : Cod α} {μ : α → Nat} {f : β → α} {i : α → β} {h1 : ∀ y, i (f y) = y} {h2 : ∀ x, f (i x) = x} (h : Rd P t C μ) : Rd P t (codIso C f i h1 h2) (fun y => μ (f y)) := by
  intro H enc W b0 fuel cs x hx
  obtain ⟨y, h3, h4⟩ := h enc W b0 fuel cs x hx
  exact ⟨i y, by show RelL _ _ (C.cells false (f (i y))) cs; rw [h2]; exact h3, by show μ (f (i y)) ≤ _; rw [h2]; exact h4⟩
def RdA (P : Program) (ts : List TypeId) {α : Type} (A : AC α) (μ : α → Nat) : Prop :=
  ∀ {H : Type} (enc : TypeId × Value → H) (W : World) (b0 b1 : Nat) (vs : List Value) (ds : List (DataW H)) (ps : List MemPlace), (∀ (j : Nat) t v, ts[j]? = some t → vs[j]? = some v → Value.okWide P W .any b1 t v) →
    DataW.TrodAll enc P W 0 (fun _ => true) true ts vs ds ps → ∃ y, RelL (gK b0 (allW W)) W (A.E y) vs ∧ μ y ≤ bulkL ds
theorem rdA_nil (P : Program) : RdA P [] a0 (fun _ => 0) := by
  intro H enc W b0 b1 vs ds ps _ h
  obtain ⟨rfl, rfl, rfl⟩ := trodAll_nil h
  exact ⟨(), RelL.nil _ _, Nat.zero_le _⟩
theorem okWide_agg {P : Program} {W : World} {b : Nat} {t : TypeId} {v : Value} (h : aggT P t = some true) (ho : Value.okWide P W .any b t v) : ∃ cs, v = .agg cs := by
  unfold aggT at h
  unfold Value.okWide at ho
  cases hu : P.underlying t with
  | none => rw [hu] at h; cases h
  | some d =>
    rw [hu] at h ho
    cases d <;> simp_all <;> exact ⟨_, ho.choose_spec.1⟩
theorem rdA_cons {P : Program} {t : TypeId} {ts : List TypeId} {α β : Type} {C : Cod α} {R : AC β} {μ : α → Nat} {ν : β → Nat} (ha : aggT P t = some C.agg) (h : Rd P t C μ) (hr : RdA P ts R ν) : RdA P (t :: ts) (aC C R) (fun p => μ p.1 + ν p.2) := by
  intro H enc W b0 b1 vs ds ps hok hall
  obtain ⟨v, vs1, d, ds1, p, q, rfl, rfl, rfl, h0, h1⟩ := trodAll_cons hall
  obtain ⟨fuel, hf⟩ := h0
  obtain ⟨y, h2, h3⟩ := h enc W b0 fuel _ _ hf
  obtain ⟨z, h4, h5⟩ := hr enc W b0 b1 vs1 ds1 q (fun j t v ht hv => hok (j + 1) t v (by simpa using ht) (by simpa using hv)) h1
  have h3' : μ y ≤ bulkD d := h3
  refine ⟨(y, z), RelL.cons ?_ h4, by simp only [bulkL]; omega⟩
  have hv := hok 0 t v rfl rfl
  show Rel _ _ (C.val false y) v
  unfold Cod.val
  cases hg : C.agg with
  | true =>
    obtain ⟨cs, rfl⟩ := okWide_agg (by rw [ha, hg]) hv
    exact .agg _ cs (by simpa [Value.cells] using h2.1) (fun i a v ha hv => h2.2 i a v ha (by simpa [Value.cells] using hv))
  | false =>
    obtain ⟨c, h6, h7, _⟩ := C.one hg false y
    rw [cond_false, h6]
    rw [h6] at h2
    have hcs : v.cells.toList = [v] := by
      have hl := h2.1
      simp only [List.length_singleton] at hl
      cases v with
      | agg cs =>
        exfalso
        unfold aggT at ha
        unfold Value.okWide at hv
        cases hu : P.underlying t with
        | none => rw [hu] at ha; cases ha
        | some d =>
          rw [hu] at ha hv
          have hcell : Cell.okWide P W .any b1 t (.agg cs) := by
            cases d <;> simp_all
          rw [hg] at ha
          unfold Cell.okWide Cell.ok at hcell
          rw [hu] at hcell
          cases d <;> simp_all
      | _ => rfl
    rw [hcs] at h2
    exact h2.head
theorem sameAt_quiet {W W' : World} (q : Quiet W W') {p : MemPlace} (h : p.block < W.heap.size) : W.sameAt W' p := by
  cases p with
  | cell b off => exact cell_heap (q.heap b h)
  | map b => exact q.heap b h
theorem again {H : Type} {enc : TypeId × Value → H} {P : Program} {W W' : World} {sp : Nat → Bool} (K : Kids P (· < P.types.size)) (hz : ∀ t e, t < P.types.size → P.underlying t = some (.slice e) → 0 < P.cellsOf e) (q : Quiet W W') :
    ∀ {ts : List TypeId} {vs : List Value} {ds : List (DataW H)} {ps : List MemPlace}, (∀ t ∈ ts, t < P.types.size) → DataW.TrodAll enc P W 0 (fun _ => true) true ts vs ds ps → (∀ p ∈ ps, sp p.block = true) → (∀ p ∈ ps, p.block < W.heap.size) →
      DataW.TrodAll enc P W' 0 sp true ts vs ds ps
  | [], [], [], _, _, h, _, _ => h
  | t :: ts, v :: vs, d :: ds, ps, hT, ⟨p, p', h1, h2, e⟩, hs, hl => by
    obtain ⟨n, hn⟩ := h1
    subst e
    have h3 := DataW.trod_respare (spare' := sp) K hz n t _ _ (hT t (by simp)) hn (fun x hx => hs x (by simp only [List.mem_append]; exact .inl hx))
    have h4 := DataW.trod_carry (w' := W') n t _ _ h3 (fun x hx => sameAt_quiet q (hl x (by simp only [List.mem_append]; exact .inl hx)))
    exact ⟨p, p', ⟨n, h4⟩, again K hz q (fun t ht => hT t (by simp [ht])) h2 (fun x hx => hs x (by simp [hx])) (fun x hx => hl x (by simp [hx])), rfl⟩
theorem kept_quiet {W W' : World} (q : Quiet W W') (may : MemPlace → Prop) : W.keptBut W' may := by
  refine ⟨q.os, q.output, fun i hi => ?_⟩
  rw [q.heap i hi]
  split
  · rename_i c t fr c' t' fr' h1 h2
    rw [h1] at h2
    cases h2
    exact ⟨rfl, rfl, rfl, fun _ _ => rfl⟩
  · rename_i es cl es' cl' h1 h2
    rw [h1] at h2
    cases h2
    exact .inr ⟨rfl, rfl⟩
  · rfl
def slicesFull (P : Program) : Bool := (List.range P.types.size).all fun t => match P.underlying t with | some (.slice e) => Nat.blt 0 (P.cellsOf e) | _ => true
theorem slicesFull_at {P : Program} (h : slicesFull P = true) (t e : TypeId) (ht : t < P.types.size) (hu : P.underlying t = some (.slice e)) : 0 < P.cellsOf e := by
  have := List.all_eq_true.1 h t (List.mem_range.2 ht)
  simp only [hu] at this
  exact Nat.le_of_ble_eq_true this
def typesIn (P : Program) (l : List TypeId) : Bool := l.all fun t => Nat.blt t P.types.size
theorem typesIn_at {P : Program} {l : List TypeId} (h : typesIn P l = true) : ∀ t ∈ l, t < P.types.size := fun t ht => Nat.le_of_ble_eq_true (List.all_eq_true.1 h t ht)
theorem law_post {P : Program} (hlaid : laidOutB P = true) (hmaps : mapsRowed P = true) (hz : ∀ t e, t < P.types.size → P.underlying t = some (.slice e) → 0 < P.cellsOf e) {f : Nat} {fn : Func} {s : ChangeSpec} {tb : TypeId}
    (he : entered P f = true) (hvars : s.vars = []) (hres : fn.resultTypes = #[tb]) (htb : P.underlying tb = some .bool) (hpar : ∀ t ∈ fn.params.toList, t < P.types.size)
    (hfn : ∀ (H : Type) (ds : List (DataW H)), ds.length = fn.params.toList.length → s.fn H ds = { results := [.lit (.bool true)], args := ds }) {α : Type} {A : AC α} {μ : α → Nat} (hA : RdA P fn.params.toList A μ) {N : Option Nat}
    (hcall : ∀ x, (∀ n, N = some n → μ x ≤ n) → CallPure P f (A.E x) (.sc (.bool true)))
    {H : Type} (enc : TypeId × Value → H) (W : World) (base : Nat) (args : Array Value) (ds gs : List (DataW H)) (before : List MemPlace) (hval : ∀ (j : Nat) t v, fn.params[j]? = some t → args[j]? = some v → Value.okWide P W .any base t v)
    (hW : DataW.Whole enc P fn.params.toList s.vars false W args.toList ds gs before) (hN : ∀ n, N = some n → bulkL (ds ++ gs) ≤ n) :
    Calls P f args W fun e W' => ∃ v, e = .returned v ∧ s.post enc P fn false true false false W args v W' := by
  have hW' := hW
  obtain ⟨p, q, hA0, hV, rfl, hfz, hnd⟩ := hW
  rw [hvars] at hV
  obtain ⟨rfl, rfl⟩ := trodVars_none hV
  obtain ⟨x, hx, hμ⟩ := hA enc W W.heap.size base args.toList ds p (fun j t v ht hv => hval j t v (by simpa using ht) (by simpa using hv)) hA0
  have hp := hcall x (fun n hn => Nat.le_trans hμ (by have := hN n hn; simpa using this)) (allW W) W args.toList (fun _ _ h => h) hx
  have hlen : ds.length = fn.params.toList.length := by
    have : ∀ {ts : List TypeId} {vs : List Value} {ds : List (DataW H)} {ps : List MemPlace}, DataW.TrodAll enc P W 0 (fun _ => true) true ts vs ds ps → ds.length = ts.length := by
      intro ts
      induction ts with
      | nil => intro vs ds ps h; obtain ⟨_, rfl, _⟩ := trodAll_nil h; rfl
      | cons t ts ih => intro vs ds ps h; obtain ⟨v, vs1, d, ds1, p, q, rfl, rfl, rfl, h0, h1⟩ := trodAll_cons h; simp [ih h1]
    exact this hA0
  have hlt : ∀ y ∈ p ++ [], y.block < W.heap.size := fun y hy => hW'.lt y hy
  have hspec := hfn H ds hlen
  rcases hp with ⟨v, hv, _⟩ | ⟨_, hc⟩
  · rw [entered_ok he] at hv; cases hv
  · refine hc.mono ?_
    rintro e W' ⟨v, rfl, hq, hr⟩
    obtain rfl := hr.exact rfl
    refine ⟨_, rfl, ds, [], p ++ [], [], p, [], hW', ?_, ?_, ?_, kept_quiet hq _, fun e => by cases e⟩
    · rw [List.append_nil, hspec, hres]
      exact trodAll_cons_mk (Go.RowKit.shut_bool htb _) trodAll_mk0
    · rw [List.append_nil, hspec]
      exact again (kids_rows hlaid hmaps) hz hq hpar hA0 (fun y hy => by have := hlt y (by simp [hy]); simpa using this) (fun y hy => hlt y (by simp [hy]))
    · rw [List.append_nil, hspec, hvars]
      rfl
end
end Go.Vm
end
section
set_option linter.unusedVariables false
namespace Go.Vm
open Go.Proofs
theorem tyUnd0 : (Tryz.prog.underlying 3 = some (.int .i64)) ∧
  (Tryz.prog.underlying 4 = some (.bool)) ∧
  (Tryz.prog.underlying 5 = some (.int .u8)) ∧
  (Tryz.prog.underlying 9 = some (.string)) ∧
  (Tryz.prog.underlying 22 = some (.slice 9)) ∧
  (Tryz.prog.underlying 23 = some (.slice 9)) ∧
  (Tryz.prog.underlying 24 = some (.slice 50)) ∧
  (Tryz.prog.underlying 47 = some (.int .u32)) ∧
  (Tryz.prog.underlying 48 = some (.slice 66)) :=
  ⟨by kernel_rfl, by kernel_rfl, by kernel_rfl, by kernel_rfl, by kernel_rfl, by kernel_rfl, by kernel_rfl, by kernel_rfl, by kernel_rfl⟩
theorem tyUnd1 : (Tryz.prog.underlying 62 = some (.slice 23)) ∧
  (Tryz.prog.underlying 63 = some (.slice 47)) ∧
  (Tryz.prog.underlying 64 = some (.slice 5)) ∧
  (Tryz.prog.underlying 149 = some (.slice 3)) ∧
  (Tryz.prog.underlying 155 = some (.slice 64)) :=
  ⟨by kernel_rfl, by kernel_rfl, by kernel_rfl, by kernel_rfl, by kernel_rfl⟩
theorem tyAgg0 : (aggT Tryz.prog 3 = some false) ∧
  (aggT Tryz.prog 4 = some false) ∧
  (aggT Tryz.prog 5 = some false) ∧
  (aggT Tryz.prog 9 = some false) ∧
  (aggT Tryz.prog 22 = some false) ∧
  (aggT Tryz.prog 23 = some false) ∧
  (aggT Tryz.prog 24 = some false) ∧
  (aggT Tryz.prog 26 = some true) :=
  ⟨by kernel_rfl, by kernel_rfl, by kernel_rfl, by kernel_rfl, by kernel_rfl, by kernel_rfl, by kernel_rfl, by kernel_rfl⟩
theorem tyAgg1 : (aggT Tryz.prog 29 = some false) ∧
  (aggT Tryz.prog 31 = some true) ∧
  (aggT Tryz.prog 32 = some false) ∧
  (aggT Tryz.prog 45 = some false) ∧
  (aggT Tryz.prog 46 = some false) ∧
  (aggT Tryz.prog 47 = some false) ∧
  (aggT Tryz.prog 48 = some false) ∧
  (aggT Tryz.prog 50 = some true) ∧
  (aggT Tryz.prog 62 = some false) ∧
  (aggT Tryz.prog 63 = some false) ∧
  (aggT Tryz.prog 64 = some false) ∧
  (aggT Tryz.prog 66 = some true) ∧
  (aggT Tryz.prog 86 = some false) :=
  ⟨by kernel_rfl, by kernel_rfl, by kernel_rfl, by kernel_rfl, by kernel_rfl, by kernel_rfl, by kernel_rfl, by kernel_rfl, by kernel_rfl, by kernel_rfl, by kernel_rfl, by kernel_rfl, by kernel_rfl⟩
theorem tyAgg2 : (aggT Tryz.prog 115 = some true) := by kernel_rfl
theorem tySize0 : (sizeT Tryz.prog 3 = some 1) ∧
  (sizeT Tryz.prog 4 = some 1) ∧
  (sizeT Tryz.prog 5 = some 1) ∧
  (sizeT Tryz.prog 9 = some 1) ∧
  (sizeT Tryz.prog 22 = some 1) ∧
  (sizeT Tryz.prog 23 = some 1) ∧
  (sizeT Tryz.prog 24 = some 1) ∧
  (sizeT Tryz.prog 26 = some 2) :=
  ⟨by kernel_rfl, by kernel_rfl, by kernel_rfl, by kernel_rfl, by kernel_rfl, by kernel_rfl, by kernel_rfl, by kernel_rfl⟩
theorem tySize1 : (sizeT Tryz.prog 29 = some 1) ∧
  (sizeT Tryz.prog 31 = some 3) ∧
  (sizeT Tryz.prog 32 = some 1) ∧
  (sizeT Tryz.prog 45 = some 1) ∧
  (sizeT Tryz.prog 46 = some 1) ∧
  (sizeT Tryz.prog 47 = some 1) ∧
  (sizeT Tryz.prog 48 = some 1) ∧
  (sizeT Tryz.prog 50 = some 5) ∧
  (sizeT Tryz.prog 62 = some 1) ∧
  (sizeT Tryz.prog 63 = some 1) ∧
  (sizeT Tryz.prog 64 = some 1) ∧
  (sizeT Tryz.prog 66 = some 4) ∧
  (sizeT Tryz.prog 86 = some 1) :=
  ⟨by kernel_rfl, by kernel_rfl, by kernel_rfl, by kernel_rfl, by kernel_rfl, by kernel_rfl, by kernel_rfl, by kernel_rfl, by kernel_rfl, by kernel_rfl, by kernel_rfl, by kernel_rfl, by kernel_rfl⟩
theorem tySize2 : (sizeT Tryz.prog 115 = some 5) := by kernel_rfl
theorem tyZero0 : (zeroT Tryz.prog 3 = some (.int .i64 0)) ∧
  (zeroT Tryz.prog 4 = some (.bool false)) ∧
  (zeroT Tryz.prog 5 = some (.int .u8 0)) ∧
  (zeroT Tryz.prog 23 = some (.slice none 0 0)) :=
  ⟨by kernel_rfl, by kernel_rfl, by kernel_rfl, by kernel_rfl⟩
theorem tyZero1 : (zeroT Tryz.prog 31 = some (.agg #[.int .u8 0, .slice none 0 0, .slice none 0 0])) ∧
  (zeroT Tryz.prog 50 = some (.agg #[.slice none 0 0, .int .u16 0, .int .u16 0, .int .u32 0, .slice none 0 0])) ∧
  (zeroT Tryz.prog 66 = some (.agg #[.slice none 0 0, .slice none 0 0, .slice none 0 0, .slice none 0 0])) :=
  ⟨by kernel_rfl, by kernel_rfl, by kernel_rfl⟩
theorem tyZero2 : (zeroT Tryz.prog 115 = some (.agg #[.int .i64 0, .int .i64 0, .int .i64 0, .int .i64 0, .int .i64 0])) := by kernel_rfl
theorem tyRow0 : (rowT Tryz.prog 22 = some (9, 1, [.sc (.string .empty)])) ∧
  (rowT Tryz.prog 23 = some (9, 1, [.sc (.string .empty)])) ∧
  (rowT Tryz.prog 24 = some (50, 5, [.sc (.slice none 0 0), .sc (.int .u16 0), .sc (.int .u16 0), .sc (.int .u32 0), .sc (.slice none 0 0)])) ∧
  (rowT Tryz.prog 48 = some (66, 4, [.sc (.slice none 0 0), .sc (.slice none 0 0), .sc (.slice none 0 0), .sc (.slice none 0 0)])) ∧
  (rowT Tryz.prog 62 = some (23, 1, [.sc (.slice none 0 0)])) ∧
  (rowT Tryz.prog 63 = some (47, 1, [.sc (.int .u32 0)])) ∧
  (rowT Tryz.prog 64 = some (5, 1, [.sc (.int .u8 0)])) ∧
  (rowT Tryz.prog 149 = some (3, 1, [.sc (.int .i64 0)])) ∧
  (rowT Tryz.prog 155 = some (64, 1, [.sc (.slice none 0 0)])) :=
  ⟨by kernel_rfl, by kernel_rfl, by kernel_rfl, by kernel_rfl, by kernel_rfl, by kernel_rfl, by kernel_rfl, by kernel_rfl, by kernel_rfl⟩
theorem tyBuild0 : (buildT Tryz.prog 31 = some ([.sc (.int .u8 0), .sc (.slice none 0 0), .sc (.slice none 0 0)], [(0, 1), (1, 1), (2, 1)])) ∧
  (buildT Tryz.prog 66 = some ([.sc (.slice none 0 0), .sc (.slice none 0 0), .sc (.slice none 0 0), .sc (.slice none 0 0)], [(0, 1), (1, 1), (2, 1), (3, 1)])) ∧
  (buildT Tryz.prog 88 = some ([.sc (.slice none 0 0), .sc (.slice none 0 0), .sc (.int .i64 0)], [(0, 2), (2, 1)])) ∧
  (buildT Tryz.prog 115 = some ([.sc (.int .i64 0), .sc (.int .i64 0), .sc (.int .i64 0), .sc (.int .i64 0), .sc (.int .i64 0)], [(0, 1), (1, 1), (2, 1), (3, 1), (4, 1)])) :=
  ⟨by kernel_rfl, by kernel_rfl, by kernel_rfl, by kernel_rfl⟩
theorem tyField0 : (fieldOf Tryz.prog 26 0 = some ⟨"Origin", 23, 0, false, "", "", 0⟩) ∧
  (fieldOf Tryz.prog 26 1 = some ⟨"Sets", 24, 1, false, "", "", 24⟩) ∧
  (fieldOf Tryz.prog 31 0 = some ⟨"Kind", 29, 0, false, "", "", 0⟩) ∧
  (fieldOf Tryz.prog 31 1 = some ⟨"Node", 23, 1, false, "", "", 8⟩) ∧
  (fieldOf Tryz.prog 31 2 = some ⟨"Closest", 23, 2, false, "", "", 32⟩) :=
  ⟨by kernel_rfl, by kernel_rfl, by kernel_rfl, by kernel_rfl, by kernel_rfl⟩
theorem tyField1 : (fieldOf Tryz.prog 50 0 = some ⟨"Owner", 23, 0, false, "", "", 0⟩) ∧
  (fieldOf Tryz.prog 50 1 = some ⟨"Type", 45, 1, false, "", "", 24⟩) ∧
  (fieldOf Tryz.prog 50 2 = some ⟨"Class", 46, 2, false, "", "", 26⟩) ∧
  (fieldOf Tryz.prog 50 4 = some ⟨"Data", 48, 4, false, "", "", 32⟩) ∧
  (fieldOf Tryz.prog 66 0 = some ⟨"Names", 62, 0, false, "", "", 0⟩) ∧
  (fieldOf Tryz.prog 66 1 = some ⟨"Nums", 63, 1, false, "", "", 24⟩) ∧
  (fieldOf Tryz.prog 66 2 = some ⟨"Texts", 22, 2, false, "", "", 48⟩) ∧
  (fieldOf Tryz.prog 66 3 = some ⟨"Raw", 64, 3, false, "", "", 72⟩) :=
  ⟨by kernel_rfl, by kernel_rfl, by kernel_rfl, by kernel_rfl, by kernel_rfl, by kernel_rfl, by kernel_rfl, by kernel_rfl⟩
theorem tyField2 : (fieldOf Tryz.prog 88 0 = some ⟨"z", 26, 0, false, "", "nomenclator/zone", 0⟩) ∧
  (fieldOf Tryz.prog 88 1 = some ⟨"e", 32, 2, false, "", "nomenclator/zone", 48⟩) ∧
  (fieldOf Tryz.prog 115 0 = some ⟨"names", 3, 0, false, "", "nomenclator/rdata", 0⟩) ∧
  (fieldOf Tryz.prog 115 1 = some ⟨"nums", 3, 1, false, "", "nomenclator/rdata", 8⟩) ∧
  (fieldOf Tryz.prog 115 2 = some ⟨"size", 3, 2, false, "", "nomenclator/rdata", 16⟩) ∧
  (fieldOf Tryz.prog 115 3 = some ⟨"texts", 3, 3, false, "", "nomenclator/rdata", 24⟩) ∧
  (fieldOf Tryz.prog 115 4 = some ⟨"raw", 3, 4, false, "", "nomenclator/rdata", 32⟩) :=
  ⟨by kernel_rfl, by kernel_rfl, by kernel_rfl, by kernel_rfl, by kernel_rfl, by kernel_rfl, by kernel_rfl⟩
theorem tyApp0 : (appT Tryz.prog 22 = some (9, 1, 16)) ∧
  (appT Tryz.prog 23 = some (9, 1, 16)) ∧
  (appT Tryz.prog 24 = some (50, 5, 56)) ∧
  (appT Tryz.prog 48 = some (66, 4, 96)) ∧
  (appT Tryz.prog 62 = some (23, 1, 24)) ∧
  (appT Tryz.prog 63 = some (47, 1, 4)) ∧
  (appT Tryz.prog 64 = some (5, 1, 1)) :=
  ⟨by kernel_rfl, by kernel_rfl, by kernel_rfl, by kernel_rfl, by kernel_rfl, by kernel_rfl, by kernel_rfl⟩
theorem TF : type_of% tyUnd0 ∧ type_of% tyUnd1 ∧ type_of% tyAgg0 ∧ type_of% tyAgg1 ∧ type_of% tyAgg2 ∧ type_of% tySize0 ∧ type_of% tySize1 ∧ type_of% tySize2 ∧ type_of% tyZero0 ∧ type_of% tyZero1 ∧ type_of% tyZero2 ∧ type_of% tyRow0 ∧ type_of% tyBuild0 ∧ type_of% tyField0 ∧ type_of% tyField1 ∧ type_of% tyField2 ∧ type_of% tyApp0 :=
  ⟨tyUnd0, tyUnd1, tyAgg0, tyAgg1, tyAgg2, tySize0, tySize1, tySize2, tyZero0, tyZero1, tyZero2, tyRow0, tyBuild0, tyField0, tyField1, tyField2, tyApp0⟩
end Go.Vm
end
section
set_option linter.unusedSimpArgs false
set_option linter.unusedVariables false
namespace Go.Proofs.YtcndpdkcagkdaabGreat
open Go.Vm
noncomputable abbrev PP := Tryz.prog
theorem mixed : PP.follows .mixedOrders = true := by kernel_rfl
theorem callPure_wl {T : Tab} (hT : TabOk PP T) {f : Nat} {fn : Func} (hf : PP.funcs[f]? = some fn) (hb : fn.body.isSome = true) (he : entered PP f = true) (hs : slotsIn fn.ntmps (fn.body.getD .skip) = true)
    {args : List AV} (hl : args.length ≤ fn.ntmps) {ρ : Type} (R : RC ρ) (fr : Bool) (x : ρ)
    (h : wl PP T 0 (fn.body.getD .skip) (retQ PP fn.results.toList (fun r st => R.get fr st.h r = some x)) (argsL 0 args) (stK [])) : CallPure PP f args (R.E fr x) :=
  callPure_of_wl (body := fn.body.getD .skip) hT mixed hf (by cases hq : fn.body with | none => rw [hq] at hb; cases hb | some b => rfl) he hs hl R fr x h
def labelErr (s : ByteArray) : Int := if s.size < 1 ∨ 63 < s.size then 4 else 0
theorem labelCheck_wl (s : ByteArray) : wl PP [] 0 (Tryz.f48.body.getD .skip) (retQ PP Tryz.f48.results.toList (fun r st => (r1 (codInt .i64)).get true st.h r = some (labelErr s))) (argsL 0 [codStr.val false s]) (stK []) := by
  unfold Tryz.f48
  simp only [↓wR, RA, simprocAttr, TF]
  rw [boolK_b]
  refine ⟨fun h => ?_, fun h => ?_⟩
  · have h1 : s.size < 1 := by simp at h; omega
    simp only [↓wR, RA, simprocAttr, TF, labelErr, h, h1, true_or]
  · have h1 : ¬ s.size < 1 := by simp at h; omega
    simp only [↓wR, RA, simprocAttr, TF, h]
    rw [boolK_b]
    refine ⟨fun h => ?_, fun h => ?_⟩
    · have h2 : 63 < s.size := by simp at h; omega
      simp only [↓wR, RA, simprocAttr, TF, labelErr, h2, or_true]
    · have h2 : ¬ 63 < s.size := by simp at h; omega
      simp only [↓wR, RA, simprocAttr, TF, labelErr, h1, h2, or_self]
noncomputable def labelCheckF (x : ByteArray × Unit) : Option AV := some ((r1 (codInt .i64)).E true (labelErr x.1))
set_option maxRecDepth 2000000 in
theorem labelCheck_pure (x : ByteArray × Unit) (r : AV) (h : labelCheckF x = some r) : CallPure PP 48 ((aC codStr a0).E x) r := by
  cases h
  exact callPure_wl (TabOk.nil PP) Tryz.func48 (by kernel_rfl) (by kernel_rfl) (by kernel_rfl) (Nat.le_of_ble_eq_true (by kernel_rfl)) (r1 (codInt .i64)) true (labelErr x.1) (labelCheck_wl x.1)
noncomputable abbrev labelCheck : Nat × Bool × (List AV → M AV) := (48, true, pureM (aC codStr a0) labelCheckF)
def nameSize (n : Name) : Nat := n.foldl (fun k s => k + (s.size + 1)) 1
theorem nameSize_snoc (l : Name) (c : ByteArray) : nameSize (l ++ [c]) = nameSize l + (c.size + 1) := by simp [nameSize]
theorem nameSize_take (n : Name) (i : Nat) (c : ByteArray) (h : n[i]? = some c) : nameSize (n.take (i + 1)) = nameSize (n.take i) + (c.size + 1) := by
  obtain ⟨hk, rfl⟩ := List.getElem?_eq_some_iff.1 h
  rw [List.take_succ_eq_append_getElem hk, nameSize_snoc]
theorem nameSize_from (l : Name) : ∀ k, l.foldl (fun k s => k + (s.size + 1)) k = k + l.foldl (fun k s => k + (s.size + 1)) 0 := by
  induction l with
  | nil => intro k; simp
  | cons a l ih => intro k; simp only [List.foldl_cons]; rw [ih, ih (0 + _)]; omega
theorem nameSize_append (a b : Name) : nameSize (a ++ b) + 1 = nameSize a + nameSize b := by
  simp only [nameSize, List.foldl_append]
  rw [nameSize_from b, nameSize_from b 1]; omega
theorem nameSize_le (n : Name) (i : Nat) : nameSize (n.take i) ≤ nameSize n ∧ n.length < nameSize n := by
  constructor
  · have := nameSize_append (n.take i) (n.drop i)
    rw [List.take_append_drop] at this
    have h1 : 1 ≤ nameSize (n.drop i) := by simp only [nameSize]; rw [nameSize_from]; omega
    omega
  · induction n with
    | nil => simp [nameSize]
    | cons a l ih =>
      have := nameSize_append [a] l
      simp only [List.singleton_append] at this
      have h1 : nameSize [a] = a.size + 2 := by simp [nameSize]; omega
      simp only [List.length_cons]
      omega
theorem wrap_i64 (x : Int) (h0 : -9223372036854775808 ≤ x) (h1 : x < 9223372036854775808) : IntKind.i64.wrap x = x := by
  simp [IntKind.wrap, IntKind.bits, IntKind.signed]; omega
theorem nameSize_wl (n : Name) (hn : nameSize n < 17592186044416) : wl PP [] 0 (Tryz.f49.body.getD .skip) (retQ PP Tryz.f49.results.toList (fun r st => (r1 (codInt .i64)).get true st.h r = some (nameSize n : Int))) (argsL 0 [codName.val false n]) (stK []) := by
  unfold Tryz.f49
  rw [codName_val]
  simp only [↓wR, RA, simprocAttr, TF]
  refine loop_of [3, 6, 7, 8] (fun (x : Nat) => [.sc (.int .i64 (nameSize (n.take x))), .vl false 1 (n.map (codStr.val false)), .sc (.int .i64 n.length), .sc (.int .i64 x)]) (fun _ => []) (fun x => x ≤ n.length) (fun x => n.length - x) 0 (Nat.zero_le _) ?_ ?_ ?_
  · simp only [↓wR, RA, simprocAttr, TF] <;> rfl
  · simp only [↓wR, RA, simprocAttr, TF]
  · intro i hi
    have h1 := nameSize_le n i
    simp only [↓wR, RA, simprocAttr, TF]
    rw [boolK_b]
    refine ⟨fun h => ?_, fun h => ?_⟩
    · have h4 : i < n.length := by simp at h; omega
      obtain ⟨c, hc⟩ : ∃ c, n[i]? = some c := ⟨n[i], by simp [h4]⟩
      have h2 := nameSize_take n i c hc
      have h3 := (nameSize_le n (i + 1)).1
      simp only [↓wR, RA, simprocAttr, TF, hc]
      refine ⟨i + 1, by omega, by omega, ?_⟩
      rw [h2]
      simp only [List.cons.injEq, and_true, true_and, AV.sc.injEq, Value.int.injEq]
      refine ⟨?_, ?_⟩
      · rw [wrap_i64 ((c.size : Int) + 1) (by omega) (by omega), wrap_i64 _ (by omega) (by omega)]; omega
      · rw [wrap_i64 _ (by omega) (by omega)]; omega
    · have h4 : i = n.length := by simp at h; omega
      subst h4
      simp only [↓wR, RA, simprocAttr, TF, List.take_length]
noncomputable def nameSizeCF (x : Name × Unit) : Option AV := if nameSize x.1 < 17592186044416 then some ((r1 (codInt .i64)).E true ((nameSize x.1 : Int))) else none
set_option maxRecDepth 2000000 in
theorem nameSizeC_pure (x : Name × Unit) (r : AV) (h : nameSizeCF x = some r) : CallPure PP 49 ((aC codName a0).E x) r := by
  by_cases hc : nameSize x.1 < 17592186044416
  case neg => simp only [nameSizeCF, if_neg hc] at h; cases h
  simp only [nameSizeCF, if_pos hc] at h
  cases h
  exact callPure_wl (TabOk.nil PP) Tryz.func49 (by kernel_rfl) (by kernel_rfl) (by kernel_rfl) (Nat.le_of_ble_eq_true (by kernel_rfl)) (r1 (codInt .i64)) true ((nameSize x.1 : Int)) (nameSize_wl x.1 hc)
noncomputable abbrev nameSizeC : Nat × Bool × (List AV → M AV) := (49, true, pureM (aC codName a0) nameSizeCF)
def badName (n : Name) : Bool := n.any fun s => decide (labelErr s ≠ 0)
def nameErr (n : Name) : Int := if badName n then 4 else if 255 < nameSize n then 5 else 0
theorem badName_take (n : Name) (i : Nat) (c : ByteArray) (h : n[i]? = some c) : badName (n.take (i + 1)) = (badName (n.take i) || decide (labelErr c ≠ 0)) := by
  obtain ⟨hk, rfl⟩ := List.getElem?_eq_some_iff.1 h
  rw [List.take_succ_eq_append_getElem hk]
  simp only [badName, List.any_append, List.any_cons, List.any_nil, Bool.or_false]
theorem badName_some (n : Name) (i : Nat) (c : ByteArray) (h : n[i]? = some c) (hc : labelErr c ≠ 0) : badName n = true := by
  simp only [badName, List.any_eq_true]
  exact ⟨c, List.mem_of_getElem? h, by simp [hc]⟩
theorem labelErr_two (s : ByteArray) : labelErr s = 0 ∨ labelErr s = 4 := by unfold labelErr; split <;> simp
theorem nameCheck_wl (n : Name) (hn : nameSize n < 17592186044416) : wl PP [labelCheck, nameSizeC] 0 (Tryz.f28.body.getD .skip) (retQ PP Tryz.f28.results.toList (fun r st => (r1 (codInt .i64)).get true st.h r = some (nameErr n))) (argsL 0 [codName.val false n]) (stK []) := by
  unfold Tryz.f28
  rw [codName_val]
  simp only [↓wR, RA, simprocAttr, TF]
  refine loop_of [0, 6, 7, 8] (fun (x : Nat) => [.vl false 1 (n.map (codStr.val false)), .vl false 1 (n.map (codStr.val false)), .sc (.int .i64 n.length), .sc (.int .i64 x)]) (fun _ => []) (fun x => x ≤ n.length ∧ badName (n.take x) = false) (fun x => n.length - x) 0 ⟨Nat.zero_le _, by simp [badName]⟩ ?_ ?_ ?_
  · simp only [↓wR, RA, simprocAttr, TF] <;> rfl
  · simp only [↓wR, RA, simprocAttr, TF]
  · rintro i ⟨hi, hb⟩
    have h1 := nameSize_le n i
    simp only [↓wR, RA, simprocAttr, TF]
    rw [boolK_b]
    refine ⟨fun h => ?_, fun h => ?_⟩
    · have h4 : i < n.length := by simp at h; omega
      obtain ⟨c, hc⟩ : ∃ c, n[i]? = some c := ⟨n[i], by simp [h4]⟩
      simp only [↓wR, RA, simprocAttr, TF, hc, labelCheckF]
      rw [boolK_b]
      refine ⟨fun h => ?_, fun h => ?_⟩
      · have h5 : labelErr c ≠ 0 := by simpa using h
        have h6 : labelErr c = 4 := (labelErr_two c).resolve_left h5
        simp only [↓wR, RA, simprocAttr, TF, nameErr, badName_some n i c hc h5, h6]
      · have h5 : labelErr c = 0 := by simpa using h
        simp only [↓wR, RA, simprocAttr, TF]
        refine ⟨i + 1, ⟨by omega, by rw [badName_take n i c hc, hb]; simp [h5]⟩, by omega, ?_⟩
        simp only [List.cons.injEq, and_true, true_and, AV.sc.injEq, Value.int.injEq]
        rw [wrap_i64 _ (by omega) (by omega)]; omega
    · have h4 : i = n.length := by simp at h; omega
      subst h4
      rw [List.take_length] at hb
      simp only [↓wR, RA, simprocAttr, TF, nameSizeCF, hn]
      rw [boolK_b]
      refine ⟨fun h => ?_, fun h => ?_⟩
      · have h5 : 255 < nameSize n := by simp at h; omega
        simp only [↓wR, RA, simprocAttr, TF, nameErr, hb, h5]
      · have h5 : ¬ 255 < nameSize n := by simp at h; omega
        simp only [↓wR, RA, simprocAttr, TF, nameErr, hb, h5]
noncomputable def nameCheckF (x : Name × Unit) : Option AV := if nameSize x.1 < 17592186044416 then some ((r1 (codInt .i64)).E true (nameErr x.1)) else none
set_option maxRecDepth 2000000 in
theorem nameCheck_pure (x : Name × Unit) (r : AV) (h : nameCheckF x = some r) : CallPure PP 28 ((aC codName a0).E x) r := by
  by_cases hc : nameSize x.1 < 17592186044416
  case neg => simp only [nameCheckF, if_neg hc] at h; cases h
  simp only [nameCheckF, if_pos hc] at h
  cases h
  exact callPure_wl (TabOk.cons (pure_entry labelCheck_pure) (TabOk.cons (pure_entry nameSizeC_pure) (TabOk.nil PP))) Tryz.func28 (by kernel_rfl) (by kernel_rfl) (by kernel_rfl) (Nat.le_of_ble_eq_true (by kernel_rfl)) (r1 (codInt .i64)) true (nameErr x.1) (nameCheck_wl x.1 hc)
noncomputable abbrev nameCheck : Nat × Bool × (List AV → M AV) := (28, true, pureM (aC codName a0) nameCheckF)
def low (c : UInt8) : UInt8 := if 65 ≤ c ∧ c ≤ 90 then c + 32 else c
def fold (s : ByteArray) : ByteArray := ⟨(s.data.toList.map low).toArray⟩
def stage (l : List UInt8) (i : Nat) : List UInt8 := (l.take i).map low ++ l.drop i
theorem stage_len (l : List UInt8) (i : Nat) : (stage l i).length = l.length := by simp [stage]; omega
theorem stage_get (l : List UInt8) (i : Nat) (h : i < l.length) : (stage l i)[i]? = l[i]? := by
  simp [stage, List.getElem?_append, Nat.min_eq_left (Nat.le_of_lt h)]
theorem stage_set (l : List UInt8) (i : Nat) (h : i < l.length) : (stage l i).take i ++ [low l[i]] ++ (stage l i).drop (i + 1) = stage l (i + 1) := by
  have h1 : ((l.take i).map low).length = i := by simp; omega
  have h2 : (stage l i).take i = (l.take i).map low := by rw [stage, List.take_append_of_le_length (by omega), List.take_of_length_le (by omega)]
  have h3 : (stage l i).drop (i + 1) = l.drop (i + 1) := by
    rw [stage, List.drop_append, List.drop_eq_nil_of_le (by omega), h1]
    simp
  rw [h2, h3, stage, List.take_succ_eq_append_getElem h, List.map_append]
  rfl
theorem stage_keep (l : List UInt8) (i : Nat) (h : i < l.length) (hk : low l[i] = l[i]) : stage l i = stage l (i + 1) := by
  rw [← stage_set l i h, hk]
  have : (stage l i)[i]? = some l[i] := by rw [stage_get l i h]; simp [h]
  obtain ⟨hlt, e⟩ := List.getElem?_eq_some_iff.1 this
  rw [← e, ← List.take_succ_eq_append_getElem hlt, List.take_append_drop]
set_option maxRecDepth 20000 in
theorem labelFold_wl (s : ByteArray) (hs : s.size ≤ 16777216) : wl PP [] 0 (Tryz.f52.body.getD .skip) (retQ PP Tryz.f52.results.toList (fun r st => (r1 codStr).get true st.h r = some (fold s))) (argsL 0 [codStr.val false s]) (stK []) := by
  unfold Tryz.f52
  have hl : s.data.toList.length = s.size := by simp
  simp only [↓wR, RA, simprocAttr, TF, hs]
  refine loop_of [3, 8, 9, 10] (fun (x : Nat) => [.sl 0 0 s.size 1, .sl 0 0 s.size 1, .sc (.int .i64 s.size), .sc (.int .i64 x)]) (fun x => [some (.row ((stage s.data.toList x).map (codU8.val false)) 0 1 5)]) (fun x => x ≤ s.size) (fun x => s.size - x) 0 (Nat.zero_le _) ?_ ?_ ?_
  · simp only [↓wR, RA, simprocAttr, TF] <;> rfl
  · simp only [↓wR, RA, simprocAttr, TF] <;> rfl
  · intro i hi
    simp only [↓wR, RA, simprocAttr, TF]
    rw [boolK_b]
    refine ⟨fun h => ?_, fun h => ?_⟩
    · have h4 : i < s.size := by simp at h; omega
      have h6 : i < s.data.toList.length := by omega
      have h5 : (stage s.data.toList i)[i]? = some s.data.toList[i] := by rw [stage_get s.data.toList i h6]; simp [h6]
      obtain ⟨c, hc⟩ : ∃ c, s.data.toList[i] = c := ⟨_, rfl⟩
      have hcl := c.toNat_lt
      rw [hc] at h5
      simp only [↓wR, RA, simprocAttr, TF, h4, h5]
      rw [boolK_b]
      refine ⟨fun h1 => ?_, fun h1 => ?_⟩
      · simp only [↓wR, RA, simprocAttr, TF, h1]
        rw [boolK_b]
        refine ⟨fun h2 => ?_, fun h2 => ?_⟩
        · have h7 : i + 1 ≤ s.size := by omega
          have hlow : low c = c + 32 := by
            simp at h1 h2
            have a1 : 65 ≤ c := by rw [UInt8.le_iff_toNat_le]; simp; omega
            have a2 : c ≤ 90 := by rw [UInt8.le_iff_toNat_le]; simp; omega
            simp [low, a1, a2]
          have hw : IntKind.u8.wrap (IntKind.u8.wrap ((c.toNat : Int) + 97) - 65) = ((low c).toNat : Int) := by
            simp at h1 h2
            rw [hlow]
            simp [IntKind.wrap, IntKind.bits, IntKind.signed, UInt8.toNat_add]
            omega
          have hst : List.map (codU8.val false) (List.take i (stage s.data.toList i)) ++ [AV.sc (Value.int IntKind.u8 ((low c).toNat : Int))] ++ List.map (codU8.val false) (List.drop (i + 1) (stage s.data.toList i)) = List.map (codU8.val false) (stage s.data.toList (i + 1)) := by
            rw [← stage_set s.data.toList i h6, hc, List.map_append, List.map_append]; rfl
          simp only [↓wR, RA, simprocAttr, TF, h4, h7, stage_len, hl, hw, hst]
          refine ⟨i + 1, h7, by omega, ?_, rfl⟩
          rw [wrap_i64 _ (by omega) (by omega)]; rfl
        · simp only [↓wR, RA, simprocAttr, TF]
          have hk : low c = c := by
            simp at h2
            have a2 : ¬ c ≤ 90 := by rw [UInt8.le_iff_toNat_le]; simp; omega
            simp [low, a2]
          refine ⟨i + 1, by omega, by omega, ?_, ?_⟩
          · rw [wrap_i64 _ (by omega) (by omega)]; rfl
          · rw [stage_keep s.data.toList i h6 (by rw [hc]; exact hk)]
      · simp only [↓wR, RA, simprocAttr, TF, h1]
        have hk : low c = c := by
          simp at h1
          have a2 : ¬ 65 ≤ c := by rw [UInt8.le_iff_toNat_le]; simp; omega
          simp [low, a2]
        refine ⟨i + 1, by omega, by omega, ?_, ?_⟩
        · rw [wrap_i64 _ (by omega) (by omega)]; rfl
        · rw [stage_keep s.data.toList i h6 (by rw [hc]; exact hk)]
    · have h4 : i = s.size := by simp at h; omega
      subst h4
      have : ∃ m, List.map low s.data.toList = m := ⟨_, rfl⟩
      obtain ⟨m, hm⟩ := this
      have h5 : stage s.data.toList s.size = m := by rw [stage, List.take_of_length_le (Nat.le_of_eq hl), List.drop_eq_nil_of_le (Nat.le_of_eq hl), List.append_nil, hm]
      have hlm : m.length = s.size := by rw [← hm, List.length_map, hl]
      have h6 : List.take s.size (List.map (codU8.val false) m) = List.map (codU8.val false) m := List.take_of_length_le (by rw [List.length_map, hlm]; exact Nat.le_refl _)
      have hf : fold s = ⟨m.toArray⟩ := by rw [fold, hm]
      rw [h5, hf]
      simp only [↓wR, RA, simprocAttr, TF, hlm, h6]
noncomputable def labelFoldF (x : ByteArray × Unit) : Option AV := if x.1.size ≤ 16777216 then some ((r1 codStr).E true (fold x.1)) else none
set_option maxRecDepth 2000000 in
theorem labelFold_pure (x : ByteArray × Unit) (r : AV) (h : labelFoldF x = some r) : CallPure PP 52 ((aC codStr a0).E x) r := by
  by_cases hc : x.1.size ≤ 16777216
  case neg => simp only [labelFoldF, if_neg hc] at h; cases h
  simp only [labelFoldF, if_pos hc] at h
  cases h
  exact callPure_wl (TabOk.nil PP) Tryz.func52 (by kernel_rfl) (by kernel_rfl) (by kernel_rfl) (Nat.le_of_ble_eq_true (by kernel_rfl)) (r1 codStr) true (fold x.1) (labelFold_wl x.1 hc)
noncomputable abbrev labelFold : Nat × Bool × (List AV → M AV) := (52, true, pureM (aC codStr a0) labelFoldF)
theorem labelSame_wl (a b : ByteArray) (ha : a.size ≤ 16777216) (hb : b.size ≤ 16777216) : wl PP [labelFold] 0 (Tryz.f32.body.getD .skip) (retQ PP Tryz.f32.results.toList (fun r st => (r1 codBool).get true st.h r = some (decide (fold a = fold b)))) (argsL 0 [codStr.val false a, codStr.val false b]) (stK []) := by
  unfold Tryz.f32
  simp only [↓wR, RA, simprocAttr, TF, labelFoldF, ha, hb]
noncomputable def labelSameF (x : ByteArray × ByteArray × Unit) : Option AV := if x.1.size ≤ 16777216 ∧ x.2.1.size ≤ 16777216 then some ((r1 codBool).E true (decide (fold x.1 = fold x.2.1))) else none
set_option maxRecDepth 2000000 in
theorem labelSame_pure (x : ByteArray × ByteArray × Unit) (r : AV) (h : labelSameF x = some r) : CallPure PP 32 ((aC codStr (aC codStr a0)).E x) r := by
  by_cases hc : x.1.size ≤ 16777216 ∧ x.2.1.size ≤ 16777216
  case neg => simp only [labelSameF, if_neg hc] at h; cases h
  simp only [labelSameF, if_pos hc] at h
  cases h
  exact callPure_wl (TabOk.cons (pure_entry labelFold_pure) (TabOk.nil PP)) Tryz.func32 (by kernel_rfl) (by kernel_rfl) (by kernel_rfl) (Nat.le_of_ble_eq_true (by kernel_rfl)) (r1 codBool) true (decide (fold x.1 = fold x.2.1)) (labelSame_wl x.1 x.2.1 hc.1 hc.2)
noncomputable abbrev labelSame : Nat × Bool × (List AV → M AV) := (32, true, pureM (aC codStr (aC codStr a0)) labelSameF)
end Go.Proofs.YtcndpdkcagkdaabGreat
end
section
set_option linter.unusedSimpArgs false
set_option linter.unusedVariables false
namespace Go.Proofs.YtcndpdkcagkdaabGreat
open Go.Vm
def commonR : List ByteArray → List ByteArray → Nat
  | a :: r, b :: q => if fold a = fold b then commonR r q + 1 else 0
  | _, _ => 0
theorem commonR_nil (l : List ByteArray) : commonR l [] = 0 := by cases l <;> rfl
def common (a b : Name) : Nat := commonR a.reverse b.reverse
theorem rev_drop {l : List ByteArray} {x : Nat} {c : ByteArray} (h : x < l.length) (hc : l[l.length - 1 - x]? = some c) : l.reverse.drop x = c :: l.reverse.drop (x + 1) := by
  have h1 : l.reverse[x]? = some c := by rw [List.getElem?_reverse h]; exact hc
  obtain ⟨h2, h3⟩ := List.getElem?_eq_some_iff.1 h1
  rw [← h3]; exact List.drop_eq_getElem_cons h2
set_option maxRecDepth 20000 in
theorem nameCommon_wl (a b : Name) (ha : ∀ s ∈ a, s.size ≤ 16777216) (hb : ∀ s ∈ b, s.size ≤ 16777216) (hla : a.length < 17592186044416) (hlb : b.length < 17592186044416) : wl PP [labelSame] 0 (Tryz.f19.body.getD .skip) (retQ PP Tryz.f19.results.toList (fun r st => (r1 (codInt .i64)).get true st.h r = some (common a b : Int))) (argsL 0 [codName.val false a, codName.val false b]) (stK []) := by
  unfold Tryz.f19
  simp only [codName_val]
  simp only [↓wR, RA, simprocAttr, TF]
  refine callAt_of_wl (T := []) (TabOk.nil PP) mixed Tryz.func31 rfl (by kernel_rfl) (by kernel_rfl) (by kernel_rfl) (by kernel_rfl) ?_; unfold Tryz.f31
  simp only [↓wR, RA, simprocAttr, TF]
  refine ⟨[2, 3, 4, 5, 10], ?_⟩
  have hib : iterB PP 51 = some (Tryz.f51.ntmps, Tryz.f51.body.getD .skip) := by kernel_rfl
  simp only [↓wR, RA, simprocAttr, TF, hib]
  refine ⟨by kernel_rfl, fun l => ?_⟩
  unfold Tryz.f51
  simp only [↓wR, RA, simprocAttr, TF]
  refine loopI_of' [0, 1, 3] (fun (x : Nat) => [.sc (.func (.yield l) #[] #[]), .ptr 4 0, .sc (.int .i64 ((a.length : Int) - 1 - x))]) (fun x => [some (.row [.vl false 1 (a.map (codStr.val false))] 0 2 23), some (.row [.vl false 1 (b.map (codStr.val false))] 0 2 23), some (.row [.sc (.int .i64 0)] 0 2 3), some (.row [.sc (.int .i64 x)] 0 2 3), some (.row [.vl false 1 (a.map (codStr.val false))] 0 2 23)]) (fun x => x ≤ a.length ∧ common a b = x + commonR (a.reverse.drop x) (b.reverse.drop x)) (fun x => a.length - x) 0 ⟨Nat.zero_le _, by simp [common]⟩ ?_ ?_ ?_
  · simp only [↓wR, RA, simprocAttr, TF]; simp; rw [wrap_i64 _ (by omega) (by omega)]
  · simp only [↓wR, RA, simprocAttr, TF] <;> rfl
  rintro x ⟨hx, hR⟩
  simp only [↓wR, RA, simprocAttr, TF]
  rw [boolI_b]; refine ⟨fun h => ?_, fun h => ?_⟩
  · have hx' : x < a.length := by simp at h; omega
    obtain ⟨c, hc⟩ : ∃ c, a[a.length - 1 - x]? = some c := ⟨_, List.getElem?_eq_getElem (by omega)⟩
    have e : ((a.length : Int) - 1 - x).toNat = a.length - 1 - x := by omega
    have e2 : (0 : Int) ≤ (a.length : Int) - 1 - x := by omega
    simp only [↓wR, RA, simprocAttr, TF, e, hc, e2]
    refine yield_keep [0, 1, 3, 12, 16] ?_
    simp only [↓wR, RA, simprocAttr, TF, yieldC, roundC, hc]
    simp (disch := omega) only [wrapI64, dleN, dltN, dleI, dltI]
    rw [boolK_b]; refine ⟨fun h1 => ?_, fun h1 => ?_⟩
    · have hb0 : b.length ≤ x := by simp at h1; omega
      have hb1 : b.reverse.drop x = [] := List.drop_eq_nil_of_le (by simpa using hb0)
      rw [hb1, commonR_nil] at hR
      simp only [↓wR, RA, simprocAttr, TF, h1]
      rw [hR, Nat.add_zero]
    · have hb0 : x < b.length := by simp at h1; omega
      obtain ⟨d, hd⟩ : ∃ d, b[b.length - 1 - x]? = some d := ⟨_, List.getElem?_eq_getElem (by omega)⟩
      have e4 : ((b.length : Int) - ((a.length : Int) - ((a.length : Int) - 1 - x))).toNat = b.length - 1 - x := by omega
      have e5 : (0 : Int) ≤ (b.length : Int) - ((a.length : Int) - ((a.length : Int) - 1 - x)) := by omega
      simp only [↓wR, RA, simprocAttr, TF, h1, hd, e4, e5, labelSameF, ha c (List.mem_of_getElem? hc), hb d (List.mem_of_getElem? hd)]
      rw [rev_drop hx' hc, rev_drop hb0 hd, commonR] at hR
      rw [boolK_b]; refine ⟨fun h2 => ?_, fun h2 => ?_⟩
      · have h3 : ¬ fold c = fold d := by simpa using h2
        rw [if_neg h3] at hR
        simp only [↓wR, RA, simprocAttr, TF, h2]
        rw [hR, Nat.add_zero]
      · have h3 : fold c = fold d := by simpa using h2
        rw [if_pos h3] at hR
        simp only [↓wR, RA, simprocAttr, TF, h2]
        refine ⟨x + 1, ⟨by omega, by omega⟩, by omega, ?_, ?_⟩
        · simp only [List.cons.injEq, and_true, true_and, AV.sc.injEq, Value.int.injEq]
          simp (disch := omega) only [wrapI64, dleN, dltN, dleI, dltI]
          omega
        · simp (disch := omega) only [wrapI64, dleN, dltN, dleI, dltI]
          rfl
  · have h4 : x = a.length := by simp at h; omega
    have h5 : a.reverse.drop x = [] := List.drop_eq_nil_of_le (by simp; omega)
    rw [h5, commonR] at hR
    simp only [↓wR, RA, simprocAttr, TF, h]
    rw [hR, Nat.add_zero]
    all_goals simp
end Go.Proofs.YtcndpdkcagkdaabGreat
end
section
set_option linter.unusedSimpArgs false
set_option linter.unusedVariables false
namespace Go.Proofs.YtcndpdkcagkdaabGreat
open Go.Vm
theorem cmpstr_call (args : List AV) : CallG PP 112 args (Cx.compareE args) :=
  Cx.compare_call (fn := (PP.funcs[112]?).getD default) (by kernel_rfl) (by kernel_rfl) (by kernel_rfl) (by kernel_rfl) (by kernel_rfl) args
noncomputable abbrev cmpstr : Nat × Bool × (List AV → M AV) := (112, true, Cx.compareE)
theorem cmpstr_ok : TabOk PP [cmpstr] := TabOk.cons cmpstr_call (TabOk.nil PP)
noncomputable def cmpS (a b : ByteArray) : Int := Lib.compareBytes a.data.toList b.data.toList
theorem stringsCompare_wl (a b : ByteArray) : wl PP [] 0 (Tryz.f105.body.getD .skip) (retQ PP Tryz.f105.results.toList (fun r st => (r1 (codInt .i64)).get true st.h r = some (cmpS a b))) (argsL 0 [codStr.val false a, codStr.val false b]) (stK []) := by
  unfold Tryz.f105
  simp only [↓wR, RA, simprocAttr, TF]
  refine callAt_of_wl (T := [cmpstr]) cmpstr_ok mixed Tryz.func109 rfl (by kernel_rfl) (by kernel_rfl) (by kernel_rfl) (by kernel_rfl) ?_; unfold Tryz.f109
  simp only [↓wR, RA, simprocAttr, TF, cmpS]
noncomputable def stringsCompareF (x : ByteArray × ByteArray × Unit) : Option AV := some ((r1 (codInt .i64)).E true (cmpS x.1 x.2.1))
set_option maxRecDepth 2000000 in
theorem stringsCompare_pure (x : ByteArray × ByteArray × Unit) (r : AV) (h : stringsCompareF x = some r) : CallPure PP 105 ((aC codStr (aC codStr a0)).E x) r := by
  cases h
  exact callPure_wl (TabOk.nil PP) Tryz.func105 (by kernel_rfl) (by kernel_rfl) (by kernel_rfl) (Nat.le_of_ble_eq_true (by kernel_rfl)) (r1 (codInt .i64)) true (cmpS x.1 x.2.1) (stringsCompare_wl x.1 x.2.1)
noncomputable abbrev stringsCompare : Nat × Bool × (List AV → M AV) := (105, true, pureM (aC codStr (aC codStr a0)) stringsCompareF)
theorem labelCompare_wl (a b : ByteArray) (ha : a.size ≤ 16777216) (hb : b.size ≤ 16777216) : wl PP [labelFold, stringsCompare] 0 (Tryz.f95.body.getD .skip) (retQ PP Tryz.f95.results.toList (fun r st => (r1 (codInt .i64)).get true st.h r = some (cmpS (fold a) (fold b)))) (argsL 0 [codStr.val false a, codStr.val false b]) (stK []) := by
  unfold Tryz.f95
  simp only [↓wR, RA, simprocAttr, TF, labelFoldF, stringsCompareF, ha, hb]
noncomputable def labelCompareF (x : ByteArray × ByteArray × Unit) : Option AV := if x.1.size ≤ 16777216 ∧ x.2.1.size ≤ 16777216 then some ((r1 (codInt .i64)).E true (cmpS (fold x.1) (fold x.2.1))) else none
set_option maxRecDepth 2000000 in
theorem labelCompare_pure (x : ByteArray × ByteArray × Unit) (r : AV) (h : labelCompareF x = some r) : CallPure PP 95 ((aC codStr (aC codStr a0)).E x) r := by
  by_cases hc : x.1.size ≤ 16777216 ∧ x.2.1.size ≤ 16777216
  case neg => simp only [labelCompareF, if_neg hc] at h; cases h
  simp only [labelCompareF, if_pos hc] at h
  cases h
  exact callPure_wl (TabOk.cons (pure_entry labelFold_pure) (TabOk.cons (pure_entry stringsCompare_pure) (TabOk.nil PP))) Tryz.func95 (by kernel_rfl) (by kernel_rfl) (by kernel_rfl) (Nat.le_of_ble_eq_true (by kernel_rfl)) (r1 (codInt .i64)) true (cmpS (fold x.1) (fold x.2.1)) (labelCompare_wl x.1 x.2.1 hc.1 hc.2)
noncomputable abbrev labelCompare : Nat × Bool × (List AV → M AV) := (95, true, pureM (aC codStr (aC codStr a0)) labelCompareF)
def foldN (n : Name) : List ByteArray := n.map fold
def smallN (n : Name) : Prop := nameSize n ≤ 16777216
instance (n : Name) : Decidable (smallN n) := inferInstanceAs (Decidable (_ ≤ _))
theorem nameSize_mem {n : Name} {s : ByteArray} (h : s ∈ n) : s.size < nameSize n := by
  obtain ⟨a, b, rfl⟩ := List.append_of_mem h
  have h1 := nameSize_append a ([s] ++ b)
  have h2 := nameSize_append [s] b
  have h3 : nameSize [s] = s.size + 2 := by simp [nameSize]; omega
  have h4 : ∀ l : Name, 1 ≤ nameSize l := fun l => by have := (nameSize_le l 0).2; omega
  have := h4 a; have := h4 b
  simp only [List.singleton_append] at h1 h2
  omega
theorem smallN.label {n : Name} (h : smallN n) : ∀ s ∈ n, s.size ≤ 16777216 := fun s hs => by have := nameSize_mem hs; unfold smallN at h; omega
theorem smallN.len {n : Name} (h : smallN n) : n.length < 17592186044416 := by have := (nameSize_le n 0).2; unfold smallN at h; omega
theorem commonR_le : ∀ r q : List ByteArray, commonR r q ≤ q.length
  | [], q => by simp [commonR]
  | a :: r, [] => by simp [commonR]
  | a :: r, b :: q => by
    have := commonR_le r q
    simp only [commonR, List.length_cons]
    split <;> omega
theorem commonR_left : ∀ r q : List ByteArray, commonR r q ≤ r.length
  | [], q => by simp [commonR]
  | a :: r, [] => by simp [commonR]
  | a :: r, b :: q => by
    have := commonR_left r q
    simp only [commonR, List.length_cons]
    split <;> omega
theorem commonR_all : ∀ r q : List ByteArray, commonR r q = q.length ↔ q.map fold <+: r.map fold
  | [], [] => by simp [commonR]
  | a :: r, [] => by simp [commonR]
  | [], b :: q => by simp [commonR]
  | a :: r, b :: q => by
    have := commonR_all r q
    simp only [commonR, List.length_cons, List.map_cons, List.cons_prefix_cons]
    by_cases h : fold a = fold b
    · rw [if_pos h]
      constructor
      · intro h1; exact ⟨h.symm, this.1 (by omega)⟩
      · intro h1; have := this.2 h1.2; omega
    · rw [if_neg h]
      constructor
      · intro h1; omega
      · intro h1; exact (h h1.1.symm).elim
theorem common_under (n top : Name) : common n top = top.length ↔ foldN top <:+ foldN n := by
  unfold common foldN
  rw [← List.length_reverse, commonR_all, List.map_reverse, List.map_reverse, List.reverse_prefix]
theorem common_same (a b : Name) : (a.length = b.length ∧ common a b = a.length) ↔ foldN a = foldN b := by
  constructor
  · rintro ⟨h1, h2⟩
    rw [h1] at h2
    have := (common_under a b).1 h2
    exact (this.eq_of_length (by simp [foldN, h1])).symm
  · intro h
    have hl : a.length = b.length := by have := congrArg List.length h; simpa [foldN] using this
    refine ⟨hl, ?_⟩
    rw [hl]
    exact (common_under a b).2 (by rw [h]; exact List.suffix_refl _)
def sameN (a b : Name) : Bool := decide (foldN a = foldN b)
def underN (n top : Name) : Bool := decide (foldN top <:+ foldN n)
noncomputable def nameCommonF (x : Name × Name × Unit) : Option AV := if smallN x.1 ∧ smallN x.2.1 then some ((r1 (codInt .i64)).E true ((common x.1 x.2.1 : Int))) else none
set_option maxRecDepth 2000000 in
theorem nameCommon_pure (x : Name × Name × Unit) (r : AV) (h : nameCommonF x = some r) : CallPure PP 19 ((aC codName (aC codName a0)).E x) r := by
  by_cases hc : smallN x.1 ∧ smallN x.2.1
  case neg => simp only [nameCommonF, if_neg hc] at h; cases h
  simp only [nameCommonF, if_pos hc] at h
  cases h
  exact callPure_wl (TabOk.cons (pure_entry labelSame_pure) (TabOk.nil PP)) Tryz.func19 (by kernel_rfl) (by kernel_rfl) (by kernel_rfl) (Nat.le_of_ble_eq_true (by kernel_rfl)) (r1 (codInt .i64)) true ((common x.1 x.2.1 : Int)) (nameCommon_wl x.1 x.2.1 hc.1.label hc.2.label hc.1.len hc.2.len)
noncomputable abbrev nameCommon : Nat × Bool × (List AV → M AV) := (19, true, pureM (aC codName (aC codName a0)) nameCommonF)
theorem nameUnder_wl (n top : Name) (hn : smallN n) (ht : smallN top) : wl PP [nameCommon] 0 (Tryz.f8.body.getD .skip) (retQ PP Tryz.f8.results.toList (fun r st => (r1 codBool).get true st.h r = some (underN n top))) (argsL 0 [codName.val false n, codName.val false top]) (stK []) := by
  unfold Tryz.f8
  simp only [codName_val]
  simp only [↓wR, RA, simprocAttr, TF, nameCommonF, hn, ht]
  congr 1
  unfold underN
  have := common_under n top
  rw [Bool.eq_iff_iff]; simp [← this]; omega
noncomputable def nameUnderF (x : Name × Name × Unit) : Option AV := if smallN x.1 ∧ smallN x.2.1 then some ((r1 codBool).E true (underN x.1 x.2.1)) else none
set_option maxRecDepth 2000000 in
theorem nameUnder_pure (x : Name × Name × Unit) (r : AV) (h : nameUnderF x = some r) : CallPure PP 8 ((aC codName (aC codName a0)).E x) r := by
  by_cases hc : smallN x.1 ∧ smallN x.2.1
  case neg => simp only [nameUnderF, if_neg hc] at h; cases h
  simp only [nameUnderF, if_pos hc] at h
  cases h
  exact callPure_wl (TabOk.cons (pure_entry nameCommon_pure) (TabOk.nil PP)) Tryz.func8 (by kernel_rfl) (by kernel_rfl) (by kernel_rfl) (Nat.le_of_ble_eq_true (by kernel_rfl)) (r1 codBool) true (underN x.1 x.2.1) (nameUnder_wl x.1 x.2.1 hc.1 hc.2)
noncomputable abbrev nameUnder : Nat × Bool × (List AV → M AV) := (8, true, pureM (aC codName (aC codName a0)) nameUnderF)
theorem nameSame_wl (n top : Name) (hn : smallN n) (ht : smallN top) : wl PP [nameCommon] 0 (Tryz.f7.body.getD .skip) (retQ PP Tryz.f7.results.toList (fun r st => (r1 codBool).get true st.h r = some (sameN n top))) (argsL 0 [codName.val false n, codName.val false top]) (stK []) := by
  unfold Tryz.f7
  simp only [codName_val]
  simp only [↓wR, RA, simprocAttr, TF, nameCommonF, hn, ht]
  rw [boolK_b]; refine ⟨fun h => ?_, fun h => ?_⟩
  · have hl : n.length = top.length := by simp at h; omega
    simp only [↓wR, RA, simprocAttr, TF, h, nameCommonF, hn, ht]
    congr 1
    unfold sameN
    have := common_same n top
    rw [Bool.eq_iff_iff]; simp [← this, hl]; omega
  · have hl : ¬ n.length = top.length := by simp at h; omega
    simp only [↓wR, RA, simprocAttr, TF, h]
    have := common_same n top
    simp [sameN, ← this, hl]
noncomputable def nameSameF (x : Name × Name × Unit) : Option AV := if smallN x.1 ∧ smallN x.2.1 then some ((r1 codBool).E true (sameN x.1 x.2.1)) else none
set_option maxRecDepth 2000000 in
theorem nameSame_pure (x : Name × Name × Unit) (r : AV) (h : nameSameF x = some r) : CallPure PP 7 ((aC codName (aC codName a0)).E x) r := by
  by_cases hc : smallN x.1 ∧ smallN x.2.1
  case neg => simp only [nameSameF, if_neg hc] at h; cases h
  simp only [nameSameF, if_pos hc] at h
  cases h
  exact callPure_wl (TabOk.cons (pure_entry nameCommon_pure) (TabOk.nil PP)) Tryz.func7 (by kernel_rfl) (by kernel_rfl) (by kernel_rfl) (Nat.le_of_ble_eq_true (by kernel_rfl)) (r1 codBool) true (sameN x.1 x.2.1) (nameSame_wl x.1 x.2.1 hc.1 hc.2)
noncomputable abbrev nameSame : Nat × Bool × (List AV → M AV) := (7, true, pureM (aC codName (aC codName a0)) nameSameF)
noncomputable def cmpAt (a b : Name) (k : Nat) : Int :=
  match a[a.length - 1 - k]?, b[b.length - 1 - k]? with
  | some x, some y => cmpS (fold x) (fold y)
  | _, _ => 0
noncomputable def cmpN (a b : Name) : Int :=
  if common a b = a.length ∧ common a b = b.length then 0 else if common a b = a.length then -1 else if common a b = b.length then 1 else cmpAt a b (common a b)
theorem nameCompare_wl (a b : Name) (ha : smallN a) (hb : smallN b) : wl PP [nameCommon, labelCompare] 0 (Tryz.f78.body.getD .skip) (retQ PP Tryz.f78.results.toList (fun r st => (r1 (codInt .i64)).get true st.h r = some (cmpN a b))) (argsL 0 [codName.val false a, codName.val false b]) (stK []) := by
  unfold Tryz.f78
  simp only [codName_val]
  simp only [↓wR, RA, simprocAttr, TF, nameCommonF, ha, hb]
  have h1 := commonR_left a.reverse b.reverse
  have h2 := commonR_le a.reverse b.reverse
  rw [List.length_reverse] at h1 h2
  change common a b ≤ a.length at h1
  change common a b ≤ b.length at h2
  obtain ⟨k, hk⟩ : ∃ k, common a b = k := ⟨_, rfl⟩
  rw [hk] at h1 h2
  unfold cmpN
  rw [hk]
  rw [boolK_b]; refine ⟨fun h => ?_, fun h => ?_⟩
  · simp only [↓wR, RA, simprocAttr, TF, h]
    have hka : k = a.length := by simp at h; omega
    rw [boolK_b]; refine ⟨fun h3 => ?_, fun h3 => ?_⟩
    · have hkb : k = b.length := by simp at h3; omega
      simp only [↓wR, RA, simprocAttr, TF, h3]
      rw [if_pos ⟨hka, hkb⟩]
    · have hkb : ¬ k = b.length := by simp at h3; omega
      simp only [↓wR, RA, simprocAttr, TF, h3, h]
      rw [if_neg (fun e => hkb e.2), if_pos hka]
  · simp only [↓wR, RA, simprocAttr, TF, h]
    have hka : ¬ k = a.length := by simp at h; omega
    rw [boolK_b]; refine ⟨fun h3 => ?_, fun h3 => ?_⟩
    · have hkb : k = b.length := by simp at h3; omega
      simp only [↓wR, RA, simprocAttr, TF, h3]
      rw [if_neg (fun e => hka e.1), if_neg hka, if_pos hkb]
    · have hkb : ¬ k = b.length := by simp at h3; omega
      rw [if_neg (fun e => hka e.1), if_neg hka, if_neg hkb]
      obtain ⟨x, hx⟩ : ∃ x, a[a.length - 1 - k]? = some x := ⟨_, List.getElem?_eq_getElem (by omega)⟩
      obtain ⟨y, hy⟩ : ∃ y, b[b.length - 1 - k]? = some y := ⟨_, List.getElem?_eq_getElem (by omega)⟩
      simp only [↓wR, RA, simprocAttr, TF, h3]
      refine ⟨by kernel_rfl, .inl ?_⟩
      have la := ha.len
      have lb := hb.len
      simp (disch := omega) only [wrapI64, dleN, dltN, dleI, dltI]
      have e1 : (((a.length : Int) - 1) - k).toNat = a.length - 1 - k := by omega
      have e2 : (0 : Int) ≤ ((a.length : Int) - 1) - k := by omega
      have e3 : (((b.length : Int) - 1) - k).toNat = b.length - 1 - k := by omega
      have e4 : (0 : Int) ≤ ((b.length : Int) - 1) - k := by omega
      simp only [↓wR, RA, simprocAttr, TF, hx, e1, e2]
      simp (disch := omega) only [wrapI64, dleN, dltN, dleI, dltI]
      simp only [↓wR, RA, simprocAttr, TF, hy, e3, e4, labelCompareF, ha.label x (List.mem_of_getElem? hx), hb.label y (List.mem_of_getElem? hy)]
      exact ⟨by kernel_rfl, by simp [cmpAt, hx, hy]⟩
noncomputable def nameCompareF (x : Name × Name × Unit) : Option AV := if smallN x.1 ∧ smallN x.2.1 then some ((r1 (codInt .i64)).E true (cmpN x.1 x.2.1)) else none
set_option maxRecDepth 2000000 in
theorem nameCompare_pure (x : Name × Name × Unit) (r : AV) (h : nameCompareF x = some r) : CallPure PP 78 ((aC codName (aC codName a0)).E x) r := by
  by_cases hc : smallN x.1 ∧ smallN x.2.1
  case neg => simp only [nameCompareF, if_neg hc] at h; cases h
  simp only [nameCompareF, if_pos hc] at h
  cases h
  exact callPure_wl (TabOk.cons (pure_entry nameCommon_pure) (TabOk.cons (pure_entry labelCompare_pure) (TabOk.nil PP))) Tryz.func78 (by kernel_rfl) (by kernel_rfl) (by kernel_rfl) (Nat.le_of_ble_eq_true (by kernel_rfl)) (r1 (codInt .i64)) true (cmpN x.1 x.2.1) (nameCompare_wl x.1 x.2.1 hc.1 hc.2)
noncomputable abbrev nameCompare : Nat × Bool × (List AV → M AV) := (78, true, pureM (aC codName (aC codName a0)) nameCompareF)
end Go.Proofs.YtcndpdkcagkdaabGreat
end
section
set_option linter.unusedSimpArgs false
set_option linter.unusedVariables false
namespace Go.Proofs.YtcndpdkcagkdaabGreat
open Go.Vm
theorem smallN.lt {n : Name} (h : smallN n) : n.length < 16777216 := by have := (nameSize_le n 0).2; unfold smallN at h; omega
theorem nameCopy_wl (n : Name) (hn : smallN n) : wl PP [] 0 (Tryz.f17.body.getD .skip) (retQ PP Tryz.f17.results.toList (fun r st => (r1 codName).get true st.h r = some n)) (argsL 0 [codName.val false n]) (stK []) := by
  unfold Tryz.f17
  simp only [codName_val]
  have hlim : n.length * 16 ≤ 140737488355328 := by have := hn.lt; omega
  simp only [↓wR, RA, simprocAttr, TF, hlim]
noncomputable def nameCopyF (x : Name × Unit) : Option AV := if smallN x.1 then some ((r1 codName).E true (x.1)) else none
set_option maxRecDepth 2000000 in
theorem nameCopy_pure (x : Name × Unit) (r : AV) (h : nameCopyF x = some r) : CallPure PP 17 ((aC codName a0).E x) r := by
  by_cases hc : smallN x.1
  case neg => simp only [nameCopyF, if_neg hc] at h; cases h
  simp only [nameCopyF, if_pos hc] at h
  cases h
  exact callPure_wl (TabOk.nil PP) Tryz.func17 (by kernel_rfl) (by kernel_rfl) (by kernel_rfl) (Nat.le_of_ble_eq_true (by kernel_rfl)) (r1 codName) true (x.1) (nameCopy_wl x.1 hc)
noncomputable abbrev nameCopy : Nat × Bool × (List AV → M AV) := (17, true, pureM (aC codName a0) nameCopyF)
theorem foldN_at {n : Name} {i : Nat} {c : ByteArray} (hc : n[i]? = some c) : foldN (n.drop i) = fold c :: foldN (n.drop (i + 1)) := by rw [drop_at hc]; rfl
theorem nameFold_wl (n : Name) (hn : smallN n) : wl PP [labelFold] 0 (Tryz.f68.body.getD .skip) (retQ PP Tryz.f68.results.toList (fun r st => (r1 codName).get true st.h r = some (foldN n))) (argsL 0 [codName.val false n]) (stK []) := by
  unfold Tryz.f68
  simp only [codName_val]
  have hln := hn.lt
  simp only [↓wR, RA, simprocAttr, TF]
  refine loop_of_g [6, 7, 8, 3] (fun (x : List ByteArray) => [.vl false 1 (n.map (codStr.val false)), .sc (.int .i64 n.length), .sc (.int .i64 x.length), .sl 0 0 x.length 1]) (fun x => [some (.row (x.map (codStr.val false)) 0 0 9)]) (fun x => x ++ foldN (n.drop x.length) = foldN n ∧ x.length ≤ n.length) (fun x => n.length - x.length) [] ⟨rfl, Nat.zero_le _⟩ (by simp only [↓wR, RA, simprocAttr, TF]; (refine WkV.lax [] (by first | exact Nat.le_of_ble_eq_true rfl | (simp [limit]; omega)) ?_ ?_ <;> repeat' first | exact LaxL.nil | exact LaxO.nil | exact Lax.same _ | exact Lax.nil _ _ _ | exact Lax.nilv _ _ | exact LaxO.refl _ _ | apply LaxL.cons | apply LaxO.ghost | apply LaxO.same | apply LaxO.row)) ?_
  rintro x ⟨hR, hx⟩
  simp only [↓wR, RA, simprocAttr, TF]
  rw [boolK_b]; refine ⟨fun h => ?_, fun h => ?_⟩
  · obtain ⟨c, hc, hd, hlt⟩ := at_lt h
    have hlim : (x.length + 1) * 16 ≤ 140737488355328 := by omega
    simp only [↓wR, RA, simprocAttr, TF, hc, labelFoldF, hn.label c (List.mem_of_getElem? hc), hlim]
    refine ⟨x ++ [fold c], ⟨?_, by simp; omega⟩, by simp; omega, by (first | rfl | trivial | omega | (simp (disch := omega) only [wrapI64]; first | done | rfl | (simp only [List.cons.injEq, accV_snoc, accO_snoc, List.length_append, List.length_cons, List.length_nil, List.map_append, List.map_cons, List.map_nil, and_true, true_and, and_self, AV.sc.injEq, AV.sl.injEq, AObj.row.injEq, Option.some.injEq, Value.int.injEq, Nat.zero_add]; first | done | rfl | omega)) | (simp only [List.cons.injEq, accV_snoc, accO_snoc, List.length_append, List.length_cons, List.length_nil, List.map_append, List.map_cons, List.map_nil, and_true, true_and, and_self, AV.sc.injEq, AV.sl.injEq, AObj.row.injEq, Option.some.injEq, Value.int.injEq, Nat.zero_add]; first | done | rfl | omega)), by (first | rfl | trivial | omega | (simp (disch := omega) only [wrapI64]; first | done | rfl | (simp only [List.cons.injEq, accV_snoc, accO_snoc, List.length_append, List.length_cons, List.length_nil, List.map_append, List.map_cons, List.map_nil, and_true, true_and, and_self, AV.sc.injEq, AV.sl.injEq, AObj.row.injEq, Option.some.injEq, Value.int.injEq, Nat.zero_add]; first | done | rfl | omega)) | (simp only [List.cons.injEq, accV_snoc, accO_snoc, List.length_append, List.length_cons, List.length_nil, List.map_append, List.map_cons, List.map_nil, and_true, true_and, and_self, AV.sc.injEq, AV.sl.injEq, AObj.row.injEq, Option.some.injEq, Value.int.injEq, Nat.zero_add]; first | done | rfl | omega))⟩
    rw [← hR, foldN_at hc]; simp
  · rw [at_ge h] at hR
    simp only [↓wR, RA, simprocAttr, TF, h]
    simpa [foldN] using hR
noncomputable def nameFoldF (x : Name × Unit) : Option AV := if smallN x.1 then some ((r1 codName).E true (foldN x.1)) else none
set_option maxRecDepth 2000000 in
theorem nameFold_pure (x : Name × Unit) (r : AV) (h : nameFoldF x = some r) : CallPure PP 68 ((aC codName a0).E x) r := by
  by_cases hc : smallN x.1
  case neg => simp only [nameFoldF, if_neg hc] at h; cases h
  simp only [nameFoldF, if_pos hc] at h
  cases h
  exact callPure_wl (TabOk.cons (pure_entry labelFold_pure) (TabOk.nil PP)) Tryz.func68 (by kernel_rfl) (by kernel_rfl) (by kernel_rfl) (Nat.le_of_ble_eq_true (by kernel_rfl)) (r1 codName) true (foldN x.1) (nameFold_wl x.1 hc)
noncomputable abbrev nameFold : Nat × Bool × (List AV → M AV) := (68, true, pureM (aC codName a0) nameFoldF)
theorem nameErr_small {n : Name} (h : nameErr n = 0) : nameSize n ≤ 255 := by
  unfold nameErr at h
  split at h
  · cases h
  · split at h
    · cases h
    · omega
theorem smallN.fit {n : Name} (h : smallN n) : nameSize n < 17592186044416 := by unfold smallN at h; omega
theorem smallN.drop {n : Name} (h : smallN n) (i : Nat) : smallN (n.drop i) := by
  unfold smallN at *
  have := nameSize_append (n.take i) (n.drop i)
  rw [List.take_append_drop] at this
  have h1 := (nameSize_le (n.take i) 0).2
  omega
def starS : ByteArray := ⟨#[42]⟩
def labelBytes (s : ByteArray) : List UInt8 := UInt8.ofNat s.size :: s.data.toList
def nameBytes (n : Name) : List UInt8 := n.flatMap labelBytes ++ [0]
def nameB (n : Name) : List UInt8 := if nameErr n ≠ 0 then [] else nameBytes n
theorem labelBytes_len (s) : (labelBytes s).length = s.size + 1 := by simp [labelBytes]
theorem nameBytes_len (n : Name) : (n.flatMap labelBytes).length + 1 = nameSize n := by
  induction n with
  | nil => rfl
  | cons a l ih =>
    have := nameSize_append [a] l
    have h3 : nameSize [a] = a.size + 2 := by simp [nameSize]; omega
    simp only [List.singleton_append] at this
    simp only [List.flatMap_cons, List.length_append, labelBytes_len]
    omega
theorem nameBytes_wl (n : Name) (hn : smallN n) : wl PP [nameCheck] 0 (Tryz.f90.body.getD .skip) (retQ PP Tryz.f90.results.toList (fun r st => (r2 (codL codU8) (codInt .i64)).get true st.h r = some (nameB n, nameErr n))) (argsL 0 [codName.val false n]) (stK []) := by
  unfold Tryz.f90
  simp only [codName_val]
  have hln := hn.lt
  simp only [↓wR, RA, simprocAttr, TF, nameCheckF, hn.fit]
  rw [boolK_b]; refine ⟨fun h => ?_, fun h => ?_⟩
  · have he : nameErr n ≠ 0 := by simpa using h
    have hb : nameB n = [] := if_pos he
    simp only [↓wR, RA, simprocAttr, TF, hb]
  have he : nameErr n = 0 := by simpa using h
  have hb : nameB n = nameBytes n := if_neg (by omega)
  rw [hb, he]
  simp only [↓wR, RA, simprocAttr, TF]
  refine loop_of_g [13, 14, 15, 5] (fun (x : Nat × List UInt8) => [.vl false 1 (n.map (codStr.val false)), .sc (.int .i64 n.length), .sc (.int .i64 x.1), .sl 0 0 x.2.length 1]) (fun x => [some (.row (x.2.map (codU8.val false)) 0 0 5)]) (fun x => x.2 ++ (n.drop x.1).flatMap labelBytes = n.flatMap labelBytes ∧ x.1 ≤ n.length) (fun x => n.length - x.1) (0, []) ⟨rfl, Nat.zero_le _⟩ (by simp only [↓wR, RA, simprocAttr, TF]; (refine WkV.lax [] (by first | exact Nat.le_of_ble_eq_true rfl | (simp [limit]; omega)) ?_ ?_ <;> repeat' first | exact LaxL.nil | exact LaxO.nil | exact Lax.same _ | exact Lax.nil _ _ _ | exact Lax.nilv _ _ | exact LaxO.refl _ _ | apply LaxL.cons | apply LaxO.ghost | apply LaxO.same | apply LaxO.row)) ?_
  rintro ⟨i, x⟩ ⟨hR, hx⟩
  simp only at hR hx
  have hnb := nameBytes_len n
  have hsm := nameErr_small he
  simp only [↓wR, RA, simprocAttr, TF]
  rw [boolK_b]; refine ⟨fun h2 => ?_, fun h2 => ?_⟩
  · obtain ⟨c, hc, hd, hlt⟩ := at_lt h2
    rw [hd, List.flatMap_cons] at hR
    have hl : x.length + (labelBytes c).length ≤ (n.flatMap labelBytes).length := by rw [← hR]; simp
    rw [labelBytes_len] at hl
    simp only [↓wR, RA, simprocAttr, TF, hc]; repeat (simp (disch := omega) only [wrapI64, dleN, dltN, dleI, dltI]; try simp only [↓wR, RA, simprocAttr, TF, hc])
    refine ⟨(i + 1, x ++ labelBytes c), ⟨by rw [← hR]; simp, hlt⟩, by simp; omega, ?_, by simp only [labelBytes, List.map_append, List.map_cons, List.append_assoc, List.singleton_append, codU8_val]⟩
    simp only [List.cons.injEq, and_true, true_and, AV.sc.injEq, Value.int.injEq, AV.sl.injEq, labelBytes, List.length_append, List.length_cons]
    refine ⟨by (try simp (disch := omega) only [wrapI64, dleN, dltN, dleI, dltI]); simp, by simp; omega⟩
  · rw [at_ge h2] at hR
    have hl : x.length < nameSize n := by rw [← hnb, ← hR]; simp
    simp only [↓wR, RA, simprocAttr, TF, h2]; repeat (simp (disch := omega) only [wrapI64, dleN, dltN, dleI, dltI]; try simp only [↓wR, RA, simprocAttr, TF, h2])
    simp only [nameBytes, ← hR]; simp
noncomputable def nameBytesCF (x : Name × Unit) : Option AV := if smallN x.1 then some ((r2 (codL codU8) (codInt .i64)).E true ((nameB x.1, nameErr x.1))) else none
set_option maxRecDepth 2000000 in
theorem nameBytesC_pure (x : Name × Unit) (r : AV) (h : nameBytesCF x = some r) : CallPure PP 90 ((aC codName a0).E x) r := by
  by_cases hc : smallN x.1
  case neg => simp only [nameBytesCF, if_neg hc] at h; cases h
  simp only [nameBytesCF, if_pos hc] at h
  cases h
  exact callPure_wl (TabOk.cons (pure_entry nameCheck_pure) (TabOk.nil PP)) Tryz.func90 (by kernel_rfl) (by kernel_rfl) (by kernel_rfl) (Nat.le_of_ble_eq_true (by kernel_rfl)) (r2 (codL codU8) (codInt .i64)) true ((nameB x.1, nameErr x.1)) (nameBytes_wl x.1 hc)
noncomputable abbrev nameBytesC : Nat × Bool × (List AV → M AV) := (90, true, pureM (aC codName a0) nameBytesCF)
end Go.Proofs.YtcndpdkcagkdaabGreat
end
section
set_option linter.unusedSimpArgs false
set_option linter.unusedVariables false
namespace Go.Proofs.YtcndpdkcagkdaabGreat
open Go.Vm
set_option maxRecDepth 2000000
theorem eqSlice_vm {α : Type} {f : α → AV} {xs : List α} (h : xs ≠ []) (op l sz p q) : eqSlice op (.vl l sz (xs.map f)) (.sc (.slice none p q)) = yesNo op false := by
  cases xs with
  | nil => exact (h rfl).elim
  | cons x xs => rfl
def EmptyV (v : Value) : Prop := v = .slice none 0 0 ∨ ∃ a c, v = .slice (some a) 0 c
theorem callPure_empty {f : Nat} {r : AV} {sz : Nat} (h : ∀ v, EmptyV v → CallPure PP f [.sc v] r) : CallPure PP f [.vl false sz []] r := by
  intro K w vs hK hrel
  obtain ⟨v, rfl, hv⟩ := relL_one hrel
  have hE : EmptyV v := by
    cases hv with
    | vl => exact .inr ⟨_, _, rfl⟩
    | vlnil => exact .inl rfl
    | vlz => exact .inr ⟨_, _, rfl⟩
  exact h v hE K w [v] hK (RelL.cons (.sc v) (RelL.nil _ _))
theorem cloneU32_wl (l : List UInt32) (hne : l ≠ []) (hl : l.length ≤ 16777216) : wl PP [] 0 (Tryz.f53.body.getD .skip) (retQ PP Tryz.f53.results.toList (fun r st => (r1 (codL codU32)).get true st.h r = some l)) (argsL 0 [(codL codU32).val false l]) (stK []) := by
  unfold Tryz.f53
  rw [codL_val]
  have hb : l.length * 4 ≤ 140737488355328 := by omega
  simp only [↓wR, RA, simprocAttr, TF, eqSlice_vm hne, hb]
theorem cloneU32_wl0 (v : Value) (hv : EmptyV v) : wl PP [] 0 (Tryz.f53.body.getD .skip) (retQ PP Tryz.f53.results.toList (fun r st => (r1 (codL codU32)).get true st.h r = some [])) (argsL 0 [.sc v]) (stK []) := by
  unfold Tryz.f53
  rcases hv with rfl | ⟨a, c, rfl⟩
  · simp only [↓wR, RA, simprocAttr, TF]
  · simp only [↓wR, RA, simprocAttr, TF]
noncomputable def cloneU32F (x : List UInt32 × Unit) : Option AV := if x.1.length ≤ 16777216 then some ((r1 (codL codU32)).E true x.1) else none
theorem cloneU32_pure (x : List UInt32 × Unit) (r : AV) (h : cloneU32F x = some r) : CallPure PP 53 ((aC (codL codU32) a0).E x) r := by
  by_cases hc : x.1.length ≤ 16777216
  case neg => simp only [cloneU32F, if_neg hc] at h; cases h
  simp only [cloneU32F, if_pos hc] at h
  cases h
  obtain ⟨l, ⟨⟩⟩ := x
  by_cases hn : l = []
  · subst hn
    exact callPure_empty (sz := 1) fun v hv => callPure_wl (TabOk.nil PP) Tryz.func53 (by kernel_rfl) (by kernel_rfl) (by kernel_rfl) (Nat.le_of_ble_eq_true (by kernel_rfl)) (r1 (codL codU32)) true [] (cloneU32_wl0 v hv)
  · exact callPure_wl (TabOk.nil PP) Tryz.func53 (by kernel_rfl) (by kernel_rfl) (by kernel_rfl) (Nat.le_of_ble_eq_true (by kernel_rfl)) (r1 (codL codU32)) true l (cloneU32_wl l hn hc)
noncomputable abbrev cloneU32 : Nat × Bool × (List AV → M AV) := (53, true, pureM (aC (codL codU32) a0) cloneU32F)
theorem cloneStr_wl (l : List ByteArray) (hne : l ≠ []) (hl : l.length ≤ 16777216) : wl PP [] 0 (Tryz.f54.body.getD .skip) (retQ PP Tryz.f54.results.toList (fun r st => (r1 (codL codStr)).get true st.h r = some l)) (argsL 0 [(codL codStr).val false l]) (stK []) := by
  unfold Tryz.f54
  rw [codL_val]
  have hb : l.length * 16 ≤ 140737488355328 := by omega
  simp only [↓wR, RA, simprocAttr, TF, eqSlice_vm hne, hb]
theorem cloneStr_wl0 (v : Value) (hv : EmptyV v) : wl PP [] 0 (Tryz.f54.body.getD .skip) (retQ PP Tryz.f54.results.toList (fun r st => (r1 (codL codStr)).get true st.h r = some [])) (argsL 0 [.sc v]) (stK []) := by
  unfold Tryz.f54
  rcases hv with rfl | ⟨a, c, rfl⟩
  · simp only [↓wR, RA, simprocAttr, TF]
  · simp only [↓wR, RA, simprocAttr, TF]
noncomputable def cloneStrF (x : List ByteArray × Unit) : Option AV := if x.1.length ≤ 16777216 then some ((r1 (codL codStr)).E true x.1) else none
theorem cloneStr_pure (x : List ByteArray × Unit) (r : AV) (h : cloneStrF x = some r) : CallPure PP 54 ((aC (codL codStr) a0).E x) r := by
  by_cases hc : x.1.length ≤ 16777216
  case neg => simp only [cloneStrF, if_neg hc] at h; cases h
  simp only [cloneStrF, if_pos hc] at h
  cases h
  obtain ⟨l, ⟨⟩⟩ := x
  by_cases hn : l = []
  · subst hn
    exact callPure_empty (sz := 1) fun v hv => callPure_wl (TabOk.nil PP) Tryz.func54 (by kernel_rfl) (by kernel_rfl) (by kernel_rfl) (Nat.le_of_ble_eq_true (by kernel_rfl)) (r1 (codL codStr)) true [] (cloneStr_wl0 v hv)
  · exact callPure_wl (TabOk.nil PP) Tryz.func54 (by kernel_rfl) (by kernel_rfl) (by kernel_rfl) (Nat.le_of_ble_eq_true (by kernel_rfl)) (r1 (codL codStr)) true l (cloneStr_wl l hn hc)
noncomputable abbrev cloneStr : Nat × Bool × (List AV → M AV) := (54, true, pureM (aC (codL codStr) a0) cloneStrF)
theorem cloneU8_wl (l : List UInt8) (hne : l ≠ []) (hl : l.length ≤ 16777216) : wl PP [] 0 (Tryz.f55.body.getD .skip) (retQ PP Tryz.f55.results.toList (fun r st => (r1 (codL codU8)).get true st.h r = some l)) (argsL 0 [(codL codU8).val false l]) (stK []) := by
  unfold Tryz.f55
  rw [codL_val]
  have hb : l.length ≤ 140737488355328 := by omega
  simp only [↓wR, RA, simprocAttr, TF, eqSlice_vm hne, hb]
theorem cloneU8_wl0 (v : Value) (hv : EmptyV v) : wl PP [] 0 (Tryz.f55.body.getD .skip) (retQ PP Tryz.f55.results.toList (fun r st => (r1 (codL codU8)).get true st.h r = some [])) (argsL 0 [.sc v]) (stK []) := by
  unfold Tryz.f55
  rcases hv with rfl | ⟨a, c, rfl⟩
  · simp only [↓wR, RA, simprocAttr, TF]
  · simp only [↓wR, RA, simprocAttr, TF]
noncomputable def cloneU8F (x : List UInt8 × Unit) : Option AV := if x.1.length ≤ 16777216 then some ((r1 (codL codU8)).E true x.1) else none
theorem cloneU8_pure (x : List UInt8 × Unit) (r : AV) (h : cloneU8F x = some r) : CallPure PP 55 ((aC (codL codU8) a0).E x) r := by
  by_cases hc : x.1.length ≤ 16777216
  case neg => simp only [cloneU8F, if_neg hc] at h; cases h
  simp only [cloneU8F, if_pos hc] at h
  cases h
  obtain ⟨l, ⟨⟩⟩ := x
  by_cases hn : l = []
  · subst hn
    exact callPure_empty (sz := 1) fun v hv => callPure_wl (TabOk.nil PP) Tryz.func55 (by kernel_rfl) (by kernel_rfl) (by kernel_rfl) (Nat.le_of_ble_eq_true (by kernel_rfl)) (r1 (codL codU8)) true [] (cloneU8_wl0 v hv)
  · exact callPure_wl (TabOk.nil PP) Tryz.func55 (by kernel_rfl) (by kernel_rfl) (by kernel_rfl) (Nat.le_of_ble_eq_true (by kernel_rfl)) (r1 (codL codU8)) true l (cloneU8_wl l hn hc)
noncomputable abbrev cloneU8 : Nat × Bool × (List AV → M AV) := (55, true, pureM (aC (codL codU8) a0) cloneU8F)
end Go.Proofs.YtcndpdkcagkdaabGreat
end
section
set_option linter.unusedSimpArgs false
set_option linter.unusedVariables false
namespace Go.Proofs.YtcndpdkcagkdaabGreat
open Go.Vm
set_option maxRecDepth 2000000
structure Shape where
  names : Int
  nums : Int
  size : Int
  texts : Int
  raw : Int
noncomputable def codShape : Cod Shape := codIso (codP (codInt .i64) (codP (codInt .i64) (codP (codInt .i64) (codP (codInt .i64) (codInt .i64))))) (fun s => (s.names, s.nums, s.size, s.texts, s.raw)) (fun p => ⟨p.1, p.2.1, p.2.2.1, p.2.2.2.1, p.2.2.2.2⟩) (fun _ => rfl) (fun _ => rfl)
theorem codShape_val (l : Bool) (s : Shape) : codShape.val l s = .agg [.sc (.int .i64 s.names), .sc (.int .i64 s.nums), .sc (.int .i64 s.size), .sc (.int .i64 s.texts), .sc (.int .i64 s.raw)] := id rfl
theorem codShape_dec (fr h) (a b c d e : Int) : codShape.decV fr h (.agg [.sc (.int .i64 a), .sc (.int .i64 b), .sc (.int .i64 c), .sc (.int .i64 d), .sc (.int .i64 e)]) = some ⟨a, b, c, d, e⟩ := rtF' codShape fr h ⟨a, b, c, d, e⟩
def shapeV (t : UInt16) : Shape :=
  if (t.toNat : Int) = 1 then ⟨0, 0, 0, 0, 4⟩ else if (t.toNat : Int) = 28 then ⟨0, 0, 0, 0, 16⟩ else if (t.toNat : Int) = 2 then ⟨1, 0, 0, 0, 0⟩ else if (t.toNat : Int) = 5 then ⟨1, 0, 0, 0, 0⟩ else if (t.toNat : Int) = 12 then ⟨1, 0, 0, 0, 0⟩
  else if (t.toNat : Int) = 6 then ⟨2, 5, 4, 0, 0⟩ else if (t.toNat : Int) = 15 then ⟨1, 1, 2, 0, 0⟩ else if (t.toNat : Int) = 33 then ⟨1, 3, 2, 0, 0⟩ else if (t.toNat : Int) = 16 then ⟨0, 0, 0, -1, 0⟩ else if (t.toNat : Int) = 257 then ⟨0, 1, 1, 2, 0⟩ else ⟨0, 0, 0, 0, -1⟩
theorem shaped_wl (t : UInt16) : wl PP [] 0 (Tryz.f65.body.getD .skip) (retQ PP Tryz.f65.results.toList (fun r st => (r1 codShape).get true st.h r = some (shapeV t))) (argsL 0 [codU16.val false t]) (stK []) := by
  unfold Tryz.f65
  unfold shapeV
  simp only [↓wR, RA, simprocAttr, TF]
  rw [boolK_eqI]; refine ⟨fun ⟨h0, e0⟩ => ?_, fun ⟨h0, e0⟩ => ?_⟩
  · simp only [↓wR, RA, simprocAttr, TF, h0]
    rw [if_pos e0]
    exact codShape_dec ..
  rw [if_neg e0]
  simp only [↓wR, RA, simprocAttr, TF, h0]
  rw [boolK_eqI]; refine ⟨fun ⟨h1, e1⟩ => ?_, fun ⟨h1, e1⟩ => ?_⟩
  · simp only [↓wR, RA, simprocAttr, TF, h1]
    rw [if_pos e1]
    exact codShape_dec ..
  rw [if_neg e1]
  simp only [↓wR, RA, simprocAttr, TF, h1]
  rw [boolK_eqI]; refine ⟨fun ⟨h2, e2⟩ => ?_, fun ⟨h2, e2⟩ => ?_⟩
  · simp only [↓wR, RA, simprocAttr, TF, h2]
    rw [if_pos e2]
    exact codShape_dec ..
  rw [if_neg e2]
  simp only [↓wR, RA, simprocAttr, TF, h2]
  rw [boolK_eqI]; refine ⟨fun ⟨h3, e3⟩ => ?_, fun ⟨h3, e3⟩ => ?_⟩
  · simp only [↓wR, RA, simprocAttr, TF, h3]
    rw [if_pos e3]
    exact codShape_dec ..
  rw [if_neg e3]
  simp only [↓wR, RA, simprocAttr, TF, h3]
  rw [boolK_eqI]; refine ⟨fun ⟨h4, e4⟩ => ?_, fun ⟨h4, e4⟩ => ?_⟩
  · simp only [↓wR, RA, simprocAttr, TF, h4]
    rw [if_pos e4]
    exact codShape_dec ..
  rw [if_neg e4]
  simp only [↓wR, RA, simprocAttr, TF, h4]
  rw [boolK_eqI]; refine ⟨fun ⟨h5, e5⟩ => ?_, fun ⟨h5, e5⟩ => ?_⟩
  · simp only [↓wR, RA, simprocAttr, TF, h5]
    rw [if_pos e5]
    exact codShape_dec ..
  rw [if_neg e5]
  simp only [↓wR, RA, simprocAttr, TF, h5]
  rw [boolK_eqI]; refine ⟨fun ⟨h6, e6⟩ => ?_, fun ⟨h6, e6⟩ => ?_⟩
  · simp only [↓wR, RA, simprocAttr, TF, h6]
    rw [if_pos e6]
    exact codShape_dec ..
  rw [if_neg e6]
  simp only [↓wR, RA, simprocAttr, TF, h6]
  rw [boolK_eqI]; refine ⟨fun ⟨h7, e7⟩ => ?_, fun ⟨h7, e7⟩ => ?_⟩
  · simp only [↓wR, RA, simprocAttr, TF, h7]
    rw [if_pos e7]
    exact codShape_dec ..
  rw [if_neg e7]
  simp only [↓wR, RA, simprocAttr, TF, h7]
  rw [boolK_eqI]; refine ⟨fun ⟨h8, e8⟩ => ?_, fun ⟨h8, e8⟩ => ?_⟩
  · simp only [↓wR, RA, simprocAttr, TF, h8]
    rw [if_pos e8]
    exact codShape_dec ..
  rw [if_neg e8]
  simp only [↓wR, RA, simprocAttr, TF, h8]
  rw [boolK_eqI]; refine ⟨fun ⟨h9, e9⟩ => ?_, fun ⟨h9, e9⟩ => ?_⟩
  · simp only [↓wR, RA, simprocAttr, TF, h9]
    rw [if_pos e9]
    exact codShape_dec ..
  rw [if_neg e9]
  simp only [↓wR, RA, simprocAttr, TF, h9]
  exact codShape_dec ..
noncomputable def shapedCF (x : UInt16 × Unit) : Option AV := some ((r1 codShape).E true (shapeV x.1))
set_option maxRecDepth 2000000 in
theorem shapedC_pure (x : UInt16 × Unit) (r : AV) (h : shapedCF x = some r) : CallPure PP 65 ((aC codU16 a0).E x) r := by
  cases h
  exact callPure_wl (TabOk.nil PP) Tryz.func65 (by kernel_rfl) (by kernel_rfl) (by kernel_rfl) (Nat.le_of_ble_eq_true (by kernel_rfl)) (r1 codShape) true (shapeV x.1) (shaped_wl x.1)
noncomputable abbrev shapedC : Nat × Bool × (List AV → M AV) := (65, true, pureM (aC codU16 a0) shapedCF)
def barredV (t : UInt16) : Bool := (t.toNat : Int) == 0 || (decide ((128 : Int) ≤ (t.toNat : Int)) && decide ((t.toNat : Int) ≤ 255))
theorem barred_wl (t : UInt16) : wl PP [] 0 (Tryz.f64.body.getD .skip) (retQ PP Tryz.f64.results.toList (fun r st => (r1 codBool).get true st.h r = some (barredV t))) (argsL 0 [codU16.val false t]) (stK []) := by
  unfold Tryz.f64
  unfold barredV
  simp only [↓wR, RA, simprocAttr, TF]
  rw [boolK_eqI]; refine ⟨fun ⟨h, e⟩ => ?_, fun ⟨h, e⟩ => ?_⟩
  · simp only [↓wR, RA, simprocAttr, TF, h]
  · simp only [↓wR, RA, simprocAttr, TF, h]
    rw [boolK_d]; refine ⟨fun h2 => ?_, fun h2 => ?_⟩
    · simp only [↓wR, RA, simprocAttr, TF, h2]
    · simp only [↓wR, RA, simprocAttr, TF, h2]
      rfl
noncomputable def barredF (x : UInt16 × Unit) : Option AV := some ((r1 codBool).E true (barredV x.1))
set_option maxRecDepth 2000000 in
theorem barred_pure (x : UInt16 × Unit) (r : AV) (h : barredF x = some r) : CallPure PP 64 ((aC codU16 a0).E x) r := by
  cases h
  exact callPure_wl (TabOk.nil PP) Tryz.func64 (by kernel_rfl) (by kernel_rfl) (by kernel_rfl) (Nat.le_of_ble_eq_true (by kernel_rfl)) (r1 codBool) true (barredV x.1) (barred_wl x.1)
noncomputable abbrev barred : Nat × Bool × (List AV → M AV) := (64, true, pureM (aC codU16 a0) barredF)
noncomputable def put32 (n : UInt32) : List UInt8 := [UInt8.ofNat (n.toNat / 16777216), UInt8.ofNat (n.toNat / 65536), UInt8.ofNat (n.toNat / 256), UInt8.ofNat n.toNat]
theorem put32_wl (n : UInt32) : wl PP [] 0 (Tryz.f89.body.getD .skip) (retQ PP Tryz.f89.results.toList (fun r st => (r1 (codL codU8)).get true st.h r = some (put32 n))) (argsL 0 [codU32.val false n]) (stK []) := by
  unfold Tryz.f89
  simp only [↓wR, RA, simprocAttr, TF]
  rfl
noncomputable def put32CF (x : UInt32 × Unit) : Option AV := some ((r1 (codL codU8)).E true (put32 x.1))
set_option maxRecDepth 2000000 in
theorem put32C_pure (x : UInt32 × Unit) (r : AV) (h : put32CF x = some r) : CallPure PP 89 ((aC codU32 a0).E x) r := by
  cases h
  exact callPure_wl (TabOk.nil PP) Tryz.func89 (by kernel_rfl) (by kernel_rfl) (by kernel_rfl) (Nat.le_of_ble_eq_true (by kernel_rfl)) (r1 (codL codU8)) true (put32 x.1) (put32_wl x.1)
noncomputable abbrev put32C : Nat × Bool × (List AV → M AV) := (89, true, pureM (aC codU32 a0) put32CF)
def tagC (c : UInt8) : Bool := decide (97 ≤ c.toNat ∧ c.toNat ≤ 122 ∨ 65 ≤ c.toNat ∧ c.toNat ≤ 90 ∨ 48 ≤ c.toNat ∧ c.toNat ≤ 57)
def tagV (s : ByteArray) : Bool := s.data.toList.all tagC && decide (1 ≤ s.size ∧ s.size ≤ 15)
theorem tag_wl (s : ByteArray) (hs : s.size ≤ 16777216) : wl PP [] 0 (Tryz.f86.body.getD .skip) (retQ PP Tryz.f86.results.toList (fun r st => (r1 codBool).get true st.h r = some (tagV s))) (argsL 0 [codStr.val false s]) (stK []) := by
  unfold Tryz.f86
  simp only [↓wR, RA, simprocAttr, TF]
  refine loop_of [0, 6, 7] (fun (i : Nat) => [.sc (.string s), .sc (.int .i64 s.size), .sc (.int .i64 i)]) (fun _ => []) (fun i => i ≤ s.size ∧ s.data.toList.all tagC = (s.data.toList.drop i).all tagC) (fun i => s.size - i) 0 ⟨Nat.zero_le _, rfl⟩ ?_ ?_ ?_
  · simp only [↓wR, RA, simprocAttr, TF] <;> rfl
  · simp only [↓wR, RA, simprocAttr, TF]
  rintro i ⟨hi, hR⟩
  simp only [↓wR, RA, simprocAttr, TF]
  rw [boolK_d]; refine ⟨fun h => ?_, fun h => ?_⟩
  · obtain ⟨c, hc⟩ : ∃ c, s.data.toList[i]? = some c := ⟨_, List.getElem?_eq_getElem (by simp; omega)⟩
    have hd := drop_at hc
    rw [hd, List.all_cons] at hR
    simp only [↓wR, RA, simprocAttr, TF, h, hc]; repeat (simp (disch := omega) only [wrapI64, dleN, dltN, dleI, dltI]; try simp only [↓wR, RA, simprocAttr, TF, h, hc])
    repeat' (rw [boolK_d]; refine ⟨fun h => ?_, fun h => ?_⟩ <;> simp only [↓wR, RA, simprocAttr, TF, h, hc])
    all_goals first
      | (have ht : tagC c = false := by (unfold tagC; rw [decide_eq_false_iff_not]; omega)
         rw [tagV, hR, ht]; rfl)
      | (have ht : tagC c = true := by (unfold tagC; rw [decide_eq_true_eq]; omega)
         refine ⟨i + 1, ⟨by omega, by rw [hR, ht]; simp⟩, by omega, by (first | rfl | trivial | omega | (simp (disch := omega) only [wrapI64]; first | done | rfl | (simp only [List.cons.injEq, accV_snoc, accO_snoc, List.length_append, List.length_cons, List.length_nil, List.map_append, List.map_cons, List.map_nil, and_true, true_and, and_self, AV.sc.injEq, AV.sl.injEq, AObj.row.injEq, Option.some.injEq, Value.int.injEq, Nat.zero_add]; first | done | rfl | omega)) | (simp only [List.cons.injEq, accV_snoc, accO_snoc, List.length_append, List.length_cons, List.length_nil, List.map_append, List.map_cons, List.map_nil, and_true, true_and, and_self, AV.sc.injEq, AV.sl.injEq, AObj.row.injEq, Option.some.injEq, Value.int.injEq, Nat.zero_add]; first | done | rfl | omega))⟩)
  · have hdn : s.data.toList.drop i = [] := List.drop_eq_nil_of_le (by simp; omega)
    rw [hdn, List.all_nil] at hR
    simp only [↓wR, RA, simprocAttr, TF, h]
    unfold tagV
    rw [hR]
    rw [boolK_d]; refine ⟨fun h1 => ?_, fun h1 => ?_⟩
    · simp only [↓wR, RA, simprocAttr, TF, h1]
      congr 1
      rw [Bool.eq_iff_iff]; simp; omega
    · simp only [↓wR, RA, simprocAttr, TF, h1]
      congr 1
      rw [Bool.eq_iff_iff]; simp; omega
noncomputable def tagFF (x : ByteArray × Unit) : Option AV := if x.1.size ≤ 16777216 then some ((r1 codBool).E true (tagV x.1)) else none
set_option maxRecDepth 2000000 in
theorem tagF_pure (x : ByteArray × Unit) (r : AV) (h : tagFF x = some r) : CallPure PP 86 ((aC codStr a0).E x) r := by
  by_cases hc : x.1.size ≤ 16777216
  case neg => simp only [tagFF, if_neg hc] at h; cases h
  simp only [tagFF, if_pos hc] at h
  cases h
  exact callPure_wl (TabOk.nil PP) Tryz.func86 (by kernel_rfl) (by kernel_rfl) (by kernel_rfl) (Nat.le_of_ble_eq_true (by kernel_rfl)) (r1 codBool) true (tagV x.1) (tag_wl x.1 hc)
noncomputable abbrev tagF : Nat × Bool × (List AV → M AV) := (86, true, pureM (aC codStr a0) tagFF)
end Go.Proofs.YtcndpdkcagkdaabGreat
end
section
set_option linter.unusedSimpArgs false
set_option linter.unusedVariables false
namespace Go.Proofs.YtcndpdkcagkdaabGreat
open Go.Vm
set_option maxRecDepth 2000000
def wtL {α : Type} (f : α → Nat) (l : List α) : Nat := l.foldr (fun x k => f x + k + 1) 0
def wtD (d : RData) : Nat := wtL nameSize d.names + d.nums.length + wtL ByteArray.size d.texts + d.raw.length
theorem wtL_mem {α : Type} {f : α → Nat} {l : List α} {x : α} (h : x ∈ l) : f x < wtL f l := by
  induction l with
  | nil => cases h
  | cons a l ih =>
    simp only [wtL, List.foldr_cons] at ih ⊢
    rcases List.mem_cons.1 h with rfl | h
    · omega
    · have := ih h; omega
theorem wtL_len {α : Type} (f : α → Nat) (l : List α) : l.length ≤ wtL f l := by
  induction l with
  | nil => exact Nat.le_refl _
  | cons a l ih => simp only [wtL, List.foldr_cons, List.length_cons] at ih ⊢; omega
def smallD (d : RData) : Prop := wtD d ≤ 16777216
instance (d : RData) : Decidable (smallD d) := inferInstanceAs (Decidable (_ ≤ _))
theorem smallD.name {d : RData} (h : smallD d) : ∀ n ∈ d.names, smallN n := fun n hn => by
  have h1 : nameSize n < wtL nameSize d.names := wtL_mem hn
  unfold smallD wtD at h; unfold smallN; omega
theorem smallD.text {d : RData} (h : smallD d) : ∀ s ∈ d.texts, s.size ≤ 16777216 := fun s hs => by
  have h1 : ByteArray.size s < wtL ByteArray.size d.texts := wtL_mem hs
  unfold smallD wtD at h; omega
theorem smallD.lens {d : RData} (h : smallD d) : d.names.length ≤ 16777216 ∧ d.nums.length ≤ 16777216 ∧ d.texts.length ≤ 16777216 ∧ d.raw.length ≤ 16777216 := by
  have h1 := wtL_len nameSize d.names
  have h2 := wtL_len ByteArray.size d.texts
  unfold smallD wtD at h; omega
noncomputable def mostV (s : Shape) : Int := IntKind.u32.wrap (1 * 2 ^ (if (8 * s.size).toNat ≤ 32 then (8 * s.size).toNat else 32))
noncomputable def fitsV (s : Shape) (t : UInt16) (d : RData) : Bool :=
  if (d.names.length : Int) ≠ s.names ∨ (d.nums.length : Int) ≠ s.nums ∨ (0 ≤ s.raw ∧ (d.raw.length : Int) ≠ s.raw) then false
  else if s.size < 4 ∧ (d.nums.any fun n => decide (mostV s ≤ (n.toNat : Int))) = true then false
  else if (t.toNat : Int) = 257 then decide (d.texts.length = 2) && tagV (d.texts.headD ⟨#[]⟩)
  else if s.texts = 0 then decide (d.texts.length = 0)
  else decide (0 < d.texts.length) && !(d.texts.any fun x => decide (255 < x.size))
noncomputable def fitsR (s : Shape) (t : UInt16) (d : RData) : Bool :=
  if s.size < 4 ∧ (d.nums.any fun n => decide (mostV s ≤ (n.toNat : Int))) = true then false
  else if (t.toNat : Int) = 257 then decide (d.texts.length = 2) && tagV (d.texts.headD ⟨#[]⟩)
  else if s.texts = 0 then decide (d.texts.length = 0)
  else decide (0 < d.texts.length) && !(d.texts.any fun x => decide (255 < x.size))
theorem fits_wl (s : Shape) (t : UInt16) (d : RData) (hs : 0 ≤ s.size ∧ s.size ≤ 4) (hd : smallD d) : wl PP [tagF] 0 (Tryz.f66.body.getD .skip) (retQ PP Tryz.f66.results.toList (fun r st => (r1 codBool).get true st.h r = some (fitsV s t d))) (argsL 0 [codShape.val false s, codU16.val false t, codData.val false d]) (stK []) := by
  unfold Tryz.f66
  obtain ⟨l1, l2, l3, l4⟩ := hd.lens
  simp only [codShape_val, codData_val, codName_val]
  simp only [↓wR, RA, simprocAttr, TF]
  rw [boolK_neI]; refine ⟨fun ⟨h, e⟩ => ?_, fun ⟨h, e⟩ => ?_⟩
  · have hv : fitsV s t d = false := if_pos (.inl e)
    simp only [↓wR, RA, simprocAttr, TF, h, hv]
  simp only [↓wR, RA, simprocAttr, TF, h]
  rw [boolK_neI]; refine ⟨fun ⟨h2, e2⟩ => ?_, fun ⟨h2, e2⟩ => ?_⟩
  · have hv : fitsV s t d = false := if_pos (.inr (.inl e2))
    simp only [↓wR, RA, simprocAttr, TF, h2, hv]
  simp only [↓wR, RA, simprocAttr, TF, h2]
  have hraw : ¬ (0 ≤ s.raw ∧ (d.raw.length : Int) ≠ s.raw) → fitsV s t d = fitsR s t d := fun hr => if_neg (fun h => by
    rcases h with h | h | h
    · exact h e
    · exact h e2
    · exact hr h)
  rw [boolK_d]; refine ⟨fun h3 => ?_, fun h3 => ?_⟩
  simp only [↓wR, RA, simprocAttr, TF, h3]
  rw [boolK_neI]; refine ⟨fun ⟨h4, e4⟩ => ?_, fun ⟨h4, e4⟩ => ?_⟩
  have hv : fitsV s t d = false := if_pos (.inr (.inr ⟨h3, e4⟩))
  simp only [↓wR, RA, simprocAttr, TF, h4, hv]
  rw [hraw (fun q => q.2 e4)]
  simp only [↓wR, RA, simprocAttr, TF, h4]
  rotate_left
  rw [hraw (fun q => h3 q.1)]
  simp only [↓wR, RA, simprocAttr, TF, h3]
  all_goals
    clear hraw
    refine loop_of [1, 3, 5, 37, 38, 39] (fun (i : Nat) => [.sc (.int .u16 t.toNat), .ptr 0 0, .ptr 1 0, .vl false 1 (d.nums.map (codU32.val false)), .sc (.int .i64 d.nums.length), .sc (.int .i64 i)]) (fun _ => [some (.row [.sc (.int .i64 s.names), .sc (.int .i64 s.nums), .sc (.int .i64 s.size), .sc (.int .i64 s.texts), .sc (.int .i64 s.raw)] 0 2 115), some (.row [.vl false 1 (d.names.map (codName.val false)), .vl false 1 (d.nums.map (codU32.val false)), .vl false 1 (d.texts.map (codStr.val false)), .vl false 1 (d.raw.map (codU8.val false))] 0 2 66)]) (fun i => i ≤ d.nums.length ∧ (s.size < 4 → (d.nums.any fun n => decide (mostV s ≤ (n.toNat : Int))) = ((d.nums.drop i).any fun n => decide (mostV s ≤ (n.toNat : Int))))) (fun i => d.nums.length - i) 0 ⟨Nat.zero_le _, fun _ => rfl⟩ (by simp only [↓wR, RA, simprocAttr, TF] <;> rfl) (by simp only [↓wR, RA, simprocAttr, TF] <;> rfl) ?_
    clear h h2 e e2
    rintro i ⟨hi, hR⟩
    simp only [↓wR, RA, simprocAttr, TF]
    rw [boolK_d]; refine ⟨fun h => ?_, fun h => ?_⟩
    · obtain ⟨c, hc, hd1, hlt⟩ := at_lt (decide_eq_true h)
      rw [hd1, List.any_cons] at hR
      simp only [↓wR, RA, simprocAttr, TF, h, hc]
      rw [boolK_d]; refine ⟨fun h5 => ?_, fun h5 => ?_⟩
      · have hR := hR h5
        have h80 : (0 : Int) ≤ 8 * s.size := by omega
        simp only [↓wR, RA, simprocAttr, TF, h5, h80]; repeat (simp (disch := omega) only [wrapI64, dleN, dltN, dleI, dltI]; try simp only [↓wR, RA, simprocAttr, TF, h5, h80])
        rw [boolK_d]; refine ⟨fun h6 => ?_, fun h6 => ?_⟩
        · have hv : fitsR s t d = false := by
            rw [fitsR, if_pos ⟨h5, by rw [hR, decide_eq_true (show mostV s ≤ (c.toNat : Int) from h6)]; rfl⟩]
          simp only [↓wR, RA, simprocAttr, TF, h6, hv]
        · simp only [↓wR, RA, simprocAttr, TF, h6]; repeat (simp (disch := omega) only [wrapI64, dleN, dltN, dleI, dltI]; try simp only [↓wR, RA, simprocAttr, TF, h6])
          refine ⟨i + 1, ⟨hlt, fun _ => ?_⟩, by omega, by (first | rfl | trivial | omega | (simp (disch := omega) only [wrapI64]; first | done | rfl | (simp only [List.cons.injEq, accV_snoc, accO_snoc, List.length_append, List.length_cons, List.length_nil, List.map_append, List.map_cons, List.map_nil, and_true, true_and, and_self, AV.sc.injEq, AV.sl.injEq, AObj.row.injEq, Option.some.injEq, Value.int.injEq, Nat.zero_add]; first | done | rfl | omega)) | (simp only [List.cons.injEq, accV_snoc, accO_snoc, List.length_append, List.length_cons, List.length_nil, List.map_append, List.map_cons, List.map_nil, and_true, true_and, and_self, AV.sc.injEq, AV.sl.injEq, AObj.row.injEq, Option.some.injEq, Value.int.injEq, Nat.zero_add]; first | done | rfl | omega))⟩
          rw [hR, decide_eq_false (show ¬ mostV s ≤ (c.toNat : Int) from h6), Bool.false_or]
      · simp only [↓wR, RA, simprocAttr, TF, h5]; repeat (simp (disch := omega) only [wrapI64, dleN, dltN, dleI, dltI]; try simp only [↓wR, RA, simprocAttr, TF, h5])
        exact ⟨i + 1, ⟨hlt, fun h => h.elim⟩, by omega, by (first | rfl | trivial | omega | (simp (disch := omega) only [wrapI64]; first | done | rfl | (simp only [List.cons.injEq, accV_snoc, accO_snoc, List.length_append, List.length_cons, List.length_nil, List.map_append, List.map_cons, List.map_nil, and_true, true_and, and_self, AV.sc.injEq, AV.sl.injEq, AObj.row.injEq, Option.some.injEq, Value.int.injEq, Nat.zero_add]; first | done | rfl | omega)) | (simp only [List.cons.injEq, accV_snoc, accO_snoc, List.length_append, List.length_cons, List.length_nil, List.map_append, List.map_cons, List.map_nil, and_true, true_and, and_self, AV.sc.injEq, AV.sl.injEq, AObj.row.injEq, Option.some.injEq, Value.int.injEq, Nat.zero_add]; first | done | rfl | omega))⟩
    · rw [at_ge (decide_eq_false h), List.any_nil] at hR
      have hr : fitsR s t d = if (t.toNat : Int) = 257 then decide (d.texts.length = 2) && tagV (d.texts.headD ⟨#[]⟩) else if s.texts = 0 then decide (d.texts.length = 0) else decide (0 < d.texts.length) && !(d.texts.any fun x => decide (255 < x.size)) := by
        rw [fitsR, if_neg]; rintro ⟨q1, q2⟩; rw [hR q1] at q2; cases q2
      simp only [↓wR, RA, simprocAttr, TF, h]
      rw [boolK_eqI]; refine ⟨fun ⟨h6, e6⟩ => ?_, fun ⟨h6, e6⟩ => ?_⟩
      · rw [if_pos e6] at hr
        simp only [↓wR, RA, simprocAttr, TF, h6]
        rw [boolK_eqI]; refine ⟨fun ⟨h7, e7⟩ => ?_, fun ⟨h7, e7⟩ => ?_⟩
        · obtain ⟨c, hc⟩ : ∃ c, d.texts[0]? = some c := ⟨_, List.getElem?_eq_getElem (by omega)⟩
          have hh : d.texts.headD ⟨#[]⟩ = c := by
            cases ht : d.texts with
            | nil => rw [ht] at hc; cases hc
            | cons a l => rw [ht] at hc; simpa using hc
          rw [hh, decide_eq_true (show d.texts.length = 2 by omega)] at hr
          simp only [↓wR, RA, simprocAttr, TF, h7, hc, tagFF, hd.text c (List.mem_of_getElem? hc)]
          rw [hr]; rfl
        · simp only [↓wR, RA, simprocAttr, TF, h7]
          rw [hr, decide_eq_false (show ¬ d.texts.length = 2 by omega)]; rfl
      · rw [if_neg e6] at hr
        simp only [↓wR, RA, simprocAttr, TF, h6]
        rw [boolK_eqI]; refine ⟨fun ⟨h7, e7⟩ => ?_, fun ⟨h7, e7⟩ => ?_⟩
        · rw [if_pos e7] at hr
          simp only [↓wR, RA, simprocAttr, TF, h7]
          rw [hr]; congr 1
          rw [Bool.eq_iff_iff]; simp
        · rw [if_neg e7] at hr
          simp only [↓wR, RA, simprocAttr, TF, h7]
          rw [boolK_d]; refine ⟨fun h8 => ?_, fun h8 => ?_⟩
          · simp only [↓wR, RA, simprocAttr, TF, h8]
            refine callAt_of_wl (T := []) (TabOk.nil PP) mixed Tryz.func87 rfl (by kernel_rfl) (by kernel_rfl) (by kernel_rfl) (by kernel_rfl) ?_; unfold Tryz.f87
            simp only [↓wR, RA, simprocAttr, TF]
            refine callAt_of_wl (T := []) (TabOk.nil PP) mixed Tryz.func100 rfl (by kernel_rfl) (by kernel_rfl) (by kernel_rfl) (by kernel_rfl) ?_; unfold Tryz.f100
            simp only [↓wR, RA, simprocAttr, TF]
            refine loop_of [0, 1, 7, 8] (fun (i : Nat) => [.vl false 1 (d.texts.map (codStr.val false)), .sc (.func (.func 88) #[] #[]), .sc (.int .i64 d.texts.length), .sc (.int .i64 i)]) (fun _ => [some (.row [.sc (.int .i64 s.names), .sc (.int .i64 s.nums), .sc (.int .i64 s.size), .sc (.int .i64 s.texts), .sc (.int .i64 s.raw)] 0 2 115), some (.row [.vl false 1 (d.names.map (codName.val false)), .vl false 1 (d.nums.map (codU32.val false)), .vl false 1 (d.texts.map (codStr.val false)), .vl false 1 (d.raw.map (codU8.val false))] 0 2 66)]) (fun i => i ≤ d.texts.length ∧ (d.texts.any fun x => decide (255 < x.size)) = ((d.texts.drop i).any fun x => decide (255 < x.size))) (fun i => d.texts.length - i) 0 ⟨Nat.zero_le _, rfl⟩ (by simp only [↓wR, RA, simprocAttr, TF] <;> rfl) (by simp only [↓wR, RA, simprocAttr, TF] <;> rfl) ?_
            rintro k ⟨hk, hK⟩
            simp only [↓wR, RA, simprocAttr, TF]
            rw [boolK_d]; refine ⟨fun h9 => ?_, fun h9 => ?_⟩
            · obtain ⟨c, hc, hd1, hlt⟩ := at_lt (decide_eq_true h9)
              rw [hd1, List.any_cons] at hK
              simp only [↓wR, RA, simprocAttr, TF, h9, hc]; repeat (simp (disch := omega) only [wrapI64, dleN, dltN, dleI, dltI]; try simp only [↓wR, RA, simprocAttr, TF, h9, hc])
              refine callAt_of_wl (T := []) (TabOk.nil PP) mixed Tryz.func88 rfl (by kernel_rfl) (by kernel_rfl) (by kernel_rfl) (by kernel_rfl) ?_; unfold Tryz.f88
              simp only [↓wR, RA, simprocAttr, TF]
              rw [boolK_d]; refine ⟨fun h10 => ?_, fun h10 => ?_⟩
              · simp only [↓wR, RA, simprocAttr, TF, h10]
                rw [hr, hK, decide_eq_true (show 0 < d.texts.length by omega), decide_eq_true (show 255 < c.size by omega)]; rfl
              · simp only [↓wR, RA, simprocAttr, TF, h10]; repeat (simp (disch := omega) only [wrapI64, dleN, dltN, dleI, dltI]; try simp only [↓wR, RA, simprocAttr, TF, h10])
                refine ⟨k + 1, ⟨hlt, ?_⟩, by omega, by (first | rfl | trivial | omega | (simp (disch := omega) only [wrapI64]; first | done | rfl | (simp only [List.cons.injEq, accV_snoc, accO_snoc, List.length_append, List.length_cons, List.length_nil, List.map_append, List.map_cons, List.map_nil, and_true, true_and, and_self, AV.sc.injEq, AV.sl.injEq, AObj.row.injEq, Option.some.injEq, Value.int.injEq, Nat.zero_add]; first | done | rfl | omega)) | (simp only [List.cons.injEq, accV_snoc, accO_snoc, List.length_append, List.length_cons, List.length_nil, List.map_append, List.map_cons, List.map_nil, and_true, true_and, and_self, AV.sc.injEq, AV.sl.injEq, AObj.row.injEq, Option.some.injEq, Value.int.injEq, Nat.zero_add]; first | done | rfl | omega))⟩
                rw [hK, decide_eq_false (show ¬ 255 < c.size by omega), Bool.false_or]
            · rw [at_ge (decide_eq_false h9), List.any_nil] at hK
              simp only [↓wR, RA, simprocAttr, TF, h9]
              rw [hr, hK, decide_eq_true (show 0 < d.texts.length by omega)]; rfl
          · simp only [↓wR, RA, simprocAttr, TF, h8]
            rw [hr, decide_eq_false (show ¬ 0 < d.texts.length by omega)]; rfl
theorem shape_size (t : UInt16) : 0 ≤ (shapeV t).size ∧ (shapeV t).size ≤ 4 := by
  unfold shapeV
  repeat' split
  all_goals simp
noncomputable def fitsCF (x : Shape × UInt16 × RData × Unit) : Option AV := if (0 ≤ x.1.size ∧ x.1.size ≤ 4) ∧ smallD x.2.2.1 then some ((r1 codBool).E true (fitsV x.1 x.2.1 x.2.2.1)) else none
set_option maxRecDepth 2000000 in
theorem fitsC_pure (x : Shape × UInt16 × RData × Unit) (r : AV) (h : fitsCF x = some r) : CallPure PP 66 ((aC codShape (aC codU16 (aC codData a0))).E x) r := by
  by_cases hc : (0 ≤ x.1.size ∧ x.1.size ≤ 4) ∧ smallD x.2.2.1
  case neg => simp only [fitsCF, if_neg hc] at h; cases h
  simp only [fitsCF, if_pos hc] at h
  cases h
  exact callPure_wl (TabOk.cons (pure_entry tagF_pure) (TabOk.nil PP)) Tryz.func66 (by kernel_rfl) (by kernel_rfl) (by kernel_rfl) (Nat.le_of_ble_eq_true (by kernel_rfl)) (r1 codBool) true (fitsV x.1 x.2.1 x.2.2.1) (fits_wl x.1 x.2.1 x.2.2.1 hc.1 hc.2)
noncomputable abbrev fitsC : Nat × Bool × (List AV → M AV) := (66, true, pureM (aC codShape (aC codU16 (aC codData a0))) fitsCF)
end Go.Proofs.YtcndpdkcagkdaabGreat
end
section
set_option linter.unusedSimpArgs false
set_option linter.unusedVariables false
namespace Go.Proofs.YtcndpdkcagkdaabGreat
open Go.Vm
set_option maxRecDepth 2000000
theorem flat_at {α : Type} {l : List (List α)} {i : Nat} {c : List α} (h : l[i]? = some c) : (l.drop i).flatten = c ++ (l.drop (i + 1)).flatten := by rw [drop_at h]; rfl
theorem flat_le {α : Type} {l : List (List α)} {c : List α} (h : c ∈ l) : c.length ≤ l.flatten.length := by
  induction l with
  | nil => cases h
  | cons a l ih =>
    simp only [List.flatten_cons, List.length_append]
    rcases List.mem_cons.1 h with rfl | h
    · omega
    · have := ih h; omega
theorem concat_wl (l : List (List UInt8)) (hl : l.length ≤ 16777216) (hf : l.flatten.length ≤ 134217728) : wl PP [] 0 (Tryz.f91.body.getD .skip) (retQ PP Tryz.f91.results.toList (fun r st => (r1 (codL codU8)).get true st.h r = some l.flatten)) (argsL 0 [(codL (codL codU8)).val false l]) (stK []) := by
  unfold Tryz.f91
  rw [codL_val]
  simp only [↓wR, RA, simprocAttr, TF]
  refine loop_of [0, 3, 9, 10, 11] (fun (x : Nat × Nat) => [.vl false 1 (l.map ((codL codU8).val false)), .sc (.int .i64 x.2), .vl false 1 (l.map ((codL codU8).val false)), .sc (.int .i64 l.length), .sc (.int .i64 x.1)]) (fun _ => []) (fun x => x.1 ≤ l.length ∧ x.2 + (l.drop x.1).flatten.length = l.flatten.length) (fun x => l.length - x.1) (0, 0) ⟨Nat.zero_le _, by simp⟩ (by simp only [↓wR, RA, simprocAttr, TF] <;> rfl) (by simp only [↓wR, RA, simprocAttr, TF] <;> rfl) ?_
  rintro ⟨i, k⟩ ⟨hi, hk⟩
  simp only at hi hk
  simp only [↓wR, RA, simprocAttr, TF]
  rw [boolK_d]; refine ⟨fun h => ?_, fun h => ?_⟩
  · obtain ⟨c, hc, hd1, hlt⟩ := at_lt (decide_eq_true h)
    rw [flat_at hc, List.length_append] at hk
    simp only [↓wR, RA, simprocAttr, TF, h, hc]; repeat (simp (disch := omega) only [wrapI64, dleN, dltN, dleI, dltI]; try simp only [↓wR, RA, simprocAttr, TF, h, hc])
    rw [boolK_d]; refine ⟨fun h1 => ?_, fun h1 => ?_⟩
    · exfalso; omega
    · simp only [↓wR, RA, simprocAttr, TF, h1]; repeat (simp (disch := omega) only [wrapI64, dleN, dltN, dleI, dltI]; try simp only [↓wR, RA, simprocAttr, TF, h1])
      exact ⟨(i + 1, k + c.length), ⟨hlt, by show k + c.length + (l.drop (i + 1)).flatten.length = _; omega⟩, by simp; omega, by simp⟩
  · rw [at_ge (decide_eq_false h)] at hk
    have hk : k = l.flatten.length := by simpa using hk
    subst hk
    simp only [↓wR, RA, simprocAttr, TF, h]
    refine callAt_of_wl (T := []) (TabOk.nil PP) mixed Tryz.func101 rfl (by kernel_rfl) (by kernel_rfl) (by kernel_rfl) (by kernel_rfl) ?_; unfold Tryz.f101
    simp only [↓wR, RA, simprocAttr, TF]
    rw [boolK_d]; refine ⟨fun h1 => ?_, fun h1 => ?_⟩
    · exfalso; omega
    simp only [↓wR, RA, simprocAttr, TF, h1]; repeat (simp (disch := omega) only [wrapI64, dleN, dltN, dleI, dltI]; try simp only [↓wR, RA, simprocAttr, TF, h1])
    rw [boolK_d]; refine ⟨fun h2 => ?_, fun h2 => ?_⟩
    · have hpos : 0 < l.flatten.length := by omega
      simp only [↓wR, RA, simprocAttr, TF, h2, hpos]; repeat (simp (disch := omega) only [wrapI64, dleN, dltN, dleI, dltI]; try simp only [↓wR, RA, simprocAttr, TF, h2, hpos])
      refine loop_of [25, 26, 27, 6] (fun (x : Nat × Nat × List UInt8) => [.vl false 1 (l.map ((codL codU8).val false)), .sc (.int .i64 l.length), .sc (.int .i64 x.1), .sl 0 0 x.2.1 1]) (fun x => [some (.row (x.2.2.map (codU8.val false)) 0 0 5)]) (fun x => x.1 ≤ l.length ∧ (x.2.1 = x.2.2.length ∨ x.2.1 = 0) ∧ x.2.2.take x.2.1 ++ (l.drop x.1).flatten = l.flatten) (fun x => l.length - x.1) (0, 0, List.replicate l.flatten.length 0) ⟨Nat.zero_le _, .inr rfl, rfl⟩ (by simp only [↓wR, RA, simprocAttr, TF] <;> rfl) (by simp only [↓wR, RA, simprocAttr, TF] <;> rfl) ?_
      rintro ⟨k, m, r⟩ ⟨hk1, hk0, hk3⟩
      simp only at hk1 hk0 hk3
      have hk2 : m ≤ r.length := by omega
      simp only [↓wR, RA, simprocAttr, TF]
      rw [boolK_d]; refine ⟨fun h3 => ?_, fun h3 => ?_⟩
      · obtain ⟨c, hc, hd1, hlt⟩ := at_lt (decide_eq_true h3)
        rw [flat_at hc] at hk3
        have hm : m + c.length ≤ 134217728 := by
          have := congrArg List.length hk3
          simp only [List.length_append, List.length_take] at this
          omega
        simp only [↓wR, RA, simprocAttr, TF, h3, hc, hk2]; repeat (simp (disch := omega) only [wrapI64, dleN, dltN, dleI, dltI]; try simp only [↓wR, RA, simprocAttr, TF, h3, hc, hk2])
        have hl1 : (r.take m ++ c).length = m + c.length := by simp [Nat.min_eq_left hk2]
        refine ⟨(k + 1, m + c.length, r.take m ++ c), ⟨hlt, .inl hl1.symm, ?_⟩, by simp; omega, by simp, by simp⟩
        show (r.take m ++ c).take (m + c.length) ++ _ = _
        rw [List.take_of_length_le (Nat.le_of_eq hl1), List.append_assoc]
        exact hk3
      · rw [at_ge (decide_eq_false h3)] at hk3
        have hmr : m = r.length := by
          have := congrArg List.length hk3
          simp only [List.length_append, List.length_take, List.flatten_nil, List.length_nil] at this
          omega
        subst hmr
        have hr : r = l.flatten := by simpa using hk3
        subst hr
        simp only [↓wR, RA, simprocAttr, TF, h3, hk2]; repeat (simp (disch := omega) only [wrapI64, dleN, dltN, dleI, dltI]; try simp only [↓wR, RA, simprocAttr, TF, h3, hk2])
    · have hnil : l.flatten = [] := List.eq_nil_of_length_eq_zero (by omega)
      simp only [↓wR, RA, simprocAttr, TF, h2]; repeat (simp (disch := omega) only [wrapI64, dleN, dltN, dleI, dltI]; try simp only [↓wR, RA, simprocAttr, TF, h2])
      refine loop_of [25, 26, 27, 6] (fun (x : Nat) => [.vl false 1 (l.map ((codL codU8).val false)), .sc (.int .i64 l.length), .sc (.int .i64 x), .sc (.slice none 0 0)]) (fun _ => []) (fun x => x ≤ l.length) (fun x => l.length - x) 0 (Nat.zero_le _) (by simp only [↓wR, RA, simprocAttr, TF] <;> rfl) (by simp only [↓wR, RA, simprocAttr, TF] <;> rfl) ?_
      intro k hk1
      simp only [↓wR, RA, simprocAttr, TF]
      rw [boolK_d]; refine ⟨fun h3 => ?_, fun h3 => ?_⟩
      · obtain ⟨c, hc, hd1, hlt⟩ := at_lt (decide_eq_true h3)
        have hc0 : c = [] := List.eq_nil_of_length_eq_zero (by have := flat_le (List.mem_of_getElem? hc); rw [hnil] at this; simpa using this)
        subst hc0
        simp only [↓wR, RA, simprocAttr, TF, h3, hc]; repeat (simp (disch := omega) only [wrapI64, dleN, dltN, dleI, dltI]; try simp only [↓wR, RA, simprocAttr, TF, h3, hc])
        refine ⟨k + 1, hlt, ?_⟩
        first | (refine ⟨by simp; omega, ?_⟩; simp) | (simp; omega)
      · simp only [↓wR, RA, simprocAttr, TF, h3]; repeat (simp (disch := omega) only [wrapI64, dleN, dltN, dleI, dltI]; try simp only [↓wR, RA, simprocAttr, TF, h3])
        rw [hnil]
noncomputable def concatBF (x : List (List UInt8) × Unit) : Option AV := if x.1.length ≤ 16777216 ∧ x.1.flatten.length ≤ 134217728 then some ((r1 (codL codU8)).E true (x.1.flatten)) else none
set_option maxRecDepth 2000000 in
theorem concatB_pure (x : List (List UInt8) × Unit) (r : AV) (h : concatBF x = some r) : CallPure PP 91 ((aC (codL (codL codU8)) a0).E x) r := by
  by_cases hc : x.1.length ≤ 16777216 ∧ x.1.flatten.length ≤ 134217728
  case neg => simp only [concatBF, if_neg hc] at h; cases h
  simp only [concatBF, if_pos hc] at h
  cases h
  exact callPure_wl (TabOk.nil PP) Tryz.func91 (by kernel_rfl) (by kernel_rfl) (by kernel_rfl) (Nat.le_of_ble_eq_true (by kernel_rfl)) (r1 (codL codU8)) true (x.1.flatten) (concat_wl x.1 hc.1 hc.2)
noncomputable abbrev concatB : Nat × Bool × (List AV → M AV) := (91, true, pureM (aC (codL (codL codU8)) a0) concatBF)
end Go.Proofs.YtcndpdkcagkdaabGreat
end
