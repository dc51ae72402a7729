/- A piece of the proof. Proved: where the arguments are together of bulk at most 1048576, the law WorldOwns returns true (a zone answers for its own names, zones above refer), and what it was given reads afterwards as it did before. No other conditions. -/
import Derived.WalkKit
import Derived.CallsIn
import Derived.RangeFuncIn
import Derived.RangeFuncLeaves
import Derived.Orders
import Derived.OrdersIn
import Derived.Scope
import Derived.RangeFuncOwn
import Derived.Stop.SameAnswer
import Derived.Laws.Externs
import Derived.Lib.Bytealg
import Derived.ProofKit
import Derived.OpenShut
import Derived.ReadAgain
import Derived.Deep.Slices
import Derived.ChangeSame
import Derived.Test.YtidomogemfchpaaGreatProg
import Derived.KernelRfl
import Derived.Test.YtidomogemfchpaaGreatRows
import Derived.Maps.RangeRun
import Derived.JoinedCond
import Derived.Test.YtidomogemfchpaaGreatO1
set_option linter.unusedSimpArgs false
set_option linter.unusedVariables false
namespace Go.Vm
noncomputable section
structure zg (w w' : World) : Prop where
  size : w.heap.size ≤ w'.heap.size
  heap : ∀ b, b < w.heap.size → w'.heap[b]? = w.heap[b]?
  os : w'.os = w.os
  tape : w'.tape = w.tape
  output : w'.output = w.output
def aau (K : Nat → Nat → Prop) (w w' : World) : Nat → Nat → Prop := fun b j => K b j ∨ (w.heap.size ≤ b ∧ b < w'.heap.size)
def ajc (P : Program) (f : Nat) (vs : List Value) (w : World) (X : Value → World → Prop) : Prop :=
  (∃ v, (callFunc f vs.toArray).run P w = .ok (.value v) w ∧ X v w) ∨
  ((callFunc f vs.toArray).run P w = .ok (.enter f vs.toArray) w ∧ Calls P f vs.toArray w (fun e w' => ∃ v, e = .returned v ∧ X v w'))
def bf (P : Program) (f : Nat) (args : List AV) (r : AV) : Prop :=
  ∀ (K : Nat → Nat → Prop) (w : World) (vs : List Value), (∀ b j, K b j → b < w.heap.size) → bm (gK w.heap.size K) w args vs →
    ajc P f vs w (fun v w' => zg w w' ∧ Rel (gK w.heap.size (aau K w w')) w' r v)
theorem Vq {P : Program} {g w nt} {L : SL} {tmps : Array Value} {st : St} (hok : Ok g st.h w) (hs : ec g w nt L tmps) : ∀ (rs : List ResultVar) (l : List AV), p0 P L st rs = some l →
    ∃ vs, (rs.mapM (vi tmps)).run P w = .ok vs w ∧ bm g w l vs := by
  intro rs
  induction rs with
  | nil => intro l h; simp [p0] at h; subst h; exact ⟨[], by simp, bm.nil _ _⟩
  | cons r rs ih =>
    intro l h
    cases r with
    | tmp t =>
      simp only [p0, Option.map_eq_some_iff] at h
      obtain ⟨l', h1, rfl⟩ := h
      obtain ⟨vs, h2, h3⟩ := ih l' h1
      refine ⟨tmps.getD t undef :: vs, ?_, bm.cons (hs.2 t) h3⟩
      simp only [List.mapM_cons, Sem.run_bind, vi, Sem.run_pure, Result.andThen_ok, h2]
    | cell c t =>
      simp only [p0] at h
      split at h
      · rename_i v st' hl
        rw [Option.map_eq_some_iff] at h
        obtain ⟨l', h1, rfl⟩ := h
        obtain ⟨vs, h2, h3⟩ := ih l' h1
        have hrel := hs.2 c
        have hptr : ∃ ad, tmps.getD c undef = .pointer (some ad) := by
          generalize lk L c = x at hrel hl
          generalize tmps.getD c undef = v at hrel
          cases hrel <;> first | exact ⟨_, rfl⟩ | cases hl
        obtain ⟨ad, had⟩ := hptr
        obtain ⟨u, h4, h5⟩ := al9 (P := P) hok hrel hl had
        refine ⟨u :: vs, ?_, bm.cons h5 h3⟩
        have h6 : (vi tmps (.cell c t)).run P w = .ok u w := by simp [vi, had, asAddr, h4]
        simp only [List.mapM_cons, Sem.run_bind, h6, Result.andThen_ok, h2]
        rfl
      · cases h
theorem Vt {P : Program} {g w} {fn : Func} {tmps : Array Value} {l : List AV} {vs : List Value} (h : (fn.results.toList.mapM (vi tmps)).run P w = .ok vs w) (q4 : bm g w l vs) :
    ∃ v, (results fn tmps).run P w = .ok v w ∧ Rel g w (pack l) v := by
  have hmap : (fn.results.mapM (vi tmps)).run P w = .ok vs.toArray w := by
    rw [Array.mapM_eq_mapM_toList]
    simp [h]
  rw [akc]
  simp only [Sem.run_bind, hmap, Result.andThen_ok, Sem.run_pure]
  refine ⟨_, rfl, ?_⟩
  match l, vs, q4 with
  | [a1], [v1], q4 => simpa [pack] using q4.head
  | [], [], q4 => simp [pack]; exact .fh _ _ rfl (fun i a v h _ => by simp at h)
  | a1 :: a2 :: l, v1 :: v2 :: vs, q4 =>
    simp [pack]
    exact .fh _ _ (by have := q4.1; simp at this ⊢; omega) (fun i a v h1 h2 => q4.2 i a v h1 (by simpa using h2))
  | [], v :: vs, q4 => have := q4.1; simp at this
  | a :: l, [], q4 => have := q4.1; simp at this
  | [a1], v1 :: v2 :: vs, q4 => have := q4.1; simp at this
  | a1 :: a2 :: l, [v1], q4 => have := q4.1; simp at this
theorem V0 {P : Program} {T : ed} (hT : ak P T) (hm : P.follows .mixedOrders = true) {f : Nat} {fn : Func} {body : Code} (hf : P.funcs[f]? = some fn) (hb : fn.body = some body) (he : kz P f = true) (hs : dz fn.ntmps body = true)
    {args : List AV} (hl : args.length ≤ fn.ntmps) {ρ : Type} (R : RC ρ) (fr : Bool) (x : ρ)
    (h : wl P T 0 body (dj P fn.results.toList (fun r st => R.get fr st.h r = some x)) (bw 0 args) (bp [])) : bf P f args (R.E fr x) := by
  intro K w vs hK hrel
  refine .inr ⟨tc he _ _, xj (ro := none) (n := 0) (callsIn_of_wp_marks hf hb trivial ?_)⟩
  let B : fq := { b0 := w.heap.size, w, K, O := fun _ => False, az := 0, pb := fun _ => none, n0 := w.heap.size }
  have hcur : ff B (gK w.heap.size K) (bp []) w := by
    refine ⟨⟨Nat.le_refl _, fun o x hx => ?_, fun o o' x x' b base base' _ hx => ?_, hK⟩, fun o _ _ => rfl, ⟨rfl, (fun o ho => (by rcases ho with ho | ho; cases ho; exact ho.elim)), fun _ _ h => h, fun _ _ _ => rfl, Nat.le_refl _, rfl, rfl, rfl, fun _ _ _ => rfl, fun o b base ho => ?_, fun _ _ h => .inl h, fun b cs e fr h => ⟨cs, fr, h, rfl⟩, fun b l h => ⟨l, h⟩⟩, Nat.zero_le _⟩
    · simp [bp, pc, Tr.get_nil] at hx
    · simp [bp, pc, Tr.get_nil] at hx
    · simp [bp, pc, Tr.get_nil] at ho
  refine wpIn_mono (atz hT hm (N := 0) (B := B) (nt := fn.ntmps) (fun _ h => h) (by show (0 : Nat) ≤ 1000; omega) (Nat.le_refl _) body hs _ _ _ (gK w.heap.size K) w _ h hcur (zp hrel hl) (Marks.nil _ _ _ _)) ?_
  rintro ex a w' ⟨e, L, st, g, rfl, hq, hc, hr, hd⟩
  have fin : Mm (p0 P L st fn.results.toList) (fun r st => R.get fr st.h r = some x) st → bodyPostM (ft none) 0 P fn (fun e w' => ∃ v, e = .returned v ∧ zg w w' ∧ Rel (gK w.heap.size (aau K w w')) w' (R.E fr x) v) .ret a w' := by
    intro hq
    show LeavesInM (ft none) 0 P fn a.tmps _ a.defers .returning w'
    unfold Mm at hq
    cases hres : p0 P L st fn.results.toList with
    | none => rw [hres] at hq; exact hq.elim
    | some l =>
      rw [hres] at hq
      have hbs := hc.base
      obtain ⟨bs, e1, e2, e3⟩ := hd
      rw [e1]
      refine Gf (Good := fun u => Ok g st.h u ∧ zg w u ∧ (∀ a v, Rel g w' a v → Rel g u a v) ∧ u.heap.size = w'.heap.size) (S := fun b => w.heap.size ≤ b ∧ fc g st.h b) ?_ ?_ bs w'
        ⟨hc.ok, ⟨hbs.size, fun b hlt => hbs.frame b hlt (fun h => h), hbs.os, hbs.tape, hbs.output⟩, fun _ _ h => h, rfl⟩ e2 (fun b hb => ⟨⟨(e3 b hb).1, (e3 b hb).2.2⟩, (e3 b hb).2.1⟩)
      · rintro u b ⟨g1, g2, g3, g4⟩ ⟨hb1, hb2⟩ hb3
        have hput := Ok.F6 (ds' := none) g1 hb3 hb2
        exact ⟨hput.1, ⟨by rw [n5]; exact g2.size, fun c hc => (fl u _ (by omega)).trans (g2.heap c hc), g2.os, g2.tape, g2.output⟩, fun a v h => hput.2 a v (g3 a v h), by rw [n5]; exact g4⟩
      · rintro u ⟨g1, g2, g3, g4⟩
        obtain ⟨us, h1, h2⟩ := Vq (P := P) g1 ⟨hr.1, fun t => g3 _ _ (hr.2 t)⟩ fn.results.toList l hres
        obtain ⟨v, h3, h4⟩ := Vt h1 h2
        refine ⟨v, h3, v, rfl, g2, ?_⟩
        refine R.ok g1 ⟨fun b j hk => ?_, fun o cells k s e ho b base hi j hj => ?_⟩ (fun _ => ?_) h4 hq
        · rcases hbs.n7 b j hk with h5 | h5 | h5
          · exact .inl h5
          · exact .inr ⟨h5, g1.K b j hk⟩
          · exact h5.elim
        · obtain ⟨b', base', h5, _, h6⟩ := g1.obj o _ ho
          rw [hi] at h5; cases h5
          rcases hbs.own o b base (by rw [ho]; rfl) hi with h7 | h7
          · exact .inr ⟨h7, h6.lt⟩
          · exact h7.elim
        · rw [hbs.b0]; exact Nat.le_refl _
  cases e with
  | normal => exact fin hq
  | ret => exact fin hq
  | exit id => exact hq.elim
theorem Rel.lift {b0 K g w a v} (h : Rel (gK b0 K) w a v) (hb : g.b0 ≤ b0) (hK : ∀ b j, K b j → g.K b j) : Rel g w a v := by
  have hno : ∀ o p, (gK b0 K).inj o ≠ some p := fun o p e => by cases e
  generalize hg : gK b0 K = g0 at h hno
  have hK' : ∀ b j, g0.K b j → g.K b j := by subst hg; exact hK
  have hb' : g.b0 ≤ g0.b0 := by subst hg; exact hb
  clear hg
  induction h with
  | sc x => exact .sc x
  | agg l vs hs _ ih => exact .agg l vs hs ih
  | fh l vs hs _ ih => exact .fh l vs hs ih
  | vl loc sz es b off cap c hsz hl hcap h _ ih => exact .vl loc sz es b off cap c hsz (fun e => Nat.le_trans hb' (hl e)) hcap (fun j a hj => ⟨hK' _ _ (h j a hj).1, (h j a hj).2⟩) ih
  | jx loc sz => exact .jx loc sz
  | sm loc sz a => exact .sm loc sz a
  | sl o off len sz b base cap hi hc hm hr => exact (hno _ _ hi).elim
  | uy o off sz a => exact .uy o off sz a
  | vx o off sz => exact .vx o off sz
  | ez a => exact .ez a
  | ptr o off b base hi => exact (hno _ _ hi).elim
  | gp l b off c h _ ih => exact .gp l b off c (fun j a hj => ⟨hK' _ _ (h j a hj).1, (h j a hj).2⟩) ih
  | fn f first captured va vb hs _ hs' _ ih ih' => exact .fn f first captured va vb hs ih hs' ih'
  | mp o b base hi => exact (hno _ _ hi).elim
  | rk t a v _ ih => exact .rk t a v ih
  | yl o b base hi => exact (hno _ _ hi).elim
  | bad v => exact .bad v
theorem C2 {l : List AV} (h : AV.fresh.go l = true) : ∀ a ∈ l, a.fresh = true := by
  induction l with
  | nil => intro a ha; cases ha
  | cons x l ih =>
    simp only [AV.fresh.go, Bool.and_eq_true] at h
    intro a ha
    rcases List.mem_cons.1 ha with rfl | ha
    · exact h.1
    · exact ih h.2 a ha
theorem agj {a : AV} (h : a.fresh = true) : ∀ c ∈ a.cells, c.fresh = true := by
  cases a with
  | agg l => exact C2 h
  | sc v => intro c hc; simp only [AV.cells, List.mem_map] at hc; obtain ⟨x, _, rfl⟩ := hc; rfl
  | _ => intro c hc; simp only [AV.cells, List.mem_singleton] at hc; subst hc; exact h
theorem Rel.fresh {b0 K g w a v} (h : Rel (gK b0 K) w a v) (hf : a.fresh = true) (hb : g.b0 ≤ b0) (hK : ∀ b j, K b j → b0 ≤ b → g.K b j) : Rel g w a v := by
  generalize hg : gK b0 K = g0 at h
  have hK' : ∀ b j, g0.K b j → g0.b0 ≤ b → g.K b j := by subst hg; exact hK
  have hb' : g.b0 ≤ g0.b0 := by subst hg; exact hb
  clear hg hb hK
  induction h with
  | sc x => exact .sc x
  | agg l vs hs _ ih => exact .agg l vs hs (fun i a v ha hv => ih i a v ha hv (C2 hf a (List.mem_of_getElem? ha)))
  | fh l vs hs _ ih => exact .fh l vs hs (fun i a v ha hv => ih i a v ha hv (C2 hf a (List.mem_of_getElem? ha)))
  | vl loc sz es b off cap c hsz hl hcap h _ ih =>
    simp only [AV.fresh, Bool.and_eq_true] at hf
    have hbb := hl hf.1
    refine .vl loc sz es b off cap c hsz (fun e => Nat.le_trans hb' hbb) hcap (fun j a hj => ⟨hK' _ _ (h j a hj).1 hbb, (h j a hj).2⟩) (fun j a hj => ih j a hj ?_)
    obtain ⟨e, he, hc⟩ := List.mem_flatMap.1 (List.mem_of_getElem? hj)
    exact agj (C2 hf.2 e he) a hc
  | jx loc sz => exact .jx loc sz
  | sm loc sz a => exact .sm loc sz a
  | sl o off len sz b base cap hi hc hm hr => cases hf
  | uy o off sz a => cases hf
  | vx o off sz => cases hf
  | ez a => exact .ez a
  | ptr o off b base hi => cases hf
  | gp l b off c h _ ih => cases hf
  | fn f first captured va vb hs _ hs' _ ih ih' =>
    simp only [AV.fresh, Bool.and_eq_true] at hf
    exact .fn f first captured va vb hs (fun i a v ha hv => ih i a v ha hv (C2 hf.1 a (List.mem_of_getElem? ha))) hs' (fun i a v ha hv => ih' i a v ha hv (C2 hf.2 a (List.mem_of_getElem? ha)))
  | mp o b base hi => cases hf
  | rk t a v _ ih => exact .rk t a v (ih hf)
  | yl o b base hi => cases hf
  | bad v => cases hf
def Gh.more (g : Gh) (w w' : World) : Gh := { g with K := aau g.K w w' }
theorem Cy {g h w w'} {lo hi : Nat} (hok : Ok g h w) (q : zg w w') : Step g h w lo hi (g.more w w') h w' ∧ Ok (g.more w w') h w' := by
  have hext : Ext g w (g.more w w') w' := by
    refine ⟨rfl, fun _ _ h => h, fun _ _ h => .inl h, fun b j hj => su (q.heap b (hok.K b j hj)), fun b cs e fr hb => ⟨cs, fr, (q.heap b (cg hb)).trans hb, rfl⟩, fun b l hb => ⟨l, (q.heap b (cg hb)).trans hb⟩⟩
  refine ⟨⟨hext, q.size, q.os, q.tape, q.output, fun b hb _ => q.heap b hb, fun _ h _ => h, fun o b base ho hi => .inr ⟨o, base, ho, hi⟩, fun b j hk => ?_⟩, ⟨Nat.le_trans hok.size q.size, fun o x hx => ?_, hok.sep, fun b j hk => ?_⟩⟩
  · rcases hk with hk | hk
    · exact .inl hk
    · exact .inr (.inl hk.1)
  · refine (hok.mb o x hx).imp id ?_
    rintro ⟨b, base, h1, h2, h3⟩
    refine ⟨b, base, h1, h2, h3.ext hext (q.heap b h3.lt) (fun j hk => ?_)⟩
    rcases hk with hk | hk
    · exact hk
    · have := h3.lt; omega
  · rcases hk with hk | hk
    · exact Nat.lt_of_lt_of_le (hok.K b j hk) q.size
    · exact hk.2
noncomputable def dc {α : Type} (A : AC α) (F : α → Option AV) (args : List AV) : M AV := fun st =>
  match A.get .nil args with
  | some x => (F x).map fun r => (r, st)
  | none =>
    match A.get st.h args with
    | some x =>
      match F x with
      | some r => bif r.fresh then some (r, st) else none
      | none => none
    | none => none
theorem ai {P : Program} {f : Nat} {α : Type} {A : AC α} {F : α → Option AV} (h : ∀ x r, F x = some r → bf P f (A.E x) r) (args : List AV) : A6 P f args (dc A F args) := by
  intro g st w vs r st' hok hfree hrel hm
  have go : ∀ (X : Value → World → Prop), ajc P f vs w X → (∀ v w', X v w' → zg w w' ∧ Rel (g.more w w') w' r v) → st' = st →
      (∃ v w' g', (callFunc f vs.toArray).run P w = .ok (.value v) w' ∧ Step g st.h w st.nx st'.nx g' st'.h w' ∧ Ok g' st'.h w' ∧ Rel g' w' r v) ∨
      ((callFunc f vs.toArray).run P w = .ok (.enter f vs.toArray) w ∧ Calls P f vs.toArray w (fun e w' => ∃ v g', e = .returned v ∧ Step g st.h w st.nx st'.nx g' st'.h w' ∧ Ok g' st'.h w' ∧ Rel g' w' r v)) := by
    intro X hx hX e
    subst e
    rcases hx with ⟨v, h1, h2⟩ | ⟨h1, h2⟩
    · obtain ⟨q, hr⟩ := hX v w h2
      have := Cy (lo := st'.nx) (hi := st'.nx) hok q
      exact .inl ⟨v, w, _, h1, this.1, this.2, hr⟩
    · refine .inr ⟨h1, h2.mono ?_⟩
      rintro e w' ⟨v, rfl, h3⟩
      obtain ⟨q, hr⟩ := hX v w' h3
      have := Cy (lo := st'.nx) (hi := st'.nx) hok q
      exact ⟨v, _, rfl, this.1, this.2, hr⟩
  unfold dc at hm
  cases h1 : A.get .nil args with
  | some x =>
    rw [h1] at hm
    simp only [Option.map_eq_some_iff] at hm
    obtain ⟨r', h2, h3⟩ := hm
    cases h3
    have hargs := A.ok (b0 := w.heap.size) (hok.part (hm := .nil) (fun o x hx => by rw [Tr.get_nil] at hx; cases hx)) (qw.nil g g.K (fun _ _ h => h)) hrel h1
    refine go _ (h x r h2 g.K w vs hok.K hargs) (fun v w' hv => ⟨hv.1, hv.2.lift hok.size (fun b j hk => hk)⟩) rfl
  | none =>
    rw [h1] at hm
    simp only at hm
    cases h2 : A.get st.h args with
    | none => rw [h2] at hm; cases hm
    | some x =>
      rw [h2] at hm
      simp only at hm
      cases h3 : F x with
      | none => rw [h3] at hm; cases hm
      | some r' =>
        rw [h3] at hm
        simp only at hm
        cases h4 : r'.fresh with
        | false => rw [h4] at hm; cases hm
        | true =>
          rw [h4] at hm
          cases hm
          have hargs := A.ok (b0 := w.heap.size) (K := fun b _ => b < w.heap.size) hok ⟨fun b j hk => hok.K b j hk, fun o cells k s e ho b base hi j hj => by
            obtain ⟨b', base', h5, _, h6⟩ := hok.obj o _ ho
            rw [hi] at h5; cases h5
            exact h6.lt⟩ hrel h2
          refine go _ (h x r h3 (fun b _ => b < w.heap.size) w vs (fun _ _ h => h) hargs) (fun v w' hv => ⟨hv.1, hv.2.fresh h4 hok.size (fun b j hk hle => ?_)⟩) rfl
          rcases hk with hk | hk
          · omega
          · exact .inr hk
theorem ak.nil (P : Program) : ak P [] := fun f b m h => by cases h
theorem ak.cons {P : Program} {f : Nat} {b : Bool} {m : List AV → M AV} {T : ed} (h : ∀ args, A6 P f args (m args)) (hT : ak P T) : ak P ((f, b, m) :: T) := by
  intro f' b' m' hf args
  simp only [ed.find] at hf
  by_cases e : f = f'
  · subst e
    simp only [Nat.beq_refl, cond_true, Option.some.injEq] at hf
    cases hf
    exact h args
  · rw [lz e, cond_false] at hf
    exact hT f' b' m' hf args
end
end Go.Vm
namespace Go.Vm
noncomputable section
def ak6 (g : Gh) (st : St) (w : World) : fq := { gy g st.h w st.nx (fun _ => False) with n0 := w.heap.size }
theorem ff.ofC {g st w} (hok : Ok g st.h w) (hfr : ∀ o, st.nx ≤ o → g.inj o = none) : ff (ak6 g st w) g st w :=
  ⟨hok, fun o h1 _ => hfr o h1, ⟨rfl, fun _o _ho => rfl, fun _ _ h => h, fun _ _ _ => rfl, Nat.le_refl _, rfl, rfl, rfl, fun _ _ _ => rfl, fun o _b base ho hi => .inr (.inr ⟨o, base, ho, hi⟩), fun _ _ h => .inl h,
    fun _b cs _e fr h => ⟨cs, fr, h, rfl⟩, fun _b l h => ⟨l, h⟩⟩, Nat.le_refl _⟩
theorem ff.ayn {g st w g' st' w'} (h : ff (ak6 g st w) g' st' w') (hfr : ∀ o, st.nx ≤ o → g.inj o = none) : Step g st.h w st.nx st'.nx g' st'.h w' := by
  have b := h.base
  have pins : ∀ o, o < st.nx → g'.inj o = g.inj o := fun o ho => b.pins o (.inl ho)
  refine ⟨⟨b.b0, fun o p hp => ?_, b.K, b.cell, b.zx, b.lp⟩, b.size, b.os, b.tape, b.output, fun c hc hn => b.frame c hc (fun hO => ?_), fun o ho hr => ?_, fun o c base ho hi => ?_, fun c j hk => ?_⟩
  · by_cases h1 : st.nx ≤ o
    · rw [hfr o h1] at hp; cases hp
    · rw [pins o (by omega)]; exact hp
  · rcases hO with hO | ⟨o, base, h1, h2⟩
    · exact hO
    · exact hn o base h1 h2
  · by_cases h1 : o < st.nx
    · rw [pins o h1]; exact ho
    · exact h.fresh o (by omega) (fun hf => hf)
  · rcases b.own o c base ho hi with h1 | h1 | h1
    · exact .inl h1
    · exact h1.elim
    · exact .inr h1
  · rcases b.n7 c j hk with h1 | h1 | h1 | h1
    · exact .inl h1
    · exact .inr (.inl h1)
    · exact h1.elim
    · exact .inr (.inr h1)
theorem bq {P : Program} {T : ed} (hT : ak P T) (hm : P.follows .mixedOrders = true) {f : Nat} {fn : Func} {body : Code} (hf : P.funcs[f]? = some fn) (hb : fn.body = some body) (he : kz P f = true) (hs : dz fn.ntmps body = true)
    {args : List AV} (hl : Nat.ble args.length fn.ntmps = true) {st : St} (hp : Nat.ble st.nx 1000 = true) {R : AV → St → Prop}
    (h : wl P T st.nx body (dj P fn.results.toList R) (bw 0 args) st) : qg P f args st R := by
  intro g w vs hok hfr hrel
  refine .inr ⟨tc he _ _, xj (ro := none) (n := 0) (callsIn_of_wp_marks hf hb trivial ?_)⟩
  have hcur := ff.ofC (w := w) hok hfr
  refine wpIn_mono (atz hT hm (N := 0) (B := ak6 g st w) (nt := fn.ntmps) (fun _ h => h) (Nat.le_of_ble_eq_true hp) (Nat.le_refl _) body hs _ _ _ g w _ h hcur (zp hrel (Nat.le_of_ble_eq_true hl)) (Marks.nil _ _ _ _)) ?_
  rintro ex a w' ⟨e, L, st', g', rfl, hq, hc, hr, hd⟩
  have fin : Mm (p0 P L st' fn.results.toList) R st' → bodyPostM (ft none) 0 P fn (fun e w' => ∃ v g' r st', e = .returned v ∧ R r st' ∧ st.nx ≤ st'.nx ∧ Step g st.h w st.nx st'.nx g' st'.h w' ∧ Ok g' st'.h w' ∧ Rel g' w' r v) .ret a w' := by
    intro hq
    show LeavesInM (ft none) 0 P fn a.tmps _ a.defers .returning w'
    unfold Mm at hq
    cases hres : p0 P L st' fn.results.toList with
    | none => rw [hres] at hq; exact hq.elim
    | some l =>
      rw [hres] at hq
      obtain ⟨bs, e1, e2, e3⟩ := hd
      rw [e1]
      refine Gf (Good := fun u => Ok g' st'.h u ∧ Step g st.h w st.nx st'.nx g' st'.h u ∧ (∀ a v, Rel g' w' a v → Rel g' u a v)) (S := fun b => w.heap.size ≤ b ∧ fc g' st'.h b) ?_ ?_ bs w'
        ⟨hc.ok, hc.ayn hfr, fun _ _ h => h⟩ e2 (fun b hb => ⟨⟨(e3 b hb).1, (e3 b hb).2.2⟩, (e3 b hb).2.1⟩)
      · rintro u b ⟨g1, g2, g3⟩ ⟨hb1, hb2⟩ hb3
        have hput := Ok.F6 (ds' := none) g1 hb3 hb2
        exact ⟨hput.1, Step.adt (ds' := none) hok g2 hb1, fun a v h => hput.2 a v (g3 a v h)⟩
      · rintro u ⟨g1, g2, g3⟩
        obtain ⟨us, h1, h2⟩ := Vq (P := P) g1 ⟨hr.1, fun t => g3 _ _ (hr.2 t)⟩ fn.results.toList l hres
        obtain ⟨v, h3, h4⟩ := Vt h1 h2
        exact ⟨v, h3, v, g', _, st', rfl, hq, hc.az, g2, g1, h4⟩
  cases e with
  | normal => exact fin hq
  | ret => exact fin hq
  | exit id => exact hq.elim
end
end Go.Vm
namespace Go.Vm
noncomputable section
section code
variable (P : Program) (T : ed) (az : Nat) (Q : QL) (L : SL) (st : St)
theorem ahl : wl P T az .skip Q L st = Q .normal L st := id rfl
theorem abe (l) : wl P T az (.label l) Q L st = Q .normal L st := id rfl
theorem W4 (i ops d) : wl P T az (.region i ops d) Q L st = Dh P T ops d (Q .normal) L st := id rfl
theorem aqc (a b) : wl P T az (.seq a b) Q L st = wl P T az a (adx (wl P T az b) Q) L st := id rfl
theorem ais (c a b) : wl P T az (.cond c a b) Q L st = u3 (c6 L c) (wl P T az a Q) (wl P T az b Q) L st := id rfl
theorem aak (i b) : wl P T az (.block i b) Q L st = wl P T az b (Q3 i Q) L st := id rfl
theorem ai4 (b) : wl P T az (.loop b) Q L st = rn az (wl P T az b) Q L st := id rfl
theorem afm (b) : wl P T az (.scope b) Q L st = wl P T az b Q L st := id rfl
theorem ah2 (i) : wl P T az (.exit i) Q L st = Q (.exit i) L st := id rfl
theorem amy : wl P T az .ret Q L st = Q .ret L st := id rfl
theorem am8 (W) : adx W Q .normal L st = W Q L st := id rfl
theorem ams (W i) : adx W Q (.exit i) L st = Q (.exit i) L st := id rfl
theorem aqg (W) : adx W Q .ret L st = Q .ret L st := id rfl
theorem anh (i) : Q3 i Q .normal L st = Q .normal L st := id rfl
theorem ang (i) : Q3 i Q .ret L st = Q .ret L st := id rfl
theorem apq (i j) : Q3 i Q (.exit j) L st = bif Nat.beq j i then Q .normal L st else Q (.exit j) L st := id rfl
theorem ahq (keep X) : xa az keep X Q .normal L st = X (jz az keep L st) (gb az keep L st) := id rfl
theorem aix (keep X i) : xa az keep X Q (.exit i) L st = Q (.exit i) L st := id rfl
theorem aia (keep X) : xa az keep X Q .ret L st = Q .ret L st := id rfl
theorem ao2 (rs R) : dj P rs R .normal L st = Mm (p0 P L st rs) R st := id rfl
theorem aoj (rs R) : dj P rs R .ret L st = Mm (p0 P L st rs) R st := id rfl
theorem Y4 (ops K) : Dh P T ops false K L st = opsL P T ops ops.toList K L st := id rfl
theorem ab3 (ops K) : opsL P T ops [] K L st = K L st := id rfl
theorem Ye (ops o r K) : opsL P T ops (o :: r) K L st = xi ops o.guard (ab0 P T o (opsL P T ops r K)) (Hr o.dst (opsL P T ops r K)) L st := id rfl
theorem ac8 (ops K recs) : Dv P T ops [] K recs L st = (gk (Region.before ops) 0 recs = true ∧ K L st) := id rfl
theorem X9 (ops o r K recs) : Dv P T ops (o :: r) K recs L st = xi ops o.guard (gi P T o recs (Dv P T ops r K)) (Hr o.dst (Dv P T ops r K (recs ++ [⟨[], []⟩]))) L st := id rfl
theorem Tx (ops X Y) : xi ops none X Y L st = X L st := id rfl
theorem U9 (ops j c X Y) : xi ops (some (j, c)) X Y L st = Ef (lk L (th ops j)) c X Y L st := id rfl
theorem afo (b : Bool) (X Y : SL → St → Prop) : Ef (.sc (.bool b)) true X Y L st = u3 (.sc (.bool b)) X Y L st := by cases b <;> simp [Ef, zj, Bf, Ff, u3, qb, AV.bool, AV.exact, ny]
theorem ad0 (b : Bool) (X Y : SL → St → Prop) : Ef (.sc (.bool b)) false X Y L st = u3 (.sc (.bool b)) Y X L st := by cases b <;> simp [Ef, zj, Bf, Ff, u3, qb, AV.bool, AV.exact, ny]
theorem aer (c : Bool) (X Y : SL → St → Prop) : Ef (.sc undef) c X Y L st = Y L st := by simp [Ef, zj, Bf, Ff, AV.exact, undef]
theorem air (o K) : ab0 P T o K L st = Jx (ey P T o (c6 L) st) P o L st K := id rfl
theorem aa8 (v o K st') : Jx (some (v, st')) P o L st K = K (gj o.dst v L) st' := id rfl
theorem acx (K d r) : gm K d L r st = K (gj d r L) st := id rfl
theorem aah (ro F o recs K v bh) : D8 ro F o recs K L st (some (v, bh)) = ((Fi st.nx F = true ∧ Nat.ble bh.nx cq = true) ∧ same (jy st.h F) bh.h (bif ro then F else []) ∧
    K (recs ++ [⟨F, (bif ro then [] else F) ++ dm st.nx (bh.nx - st.nx)⟩]) (gj o.dst v L) { h := o0 bh.h (F ++ dm st.nx (bh.nx - st.nx)) st.h, nx := bh.nx, rl := [], wl := [] }) := id rfl
theorem Yr (d K) : Hr d K L st = K (gj d (.sc undef) L) st := id rfl
theorem bk (b X Y) : u3 (.sc (.bool b)) X Y L st = ((b = true → X L st) ∧ (b = false → Y L st)) := id rfl
theorem G5 (X Y) : u3 (.sc (.bool true)) X Y L st = X L st := by simp [u3, qb, AV.bool, AV.exact, ny]
theorem Gp (X Y) : u3 (.sc (.bool false)) X Y L st = Y L st := by simp [u3, qb, AV.bool, AV.exact, ny]
theorem Xg (v d K) : G2 (some (v, st)) d L K = K (gj d v L) st := id rfl
theorem Wt (d v) : gj (some d) v L = (d, v) :: L := id rfl
theorem Ww (v) : gj none v L = L := id rfl
theorem ank (l R) : Mm (some l) R st = R (pack l) st := id rfl
theorem ao9 (d v) : lk ((d, v) :: L) d = v := by simp [lk]
theorem ahv (d t v) (h : (d == t) = false) : lk ((d, v) :: L) t = lk L t := by
  have e : d ≠ t := by simpa using h
  rw [m8, if_neg e]
theorem atw (t) : c6 L (.tmp t) = lk L t := id rfl
theorem atn (v) : c6 L (.const v) = .sc v := id rfl
theorem atj (f) : c6 L (.func f) = .sc (.func (.func f) #[] #[]) := id rfl
theorem anp : p0 P L st [] = some [] := id rfl
theorem apb (t r) : p0 P L st (.tmp t :: r) = (p0 P L st r).map (lk L t :: ·) := id rfl
theorem am9 (a t r) : p0 P L st (.cell a t :: r) = match ja P t (lk L a) st with | some (v, _) => (p0 P L st r).map (v :: ·) | none => none := id rfl
end code
section ops
variable (P : Program) (T : ed) (ρ : Operand → AV) (d : Option Tmp) (ty : TypeId) (pos : String) (af : Array Edge) (gd : Option (Nat × Bool))
theorem I2 (x) : ey P T ⟨d, .move x, ty, pos, af, gd⟩ ρ = mono (M.pure (ρ x)) := id rfl
theorem Dx (x) : ey P T ⟨d, .assign x, ty, pos, af, gd⟩ ρ = mono (M.pure (ρ x)) := id rfl
theorem I4 (t a) : ey P T ⟨d, .load t a, ty, pos, af, gd⟩ ρ = mono (ja P t (ρ a)) := id rfl
theorem yz (s x f) : ey P T ⟨d, .fieldAddr s x f, ty, pos, af, gd⟩ ρ = mono (j9 P s (ρ x) f) := id rfl
theorem Pb (op t x y u) : ey P T ⟨d, .binOp op t x y u, ty, pos, af, gd⟩ ρ = mono (xd P ρ ⟨d, .binOp op t x y u, ty, pos, af, gd⟩ op t x y) := id rfl
theorem Im (c a b) : ey P T ⟨d, .pick c a b, ty, pos, af, gd⟩ ρ = mono (tr (ρ c) (ρ a) (ρ b)) := id rfl
theorem Fz (t a x) : ey P T ⟨d, .store t a x, ty, pos, af, gd⟩ ρ = mono (oe P t (ρ a) (ρ x)) := id rfl
theorem Cb (t i) : ey P T ⟨d, .extract t i, ty, pos, af, gd⟩ ρ = mono (m9 (ρ t) i) := id rfl
theorem zv (t x i) : ey P T ⟨d, .indexAddr t x i, ty, pos, af, gd⟩ ρ = mono (j6 P t (ρ x) (ρ i)) := id rfl
theorem Ad (x) : ey P T ⟨d, .nilCheck x, ty, pos, af, gd⟩ ρ = mono (jt (ρ x)) := id rfl
theorem P0 (t) : ey P T ⟨d, .alloc t, ty, pos, af, gd⟩ ρ = mono (qj P t) := id rfl
theorem X5 (t x) : ey P T ⟨d, .box t x, ty, pos, af, gd⟩ ρ = mono (xb t (ρ x)) := id rfl
theorem Gi (t ps) : ey P T ⟨d, .build t ps, ty, pos, af, gd⟩ ρ = mono (pz P t (ps.toList.map fun p => (p.1, ρ p.2))) := id rfl
theorem xg (t n ps) : ey P T ⟨d, .buildSlice t n ps, ty, pos, af, gd⟩ ρ = mono (i5 P t n (ps.toList.map fun p => (p.1, ρ p.2))) := id rfl
theorem Ju (t r) : ey P T ⟨d, .makeMap t r, ty, pos, af, gd⟩ ρ = mono (qx r) := id rfl
theorem Hk (f a b) : ey P T ⟨d, .makeFunc f a b, ty, pos, af, gd⟩ ρ = mono (M.pure (.fn f (a.toList.map ρ) (b.toList.map ρ))) := id rfl
theorem Jm (s u x) : ey P T ⟨d, .convert s u x, ty, pos, af, gd⟩ ρ = mono (nv P ρ ⟨d, .convert s u x, ty, pos, af, gd⟩ s u (ρ x)) := id rfl
theorem Od (s x f) : ey P T ⟨d, .field s x f, ty, pos, af, gd⟩ ρ = mono (ry P s (ρ x) f) := id rfl
theorem P1 (t x i) : ey P T ⟨d, .index t x i, ty, pos, af, gd⟩ ρ = mono (se P ρ ⟨d, .index t x i, ty, pos, af, gd⟩ t x i) := id rfl
theorem Oz (t x l h m) : ey P T ⟨d, .slice t x l h m, ty, pos, af, gd⟩ ρ = mono (qm P ρ ⟨d, .slice t x l h m, ty, pos, af, gd⟩ t x l h m) := id rfl
theorem L5 (t x i ok) : ey P T ⟨d, .lookup t x i ok, ty, pos, af, gd⟩ ρ = mono (qf P t (ρ x) (ρ i) ok) := id rfl
theorem Ew (t m k x) : ey P T ⟨d, .mapUpdate t m k x, ty, pos, af, gd⟩ ρ = mono (lx P t (ρ m) (ρ k) (ρ x)) := id rfl
theorem Ml (x ts) : ey P T ⟨d, .call { callee := .builtin .len, args := #[x], argTypes := ts }, ty, pos, af, gd⟩ ρ = mono (qp ((ts[0]?).bind P.underlying) (ρ x)) := id rfl
theorem Er (s x ts) : ey P T ⟨d, .call { callee := .builtin .append, args := #[s, x], argTypes := ts }, ty, pos, af, gd⟩ ρ = mono (mi P ts[0]? ((ts[1]?).bind P.underlying) (ρ s) (ρ x)) := id rfl
theorem U4 (f args ts) : ey P T ⟨d, .call { callee := .value f, args, argTypes := ts }, ty, pos, af, gd⟩ ρ = tg T (ρ f) (args.toList.map ρ) := id rfl
end ops
section monad
variable {α β : Type} (s : St)
theorem at5 (m : M α) : mono m s = match m s with | none => none | some (a, s') => bif decide (s.nx ≤ s'.nx) then some (a, s') else none := by
  have : ∀ a b, Nat.ble a b = decide (a ≤ b) := fun a b => by rw [Bool.eq_iff_iff]; simp
  unfold mono
  cases m s with
  | none => rfl
  | some p => simp only [this]
theorem atl (m : M α) (f : α → M β) : (m.bind f) s = match m s with | none => none | some (a, s') => f a s' := id rfl
theorem at0 (a : α) : (M.pure a) s = some (a, s) := id rfl
theorem atp : (M.fail : M α) s = none := id rfl
theorem at2 (a : α) : (M.of (some a)) s = some (a, s) := id rfl
theorem ate (b : Bool) (m m' : M α) : (bif b then m else m') s = bif b then m s else m' s := by cases b <;> rfl
theorem as8 (o : Nat) : cx o s = match s.h.get o with | some x => some (x, { s with rl := o :: s.rl }) | none => none := id rfl
theorem atg (x : bc) : g5 x s = bif decide (s.nx ≤ cq) then some (s.nx, { s with h := s.h.set depth s.nx (some x), nx := s.nx + 1, wl := s.nx :: s.wl }) else none := by
  have : Nat.ble s.nx cq = decide (s.nx ≤ cq) := by rw [Bool.eq_iff_iff]; simp
  unfold g5; rw [this]
theorem atb (o : Nat) (x : bc) : ic o x s = match s.h.get o with | some _ => bif decide (o ≤ cq) then some ((), { s with h := s.h.set depth o (some x), wl := o :: s.wl }) else none | none => none := by
  have : Nat.ble o cq = decide (o ≤ cq) := by rw [Bool.eq_iff_iff]; simp
  unfold ic; rw [this]; rfl
theorem aud (o : Nat) : uw o s = match s.h.get o with | some _ => bif decide (o ≤ cq) then some ((), { s with h := s.h.set depth o none, wl := o :: s.wl }) else none | none => none := by
  have : Nat.ble o cq = decide (o ≤ cq) := by rw [Bool.eq_iff_iff]; simp
  unfold uw; rw [this]; rfl
theorem ach (t : Tr bc) (n m : Nat) (x : Option bc) (h : n ≤ 16777214) : (Tr.set depth t n x).get m = if m = n then x else t.get m := eh t n m x h
theorem abb (n : Nat) : (Tr.nil : Tr bc).get n = none := id rfl
theorem axh (a b : Nat) : Nat.ble a b = decide (a ≤ b) := by rw [Bool.eq_iff_iff]; simp
theorem axm (a b : Nat) : Nat.blt a b = decide (a < b) := by rw [Bool.eq_iff_iff]; simp
theorem ak9 (a b : Nat) : Nat.beq a b = decide (a = b) := by rw [Bool.eq_iff_iff]; simp
end monad
theorem O0 {a : AV} {x y x' y' : Prop} (h1 : x → x') (h2 : y → y') (h : qb a x y) : qb a x' y' := by
  unfold qb at *
  split at h
  · exact ⟨fun e => h1 (h.1 e), fun e => h2 (h.2 e)⟩
  · exact h.elim
theorem yp {ops L gd} {x y x' y' : Prop} (h1 : x → x') (h2 : y → y') (h : guarded ops L gd x y) : guarded ops L gd x' y' := by
  unfold guarded at *
  split at h
  · exact h1 h
  · unfold zj at *
    split at h
    · exact ⟨fun e => h1 (h.1 e), fun e => h2 (h.2 e)⟩
    · exact h.elim
theorem qg.mono {P f args st} {R R' : AV → St → Prop} (h : ∀ r st, R r st → R' r st) (hc : qg P f args st R) : qg P f args st R' := by
  intro g w vs h1 h2 h3
  rcases hc g w vs h1 h2 h3 with ⟨v, w', g', r, st', q1, q2, q3⟩ | ⟨q1, q2⟩
  · exact .inl ⟨v, w', g', r, st', q1, h _ _ q2, q3⟩
  · refine .inr ⟨q1, q2.mono ?_⟩
    rintro e w' ⟨v, g', r, st', p1, p2, p3⟩
    exact ⟨v, g', r, st', p1, h _ _ p2, p3⟩
theorem ak2 {P o L st} {K K' : SL → St → Prop} (h : ∀ L st, K L st → K' L st) (hc : Nv P o L st K) : Nv P o L st K' := by
  unfold Nv ak1 at *
  split at hc
  · split at hc
    · exact qg.mono (fun r st hk => h _ _ hk) hc
    · exact hc.elim
  · exact hc.elim
theorem Fh {P T ops} {K K' : SL → St → Prop} (h : ∀ L st, K L st → K' L st) : ∀ (l : List Oper) (L : SL) (st : St), opsL P T ops l K L st → opsL P T ops l K' L st
  | [], L, st, hh => h L st hh
  | o :: r, L, st, hh => yp (fun q => by
      unfold ab0 Jx at *
      split at q
      · exact Fh h r _ _ q
      · exact ak2 (fun L st => Fh h r L st) q) (fun q => Fh h r _ _ q) hh
theorem Fa {P T ops} {K K' : SL → St → Prop} (h : ∀ L st, K L st → K' L st) : ∀ (l : List Oper) (recs : List Rec) (L : SL) (st : St), Dv P T ops l K recs L st → Dv P T ops l K' recs L st
  | [], recs, L, st, hh => ⟨hh.1, h L st hh.2⟩
  | o :: r, recs, L, st, hh => yp (fun q => by
      unfold gi k8 D8 at *
      split at q
      · exact ⟨q.1, q.2.1, Fa h r _ _ _ q.2.2⟩
      · exact q.elim) (fun q => Fa h r _ _ _ q) hh
theorem Fj {P T ops} {K K' : SL → St → Prop} (h : ∀ L st, K L st → K' L st) : ∀ (l : List Oper) (recs : List Rec) (L : SL) (st : St), Ly P T ops l K recs L st → Ly P T ops l K' recs L st
  | [], recs, L, st, hh => ⟨hh.1, h L st hh.2⟩
  | o :: r, recs, L, st, hh => yp (fun q => Ut (fun _ _ _ k => Fj h r _ _ _ k) q) (fun q => Fj h r _ _ _ q) hh
theorem x5 {P T l az ops} {R : Hh} (hR : ∀ p args (X X' : Ex → St → Prop) st, (∀ e st, X e st → X' e st) → R p args X st → R p args X' st) {K K' : Option Ex → SL → St → Prop} (h : ∀ pe L st, K pe L st → K' pe L st) :
    ∀ (ls : List Oper) (pe : Option Ex) (L : SL) (st : St), Ei P T l R az ops ls K pe L st → Ei P T l R az ops ls K' pe L st
  | [], pe, L, st, hh => h pe L st hh
  | o :: r, pe, L, st, hh => yp (fun q => by
      unfold opI V1 at *
      split at q
      · unfold G2 at *
        split at q
        · exact x5 hR h r _ _ _ q
        · exact q.elim
      · obtain ⟨h0, keep, q⟩ := q
        refine ⟨h0, keep, hR _ _ _ _ _ (fun e st q => ?_) q⟩
        cases e with
        | normal => exact x5 hR h r _ _ _ q
        | ret => exact x5 hR h r _ _ _ q
        | exit id => exact x5 hR h r _ _ _ q) (fun q => x5 hR h r _ _ _ q) hh
theorem Qf {P : Program} {T : ed} {l az : Nat} {R : Hh} (hR : ∀ p args (X X' : Ex → St → Prop) st, (∀ e st, X e st → X' e st) → R p args X st → R p args X' st) :
    ∀ (c : Code) (Q Q' : QI), (∀ e pe L st, Q e pe L st → Q' e pe L st) → ∀ pe L st, ox P T l R az c Q pe L st → ox P T l R az c Q' pe L st := by
  intro c
  induction c with
  | skip => intro Q Q' h pe L st hh; exact h _ _ _ _ hh
  | label l => intro Q Q' h pe L st hh; exact h _ _ _ _ hh
  | exit i => intro Q Q' h pe L st hh; exact h _ _ _ _ hh
  | ret => intro Q Q' h pe L st hh; exact h _ _ _ _ hh
  | region i ops draw =>
    intro Q Q' h pe L st hh
    cases draw with
    | false => exact x5 hR (h _) _ _ _ _ hh
    | true => exact ⟨hh.1, hh.2.imp (Fa (h _ _) _ _ _ _) (Fj (h _ _) _ _ _ _)⟩
  | seq a b iha ihb =>
    intro Q Q' h pe L st hh
    refine iha _ _ ?_ pe L st hh
    intro e pe L st q
    cases e with
    | normal => exact ihb _ _ h pe L st q
    | _ => exact h _ _ _ _ q
  | cond c a b iha ihb => intro Q Q' h pe L st hh; exact O0 (iha _ _ h pe L st) (ihb _ _ h pe L st) hh
  | block i b ih =>
    intro Q Q' h pe L st hh
    refine ih _ _ ?_ pe L st hh
    intro e pe L st q
    cases e with
    | exit j =>
      simp only [Re] at *
      cases hb : Nat.beq j i with
      | true => rw [hb] at q; exact h _ _ _ _ q
      | false => rw [hb] at q; exact h _ _ _ _ q
    | _ => exact h _ _ _ _ q
  | loop b ih =>
    intro Q Q' h pe L st hh
    obtain ⟨h0, keep, hh⟩ := hh
    refine ⟨h0, keep, fun X hX => hh X fun vs os q => hX vs os (ih _ _ ?_ _ _ _ q)⟩
    intro e pe L st q
    cases e with
    | normal => exact q
    | _ => exact h _ _ _ _ q
  | scope b ih => intro _ _ _ _ _ _ hh; exact hh.elim
  | rangeFunc => intro _ _ _ _ _ _ hh; exact hh.elim
  | goto => intro _ _ _ _ _ _ hh; exact hh.elim
  | refuse => intro _ _ _ _ _ _ hh; exact hh.elim
theorem asu {P : Program} {T : ed} : ∀ (c : Code) (az : Nat) (Q Q' : QL), (∀ e L st, Q e L st → Q' e L st) → ∀ L st, wl P T az c Q L st → wl P T az c Q' L st := by
  intro c
  induction c with
  | skip => intro az Q Q' h L st hh; exact h _ _ _ hh
  | label l => intro az Q Q' h L st hh; exact h _ _ _ hh
  | exit i => intro az Q Q' h L st hh; exact h _ _ _ hh
  | ret => intro az Q Q' h L st hh; exact h _ _ _ hh
  | region i ops draw =>
    intro az Q Q' h L st hh
    cases draw with
    | false => exact Fh (h _) _ _ _ hh
    | true => exact ⟨hh.1, hh.2.imp (Fa (h _) _ _ _ _) (Fj (h _) _ _ _ _)⟩
  | seq a b iha ihb =>
    intro az Q Q' h L st hh
    refine iha _ _ _ ?_ L st hh
    intro e L st q
    cases e with
    | normal => exact ihb _ _ _ h L st q
    | _ => exact h _ _ _ q
  | cond c a b iha ihb => intro az Q Q' h L st hh; exact O0 (iha _ _ _ h L st) (ihb _ _ _ h L st) hh
  | block i b ih =>
    intro az Q Q' h L st hh
    refine ih _ _ _ ?_ L st hh
    intro e L st q
    cases e with
    | exit j =>
      simp only [Q3] at *
      cases hb : Nat.beq j i with
      | true => rw [hb] at q; exact h _ _ _ q
      | false => rw [hb] at q; exact h _ _ _ q
    | _ => exact h _ _ _ q
  | loop b ih =>
    intro az Q Q' h L st hh
    obtain ⟨keep, hh⟩ := hh
    refine ⟨keep, fun X hX => hh X fun vs os q => hX vs os (ih _ _ _ ?_ _ _ q)⟩
    intro e L st q
    cases e with
    | normal => exact q
    | _ => exact h _ _ _ q
  | scope b ih => intro az Q Q' h L st hh; exact ih _ _ _ h L st hh
  | rangeFunc f ps a b iha ihb =>
    intro az Q Q' h L st hh
    obtain ⟨keep, h0, hh⟩ := hh
    refine ⟨keep, h0, ?_⟩
    unfold Mu at *
    split at hh
    · unfold Kq at *
      split at hh
      · refine ⟨hh.1, fun l => Qf (fun p args X X' st hX hr => ⟨hr.1, hr.2.1, iha _ _ _ (fun e L st q => (by
          cases e with
          | normal => exact ihb _ _ _ (fun e _ st q => hX e st q) _ _ q
          | _ => exact q.elim)) _ _ hr.2.2⟩) _ _ _ (fun e pe L st q => (by
          cases e with
          | exit id => exact q.elim
          | normal =>
            cases pe with
            | none => exact h _ _ _ q
            | some e => exact h _ _ _ q
          | ret =>
            cases pe with
            | none => exact h _ _ _ q
            | some e => exact h _ _ _ q)) _ _ _ (hh.2 l)⟩
      · exact hh.elim
    · exact hh.elim
  | goto => intro _ _ _ _ _ _ hh; exact hh.elim
  | refuse => intro _ _ _ _ _ _ hh; exact hh.elim
theorem Gx {P : Program} {T : ed} {az : Nat} (c : Code) (Q Q' : QL) (h : ∀ e L st, Q e L st → Q' e L st) (L : SL) (st : St) (hh : wl P T az c Q L st) : wl P T az c Q' L st := asu c az Q Q' h L st hh
theorem dh {α : Type} {P : Program} {T : ed} {az : Nat} {b : Code} {Q : QL} {L : SL} {st : St} (keep : List Nat) (V : α → List AV) (O : α → List (Option bc)) (I : α → Prop) (μ : α → Nat) (x : α) (hx : I x)
    (hv : jz az keep L st = V x) (ho : gb az keep L st = O x)
    (step : ∀ x, I x → wl P T az b (xa az keep (fun vs os => ∃ y, I y ∧ μ y < μ x ∧ vs = V y ∧ os = O y) Q) (mz keep (V x)) (bp (O x))) : rn az (wl P T az b) Q L st :=
  rn.of keep V O I μ x hx hv ho (fun _ _ h => Gx b _ _ h) step
section cods
theorem qa {α : Type} (C : dg α) (l : Bool) (xs : List α) : (cr C).val l xs = .vl l C.sz (xs.map (C.val l)) := id rfl
theorem vz {α : Type} (C : dg α) : (cr C).sz = 1 := id rfl
theorem Xz : an.sz = 1 := id rfl
theorem aff : cp.sz = 1 := id rfl
theorem yh : c8.sz = 1 := id rfl
theorem so : bn.sz = 1 := id rfl
theorem sw (k : IntKind) : (aw k).sz = 1 := id rfl
theorem we : bt.sz = 1 := id rfl
theorem Fw (l : Bool) (x : UInt8) : cp.val l x = .sc (.int .u8 x.toNat) := id rfl
theorem T7 (l : Bool) (x : UInt16) : c8.val l x = .sc (.int .u16 x.toNat) := id rfl
theorem Tt (l : Bool) (x : UInt32) : bn.val l x = .sc (.int .u32 x.toNat) := id rfl
theorem Tg (k : IntKind) (l : Bool) (x : Int) : (aw k).val l x = .sc (.int k x) := id rfl
theorem O7 (l : Bool) (x : Bool) : bt.val l x = .sc (.bool x) := id rfl
theorem ail (o i : Nat) : idx [] o i = none := id rfl
theorem aa3 {α : Type} (C : dg α) (τ : Nat → Option Nat) (l : Bool) : AV.db τ ∘ C.val l = C.val l := by funext x; exact Nj C τ l x
theorem T5 (l : Bool) (x : ByteArray) : an.val l x = .sc (.string x) := id rfl
theorem re {α : Type} (C : dg α) (fr : Bool) (h : Tr bc) (a : AV) (h1 : a.known = true) (h2 : a.isAgg = C.agg) : C.fo fr h a = C.dec fr h a.cells := by
  unfold dg.fo; rw [h1, h2]; simp
theorem Ui (fr : Bool) (h : Tr bc) (n : Int) (h0 : 0 ≤ n) (h1 : n < 4294967296) : bn.fo fr h (.sc (.int .u32 n)) = some (UInt32.ofNat n.toNat) := by
  rw [re _ _ _ _ rfl rfl]; show ad7 (.int .u32 n) = _; simp [ad7, h0, h1]
theorem Yy (fr : Bool) (h : Tr bc) (n : UInt32) : bn.fo fr h (.sc (.int .u32 n.toNat)) = some n := bn.K0 fr h true n (fun _ => rfl)
theorem ve (fr : Bool) (h : Tr bc) (n : UInt16) : c8.fo fr h (.sc (.int .u16 n.toNat)) = some n := c8.K0 fr h true n (fun _ => rfl)
theorem Ue (k : IntKind) (fr : Bool) (h : Tr bc) (n : Int) : (aw k).fo fr h (.sc (.int k n)) = some n := (aw k).K0 fr h true n (fun _ => rfl)
theorem P4 (fr : Bool) (h : Tr bc) (b : Bool) : bt.fo fr h (.sc (.bool b)) = some b := bt.K0 fr h true b (fun _ => rfl)
theorem Sv (fr : Bool) (h : Tr bc) (s : ByteArray) : an.fo fr h (.sc (.string s)) = some s := an.K0 fr h true s (fun _ => rfl)
theorem A1 {α : Type} (C : dg α) (fr : Bool) (h : Tr bc) (a : AV) (h1 : a.known = true) (h2 : a.isAgg = false) (h3 : a.cells = [a]) : (cr C).fo fr h a = ew C fr h a := by
  rw [re _ _ _ _ h1 h2, h3]; rfl
theorem av2 {α : Type} (C : dg α) (fr : Bool) (h : Tr bc) (l : Bool) (xs : List α) (hl : (l || !fr) = true) : (cr C).fo fr h (.vl l C.sz (xs.map (C.val l))) = some xs := by
  refine (cr C).K0 fr h l xs ?_
  cases fr <;> simp_all
theorem abd {α : Type} (C : dg α) (fr : Bool) (h : Tr bc) : ew C fr h (.sc (.slice none 0 0)) = some [] := id rfl
theorem wh {α : Type} (C : dg α) (fr : Bool) (h : Tr bc) (l : Bool) (xs : List α) (n : Nat) (hn : n = C.sz) (hl : (l || !fr) = true) : ew C fr h (.vl l n (xs.map (C.val l))) = some xs := by
  subst hn
  have : (cr C).fo fr h (.vl l C.sz (xs.map (C.val l))) = some xs := av2 C fr h l xs hl
  rwa [A1 C fr h _ rfl rfl rfl] at this
theorem aji {α : Type} (C : dg α) (fr : Bool) (h : Tr bc) (o off len n : Nat) : ew C fr h (.sl o off len n) = bif decide (n = C.sz) then (h.get o).bind (nf C fr h off len) else none := by
  show (bif Nat.beq n C.sz then _ else _) = _
  rw [ak9]
theorem aAf {α : Type} (C : dg α) (fr : Bool) (h : Tr bc) (n : Nat) (l : List AV) : y5 C fr h (n + 1) l = match C.dec fr h (l.take C.sz), y5 C fr h n (l.drop C.sz) with | some x, some xs => some (x :: xs) | _, _ => none := id rfl
theorem U3 (fr : Bool) (h : Tr bc) (n : Int) (h0 : 0 ≤ n) (h1 : n < 256) : cp.dec fr h [.sc (.int .u8 n)] = some (UInt8.ofNat n.toNat) := by
  show u8V (.int .u8 n) = _; simp [u8V, h0, h1]
theorem axg {α β : Type} (A : dg α) (B : dg β) (l : Bool) (p : α × β) : (r2 A B).E l p = .fh [A.val l p.1, B.val l p.2] := id rfl
theorem awo {α : Type} (A : dg α) (l : Bool) (x : α) : (r1 A).E l x = A.val l x := id rfl
theorem ac3 (T : ed) (g : Nat) (a b : Array Value) (args : List AV) : tg T (.sc (.func (.func g) a b)) args = rq T g (a.toList.map .sc ++ args ++ b.toList.map .sc) := id rfl
theorem acp (T : ed) (g : Nat) (a b : List AV) (args : List AV) : tg T (.fn (.func g) a b) args = rq T g (a ++ args ++ b) := id rfl
theorem Yf (f : Nat) (b : Bool) (m : List AV → M AV) (T : ed) (args : List AV) : rq ((f, b, m) :: T) f args = mono (m args) := by simp [rq, ed.find]
theorem U0 (f g : Nat) (b : Bool) (m : List AV → M AV) (T : ed) (args : List AV) (h : (f == g) = false) : rq ((f, b, m) :: T) g args = rq T g args := by
  have : f ≠ g := by simpa using h
  simp [rq, ed.find, lz this]
theorem ac4 {α : Type} (A : AC α) (F : α → Option AV) (args : List AV) (st : St) : dc A F args st = match A.get .nil args with | some x => (F x).map fun r => (r, st) | none => match A.get st.h args with | some x => (match F x with | some r => bif r.fresh then some (r, st) else none | none => none) | none => none := id rfl
theorem awm {α β : Type} (A : dg α) (B : dg β) (fr : Bool) (h : Tr bc) (a b : AV) : (r2 A B).get fr h (.fh [a, b]) = match A.fo fr h a, B.fo fr h b with | some x, some y => some (x, y) | _, _ => none := id rfl
theorem ax0 (h : Tr bc) : a0.get h [] = some () := id rfl
theorem axd {α β : Type} (C : dg α) (R : AC β) (h : Tr bc) (a : AV) (r : List AV) : (aC C R).get h (a :: r) = match C.fo false h a, R.get h r with | some x, some y => some (x, y) | _, _ => none := id rfl
theorem axu {α : Type} (A : dg α) (fr : Bool) (h : Tr bc) (a : AV) : (r1 A).get fr h a = A.fo fr h a := id rfl
end cods
section
variable (P : Program)
theorem Xr (pl : Nat → Option (Nat × Nat)) (cells : List AV) : u0 pl cells [] = some cells := id rfl
theorem Rk (pl : Nat → Option (Nat × Nat)) (cells : List AV) (i : Nat) (v : AV) (rest : List (Nat × AV)) : u0 pl cells ((i, v) :: rest) = match pl i with
    | none => none
    | some (off, size) => bif !v.known || !(Nat.beq v.cells.length size) || !(Nat.ble (off + size) cells.length) then none else u0 pl (cells.take off ++ v.cells ++ cells.drop (off + size)) rest := id rfl
def w8 (t : TypeId) : Option (List AV × List (Nat × Nat)) :=
  match ef P t, P.underlying t with
  | some z, some (.struct fields) => (Gl P fields).map fun pl => (z.cells.toList.map .sc, pl)
  | _, _ => none
theorem U6 (t : TypeId) (ps : List (Nat × AV)) : pz P t ps = match w8 P t with
    | some (z, pl) => .of ((u0 (fun i => pl[i]?) z ps).map .agg)
    | none => pz P t ps := by
  cases hb : w8 P t with
  | none => rfl
  | some q =>
    obtain ⟨z, pl⟩ := q
    simp only [w8] at hb
    split at hb
    · rename_i z' fs hz hu
      cases hp : Gl P fs with
      | none => simp [hp] at hb
      | some pl' =>
        simp [hp] at hb
        obtain ⟨rfl, rfl⟩ := hb
        simp [pz, hz, hu, hp]
    · cases hb
def z0 (t : TypeId) : Option (TypeId × Nat × List AV) :=
  match od P t with
  | none => none
  | some e =>
    match de P e, ef P e with
    | some sz, some z => bif Nat.beq z.cells.size sz then some (e, sz, z.cells.toList.map .sc) else none
    | _, _ => none
theorem Ey (t : TypeId) (len : Nat) (ps : List (Nat × AV)) : i5 P t len ps = match z0 P t with
    | some (e, sz, z) =>
      match u0 (fun i => some (i * sz, sz)) (List.replicate len z).flatten ps with
      | some cells => bif Nat.ble (len * sz) 16777216 && Nat.ble len 16777216 then ki e sz len cells else .fail
      | none => .fail
    | none => i5 P t len ps := by
  cases hb : z0 P t with
  | none => rfl
  | some q =>
    obtain ⟨e, sz, z⟩ := q
    simp only [z0] at hb
    split at hb
    · cases hb
    · rename_i e' he
      split at hb
      · rename_i sz' z' hs hz
        cases hq : Nat.beq z'.cells.size sz' with
        | false => simp [hq] at hb
        | true =>
          simp [hq] at hb
          obtain ⟨rfl, rfl, rfl⟩ := hb
          simp only [i5, he, hs, hz, hq, Bool.and_true]
          rfl
      · cases hb
end
section ranges
variable (P : Program) (T : ed) (l az : Nat) (R : Hh) (Q : QI) (pe : Option Ex) (L : SL) (st : St)
theorem aas (f : Operand) (ps : Array Tmp) (a b : Code) (Q : QL) : wl P T az (.rangeFunc f ps a b) Q L st = aor P T f ps.toList (fun p => wl P T p a) (fun p => wl P T p b) az Q L st := id rfl
theorem afq : ox P T l R az .skip Q pe L st = Q .normal pe L st := id rfl
theorem Ub (i : Nat) (ops : Array Oper) : ox P T l R az (.region i ops false) Q pe L st = Ei P T l R az ops ops.toList (Q .normal) pe L st := id rfl
theorem ahr (a b : Code) : ox P T l R az (.seq a b) Q pe L st = ox P T l R az a (acz (ox P T l R az b) Q) pe L st := id rfl
theorem abr (c : Operand) (a b : Code) : ox P T l R az (.cond c a b) Q pe L st = A2 (c6 L c) (ox P T l R az a Q) (ox P T l R az b Q) pe L st := id rfl
theorem W3 (i : Nat) (a : Code) : ox P T l R az (.block i a) Q pe L st = ox P T l R az a (Re i Q) pe L st := id rfl
theorem ae7 (i : Nat) : ox P T l R az (.exit i) Q pe L st = Q (.exit i) pe L st := id rfl
theorem aio : ox P T l R az .ret Q pe L st = Q .ret pe L st := id rfl
theorem an1 (W : QI → Option Ex → SL → St → Prop) : acz W Q .normal pe L st = W Q pe L st := id rfl
theorem aqo (W : QI → Option Ex → SL → St → Prop) (i : Nat) : acz W Q (.exit i) pe L st = Q (.exit i) pe L st := id rfl
theorem anw (W : QI → Option Ex → SL → St → Prop) : acz W Q .ret pe L st = Q .ret pe L st := id rfl
theorem ano (i : Nat) : Re i Q .normal pe L st = Q .normal pe L st := id rfl
theorem am1 (i : Nat) : Re i Q .ret pe L st = Q .ret pe L st := id rfl
theorem anq (i j : Nat) : Re i Q (.exit j) pe L st = if j = i then Q .normal pe L st else Q (.exit j) pe L st := by
  show (bif Nat.beq j i then _ else _) = _
  rw [ak9]; by_cases h : j = i <;> simp [h]
theorem ajd (Q' : QL) : zi Q' Q .normal pe L st = (pe = none ∧ Q' .normal L st) := id rfl
theorem aip (Q' : QL) (i : Nat) : zi Q' Q (.exit i) pe L st = Q (.exit i) pe L st := id rfl
theorem ajk (Q' : QL) : zi Q' Q .ret pe L st = Q .ret pe L st := id rfl
theorem ai9 (Q : QL) (L0 : SL) : acd Q L0 .normal none L st = Q .normal L0 st := id rfl
theorem aib (Q : QL) (L0 : SL) (e : Ex) : acd Q L0 .ret (some e) L st = Q e L0 st := id rfl
theorem ade (ops : Array Oper) (K : Option Ex → SL → St → Prop) : Ei P T l R az ops [] K pe L st = K pe L st := id rfl
theorem Y0 (ops : Array Oper) (o : Oper) (r : List Oper) (K : Option Ex → SL → St → Prop) : Ei P T l R az ops (o :: r) K pe L st = Hw ops o.guard (opI P T l R az o (Ei P T l R az ops r K)) (Vg o.dst (Ei P T l R az ops r K)) pe L st := id rfl
theorem T9 (ops : Array Oper) (X Y : Option Ex → SL → St → Prop) : Hw ops none X Y pe L st = X pe L st := id rfl
theorem Rv (ops : Array Oper) (j : Nat) (c : Bool) (X Y : Option Ex → SL → St → Prop) : Hw ops (some (j, c)) X Y pe L st = aex (lk L (th ops j)) c X Y pe L st := id rfl
theorem ae4 (b : Bool) (X Y : Option Ex → SL → St → Prop) : aex (.sc (.bool b)) true X Y pe L st = A2 (.sc (.bool b)) X Y pe L st := by cases b <;> simp [aex, zj, Bf, Ff, A2, qb, AV.bool, AV.exact, ny]
theorem aik (X Y : Option Ex → SL → St → Prop) : A2 (.sc (.bool true)) X Y pe L st = X pe L st := by simp [A2, qb, AV.bool, AV.exact, ny]
theorem aid (X Y : Option Ex → SL → St → Prop) : A2 (.sc (.bool false)) X Y pe L st = Y pe L st := by simp [A2, qb, AV.bool, AV.exact, ny]
theorem sf (b : Bool) (X Y : Option Ex → SL → St → Prop) : A2 (.sc (.bool b)) X Y pe L st = ((b = true → X pe L st) ∧ (b = false → Y pe L st)) := by simp [A2, qb, AV.bool, AV.exact, ny]
theorem Uf (d : Option Tmp) (K : Option Ex → SL → St → Prop) : Vg d K pe L st = K pe (gj d (.sc undef) L) st := id rfl
theorem aok (o : Oper) (K : Option Ex → SL → St → Prop) : opI P T l R az o K pe L st = V1 P T R az o K pe L st (yieldOf l o L) := id rfl
theorem anf (o : Oper) (K : Option Ex → SL → St → Prop) : V1 P T R az o K pe L st none = G2 (ey P T o (c6 L) st) o.dst L (K pe) := id rfl
theorem abn (d : Option Tmp) (K : Option Ex → SL → St → Prop) : aam d L K .normal st = K none (gj d (.sc (.bool true)) L) st := id rfl
theorem aaf (d : Option Tmp) (K : Option Ex → SL → St → Prop) : aam d L K .ret st = K (some .ret) (gj d (.sc (.bool false)) L) st := id rfl
theorem ahx (B : QL → SL → St → Prop) (X : Ex → St → Prop) : atf B X .normal L st = B (fun e _ st => X e st) L st := id rfl
theorem Xa (k : Nat) (va vb : Array Value) : Al l (.sc (.func (.yield k) va vb)) = (Nat.beq k l && Nat.beq va.size 0 && Nat.beq vb.size 0) := id rfl
theorem Ou : x0 [] [] L = L := id rfl
theorem Mb (t : Nat) (ts : List Nat) (v : AV) (vs : List AV) : x0 (t :: ts) (v :: vs) L = x0 ts vs ((t, v) :: L) := id rfl
theorem asy {α : Type} {b : Code} (keep : List Nat) (V : α → List AV) (O : α → List (Option bc)) (I : α → Prop) (μ : α → Nat) (x : α) (hx : I x) (hR : ∀ p args (X X' : Ex → St → Prop) st, (∀ e st, X e st → X' e st) → R p args X st → R p args X' st)
    (hv : jz az keep L st = V x) (ho : gb az keep L st = O x)
    (step : ∀ x, I x → ox P T l R az b (zi (xa az keep (fun vs os => ∃ y, I y ∧ μ y < μ x ∧ vs = V y ∧ os = O y) (fun _ _ _ => False)) Q) none (mz keep (V x)) (bp (O x))) : ox P T l R az (.loop b) Q none L st :=
  ⟨rfl, rn.of (B := fun Q' L st => ox P T l R az b (zi Q' Q) none L st) keep V O I μ x hx hv ho (fun Q1 Q2 h L st hh => Qf hR b _ _ (fun e pe L st q => by
    cases e with
    | normal => exact ⟨q.1, h _ _ _ q.2⟩
    | ret => exact q
    | exit i => exact q) none L st hh) step⟩
theorem Ps {ps : List Tmp} {a b : Code} {L0 : SL} : ∀ p args (X X' : Ex → St → Prop) st, (∀ e st, X e st → X' e st) → mo ps (fun p => wl P T p a) (fun p => wl P T p b) L0 p args X st → mo ps (fun p => wl P T p a) (fun p => wl P T p b) L0 p args X' st :=
  fun p args X X' st hX hr => ⟨hr.1, hr.2.1, Gx _ _ _ (fun e L st q => by
    cases e with
    | normal => exact Gx _ _ _ (fun e _ st q => hX e st q) _ _ q
    | _ => exact q.elim) _ _ hr.2.2⟩
end ranges
section yields
variable {lp : Nat} {L : SL} {d : Option Tmp} {ty : TypeId} {pos : String} {af : Array Edge} {gd : Option (Nat × Bool)}
theorem Kr (x) : yieldOf lp ⟨d, .move x, ty, pos, af, gd⟩ L = none := id rfl
theorem Hq (x) : yieldOf lp ⟨d, .assign x, ty, pos, af, gd⟩ L = none := id rfl
theorem Mf (t a) : yieldOf lp ⟨d, .load t a, ty, pos, af, gd⟩ L = none := id rfl
theorem Cc (s x f) : yieldOf lp ⟨d, .fieldAddr s x f, ty, pos, af, gd⟩ L = none := id rfl
theorem Jt (op t x y u) : yieldOf lp ⟨d, .binOp op t x y u, ty, pos, af, gd⟩ L = none := id rfl
theorem Lv (c a b) : yieldOf lp ⟨d, .pick c a b, ty, pos, af, gd⟩ L = none := id rfl
theorem Jb (t a x) : yieldOf lp ⟨d, .store t a x, ty, pos, af, gd⟩ L = none := id rfl
theorem Cd (t x i) : yieldOf lp ⟨d, .indexAddr t x i, ty, pos, af, gd⟩ L = none := id rfl
theorem Jd (t) : yieldOf lp ⟨d, .alloc t, ty, pos, af, gd⟩ L = none := id rfl
theorem Mv (op t x) : yieldOf lp ⟨d, .unOp op t x, ty, pos, af, gd⟩ L = none := id rfl
theorem Pp (x ts) : yieldOf lp ⟨d, .call { callee := .builtin .len, args := #[x], argTypes := ts }, ty, pos, af, gd⟩ L = none := id rfl
theorem Ku (f : Operand) (args : Array Operand) (ts : Array TypeId) : yieldOf lp ⟨d, .call { callee := .value f, args := args, argTypes := ts }, ty, pos, af, gd⟩ L = bif Al lp (c6 L f) then some args else none := id rfl
end yields
end
end Go.Vm
namespace Go.Vm
noncomputable section
section
variable (P : Program) (ρ : Operand → AV) (d : Option Tmp) (ty : TypeId) (pos : String) (af : Array Edge) (gd : Option (Nat × Bool)) (t u : TypeId) (x y : Operand)
theorem J9 (op : BinOp) (k k' : IntKind) (a b : Int) (hx : ρ x = .sc (.int k a)) (hy : ρ y = .sc (.int k' b)) :
    m7 P ρ ⟨d, .binOp op t x y u, ty, pos, af, gd⟩ op t (.sc (.int k a)) (.sc (.int k' b)) = M.of ((ev P (binOp op t (.int k a) (.int k' b))).map .sc) := by
  have h1 : ∀ s : Sem Value, ev P (do pure (Next.value (← s))) = (ev P s).map Next.value := by
    intro s
    induction s with
    | pure b => rfl
    | program k ih => exact ih P
    | choose q k ih =>
      simp only [bind, Sem.bind, ev]
      split
      · exact ih 0
      · rfl
    | mark m k ih => exact ih
    | _ => rfl
  have h2 : execOp (fun z => ((ρ z).fy).getD undef) ⟨d, .binOp op t x y u, ty, pos, af, gd⟩ = (do pure (Next.value (← (do eqGuard op t x y (.int k a) (.int k' b); binOp op t (.int k a) (.int k' b))))) := by
    simp only [execOp, hx, hy, AV.fy, Option.getD_some]
  have h3 : ev P (do eqGuard op t x y (.int k a) (.int k' b); binOp op t (.int k a) (.int k' b)) = ev P (binOp op t (.int k a) (.int k' b)) := by
    cases op <;> rfl
  unfold m7 s6
  simp only [AV.fy, Option.isSome_some, Bool.and_self, cond_true]
  rw [h2, h1, h3]
  cases ev P (binOp op t (.int k a) (.int k' b)) <;> rfl
theorem aqd (k k' : IntKind) (a b : Int) (h : 0 ≤ b) : ev P (binOp .shl t (.int k a) (.int k' b)) = some (.int k (k.wrap (a * 2 ^ (min b.toNat k.bits)))) := by
  have : ¬ b < 0 := by omega
  simp [binOp, Op.shift, this, ui]
theorem apc (k k' : IntKind) (a b : Int) (h : 0 ≤ b) : ev P (binOp .shr t (.int k a) (.int k' b)) = some (.int k (a.fdiv (2 ^ (min b.toNat k.bits)))) := by
  have : ¬ b < 0 := by omega
  simp [binOp, Op.shift, this, ui]
theorem at1 (k : IntKind) (a b : Int) : ev P (binOp .or t (.int k a) (.int k b)) = some (.int k (k.wrap (((a % 2 ^ k.bits).toNat ||| (b % 2 ^ k.bits).toNat : Nat) : Int))) := by
  simp [binOp, Op.intBits, ui]
theorem ar1 {d : TypeDesc} (h : P.underlying t = some d) : ev P (underlying t) = some d := by
  rw [underlying]
  show ev P (match P.underlying t with | some d => pure d | none => _) = _
  rw [h]; rfl
theorem K8 (op : BinOp) (a b : ByteArray) (hx : ρ x = .sc (.string a)) (hy : ρ y = .sc (.string b)) :
    m7 P ρ ⟨d, .binOp op t x y u, ty, pos, af, gd⟩ op t (.sc (.string a)) (.sc (.string b)) = M.of ((ev P (binOp op t (.string a) (.string b))).map .sc) := by
  have h1 : ∀ s : Sem Value, ev P (do pure (Next.value (← s))) = (ev P s).map Next.value := by
    intro s
    induction s with
    | pure b => rfl
    | program k ih => exact ih P
    | choose q k ih =>
      simp only [bind, Sem.bind, ev]
      split
      · exact ih 0
      · rfl
    | mark m k ih => exact ih
    | _ => rfl
  have h2 : execOp (fun z => ((ρ z).fy).getD undef) ⟨d, .binOp op t x y u, ty, pos, af, gd⟩ = (do pure (Next.value (← (do eqGuard op t x y (.string a) (.string b); binOp op t (.string a) (.string b))))) := by
    simp only [execOp, hx, hy, AV.fy, Option.getD_some]
  have h3 : ev P (do eqGuard op t x y (.string a) (.string b); binOp op t (.string a) (.string b)) = ev P (binOp op t (.string a) (.string b)) := by
    cases op <;> rfl
  unfold m7 s6
  simp only [AV.fy, Option.isSome_some, Bool.and_self, cond_true]
  rw [h2, h1, h3]
  cases ev P (binOp op t (.string a) (.string b)) <;> rfl
theorem str_eq (a b : ByteArray) : (a.toList == b.toList) = decide (a = b) := by
  rw [ByteArray.toList_eq, ByteArray.toList_eq, Bool.eq_iff_iff]
  simp only [beq_iff_eq, decide_eq_true_eq]
  constructor
  · intro h
    cases a; cases b
    congr 1
    exact Array.ext' h
  · intro h; rw [h]
theorem Tp (a b : ByteArray) : ev P (binOp .eql t (.string a) (.string b)) = some (.bool (decide (a = b))) := by
  rw [← str_eq]; rfl
theorem Us (a b : ByteArray) : ev P (binOp .neq t (.string a) (.string b)) = some (.bool (!decide (a = b))) := by
  rw [← str_eq]; rfl
end
def M7 (u : Option TypeDesc) : Bool := match u with | some (.slice _) => true | _ => false
theorem ahn (e) : M7 (some (.slice e)) = true := id rfl
theorem aiv {u} (h : M7 u = true) : ∃ e, u = some (.slice e) := by
  unfold M7 at h; split at h
  · exact ⟨_, rfl⟩
  · cases h
theorem aim {P : Program} {t op x y} (h : M7 (P.underlying t) = true) : Et P t op x y = C4 op x y := by
  obtain ⟨e, he⟩ := aiv h
  unfold Et; rw [he]
theorem Sz (P : Program) (ρ o op t l sz es b) : m7 P ρ o op t (.vl l sz es) b = Et P t op (.vl l sz es) b := id rfl
theorem ah5 (b) : np .eql b = M.pure (.sc (.bool b)) := id rfl
theorem G3 (P : Program) (ρ : Operand → AV) (d ty pos af gd) (t u : TypeId) (x y : Operand) (op : BinOp) (a b : Option Addr) (n c m k : Nat) (hx : ρ x = .sc (.slice a n c)) (hy : ρ y = .sc (.slice b m k)) :
    m7 P ρ ⟨d, .binOp op t x y u, ty, pos, af, gd⟩ op t (.sc (.slice a n c)) (.sc (.slice b m k)) = M.of ((ev P (binOp op t (.slice a n c) (.slice b m k))).map .sc) := by
  have h1 : ∀ s : Sem Value, ev P (do pure (Next.value (← s))) = (ev P s).map Next.value := by
    intro s
    induction s with
    | pure b => rfl
    | program k ih => exact ih P
    | choose q k ih =>
      simp only [bind, Sem.bind, ev]
      split
      · exact ih 0
      · rfl
    | mark m k ih => exact ih
    | _ => rfl
  have h2 : execOp (fun z => ((ρ z).fy).getD undef) ⟨d, .binOp op t x y u, ty, pos, af, gd⟩ = (do pure (Next.value (← (do eqGuard op t x y (.slice a n c) (.slice b m k); binOp op t (.slice a n c) (.slice b m k))))) := by
    simp only [execOp, hx, hy, AV.fy, Option.getD_some]
  have h3 : ev P (do eqGuard op t x y (.slice a n c) (.slice b m k); binOp op t (.slice a n c) (.slice b m k)) = ev P (binOp op t (.slice a n c) (.slice b m k)) := by
    cases op <;> rfl
  unfold m7 s6
  simp only [AV.fy, Option.isSome_some, Bool.and_self, cond_true]
  rw [h2, h1, h3]
  cases ev P (binOp op t (.slice a n c) (.slice b m k)) <;> rfl
theorem Z0 {P : Program} {t : TypeId} {a : Option Addr} {n c m k : Nat} (d : Nat) (h : M7 (P.underlying t) = true) : ev P (Op.equalIn (d + 1) t (.slice a n c) (.slice none m k)) = some a.isNone := by
  obtain ⟨e, he⟩ := aiv h
  simp only [Op.equalIn]
  rw [ot, ar1 P t he]
  cases a <;> rfl
theorem K1 {P : Program} {t : TypeId} {a : Option Addr} {n c m k : Nat} (h : M7 (P.underlying t) = true) : ev P (binOp .eql t (.slice a n c) (.slice none m k)) = some (.bool a.isNone) := by
  show ev P (do pure (Value.bool (← Op.equalIn (9999 + 1) t (.slice a n c) (.slice none m k)))) = _
  rw [ot, Z0 9999 h]
  rfl
end
end Go.Vm
namespace Go.Vm
noncomputable section
abbrev Name := List ByteArray
structure c7 where
  names : List Name
  nums : List UInt32
  texts : List ByteArray
  raw : List UInt8
def mkD (a : List Name) (b : List UInt32) (c : List ByteArray) (e : List UInt8) : c7 := ⟨a, b, c, e⟩
theorem ajg (d : c7) : mkD d.names d.nums d.texts d.raw = d := id rfl
noncomputable def ar : dg Name := cr an
noncomputable def cd : dg c7 := vr (jk (cr ar) (jk (cr bn) (jk ar (cr cp)))) (fun d => (d.names, d.nums, d.texts, d.raw)) (fun p => ⟨p.1, p.2.1, p.2.2.1, p.2.2.2⟩) (fun _ => rfl) (fun _ => rfl)
theorem di (l : Bool) (n : Name) : ar.val l n = .vl l 1 (n.map (an.val l)) := id rfl
theorem pf : ar.sz = 1 := id rfl
theorem T4 : cd.sz = 4 := id rfl
theorem mc (l : Bool) (d : c7) : cd.val l d = .agg [.vl l 1 (d.names.map (ar.val l)), .vl l 1 (d.nums.map (bn.val l)), .vl l 1 (d.texts.map (an.val l)), .vl l 1 (d.raw.map (cp.val l))] := id rfl
theorem On (fr : Bool) (h : Tr bc) (x1 x2 x3 x4 : AV) :
    cd.fo fr h (.agg [x1, x2, x3, x4]) = match ew ar fr h x1, ew bn fr h x2, ew an fr h x3, ew cp fr h x4 with
      | some a, some b, some c, some e => some (mkD a b c e)
      | _, _, _, _ => none := by
  rw [re _ _ _ _ rfl rfl]
  have h1 : cd.dec fr h (AV.agg [x1, x2, x3, x4]).cells = Option.map (fun p => (⟨p.1, p.2.1, p.2.2.1, p.2.2.2⟩ : c7)) ((jk (cr ar) (jk (cr bn) (jk ar (cr cp)))).dec fr h [x1, x2, x3, x4]) := rfl
  have d2 : ∀ {α β : Type} (A : dg α) (B : dg β) (l : List AV), (jk A B).dec fr h l = match A.dec fr h (l.take A.sz), B.dec fr h (l.drop A.sz) with | some x, some y => some (x, y) | _, _ => none := fun _ _ _ => rfl
  have l1 : ∀ {α : Type} (C : dg α) (x : AV), (cr C).dec fr h [x] = ew C fr h x := fun _ _ => rfl
  have n1 : ∀ x, ar.dec fr h [x] = ew an fr h x := fun _ => rfl
  rw [h1]
  simp only [d2, vz, pf, List.take_succ_cons, List.take_zero, List.drop_succ_cons, List.drop_zero, l1, n1]
  cases ew ar fr h x1 <;> cases ew bn fr h x2 <;> cases ew an fr h x3 <;> cases ew cp fr h x4 <;> rfl
theorem Lw {α : Type} (C : dg α) (fr : Bool) (h : Tr bc) (l : Bool) (n : Nat) (es : List AV) : (cr C).fo fr h (.vl l n es) = ew C fr h (.vl l n es) := A1 C fr h _ rfl rfl rfl
theorem Lm {α : Type} (C : dg α) (fr : Bool) (h : Tr bc) (o off len n : Nat) : (cr C).fo fr h (.sl o off len n) = ew C fr h (.sl o off len n) := A1 C fr h _ rfl rfl rfl
theorem B8 {α : Type} (C : dg α) (fr : Bool) (h : Tr bc) : (cr C).fo fr h (.sc (.slice none 0 0)) = some [] := by
  rw [A1 C fr h _ rfl rfl rfl]; rfl
theorem Ft (fr : Bool) (h : Tr bc) (l : Bool) (n : Nat) (es : List AV) : ar.fo fr h (.vl l n es) = ew an fr h (.vl l n es) := A1 an fr h _ rfl rfl rfl
theorem E6 (fr : Bool) (h : Tr bc) (o off len n : Nat) : ar.fo fr h (.sl o off len n) = ew an fr h (.sl o off len n) := A1 an fr h _ rfl rfl rfl
theorem Ek (fr : Bool) (h : Tr bc) : ar.fo fr h (.sc (.slice none 0 0)) = some [] := B8 an fr h
theorem Dt (l : List UInt8) : l.map Ap = l.map (cp.val false) := id rfl
theorem Jz {α : Type} (C : dg α) (b : Bool) (l : List α) : AV.names.go (l.map (C.val b)) = [] := F0 (fun c hc => by
  obtain ⟨x, _, rfl⟩ := List.mem_map.1 hc
  exact Ln C b x)
theorem w5 : ∀ (l : List UInt8) (b : Bool), bytesOf (l.map (cp.val b)) = some l
  | [], _ => rfl
  | c :: l, b => by
    rw [List.map_cons, Fw, bytesOf, w5 l b]
    simp
end
end Go.Vm
section
namespace Go.Vm.Cx
open Go.Vm
noncomputable section
theorem Bx {P : Program} (w : World) : ∀ (ns : List Int) (a : Addr) (i : Nat) (acc : ByteArray), (∀ (j : Nat) x, ns[j]? = some x → (load (a.add (i + j))).run P w = .ok (.int .u8 x) w) →
    (Extern.Bytes.loadBytes (a.add i) ns.length acc).run P w = .ok ⟨acc.data ++ (ns.map fun n => UInt8.ofNat n.toNat).toArray⟩ w
  | [], a, i, acc, _ => by simp [Extern.Bytes.loadBytes]
  | x :: l, a, i, acc, h => by
    have h0 := h 0 x rfl
    rw [Nat.add_zero] at h0
    have e : (a.add i).add 1 = a.add (i + 1) := by
      unfold Addr.add
      by_cases hj : i = 0
      · subst hj; simp
      · simp [hj]; omega
    have ih := Bx (P := P) w l a (i + 1) (acc.push x.toNat.toUInt8) (fun j y hy => by
      have := h (j + 1) y (by simpa using hy)
      rw [show i + 1 + j = i + (j + 1) from by omega]; exact this)
    simp only [List.length_cons, Extern.Bytes.loadBytes, Sem.run_bind, h0, Result.andThen]
    rw [e, ih]
    congr 1
    apply ByteArray.ext
    simp [ByteArray.push, Nat.toUInt8]
theorem Vs {l : List Int} {l' : List Value} (h : l' = l.map (Value.int .u8)) (j : Nat) (x : Int) (hx : l[j]? = some x) : l'[j]? = some (.int .u8 x) := by rw [h, List.getElem?_map, hx]; rfl
theorem Bo {P : Program} {g st bh w} {a : AV} {v : Value} {l : List AV} {bs : List UInt8} (hok : Ok g st.h w) (hr : Rel g w a v) (h : cellsIn 1 a st = some (l, bh)) (hb : bytesOf l = some bs) :
    (Extern.Bytes.bytesOf v).run P w = .ok ⟨bs.toArray⟩ w := by
  obtain ⟨_, _, n, news, hsrc, hrl⟩ := wg (P := P) hok hr h
  obtain ⟨ns, e1, e2⟩ := Ci _ _ _ hrl hb
  obtain ⟨r1, r2⟩ := hsrc.run w rfl
  cases v with
  | slice p len cap =>
    have hn : n = len := by simp [Builtin.lenOf] at r1; exact r1.symm
    subst hn
    cases p with
    | none =>
      have : news = [] := by simpa [Builtin.firstCells] using r2
      subst this
      have : ns = [] := by simpa using e1.symm
      subst this
      subst e2
      rfl
    | some a =>
      simp only [Builtin.firstCells, Nat.mul_one] at r2
      unfold loadCells at r2
      obtain ⟨l', q1, q2, q3⟩ := loadCellsFrom_ok a n 0 #[] _ _ r2
      have hl' : l' = news := by simpa using q2.symm
      subst hl'
      have hlen : ns.length = n := by rw [← q1, e1, List.length_map]
      have := Bx (P := P) w ns a 0 .empty (fun j x hx => by
        exact q3 j _ (Vs e1 j x hx))
      rw [hlen] at this
      have e0 : a.add 0 = a := by simp [Addr.add]
      rw [e0] at this
      show (Extern.Bytes.loadBytes a n .empty).run P w = _
      rw [this, e2]
      congr 2
      simp [ByteArray.empty, ByteArray.emptyWithCapacity]
      rfl
  | string s =>
    have hn : n = s.size := by simp [Builtin.lenOf] at r1; exact r1.symm
    subst hn
    simp only [Builtin.firstCells, Sem.run_pure, Result.ok.injEq, and_true] at r2
    have h1 := congrArg Array.toList r2
    rw [e1] at h1
    show Result.ok s w = _
    congr 1
    apply ByteArray.ext
    apply Array.ext'
    rw [e2]
    have h2 := congrArg (List.map fun v : Value => match v with | .int _ n => UInt8.ofNat n.toNat | _ => 0) h1
    simp only [List.map_map, Array.toList_map] at h2
    have h3 : (s.extract 0 s.size).data.toList = s.data.toList := by simp
    rw [h3] at h2
    have h4 : (List.map ((fun v : Value => match v with | .int _ n => UInt8.ofNat n.toNat | _ => 0) ∘ fun b : UInt8 => Value.int .u8 (b.toNat : Int)) s.data.toList) = s.data.toList := by
      rw [show ((fun v : Value => match v with | .int _ n => UInt8.ofNat n.toNat | _ => 0) ∘ fun b : UInt8 => Value.int .u8 (b.toNat : Int)) = id from by funext b; simp]
      simp
    rw [h4] at h2
    rw [h2]
    simp
  | _ => simp [Builtin.lenOf, stuck] at r1
def Cn (args : List AV) : M AV :=
  match args with
  | [a] => .pure a
  | _ => .fail
def iq (args : List AV) : M AV :=
  match args with
  | [a, b] => (cellsIn 1 a).bind fun x => (cellsIn 1 b).bind fun y =>
    match bytesOf x with
    | some x =>
      match bytesOf y with
      | some y => .pure (.sc (goInt (Lib.compareBytes x y)))
      | none => .fail
    | none => .fail
  | _ => .fail
def ea {α : Type} (m : M α) : Prop := ∀ st v bh, m st = some (v, bh) → bh.h = st.h ∧ bh.nx = st.nx
theorem ea.pure {α : Type} (a : α) : ea (M.pure a) := fun st v bh h => by cases h; exact ⟨rfl, rfl⟩
theorem ea.fail {α : Type} : ea (M.fail : M α) := fun st v bh h => by cases h
theorem ea.bind {α β : Type} {m : M α} {f : α → M β} (hm : ea m) (h : ∀ x, ea (f x)) : ea (m.bind f) := fun st v bh hb => by
  obtain ⟨x, s1, h1, h2⟩ := bind_some hb
  have h3 := hm _ _ _ h1
  have h4 := h x _ _ _ h2
  exact ⟨h4.1.trans h3.1, h4.2.trans h3.2⟩
theorem ea.cx (id : Nat) : ea (Vm.cx id) := fun _st _v _st1 h => (fi h).2
theorem ea.cond {α : Type} {b : Bool} {x y : M α} (hx : ea x) (hy : ea y) : ea (bif b then x else y) := by cases b <;> assumption
theorem ea.cellsIn (sz : Nat) (v : AV) : ea (Vm.cellsIn sz v) := by
  unfold Vm.cellsIn xt
  repeat' (first | exact ea.pure _ | exact ea.fail | apply ea.cond | (refine ea.bind (ea.cx _) fun x => ?_) | split)
theorem Am (args : List AV) : ea (iq args) := by
  unfold iq; split
  · exact ea.bind (ea.cellsIn _ _) fun x => ea.bind (ea.cellsIn _ _) fun y => by
      split
      · split
        · exact ea.pure _
        · exact ea.fail
      · exact ea.fail
  · exact ea.fail
theorem Ka {P : Program} {f : Nat} {fn : Func} (hf : P.funcs[f]? = some fn) (h1 : (fn.name == "runtime.NumGoroutine") = false) (h2 : fn.body.isNone = true) (h3 : Extern.findNext fn = none) (h4 : Extern.find fn = some Extern.AbiNoEscape.same) (args : List AV) :
    A6 P f args (Cn args) := by
  intro g st w vs r st' hok hfree hrel hm
  refine .inl ?_
  unfold Cn at hm
  split at hm
  · rename_i a
    cases hm
    obtain ⟨v, rfl, hv⟩ := zy hrel
    refine ⟨v, w, g, ?_, .refl _ _ _ _ _, hok, hv⟩
    rw [run_callFunc_extern hf h1 h2 h3 h4]
    rfl
  · cases hm
theorem vq {P : Program} {f : Nat} {fn : Func} (hf : P.funcs[f]? = some fn) (h1 : (fn.name == "runtime.NumGoroutine") = false) (h2 : fn.body.isNone = true) (h3 : Extern.findNext fn = none) (h4 : Extern.find fn = some Extern.BytealgCompare.compare) (args : List AV) :
    A6 P f args (iq args) := by
  intro g st w vs r st' hok hfree hrel hm
  refine .inl ?_
  have hst := Am _ _ _ _ hm
  unfold iq at hm
  split at hm
  · rename_i a c
    obtain ⟨x, s1, e1, hm⟩ := bind_some hm
    obtain ⟨y, s2, e2, hm⟩ := bind_some hm
    cases hx : bytesOf x with
    | none => rw [hx] at hm; cases hm
    | some bx =>
    cases hy : bytesOf y with
    | none => rw [hx, hy] at hm; cases hm
    | some yb =>
    rw [hx, hy] at hm
    cases hm
    have hh := ea.cellsIn _ _ _ _ _ e1
    match vs, hrel with
    | [v, u], hrel =>
      have r1 := Bo (P := P) hok hrel.head e1 hx
      have r2 := Bo (P := P) (st := s1) (by rw [hh.1]; exact hok) hrel.tail.head e2 hy
      refine ⟨goInt (Lib.compareBytes bx yb), w, g, ?_, ?_, ?_, .sc _⟩
      · rw [run_callFunc_extern hf h1 h2 h3 h4]
        have : (Extern.BytealgCompare.compare #[v, u]).run P w = .ok (goInt (Lib.compareBytes bx yb)) w := by
          change Sem.run P (do pure (goInt (Extern.BytealgCompare.cmp (← Extern.Bytes.bytesOf v) (← Extern.Bytes.bytesOf u)))) w = _
          simp only [Sem.run_bind, r1, r2, Result.andThen, Sem.run_pure]
          rw [Lib.cmp_eq]
        show ((Extern.BytealgCompare.compare #[v, u]).run P w).andThen _ = _
        rw [this]
        rfl
      · rw [hst.1, hst.2]; exact .refl _ _ _ _ _
      · rw [hst.1]; exact hok
    | [], hrel => have := hrel.1; simp at this
    | [v], hrel => have := hrel.1; simp at this
    | _ :: _ :: _ :: _, hrel => have := hrel.1; simp at this
  · cases hm
end
end Go.Vm.Cx
end
section
set_option linter.unusedSimpArgs false
set_option linter.unnecessarySimpa false
namespace Go.Vm
noncomputable section
def roT (o : Option (Bool × (List AV → M AV))) : Bool := match o with | some (b, _) => b | none => false
theorem ath (b m) : roT (some (b, m)) = b := id rfl
theorem eg {o : Oper} {L : SL} {x : Operand} (h : x ∈ o.op.operands) : cj o L x = c6 L x := by
  cases x with
  | tmp t =>
    show (bif o.op.operands.any (fun x => match x with | .tmp u => Nat.beq u t | _ => false) then lk L t else .bad) = lk L t
    have : o.op.operands.any (fun x => match x with | .tmp u => Nat.beq u t | _ => false) = true := by
      rw [Array.any_eq_true']
      exact ⟨_, h, by simp⟩
    rw [this]; rfl
  | const v => rfl
  | global g => rfl
  | func f => rfl
theorem g6 {o : Oper} {L : SL} {l : List Operand} (h : ∀ x ∈ l, x ∈ o.op.operands) : l.map (cj o L) = l.map (c6 L) := List.map_congr_left fun x hx => eg (h x hx)
theorem Oc {o : Oper} {L : SL} {l : List (Nat × Operand)} (h : ∀ x ∈ l, x.2 ∈ o.op.operands) : l.map (fun p => (p.1, cj o L p.2)) = l.map (fun p => (p.1, c6 L p.2)) := List.map_congr_left fun x hx => by rw [eg (h x hx)]
def fg (ro : Bool) (F : List Nat) (o : Oper) (recs : List Rec) (K : List Rec → SL → St → Prop) (L : SL) (st : St) (m : M AV) : Prop := D8 ro F o recs K L st (m { h := jy st.h F, nx := st.nx, rl := [], wl := [] })
theorem Yv (ro F o recs K L st m) : fg ro F o recs K L st m = D8 ro F o recs K L st (m { h := jy st.h F, nx := st.nx, rl := [], wl := [] }) := id rfl
section ops
variable (P : Program) (T : ed) (L : SL) (st : St) (recs : List Rec) (K : List Rec → SL → St → Prop) (d : Option Tmp) (ty : TypeId) (pos : String) (af : Array Edge) (gd : Option (Nat × Bool))
theorem ads (x) : gi P T ⟨d, .move x, ty, pos, af, gd⟩ recs K L st = fg (true) ([]) ⟨d, .move x, ty, pos, af, gd⟩ recs K L st (mono (M.pure (c6 L x))) := by
  unfold gi k8 mr fg
  simp only [jh, cond_true]
  have hm : ∀ y, y ∈ ([x] : List Operand) → cj ⟨d, .move x, ty, pos, af, gd⟩ L y = c6 L y := fun y hy => eg (by simpa [Op.operands, Call.operands] using hy)
  have hmap : ([x] : List Operand).map (cj ⟨d, .move x, ty, pos, af, gd⟩ L) = ([x] : List Operand).map (c6 L) := g6 (fun y hy => by simpa [Op.operands, Call.operands] using hy)
  have ho : (⟨d, .move x, ty, pos, af, gd⟩ : Oper).op.operands.toList = [x] := by simp [Op.operands, Call.operands]
  rw [I2, hm x (by simp)]
  rfl
theorem U5 (x) : gi P T ⟨d, .assign x, ty, pos, af, gd⟩ recs K L st = fg (true) ([]) ⟨d, .assign x, ty, pos, af, gd⟩ recs K L st (mono (M.pure (c6 L x))) := by
  unfold gi k8 mr fg
  simp only [jh, cond_true]
  have hm : ∀ y, y ∈ ([x] : List Operand) → cj ⟨d, .assign x, ty, pos, af, gd⟩ L y = c6 L y := fun y hy => eg (by simpa [Op.operands, Call.operands] using hy)
  have hmap : ([x] : List Operand).map (cj ⟨d, .assign x, ty, pos, af, gd⟩ L) = ([x] : List Operand).map (c6 L) := g6 (fun y hy => by simpa [Op.operands, Call.operands] using hy)
  have ho : (⟨d, .assign x, ty, pos, af, gd⟩ : Oper).op.operands.toList = [x] := by simp [Op.operands, Call.operands]
  rw [Dx, hm x (by simp)]
  rfl
theorem abp (t a) : gi P T ⟨d, .load t a, ty, pos, af, gd⟩ recs K L st = fg (true) ((c6 L a).names) ⟨d, .load t a, ty, pos, af, gd⟩ recs K L st (mono (ja P t (c6 L a))) := by
  unfold gi k8 mr fg
  simp only [jh, cond_false]
  have hm : ∀ y, y ∈ ([a] : List Operand) → cj ⟨d, .load t a, ty, pos, af, gd⟩ L y = c6 L y := fun y hy => eg (by simpa [Op.operands, Call.operands] using hy)
  have hmap : ([a] : List Operand).map (cj ⟨d, .load t a, ty, pos, af, gd⟩ L) = ([a] : List Operand).map (c6 L) := g6 (fun y hy => by simpa [Op.operands, Call.operands] using hy)
  have ho : (⟨d, .load t a, ty, pos, af, gd⟩ : Oper).op.operands.toList = [a] := by simp [Op.operands, Call.operands]
  rw [I4, hm a (by simp)]
  rfl
theorem I7 (s x f) : gi P T ⟨d, .fieldAddr s x f, ty, pos, af, gd⟩ recs K L st = fg (true) ([]) ⟨d, .fieldAddr s x f, ty, pos, af, gd⟩ recs K L st (mono (j9 P s (c6 L x) f)) := by
  unfold gi k8 mr fg
  simp only [jh, cond_true]
  have hm : ∀ y, y ∈ ([x] : List Operand) → cj ⟨d, .fieldAddr s x f, ty, pos, af, gd⟩ L y = c6 L y := fun y hy => eg (by simpa [Op.operands, Call.operands] using hy)
  have hmap : ([x] : List Operand).map (cj ⟨d, .fieldAddr s x f, ty, pos, af, gd⟩ L) = ([x] : List Operand).map (c6 L) := g6 (fun y hy => by simpa [Op.operands, Call.operands] using hy)
  have ho : (⟨d, .fieldAddr s x f, ty, pos, af, gd⟩ : Oper).op.operands.toList = [x] := by simp [Op.operands, Call.operands]
  rw [yz, hm x (by simp)]
  rfl
theorem Xe (op t x y u) : gi P T ⟨d, .binOp op t x y u, ty, pos, af, gd⟩ recs K L st = fg (true) ([]) ⟨d, .binOp op t x y u, ty, pos, af, gd⟩ recs K L st (mono (xd P (cj ⟨d, .binOp op t x y u, ty, pos, af, gd⟩ L) ⟨d, .binOp op t x y u, ty, pos, af, gd⟩ op t x y)) := by
  unfold gi k8 mr fg
  simp only [jh, cond_true]
  have hm : ∀ y, y ∈ ([x, y] : List Operand) → cj ⟨d, .binOp op t x y u, ty, pos, af, gd⟩ L y = c6 L y := fun y hy => eg (by simpa [Op.operands, Call.operands] using hy)
  have hmap : ([x, y] : List Operand).map (cj ⟨d, .binOp op t x y u, ty, pos, af, gd⟩ L) = ([x, y] : List Operand).map (c6 L) := g6 (fun y hy => by simpa [Op.operands, Call.operands] using hy)
  have ho : (⟨d, .binOp op t x y u, ty, pos, af, gd⟩ : Oper).op.operands.toList = [x, y] := by simp [Op.operands, Call.operands]
  rfl
theorem aaw (c a b) : gi P T ⟨d, .pick c a b, ty, pos, af, gd⟩ recs K L st = fg (true) ([]) ⟨d, .pick c a b, ty, pos, af, gd⟩ recs K L st (mono (tr (c6 L c) (c6 L a) (c6 L b))) := by
  unfold gi k8 mr fg
  simp only [jh, cond_true]
  have hm : ∀ y, y ∈ ([c, a, b] : List Operand) → cj ⟨d, .pick c a b, ty, pos, af, gd⟩ L y = c6 L y := fun y hy => eg (by simpa [Op.operands, Call.operands] using hy)
  have hmap : ([c, a, b] : List Operand).map (cj ⟨d, .pick c a b, ty, pos, af, gd⟩ L) = ([c, a, b] : List Operand).map (c6 L) := g6 (fun y hy => by simpa [Op.operands, Call.operands] using hy)
  have ho : (⟨d, .pick c a b, ty, pos, af, gd⟩ : Oper).op.operands.toList = [c, a, b] := by simp [Op.operands, Call.operands]
  rw [Im, hm c (by simp), hm a (by simp), hm b (by simp)]
  rfl
theorem Y6 (t a x) : gi P T ⟨d, .store t a x, ty, pos, af, gd⟩ recs K L st = fg (false) ((c6 L a).names) ⟨d, .store t a x, ty, pos, af, gd⟩ recs K L st (mono (oe P t (c6 L a) (c6 L x))) := by
  unfold gi k8 mr fg
  simp only [jh, cond_false]
  have hm : ∀ y, y ∈ ([a, x] : List Operand) → cj ⟨d, .store t a x, ty, pos, af, gd⟩ L y = c6 L y := fun y hy => eg (by simpa [Op.operands, Call.operands] using hy)
  have hmap : ([a, x] : List Operand).map (cj ⟨d, .store t a x, ty, pos, af, gd⟩ L) = ([a, x] : List Operand).map (c6 L) := g6 (fun y hy => by simpa [Op.operands, Call.operands] using hy)
  have ho : (⟨d, .store t a x, ty, pos, af, gd⟩ : Oper).op.operands.toList = [a, x] := by simp [Op.operands, Call.operands]
  rw [Fz, hm a (by simp), hm x (by simp)]
  rfl
theorem Pu (t i) : gi P T ⟨d, .extract t i, ty, pos, af, gd⟩ recs K L st = fg (true) ([]) ⟨d, .extract t i, ty, pos, af, gd⟩ recs K L st (mono (m9 (c6 L t) i)) := by
  unfold gi k8 mr fg
  simp only [jh, cond_true]
  have hm : ∀ y, y ∈ ([t] : List Operand) → cj ⟨d, .extract t i, ty, pos, af, gd⟩ L y = c6 L y := fun y hy => eg (by simpa [Op.operands, Call.operands] using hy)
  have hmap : ([t] : List Operand).map (cj ⟨d, .extract t i, ty, pos, af, gd⟩ L) = ([t] : List Operand).map (c6 L) := g6 (fun y hy => by simpa [Op.operands, Call.operands] using hy)
  have ho : (⟨d, .extract t i, ty, pos, af, gd⟩ : Oper).op.operands.toList = [t] := by simp [Op.operands, Call.operands]
  rw [Cb, hm t (by simp)]
  rfl
theorem Js (t x i) : gi P T ⟨d, .indexAddr t x i, ty, pos, af, gd⟩ recs K L st = fg (true) ([]) ⟨d, .indexAddr t x i, ty, pos, af, gd⟩ recs K L st (mono (j6 P t (c6 L x) (c6 L i))) := by
  unfold gi k8 mr fg
  simp only [jh, cond_true]
  have hm : ∀ y, y ∈ ([x, i] : List Operand) → cj ⟨d, .indexAddr t x i, ty, pos, af, gd⟩ L y = c6 L y := fun y hy => eg (by simpa [Op.operands, Call.operands] using hy)
  have hmap : ([x, i] : List Operand).map (cj ⟨d, .indexAddr t x i, ty, pos, af, gd⟩ L) = ([x, i] : List Operand).map (c6 L) := g6 (fun y hy => by simpa [Op.operands, Call.operands] using hy)
  have ho : (⟨d, .indexAddr t x i, ty, pos, af, gd⟩ : Oper).op.operands.toList = [x, i] := by simp [Op.operands, Call.operands]
  rw [zv, hm x (by simp), hm i (by simp)]
  rfl
theorem Lk (x) : gi P T ⟨d, .nilCheck x, ty, pos, af, gd⟩ recs K L st = fg (true) ([]) ⟨d, .nilCheck x, ty, pos, af, gd⟩ recs K L st (mono (jt (c6 L x))) := by
  unfold gi k8 mr fg
  simp only [jh, cond_true]
  have hm : ∀ y, y ∈ ([x] : List Operand) → cj ⟨d, .nilCheck x, ty, pos, af, gd⟩ L y = c6 L y := fun y hy => eg (by simpa [Op.operands, Call.operands] using hy)
  have hmap : ([x] : List Operand).map (cj ⟨d, .nilCheck x, ty, pos, af, gd⟩ L) = ([x] : List Operand).map (c6 L) := g6 (fun y hy => by simpa [Op.operands, Call.operands] using hy)
  have ho : (⟨d, .nilCheck x, ty, pos, af, gd⟩ : Oper).op.operands.toList = [x] := by simp [Op.operands, Call.operands]
  rw [Ad, hm x (by simp)]
  rfl
theorem Xs (t) : gi P T ⟨d, .alloc t, ty, pos, af, gd⟩ recs K L st = fg (true) (reach st.h eu [] []) ⟨d, .alloc t, ty, pos, af, gd⟩ recs K L st (mono (qj P t)) := by
  unfold gi k8 mr fg
  simp only [jh, cond_false]
  have hm : ∀ y, y ∈ ([] : List Operand) → cj ⟨d, .alloc t, ty, pos, af, gd⟩ L y = c6 L y := fun y hy => eg (by simpa [Op.operands, Call.operands] using hy)
  have hmap : ([] : List Operand).map (cj ⟨d, .alloc t, ty, pos, af, gd⟩ L) = ([] : List Operand).map (c6 L) := g6 (fun y hy => by simpa [Op.operands, Call.operands] using hy)
  have ho : (⟨d, .alloc t, ty, pos, af, gd⟩ : Oper).op.operands.toList = [] := by simp [Op.operands, Call.operands]
  rw [ho, hmap]
  rfl
theorem W2 (t ps) : gi P T ⟨d, .build t ps, ty, pos, af, gd⟩ recs K L st = fg (true) (reach st.h eu (AV.names.go ((ps.toList.map (·.2)).map (c6 L))) []) ⟨d, .build t ps, ty, pos, af, gd⟩ recs K L st (mono (pz P t (ps.toList.map fun p => (p.1, c6 L p.2)))) := by
  unfold gi k8 mr fg
  simp only [jh, cond_false]
  have hm : ∀ y, y ∈ ((ps.toList.map (·.2)) : List Operand) → cj ⟨d, .build t ps, ty, pos, af, gd⟩ L y = c6 L y := fun y hy => eg (by simpa [Op.operands, Call.operands] using hy)
  have hmap : ((ps.toList.map (·.2)) : List Operand).map (cj ⟨d, .build t ps, ty, pos, af, gd⟩ L) = ((ps.toList.map (·.2)) : List Operand).map (c6 L) := g6 (fun y hy => by simpa [Op.operands, Call.operands] using hy)
  have ho : (⟨d, .build t ps, ty, pos, af, gd⟩ : Oper).op.operands.toList = (ps.toList.map (·.2)) := by simp [Op.operands, Call.operands]
  rw [ho, hmap]
  rw [Gi, Oc (fun x hx => by simp [Op.operands]; exact ⟨_, by simpa using hx⟩)]
  rfl
theorem Gz (t n ps) : gi P T ⟨d, .buildSlice t n ps, ty, pos, af, gd⟩ recs K L st = fg (true) (reach st.h eu (AV.names.go ((ps.toList.map (·.2)).map (c6 L))) []) ⟨d, .buildSlice t n ps, ty, pos, af, gd⟩ recs K L st (mono (i5 P t n (ps.toList.map fun p => (p.1, c6 L p.2)))) := by
  unfold gi k8 mr fg
  simp only [jh, cond_false]
  have hm : ∀ y, y ∈ ((ps.toList.map (·.2)) : List Operand) → cj ⟨d, .buildSlice t n ps, ty, pos, af, gd⟩ L y = c6 L y := fun y hy => eg (by simpa [Op.operands, Call.operands] using hy)
  have hmap : ((ps.toList.map (·.2)) : List Operand).map (cj ⟨d, .buildSlice t n ps, ty, pos, af, gd⟩ L) = ((ps.toList.map (·.2)) : List Operand).map (c6 L) := g6 (fun y hy => by simpa [Op.operands, Call.operands] using hy)
  have ho : (⟨d, .buildSlice t n ps, ty, pos, af, gd⟩ : Oper).op.operands.toList = (ps.toList.map (·.2)) := by simp [Op.operands, Call.operands]
  rw [ho, hmap]
  rw [xg, Oc (fun x hx => by simp [Op.operands]; exact ⟨_, by simpa using hx⟩)]
  rfl
theorem Wy (t x l h m) : gi P T ⟨d, .slice t x l h m, ty, pos, af, gd⟩ recs K L st = fg (true) (reach st.h eu (AV.names.go ((#[x] ++ l.toArray ++ h.toArray ++ m.toArray).toList.map (c6 L))) []) ⟨d, .slice t x l h m, ty, pos, af, gd⟩ recs K L st (mono (qm P (cj ⟨d, .slice t x l h m, ty, pos, af, gd⟩ L) ⟨d, .slice t x l h m, ty, pos, af, gd⟩ t x l h m)) := by
  unfold gi k8 mr fg
  simp only [jh, cond_false]
  have hm : ∀ y, y ∈ ((#[x] ++ l.toArray ++ h.toArray ++ m.toArray).toList : List Operand) → cj ⟨d, .slice t x l h m, ty, pos, af, gd⟩ L y = c6 L y := fun y hy => eg (by simpa [Op.operands, Call.operands] using hy)
  have hmap : ((#[x] ++ l.toArray ++ h.toArray ++ m.toArray).toList : List Operand).map (cj ⟨d, .slice t x l h m, ty, pos, af, gd⟩ L) = ((#[x] ++ l.toArray ++ h.toArray ++ m.toArray).toList : List Operand).map (c6 L) := g6 (fun y hy => by simpa [Op.operands, Call.operands] using hy)
  have ho : (⟨d, .slice t x l h m, ty, pos, af, gd⟩ : Oper).op.operands.toList = (#[x] ++ l.toArray ++ h.toArray ++ m.toArray).toList := by simp [Op.operands, Call.operands]
  rw [ho, hmap]
  rfl
theorem ark (op t x) : gi P T ⟨d, .unOp op t x, ty, pos, af, gd⟩ recs K L st = fg (true) (reach st.h eu (AV.names.go ([x].map (c6 L))) []) ⟨d, .unOp op t x, ty, pos, af, gd⟩ recs K L st (mono (il P (cj ⟨d, .unOp op t x, ty, pos, af, gd⟩ L) ⟨d, .unOp op t x, ty, pos, af, gd⟩ [x])) := by
  unfold gi k8 mr fg
  simp only [jh, cond_false]
  have hm : ∀ y, y ∈ ([x] : List Operand) → cj ⟨d, .unOp op t x, ty, pos, af, gd⟩ L y = c6 L y := fun y hy => eg (by simpa [Op.operands, Call.operands] using hy)
  have hmap : ([x] : List Operand).map (cj ⟨d, .unOp op t x, ty, pos, af, gd⟩ L) = ([x] : List Operand).map (c6 L) := g6 (fun y hy => by simpa [Op.operands, Call.operands] using hy)
  have ho : (⟨d, .unOp op t x, ty, pos, af, gd⟩ : Oper).op.operands.toList = [x] := by simp [Op.operands, Call.operands]
  rw [ho, hmap]
  rfl
theorem aii (x ts) : gi P T ⟨d, .call { callee := .builtin .len, args := #[x], argTypes := ts }, ty, pos, af, gd⟩ recs K L st = fg (true) ([]) ⟨d, .call { callee := .builtin .len, args := #[x], argTypes := ts }, ty, pos, af, gd⟩ recs K L st (mono (qp ((ts[0]?).bind P.underlying) (c6 L x))) := by
  unfold gi k8 mr fg
  simp only [jh, cond_true]
  have hm : ∀ y, y ∈ ([x] : List Operand) → cj ⟨d, .call { callee := .builtin .len, args := #[x], argTypes := ts }, ty, pos, af, gd⟩ L y = c6 L y := fun y hy => eg (by simpa [Op.operands, Call.operands] using hy)
  have hmap : ([x] : List Operand).map (cj ⟨d, .call { callee := .builtin .len, args := #[x], argTypes := ts }, ty, pos, af, gd⟩ L) = ([x] : List Operand).map (c6 L) := g6 (fun y hy => by simpa [Op.operands, Call.operands] using hy)
  have ho : (⟨d, .call { callee := .builtin .len, args := #[x], argTypes := ts }, ty, pos, af, gd⟩ : Oper).op.operands.toList = [x] := by simp [Op.operands, Call.operands]
  rw [Ml, hm x (by simp)]
  rfl
theorem Uk (s x ts) : gi P T ⟨d, .call { callee := .builtin .append, args := #[s, x], argTypes := ts }, ty, pos, af, gd⟩ recs K L st = fg (false) (reach st.h eu (AV.names.go ([s, x].map (c6 L))) []) ⟨d, .call { callee := .builtin .append, args := #[s, x], argTypes := ts }, ty, pos, af, gd⟩ recs K L st (mono (mi P ts[0]? ((ts[1]?).bind P.underlying) (c6 L s) (c6 L x))) := by
  unfold gi k8 mr fg
  simp only [jh, cond_false]
  have hm : ∀ y, y ∈ ([s, x] : List Operand) → cj ⟨d, .call { callee := .builtin .append, args := #[s, x], argTypes := ts }, ty, pos, af, gd⟩ L y = c6 L y := fun y hy => eg (by simpa [Op.operands, Call.operands] using hy)
  have hmap : ([s, x] : List Operand).map (cj ⟨d, .call { callee := .builtin .append, args := #[s, x], argTypes := ts }, ty, pos, af, gd⟩ L) = ([s, x] : List Operand).map (c6 L) := g6 (fun y hy => by simpa [Op.operands, Call.operands] using hy)
  have ho : (⟨d, .call { callee := .builtin .append, args := #[s, x], argTypes := ts }, ty, pos, af, gd⟩ : Oper).op.operands.toList = [s, x] := by simp [Op.operands, Call.operands]
  rw [ho, hmap]
  rw [Er, hm s (by simp), hm x (by simp)]
  rfl
theorem aey (f args ts) : gi P T ⟨d, .call { callee := .value f, args, argTypes := ts }, ty, pos, af, gd⟩ recs K L st = fg (qo T (c6 L) ⟨d, .call { callee := .value f, args, argTypes := ts }, ty, pos, af, gd⟩) (reach st.h eu (AV.names.go ((f :: args.toList).map (c6 L))) []) ⟨d, .call { callee := .value f, args, argTypes := ts }, ty, pos, af, gd⟩ recs K L st (tg T (c6 L f) (args.toList.map (c6 L))) := by
  unfold gi k8 mr fg
  simp only [jh, cond_false]
  have h1 : ⟨d, .call { callee := .value f, args, argTypes := ts }, ty, pos, af, gd⟩ = (⟨d, .call { callee := .value f, args, argTypes := ts }, ty, pos, af, gd⟩ : Oper) := rfl
  have hf : cj ⟨d, .call { callee := .value f, args, argTypes := ts }, ty, pos, af, gd⟩ L f = c6 L f := eg (by simp [Op.operands, Call.operands])
  have ha : args.toList.map (cj ⟨d, .call { callee := .value f, args, argTypes := ts }, ty, pos, af, gd⟩ L) = args.toList.map (c6 L) := g6 (fun x hx => by simp [Op.operands, Call.operands]; exact .inr (by simpa using hx))
  have hr : qo T (cj ⟨d, .call { callee := .value f, args, argTypes := ts }, ty, pos, af, gd⟩ L) ⟨d, .call { callee := .value f, args, argTypes := ts }, ty, pos, af, gd⟩ = qo T (c6 L) ⟨d, .call { callee := .value f, args, argTypes := ts }, ty, pos, af, gd⟩ := by simp only [qo, hf]
  have ho : (⟨d, .call { callee := .value f, args, argTypes := ts }, ty, pos, af, gd⟩ : Oper).op.operands.toList.map (cj ⟨d, .call { callee := .value f, args, argTypes := ts }, ty, pos, af, gd⟩ L) = (f :: args.toList).map (c6 L) := by
    show ((#[f] ++ args).toList).map _ = _
    simp only [Array.toList_append, List.map_append, ha, List.map_cons, hf]
    rfl
  rw [hr, ho]
  show D8 _ _ _ _ _ _ _ (tg T (cj _ L f) (args.toList.map (cj _ L)) _) = _
  rw [hf, ha]
theorem Ph (n args ts) : qo T (c6 L) ⟨d, .call { callee := .value (.func n), args, argTypes := ts }, ty, pos, af, gd⟩ = roT (T.find n) := by simp only [qo, c6]; rfl
end ops
theorem X3 (P T ops K L st) : Dh P T ops true K L st = (l7 ops = true ∧ (Dv P T ops ops.toList K [] L st ∨ Ly P T ops ops.toList K [] L st)) := id rfl
theorem Yu (n) : Fi n [] = true := id rfl
theorem Tk (n o r) : Fi n (o :: r) = (Nat.blt o n && Fi n r) := id rfl
theorem abv (h h') : same h h' [] = True := id rfl
theorem W9 (h h' o r) : same h h' (o :: r) = (h.get o = h'.get o ∧ same h h' r) := id rfl
theorem X1 (h) : jy h [] = .nil := id rfl
theorem Rs (h o r) : jy h (o :: r) = Tr.set depth (jy h r) o (h.get o) := id rfl
theorem S3 (h1 h) : o0 h1 [] h = h := id rfl
theorem Om (h1 o r h) : o0 h1 (o :: r) h = Tr.set depth (o0 h1 r h) o (h1.get o) := id rfl
theorem Xv (t ts v vs) : mz (t :: ts) (v :: vs) = (t, v) :: mz ts vs := id rfl
theorem X6 (P T f ps A B p Q L0 st0) : apr P T f ps A B p Q L0 st0 = (Nat.ble p 1000 = true ∧ Mu P T ps A B p Q L0 st0 (wz (c6 L0 f))) := id rfl
theorem adz (P T ps A B p Q L0 st0 g caps) : Mu P T ps A B p Q L0 st0 (some (g, caps)) = Kq P T ps A B p Q L0 st0 caps (tn P g) := id rfl
theorem acs (P T ps A B p Q L0 st0 caps nt code) : Kq P T ps A B p Q L0 st0 caps (some (nt, code)) = (Nat.ble (caps.length + 1) nt = true ∧ ∀ l : Nat, ox P T l (mo ps A B L0) p code (acd Q L0) none (bw 0 (.sc (.func (.yield l) #[] #[]) :: caps)) st0) := id rfl
theorem W8 (g c) : wz (.fn (.func g) [] c) = some (g, c) := id rfl
theorem E4 {P : Program} {T : ed} {l : Nat} {az : Nat} {L : SL} {st : St} {Q : QI} {ps : List Tmp} {ra rb : Code} {L0 : SL} {α : Type} {b : Code} (keep : List Nat) (V : α → List AV) (O : α → List (Option bc)) (I : α → Prop) (μ : α → Nat) (x : α) (hx : I x)
    (hv : jz az keep L st = V x) (ho : gb az keep L st = O x)
    (step : ∀ x, I x → ox P T l (mo ps (fun p => wl P T p ra) (fun p => wl P T p rb) L0) az b (zi (xa az keep (fun vs os => ∃ y, I y ∧ μ y < μ x ∧ vs = V y ∧ os = O y) (fun _ _ _ => False)) Q) none (mz keep (V x)) (bp (O x))) : ox P T l (mo ps (fun p => wl P T p ra) (fun p => wl P T p rb) L0) az (.loop b) Q none L st :=
  asy (keep := keep) (V := V) (O := O) (I := I) (μ := μ) (x := x) (hx := hx) (hR := Ps P T) (hv := hv) (ho := ho) (step := step)
theorem v7 {P : Program} {T : ed} {R : Hh} {az : Nat} {L : SL} {st : St} {o : Oper} {K : Option Ex → SL → St → Prop} {args : Array Operand} (keep : List Nat) (h : wo R (gb az keep L st).length args o.dst K (mz keep (jz az keep L st)) (bp (gb az keep L st))) : V1 P T R az o K none L st (some args) := ⟨rfl, keep, h⟩
theorem Wg (P : Program) : ∀ s : Sem Value, ev P (do pure (Next.value (← s))) = (ev P s).map Next.value := by
  intro s
  induction s with
  | pure b => rfl
  | program k ih => exact ih P
  | choose q k ih =>
    simp only [bind, Sem.bind, ev]
    split
    · exact ih 0
    · rfl
  | mark m k ih => exact ih
  | _ => rfl
def afb (m : M AV) : M AV := m
def ab7 (a : AV) (m : M AV) : M AV :=
  match a.bool with
  | some b => M.pure (.sc (.bool (!b)))
  | none => m
theorem aoa (b : Bool) (m : M AV) : ab7 (.sc (.bool b)) m = M.pure (.sc (.bool (!b))) := id rfl
theorem avz {a : AV} {b : Bool} (h : a.bool = some b) : a = .sc (.bool b) := by
  unfold AV.bool AV.exact ny at h
  cases a with
  | sc v => cases v <;> simp at h; rw [h]
  | _ => cases h
theorem Ur (P : Program) (ρ : Operand → AV) (d ty pos af gd) (t : TypeId) (x : Operand) : il P ρ ⟨d, .unOp .not t x, ty, pos, af, gd⟩ [x] = ab7 (ρ x) (afb (il P ρ ⟨d, .unOp .not t x, ty, pos, af, gd⟩ [x])) := by
  unfold ab7
  split
  · rename_i b hb
    have hx := avz hb
    have h2 : execOp (fun z => ((ρ z).fy).getD undef) ⟨d, .unOp .not t x, ty, pos, af, gd⟩ = (do pure (Next.value (← Op.unary .not (.bool b)))) := by
      simp only [execOp, hx, AV.fy, Option.getD_some]
    unfold il lr s6
    simp only [List.all_cons, List.all_nil, hx, AV.fy, Option.isSome_some, Bool.and_true, cond_true]
    rw [h2, Wg]
    rfl
  · rfl
theorem Xy (P : Program) (T : ed) (ρ : Operand → AV) (d ty pos af gd) (t : TypeId) (x : Operand) : ey P T ⟨d, .unOp .not t x, ty, pos, af, gd⟩ ρ = mono (ab7 (ρ x) (afb (il P ρ ⟨d, .unOp .not t x, ty, pos, af, gd⟩ [x]))) := by
  exact congrArg mono (Ur ..)
theorem ah8 (P : Program) (T : ed) (L : SL) (st : St) (recs : List Rec) (K : List Rec → SL → St → Prop) (d ty pos af gd) (t x) : gi P T ⟨d, .unOp .not t x, ty, pos, af, gd⟩ recs K L st = fg true (reach st.h eu (AV.names.go ([x].map (c6 L))) []) ⟨d, .unOp .not t x, ty, pos, af, gd⟩ recs K L st (mono (ab7 (c6 L x) (afb (il P (cj ⟨d, .unOp .not t x, ty, pos, af, gd⟩ L) ⟨d, .unOp .not t x, ty, pos, af, gd⟩ [x])))) := by
  rw [ark]
  have h := Ur P (cj ⟨d, .unOp .not t x, ty, pos, af, gd⟩ L) d ty pos af gd t x
  rw [eg (by simp [Op.operands])] at h
  rw [← h]
theorem P6 (l : List UInt8) : bytesOf (l.map Ap) = some l := by rw [Dt, w5]
theorem O4 (a b : ByteArray) : Cx.iq [.sc (.string a), .sc (.string b)] = M.pure (.sc (goInt (Lib.compareBytes a.data.toList b.data.toList))) := by
  unfold Cx.iq cellsIn
  simp only [Nat.beq_refl, cond_true]
  unfold M.bind M.pure
  simp only [P6]
  rfl
theorem Gu {α : Type} (C : dg α) (f : Bool) (h : C.sz = 1) (ha : C.agg = false) (l : List α) : (l.map (C.val f)).flatMap AV.cells = l.map (C.val f) := by
  induction l with
  | nil => rfl
  | cons x l ih =>
    simp only [List.map_cons, List.flatMap_cons, ih]
    obtain ⟨c, h1, h2, _⟩ := C.one ha f x
    have : C.val f x = c := by simp [dg.val, ha, h1]
    rw [this, h2]; rfl
theorem Ot (f g : Bool) (a b : List UInt8) : Cx.iq [.vl f 1 (a.map (cp.val f)), .vl g 1 (b.map (cp.val g))] = M.pure (.sc (goInt (Lib.compareBytes a b))) := by
  unfold Cx.iq cellsIn
  simp only [Nat.beq_refl, cond_true, Gu cp _ rfl rfl]
  unfold M.bind M.pure
  simp only [w5]
  rfl
theorem Px {L : SL} {d ty pos af gd} {op t u x y} : cj ⟨d, .binOp op t x y u, ty, pos, af, gd⟩ L x = c6 L x := eg (by simp [Op.operands])
theorem O1 {L : SL} {d ty pos af gd} {op t u x y} : cj ⟨d, .binOp op t x y u, ty, pos, af, gd⟩ L y = c6 L y := eg (by simp [Op.operands])
theorem Th {L : SL} {d ty pos af gd} {h l m t x} : cj ⟨d, .slice t x l h m, ty, pos, af, gd⟩ L x = c6 L x := eg (by simp [Op.operands])
theorem Ti {L : SL} {d ty pos af gd} {h l m t x} : cj ⟨d, .slice t x l (some h) m, ty, pos, af, gd⟩ L h = c6 L h := eg (by simp [Op.operands])
def ai8 (P : Program) (ρ : Operand → AV) (o : Oper) (l : List Operand) : M AV := il P ρ o l
def aag (u : Option TypeDesc) (a ix : AV) (m : M AV) : M AV :=
  match u with
  | some .string =>
    match a with
    | .sc (.string s) =>
      match ix with
      | .sc (.int _ n) =>
        match (bif decide (0 ≤ n) then s.data.toList[n.toNat]? else none) with
        | some b => M.pure (.sc (.int .u8 b.toNat))
        | none => m
      | _ => m
    | _ => m
  | _ => m
theorem acq (s : ByteArray) (k : IntKind) (n : Int) (m : M AV) : aag (some .string) (.sc (.string s)) (.sc (.int k n)) m = match (bif decide (0 ≤ n) then s.data.toList[n.toNat]? else none) with | some b => M.pure (.sc (.int .u8 b.toNat)) | none => m := id rfl
theorem Kl (P : Program) (ρ : Operand → AV) (d ty pos af gd) (t : TypeId) (x i : Operand) : il P ρ ⟨d, .index t x i, ty, pos, af, gd⟩ [x, i] = aag (P.underlying t) (ρ x) (ρ i) (ai8 P ρ ⟨d, .index t x i, ty, pos, af, gd⟩ [x, i]) := by
  unfold aag
  split
  · rename_i hu
    split
    · rename_i s hx
      split
      · rename_i k n hi
        split
        · rename_i b hb
          cases h0 : decide (0 ≤ n) with
          | false => rw [h0] at hb; cases hb
          | true =>
          rw [h0, cond_true] at hb
          have h0 : 0 ≤ n := by simpa using h0
          have hb' : s[n.toNat]? = some b := by
            obtain ⟨h1, h2⟩ := List.getElem?_eq_some_iff.1 hb
            simp at h1
            rw [getElem?_pos s n.toNat (by simpa using h1)]
            rw [← h2]; rfl
          have h2 : execOp (fun z => ((ρ z).fy).getD undef) ⟨d, .index t x i, ty, pos, af, gd⟩ = (do pure (Next.value (← Instr.index t (.string s) (.int k n)))) := by
            simp only [execOp, hx, hi, AV.fy, Option.getD_some]
          unfold il lr s6
          simp only [List.all_cons, List.all_nil, hx, hi, AV.fy, Option.isSome_some, Bool.and_true, cond_true]
          rw [h2, Wg]
          have h3 : ev P (Instr.index t (.string s) (.int k n)) = some (.int .u8 b.toNat) := by
            simp [Instr.index, asIntOf, underlying, program, ev, hu, h0, hb', bind, Sem.bind, pure]
          rw [h3]
          rfl
        · rfl
      · rfl
    · rfl
  · rfl
theorem Qe (a n : Nat) : (a : Int).fdiv (n : Int) = ((a / n : Nat) : Int) := by
  rw [Int.fdiv_eq_ediv_of_nonneg _ (by omega)]; rfl
theorem afj (a : Nat) : (a : Int).fdiv 256 = ((a / 256 : Nat) : Int) := Qe a 256
theorem Tv (a : Nat) : (a : Int).fdiv 65536 = ((a / 65536 : Nat) : Int) := Qe a 65536
theorem Jg (a : Nat) : (a : Int).fdiv 16777216 = ((a / 16777216 : Nat) : Int) := Qe a 16777216
theorem abz (f : Nat) (m) (T : ed) : ed.find ((f, m) :: T) f = some m := by simp [ed.find]
theorem Yl (f g : Nat) (m) (T : ed) (h : (f == g) = false) : ed.find ((f, m) :: T) g = ed.find T g := by
  have e : f ≠ g := by simpa using h
  simp [ed.find, lz e]
end
end Go.Vm
end
namespace Go.Vm
noncomputable section
def Av (P : Program) (t : TypeId) : Option (Nat × Nat × Nat) :=
  match od P t with
  | some e =>
    match de P e, j4 P e, ef P e with
    | some sz, some bytes, some z => bif Nat.blt 0 sz && Nat.blt 0 bytes && Nat.beq z.cells.size sz then some (e, sz, bytes) else none
    | _, _, _ => none
  | none => none
end
end Go.Vm
section
set_option linter.unusedSimpArgs false
set_option linter.unusedVariables false
namespace Go.Vm
noncomputable section
def afl (q : Option (Nat × Nat × Nat)) (s x : AV) : M AV :=
  match q with
  | some (e, sz, bytes) => (cellsIn sz x).bind (nl e sz bytes s)
  | none => M.fail
theorem apf (e sz bytes s x) : afl (some (e, sz, bytes)) s x = (cellsIn sz x).bind (nl e sz bytes s) := id rfl
theorem S5 (P : Program) (t e : TypeId) (s x : AV) : mi P (some t) (some (.slice e)) s x = afl (Av P t) s x := by
  unfold mi afl Av
  simp only [Option.bind_some]
  cases od P t with
  | none => rfl
  | some e =>
    simp only
    cases de P e with
    | none => rfl
    | some sz =>
      cases j4 P e with
      | none => rfl
      | some bytes =>
        cases ef P e with
        | none => rfl
        | some z =>
          simp only
          cases (Nat.blt 0 sz && Nat.blt 0 bytes && Nat.beq z.cells.size sz) <;> rfl
theorem Te (P : Program) (t : TypeId) (s x : AV) : mi P (some t) (some .string) s x = afl (Av P t) s x := by
  unfold mi afl Av
  simp only [Option.bind_some]
  cases od P t with
  | none => rfl
  | some e =>
    simp only
    cases de P e with
    | none => rfl
    | some sz =>
      cases j4 P e with
      | none => rfl
      | some bytes =>
        cases ef P e with
        | none => rfl
        | some z =>
          simp only
          cases (Nat.blt 0 sz && Nat.blt 0 bytes && Nat.beq z.cells.size sz) <;> rfl
theorem O3 (e sz bytes new) : nl e sz bytes (.sc (.slice none 0 0)) new = bif new.isEmpty then M.pure (.sc (.slice none 0 0)) else bif Nat.ble (new.length * bytes) 140737488355328 then ki e sz (new.length / sz) new else M.fail := id rfl
theorem Rr (e sz bytes o off len sz' new) : nl e sz bytes (.sl o off len sz') new = bif Nat.beq sz sz' then (cx o).bind (yj e sz bytes o off len new) else M.fail := id rfl
theorem Pa (e sz bytes o off len new cells k st et) : yj e sz bytes o off len new (.row cells k st et) = (bif Nat.beq et e && new.all AV.one && Nat.ble (off + len * sz) cells.length && Nat.ble ((len * sz + new.length) * bytes) 140737488355328 then
      bif Nat.ble k (off + len * sz) then
        (uw o).bind fun _ => (g5 (.row ((cells.take (off + len * sz)).drop off ++ new) (k - off) (qh st) et)).bind fun id => M.pure (.sl id 0 (len + new.length / sz) sz)
      else bif new.isEmpty then M.pure (.sl o off len sz)
      else M.fail
    else M.fail) := id rfl
theorem ati : qh 0 = 0 := id rfl
def cellsOf {α : Type} (C : dg α) (f : Bool) (xs : List α) : List AV := xs.flatMap (C.cells f)
theorem Ox {α : Type} (C : dg α) (f) : cellsOf C f [] = [] := id rfl
theorem w6 {α : Type} (C : dg α) (f) (xs : List α) : (cellsOf C f xs).length = xs.length * C.sz := by
  induction xs with
  | nil => simp [cellsOf]
  | cons x xs ih =>
    simp only [cellsOf] at ih
    simp [cellsOf, C.len, ih, Nat.succ_mul]; omega
theorem Gg {α : Type} (C : dg α) (f) (xs ys : List α) : cellsOf C f (xs ++ ys) = cellsOf C f xs ++ cellsOf C f ys := by simp [cellsOf]
theorem Pr {α : Type} (C : dg α) (f) (x : α) : cellsOf C f [x] = C.cells f x := by simp [cellsOf]
theorem Bh {α : Type} (C : dg α) (f) (xs : List α) : (cellsOf C f xs).all AV.one = true := by
  rw [List.all_eq_true]
  intro c hc
  obtain ⟨x, _, hx⟩ := List.mem_flatMap.1 hc
  exact (C.pl f x c hx).one
theorem I9 {α : Type} (C : dg α) (f) (xs : List α) : AV.names.go (cellsOf C f xs) = [] := F0 (fun c hc => by
  obtain ⟨x, _, hx⟩ := List.mem_flatMap.1 hc
  exact (C.pl f x c hx).names)
theorem O5 {α : Type} (C : dg α) (τ) (f) (xs : List α) : (cellsOf C f xs).map (AV.db τ) = cellsOf C f xs := by
  rw [← jq]
  exact Q0 (fun c hc => by
    obtain ⟨x, _, hx⟩ := List.mem_flatMap.1 hc
    exact (C.pl f x c hx).db τ)
theorem aez {α : Type} (C : dg α) (f) (xs : List α) (i : Nat) : (cellsOf C f xs).drop (i * C.sz) = cellsOf C f (xs.drop i) := by
  induction xs generalizing i with
  | nil => simp [cellsOf]
  | cons x xs ih =>
    cases i with
    | zero => simp
    | succ i =>
      have : (i + 1) * C.sz = C.sz + i * C.sz := by rw [Nat.succ_mul]; omega
      rw [this, ← List.drop_drop]
      have h1 : (cellsOf C f (x :: xs)).drop C.sz = cellsOf C f xs := by
        have h2 : cellsOf C f (x :: xs) = C.cells f x ++ cellsOf C f xs := by simp [cellsOf]
        rw [h2, ← C.len f x, List.drop_left]
      rw [h1, ih, List.drop_succ_cons]
theorem aet {α : Type} (C : dg α) (f) (xs : List α) (i : Nat) : (cellsOf C f xs).take (i * C.sz) = cellsOf C f (xs.take i) := by
  induction xs generalizing i with
  | nil => simp [cellsOf]
  | cons x xs ih =>
    cases i with
    | zero => simp [cellsOf]
    | succ i =>
      have h2 : cellsOf C f (x :: xs) = C.cells f x ++ cellsOf C f xs := by simp [cellsOf]
      have : (i + 1) * C.sz = (C.cells f x).length + i * C.sz := by rw [Nat.succ_mul, C.len]; omega
      rw [h2, this, List.take_length_add_append, ih, List.take_succ_cons]
      simp [cellsOf]
theorem Kg {α : Type} (C : dg α) (f) (x : α) (xs : List α) : cellsOf C f (x :: xs) = C.cells f x ++ cellsOf C f xs := by simp [cellsOf]
theorem Hp {α : Type} {xs : List α} {i : Nat} {x : α} (h : xs[i]? = some x) : xs.drop i = x :: xs.drop (i + 1) := by
  obtain ⟨h1, h2⟩ := List.getElem?_eq_some_iff.1 h
  rw [← h2]; exact List.drop_eq_getElem_cons h1
theorem Ij {α : Type} (C : dg α) (f) (xs : List α) : (xs.map (C.val f)).flatMap AV.cells = cellsOf C f xs := by
  rw [List.flatMap_map]; congr 1; funext x; exact C.Eu f x
theorem Dj {α : Type} (C : dg α) (fr : Bool) (h : Tr bc) (f : Bool) (xs : List α) (k st et) (n : Nat) (hn : n = xs.length) (hf : (f || !fr) = true) : nf C fr h 0 n (.row (cellsOf C f xs) k st et) = some xs := by
  subst hn
  simp only [nf, Nat.zero_add, w6, Nat.ble_self_eq_true, cond_true, List.drop_zero]
  have : (cellsOf C f xs).take (xs.length * C.sz) = cellsOf C f xs := List.take_of_length_le (by rw [w6]; exact Nat.le_refl _)
  rw [this]
  exact X8 C fr h f (fun e => by subst e; simpa using hf) xs
theorem Tq {α : Type} (C : dg α) (fr h cells k st et) : nf C fr h 0 0 (.row cells k st et) = some [] := by
  have h : Nat.ble 0 cells.length = true := Nat.ble_eq_true_of_le (Nat.zero_le _)
  simp [nf, y5, h]
def qe {α : Type} (C : dg α) (fr : Bool) (h : Tr bc) : List AV → Option (List α)
  | [] => some []
  | a :: l => match C.dec fr h [a], qe C fr h l with
    | some x, some xs => some (x :: xs)
    | _, _ => none
def axs {α : Type} (a b : Option (List α)) : Option (List α) := match a, b with | some x, some y => some (x ++ y) | _, _ => none
def aty {α : Type} (a : Option α) (b : Option (List α)) : Option (List α) := match a, b with | some x, some y => some (x :: y) | _, _ => none
theorem ap9 {α : Type} (a b : List α) : axs (some a) (some b) = some (a ++ b) := id rfl
theorem ajh {α : Type} (a : α) (b : List α) : aty (some a) (some b) = some (a :: b) := id rfl
theorem Q5 {α : Type} (C : dg α) (fr h) : qe C fr h [] = some [] := id rfl
theorem E1 {α : Type} (C : dg α) (fr h a l) : qe C fr h (a :: l) = aty (C.dec fr h [a]) (qe C fr h l) := id rfl
theorem Qi {α : Type} (C : dg α) (fr h) : ∀ a b, qe C fr h (a ++ b) = axs (qe C fr h a) (qe C fr h b)
  | [], b => by
    simp only [List.nil_append, Q5]
    cases qe C fr h b <;> rfl
  | x :: a, b => by
    simp only [List.cons_append, E1, Qi C fr h a b]
    cases C.dec fr h [x] <;> cases qe C fr h a <;> cases qe C fr h b <;> rfl
theorem aev {α : Type} (C : dg α) (hz : C.sz = 1) (fr h) : ∀ cells : List AV, y5 C fr h cells.length cells = qe C fr h cells
  | [] => rfl
  | a :: l => by
    have h1 : (a :: l).take C.sz = [a] := by rw [hz]; rfl
    have h2 : (a :: l).drop C.sz = l := by rw [hz]; rfl
    simp only [List.length_cons, y5, h1, h2, aev C hz fr h l]
    rfl
theorem v5 {α : Type} (C : dg α) (hz : C.sz = 1) (fr h n cells k st et) (hn : n = cells.length) : nf C fr h 0 n (.row cells k st et) = qe C fr h cells := by
  subst hn
  simp only [nf, hz, Nat.mul_one, Nat.zero_add, Nat.ble_self_eq_true, cond_true, List.drop_zero, List.take_length]
  exact aev C hz fr h cells
theorem D4 {α : Type} (C : dg α) (hz : C.sz = 1) (ha : C.agg = false) (fr h f) (hf : fr = true → f = true) : ∀ l : List α, qe C fr h (l.map (C.val f)) = some l
  | [] => rfl
  | x :: l => by
    obtain ⟨c, h1, _⟩ := C.one ha f x
    have hv : C.val f x = c := by simp [dg.val, ha, h1]
    have hd := C.rt fr h f x hf
    rw [h1] at hd
    rw [List.map_cons, E1, D4 C hz ha fr h f hf l, hv, hd]; rfl
theorem acy {α β : Type} (f : α → β) (l : List α) (n : Nat) : (l.map f).take n = (l.take n).map f := List.map_take.symm
theorem aai {α β : Type} (f : α → β) (l : List α) (n : Nat) : (l.map f).drop n = (l.drop n).map f := List.map_drop.symm
theorem Dm {α β : Type} (f : α → β) (l : List α) : (l.map f).isEmpty = l.isEmpty := by cases l <;> rfl
theorem Fg {α : Type} (l : List α) (x : α) : (l ++ [x]).isEmpty = false := by cases l <;> rfl
theorem Hd (a b : List AV) : AV.names.go (a ++ b) = AV.names.go a ++ AV.names.go b := by
  induction a with
  | nil => rfl
  | cons x a ih => simp only [List.cons_append, AV.names.go, ih, List.append_assoc]
theorem rtT {α : Type} (C : dg α) (h : Tr bc) (x : α) : C.fo true h (C.val true x) = some x := C.K0 true h true x (fun _ => rfl)
theorem rtF {α : Type} (C : dg α) (h : Tr bc) (l : Bool) (x : α) : C.fo false h (C.val l x) = some x := C.K0 false h l x (fun e => by cases e)
theorem aay (s : ByteArray) : s.data.toList.length = s.size := by simp
theorem aie {α : Type} {l : List α} {n : Nat} (h : l.length ≤ n) : l.take n = l := List.take_of_length_le h
theorem azv {α : Type} (C : dg α) (fr : Bool) (h : Tr bc) (x : α) : C.fo fr h (C.val fr x) = some x := C.K0 fr h fr x (fun e => e)
theorem ca {a b : Nat} (h : a ≤ b) : decide (a ≤ b) = true := by simpa using h
theorem cb {a b : Nat} (h : a < b) : decide (a < b) = true := by simpa using h
theorem bz {a b : Int} (h : a ≤ b) : decide (a ≤ b) = true := by simpa using h
theorem b9 {a b : Int} (h : a < b) : decide (a < b) = true := by simpa using h
theorem ah (x : Int) (h0 : -9223372036854775808 ≤ x) (h1 : x < 9223372036854775808) : IntKind.i64.wrap x = x := by
  simp [IntKind.wrap, IntKind.bits, IntKind.signed]; omega
theorem an5 (n : Nat) : IntKind.u8.wrap (n : Int) = ((UInt8.ofNat n).toNat : Int) := by simp [IntKind.wrap, IntKind.bits, IntKind.signed]
theorem ajb (n : Nat) : IntKind.u32.wrap (n : Int) = ((UInt32.ofNat n).toNat : Int) := by simp [IntKind.wrap, IntKind.bits, IntKind.signed]
theorem bj {p : Prop} [Decidable p] {X Y : SL → St → Prop} {L st} : u3 (.sc (.bool (decide p))) X Y L st = ((p → X L st) ∧ (¬ p → Y L st)) := by
  by_cases h : p <;> simp [h, G5, Gp]
theorem cy {a b : Int} {X Y : SL → St → Prop} {L st} : u3 (.sc (.bool (a == b))) X Y L st = (((a == b) = true ∧ a = b → X L st) ∧ ((a == b) = false ∧ a ≠ b → Y L st)) := by
  by_cases h : a = b
  · subst h; simp [G5]
  · have : (a == b) = false := by simpa using h
    simp [h, this, Gp]
theorem g9 {a b : Int} {X Y : SL → St → Prop} {L st} : u3 (.sc (.bool (a != b))) X Y L st = (((a != b) = true ∧ a ≠ b → X L st) ∧ ((a != b) = false ∧ a = b → Y L st)) := by
  by_cases h : a = b
  · subst h; simp [Gp]
  · have : (a != b) = true := by simpa using h
    simp [h, this, G5]
theorem Yb (P : Program) (T : ed) (ρ : Operand → AV) (d ty pos af gd) (x ts) : ey P T ⟨d, .call { callee := .builtin .cap, args := #[x], argTypes := ts }, ty, pos, af, gd⟩ ρ = mono (A7 ((ts[0]?).bind P.underlying) (ρ x)) := id rfl
theorem Xw (e a n c) : A7 (some (.slice e)) (.sc (.slice a n c)) = M.pure (.sc (goInt c)) := id rfl
def arn (P : Program) (q : Option (Nat × Nat × Nat)) (s x : AV) : M AV :=
  match q with
  | some (e, sz, bytes) =>
    match C6 P e sz x with
    | some new => nl e sz bytes s new
    | none => M.fail
  | none => M.fail
theorem ani (P : Program) (e sz bytes s x) : arn P (some (e, sz, bytes)) s x = match C6 P e sz x with | some new => nl e sz bytes s new | none => M.fail := id rfl
theorem S6 (P : Program) (t : TypeId) (k : IntKind) (s x : AV) : mi P (some t) (some (.int k)) s x = arn P (Av P t) s x := by
  unfold mi arn Av
  simp only [Option.bind_some]
  cases od P t with
  | none => rfl
  | some e =>
    simp only
    cases de P e with
    | none => rfl
    | some sz =>
      cases j4 P e with
      | none => rfl
      | some bytes =>
        cases ef P e with
        | none => rfl
        | some z =>
          simp only
          cases (Nat.blt 0 sz && Nat.blt 0 bytes && Nat.beq z.cells.size sz) <;> rfl
def aav (z : Option Value) (sz : Nat) (n : Int) : Option (List AV) :=
  match z with
  | some z => bif decide (0 ≤ n) && decide (n ≤ 1073741824) && Nat.beq z.cells.size sz then some ((List.replicate n.toNat (z.cells.toList.map AV.sc)).flatten) else none
  | none => none
theorem aa0 (z sz n) : aav (some z) sz n = bif decide (0 ≤ n) && decide (n ≤ 1073741824) && Nat.beq z.cells.size sz then some ((List.replicate n.toNat (z.cells.toList.map AV.sc)).flatten) else none := id rfl
theorem Xk (P : Program) (e sz : Nat) (k : IntKind) (n : Int) : C6 P e sz (.sc (.int k n)) = aav (ef P e) sz n := by
  simp only [C6, aav, wj, AV.int, AV.exact, Option.bind_some, intOf, Option.map_some]
  cases ef P e <;> rfl
theorem ajj {α : Type} (n : Nat) (x : α) : (List.replicate n [x]).flatten = List.replicate n x := by
  induction n with
  | zero => rfl
  | succ n ih => simp [List.replicate_succ, ih]
theorem Po {α : Type} {n : Nat} {x : α} (h : 0 < n) : (List.replicate n x).isEmpty = false := by
  cases n with
  | zero => omega
  | succ n => rfl
theorem nc0 : ((0 : Nat) : Int) = 0 := id rfl
theorem nc1 : ((1 : Nat) : Int) = 1 := id rfl
theorem amt (n : Nat) : List.replicate n (AV.sc (.int .u8 0)) = (List.replicate n (0 : UInt8)).map (cp.val false) := by rw [List.map_replicate]; rfl
def aj8 (P : Program) (u : Option TypeDesc) (x hi : AV) (m : M AV) : M AV :=
  match u with
  | some (.slice e) =>
    match de P e with
    | some _ =>
      match x with
      | .sc (.slice none 0 0) =>
        match hi with
        | .sc (.int .i64 0) => M.pure (.sc (.slice none 0 0))
        | _ => m
      | _ => m
    | none => m
  | _ => m
theorem apk (P : Program) (e m) (h : (de P e).isSome = true) : aj8 P (some (.slice e)) (.sc (.slice none 0 0)) (.sc (.int .i64 0)) m = M.pure (.sc (.slice none 0 0)) := by
  obtain ⟨n, hn⟩ := Option.isSome_iff_exists.1 h
  simp only [aj8, hn]
theorem E3 (P : Program) (ρ : Operand → AV) (d ty pos af gd) (t : TypeId) (x h : Operand) : il P ρ ⟨d, .slice t x none (some h) none, ty, pos, af, gd⟩ (.slice t x none (some h) none : Op).operands.toList = aj8 P (P.underlying t) (ρ x) (ρ h) (ai8 P ρ ⟨d, .slice t x none (some h) none, ty, pos, af, gd⟩ (.slice t x none (some h) none : Op).operands.toList) := by
  unfold aj8
  split
  · rename_i e hu
    split
    · rename_i n hn
      split
      · rename_i hx
        split
        · rename_i hh
          have h2 : execOp (fun z => ((ρ z).fy).getD undef) ⟨d, .slice t x none (some h) none, ty, pos, af, gd⟩ = (do pure (Next.value (← Instr.sliceAt t (.slice none 0 0) none (some (.int .i64 0)) none))) := by
            simp only [execOp, hx, hh, AV.fy, Option.getD_some, Option.map_some, Option.map_none]
          have hi : ∃ i, P.info? e = some i := by
            unfold de at hn
            cases hq : P.info? e with
            | none => rw [hq] at hn; cases hn
            | some i => exact ⟨i, rfl⟩
          obtain ⟨i, hi⟩ := hi
          have h3 : ev P (Instr.sliceAt t (.slice none 0 0) none (some (.int .i64 0)) none) = some (.slice none 0 0) := by
            simp [Instr.sliceAt, Instr.slice, Instr.sliceBounds, Instr.sliceBound, asIntOf, underlying, program, ev, hu, sizeOf, typeInfo, hi, bind, Sem.bind, pure]
          unfold il lr s6
          simp only [Op.operands]
          simp [hx, hh, AV.fy]
          rw [h2, Wg, h3]
          rfl
        · rfl
      · rfl
    · rfl
  · rfl
def ar4 {α : Type} (o sz : Nat) (l : List α) : AV := bif l.isEmpty then .sc (.slice none 0 0) else .sl o 0 l.length sz
def amg (cells : List AV) (k st : Nat) (et : TypeId) : List (Option bc) := bif cells.isEmpty then [] else [some (.row cells k st et)]
theorem amo {α : Type} {o sz} {l : List α} (h : l.isEmpty = false) : ar4 o sz l = .sl o 0 l.length sz := by simp [ar4, h]
theorem Yo {α : Type} (o sz) (l : List α) (c : α) : ar4 o sz (l ++ [c]) = .sl o 0 (l.length + 1) sz := by rw [amo (Fg l c)]; simp
theorem ant {cells : List AV} {k st et} (h : cells.isEmpty = false) : amg cells k st et = [some (.row cells k st et)] := by simp [amg, h]
theorem asn {α : Type} {f : α → AV} {l : List α} {k st et} (h : l.isEmpty = false) : amg (l.map f) k st et = [some (.row (l.map f) k st et)] := ant (by rw [Dm, h])
theorem W5 {α : Type} (f : α → AV) (l : List α) (c : α) (k st et) : amg ((l ++ [c]).map f) k st et = [some (.row (l.map f ++ [f c]) k st et)] := by rw [asn (Fg l c)]; simp
theorem dt {α : Type} {l : List α} {i : Nat} (h : decide ((i : Int) < (l.length : Int)) = true) : ∃ c, l[i]? = some c ∧ l.drop i = c :: l.drop (i + 1) ∧ i < l.length := by
  have h1 : i < l.length := by simp at h; omega
  exact ⟨l[i], List.getElem?_eq_getElem h1, List.drop_eq_getElem_cons h1, h1⟩
theorem dv {α : Type} {l : List α} {i : Nat} (h : decide ((i : Int) < (l.length : Int)) = false) : l.drop i = [] := by
  have h1 : ¬ i < l.length := by simp at h; omega
  exact List.drop_eq_nil_of_le (by omega)
def y7 (D : List Nat) : Nat → List (Option bc) → List (Option bc)
  | _, [] => []
  | i, x :: r => (bif vv i D then x else none) :: y7 D (i + 1) r
def A4 (D : List Nat) : Nat → List (Option bc) → List (Option bc)
  | _, [] => []
  | i, x :: r => (bif vv i D then none else x) :: A4 D (i + 1) r
theorem Xm (D) : ∀ (i : Nat) (os : List (Option bc)), (y7 D i os).length = os.length
  | _, [] => rfl
  | i, x :: r => by simp [y7, Xm D (i + 1) r]
theorem Kt (D) : ∀ (i : Nat) (os : List (Option bc)), (A4 D i os).length = os.length
  | _, [] => rfl
  | i, x :: r => by simp [A4, Kt D (i + 1) r]
theorem Yc (D) : ∀ (os : List (Option bc)) (i j : Nat), ((y7 D i os)[j]?).join = if (i + j) ∈ D then (os[j]?).join else none
  | [], i, j => by simp [y7]
  | x :: r, i, 0 => by
    simp only [y7, List.getElem?_cons_zero, Option.join_some, Nat.add_zero]
    cases hb : vv i D with
    | true => rw [if_pos ((ta i D).1 hb)]; rfl
    | false => rw [if_neg (fun h => by rw [(ta i D).2 h] at hb; cases hb)]; rfl
  | x :: r, i, j + 1 => by
    simp only [y7, List.getElem?_cons_succ]
    rw [Yc D r (i + 1) j, show i + 1 + j = i + (j + 1) from by omega]
theorem Yj (D) : ∀ (os : List (Option bc)) (i j : Nat), ((A4 D i os)[j]?).join = if (i + j) ∈ D then none else (os[j]?).join
  | [], i, j => by simp [A4]
  | x :: r, i, 0 => by
    simp only [A4, List.getElem?_cons_zero, Option.join_some, Nat.add_zero]
    cases hb : vv i D with
    | true => rw [if_pos ((ta i D).1 hb)]; rfl
    | false => rw [if_neg (fun h => by rw [(ta i D).2 h] at hb; cases hb)]; rfl
  | x :: r, i, j + 1 => by
    simp only [A4, List.getElem?_cons_succ]
    rw [Yj D r (i + 1) j, show i + 1 + j = i + (j + 1) from by omega]
theorem Vl (os : List (Option bc)) (h : os.length ≤ cq) (o : Nat) : (bp os).h.get o = (os[o]?).join := by
  simp only [bp]
  rw [sv _ _ _ (by omega), if_pos (Nat.zero_le _), Nat.sub_zero]
inductive je (h : Tr bc) : AV → AV → Prop
  | same (a : AV) : je h a a
  | data {α : Type} (C : dg α) (fr : Bool) (x : α) (a : AV) (hd : C.fo fr h a = some x) : je h a (C.val fr x)
  | bad (a : AV) : je h a .bad
  | nil (o off sz : Nat) : je h (.sc (.slice none 0 0)) (.sl o off 0 sz)
  | wm (loc : Bool) (sz : Nat) : je h (.sc (.slice none 0 0)) (.vl loc sz [])
inductive i7 (h : Tr bc) : List AV → List AV → Prop
  | nil : i7 h [] []
  | cons {a b : AV} {l m : List AV} (h1 : je h a b) (h2 : i7 h l m) : i7 h (a :: l) (b :: m)
theorem i7.len {h l m} (hl : i7 h l m) : m.length = l.length := by
  induction hl with
  | nil => rfl
  | cons _ _ ih => simp [ih]
theorem i7.get {h l m} (hl : i7 h l m) : ∀ (i : Nat) b, m[i]? = some b → ∃ a, l[i]? = some a ∧ je h a b := by
  induction hl with
  | nil => intro i b hb; simp at hb
  | cons h1 h2 ih =>
    intro i b hb
    cases i with
    | zero => simp at hb; subst hb; exact ⟨_, rfl, h1⟩
    | succ i => exact ih i b (by simpa using hb)
inductive dn (h : Tr bc) : List (Option bc) → List (Option bc) → Prop
  | nil : dn h [] []
  | ghost {st et m} (h2 : dn h [] m) : dn h [] (some (.row [] 0 st et) :: m)
  | same {x l m} (h2 : dn h l m) : dn h (x :: l) (x :: m)
  | gone {x l m} (h2 : dn h l m) : dn h (x :: l) (none :: m)
  | row {cells cells' k st et l m} (h1 : i7 h cells cells') (h2 : dn h l m) : dn h (some (.row cells k st et) :: l) (some (.row cells' k st et) :: m)
theorem dn.refl (h) : ∀ l, dn h l l
  | [] => .nil
  | x :: l => .same (dn.refl h l)
theorem dn.len {h l m} (hl : dn h l m) : l.length ≤ m.length := by induction hl <;> simp_all
theorem dn.get {h l m} (hl : dn h l m) : ∀ (i : Nat) y, (m[i]?).join = some y → (l[i]?).join = some y ∨ (∃ cells cells' k st et, y = .row cells' k st et ∧ (l[i]?).join = some (.row cells k st et) ∧ i7 h cells cells') ∨ (l.length ≤ i ∧ Af y) := by
  induction hl with
  | nil => intro i y hy; simp at hy
  | @ghost st et m h2 ih =>
    intro i y hy
    cases i with
    | zero => simp at hy; subst hy; exact .inr (.inr ⟨Nat.le_refl _, st, et, rfl⟩)
    | succ i => exact .inr (.inr ⟨Nat.zero_le _, (by
        rcases ih i y (by simpa using hy) with h | ⟨_, _, _, _, _, _, h, _⟩ | h
        · simp at h
        · simp at h
        · exact h.2)⟩)
  | same h2 ih =>
    intro i y hy
    cases i with
    | zero => exact .inl hy
    | succ i => exact (ih i y (by simpa using hy)).imp id (Or.imp id (fun h => ⟨Nat.succ_le_succ h.1, h.2⟩))
  | gone h2 ih =>
    intro i y hy
    cases i with
    | zero => simp at hy
    | succ i => exact (ih i y (by simpa using hy)).imp id (Or.imp id (fun h => ⟨Nat.succ_le_succ h.1, h.2⟩))
  | row h1 h2 ih =>
    intro i y hy
    cases i with
    | zero => simp at hy; subst hy; exact .inr (.inl ⟨_, _, _, _, _, rfl, rfl, h1⟩)
    | succ i => exact (ih i y (by simpa using hy)).imp id (Or.imp id (fun h => ⟨Nat.succ_le_succ h.1, h.2⟩))
theorem nj.lax {vs vs' : List AV} {os os' : List (Option bc)} {az : Nat} (D : List Nat) (hlen' : os'.length ≤ cq) (hv : i7 (bp (y7 D 0 os)).h vs vs') (ho : dn (bp (y7 D 0 os)).h (A4 D 0 os) os') : nj az vs os vs' os' := by
  have holen : os.length ≤ os'.length := by have := ho.len; rw [Kt] at this; exact this
  have hlen : os.length ≤ cq := Nat.le_trans holen hlen'
  refine ⟨hv.len, fun q => Nat.le_trans q holen, fun g w us hok hfree hr => ?_⟩
  obtain ⟨hD, ehD⟩ : ∃ hD, (bp (y7 D 0 os)).h = hD := ⟨_, rfl⟩
  rw [ehD] at hv ho
  have cx : ∀ o, (bp os).h.get o = (os[o]?).join := Vl os hlen
  have hgetD : ∀ o, hD.get o = if o ∈ D then (os[o]?).join else none := fun o => by
    rw [← ehD, Vl _ (by rw [Xm]; exact hlen), Yc, Nat.zero_add]
  have hget' : ∀ o y, (bp os').h.get o = some y → (o ∉ D ∧ ((bp os).h.get o = some y ∨ ∃ cells cells' k st et, y = .row cells' k st et ∧ (bp os).h.get o = some (.row cells k st et) ∧ i7 hD cells cells')) ∨ (os.length ≤ o ∧ Af y) := fun o y hy => by
    rw [Vl _ hlen'] at hy
    have hmid : ∀ z, ((A4 D 0 os)[o]?).join = some z → o ∉ D ∧ (os[o]?).join = some z := fun z hz => by
      rw [Yj, Nat.zero_add] at hz
      by_cases hd : o ∈ D
      · rw [if_pos hd] at hz; cases hz
      · rw [if_neg hd] at hz; exact ⟨hd, hz⟩
    rw [cx]
    rcases ho.get o y hy with h1 | ⟨cells, cells', k, st, et, h1, h2, h3⟩ | h1
    · exact .inl ⟨(hmid _ h1).1, .inl (hmid _ h1).2⟩
    · exact .inl ⟨(hmid _ h2).1, .inr ⟨cells, cells', k, st, et, h1, (hmid _ h2).2, h3⟩⟩
    · rw [Kt] at h1; exact .inr h1
  have hsub : ∀ o x, hD.get o = some x → o ∈ D ∧ (bp os).h.get o = some x := fun o x hx => by
    rw [hgetD] at hx
    by_cases hd : o ∈ D
    · rw [if_pos hd] at hx; rw [cx]; exact ⟨hd, hx⟩
    · rw [if_neg hd] at hx; cases hx
  have hokD : Ok g hD w := hok.part (fun o x hx => (hsub o x hx).2)
  obtain ⟨K', eK⟩ : ∃ K' : Nat → Nat → Prop, (fun b j => g.K b j ∨ ∃ o base cells k s e, hD.get o = some (.row cells k s e) ∧ g.inj o = some (b, base) ∧ ∃ i, i < cells.length ∧ j = base + i) = K' := ⟨_, rfl⟩
  have hK' : ∀ b j, K' b j ↔ (g.K b j ∨ ∃ o base cells k s e, hD.get o = some (.row cells k s e) ∧ g.inj o = some (b, base) ∧ ∃ i, i < cells.length ∧ j = base + i) := fun b j => by rw [← eK]
  have hlend : qw g hD K' := ⟨fun b j h => (hK' b j).2 (.inl h), fun o cells k s e h b base hi j hj => (hK' _ _).2 (.inr ⟨o, base, cells, k, s, e, h, hi, j, hj, rfl⟩)⟩
  have hlax : ∀ {a b : AV} {v : Value}, je hD a b → Rel g w a v → Rel { g with K := K' } w b v := fun {a b v} hl hrel => by
    have hup : Rel { g with K := K' } w a v := Rel.ext (g := g) (w := w) (g' := { g with K := K' }) (w' := w) ⟨rfl, fun _ _ h => h, fun b j h => (hK' b j).2 (.inl h), fun _ _ _ => rfl, fun b cs e fr h => ⟨cs, fr, h, rfl⟩, fun b l h => ⟨l, h⟩⟩ hrel
    cases hl with
    | same => exact hup
    | data C fr x a hd => exact (C.Xd hokD hlend (fun _ => Nat.le_refl g.b0) hrel hd).lift (Nat.le_refl _) (fun _ _ h => h)
    | bad => exact .bad _
    | nil o off sz => obtain rfl := hup.exact rfl; exact .vx _ _ _
    | wm loc sz => obtain rfl := hup.exact rfl; exact .jx _ _
  refine ⟨{ g with K := K' }, ⟨hok.size, fun o y hy => ?_, fun o o' x x' b base base' hne hx hx' hb hb' => ?_, fun b j hk => ?_⟩, ⟨by rw [hv.len]; exact hr.1, fun i b v hb hv' => ?_⟩, rfl, fun o q => hfree o (Nat.le_trans holen q), fun _ _ => rfl, fun b j h => (hK' b j).2 (.inl h), fun o b base ho' hi' => ?_, fun b j hk => ?_⟩
  · rcases hget' o y hy with ⟨hnd, hy⟩ | ⟨hge, hgh⟩
    case inr => exact .inl ⟨hfree o hge, hgh⟩
    have hKo : ∀ b base, g.inj o = some (b, base) → ((bp os).h.get o).isSome = true → ∀ j, K' b j → g.K b j := fun b base hi hs j hk => by
      rcases (hK' b j).1 hk with h | ⟨o2, base2, cells, k, s, e, h1, h2, _⟩
      · exact h
      · exfalso
        obtain ⟨hd2, h1'⟩ := hsub o2 _ h1
        obtain ⟨x, hx⟩ := Option.isSome_iff_exists.1 hs
        exact hok.sep o o2 x _ b base base2 (fun e => hnd (by rw [e]; exact hd2)) hx h1' hi h2
    have hext : Ext g w { g with K := K' } w := ⟨rfl, fun _ _ h => h, fun b j h => (hK' b j).2 (.inl h), fun _ _ _ => rfl, fun b cs e fr h => ⟨cs, fr, h, rfl⟩, fun b l h => ⟨l, h⟩⟩
    rcases hy with hy | ⟨cells, cells', k, st, et, rfl, hy, hcl⟩
    · refine (hok.mb o y hy).imp id ?_
      rintro ⟨b, base, h1, h2, h3⟩
      exact ⟨b, base, h1, h2, h3.ext hext rfl (fun j hj => hKo b base h1 (by rw [hy]; rfl) j hj)⟩
    · refine (hok.mb o _ hy).imp (fun q => ⟨q.1, by
        obtain ⟨s0, e0, he⟩ := q.2
        simp only [bc.row.injEq] at he
        obtain ⟨rfl, rfl, rfl, rfl⟩ := he
        cases hcl
        exact ⟨_, _, rfl⟩⟩) ?_
      rintro ⟨b, base, h1, h2, cs, fr, r1, r2, r3, r4, r5, r6, r7⟩
      refine ⟨b, base, h1, h2, cs, fr, r1, by rw [hcl.len]; exact r2, fun j c hc => ?_, r4, fun j hj => r5 j (hKo b base h1 (by rw [hy]; rfl) j hj), r6, fun e => by rw [hcl.len]; exact r7 e⟩
      obtain ⟨a, ha, hla⟩ := hcl.get j c hc
      obtain ⟨u, hu, hru⟩ := r3 j a ha
      exact ⟨u, hu, hlax hla hru⟩
  · have q : ∀ o y p, (bp os').h.get o = some y → g.inj o = some p → ∃ z, (bp os).h.get o = some z := fun o y p hy hp => by
      rcases hget' o y hy with ⟨_, h | ⟨_, _, _, _, _, _, h, _⟩⟩ | ⟨h, _⟩
      · exact ⟨_, h⟩
      · exact ⟨_, h⟩
      · rw [hfree o h] at hp; cases hp
    obtain ⟨z, hz⟩ := q o x _ hx hb
    obtain ⟨z', hz'⟩ := q o' x' _ hx' hb'
    exact hok.sep o o' z z' b base base' hne hz hz' hb hb'
  · rcases (hK' b j).1 hk with h | ⟨o, base, cells, k, s, e, h1, h2, _⟩
    · exact hok.K b j h
    · obtain ⟨b', base', h3, _, h4⟩ := hokD.obj o _ h1
      rw [h2] at h3; cases h3
      exact h4.lt
  · obtain ⟨a, ha, hla⟩ := hv.get i b hb
    exact hlax hla (hr.2 i a v ha hv')
  · obtain ⟨y, hy⟩ := Option.isSome_iff_exists.1 ho'
    rcases hget' o y hy with ⟨_, h | ⟨_, _, _, _, _, _, h, _⟩⟩ | ⟨h, _⟩
    · exact ⟨o, base, by rw [h]; rfl, hi'⟩
    · exact ⟨o, base, by rw [h]; rfl, hi'⟩
    · have : g.inj o = some (b, base) := hi'
      rw [hfree o h] at this; cases this
  · rcases (hK' b j).1 hk with h | ⟨o, base, cells, k, s, e, h1, h2, _⟩
    · exact .inl h
    · exact .inr ⟨o, base, by rw [(hsub o _ h1).2]; rfl, h2⟩
theorem api {α : Type} {P : Program} {T : ed} {az : Nat} {b : Code} {Q : QL} {L : SL} {st : St} (keep : List Nat) (V : α → List AV) (O : α → List (Option bc)) (I : α → Prop) (μ : α → Nat) (x : α) (hx : I x)
    (hv : nj az (jz az keep L st) (gb az keep L st) (V x) (O x))
    (step : ∀ x, I x → wl P T az b (xa az keep (fun vs os => ∃ y, I y ∧ μ y < μ x ∧ nj az vs os (V y) (O y)) Q) (mz keep (V x)) (bp (O x))) : rn az (wl P T az b) Q L st :=
  rn.asv keep V O I μ x hx hv (fun _ _ h => Gx b _ _ h) step
theorem kl {α : Type} {P : Program} {T : ed} {az : Nat} {b : Code} {Q : QL} {L : SL} {st : St} (keep : List Nat) (V : α → List AV) (O : α → List (Option bc)) (I : α → Prop) (μ : α → Nat) (x : α) (hx : I x)
    (hv : nj az (jz az keep L st) (gb az keep L st) (V x) (O x))
    (step : ∀ x, I x → wl P T az b (xa az keep (fun vs os => ∃ y, I y ∧ μ y < μ x ∧ vs = V y ∧ os = O y) Q) (mz keep (V x)) (bp (O x))) : rn az (wl P T az b) Q L st :=
  api keep V O I μ x hx hv (fun x hi => Gx b _ _ (fun e L' st' hq => by
    cases e with
    | normal =>
      obtain ⟨y, h1, h2, h3, h4⟩ := hq
      refine ⟨y, h1, h2, ?_⟩
      rw [h3, h4]; exact .refl _ _ _
    | exit id => exact hq
    | ret => exact hq) _ _ (step x hi))
theorem Ga (f) (l) : (List.map (an.val f) l).flatMap AV.cells = l.map (an.val f) := Gu an f rfl rfl l
theorem Ta (f) (l) : (List.map (an.val f) l).all AV.one = true := by rw [← Ga f l, Ij]; exact Bh _ _ _
theorem Jh (fr h n cells k st et) (hn : n = cells.length) : nf an fr h 0 n (.row cells k st et) = qe an fr h cells := v5 an rfl fr h n cells k st et hn
theorem Py (fr h f) (l) : qe an fr h (List.map (an.val f) l) = some l := by
  have e : List.map (an.val f) l = List.map (an.val true) l := by cases f <;> rfl
  rw [e]; exact D4 an rfl rfl fr h true (fun _ => rfl) l
theorem Hx (f) (l) : (List.map (cp.val f) l).flatMap AV.cells = l.map (cp.val f) := Gu cp f rfl rfl l
theorem W6 (f) (l) : (List.map (cp.val f) l).all AV.one = true := by rw [← Hx f l, Ij]; exact Bh _ _ _
theorem Lb (fr h n cells k st et) (hn : n = cells.length) : nf cp fr h 0 n (.row cells k st et) = qe cp fr h cells := v5 cp rfl fr h n cells k st et hn
theorem Tl (fr h f) (l) : qe cp fr h (List.map (cp.val f) l) = some l := by
  have e : List.map (cp.val f) l = List.map (cp.val true) l := by cases f <;> rfl
  rw [e]; exact D4 cp rfl rfl fr h true (fun _ => rfl) l
theorem F5 (f) (l) : (List.map (bn.val f) l).flatMap AV.cells = l.map (bn.val f) := Gu bn f rfl rfl l
theorem Si (f) (l) : (List.map (bn.val f) l).all AV.one = true := by rw [← F5 f l, Ij]; exact Bh _ _ _
theorem Jc (fr h n cells k st et) (hn : n = cells.length) : nf bn fr h 0 n (.row cells k st et) = qe bn fr h cells := v5 bn rfl fr h n cells k st et hn
theorem P5 (fr h f) (l) : qe bn fr h (List.map (bn.val f) l) = some l := by
  have e : List.map (bn.val f) l = List.map (bn.val true) l := by cases f <;> rfl
  rw [e]; exact D4 bn rfl rfl fr h true (fun _ => rfl) l
theorem Eo (f) (l) : (List.map (ar.val f) l).flatMap AV.cells = l.map (ar.val f) := Gu ar f rfl rfl l
theorem Oj (f) (l) : (List.map (ar.val f) l).all AV.one = true := by rw [← Eo f l, Ij]; exact Bh _ _ _
theorem Hs (fr h n cells k st et) (hn : n = cells.length) : nf ar fr h 0 n (.row cells k st et) = qe ar fr h cells := v5 ar rfl fr h n cells k st et hn
theorem Ls (fr h f) (l) (hf : (f || !fr) = true) : qe ar fr h (List.map (ar.val f) l) = some l := D4 ar rfl rfl fr h f (fun e => by subst e; simpa using hf) l
theorem Me (fr h l n xs) (hn : n = 1) (hl : (l || !fr) = true) : ew an fr h (.vl l n (xs.map (an.val false))) = some xs := by
  cases l with
  | true => exact wh an fr h true xs n hn hl
  | false => exact wh an fr h false xs n hn hl
theorem Rx : an.val true = an.val false := id rfl
theorem O6 (fr h l n xs) (hn : n = 1) (hl : (l || !fr) = true) : ew cp fr h (.vl l n (xs.map (cp.val false))) = some xs := by
  cases l with
  | true => exact wh cp fr h true xs n hn hl
  | false => exact wh cp fr h false xs n hn hl
theorem Yz : cp.val true = cp.val false := id rfl
theorem Ko (fr h l n xs) (hn : n = 1) (hl : (l || !fr) = true) : ew bn fr h (.vl l n (xs.map (bn.val false))) = some xs := by
  cases l with
  | true => exact wh bn fr h true xs n hn hl
  | false => exact wh bn fr h false xs n hn hl
theorem Tj : bn.val true = bn.val false := id rfl
theorem U1 (fr h s) : an.dec fr h [.sc (.string s)] = some s := id rfl
theorem Yh (fr h) (c : UInt8) : cp.dec fr h [.sc (.int .u8 c.toNat)] = some c := cp.rt fr h true c (fun _ => rfl)
theorem Sg (fr h) (c : UInt16) : c8.dec fr h [.sc (.int .u16 c.toNat)] = some c := c8.rt fr h true c (fun _ => rfl)
theorem To (fr h) (c : UInt32) : bn.dec fr h [.sc (.int .u32 c.toNat)] = some c := bn.rt fr h true c (fun _ => rfl)
theorem X0 (a b : List AV) : AV.fresh.go (a ++ b) = (AV.fresh.go a && AV.fresh.go b) := by
  induction a with
  | nil => rfl
  | cons x a ih => simp only [List.cons_append, AV.fresh.go, ih, Bool.and_assoc]
theorem ae0 (f) (l : List UInt8) : AV.fresh.go (l.map (cp.val f)) = true := by
  induction l with
  | nil => rfl
  | cons x l ih => simp only [List.map_cons, AV.fresh.go, ih]; rfl
theorem P2 (f) (c : Name) : (ar.val f c).one = true := id rfl
theorem Je (f) (c : Name) : (ar.val f c).cells = [ar.val f c] := id rfl
theorem Ym (fr h a) : (cr cp).dec fr h [a] = ew cp fr h a := id rfl
theorem Li (fr h n cells k st et) (hn : n = cells.length) : nf (cr cp) fr h 0 n (.row cells k st et) = qe (cr cp) fr h cells := v5 (cr cp) rfl fr h n cells k st et hn
end
end Go.Vm
end
section
set_option linter.unusedVariables false
set_option maxRecDepth 4000
namespace Go.Vm
theorem wR : type_of% @ahl ∧ type_of% @abe ∧ type_of% @W4 ∧ type_of% @aqc ∧ type_of% @ais ∧ type_of% @aak ∧ type_of% @ai4 ∧ type_of% @afm ∧ type_of% @ah2 ∧ type_of% @amy ∧ type_of% @am8 ∧ type_of% @ams ∧ type_of% @aqg ∧ type_of% @anh ∧ type_of% @ang ∧ type_of% @apq ∧ type_of% @ahq ∧ type_of% @aix ∧ type_of% @aia ∧ type_of% @ao2 ∧ type_of% @aoj ∧ type_of% @Y4 ∧ type_of% @ab3 ∧ type_of% @Ye ∧ type_of% @Tx ∧ type_of% @U9 ∧ type_of% @afo ∧ type_of% @ad0 ∧ type_of% @aer ∧ type_of% @air ∧ type_of% @aa8 ∧ type_of% @acx ∧ type_of% @X3 ∧ type_of% @ac8 ∧ type_of% @X9 ∧ type_of% @Yv ∧ type_of% @aah ∧ type_of% @Yr ∧ type_of% @Xg ∧ type_of% @ank ∧ type_of% @G5 ∧ type_of% @Gp ∧ type_of% @aas ∧ type_of% @afq ∧ type_of% @Ub ∧ type_of% @ahr ∧ type_of% @abr ∧ type_of% @W3 ∧ type_of% @ae7 ∧ type_of% @aio ∧ type_of% @an1 ∧ type_of% @aqo ∧ type_of% @anw ∧ type_of% @ano ∧ type_of% @am1 ∧ type_of% @anq ∧ type_of% @ajd ∧ type_of% @aip ∧ type_of% @ajk ∧ type_of% @ai9 ∧ type_of% @aib ∧ type_of% @ade ∧ type_of% @Y0 ∧ type_of% @T9 ∧ type_of% @Rv ∧ type_of% @ae4 ∧ type_of% @aik ∧ type_of% @aid ∧ type_of% @Uf ∧ type_of% @aok ∧ type_of% @anf ∧ type_of% @abn ∧ type_of% @aaf ∧ type_of% @ahx ∧ type_of% @Ou ∧ type_of% @Mb :=
  ⟨@ahl, @abe, @W4, @aqc, @ais, @aak, @ai4, @afm, @ah2, @amy, @am8, @ams, @aqg, @anh, @ang, @apq, @ahq, @aix, @aia, @ao2, @aoj, @Y4, @ab3, @Ye, @Tx, @U9, @afo, @ad0, @aer, @air, @aa8, @acx, @X3, @ac8, @X9, @Yv, @aah, @Yr, @Xg, @ank, @G5, @Gp, @aas, @afq, @Ub, @ahr, @abr, @W3, @ae7, @aio, @an1, @aqo, @anw, @ano, @am1, @anq, @ajd, @aip, @ajk, @ai9, @aib, @ade, @Y0, @T9, @Rv, @ae4, @aik, @aid, @Uf, @aok, @anf, @abn, @aaf, @ahx, @Ou, @Mb⟩
theorem R0 : type_of% @aai ∧ type_of% @amt ∧ type_of% @List.length_take.{0} ∧ type_of% @nc0 ∧ type_of% @nc1 ∧ type_of% @Int.sub_zero ∧ type_of% @Int.sub_self ∧ type_of% @Int.zero_add ∧ type_of% @S6 ∧ type_of% @ani ∧ type_of% @Xk ∧ type_of% @aa0 ∧ type_of% @ajj ∧ type_of% @Po ∧ type_of% @List.length_replicate.{0} ∧ type_of% @Yb ∧ type_of% @Xw ∧ type_of% @apk ∧ type_of% @E3 ∧ type_of% @P1 ∧ type_of% @Kl ∧ type_of% @acq ∧ type_of% @afj ∧ type_of% @Tv ∧ type_of% @Jg ∧ type_of% @aay ∧ type_of% @aie ∧ type_of% @an5 ∧ type_of% @ajb ∧ type_of% @Q5 ∧ type_of% @E1 ∧ type_of% @Qi ∧ type_of% @ap9 ∧ type_of% @ajh ∧ type_of% @Py ∧ type_of% @Tl ∧ type_of% @P5 ∧ type_of% @Ls ∧ type_of% @U1 ∧ type_of% @Yh ∧ type_of% @Sg ∧ type_of% @To ∧ type_of% @List.length_append.{0} ∧ type_of% @rtT ∧ type_of% @rtF ∧ type_of% @Go.Vm.qm.eq_1 ∧ type_of% @Go.Vm.bounds.eq_1 ∧ type_of% @Go.Vm.Ed.eq_1 ∧ type_of% @Go.Vm.Ed.eq_2 :=
  ⟨@aai, @amt, @List.length_take.{0}, @nc0, @nc1, @Int.sub_zero, @Int.sub_self, @Int.zero_add, @S6, @ani, @Xk, @aa0, @ajj, @Po, @List.length_replicate.{0}, @Yb, @Xw, @apk, @E3, @P1, @Kl, @acq, @afj, @Tv, @Jg, @aay, @aie, @an5, @ajb, @Q5, @E1, @Qi, @ap9, @ajh, @Py, @Tl, @P5, @Ls, @U1, @Yh, @Sg, @To, @List.length_append.{0}, @rtT, @rtF, @Go.Vm.qm.eq_1, @Go.Vm.bounds.eq_1, @Go.Vm.Ed.eq_1, @Go.Vm.Ed.eq_2⟩
theorem R1 : type_of% @Go.Vm.se.eq_1 ∧ type_of% @Go.Vm.ry.eq_def ∧ type_of% @Go.Vm.qf.eq_def ∧ type_of% @Hd ∧ type_of% @I9 ∧ type_of% @O5 ∧ type_of% @Tq ∧ type_of% @Nat.div_one ∧ type_of% @S5 ∧ type_of% @Te ∧ type_of% @apf ∧ type_of% @O3 ∧ type_of% @Rr ∧ type_of% @Pa ∧ type_of% @ati ∧ type_of% @Ga ∧ type_of% @Hx ∧ type_of% @F5 ∧ type_of% @Eo ∧ type_of% @Ta ∧ type_of% @W6 ∧ type_of% @Si ∧ type_of% @Oj ∧ type_of% @Rx ∧ type_of% @Yz ∧ type_of% @Tj ∧ type_of% @ahn ∧ type_of% @aim ∧ type_of% @Sz ∧ type_of% @ah5 ∧ type_of% @G3 ∧ type_of% @K1 ∧ type_of% @Option.isNone_none.{0} ∧ type_of% @Option.isNone_some.{0} ∧ type_of% @ajg :=
  ⟨@Go.Vm.se.eq_1, @Go.Vm.ry.eq_def, @Go.Vm.qf.eq_def, @Hd, @I9, @O5, @Tq, @Nat.div_one, @S5, @Te, @apf, @O3, @Rr, @Pa, @ati, @Ga, @Hx, @F5, @Eo, @Ta, @W6, @Si, @Oj, @Rx, @Yz, @Tj, @ahn, @aim, @Sz, @ah5, @G3, @K1, @Option.isNone_none.{0}, @Option.isNone_some.{0}, @ajg⟩
theorem R2 : type_of% @P2 ∧ type_of% @Je ∧ type_of% @Me ∧ type_of% @O6 ∧ type_of% @Ko ∧ type_of% @X0 ∧ type_of% @ae0 ∧ type_of% @Ym ∧ type_of% @Li ∧ type_of% @Jh ∧ type_of% @Lb ∧ type_of% @Jc ∧ type_of% @Hs ∧ type_of% @acy ∧ type_of% @Dm ∧ type_of% @List.isEmpty_cons.{0} ∧ type_of% @List.isEmpty_nil.{0} ∧ type_of% @List.flatMap_nil.{0, 0} ∧ type_of% @Px ∧ type_of% @O1 ∧ type_of% @Th ∧ type_of% @Ti ∧ type_of% @and_true ∧ type_of% @true_and ∧ type_of% @O4 ∧ type_of% @Ot ∧ type_of% @Xy ∧ type_of% @ah8 ∧ type_of% @aoa ∧ type_of% @and_self ∧ type_of% @List.size_toArray.{0} ∧ type_of% @Xv ∧ type_of% @X6 ∧ type_of% @adz ∧ type_of% @acs ∧ type_of% @W8 ∧ type_of% @ads ∧ type_of% @U5 ∧ type_of% @abp ∧ type_of% @I7 ∧ type_of% @Xe ∧ type_of% @aaw ∧ type_of% @Y6 ∧ type_of% @Pu ∧ type_of% @Js :=
  ⟨@P2, @Je, @Me, @O6, @Ko, @X0, @ae0, @Ym, @Li, @Jh, @Lb, @Jc, @Hs, @acy, @Dm, @List.isEmpty_cons.{0}, @List.isEmpty_nil.{0}, @List.flatMap_nil.{0, 0}, @Px, @O1, @Th, @Ti, @and_true, @true_and, @O4, @Ot, @Xy, @ah8, @aoa, @and_self, @List.size_toArray.{0}, @Xv, @X6, @adz, @acs, @W8, @ads, @U5, @abp, @I7, @Xe, @aaw, @Y6, @Pu, @Js⟩
theorem R3 : type_of% @Lk ∧ type_of% @Xs ∧ type_of% @W2 ∧ type_of% @Gz ∧ type_of% @Wy ∧ type_of% @aii ∧ type_of% @Uk ∧ type_of% @aey ∧ type_of% @Yu ∧ type_of% @Tk ∧ type_of% @abv ∧ type_of% @W9 ∧ type_of% @X1 ∧ type_of% @Rs ∧ type_of% @S3 ∧ type_of% @Om ∧ type_of% @ath ∧ type_of% @abz ∧ type_of% @Yl ∧ type_of% @Ph ∧ type_of% @K8 ∧ type_of% @Tp ∧ type_of% @Us ∧ type_of% @w5 ∧ type_of% @Go.Vm.cellsIn.eq_1 ∧ type_of% @Go.Vm.cellsIn.eq_2 ∧ type_of% @Go.Vm.cellsIn.eq_5 ∧ type_of% @Go.Vm.cellsIn.eq_6 ∧ type_of% @Go.Vm.xt.eq_1 ∧ type_of% @Go.Vm.Ay.eq_1 ∧ type_of% @Dt ∧ type_of% @Jz ∧ type_of% @Lw ∧ type_of% @Lm ∧ type_of% @B8 ∧ type_of% @Ft ∧ type_of% @E6 ∧ type_of% @Ek ∧ type_of% @Kr ∧ type_of% @Hq ∧ type_of% @Mf ∧ type_of% @Cc ∧ type_of% @Jt ∧ type_of% @Lv ∧ type_of% @Jb :=
  ⟨@Lk, @Xs, @W2, @Gz, @Wy, @aii, @Uk, @aey, @Yu, @Tk, @abv, @W9, @X1, @Rs, @S3, @Om, @ath, @abz, @Yl, @Ph, @K8, @Tp, @Us, @w5, @Go.Vm.cellsIn.eq_1, @Go.Vm.cellsIn.eq_2, @Go.Vm.cellsIn.eq_5, @Go.Vm.cellsIn.eq_6, @Go.Vm.xt.eq_1, @Go.Vm.Ay.eq_1, @Dt, @Jz, @Lw, @Lm, @B8, @Ft, @E6, @Ek, @Kr, @Hq, @Mf, @Cc, @Jt, @Lv, @Jb⟩
theorem R4 : type_of% @Cd ∧ type_of% @Jd ∧ type_of% @Mv ∧ type_of% @Pp ∧ type_of% @Ku ∧ type_of% @Xa ∧ type_of% @pf ∧ type_of% @T4 ∧ type_of% @On ∧ type_of% @abd ∧ type_of% @wh ∧ type_of% @aji ∧ type_of% @U3 ∧ type_of% @U6 ∧ type_of% @Ey ∧ type_of% @Xr ∧ type_of% @Rk ∧ type_of% @Go.Vm.ki.eq_1 ∧ type_of% @List.flatten_cons.{0} ∧ type_of% @List.flatten_nil.{0} ∧ type_of% @List.replicate_succ.{0} ∧ type_of% @List.replicate_zero.{0} ∧ type_of% @Wt ∧ type_of% @Ww ∧ type_of% @ao9 ∧ type_of% @ahv ∧ type_of% @atw ∧ type_of% @atn ∧ type_of% @atj ∧ type_of% @I2 ∧ type_of% @Dx ∧ type_of% @I4 ∧ type_of% @yz ∧ type_of% @Pb :=
  ⟨@Cd, @Jd, @Mv, @Pp, @Ku, @Xa, @pf, @T4, @On, @abd, @wh, @aji, @U3, @U6, @Ey, @Xr, @Rk, @Go.Vm.ki.eq_1, @List.flatten_cons.{0}, @List.flatten_nil.{0}, @List.replicate_succ.{0}, @List.replicate_zero.{0}, @Wt, @Ww, @ao9, @ahv, @atw, @atn, @atj, @I2, @Dx, @I4, @yz, @Pb⟩
theorem R5 : type_of% @Im ∧ type_of% @Fz ∧ type_of% @Cb ∧ type_of% @zv ∧ type_of% @Ad ∧ type_of% @P0 ∧ type_of% @X5 ∧ type_of% @Gi ∧ type_of% @xg ∧ type_of% @Ju ∧ type_of% @Hk ∧ type_of% @Jm ∧ type_of% @Od ∧ type_of% @Oz ∧ type_of% @L5 ∧ type_of% @Ew ∧ type_of% @Ml ∧ type_of% @Er ∧ type_of% @U4 ∧ type_of% @J9 ∧ type_of% @aqd ∧ type_of% @apc ∧ type_of% @at1 ∧ type_of% @Go.IntKind.bits.eq_6 ∧ type_of% @Nat.min_def ∧ type_of% @at5 ∧ type_of% @atl ∧ type_of% @at0 ∧ type_of% @atp ∧ type_of% @at2 ∧ type_of% @ate ∧ type_of% @as8 ∧ type_of% @atg ∧ type_of% @atb ∧ type_of% @aud ∧ type_of% @ach ∧ type_of% @abb ∧ type_of% @axh ∧ type_of% @axm ∧ type_of% @ak9 ∧ type_of% @Go.Vm.xb.eq_1 ∧ type_of% @Go.Vm.qj.eq_1 ∧ type_of% @Go.Vm.oe.eq_def :=
  ⟨@Im, @Fz, @Cb, @zv, @Ad, @P0, @X5, @Gi, @xg, @Ju, @Hk, @Jm, @Od, @Oz, @L5, @Ew, @Ml, @Er, @U4, @J9, @aqd, @apc, @at1, @Go.IntKind.bits.eq_6, @Nat.min_def, @at5, @atl, @at0, @atp, @at2, @ate, @as8, @atg, @atb, @aud, @ach, @abb, @axh, @axm, @ak9, @Go.Vm.xb.eq_1, @Go.Vm.qj.eq_1, @Go.Vm.oe.eq_def⟩
theorem R6 : type_of% @Go.Vm.xq.eq_1 ∧ type_of% @Go.Vm.tr.eq_1 ∧ type_of% @Go.Vm.m9.eq_1 ∧ type_of% @Go.Vm.jt.eq_1 ∧ type_of% @Go.Vm.jt.eq_2 ∧ type_of% @Go.Vm.AV.known.eq_2 ∧ type_of% @Go.Value.oneCell'.eq_3 ∧ type_of% @Go.Vm.AV.cells.eq_1 ∧ type_of% @Go.Vm.AV.cells.eq_2 ∧ type_of% @Go.Vm.AV.cells.eq_3 ∧ type_of% @Go.Value.cells.eq_1 ∧ type_of% @Go.Value.cells.eq_2 ∧ type_of% @Go.Vm.AV.one.eq_4 ∧ type_of% @Go.Vm.AV.one.eq_5 ∧ type_of% @Go.Vm.j9.eq_1 ∧ type_of% @Go.Vm.ja.eq_1 ∧ type_of% @Go.Vm.ja.eq_2 ∧ type_of% @Go.Vm.Aa.eq_1 ∧ type_of% @Go.Vm.qn.eq_1 ∧ type_of% @Go.Vm.qp.eq_2 ∧ type_of% @Go.Vm.qp.eq_6 ∧ type_of% @Go.Vm.ji.eq_1 ∧ type_of% @Go.Vm.ji.eq_3 ∧ type_of% @Go.Vm.ji.eq_4 ∧ type_of% @Go.Vm.xd.eq_1 ∧ type_of% @Go.Vm.Cz.eq_1 ∧ type_of% @Go.Vm.Lj.eq_1 ∧ type_of% @Go.Vm.mf.eq_1 ∧ type_of% @Go.Vm.mf.eq_2 ∧ type_of% @Go.Vm.mf.eq_3 ∧ type_of% @Go.Vm.mf.eq_4 ∧ type_of% @Go.Vm.mf.eq_5 ∧ type_of% @Go.Vm.mf.eq_6 ∧ type_of% @Go.Vm.mf.eq_7 ∧ type_of% @Go.Vm.mf.eq_8 ∧ type_of% @Go.Vm.mf.eq_9 ∧ type_of% @Go.Vm.mf.eq_10 :=
  ⟨@Go.Vm.xq.eq_1, @Go.Vm.tr.eq_1, @Go.Vm.m9.eq_1, @Go.Vm.jt.eq_1, @Go.Vm.jt.eq_2, @Go.Vm.AV.known.eq_2, @Go.Value.oneCell'.eq_3, @Go.Vm.AV.cells.eq_1, @Go.Vm.AV.cells.eq_2, @Go.Vm.AV.cells.eq_3, @Go.Value.cells.eq_1, @Go.Value.cells.eq_2, @Go.Vm.AV.one.eq_4, @Go.Vm.AV.one.eq_5, @Go.Vm.j9.eq_1, @Go.Vm.ja.eq_1, @Go.Vm.ja.eq_2, @Go.Vm.Aa.eq_1, @Go.Vm.qn.eq_1, @Go.Vm.qp.eq_2, @Go.Vm.qp.eq_6, @Go.Vm.ji.eq_1, @Go.Vm.ji.eq_3, @Go.Vm.ji.eq_4, @Go.Vm.xd.eq_1, @Go.Vm.Cz.eq_1, @Go.Vm.Lj.eq_1, @Go.Vm.mf.eq_1, @Go.Vm.mf.eq_2, @Go.Vm.mf.eq_3, @Go.Vm.mf.eq_4, @Go.Vm.mf.eq_5, @Go.Vm.mf.eq_6, @Go.Vm.mf.eq_7, @Go.Vm.mf.eq_8, @Go.Vm.mf.eq_9, @Go.Vm.mf.eq_10⟩
theorem R7 : type_of% @Go.Vm.AV.int.eq_1 ∧ type_of% @Go.Vm.AV.bool.eq_1 ∧ type_of% @Go.Vm.AV.exact.eq_1 ∧ type_of% @Go.Vm.AV.exact.eq_2 ∧ type_of% @Go.Vm.intOf.eq_1 ∧ type_of% @Go.Vm.intOf.eq_2 ∧ type_of% @Go.Vm.ny.eq_1 ∧ type_of% @Go.Vm.j6.eq_1 ∧ type_of% @Go.Vm.uj.eq_1 ∧ type_of% @Go.Vm.uj.eq_2 ∧ type_of% @Go.Vm.wj.eq_1 ∧ type_of% @Go.Vm.Bu.eq_1 ∧ type_of% @Go.Vm.od.eq_1 ∧ type_of% @Go.Vm.nv.eq_1 ∧ type_of% @Go.Vm.n6.eq_1 ∧ type_of% @Go.Vm.n6.eq_3 ∧ type_of% @Go.Vm.n6.eq_9 ∧ type_of% @Go.Vm.D7.eq_1 ∧ type_of% @Go.Vm.Q7.eq_1 ∧ type_of% @Go.Vm.Gm.eq_1 ∧ type_of% @Go.Vm.isSlice.eq_4 ∧ type_of% @Go.Vm.Di.eq_1 ∧ type_of% @Go.goInt.eq_1 ∧ type_of% @anp ∧ type_of% @apb ∧ type_of% @am9 ∧ type_of% @Go.Vm.pack.eq_1 ∧ type_of% @Go.Vm.pack.eq_2 ∧ type_of% @Go.Vm.bw.eq_1 ∧ type_of% @Go.Vm.bw.eq_2 ∧ type_of% @Go.Vm.bp.eq_1 ∧ type_of% @Go.Vm.pc.eq_1 ∧ type_of% @Go.Vm.pc.eq_2 ∧ type_of% @Go.Vm.th.eq_1 ∧ type_of% @qa ∧ type_of% @vz ∧ type_of% @Xz ∧ type_of% @aff ∧ type_of% @so ∧ type_of% @sw ∧ type_of% @Fw :=
  ⟨@Go.Vm.AV.int.eq_1, @Go.Vm.AV.bool.eq_1, @Go.Vm.AV.exact.eq_1, @Go.Vm.AV.exact.eq_2, @Go.Vm.intOf.eq_1, @Go.Vm.intOf.eq_2, @Go.Vm.ny.eq_1, @Go.Vm.j6.eq_1, @Go.Vm.uj.eq_1, @Go.Vm.uj.eq_2, @Go.Vm.wj.eq_1, @Go.Vm.Bu.eq_1, @Go.Vm.od.eq_1, @Go.Vm.nv.eq_1, @Go.Vm.n6.eq_1, @Go.Vm.n6.eq_3, @Go.Vm.n6.eq_9, @Go.Vm.D7.eq_1, @Go.Vm.Q7.eq_1, @Go.Vm.Gm.eq_1, @Go.Vm.isSlice.eq_4, @Go.Vm.Di.eq_1, @Go.goInt.eq_1, @anp, @apb, @am9, @Go.Vm.pack.eq_1, @Go.Vm.pack.eq_2, @Go.Vm.bw.eq_1, @Go.Vm.bw.eq_2, @Go.Vm.bp.eq_1, @Go.Vm.pc.eq_1, @Go.Vm.pc.eq_2, @Go.Vm.th.eq_1, @qa, @vz, @Xz, @aff, @so, @sw, @Fw⟩
theorem R8 : type_of% @T7 ∧ type_of% @Tt ∧ type_of% @Tg ∧ type_of% @O7 ∧ type_of% @T5 ∧ type_of% @Go.Vm.jz.eq_1 ∧ type_of% @Go.Vm.gb.eq_1 ∧ type_of% @Go.Vm.gv.eq_1 ∧ type_of% @Go.Vm.nm.eq_1 ∧ type_of% @Go.Vm.nm.eq_2 ∧ type_of% @Go.Vm.reach.eq_2 ∧ type_of% @Go.Vm.reach.eq_3 ∧ type_of% @Go.Vm.eu.eq_1 ∧ type_of% @Go.Vm.dm.eq_1 ∧ type_of% @Go.Vm.dm.eq_2 ∧ type_of% @Go.Vm.AV.names.eq_1 ∧ type_of% @Go.Vm.AV.names.eq_2 ∧ type_of% @Go.Vm.AV.names.eq_3 ∧ type_of% @Go.Vm.AV.names.eq_4 ∧ type_of% @Go.Vm.AV.names.eq_5 ∧ type_of% @Go.Vm.AV.names.eq_6 ∧ type_of% @Go.Vm.AV.names.eq_9 ∧ type_of% @Go.Vm.AV.names.go.eq_1 ∧ type_of% @Go.Vm.AV.names.go.eq_2 ∧ type_of% @Go.Vm.bc.names.eq_1 ∧ type_of% @Go.Vm.bc.names.eq_2 ∧ type_of% @Go.Vm.AV.db.eq_1 ∧ type_of% @Go.Vm.AV.db.eq_2 ∧ type_of% @Go.Vm.AV.db.eq_3 ∧ type_of% @Go.Vm.AV.db.eq_4 ∧ type_of% @Go.Vm.AV.db.eq_5 ∧ type_of% @Go.Vm.AV.db.eq_6 ∧ type_of% @Go.Vm.AV.db.eq_7 ∧ type_of% @Go.Vm.AV.db.eq_8 ∧ type_of% @Go.Vm.AV.db.eq_11 ∧ type_of% @Go.Vm.bc.db.eq_1 ∧ type_of% @Go.Vm.bc.db.eq_2 ∧ type_of% @I6 ∧ type_of% @ail ∧ type_of% @Go.Vm.gz.eq_1 ∧ type_of% @Go.Vm.gz.eq_2 ∧ type_of% @Go.Vm.mz.eq_2 ∧ type_of% @jq ∧ type_of% @Option.bind_some.{0, 0} ∧ type_of% @Option.bind_none.{0, 0} ∧ type_of% @Option.map_some.{0, 0} ∧ type_of% @Option.getD_some.{0} ∧ type_of% @Option.getD_none.{0} ∧ type_of% @Option.isSome_some.{0} :=
  ⟨@T7, @Tt, @Tg, @O7, @T5, @Go.Vm.jz.eq_1, @Go.Vm.gb.eq_1, @Go.Vm.gv.eq_1, @Go.Vm.nm.eq_1, @Go.Vm.nm.eq_2, @Go.Vm.reach.eq_2, @Go.Vm.reach.eq_3, @Go.Vm.eu.eq_1, @Go.Vm.dm.eq_1, @Go.Vm.dm.eq_2, @Go.Vm.AV.names.eq_1, @Go.Vm.AV.names.eq_2, @Go.Vm.AV.names.eq_3, @Go.Vm.AV.names.eq_4, @Go.Vm.AV.names.eq_5, @Go.Vm.AV.names.eq_6, @Go.Vm.AV.names.eq_9, @Go.Vm.AV.names.go.eq_1, @Go.Vm.AV.names.go.eq_2, @Go.Vm.bc.names.eq_1, @Go.Vm.bc.names.eq_2, @Go.Vm.AV.db.eq_1, @Go.Vm.AV.db.eq_2, @Go.Vm.AV.db.eq_3, @Go.Vm.AV.db.eq_4, @Go.Vm.AV.db.eq_5, @Go.Vm.AV.db.eq_6, @Go.Vm.AV.db.eq_7, @Go.Vm.AV.db.eq_8, @Go.Vm.AV.db.eq_11, @Go.Vm.bc.db.eq_1, @Go.Vm.bc.db.eq_2, @I6, @ail, @Go.Vm.gz.eq_1, @Go.Vm.gz.eq_2, @Go.Vm.mz.eq_2, @jq, @Option.bind_some.{0, 0}, @Option.bind_none.{0, 0}, @Option.map_some.{0, 0}, @Option.getD_some.{0}, @Option.getD_none.{0}, @Option.isSome_some.{0}⟩
theorem R9 : type_of% @List.getElem?_cons_zero.{0} ∧ type_of% @List.getElem?_toArray.{0} ∧ type_of% @Go.Vm.cq.eq_1 ∧ type_of% @List.drop_zero.{0} ∧ type_of% @List.drop_succ_cons.{0} ∧ type_of% @List.drop_nil.{0} ∧ type_of% @List.take_succ_cons.{0} ∧ type_of% @List.take_zero.{0} ∧ type_of% @List.length_cons.{0} ∧ type_of% @List.length_nil.{0} ∧ type_of% @List.length_map.{0, 0} ∧ type_of% @List.getElem?_cons_succ.{0} ∧ type_of% @List.getElem?_map.{0, 0} ∧ type_of% @List.getElem?_drop.{0} ∧ type_of% @List.map_cons.{0, 0} ∧ type_of% @List.map_nil.{0, 0} ∧ type_of% @List.nil_append.{0} ∧ type_of% @List.cons_append.{0} ∧ type_of% @List.append_nil.{0} ∧ type_of% @List.all_cons.{0} ∧ type_of% @List.all_nil.{0} ∧ type_of% @cond_true.{1} ∧ type_of% @cond_false.{1} ∧ type_of% @decide_true ∧ type_of% @decide_false ∧ type_of% @Bool.and_true ∧ type_of% @Bool.true_and ∧ type_of% @Bool.and_self ∧ type_of% @Bool.not_true ∧ type_of% @Bool.not_false ∧ type_of% @BEq.rfl.{0} ∧ type_of% @Nat.zero_le ∧ type_of% @Nat.le_refl ∧ type_of% @Nat.add_zero ∧ type_of% @Nat.zero_add ∧ type_of% @Nat.mul_one ∧ type_of% @Int.toNat_natCast ∧ type_of% @Int.natCast_nonneg ∧ type_of% @Nat.sub_self ∧ type_of% @List.contains_nil.{0} ∧ type_of% @List.contains_cons.{0} ∧ type_of% @Bool.or_false ∧ type_of% @Bool.false_or ∧ type_of% @Bool.or_true ∧ type_of% @Bool.true_or ∧ type_of% @List.map_map.{0, 0, 0} ∧ type_of% @aa3 ∧ type_of% @Nj ∧ type_of% @Ln ∧ type_of% @K5 ∧ type_of% @Yy ∧ type_of% @ve :=
  ⟨@List.getElem?_cons_zero.{0}, @List.getElem?_toArray.{0}, @Go.Vm.cq.eq_1, @List.drop_zero.{0}, @List.drop_succ_cons.{0}, @List.drop_nil.{0}, @List.take_succ_cons.{0}, @List.take_zero.{0}, @List.length_cons.{0}, @List.length_nil.{0}, @List.length_map.{0, 0}, @List.getElem?_cons_succ.{0}, @List.getElem?_map.{0, 0}, @List.getElem?_drop.{0}, @List.map_cons.{0, 0}, @List.map_nil.{0, 0}, @List.nil_append.{0}, @List.cons_append.{0}, @List.append_nil.{0}, @List.all_cons.{0}, @List.all_nil.{0}, @cond_true.{1}, @cond_false.{1}, @decide_true, @decide_false, @Bool.and_true, @Bool.true_and, @Bool.and_self, @Bool.not_true, @Bool.not_false, @BEq.rfl.{0}, @Nat.zero_le, @Nat.le_refl, @Nat.add_zero, @Nat.zero_add, @Nat.mul_one, @Int.toNat_natCast, @Int.natCast_nonneg, @Nat.sub_self, @List.contains_nil.{0}, @List.contains_cons.{0}, @Bool.or_false, @Bool.false_or, @Bool.or_true, @Bool.true_or, @List.map_map.{0, 0, 0}, @aa3, @Nj, @Ln, @K5, @Yy, @ve⟩
theorem R10 : type_of% @Ue ∧ type_of% @P4 ∧ type_of% @Sv ∧ type_of% @axu ∧ type_of% @awm ∧ type_of% @ax0 ∧ type_of% @axd ∧ type_of% @awo ∧ type_of% @axg ∧ type_of% @ac3 ∧ type_of% @acp ∧ type_of% @Yf ∧ type_of% @U0 ∧ type_of% @ac4 ∧ type_of% @Go.Vm.AV.fresh.eq_1 ∧ type_of% @Go.Vm.AV.fresh.eq_3 ∧ type_of% @Go.Vm.AV.fresh.eq_4 ∧ type_of% @Go.Vm.AV.fresh.go.eq_1 ∧ type_of% @Go.Vm.AV.fresh.go.eq_2 ∧ type_of% @List.map_append.{0, 0} :=
  ⟨@Ue, @P4, @Sv, @axu, @awm, @ax0, @axd, @awo, @axg, @ac3, @acp, @Yf, @U0, @ac4, @Go.Vm.AV.fresh.eq_1, @Go.Vm.AV.fresh.eq_3, @Go.Vm.AV.fresh.eq_4, @Go.Vm.AV.fresh.go.eq_1, @Go.Vm.AV.fresh.go.eq_2, @List.map_append.{0, 0}⟩
theorem RA : type_of% R0 ∧ type_of% R1 ∧ type_of% R2 ∧ type_of% R3 ∧ type_of% R4 ∧ type_of% R5 ∧ type_of% R6 ∧ type_of% R7 ∧ type_of% R8 ∧ type_of% R9 ∧ type_of% R10 :=
  ⟨R0, R1, R2, R3, R4, R5, R6, R7, R8, R9, R10⟩
theorem FB : type_of% @List.cons.injEq.{0} ∧ type_of% @Yo ∧ type_of% @W5 ∧ type_of% @List.length_append.{0} ∧ type_of% @List.length_cons.{0} ∧ type_of% @List.length_nil.{0} ∧ type_of% @List.map_append.{0, 0} ∧ type_of% @List.map_cons.{0, 0} ∧ type_of% @List.map_nil.{0, 0} ∧ type_of% @and_true ∧ type_of% @true_and ∧ type_of% @and_self ∧ type_of% @AV.sc.injEq ∧ type_of% @AV.sl.injEq ∧ type_of% @bc.row.injEq ∧ type_of% @Option.some.injEq.{0} ∧ type_of% @Value.int.injEq ∧ type_of% @Nat.zero_add :=
  ⟨@List.cons.injEq.{0}, @Yo, @W5, @List.length_append.{0}, @List.length_cons.{0}, @List.length_nil.{0}, @List.map_append.{0, 0}, @List.map_cons.{0, 0}, @List.map_nil.{0, 0}, @and_true, @true_and, @and_self, @AV.sc.injEq, @AV.sl.injEq, @bc.row.injEq, @Option.some.injEq.{0}, @Value.int.injEq, @Nat.zero_add⟩
end Go.Vm
end
section
namespace Go.Vm
noncomputable section
open Go.ChangeShapes Go.WideShapes Go.ChangeAt
mutual
def ku {H : Type} : DataW H → Nat
  | .lit (.string bytes) => bytes.length + 1
  | .lit _ => 1
  | .nil => 1
  | .ptr d => ku d + 1
  | .slice elems spare => mn elems + mn spare + 1
  | .agg parts => mn parts + 1
  | .iface _ d => ku d + 1
  | .map entries => Tu entries + 1
  | .held _ => 1
def mn {H : Type} : List (DataW H) → Nat
  | [] => 0
  | d :: r => ku d + mn r
def Tu {H : Type} : List (Lit × DataW H) → Nat
  | [] => 0
  | x :: r => aju x + Tu r
def aju {H : Type} : Lit × DataW H → Nat
  | (.string bytes, d) => bytes.length + ku d + 1
  | (_, d) => ku d + 1
end
def afp (W : World) : Nat → Nat → Prop := fun b _ => b < W.heap.size
def Rd (P : Program) (t : TypeId) {α : Type} (C : dg α) (μ : α → Nat) : Prop :=
  ∀ {H : Type} (enc : TypeId × Value → H) (W : World) (b0 fuel : Nat) (cs : List Value) (x : DataW H × List MemPlace), DataW.trod enc P W 0 (fun _ => true) true fuel t cs = some x →
    ∃ y, bm (gK b0 (afp W)) W (C.cells false y) cs ∧ μ y ≤ ku x.1
theorem ayp {P : Program} {t : TypeId} (ht : P.underlying t = some (.int .u8)) : Rd P t cp (fun _ => 1) := by
  intro H enc W b0 fuel cs x h
  obtain ⟨n, rfl, rfl, hw⟩ := DataW.trod_int ht h
  have hx : 0 ≤ n ∧ n ≤ 255 := by simpa [Lit.wf, IntKind.min, IntKind.max, IntKind.signed, IntKind.bits] using hw
  refine ⟨UInt8.ofNat n.toNat, ?_, by simp [ku]⟩
  have : n = ((UInt8.ofNat n.toNat).toNat : Int) := by rw [UInt8.toNat_ofNat']; omega
  exact bm.one (by (conv => rhs; rw [this]); exact .sc _)
theorem ana {P : Program} {t : TypeId} (ht : P.underlying t = some (.int .u16)) : Rd P t c8 (fun _ => 1) := by
  intro H enc W b0 fuel cs x h
  obtain ⟨n, rfl, rfl, hw⟩ := DataW.trod_int ht h
  have hx : 0 ≤ n ∧ n ≤ 65535 := by simpa [Lit.wf, IntKind.min, IntKind.max, IntKind.signed, IntKind.bits] using hw
  refine ⟨UInt16.ofNat n.toNat, ?_, by simp [ku]⟩
  have : n = ((UInt16.ofNat n.toNat).toNat : Int) := by rw [UInt16.toNat_ofNat']; omega
  exact bm.one (by (conv => rhs; rw [this]); exact .sc _)
theorem aob {P : Program} {t : TypeId} (ht : P.underlying t = some (.int .u32)) : Rd P t bn (fun _ => 1) := by
  intro H enc W b0 fuel cs x h
  obtain ⟨n, rfl, rfl, hw⟩ := DataW.trod_int ht h
  have hx : 0 ≤ n ∧ n ≤ 4294967295 := Go.bounds_u32 hw
  refine ⟨UInt32.ofNat n.toNat, ?_, by simp [ku]⟩
  have : n = ((UInt32.ofNat n.toNat).toNat : Int) := by rw [UInt32.toNat_ofNat']; omega
  exact bm.one (by (conv => rhs; rw [this]); exact .sc _)
theorem awd {P : Program} {t : TypeId} (ht : P.underlying t = some .string) : Rd P t an (fun s => s.size + 1) := by
  intro H enc W b0 fuel cs x h
  obtain ⟨s, rfl, rfl, _⟩ := DataW.trod_string ht h
  refine ⟨s, bm.one (.sc _), ?_⟩
  show s.size + 1 ≤ ku (DataW.lit (Lit.string s.data.toList))
  rw [ku, Array.length_toList]
  exact Nat.le_refl _
theorem auo (ao k s v j : Nat) (h3 : v = k * s) (hge : v ≤ j) : ao + k * s + (j - v) = ao + j := by rw [← h3]; omega
def sd {α : Type} (μ : α → Nat) : List α → Nat
  | [] => 0
  | x :: r => μ x + sd μ r
theorem N9 {α : Type} (μ : α → Nat) : ∀ a b : List α, sd μ (a ++ b) = sd μ a + sd μ b
  | [], b => by simp [sd]
  | x :: a, b => by simp [sd, N9 μ a b]; omega
theorem Mn {H : Type} : ∀ a b : List (DataW H), mn (a ++ b) = mn a + mn b
  | [], b => by simp [mn]
  | x :: a, b => by simp [mn, Mn a b]; omega
theorem av4 {P : Program} {t e : TypeId} {α : Type} {C : dg α} {μ : α → Nat} (ht : P.underlying t = some (.slice e)) (hsz : P.cellsOf e = C.sz) (hpos : 0 < C.sz) (he : Rd P e C μ) : Rd P t (cr C) (fun l => sd μ l + 1) := by
  intro H enc W b0 fuel cs x h
  rcases Go.Deep.open_slice ht h with ⟨rfl, rfl⟩ | ⟨a, len, cap, m, n, D, Pl, rfl, _, hl, hm, hmm, rfl, hx⟩
  · exact ⟨[], bm.one (.jx _ _), by simp [sd, ku]⟩
  · simp only [if_true] at hmm
    subst hmm
    have spot : 0 < m → a.spot = none ∧ a.block < W.heap.size := by
      intro h0
      obtain ⟨cs', h1, _⟩ := hx 0 h0
      rw [hsz] at h1
      simp only [World.cells?, Nat.zero_le, if_true] at h1
      have h2 := mapM_some_get h1 0 0 (by simp [hpos])
      have hlen := mapM_some_length h1
      have h3 : ∃ v, cs'[0]? = some v := ⟨cs'[0]'(by rw [hlen]; simpa using hpos), by simp⟩
      obtain ⟨v, hv⟩ := h3
      rw [hv] at h2
      simp only [Nat.zero_mul, Addr.add, if_true] at h2
      simp only [World.cell?] at h2
      split at h2
      · rename_i c _ _ hb
        cases hs : a.spot with
        | none => exact ⟨rfl, cg hb⟩
        | some s => simp [hs] at h2
      · cases h2
    have build : ∀ k, k ≤ len → ∃ (xs : List α) (vs : List Value), xs.length = k ∧ bm (gK b0 (afp W)) W (xs.flatMap (C.cells false)) vs ∧ vs.length = k * C.sz ∧ (∀ j v, vs[j]? = some v → W.cell? ⟨a.block, a.off + j, none⟩ = some v) ∧
        sd μ xs ≤ mn ((List.range k).map D) := by
      intro k
      induction k with
      | zero => intro _; exact ⟨[], [], rfl, bm.nil _ _, by simp, (fun j v hj => by simp at hj), by simp [sd, mn]⟩
      | succ k ih =>
        intro hk
        obtain ⟨xs, vs, h1, h2, h3, h4, h5⟩ := ih (by omega)
        obtain ⟨cs', h6, h7⟩ := hx k (by omega)
        obtain ⟨y, h8, h9⟩ := he enc W b0 n cs' _ h7
        rw [hsz] at h6
        simp only [World.cells?, Nat.zero_le, if_true] at h6
        have hlen := mapM_some_length h6
        simp only [List.length_range] at hlen
        refine ⟨xs ++ [y], vs ++ cs', by simp [h1], ?_, by simp [h3, hlen, Nat.succ_mul], fun j v hj => ?_, ?_⟩
        · rw [List.flatMap_append]; exact h2.append (by simpa using h8)
        · by_cases hj1 : j < vs.length
          · rw [List.getElem?_append_left hj1] at hj; exact h4 j v hj
          · rw [List.getElem?_append_right (by omega)] at hj
            have hj2 := (List.getElem?_eq_some_iff.1 hj).1
            have h10 := mapM_some_get h6 (j - vs.length) (j - vs.length) (List.getElem?_range (by rw [← hlen]; exact hj2))
            rw [hj] at h10
            have hs := (spot (by omega)).1
            have e : (a.add (k * C.sz)).add (j - vs.length) = ⟨a.block, a.off + j, none⟩ := by
              obtain ⟨ab, ao, azs⟩ := a
              simp only at hs
              subst hs
              rw [Addr.ng, Addr.ng]
              have hge : vs.length ≤ j := Nat.le_of_not_lt hj1
              rw [auo ao k C.sz vs.length j h3 hge]
            rw [e] at h10
            exact h10
        · rw [N9, List.range_succ, List.map_append, Mn]
          simp only [sd, List.map_cons, List.map_nil, mn]
          have : μ y ≤ ku (D k) := h9
          omega
    obtain ⟨xs, vs, h1, h2, h3, h4, h5⟩ := build len (Nat.le_refl _)
    refine ⟨xs, bm.one ?_, by
      simp only [ku]
      have : sd μ xs ≤ mn ((List.range len).map D) := h5
      omega⟩
    by_cases h0 : 0 < m
    · obtain ⟨hs, hb⟩ := spot h0
      obtain ⟨ab, ao, azs⟩ := a
      simp only at hs hb h4
      subst hs
      rw [← h1]
      refine ajy C h2 (by omega) (fun e => by cases e) (fun j v hj => ⟨hb, h4 j v hj⟩)
    · have hl0 : len = 0 := by omega
      have hm0 : m = 0 := by omega
      subst hl0 hm0
      have : xs = [] := List.eq_nil_of_length_eq_zero h1
      subst this
      exact .sm _ _ _
def Xi (P : Program) (fs : List Field) (off : Nat) {α : Type} (C : dg α) (μ : α → Nat) : Prop :=
  ∀ {H : Type} (enc : TypeId × Value → H) (W : World) (b0 n : Nat) (cs : List Value) (ys : List (DataW H × List MemPlace)), ys.length = fs.length →
    (∀ (i : Nat) f, fs[i]? = some f → DataW.trod enc P W 0 (fun _ => true) true n f.type ((cs.drop f.offset).take (P.cellsOf f.type)) = ys[i]?) →
    ∃ y, bm (gK b0 (afp W)) W (C.cells false y) ((cs.drop off).take C.sz) ∧ μ y ≤ mn (ys.map (·.1))
theorem av3 {P : Program} {f : Field} {off : Nat} {α : Type} {C : dg α} {μ : α → Nat} (ho : f.offset = off) (hs : P.cellsOf f.type = C.sz) (h : Rd P f.type C μ) : Xi P [f] off C μ := by
  intro H enc W b0 n cs ys hl hf
  match ys, hl with
  | [y0], _ =>
    have := hf 0 f rfl
    obtain ⟨y, h1, h2⟩ := h enc W b0 n _ y0 this
    rw [ho, hs] at h1
    exact ⟨y, h1, by simp [mn]; exact h2⟩
theorem asm {P : Program} {f : Field} {fs : List Field} {off : Nat} {α β : Type} {A : dg α} {B : dg β} {μ : α → Nat} {ν : β → Nat} (ho : f.offset = off) (hs : P.cellsOf f.type = A.sz) (h : Rd P f.type A μ) (hr : Xi P fs (off + A.sz) B ν) :
    Xi P (f :: fs) off (jk A B) (fun p => μ p.1 + ν p.2) := by
  intro H enc W b0 n cs ys hl hf
  match ys, hl with
  | y0 :: ys, hl =>
    have h0 := hf 0 f rfl
    obtain ⟨y, h1, h2⟩ := h enc W b0 n _ y0 h0
    obtain ⟨z, h3, h4⟩ := hr enc W b0 n cs ys (by simpa using hl) (fun i g hg => by have := hf (i + 1) g (by simpa using hg); simpa using this)
    rw [ho, hs] at h1
    refine ⟨(y, z), ?_, by simp [mn]; omega⟩
    have := h1.append h3
    rwa [show (cs.drop off).take A.sz ++ (cs.drop (off + A.sz)).take B.sz = (cs.drop off).take (A.sz + B.sz) from by
      rw [List.take_add, List.drop_drop]] at this
theorem an0 {P : Program} {t : TypeId} {fs : Array Field} {α : Type} {C : dg α} {μ : α → Nat} (ht : P.underlying t = some (.struct fs)) (hc : P.cellsOf t = C.sz) (h : Xi P fs.toList 0 C μ) : Rd P t C (fun x => μ x + 1) := by
  intro H enc W b0 fuel cs x hx
  obtain ⟨xs, n, _, rfl, hl, hlen, hf⟩ := DataW.trod_struct ht hx
  obtain ⟨y, h1, h2⟩ := h enc W b0 n cs xs (by simpa using hlen) (fun i f hi => hf i f (by simpa using hi))
  refine ⟨y, ?_, by simp [ku]; exact h2⟩
  rwa [List.drop_zero, List.take_of_length_le (by omega)] at h1
theorem axj {P : Program} {t : TypeId} {α β : Type} {C : dg α} {μ : α → Nat} {f : β → α} {i : α → β} {h1 : ∀ y, i (f y) = y} {h2 : ∀ x, f (i x) = x} (h : Rd P t C μ) : Rd P t (vr C f i h1 h2) (fun y => μ (f y)) := by
  intro H enc W b0 fuel cs x hx
  obtain ⟨y, h3, h4⟩ := h enc W b0 fuel cs x hx
  exact ⟨i y, by show bm _ _ (C.cells false (f (i y))) cs; rw [h2]; exact h3, by show μ (f (i y)) ≤ _; rw [h2]; exact h4⟩
def RdA (P : Program) (ts : List TypeId) {α : Type} (A : AC α) (μ : α → Nat) : Prop :=
  ∀ {H : Type} (enc : TypeId × Value → H) (W : World) (b0 b1 : Nat) (vs : List Value) (ds : List (DataW H)) (ps : List MemPlace), (∀ (j : Nat) t v, ts[j]? = some t → vs[j]? = some v → Value.okWide P W .any b1 t v) →
    DataW.TrodAll enc P W 0 (fun _ => true) true ts vs ds ps → ∃ y, bm (gK b0 (afp W)) W (A.E y) vs ∧ μ y ≤ mn ds
theorem avt (P : Program) : RdA P [] a0 (fun _ => 0) := by
  intro H enc W b0 b1 vs ds ps _ h
  obtain ⟨rfl, rfl, rfl⟩ := trodAll_nil h
  exact ⟨(), bm.nil _ _, Nat.zero_le _⟩
theorem al0 {P : Program} {W : World} {b : Nat} {t : TypeId} {v : Value} (h : jm P t = some true) (ho : Value.okWide P W .any b t v) : ∃ cs, v = .agg cs := by
  unfold jm at h
  unfold Value.okWide at ho
  cases hu : P.underlying t with
  | none => rw [hu] at h; cases h
  | some d =>
    rw [hu] at h ho
    cases d <;> simp_all <;> exact ⟨_, ho.choose_spec.1⟩
theorem Qn {P : Program} {t : TypeId} {ts : List TypeId} {α β : Type} {C : dg α} {R : AC β} {μ : α → Nat} {ν : β → Nat} (ha : jm P t = some C.agg) (h : Rd P t C μ) (hr : RdA P ts R ν) : RdA P (t :: ts) (aC C R) (fun p => μ p.1 + ν p.2) := by
  intro H enc W b0 b1 vs ds ps hok hall
  obtain ⟨v, vs1, d, ds1, p, q, rfl, rfl, rfl, h0, h1⟩ := trodAll_cons hall
  obtain ⟨fuel, hf⟩ := h0
  obtain ⟨y, h2, h3⟩ := h enc W b0 fuel _ _ hf
  obtain ⟨z, h4, h5⟩ := hr enc W b0 b1 vs1 ds1 q (fun j t v ht hv => hok (j + 1) t v (by simpa using ht) (by simpa using hv)) h1
  have h3' : μ y ≤ ku d := h3
  refine ⟨(y, z), bm.cons ?_ h4, by simp only [mn]; omega⟩
  have hv := hok 0 t v rfl rfl
  show Rel _ _ (C.val false y) v
  unfold dg.val
  cases hg : C.agg with
  | true =>
    obtain ⟨cs, rfl⟩ := al0 (by rw [ha, hg]) hv
    exact .agg _ cs (by simpa [Value.cells] using h2.1) (fun i a v ha hv => h2.2 i a v ha (by simpa [Value.cells] using hv))
  | false =>
    obtain ⟨c, h6, h7, _⟩ := C.one hg false y
    rw [cond_false, h6]
    rw [h6] at h2
    have hcs : v.cells.toList = [v] := by
      have hl := h2.1
      simp only [List.length_singleton] at hl
      cases v with
      | agg cs =>
        exfalso
        unfold jm at ha
        unfold Value.okWide at hv
        cases hu : P.underlying t with
        | none => rw [hu] at ha; cases ha
        | some d =>
          rw [hu] at ha hv
          have hcell : Cell.okWide P W .any b1 t (.agg cs) := by
            cases d <;> simp_all
          rw [hg] at ha
          unfold Cell.okWide Cell.ok at hcell
          rw [hu] at hcell
          cases d <;> simp_all
      | _ => rfl
    rw [hcs] at h2
    exact h2.head
theorem ad4 {W W' : World} (q : zg W W') {p : MemPlace} (h : p.block < W.heap.size) : W.sameAt W' p := by
  cases p with
  | cell b off => exact su (q.heap b h)
  | map b => exact q.heap b h
theorem again {H : Type} {enc : TypeId × Value → H} {P : Program} {W W' : World} {sp : Nat → Bool} (K : Kids P (· < P.types.size)) (hz : ∀ t e, t < P.types.size → P.underlying t = some (.slice e) → 0 < P.cellsOf e) (q : zg W W') :
    ∀ {ts : List TypeId} {vs : List Value} {ds : List (DataW H)} {ps : List MemPlace}, (∀ t ∈ ts, t < P.types.size) → DataW.TrodAll enc P W 0 (fun _ => true) true ts vs ds ps → (∀ p ∈ ps, sp p.block = true) → (∀ p ∈ ps, p.block < W.heap.size) →
      DataW.TrodAll enc P W' 0 sp true ts vs ds ps
  | [], [], [], _, _, h, _, _ => h
  | t :: ts, v :: vs, d :: ds, ps, hT, ⟨p, p', h1, h2, e⟩, hs, hl => by
    obtain ⟨n, hn⟩ := h1
    subst e
    have h3 := DataW.trod_respare (spare' := sp) K hz n t _ _ (hT t (by simp)) hn (fun x hx => hs x (by simp only [List.mem_append]; exact .inl hx))
    have h4 := DataW.trod_carry (w' := W') n t _ _ h3 (fun x hx => ad4 q (hl x (by simp only [List.mem_append]; exact .inl hx)))
    exact ⟨p, p', ⟨n, h4⟩, again K hz q (fun t ht => hT t (by simp [ht])) h2 (fun x hx => hs x (by simp [hx])) (fun x hx => hl x (by simp [hx])), rfl⟩
theorem ajs {W W' : World} (q : zg W W') (may : MemPlace → Prop) : W.keptBut W' may := by
  refine ⟨q.os, q.output, fun i hi => ?_⟩
  rw [q.heap i hi]
  split
  · rename_i c t fr c' t' fr' h1 h2
    rw [h1] at h2
    cases h2
    exact ⟨rfl, rfl, rfl, fun _ _ => rfl⟩
  · rename_i es cl es' cl' h1 h2
    rw [h1] at h2
    cases h2
    exact .inr ⟨rfl, rfl⟩
  · rfl
def als (P : Program) : Bool := (List.range P.types.size).all fun t => match P.underlying t with | some (.slice e) => Nat.blt 0 (P.cellsOf e) | _ => true
theorem Zp {P : Program} (h : als P = true) (t e : TypeId) (ht : t < P.types.size) (hu : P.underlying t = some (.slice e)) : 0 < P.cellsOf e := by
  have := List.all_eq_true.1 h t (List.mem_range.2 ht)
  simp only [hu] at this
  exact Nat.le_of_ble_eq_true this
def av5 (P : Program) (l : List TypeId) : Bool := l.all fun t => Nat.blt t P.types.size
theorem ald {P : Program} {l : List TypeId} (h : av5 P l = true) : ∀ t ∈ l, t < P.types.size := fun t ht => Nat.le_of_ble_eq_true (List.all_eq_true.1 h t ht)
theorem aqu {P : Program} (hlaid : laidOutB P = true) (hmaps : mapsRowed P = true) (hz : ∀ t e, t < P.types.size → P.underlying t = some (.slice e) → 0 < P.cellsOf e) {f : Nat} {fn : Func} {s : ChangeSpec} {tb : TypeId}
    (he : kz P f = true) (hvars : s.vars = []) (hres : fn.resultTypes = #[tb]) (htb : P.underlying tb = some .bool) (hpar : ∀ t ∈ fn.params.toList, t < P.types.size)
    (hfn : ∀ (H : Type) (ds : List (DataW H)), ds.length = fn.params.toList.length → s.fn H ds = { results := [.lit (.bool true)], args := ds }) {α : Type} {A : AC α} {μ : α → Nat} (hA : RdA P fn.params.toList A μ) {N : Option Nat}
    (hcall : ∀ x, (∀ n, N = some n → μ x ≤ n) → bf P f (A.E x) (.sc (.bool true)))
    {H : Type} (enc : TypeId × Value → H) (W : World) (base : Nat) (args : Array Value) (ds gs : List (DataW H)) (before : List MemPlace) (hval : ∀ (j : Nat) t v, fn.params[j]? = some t → args[j]? = some v → Value.okWide P W .any base t v)
    (hW : DataW.Whole enc P fn.params.toList s.vars false W args.toList ds gs before) (hN : ∀ n, N = some n → mn (ds ++ gs) ≤ n) :
    Calls P f args W fun e W' => ∃ v, e = .returned v ∧ s.post enc P fn false true false false W args v W' := by
  have hW' := hW
  obtain ⟨p, q, hA0, hV, rfl, hfz, hnd⟩ := hW
  rw [hvars] at hV
  obtain ⟨rfl, rfl⟩ := trodVars_none hV
  obtain ⟨x, hx, hμ⟩ := hA enc W W.heap.size base args.toList ds p (fun j t v ht hv => hval j t v (by simpa using ht) (by simpa using hv)) hA0
  have hp := hcall x (fun n hn => Nat.le_trans hμ (by have := hN n hn; simpa using this)) (afp W) W args.toList (fun _ _ h => h) hx
  have hlen : ds.length = fn.params.toList.length := by
    have : ∀ {ts : List TypeId} {vs : List Value} {ds : List (DataW H)} {ps : List MemPlace}, DataW.TrodAll enc P W 0 (fun _ => true) true ts vs ds ps → ds.length = ts.length := by
      intro ts
      induction ts with
      | nil => intro vs ds ps h; obtain ⟨_, rfl, _⟩ := trodAll_nil h; rfl
      | cons t ts ih => intro vs ds ps h; obtain ⟨v, vs1, d, ds1, p, q, rfl, rfl, rfl, h0, h1⟩ := trodAll_cons h; simp [ih h1]
    exact this hA0
  have hlt : ∀ y ∈ p ++ [], y.block < W.heap.size := fun y hy => hW'.lt y hy
  have hspec := hfn H ds hlen
  rcases hp with ⟨v, hv, _⟩ | ⟨_, hc⟩
  · rw [tc he] at hv; cases hv
  · refine hc.mono ?_
    rintro e W' ⟨v, rfl, hq, hr⟩
    obtain rfl := hr.exact rfl
    refine ⟨_, rfl, ds, [], p ++ [], [], p, [], hW', ?_, ?_, ?_, ajs hq _, fun e => by cases e⟩
    · rw [List.append_nil, hspec, hres]
      exact trodAll_cons_mk (Go.RowKit.shut_bool htb _) trodAll_mk0
    · rw [List.append_nil, hspec]
      exact again (kids_rows hlaid hmaps) hz hq hpar hA0 (fun y hy => by have := hlt y (by simp [hy]); simpa using this) (fun y hy => hlt y (by simp [hy]))
    · rw [List.append_nil, hspec, hvars]
      rfl
end
end Go.Vm
end
section
set_option linter.unusedVariables false
namespace Go.Vm
open Go.Proofs
theorem amw : (Tryz.prog.underlying 3 = some (.int .i64)) ∧
  (Tryz.prog.underlying 5 = some (.int .u8)) ∧
  (Tryz.prog.underlying 9 = some (.string)) ∧
  (Tryz.prog.underlying 22 = some (.slice 9)) ∧
  (Tryz.prog.underlying 23 = some (.slice 9)) ∧
  (Tryz.prog.underlying 24 = some (.slice 40)) ∧
  (Tryz.prog.underlying 37 = some (.int .u32)) ∧
  (Tryz.prog.underlying 38 = some (.slice 83)) ∧
  (Tryz.prog.underlying 46 = some (.slice 26)) ∧
  (Tryz.prog.underlying 47 = some (.slice 71)) :=
  ⟨by kernel_rfl, by kernel_rfl, by kernel_rfl, by kernel_rfl, by kernel_rfl, by kernel_rfl, by kernel_rfl, by kernel_rfl, by kernel_rfl, by kernel_rfl⟩
theorem ap7 : (Tryz.prog.underlying 48 = some (.slice 37)) ∧
  (Tryz.prog.underlying 68 = some (.slice 3)) ∧
  (Tryz.prog.underlying 76 = some (.slice 23)) ∧
  (Tryz.prog.underlying 81 = some (.slice 5)) ∧
  (Tryz.prog.underlying 102 = some (.slice 101)) ∧
  (Tryz.prog.underlying 142 = some (.map 37 4)) ∧
  (Tryz.prog.underlying 249 = some (.slice 81)) :=
  ⟨by kernel_rfl, by kernel_rfl, by kernel_rfl, by kernel_rfl, by kernel_rfl, by kernel_rfl, by kernel_rfl⟩
theorem aoh : (jm Tryz.prog 3 = some false) ∧
  (jm Tryz.prog 4 = some false) ∧
  (jm Tryz.prog 5 = some false) ∧
  (jm Tryz.prog 9 = some false) ∧
  (jm Tryz.prog 22 = some false) ∧
  (jm Tryz.prog 23 = some false) ∧
  (jm Tryz.prog 24 = some false) ∧
  (jm Tryz.prog 26 = some true) :=
  ⟨by kernel_rfl, by kernel_rfl, by kernel_rfl, by kernel_rfl, by kernel_rfl, by kernel_rfl, by kernel_rfl, by kernel_rfl⟩
theorem an8 : (jm Tryz.prog 28 = some false) ∧
  (jm Tryz.prog 33 = some false) ∧
  (jm Tryz.prog 36 = some false) ∧
  (jm Tryz.prog 37 = some false) ∧
  (jm Tryz.prog 38 = some false) ∧
  (jm Tryz.prog 40 = some true) ∧
  (jm Tryz.prog 46 = some false) ∧
  (jm Tryz.prog 47 = some false) ∧
  (jm Tryz.prog 48 = some false) ∧
  (jm Tryz.prog 50 = some true) ∧
  (jm Tryz.prog 62 = some false) ∧
  (jm Tryz.prog 64 = some true) ∧
  (jm Tryz.prog 68 = some false) ∧
  (jm Tryz.prog 71 = some true) ∧
  (jm Tryz.prog 76 = some false) ∧
  (jm Tryz.prog 81 = some false) :=
  ⟨by kernel_rfl, by kernel_rfl, by kernel_rfl, by kernel_rfl, by kernel_rfl, by kernel_rfl, by kernel_rfl, by kernel_rfl, by kernel_rfl, by kernel_rfl, by kernel_rfl, by kernel_rfl, by kernel_rfl, by kernel_rfl, by kernel_rfl, by kernel_rfl⟩
theorem ap2 : (jm Tryz.prog 83 = some true) ∧
  (jm Tryz.prog 88 = some false) ∧
  (jm Tryz.prog 90 = some true) ∧
  (jm Tryz.prog 100 = some true) ∧
  (jm Tryz.prog 178 = some false) :=
  ⟨by kernel_rfl, by kernel_rfl, by kernel_rfl, by kernel_rfl, by kernel_rfl⟩
theorem aqf : (jm Tryz.prog 214 = some true) := by kernel_rfl
theorem ah7 : (de Tryz.prog 3 = some 1) ∧
  (de Tryz.prog 4 = some 1) ∧
  (de Tryz.prog 5 = some 1) ∧
  (de Tryz.prog 9 = some 1) ∧
  (de Tryz.prog 22 = some 1) ∧
  (de Tryz.prog 23 = some 1) ∧
  (de Tryz.prog 24 = some 1) ∧
  (de Tryz.prog 26 = some 2) :=
  ⟨by kernel_rfl, by kernel_rfl, by kernel_rfl, by kernel_rfl, by kernel_rfl, by kernel_rfl, by kernel_rfl, by kernel_rfl⟩
theorem ah3 : (de Tryz.prog 28 = some 1) ∧
  (de Tryz.prog 33 = some 1) ∧
  (de Tryz.prog 36 = some 1) ∧
  (de Tryz.prog 37 = some 1) ∧
  (de Tryz.prog 38 = some 1) ∧
  (de Tryz.prog 40 = some 5) ∧
  (de Tryz.prog 46 = some 1) ∧
  (de Tryz.prog 47 = some 1) ∧
  (de Tryz.prog 48 = some 1) ∧
  (de Tryz.prog 50 = some 3) ∧
  (de Tryz.prog 62 = some 1) ∧
  (de Tryz.prog 64 = some 3) ∧
  (de Tryz.prog 68 = some 1) ∧
  (de Tryz.prog 71 = some 2) ∧
  (de Tryz.prog 76 = some 1) ∧
  (de Tryz.prog 81 = some 1) :=
  ⟨by kernel_rfl, by kernel_rfl, by kernel_rfl, by kernel_rfl, by kernel_rfl, by kernel_rfl, by kernel_rfl, by kernel_rfl, by kernel_rfl, by kernel_rfl, by kernel_rfl, by kernel_rfl, by kernel_rfl, by kernel_rfl, by kernel_rfl, by kernel_rfl⟩
theorem ahm : (de Tryz.prog 83 = some 4) ∧
  (de Tryz.prog 88 = some 1) ∧
  (de Tryz.prog 90 = some 3) ∧
  (de Tryz.prog 100 = some 3) ∧
  (de Tryz.prog 178 = some 1) :=
  ⟨by kernel_rfl, by kernel_rfl, by kernel_rfl, by kernel_rfl, by kernel_rfl⟩
theorem ai0 : (de Tryz.prog 214 = some 5) := by kernel_rfl
theorem aho : (ef Tryz.prog 3 = some (.int .i64 0)) ∧
  (ef Tryz.prog 4 = some (.bool false)) ∧
  (ef Tryz.prog 5 = some (.int .u8 0)) ∧
  (ef Tryz.prog 23 = some (.slice none 0 0)) ∧
  (ef Tryz.prog 26 = some (.agg #[.slice none 0 0, .slice none 0 0])) :=
  ⟨by kernel_rfl, by kernel_rfl, by kernel_rfl, by kernel_rfl, by kernel_rfl⟩
theorem aiw : (ef Tryz.prog 40 = some (.agg #[.slice none 0 0, .int .u16 0, .int .u16 0, .int .u32 0, .slice none 0 0])) ∧
  (ef Tryz.prog 64 = some (.agg #[.int .u8 0, .slice none 0 0, .slice none 0 0])) ∧
  (ef Tryz.prog 71 = some (.agg #[.int .u32 0, .slice none 0 0])) ∧
  (ef Tryz.prog 76 = some (.slice none 0 0)) :=
  ⟨by kernel_rfl, by kernel_rfl, by kernel_rfl, by kernel_rfl⟩
theorem ahu : (ef Tryz.prog 83 = some (.agg #[.slice none 0 0, .slice none 0 0, .slice none 0 0, .slice none 0 0])) ∧
  (ef Tryz.prog 90 = some (.agg #[.int .u8 0, .slice none 0 0, .slice none 0 0])) ∧
  (ef Tryz.prog 100 = some (.agg #[.slice none 0 0, .slice none 0 0, .slice none 0 0])) :=
  ⟨by kernel_rfl, by kernel_rfl, by kernel_rfl⟩
theorem aja : (ef Tryz.prog 214 = some (.agg #[.int .i64 0, .int .i64 0, .int .i64 0, .int .i64 0, .int .i64 0])) := by kernel_rfl
theorem aqa : (z0 Tryz.prog 22 = some (9, 1, [.sc (.string .empty)])) ∧
  (z0 Tryz.prog 23 = some (9, 1, [.sc (.string .empty)])) ∧
  (z0 Tryz.prog 24 = some (40, 5, [.sc (.slice none 0 0), .sc (.int .u16 0), .sc (.int .u16 0), .sc (.int .u32 0), .sc (.slice none 0 0)])) ∧
  (z0 Tryz.prog 38 = some (83, 4, [.sc (.slice none 0 0), .sc (.slice none 0 0), .sc (.slice none 0 0), .sc (.slice none 0 0)])) ∧
  (z0 Tryz.prog 48 = some (37, 1, [.sc (.int .u32 0)])) ∧
  (z0 Tryz.prog 68 = some (3, 1, [.sc (.int .i64 0)])) ∧
  (z0 Tryz.prog 76 = some (23, 1, [.sc (.slice none 0 0)])) ∧
  (z0 Tryz.prog 81 = some (5, 1, [.sc (.int .u8 0)])) ∧
  (z0 Tryz.prog 249 = some (81, 1, [.sc (.slice none 0 0)])) :=
  ⟨by kernel_rfl, by kernel_rfl, by kernel_rfl, by kernel_rfl, by kernel_rfl, by kernel_rfl, by kernel_rfl, by kernel_rfl, by kernel_rfl⟩
theorem adl : (w8 Tryz.prog 40 = some ([.sc (.slice none 0 0), .sc (.int .u16 0), .sc (.int .u16 0), .sc (.int .u32 0), .sc (.slice none 0 0)], [(0, 1), (1, 1), (2, 1), (3, 1), (4, 1)])) ∧
  (w8 Tryz.prog 64 = some ([.sc (.int .u8 0), .sc (.slice none 0 0), .sc (.slice none 0 0)], [(0, 1), (1, 1), (2, 1)])) ∧
  (w8 Tryz.prog 83 = some ([.sc (.slice none 0 0), .sc (.slice none 0 0), .sc (.slice none 0 0), .sc (.slice none 0 0)], [(0, 1), (1, 1), (2, 1), (3, 1)])) ∧
  (w8 Tryz.prog 90 = some ([.sc (.int .u8 0), .sc (.slice none 0 0), .sc (.slice none 0 0)], [(0, 1), (1, 1), (2, 1)])) :=
  ⟨by kernel_rfl, by kernel_rfl, by kernel_rfl, by kernel_rfl⟩
theorem aby : (w8 Tryz.prog 100 = some ([.sc (.slice none 0 0), .sc (.slice none 0 0), .sc (.slice none 0 0)], [(0, 3)])) ∧
  (w8 Tryz.prog 180 = some ([.sc (.slice none 0 0), .sc (.slice none 0 0), .sc (.int .i64 0)], [(0, 2), (2, 1)])) ∧
  (w8 Tryz.prog 214 = some ([.sc (.int .i64 0), .sc (.int .i64 0), .sc (.int .i64 0), .sc (.int .i64 0), .sc (.int .i64 0)], [(0, 1), (1, 1), (2, 1), (3, 1), (4, 1)])) :=
  ⟨by kernel_rfl, by kernel_rfl, by kernel_rfl⟩
theorem adn : (fe Tryz.prog 26 0 = some ⟨"Origin", 23, 0, false, "", "", 0⟩) ∧
  (fe Tryz.prog 26 1 = some ⟨"Sets", 24, 1, false, "", "", 24⟩) :=
  ⟨by kernel_rfl, by kernel_rfl⟩
theorem adk : (fe Tryz.prog 40 0 = some ⟨"Owner", 23, 0, false, "", "", 0⟩) ∧
  (fe Tryz.prog 40 1 = some ⟨"Type", 28, 1, false, "", "", 24⟩) ∧
  (fe Tryz.prog 40 2 = some ⟨"Class", 36, 2, false, "", "", 26⟩) ∧
  (fe Tryz.prog 40 4 = some ⟨"Data", 38, 4, false, "", "", 32⟩) ∧
  (fe Tryz.prog 50 0 = some ⟨"Zones", 46, 0, false, "", "", 0⟩) ∧
  (fe Tryz.prog 50 1 = some ⟨"Hosts", 47, 1, false, "", "", 24⟩) ∧
  (fe Tryz.prog 50 2 = some ⟨"Hints", 48, 2, false, "", "", 48⟩) ∧
  (fe Tryz.prog 64 0 = some ⟨"Turn", 62, 0, false, "", "", 0⟩) :=
  ⟨by kernel_rfl, by kernel_rfl, by kernel_rfl, by kernel_rfl, by kernel_rfl, by kernel_rfl, by kernel_rfl, by kernel_rfl⟩
theorem aef : (fe Tryz.prog 64 1 = some ⟨"Sets", 24, 1, false, "", "", 8⟩) ∧
  (fe Tryz.prog 71 0 = some ⟨"Addr", 37, 0, false, "", "", 0⟩) ∧
  (fe Tryz.prog 71 1 = some ⟨"Zones", 68, 1, false, "", "", 8⟩) ∧
  (fe Tryz.prog 83 0 = some ⟨"Names", 76, 0, false, "", "", 0⟩) ∧
  (fe Tryz.prog 83 1 = some ⟨"Nums", 48, 1, false, "", "", 24⟩) ∧
  (fe Tryz.prog 83 2 = some ⟨"Texts", 22, 2, false, "", "", 48⟩) ∧
  (fe Tryz.prog 83 3 = some ⟨"Raw", 81, 3, false, "", "", 72⟩) ∧
  (fe Tryz.prog 90 0 = some ⟨"Kind", 88, 0, false, "", "", 0⟩) ∧
  (fe Tryz.prog 90 1 = some ⟨"Node", 23, 1, false, "", "", 8⟩) :=
  ⟨by kernel_rfl, by kernel_rfl, by kernel_rfl, by kernel_rfl, by kernel_rfl, by kernel_rfl, by kernel_rfl, by kernel_rfl, by kernel_rfl⟩
theorem adf : (fe Tryz.prog 100 0 = some ⟨"w", 50, 0, false, "", "nomenclator/world", 0⟩) ∧
  (fe Tryz.prog 180 0 = some ⟨"z", 26, 0, false, "", "nomenclator/zone", 0⟩) ∧
  (fe Tryz.prog 180 1 = some ⟨"e", 33, 2, false, "", "nomenclator/zone", 48⟩) :=
  ⟨by kernel_rfl, by kernel_rfl, by kernel_rfl⟩
theorem ac9 : (fe Tryz.prog 214 0 = some ⟨"names", 3, 0, false, "", "nomenclator/rdata", 0⟩) ∧
  (fe Tryz.prog 214 1 = some ⟨"nums", 3, 1, false, "", "nomenclator/rdata", 8⟩) ∧
  (fe Tryz.prog 214 2 = some ⟨"size", 3, 2, false, "", "nomenclator/rdata", 16⟩) ∧
  (fe Tryz.prog 214 3 = some ⟨"texts", 3, 3, false, "", "nomenclator/rdata", 24⟩) ∧
  (fe Tryz.prog 214 4 = some ⟨"raw", 3, 4, false, "", "nomenclator/rdata", 32⟩) :=
  ⟨by kernel_rfl, by kernel_rfl, by kernel_rfl, by kernel_rfl, by kernel_rfl⟩
theorem aoc : (Av Tryz.prog 22 = some (9, 1, 16)) ∧
  (Av Tryz.prog 23 = some (9, 1, 16)) ∧
  (Av Tryz.prog 24 = some (40, 5, 56)) ∧
  (Av Tryz.prog 38 = some (83, 4, 96)) ∧
  (Av Tryz.prog 48 = some (37, 1, 4)) ∧
  (Av Tryz.prog 76 = some (23, 1, 24)) ∧
  (Av Tryz.prog 81 = some (5, 1, 1)) :=
  ⟨by kernel_rfl, by kernel_rfl, by kernel_rfl, by kernel_rfl, by kernel_rfl, by kernel_rfl, by kernel_rfl⟩
theorem TF : type_of% amw ∧ type_of% ap7 ∧ type_of% aoh ∧ type_of% an8 ∧ type_of% ap2 ∧ type_of% aqf ∧ type_of% ah7 ∧ type_of% ah3 ∧ type_of% ahm ∧ type_of% ai0 ∧ type_of% aho ∧ type_of% aiw ∧ type_of% ahu ∧ type_of% aja ∧ type_of% aqa ∧ type_of% adl ∧ type_of% aby ∧ type_of% adn ∧ type_of% adk ∧ type_of% aef ∧ type_of% adf ∧ type_of% ac9 ∧ type_of% aoc :=
  ⟨amw, ap7, aoh, an8, ap2, aqf, ah7, ah3, ahm, ai0, aho, aiw, ahu, aja, aqa, adl, aby, adn, adk, aef, adf, ac9, aoc⟩
end Go.Vm
end
section
set_option linter.unusedSimpArgs false
set_option linter.unusedVariables false
namespace Go.Proofs.YtidomogemfchpaaGreat
open Go.Vm
noncomputable abbrev PP := Tryz.prog
theorem mixed : PP.follows .mixedOrders = true := by kernel_rfl
theorem ba {T : ed} (hT : ak PP T) {f : Nat} {fn : Func} (hf : PP.funcs[f]? = some fn) (hb : fn.body.isSome = true) (he : kz PP f = true) (hs : dz fn.ntmps (fn.body.getD .skip) = true)
    {args : List AV} (hl : args.length ≤ fn.ntmps) {ρ : Type} (R : RC ρ) (fr : Bool) (x : ρ)
    (h : wl PP T 0 (fn.body.getD .skip) (dj PP fn.results.toList (fun r st => R.get fr st.h r = some x)) (bw 0 args) (bp [])) : bf PP f args (R.E fr x) :=
  V0 (body := fn.body.getD .skip) hT mixed hf (by cases hq : fn.body with | none => rw [hq] at hb; cases hb | some b => rfl) he hs hl R fr x h
def lu (s : ByteArray) : Int := if s.size < 1 ∨ 63 < s.size then 4 else 0
theorem Zg (s : ByteArray) : wl PP [] 0 (Tryz.f50.body.getD .skip) (dj PP Tryz.f50.results.toList (fun r st => (r1 (aw .i64)).get true st.h r = some (lu s))) (bw 0 [an.val false s]) (bp []) := by
  unfold Tryz.f50
  simp only [↓wR, RA, simprocAttr, TF]
  rw [bk]
  refine ⟨fun h => ?_, fun h => ?_⟩
  · have h1 : s.size < 1 := by simp at h; omega
    simp only [↓wR, RA, simprocAttr, TF, lu, h, h1, true_or]
  · have h1 : ¬ s.size < 1 := by simp at h; omega
    simp only [↓wR, RA, simprocAttr, TF, h]
    rw [bk]
    refine ⟨fun h => ?_, fun h => ?_⟩
    · have h2 : 63 < s.size := by simp at h; omega
      simp only [↓wR, RA, simprocAttr, TF, lu, h2, or_true]
    · have h2 : ¬ 63 < s.size := by simp at h; omega
      simp only [↓wR, RA, simprocAttr, TF, lu, h1, h2, or_self]
noncomputable def Gd (x : ByteArray × Unit) : Option AV := some ((r1 (aw .i64)).E true (lu x.1))
set_option maxRecDepth 2000000 in
theorem Rg (x : ByteArray × Unit) (r : AV) (h : Gd x = some r) : bf PP 50 ((aC an a0).E x) r := by
  cases h
  exact ba (ak.nil PP) Tryz.func50 (by kernel_rfl) (by kernel_rfl) (by kernel_rfl) (Nat.le_of_ble_eq_true (by kernel_rfl)) (r1 (aw .i64)) true (lu x.1) (Zg x.1)
noncomputable abbrev ajq : Nat × Bool × (List AV → M AV) := (50, true, dc (aC an a0) Gd)
def br (n : Name) : Nat := n.foldl (fun k s => k + (s.size + 1)) 1
theorem Zj (l : Name) (c : ByteArray) : br (l ++ [c]) = br l + (c.size + 1) := by simp [br]
theorem Y9 (n : Name) (i : Nat) (c : ByteArray) (h : n[i]? = some c) : br (n.take (i + 1)) = br (n.take i) + (c.size + 1) := by
  obtain ⟨hk, rfl⟩ := List.getElem?_eq_some_iff.1 h
  rw [List.take_succ_eq_append_getElem hk, Zj]
theorem B9 (l : Name) : ∀ k, l.foldl (fun k s => k + (s.size + 1)) k = k + l.foldl (fun k s => k + (s.size + 1)) 0 := by
  induction l with
  | nil => intro k; simp
  | cons a l ih => intro k; simp only [List.foldl_cons]; rw [ih, ih (0 + _)]; omega
theorem jr (a b : Name) : br (a ++ b) + 1 = br a + br b := by
  simp only [br, List.foldl_append]
  rw [B9 b, B9 b 1]; omega
theorem nr (n : Name) (i : Nat) : br (n.take i) ≤ br n ∧ n.length < br n := by
  constructor
  · have := jr (n.take i) (n.drop i)
    rw [List.take_append_drop] at this
    have h1 : 1 ≤ br (n.drop i) := by simp only [br]; rw [B9]; omega
    omega
  · induction n with
    | nil => simp [br]
    | cons a l ih =>
      have := jr [a] l
      simp only [List.singleton_append] at this
      have h1 : br [a] = a.size + 2 := by simp [br]; omega
      simp only [List.length_cons]
      omega
theorem wrap_i64 (x : Int) (h0 : -9223372036854775808 ≤ x) (h1 : x < 9223372036854775808) : IntKind.i64.wrap x = x := by
  simp [IntKind.wrap, IntKind.bits, IntKind.signed]; omega
theorem aha (n : Name) (hn : br n < 17592186044416) : wl PP [] 0 (Tryz.f51.body.getD .skip) (dj PP Tryz.f51.results.toList (fun r st => (r1 (aw .i64)).get true st.h r = some (br n : Int))) (bw 0 [ar.val false n]) (bp []) := by
  unfold Tryz.f51
  rw [di]
  simp only [↓wR, RA, simprocAttr, TF]
  refine dh [3, 6, 7, 8] (fun (x : Nat) => [.sc (.int .i64 (br (n.take x))), .vl false 1 (n.map (an.val false)), .sc (.int .i64 n.length), .sc (.int .i64 x)]) (fun _ => []) (fun x => x ≤ n.length) (fun x => n.length - x) 0 (Nat.zero_le _) ?_ ?_ ?_
  · simp only [↓wR, RA, simprocAttr, TF] <;> rfl
  · simp only [↓wR, RA, simprocAttr, TF]
  · intro i hi
    have h1 := nr n i
    simp only [↓wR, RA, simprocAttr, TF]
    rw [bk]
    refine ⟨fun h => ?_, fun h => ?_⟩
    · have h4 : i < n.length := by simp at h; omega
      obtain ⟨c, hc⟩ : ∃ c, n[i]? = some c := ⟨n[i], by simp [h4]⟩
      have h2 := Y9 n i c hc
      have h3 := (nr n (i + 1)).1
      simp only [↓wR, RA, simprocAttr, TF, hc]
      refine ⟨i + 1, by omega, by omega, ?_⟩
      rw [h2]
      simp only [List.cons.injEq, and_true, true_and, AV.sc.injEq, Value.int.injEq]
      refine ⟨?_, ?_⟩
      · rw [wrap_i64 ((c.size : Int) + 1) (by omega) (by omega), wrap_i64 _ (by omega) (by omega)]; omega
      · rw [wrap_i64 _ (by omega) (by omega)]; omega
    · have h4 : i = n.length := by simp at h; omega
      subst h4
      simp only [↓wR, RA, simprocAttr, TF, List.take_length]
noncomputable def zo (x : Name × Unit) : Option AV := if br x.1 < 17592186044416 then some ((r1 (aw .i64)).E true ((br x.1 : Int))) else none
set_option maxRecDepth 2000000 in
theorem Wj (x : Name × Unit) (r : AV) (h : zo x = some r) : bf PP 51 ((aC ar a0).E x) r := by
  by_cases hc : br x.1 < 17592186044416
  case neg => simp only [zo, if_neg hc] at h; cases h
  simp only [zo, if_pos hc] at h
  cases h
  exact ba (ak.nil PP) Tryz.func51 (by kernel_rfl) (by kernel_rfl) (by kernel_rfl) (Nat.le_of_ble_eq_true (by kernel_rfl)) (r1 (aw .i64)) true ((br x.1 : Int)) (aha x.1 hc)
noncomputable abbrev am7 : Nat × Bool × (List AV → M AV) := (51, true, dc (aC ar a0) zo)
def xz (n : Name) : Bool := n.any fun s => decide (lu s ≠ 0)
def dp (n : Name) : Int := if xz n then 4 else if 255 < br n then 5 else 0
theorem aar (n : Name) (i : Nat) (c : ByteArray) (h : n[i]? = some c) : xz (n.take (i + 1)) = (xz (n.take i) || decide (lu c ≠ 0)) := by
  obtain ⟨hk, rfl⟩ := List.getElem?_eq_some_iff.1 h
  rw [List.take_succ_eq_append_getElem hk]
  simp only [xz, List.any_append, List.any_cons, List.any_nil, Bool.or_false]
theorem aee (n : Name) (i : Nat) (c : ByteArray) (h : n[i]? = some c) (hc : lu c ≠ 0) : xz n = true := by
  simp only [xz, List.any_eq_true]
  exact ⟨c, List.mem_of_getElem? h, by simp [hc]⟩
theorem acw (s : ByteArray) : lu s = 0 ∨ lu s = 4 := by unfold lu; split <;> simp
theorem ada (n : Name) (hn : br n < 17592186044416) : wl PP [ajq, am7] 0 (Tryz.f17.body.getD .skip) (dj PP Tryz.f17.results.toList (fun r st => (r1 (aw .i64)).get true st.h r = some (dp n))) (bw 0 [ar.val false n]) (bp []) := by
  unfold Tryz.f17
  rw [di]
  simp only [↓wR, RA, simprocAttr, TF]
  refine dh [0, 6, 7, 8] (fun (x : Nat) => [.vl false 1 (n.map (an.val false)), .vl false 1 (n.map (an.val false)), .sc (.int .i64 n.length), .sc (.int .i64 x)]) (fun _ => []) (fun x => x ≤ n.length ∧ xz (n.take x) = false) (fun x => n.length - x) 0 ⟨Nat.zero_le _, by simp [xz]⟩ ?_ ?_ ?_
  · simp only [↓wR, RA, simprocAttr, TF] <;> rfl
  · simp only [↓wR, RA, simprocAttr, TF]
  · rintro i ⟨hi, hb⟩
    have h1 := nr n i
    simp only [↓wR, RA, simprocAttr, TF]
    rw [bk]
    refine ⟨fun h => ?_, fun h => ?_⟩
    · have h4 : i < n.length := by simp at h; omega
      obtain ⟨c, hc⟩ : ∃ c, n[i]? = some c := ⟨n[i], by simp [h4]⟩
      simp only [↓wR, RA, simprocAttr, TF, hc, Gd]
      rw [bk]
      refine ⟨fun h => ?_, fun h => ?_⟩
      · have h5 : lu c ≠ 0 := by simpa using h
        have h6 : lu c = 4 := (acw c).resolve_left h5
        simp only [↓wR, RA, simprocAttr, TF, dp, aee n i c hc h5, h6]
      · have h5 : lu c = 0 := by simpa using h
        simp only [↓wR, RA, simprocAttr, TF]
        refine ⟨i + 1, ⟨by omega, by rw [aar n i c hc, hb]; simp [h5]⟩, by omega, ?_⟩
        simp only [List.cons.injEq, and_true, true_and, AV.sc.injEq, Value.int.injEq]
        rw [wrap_i64 _ (by omega) (by omega)]; omega
    · have h4 : i = n.length := by simp at h; omega
      subst h4
      rw [List.take_length] at hb
      simp only [↓wR, RA, simprocAttr, TF, zo, hn]
      rw [bk]
      refine ⟨fun h => ?_, fun h => ?_⟩
      · have h5 : 255 < br n := by simp at h; omega
        simp only [↓wR, RA, simprocAttr, TF, dp, hb, h5]
      · have h5 : ¬ 255 < br n := by simp at h; omega
        simp only [↓wR, RA, simprocAttr, TF, dp, hb, h5]
noncomputable def ll (x : Name × Unit) : Option AV := if br x.1 < 17592186044416 then some ((r1 (aw .i64)).E true (dp x.1)) else none
set_option maxRecDepth 2000000 in
theorem kb (x : Name × Unit) (r : AV) (h : ll x = some r) : bf PP 17 ((aC ar a0).E x) r := by
  by_cases hc : br x.1 < 17592186044416
  case neg => simp only [ll, if_neg hc] at h; cases h
  simp only [ll, if_pos hc] at h
  cases h
  exact ba (ak.cons (ai Rg) (ak.cons (ai Wj) (ak.nil PP))) Tryz.func17 (by kernel_rfl) (by kernel_rfl) (by kernel_rfl) (Nat.le_of_ble_eq_true (by kernel_rfl)) (r1 (aw .i64)) true (dp x.1) (ada x.1 hc)
noncomputable abbrev eb : Nat × Bool × (List AV → M AV) := (17, true, dc (aC ar a0) ll)
def low (c : UInt8) : UInt8 := if 65 ≤ c ∧ c ≤ 90 then c + 32 else c
def fold (s : ByteArray) : ByteArray := ⟨(s.data.toList.map low).toArray⟩
def nc (l : List UInt8) (i : Nat) : List UInt8 := (l.take i).map low ++ l.drop i
theorem apn (l : List UInt8) (i : Nat) : (nc l i).length = l.length := by simp [nc]; omega
theorem Wx (l : List UInt8) (i : Nat) (h : i < l.length) : (nc l i)[i]? = l[i]? := by
  simp [nc, List.getElem?_append, Nat.min_eq_left (Nat.le_of_lt h)]
theorem Yx (l : List UInt8) (i : Nat) (h : i < l.length) : (nc l i).take i ++ [low l[i]] ++ (nc l i).drop (i + 1) = nc l (i + 1) := by
  have h1 : ((l.take i).map low).length = i := by simp; omega
  have h2 : (nc l i).take i = (l.take i).map low := by rw [nc, List.take_append_of_le_length (by omega), List.take_of_length_le (by omega)]
  have h3 : (nc l i).drop (i + 1) = l.drop (i + 1) := by
    rw [nc, List.drop_append, List.drop_eq_nil_of_le (by omega), h1]
    simp
  rw [h2, h3, nc, List.take_succ_eq_append_getElem h, List.map_append]
  rfl
theorem Sh (l : List UInt8) (i : Nat) (h : i < l.length) (hk : low l[i] = l[i]) : nc l i = nc l (i + 1) := by
  rw [← Yx l i h, hk]
  have : (nc l i)[i]? = some l[i] := by rw [Wx l i h]; simp [h]
  obtain ⟨hlt, e⟩ := List.getElem?_eq_some_iff.1 this
  rw [← e, ← List.take_succ_eq_append_getElem hlt, List.take_append_drop]
set_option maxRecDepth 20000 in
theorem ab2 (s : ByteArray) (hs : s.size ≤ 16777216) : wl PP [] 0 (Tryz.f133.body.getD .skip) (dj PP Tryz.f133.results.toList (fun r st => (r1 an).get true st.h r = some (fold s))) (bw 0 [an.val false s]) (bp []) := by
  unfold Tryz.f133
  have hl : s.data.toList.length = s.size := by simp
  simp only [↓wR, RA, simprocAttr, TF, hs]
  refine dh [3, 8, 9, 10] (fun (x : Nat) => [.sl 0 0 s.size 1, .sl 0 0 s.size 1, .sc (.int .i64 s.size), .sc (.int .i64 x)]) (fun x => [some (.row ((nc s.data.toList x).map (cp.val false)) 0 1 5)]) (fun x => x ≤ s.size) (fun x => s.size - x) 0 (Nat.zero_le _) ?_ ?_ ?_
  · simp only [↓wR, RA, simprocAttr, TF] <;> rfl
  · simp only [↓wR, RA, simprocAttr, TF] <;> rfl
  · intro i hi
    simp only [↓wR, RA, simprocAttr, TF]
    rw [bk]
    refine ⟨fun h => ?_, fun h => ?_⟩
    · have h4 : i < s.size := by simp at h; omega
      have h6 : i < s.data.toList.length := by omega
      have h5 : (nc s.data.toList i)[i]? = some s.data.toList[i] := by rw [Wx s.data.toList i h6]; simp [h6]
      obtain ⟨c, hc⟩ : ∃ c, s.data.toList[i] = c := ⟨_, rfl⟩
      have hcl := c.toNat_lt
      rw [hc] at h5
      simp only [↓wR, RA, simprocAttr, TF, h4, h5]
      rw [bk]
      refine ⟨fun h1 => ?_, fun h1 => ?_⟩
      · simp only [↓wR, RA, simprocAttr, TF, h1]
        rw [bk]
        refine ⟨fun h2 => ?_, fun h2 => ?_⟩
        · have h7 : i + 1 ≤ s.size := by omega
          have hlow : low c = c + 32 := by
            simp at h1 h2
            have a1 : 65 ≤ c := by rw [UInt8.le_iff_toNat_le]; simp; omega
            have a2 : c ≤ 90 := by rw [UInt8.le_iff_toNat_le]; simp; omega
            simp [low, a1, a2]
          have hw : IntKind.u8.wrap (IntKind.u8.wrap ((c.toNat : Int) + 97) - 65) = ((low c).toNat : Int) := by
            simp at h1 h2
            rw [hlow]
            simp [IntKind.wrap, IntKind.bits, IntKind.signed, UInt8.toNat_add]
            omega
          have hst : List.map (cp.val false) (List.take i (nc s.data.toList i)) ++ [AV.sc (Value.int IntKind.u8 ((low c).toNat : Int))] ++ List.map (cp.val false) (List.drop (i + 1) (nc s.data.toList i)) = List.map (cp.val false) (nc s.data.toList (i + 1)) := by
            rw [← Yx s.data.toList i h6, hc, List.map_append, List.map_append]; rfl
          simp only [↓wR, RA, simprocAttr, TF, h4, h7, apn, hl, hw, hst]
          refine ⟨i + 1, h7, by omega, ?_, rfl⟩
          rw [wrap_i64 _ (by omega) (by omega)]; rfl
        · simp only [↓wR, RA, simprocAttr, TF]
          have hk : low c = c := by
            simp at h2
            have a2 : ¬ c ≤ 90 := by rw [UInt8.le_iff_toNat_le]; simp; omega
            simp [low, a2]
          refine ⟨i + 1, by omega, by omega, ?_, ?_⟩
          · rw [wrap_i64 _ (by omega) (by omega)]; rfl
          · rw [Sh s.data.toList i h6 (by rw [hc]; exact hk)]
      · simp only [↓wR, RA, simprocAttr, TF, h1]
        have hk : low c = c := by
          simp at h1
          have a2 : ¬ 65 ≤ c := by rw [UInt8.le_iff_toNat_le]; simp; omega
          simp [low, a2]
        refine ⟨i + 1, by omega, by omega, ?_, ?_⟩
        · rw [wrap_i64 _ (by omega) (by omega)]; rfl
        · rw [Sh s.data.toList i h6 (by rw [hc]; exact hk)]
    · have h4 : i = s.size := by simp at h; omega
      subst h4
      have : ∃ m, List.map low s.data.toList = m := ⟨_, rfl⟩
      obtain ⟨m, hm⟩ := this
      have h5 : nc s.data.toList s.size = m := by rw [nc, List.take_of_length_le (Nat.le_of_eq hl), List.drop_eq_nil_of_le (Nat.le_of_eq hl), List.append_nil, hm]
      have hlm : m.length = s.size := by rw [← hm, List.length_map, hl]
      have h6 : List.take s.size (List.map (cp.val false) m) = List.map (cp.val false) m := List.take_of_length_le (by rw [List.length_map, hlm]; exact Nat.le_refl _)
      have hf : fold s = ⟨m.toArray⟩ := by rw [fold, hm]
      rw [h5, hf]
      simp only [↓wR, RA, simprocAttr, TF, hlm, h6]
noncomputable def sx (x : ByteArray × Unit) : Option AV := if x.1.size ≤ 16777216 then some ((r1 an).E true (fold x.1)) else none
set_option maxRecDepth 2000000 in
theorem Ai (x : ByteArray × Unit) (r : AV) (h : sx x = some r) : bf PP 133 ((aC an a0).E x) r := by
  by_cases hc : x.1.size ≤ 16777216
  case neg => simp only [sx, if_neg hc] at h; cases h
  simp only [sx, if_pos hc] at h
  cases h
  exact ba (ak.nil PP) Tryz.func133 (by kernel_rfl) (by kernel_rfl) (by kernel_rfl) (Nat.le_of_ble_eq_true (by kernel_rfl)) (r1 an) true (fold x.1) (ab2 x.1 hc)
noncomputable abbrev Le : Nat × Bool × (List AV → M AV) := (133, true, dc (aC an a0) sx)
theorem ad3 (a b : ByteArray) (ha : a.size ≤ 16777216) (hb : b.size ≤ 16777216) : wl PP [Le] 0 (Tryz.f91.body.getD .skip) (dj PP Tryz.f91.results.toList (fun r st => (r1 bt).get true st.h r = some (decide (fold a = fold b)))) (bw 0 [an.val false a, an.val false b]) (bp []) := by
  unfold Tryz.f91
  simp only [↓wR, RA, simprocAttr, TF, sx, ha, hb]
noncomputable def y8 (x : ByteArray × ByteArray × Unit) : Option AV := if x.1.size ≤ 16777216 ∧ x.2.1.size ≤ 16777216 then some ((r1 bt).E true (decide (fold x.1 = fold x.2.1))) else none
set_option maxRecDepth 2000000 in
theorem Vj (x : ByteArray × ByteArray × Unit) (r : AV) (h : y8 x = some r) : bf PP 91 ((aC an (aC an a0)).E x) r := by
  by_cases hc : x.1.size ≤ 16777216 ∧ x.2.1.size ≤ 16777216
  case neg => simp only [y8, if_neg hc] at h; cases h
  simp only [y8, if_pos hc] at h
  cases h
  exact ba (ak.cons (ai Ai) (ak.nil PP)) Tryz.func91 (by kernel_rfl) (by kernel_rfl) (by kernel_rfl) (Nat.le_of_ble_eq_true (by kernel_rfl)) (r1 bt) true (decide (fold x.1 = fold x.2.1)) (ad3 x.1 x.2.1 hc.1 hc.2)
noncomputable abbrev ap5 : Nat × Bool × (List AV → M AV) := (91, true, dc (aC an (aC an a0)) y8)
end Go.Proofs.YtidomogemfchpaaGreat
end
section
set_option linter.unusedSimpArgs false
set_option linter.unusedVariables false
namespace Go.Proofs.YtidomogemfchpaaGreat
open Go.Vm
def kc : List ByteArray → List ByteArray → Nat
  | a :: r, b :: q => if fold a = fold b then kc r q + 1 else 0
  | _, _ => 0
theorem af0 (l : List ByteArray) : kc l [] = 0 := by cases l <;> rfl
def common (a b : Name) : Nat := kc a.reverse b.reverse
theorem ad6 {l : List ByteArray} {x : Nat} {c : ByteArray} (h : x < l.length) (hc : l[l.length - 1 - x]? = some c) : l.reverse.drop x = c :: l.reverse.drop (x + 1) := by
  have h1 : l.reverse[x]? = some c := by rw [List.getElem?_reverse h]; exact hc
  obtain ⟨h2, h3⟩ := List.getElem?_eq_some_iff.1 h1
  rw [← h3]; exact List.drop_eq_getElem_cons h2
set_option maxRecDepth 20000 in
theorem Zh (a b : Name) (ha : ∀ s ∈ a, s.size ≤ 16777216) (hb : ∀ s ∈ b, s.size ≤ 16777216) (hla : a.length < 17592186044416) (hlb : b.length < 17592186044416) : wl PP [ap5] 0 (Tryz.f53.body.getD .skip) (dj PP Tryz.f53.results.toList (fun r st => (r1 (aw .i64)).get true st.h r = some (common a b : Int))) (bw 0 [ar.val false a, ar.val false b]) (bp []) := by
  unfold Tryz.f53
  simp only [di]
  simp only [↓wR, RA, simprocAttr, TF]
  refine bq (T := []) (ak.nil PP) mixed Tryz.func90 rfl (by kernel_rfl) (by kernel_rfl) (by kernel_rfl) (by kernel_rfl) ?_; unfold Tryz.f90
  simp only [↓wR, RA, simprocAttr, TF]
  refine ⟨[2, 3, 4, 5, 10], ?_⟩
  have hib : tn PP 132 = some (Tryz.f132.ntmps, Tryz.f132.body.getD .skip) := by kernel_rfl
  simp only [↓wR, RA, simprocAttr, TF, hib]
  refine ⟨by kernel_rfl, fun l => ?_⟩
  unfold Tryz.f132
  simp only [↓wR, RA, simprocAttr, TF]
  refine E4 [0, 1, 3] (fun (x : Nat) => [.sc (.func (.yield l) #[] #[]), .ptr 4 0, .sc (.int .i64 ((a.length : Int) - 1 - x))]) (fun x => [some (.row [.vl false 1 (a.map (an.val false))] 0 2 23), some (.row [.vl false 1 (b.map (an.val false))] 0 2 23), some (.row [.sc (.int .i64 0)] 0 2 3), some (.row [.sc (.int .i64 x)] 0 2 3), some (.row [.vl false 1 (a.map (an.val false))] 0 2 23)]) (fun x => x ≤ a.length ∧ common a b = x + kc (a.reverse.drop x) (b.reverse.drop x)) (fun x => a.length - x) 0 ⟨Nat.zero_le _, by simp [common]⟩ ?_ ?_ ?_
  · simp only [↓wR, RA, simprocAttr, TF]; simp; rw [wrap_i64 _ (by omega) (by omega)]
  · simp only [↓wR, RA, simprocAttr, TF] <;> rfl
  rintro x ⟨hx, hR⟩
  simp only [↓wR, RA, simprocAttr, TF]
  rw [sf]; refine ⟨fun h => ?_, fun h => ?_⟩
  · have hx' : x < a.length := by simp at h; omega
    obtain ⟨c, hc⟩ : ∃ c, a[a.length - 1 - x]? = some c := ⟨_, List.getElem?_eq_getElem (by omega)⟩
    have e : ((a.length : Int) - 1 - x).toNat = a.length - 1 - x := by omega
    have e2 : (0 : Int) ≤ (a.length : Int) - 1 - x := by omega
    simp only [↓wR, RA, simprocAttr, TF, e, hc, e2]
    refine v7 [0, 1, 3, 12, 16] ?_
    simp only [↓wR, RA, simprocAttr, TF, wo, mo, hc]
    simp (disch := omega) only [ah, ca, cb, bz, b9]
    rw [bk]; refine ⟨fun h1 => ?_, fun h1 => ?_⟩
    · have hb0 : b.length ≤ x := by simp at h1; omega
      have hb1 : b.reverse.drop x = [] := List.drop_eq_nil_of_le (by simpa using hb0)
      rw [hb1, af0] at hR
      simp only [↓wR, RA, simprocAttr, TF, h1]
      rw [hR, Nat.add_zero]
    · have hb0 : x < b.length := by simp at h1; omega
      obtain ⟨d, hd⟩ : ∃ d, b[b.length - 1 - x]? = some d := ⟨_, List.getElem?_eq_getElem (by omega)⟩
      have e4 : ((b.length : Int) - ((a.length : Int) - ((a.length : Int) - 1 - x))).toNat = b.length - 1 - x := by omega
      have e5 : (0 : Int) ≤ (b.length : Int) - ((a.length : Int) - ((a.length : Int) - 1 - x)) := by omega
      simp only [↓wR, RA, simprocAttr, TF, h1, hd, e4, e5, y8, ha c (List.mem_of_getElem? hc), hb d (List.mem_of_getElem? hd)]
      rw [ad6 hx' hc, ad6 hb0 hd, kc] at hR
      rw [bk]; refine ⟨fun h2 => ?_, fun h2 => ?_⟩
      · have h3 : ¬ fold c = fold d := by simpa using h2
        rw [if_neg h3] at hR
        simp only [↓wR, RA, simprocAttr, TF, h2]
        rw [hR, Nat.add_zero]
      · have h3 : fold c = fold d := by simpa using h2
        rw [if_pos h3] at hR
        simp only [↓wR, RA, simprocAttr, TF, h2]
        refine ⟨x + 1, ⟨by omega, by omega⟩, by omega, ?_, ?_⟩
        · simp only [List.cons.injEq, and_true, true_and, AV.sc.injEq, Value.int.injEq]
          simp (disch := omega) only [ah, ca, cb, bz, b9]
          omega
        · simp (disch := omega) only [ah, ca, cb, bz, b9]
          rfl
  · have h4 : x = a.length := by simp at h; omega
    have h5 : a.reverse.drop x = [] := List.drop_eq_nil_of_le (by simp; omega)
    rw [h5, kc] at hR
    simp only [↓wR, RA, simprocAttr, TF, h]
    rw [hR, Nat.add_zero]
    all_goals simp
end Go.Proofs.YtidomogemfchpaaGreat
end
section
set_option linter.unusedSimpArgs false
set_option linter.unusedVariables false
namespace Go.Proofs.YtidomogemfchpaaGreat
open Go.Vm
theorem afy (args : List AV) : A6 PP 204 args (Cx.iq args) :=
  Cx.vq (fn := (PP.funcs[204]?).getD default) (by kernel_rfl) (by kernel_rfl) (by kernel_rfl) (by kernel_rfl) (by kernel_rfl) args
noncomputable abbrev am5 : Nat × Bool × (List AV → M AV) := (204, true, Cx.iq)
theorem amp : ak PP [am5] := ak.cons afy (ak.nil PP)
noncomputable def J8 (a b : ByteArray) : Int := Lib.compareBytes a.data.toList b.data.toList
theorem N3 (a b : ByteArray) : wl PP [] 0 (Tryz.f197.body.getD .skip) (dj PP Tryz.f197.results.toList (fun r st => (r1 (aw .i64)).get true st.h r = some (J8 a b))) (bw 0 [an.val false a, an.val false b]) (bp []) := by
  unfold Tryz.f197
  simp only [↓wR, RA, simprocAttr, TF]
  refine bq (T := [am5]) amp mixed Tryz.func201 rfl (by kernel_rfl) (by kernel_rfl) (by kernel_rfl) (by kernel_rfl) ?_; unfold Tryz.f201
  simp only [↓wR, RA, simprocAttr, TF, J8]
noncomputable def zr (x : ByteArray × ByteArray × Unit) : Option AV := some ((r1 (aw .i64)).E true (J8 x.1 x.2.1))
set_option maxRecDepth 2000000 in
theorem Jv (x : ByteArray × ByteArray × Unit) (r : AV) (h : zr x = some r) : bf PP 197 ((aC an (aC an a0)).E x) r := by
  cases h
  exact ba (ak.nil PP) Tryz.func197 (by kernel_rfl) (by kernel_rfl) (by kernel_rfl) (Nat.le_of_ble_eq_true (by kernel_rfl)) (r1 (aw .i64)) true (J8 x.1 x.2.1) (N3 x.1 x.2.1)
noncomputable abbrev We : Nat × Bool × (List AV → M AV) := (197, true, dc (aC an (aC an a0)) zr)
theorem Rn (a b : ByteArray) (ha : a.size ≤ 16777216) (hb : b.size ≤ 16777216) : wl PP [Le, We] 0 (Tryz.f187.body.getD .skip) (dj PP Tryz.f187.results.toList (fun r st => (r1 (aw .i64)).get true st.h r = some (J8 (fold a) (fold b)))) (bw 0 [an.val false a, an.val false b]) (bp []) := by
  unfold Tryz.f187
  simp only [↓wR, RA, simprocAttr, TF, sx, zr, ha, hb]
noncomputable def ud (x : ByteArray × ByteArray × Unit) : Option AV := if x.1.size ≤ 16777216 ∧ x.2.1.size ≤ 16777216 then some ((r1 (aw .i64)).E true (J8 (fold x.1) (fold x.2.1))) else none
set_option maxRecDepth 2000000 in
theorem Ny (x : ByteArray × ByteArray × Unit) (r : AV) (h : ud x = some r) : bf PP 187 ((aC an (aC an a0)).E x) r := by
  by_cases hc : x.1.size ≤ 16777216 ∧ x.2.1.size ≤ 16777216
  case neg => simp only [ud, if_neg hc] at h; cases h
  simp only [ud, if_pos hc] at h
  cases h
  exact ba (ak.cons (ai Ai) (ak.cons (ai Jv) (ak.nil PP))) Tryz.func187 (by kernel_rfl) (by kernel_rfl) (by kernel_rfl) (Nat.le_of_ble_eq_true (by kernel_rfl)) (r1 (aw .i64)) true (J8 (fold x.1) (fold x.2.1)) (Rn x.1 x.2.1 hc.1 hc.2)
noncomputable abbrev ac5 : Nat × Bool × (List AV → M AV) := (187, true, dc (aC an (aC an a0)) ud)
def en (n : Name) : List ByteArray := n.map fold
def be (n : Name) : Prop := br n ≤ 16777216
instance (n : Name) : Decidable (be n) := inferInstanceAs (Decidable (_ ≤ _))
theorem ace {n : Name} {s : ByteArray} (h : s ∈ n) : s.size < br n := by
  obtain ⟨a, b, rfl⟩ := List.append_of_mem h
  have h1 := jr a ([s] ++ b)
  have h2 := jr [s] b
  have h3 : br [s] = s.size + 2 := by simp [br]; omega
  have h4 : ∀ l : Name, 1 ≤ br l := fun l => by have := (nr l 0).2; omega
  have := h4 a; have := h4 b
  simp only [List.singleton_append] at h1 h2
  omega
theorem be.label {n : Name} (h : be n) : ∀ s ∈ n, s.size ≤ 16777216 := fun s hs => by have := ace hs; unfold be at h; omega
theorem be.len {n : Name} (h : be n) : n.length < 17592186044416 := by have := (nr n 0).2; unfold be at h; omega
theorem Td : ∀ r q : List ByteArray, kc r q ≤ q.length
  | [], q => by simp [kc]
  | a :: r, [] => by simp [kc]
  | a :: r, b :: q => by
    have := Td r q
    simp only [kc, List.length_cons]
    split <;> omega
theorem J3 : ∀ r q : List ByteArray, kc r q ≤ r.length
  | [], q => by simp [kc]
  | a :: r, [] => by simp [kc]
  | a :: r, b :: q => by
    have := J3 r q
    simp only [kc, List.length_cons]
    split <;> omega
theorem Pz : ∀ r q : List ByteArray, kc r q = q.length ↔ q.map fold <+: r.map fold
  | [], [] => by simp [kc]
  | a :: r, [] => by simp [kc]
  | [], b :: q => by simp [kc]
  | a :: r, b :: q => by
    have := Pz r q
    simp only [kc, List.length_cons, List.map_cons, List.cons_prefix_cons]
    by_cases h : fold a = fold b
    · rw [if_pos h]
      constructor
      · intro h1; exact ⟨h.symm, this.1 (by omega)⟩
      · intro h1; have := this.2 h1.2; omega
    · rw [if_neg h]
      constructor
      · intro h1; omega
      · intro h1; exact (h h1.1.symm).elim
theorem Dy (n top : Name) : common n top = top.length ↔ en top <:+ en n := by
  unfold common en
  rw [← List.length_reverse, Pz, List.map_reverse, List.map_reverse, List.reverse_prefix]
theorem Pv (a b : Name) : (a.length = b.length ∧ common a b = a.length) ↔ en a = en b := by
  constructor
  · rintro ⟨h1, h2⟩
    rw [h1] at h2
    have := (Dy a b).1 h2
    exact (this.eq_of_length (by simp [en, h1])).symm
  · intro h
    have hl : a.length = b.length := by have := congrArg List.length h; simpa [en] using this
    refine ⟨hl, ?_⟩
    rw [hl]
    exact (Dy a b).2 (by rw [h]; exact List.suffix_refl _)
def ee (a b : Name) : Bool := decide (en a = en b)
def cw (n top : Name) : Bool := decide (en top <:+ en n)
noncomputable def pw (x : Name × Name × Unit) : Option AV := if be x.1 ∧ be x.2.1 then some ((r1 (aw .i64)).E true ((common x.1 x.2.1 : Int))) else none
set_option maxRecDepth 2000000 in
theorem zn (x : Name × Name × Unit) (r : AV) (h : pw x = some r) : bf PP 53 ((aC ar (aC ar a0)).E x) r := by
  by_cases hc : be x.1 ∧ be x.2.1
  case neg => simp only [pw, if_neg hc] at h; cases h
  simp only [pw, if_pos hc] at h
  cases h
  exact ba (ak.cons (ai Vj) (ak.nil PP)) Tryz.func53 (by kernel_rfl) (by kernel_rfl) (by kernel_rfl) (Nat.le_of_ble_eq_true (by kernel_rfl)) (r1 (aw .i64)) true ((common x.1 x.2.1 : Int)) (Zh x.1 x.2.1 hc.1.label hc.2.label hc.1.len hc.2.len)
noncomputable abbrev Iz : Nat × Bool × (List AV → M AV) := (53, true, dc (aC ar (aC ar a0)) pw)
theorem abq (n top : Name) (hn : be n) (ht : be top) : wl PP [Iz] 0 (Tryz.f19.body.getD .skip) (dj PP Tryz.f19.results.toList (fun r st => (r1 bt).get true st.h r = some (cw n top))) (bw 0 [ar.val false n, ar.val false top]) (bp []) := by
  unfold Tryz.f19
  simp only [di]
  simp only [↓wR, RA, simprocAttr, TF, pw, hn, ht]
  congr 1
  unfold cw
  have := Dy n top
  rw [Bool.eq_iff_iff]; simp [← this]; omega
noncomputable def ln (x : Name × Name × Unit) : Option AV := if be x.1 ∧ be x.2.1 then some ((r1 bt).E true (cw x.1 x.2.1)) else none
set_option maxRecDepth 2000000 in
theorem l5 (x : Name × Name × Unit) (r : AV) (h : ln x = some r) : bf PP 19 ((aC ar (aC ar a0)).E x) r := by
  by_cases hc : be x.1 ∧ be x.2.1
  case neg => simp only [ln, if_neg hc] at h; cases h
  simp only [ln, if_pos hc] at h
  cases h
  exact ba (ak.cons (ai zn) (ak.nil PP)) Tryz.func19 (by kernel_rfl) (by kernel_rfl) (by kernel_rfl) (Nat.le_of_ble_eq_true (by kernel_rfl)) (r1 bt) true (cw x.1 x.2.1) (abq x.1 x.2.1 hc.1 hc.2)
noncomputable abbrev sj : Nat × Bool × (List AV → M AV) := (19, true, dc (aC ar (aC ar a0)) ln)
theorem ahh (n top : Name) (hn : be n) (ht : be top) : wl PP [Iz] 0 (Tryz.f24.body.getD .skip) (dj PP Tryz.f24.results.toList (fun r st => (r1 bt).get true st.h r = some (ee n top))) (bw 0 [ar.val false n, ar.val false top]) (bp []) := by
  unfold Tryz.f24
  simp only [di]
  simp only [↓wR, RA, simprocAttr, TF, pw, hn, ht]
  rw [bk]; refine ⟨fun h => ?_, fun h => ?_⟩
  · have hl : n.length = top.length := by simp at h; omega
    simp only [↓wR, RA, simprocAttr, TF, h, pw, hn, ht]
    congr 1
    unfold ee
    have := Pv n top
    rw [Bool.eq_iff_iff]; simp [← this, hl]; omega
  · have hl : ¬ n.length = top.length := by simp at h; omega
    simp only [↓wR, RA, simprocAttr, TF, h]
    have := Pv n top
    simp [ee, ← this, hl]
noncomputable def ia (x : Name × Name × Unit) : Option AV := if be x.1 ∧ be x.2.1 then some ((r1 bt).E true (ee x.1 x.2.1)) else none
set_option maxRecDepth 2000000 in
theorem fv (x : Name × Name × Unit) (r : AV) (h : ia x = some r) : bf PP 24 ((aC ar (aC ar a0)).E x) r := by
  by_cases hc : be x.1 ∧ be x.2.1
  case neg => simp only [ia, if_neg hc] at h; cases h
  simp only [ia, if_pos hc] at h
  cases h
  exact ba (ak.cons (ai zn) (ak.nil PP)) Tryz.func24 (by kernel_rfl) (by kernel_rfl) (by kernel_rfl) (Nat.le_of_ble_eq_true (by kernel_rfl)) (r1 bt) true (ee x.1 x.2.1) (ahh x.1 x.2.1 hc.1 hc.2)
noncomputable abbrev dr : Nat × Bool × (List AV → M AV) := (24, true, dc (aC ar (aC ar a0)) ia)
noncomputable def ats (a b : Name) (k : Nat) : Int :=
  match a[a.length - 1 - k]?, b[b.length - 1 - k]? with
  | some x, some y => J8 (fold x) (fold y)
  | _, _ => 0
noncomputable def adh (a b : Name) : Int :=
  if common a b = a.length ∧ common a b = b.length then 0 else if common a b = a.length then -1 else if common a b = b.length then 1 else ats a b (common a b)
theorem Vi (a b : Name) (ha : be a) (hb : be b) : wl PP [Iz, ac5] 0 (Tryz.f169.body.getD .skip) (dj PP Tryz.f169.results.toList (fun r st => (r1 (aw .i64)).get true st.h r = some (adh a b))) (bw 0 [ar.val false a, ar.val false b]) (bp []) := by
  unfold Tryz.f169
  simp only [di]
  simp only [↓wR, RA, simprocAttr, TF, pw, ha, hb]
  have h1 := J3 a.reverse b.reverse
  have h2 := Td a.reverse b.reverse
  rw [List.length_reverse] at h1 h2
  change common a b ≤ a.length at h1
  change common a b ≤ b.length at h2
  obtain ⟨k, hk⟩ : ∃ k, common a b = k := ⟨_, rfl⟩
  rw [hk] at h1 h2
  unfold adh
  rw [hk]
  rw [bk]; refine ⟨fun h => ?_, fun h => ?_⟩
  · simp only [↓wR, RA, simprocAttr, TF, h]
    have hka : k = a.length := by simp at h; omega
    rw [bk]; refine ⟨fun h3 => ?_, fun h3 => ?_⟩
    · have hkb : k = b.length := by simp at h3; omega
      simp only [↓wR, RA, simprocAttr, TF, h3]
      rw [if_pos ⟨hka, hkb⟩]
    · have hkb : ¬ k = b.length := by simp at h3; omega
      simp only [↓wR, RA, simprocAttr, TF, h3, h]
      rw [if_neg (fun e => hkb e.2), if_pos hka]
  · simp only [↓wR, RA, simprocAttr, TF, h]
    have hka : ¬ k = a.length := by simp at h; omega
    rw [bk]; refine ⟨fun h3 => ?_, fun h3 => ?_⟩
    · have hkb : k = b.length := by simp at h3; omega
      simp only [↓wR, RA, simprocAttr, TF, h3]
      rw [if_neg (fun e => hka e.1), if_neg hka, if_pos hkb]
    · have hkb : ¬ k = b.length := by simp at h3; omega
      rw [if_neg (fun e => hka e.1), if_neg hka, if_neg hkb]
      obtain ⟨x, hx⟩ : ∃ x, a[a.length - 1 - k]? = some x := ⟨_, List.getElem?_eq_getElem (by omega)⟩
      obtain ⟨y, hy⟩ : ∃ y, b[b.length - 1 - k]? = some y := ⟨_, List.getElem?_eq_getElem (by omega)⟩
      simp only [↓wR, RA, simprocAttr, TF, h3]
      refine ⟨by kernel_rfl, .inl ?_⟩
      have la := ha.len
      have lb := hb.len
      simp (disch := omega) only [ah, ca, cb, bz, b9]
      have e1 : (((a.length : Int) - 1) - k).toNat = a.length - 1 - k := by omega
      have e2 : (0 : Int) ≤ ((a.length : Int) - 1) - k := by omega
      have e3 : (((b.length : Int) - 1) - k).toNat = b.length - 1 - k := by omega
      have e4 : (0 : Int) ≤ ((b.length : Int) - 1) - k := by omega
      simp only [↓wR, RA, simprocAttr, TF, hx, e1, e2]
      simp (disch := omega) only [ah, ca, cb, bz, b9]
      simp only [↓wR, RA, simprocAttr, TF, hy, e3, e4, ud, ha.label x (List.mem_of_getElem? hx), hb.label y (List.mem_of_getElem? hy)]
      exact ⟨by kernel_rfl, by simp [ats, hx, hy]⟩
noncomputable def vj (x : Name × Name × Unit) : Option AV := if be x.1 ∧ be x.2.1 then some ((r1 (aw .i64)).E true (adh x.1 x.2.1)) else none
set_option maxRecDepth 2000000 in
theorem Rb (x : Name × Name × Unit) (r : AV) (h : vj x = some r) : bf PP 169 ((aC ar (aC ar a0)).E x) r := by
  by_cases hc : be x.1 ∧ be x.2.1
  case neg => simp only [vj, if_neg hc] at h; cases h
  simp only [vj, if_pos hc] at h
  cases h
  exact ba (ak.cons (ai zn) (ak.cons (ai Ny) (ak.nil PP))) Tryz.func169 (by kernel_rfl) (by kernel_rfl) (by kernel_rfl) (Nat.le_of_ble_eq_true (by kernel_rfl)) (r1 (aw .i64)) true (adh x.1 x.2.1) (Vi x.1 x.2.1 hc.1 hc.2)
noncomputable abbrev ag9 : Nat × Bool × (List AV → M AV) := (169, true, dc (aC ar (aC ar a0)) vj)
end Go.Proofs.YtidomogemfchpaaGreat
end
section
set_option linter.unusedSimpArgs false
set_option linter.unusedVariables false
namespace Go.Proofs.YtidomogemfchpaaGreat
open Go.Vm
theorem be.lt {n : Name} (h : be n) : n.length < 16777216 := by have := (nr n 0).2; unfold be at h; omega
theorem agv (n : Name) (hn : be n) : wl PP [] 0 (Tryz.f67.body.getD .skip) (dj PP Tryz.f67.results.toList (fun r st => (r1 ar).get true st.h r = some n)) (bw 0 [ar.val false n]) (bp []) := by
  unfold Tryz.f67
  simp only [di]
  have hlim : n.length * 16 ≤ 140737488355328 := by have := hn.lt; omega
  simp only [↓wR, RA, simprocAttr, TF, hlim]
noncomputable def jo (x : Name × Unit) : Option AV := if be x.1 then some ((r1 ar).E true (x.1)) else none
set_option maxRecDepth 2000000 in
theorem j8 (x : Name × Unit) (r : AV) (h : jo x = some r) : bf PP 67 ((aC ar a0).E x) r := by
  by_cases hc : be x.1
  case neg => simp only [jo, if_neg hc] at h; cases h
  simp only [jo, if_pos hc] at h
  cases h
  exact ba (ak.nil PP) Tryz.func67 (by kernel_rfl) (by kernel_rfl) (by kernel_rfl) (Nat.le_of_ble_eq_true (by kernel_rfl)) (r1 ar) true (x.1) (agv x.1 hc)
noncomputable abbrev oq : Nat × Bool × (List AV → M AV) := (67, true, dc (aC ar a0) jo)
theorem aq5 {n : Name} {i : Nat} {c : ByteArray} (hc : n[i]? = some c) : en (n.drop i) = fold c :: en (n.drop (i + 1)) := by rw [Hp hc]; rfl
theorem af1 (n : Name) (hn : be n) : wl PP [Le] 0 (Tryz.f162.body.getD .skip) (dj PP Tryz.f162.results.toList (fun r st => (r1 ar).get true st.h r = some (en n))) (bw 0 [ar.val false n]) (bp []) := by
  unfold Tryz.f162
  simp only [di]
  have hln := hn.lt
  simp only [↓wR, RA, simprocAttr, TF]
  refine kl [6, 7, 8, 3] (fun (x : List ByteArray) => [.vl false 1 (n.map (an.val false)), .sc (.int .i64 n.length), .sc (.int .i64 x.length), .sl 0 0 x.length 1]) (fun x => [some (.row (x.map (an.val false)) 0 0 9)]) (fun x => x ++ en (n.drop x.length) = en n ∧ x.length ≤ n.length) (fun x => n.length - x.length) [] ⟨rfl, Nat.zero_le _⟩ (by simp only [↓wR, RA, simprocAttr, TF]; (refine nj.lax [] (by first | exact Nat.le_of_ble_eq_true rfl | (simp [cq]; omega)) ?_ ?_ <;> repeat' first | exact i7.nil | exact dn.nil | exact je.same _ | exact je.nil _ _ _ | exact je.wm _ _ | exact dn.refl _ _ | apply i7.cons | apply dn.ghost | apply dn.same | apply dn.row)) ?_
  rintro x ⟨hR, hx⟩
  simp only [↓wR, RA, simprocAttr, TF]
  rw [bk]; refine ⟨fun h => ?_, fun h => ?_⟩
  · obtain ⟨c, hc, hd, hlt⟩ := dt h
    have hlim : (x.length + 1) * 16 ≤ 140737488355328 := by omega
    simp only [↓wR, RA, simprocAttr, TF, hc, sx, hn.label c (List.mem_of_getElem? hc), hlim]
    refine ⟨x ++ [fold c], ⟨?_, by simp; omega⟩, by simp; omega, by (first | rfl | trivial | omega | ((try (simp (disch := omega) only [ah])); (try (simp only [FB])); first | done | rfl | omega)), by (first | rfl | trivial | omega | ((try (simp (disch := omega) only [ah])); (try (simp only [FB])); first | done | rfl | omega))⟩
    rw [← hR, aq5 hc]; simp
  · rw [dv h] at hR
    simp only [↓wR, RA, simprocAttr, TF, h]
    simpa [en] using hR
noncomputable def By (x : Name × Unit) : Option AV := if be x.1 then some ((r1 ar).E true (en x.1)) else none
set_option maxRecDepth 2000000 in
theorem Zy (x : Name × Unit) (r : AV) (h : By x = some r) : bf PP 162 ((aC ar a0).E x) r := by
  by_cases hc : be x.1
  case neg => simp only [By, if_neg hc] at h; cases h
  simp only [By, if_pos hc] at h
  cases h
  exact ba (ak.cons (ai Ai) (ak.nil PP)) Tryz.func162 (by kernel_rfl) (by kernel_rfl) (by kernel_rfl) (Nat.le_of_ble_eq_true (by kernel_rfl)) (r1 ar) true (en x.1) (af1 x.1 hc)
noncomputable abbrev ard : Nat × Bool × (List AV → M AV) := (162, true, dc (aC ar a0) By)
theorem Jp {n : Name} (h : dp n = 0) : br n ≤ 255 := by
  unfold dp at h
  split at h
  · cases h
  · split at h
    · cases h
    · omega
theorem be.fit {n : Name} (h : be n) : br n < 17592186044416 := by unfold be at h; omega
theorem be.drop {n : Name} (h : be n) (i : Nat) : be (n.drop i) := by
  unfold be at *
  have := jr (n.take i) (n.drop i)
  rw [List.take_append_drop] at this
  have h1 := (nr (n.take i) 0).2
  omega
def j7 (n : Name) : Name × Int := if dp n ≠ 0 then ([], dp n) else if n = [] then ([], 9) else (n.tail, 0)
theorem Z1 (n : Name) (hn : be n) : wl PP [eb, oq] 0 (Tryz.f54.body.getD .skip) (dj PP Tryz.f54.results.toList (fun r st => (r2 ar (aw .i64)).get true st.h r = some (j7 n))) (bw 0 [ar.val false n]) (bp []) := by
  unfold Tryz.f54
  simp only [di]
  simp only [↓wR, RA, simprocAttr, TF, ll, hn.fit]
  unfold j7
  rw [bk]; refine ⟨fun h => ?_, fun h => ?_⟩
  · have he : dp n ≠ 0 := by simpa using h
    simp only [↓wR, RA, simprocAttr, TF]
    rw [if_pos he]
  · have he : dp n = 0 := by simpa using h
    rw [if_neg (by omega)]
    simp only [↓wR, RA, simprocAttr, TF]
    rw [bk]; refine ⟨fun h2 => ?_, fun h2 => ?_⟩
    · have hn0 : n = [] := by simpa using h2
      simp only [↓wR, RA, simprocAttr, TF]
      rw [if_pos hn0]
    · have hn0 : n ≠ [] := by simpa using h2
      obtain ⟨a, m, rfl⟩ := List.exists_cons_of_ne_nil hn0
      rw [if_neg hn0]
      simp only [↓wR, RA, simprocAttr, TF]
      simp only [↓wR, RA, simprocAttr, TF, jo, show be m from hn.drop 1]
      rfl
noncomputable def wu (x : Name × Unit) : Option AV := if be x.1 then some ((r2 ar (aw .i64)).E true (j7 x.1)) else none
set_option maxRecDepth 2000000 in
theorem Sn (x : Name × Unit) (r : AV) (h : wu x = some r) : bf PP 54 ((aC ar a0).E x) r := by
  by_cases hc : be x.1
  case neg => simp only [wu, if_neg hc] at h; cases h
  simp only [wu, if_pos hc] at h
  cases h
  exact ba (ak.cons (ai kb) (ak.cons (ai j8) (ak.nil PP))) Tryz.func54 (by kernel_rfl) (by kernel_rfl) (by kernel_rfl) (Nat.le_of_ble_eq_true (by kernel_rfl)) (r2 ar (aw .i64)) true (j7 x.1) (Z1 x.1 hc)
noncomputable abbrev akk : Nat × Bool × (List AV → M AV) := (54, true, dc (aC ar a0) wu)
def te : ByteArray := ⟨#[42]⟩
def mh (s : ByteArray) : List UInt8 := UInt8.ofNat s.size :: s.data.toList
def nameBytes (n : Name) : List UInt8 := n.flatMap mh ++ [0]
def xe (n : Name) : List UInt8 := if dp n ≠ 0 then [] else nameBytes n
theorem Hc (s) : (mh s).length = s.size + 1 := by simp [mh]
theorem Ja (n : Name) : (n.flatMap mh).length + 1 = br n := by
  induction n with
  | nil => rfl
  | cons a l ih =>
    have := jr [a] l
    have h3 : br [a] = a.size + 2 := by simp [br]; omega
    simp only [List.singleton_append] at this
    simp only [List.flatMap_cons, List.length_append, Hc]
    omega
theorem ael (n : Name) (hn : be n) : wl PP [eb] 0 (Tryz.f183.body.getD .skip) (dj PP Tryz.f183.results.toList (fun r st => (r2 (cr cp) (aw .i64)).get true st.h r = some (xe n, dp n))) (bw 0 [ar.val false n]) (bp []) := by
  unfold Tryz.f183
  simp only [di]
  have hln := hn.lt
  simp only [↓wR, RA, simprocAttr, TF, ll, hn.fit]
  rw [bk]; refine ⟨fun h => ?_, fun h => ?_⟩
  · have he : dp n ≠ 0 := by simpa using h
    have hb : xe n = [] := if_pos he
    simp only [↓wR, RA, simprocAttr, TF, hb]
  have he : dp n = 0 := by simpa using h
  have hb : xe n = nameBytes n := if_neg (by omega)
  rw [hb, he]
  simp only [↓wR, RA, simprocAttr, TF]
  refine kl [13, 14, 15, 5] (fun (x : Nat × List UInt8) => [.vl false 1 (n.map (an.val false)), .sc (.int .i64 n.length), .sc (.int .i64 x.1), .sl 0 0 x.2.length 1]) (fun x => [some (.row (x.2.map (cp.val false)) 0 0 5)]) (fun x => x.2 ++ (n.drop x.1).flatMap mh = n.flatMap mh ∧ x.1 ≤ n.length) (fun x => n.length - x.1) (0, []) ⟨rfl, Nat.zero_le _⟩ (by simp only [↓wR, RA, simprocAttr, TF]; (refine nj.lax [] (by first | exact Nat.le_of_ble_eq_true rfl | (simp [cq]; omega)) ?_ ?_ <;> repeat' first | exact i7.nil | exact dn.nil | exact je.same _ | exact je.nil _ _ _ | exact je.wm _ _ | exact dn.refl _ _ | apply i7.cons | apply dn.ghost | apply dn.same | apply dn.row)) ?_
  rintro ⟨i, x⟩ ⟨hR, hx⟩
  simp only at hR hx
  have hnb := Ja n
  have hsm := Jp he
  simp only [↓wR, RA, simprocAttr, TF]
  rw [bk]; refine ⟨fun h2 => ?_, fun h2 => ?_⟩
  · obtain ⟨c, hc, hd, hlt⟩ := dt h2
    rw [hd, List.flatMap_cons] at hR
    have hl : x.length + (mh c).length ≤ (n.flatMap mh).length := by rw [← hR]; simp
    rw [Hc] at hl
    simp only [↓wR, RA, simprocAttr, TF, hc]; repeat (simp (disch := omega) only [ah, ca, cb, bz, b9]; try simp only [↓wR, RA, simprocAttr, TF, hc])
    refine ⟨(i + 1, x ++ mh c), ⟨by rw [← hR]; simp, hlt⟩, by simp; omega, ?_, by simp only [mh, List.map_append, List.map_cons, List.append_assoc, List.singleton_append, Fw]⟩
    simp only [List.cons.injEq, and_true, true_and, AV.sc.injEq, Value.int.injEq, AV.sl.injEq, mh, List.length_append, List.length_cons]
    refine ⟨by (try simp (disch := omega) only [ah, ca, cb, bz, b9]); simp, by simp; omega⟩
  · rw [dv h2] at hR
    have hl : x.length < br n := by rw [← hnb, ← hR]; simp
    simp only [↓wR, RA, simprocAttr, TF, h2]; repeat (simp (disch := omega) only [ah, ca, cb, bz, b9]; try simp only [↓wR, RA, simprocAttr, TF, h2])
    simp only [nameBytes, ← hR]; simp
noncomputable def uo (x : Name × Unit) : Option AV := if be x.1 then some ((r2 (cr cp) (aw .i64)).E true ((xe x.1, dp x.1))) else none
set_option maxRecDepth 2000000 in
theorem T6 (x : Name × Unit) (r : AV) (h : uo x = some r) : bf PP 183 ((aC ar a0).E x) r := by
  by_cases hc : be x.1
  case neg => simp only [uo, if_neg hc] at h; cases h
  simp only [uo, if_pos hc] at h
  cases h
  exact ba (ak.cons (ai kb) (ak.nil PP)) Tryz.func183 (by kernel_rfl) (by kernel_rfl) (by kernel_rfl) (Nat.le_of_ble_eq_true (by kernel_rfl)) (r2 (cr cp) (aw .i64)) true ((xe x.1, dp x.1)) (ael x.1 hc)
noncomputable abbrev aln : Nat × Bool × (List AV → M AV) := (183, true, dc (aC ar a0) uo)
end Go.Proofs.YtidomogemfchpaaGreat
end
section
set_option linter.unusedSimpArgs false
set_option linter.unusedVariables false
namespace Go.Proofs.YtidomogemfchpaaGreat
open Go.Vm
set_option maxRecDepth 2000000
theorem Hz {α : Type} {f : α → AV} {xs : List α} (h : xs ≠ []) (op l sz p q) : C4 op (.vl l sz (xs.map f)) (.sc (.slice none p q)) = np op false := by
  cases xs with
  | nil => exact (h rfl).elim
  | cons x xs => rfl
def Kh (v : Value) : Prop := v = .slice none 0 0 ∨ ∃ a c, v = .slice (some a) 0 c
theorem An {f : Nat} {r : AV} {sz : Nat} (h : ∀ v, Kh v → bf PP f [.sc v] r) : bf PP f [.vl false sz []] r := by
  intro K w vs hK hrel
  obtain ⟨v, rfl, hv⟩ := zy hrel
  have hE : Kh v := by
    cases hv with
    | vl => exact .inr ⟨_, _, rfl⟩
    | jx => exact .inl rfl
    | sm => exact .inr ⟨_, _, rfl⟩
  exact h v hE K w [v] hK (bm.cons (.sc v) (bm.nil _ _))
theorem ag6 (l : List UInt32) (hne : l ≠ []) (hl : l.length ≤ 16777216) : wl PP [] 0 (Tryz.f115.body.getD .skip) (dj PP Tryz.f115.results.toList (fun r st => (r1 (cr bn)).get true st.h r = some l)) (bw 0 [(cr bn).val false l]) (bp []) := by
  unfold Tryz.f115
  rw [qa]
  have hb : l.length * 4 ≤ 140737488355328 := by omega
  simp only [↓wR, RA, simprocAttr, TF, Hz hne, hb]
theorem abh (v : Value) (hv : Kh v) : wl PP [] 0 (Tryz.f115.body.getD .skip) (dj PP Tryz.f115.results.toList (fun r st => (r1 (cr bn)).get true st.h r = some [])) (bw 0 [.sc v]) (bp []) := by
  unfold Tryz.f115
  rcases hv with rfl | ⟨a, c, rfl⟩
  · simp only [↓wR, RA, simprocAttr, TF]
  · simp only [↓wR, RA, simprocAttr, TF]
noncomputable def yf (x : List UInt32 × Unit) : Option AV := if x.1.length ≤ 16777216 then some ((r1 (cr bn)).E true x.1) else none
theorem Jf (x : List UInt32 × Unit) (r : AV) (h : yf x = some r) : bf PP 115 ((aC (cr bn) a0).E x) r := by
  by_cases hc : x.1.length ≤ 16777216
  case neg => simp only [yf, if_neg hc] at h; cases h
  simp only [yf, if_pos hc] at h
  cases h
  obtain ⟨l, ⟨⟩⟩ := x
  by_cases hn : l = []
  · subst hn
    exact An (sz := 1) fun v hv => ba (ak.nil PP) Tryz.func115 (by kernel_rfl) (by kernel_rfl) (by kernel_rfl) (Nat.le_of_ble_eq_true (by kernel_rfl)) (r1 (cr bn)) true [] (abh v hv)
  · exact ba (ak.nil PP) Tryz.func115 (by kernel_rfl) (by kernel_rfl) (by kernel_rfl) (Nat.le_of_ble_eq_true (by kernel_rfl)) (r1 (cr bn)) true l (ag6 l hn hc)
noncomputable abbrev abk : Nat × Bool × (List AV → M AV) := (115, true, dc (aC (cr bn) a0) yf)
theorem afs (l : List ByteArray) (hne : l ≠ []) (hl : l.length ≤ 16777216) : wl PP [] 0 (Tryz.f116.body.getD .skip) (dj PP Tryz.f116.results.toList (fun r st => (r1 (cr an)).get true st.h r = some l)) (bw 0 [(cr an).val false l]) (bp []) := by
  unfold Tryz.f116
  rw [qa]
  have hb : l.length * 16 ≤ 140737488355328 := by omega
  simp only [↓wR, RA, simprocAttr, TF, Hz hne, hb]
theorem ad5 (v : Value) (hv : Kh v) : wl PP [] 0 (Tryz.f116.body.getD .skip) (dj PP Tryz.f116.results.toList (fun r st => (r1 (cr an)).get true st.h r = some [])) (bw 0 [.sc v]) (bp []) := by
  unfold Tryz.f116
  rcases hv with rfl | ⟨a, c, rfl⟩
  · simp only [↓wR, RA, simprocAttr, TF]
  · simp only [↓wR, RA, simprocAttr, TF]
noncomputable def x8 (x : List ByteArray × Unit) : Option AV := if x.1.length ≤ 16777216 then some ((r1 (cr an)).E true x.1) else none
theorem Jk (x : List ByteArray × Unit) (r : AV) (h : x8 x = some r) : bf PP 116 ((aC (cr an) a0).E x) r := by
  by_cases hc : x.1.length ≤ 16777216
  case neg => simp only [x8, if_neg hc] at h; cases h
  simp only [x8, if_pos hc] at h
  cases h
  obtain ⟨l, ⟨⟩⟩ := x
  by_cases hn : l = []
  · subst hn
    exact An (sz := 1) fun v hv => ba (ak.nil PP) Tryz.func116 (by kernel_rfl) (by kernel_rfl) (by kernel_rfl) (Nat.le_of_ble_eq_true (by kernel_rfl)) (r1 (cr an)) true [] (ad5 v hv)
  · exact ba (ak.nil PP) Tryz.func116 (by kernel_rfl) (by kernel_rfl) (by kernel_rfl) (Nat.le_of_ble_eq_true (by kernel_rfl)) (r1 (cr an)) true l (afs l hn hc)
noncomputable abbrev adj : Nat × Bool × (List AV → M AV) := (116, true, dc (aC (cr an) a0) x8)
theorem al5 (l : List UInt8) (hne : l ≠ []) (hl : l.length ≤ 16777216) : wl PP [] 0 (Tryz.f117.body.getD .skip) (dj PP Tryz.f117.results.toList (fun r st => (r1 (cr cp)).get true st.h r = some l)) (bw 0 [(cr cp).val false l]) (bp []) := by
  unfold Tryz.f117
  rw [qa]
  have hb : l.length ≤ 140737488355328 := by omega
  simp only [↓wR, RA, simprocAttr, TF, Hz hne, hb]
theorem agu (v : Value) (hv : Kh v) : wl PP [] 0 (Tryz.f117.body.getD .skip) (dj PP Tryz.f117.results.toList (fun r st => (r1 (cr cp)).get true st.h r = some [])) (bw 0 [.sc v]) (bp []) := by
  unfold Tryz.f117
  rcases hv with rfl | ⟨a, c, rfl⟩
  · simp only [↓wR, RA, simprocAttr, TF]
  · simp only [↓wR, RA, simprocAttr, TF]
noncomputable def Az (x : List UInt8 × Unit) : Option AV := if x.1.length ≤ 16777216 then some ((r1 (cr cp)).E true x.1) else none
theorem Lt (x : List UInt8 × Unit) (r : AV) (h : Az x = some r) : bf PP 117 ((aC (cr cp) a0).E x) r := by
  by_cases hc : x.1.length ≤ 16777216
  case neg => simp only [Az, if_neg hc] at h; cases h
  simp only [Az, if_pos hc] at h
  cases h
  obtain ⟨l, ⟨⟩⟩ := x
  by_cases hn : l = []
  · subst hn
    exact An (sz := 1) fun v hv => ba (ak.nil PP) Tryz.func117 (by kernel_rfl) (by kernel_rfl) (by kernel_rfl) (Nat.le_of_ble_eq_true (by kernel_rfl)) (r1 (cr cp)) true [] (agu v hv)
  · exact ba (ak.nil PP) Tryz.func117 (by kernel_rfl) (by kernel_rfl) (by kernel_rfl) (Nat.le_of_ble_eq_true (by kernel_rfl)) (r1 (cr cp)) true l (al5 l hn hc)
noncomputable abbrev ait : Nat × Bool × (List AV → M AV) := (117, true, dc (aC (cr cp) a0) Az)
end Go.Proofs.YtidomogemfchpaaGreat
end
section
set_option linter.unusedSimpArgs false
set_option linter.unusedVariables false
namespace Go.Proofs.YtidomogemfchpaaGreat
open Go.Vm
set_option maxRecDepth 2000000
structure Shape where
  names : Int
  nums : Int
  size : Int
  texts : Int
  raw : Int
noncomputable def tl : dg Shape := vr (jk (aw .i64) (jk (aw .i64) (jk (aw .i64) (jk (aw .i64) (aw .i64))))) (fun s => (s.names, s.nums, s.size, s.texts, s.raw)) (fun p => ⟨p.1, p.2.1, p.2.2.1, p.2.2.2.1, p.2.2.2.2⟩) (fun _ => rfl) (fun _ => rfl)
theorem El (l : Bool) (s : Shape) : tl.val l s = .agg [.sc (.int .i64 s.names), .sc (.int .i64 s.nums), .sc (.int .i64 s.size), .sc (.int .i64 s.texts), .sc (.int .i64 s.raw)] := id rfl
theorem j3 (fr h) (a b c d e : Int) : tl.fo fr h (.agg [.sc (.int .i64 a), .sc (.int .i64 b), .sc (.int .i64 c), .sc (.int .i64 d), .sc (.int .i64 e)]) = some ⟨a, b, c, d, e⟩ := azv tl fr h ⟨a, b, c, d, e⟩
def jd (t : UInt16) : Shape :=
  if (t.toNat : Int) = 1 then ⟨0, 0, 0, 0, 4⟩ else if (t.toNat : Int) = 28 then ⟨0, 0, 0, 0, 16⟩ else if (t.toNat : Int) = 2 then ⟨1, 0, 0, 0, 0⟩ else if (t.toNat : Int) = 5 then ⟨1, 0, 0, 0, 0⟩ else if (t.toNat : Int) = 12 then ⟨1, 0, 0, 0, 0⟩
  else if (t.toNat : Int) = 6 then ⟨2, 5, 4, 0, 0⟩ else if (t.toNat : Int) = 15 then ⟨1, 1, 2, 0, 0⟩ else if (t.toNat : Int) = 33 then ⟨1, 3, 2, 0, 0⟩ else if (t.toNat : Int) = 16 then ⟨0, 0, 0, -1, 0⟩ else if (t.toNat : Int) = 257 then ⟨0, 1, 1, 2, 0⟩ else ⟨0, 0, 0, 0, -1⟩
theorem apg (t : UInt16) : wl PP [] 0 (Tryz.f159.body.getD .skip) (dj PP Tryz.f159.results.toList (fun r st => (r1 tl).get true st.h r = some (jd t))) (bw 0 [c8.val false t]) (bp []) := by
  unfold Tryz.f159
  unfold jd
  simp only [↓wR, RA, simprocAttr, TF]
  rw [cy]; refine ⟨fun ⟨h0, e0⟩ => ?_, fun ⟨h0, e0⟩ => ?_⟩
  · simp only [↓wR, RA, simprocAttr, TF, h0]
    rw [if_pos e0]
    exact j3 ..
  rw [if_neg e0]
  simp only [↓wR, RA, simprocAttr, TF, h0]
  rw [cy]; refine ⟨fun ⟨h1, e1⟩ => ?_, fun ⟨h1, e1⟩ => ?_⟩
  · simp only [↓wR, RA, simprocAttr, TF, h1]
    rw [if_pos e1]
    exact j3 ..
  rw [if_neg e1]
  simp only [↓wR, RA, simprocAttr, TF, h1]
  rw [cy]; refine ⟨fun ⟨h2, e2⟩ => ?_, fun ⟨h2, e2⟩ => ?_⟩
  · simp only [↓wR, RA, simprocAttr, TF, h2]
    rw [if_pos e2]
    exact j3 ..
  rw [if_neg e2]
  simp only [↓wR, RA, simprocAttr, TF, h2]
  rw [cy]; refine ⟨fun ⟨h3, e3⟩ => ?_, fun ⟨h3, e3⟩ => ?_⟩
  · simp only [↓wR, RA, simprocAttr, TF, h3]
    rw [if_pos e3]
    exact j3 ..
  rw [if_neg e3]
  simp only [↓wR, RA, simprocAttr, TF, h3]
  rw [cy]; refine ⟨fun ⟨h4, e4⟩ => ?_, fun ⟨h4, e4⟩ => ?_⟩
  · simp only [↓wR, RA, simprocAttr, TF, h4]
    rw [if_pos e4]
    exact j3 ..
  rw [if_neg e4]
  simp only [↓wR, RA, simprocAttr, TF, h4]
  rw [cy]; refine ⟨fun ⟨h5, e5⟩ => ?_, fun ⟨h5, e5⟩ => ?_⟩
  · simp only [↓wR, RA, simprocAttr, TF, h5]
    rw [if_pos e5]
    exact j3 ..
  rw [if_neg e5]
  simp only [↓wR, RA, simprocAttr, TF, h5]
  rw [cy]; refine ⟨fun ⟨h6, e6⟩ => ?_, fun ⟨h6, e6⟩ => ?_⟩
  · simp only [↓wR, RA, simprocAttr, TF, h6]
    rw [if_pos e6]
    exact j3 ..
  rw [if_neg e6]
  simp only [↓wR, RA, simprocAttr, TF, h6]
  rw [cy]; refine ⟨fun ⟨h7, e7⟩ => ?_, fun ⟨h7, e7⟩ => ?_⟩
  · simp only [↓wR, RA, simprocAttr, TF, h7]
    rw [if_pos e7]
    exact j3 ..
  rw [if_neg e7]
  simp only [↓wR, RA, simprocAttr, TF, h7]
  rw [cy]; refine ⟨fun ⟨h8, e8⟩ => ?_, fun ⟨h8, e8⟩ => ?_⟩
  · simp only [↓wR, RA, simprocAttr, TF, h8]
    rw [if_pos e8]
    exact j3 ..
  rw [if_neg e8]
  simp only [↓wR, RA, simprocAttr, TF, h8]
  rw [cy]; refine ⟨fun ⟨h9, e9⟩ => ?_, fun ⟨h9, e9⟩ => ?_⟩
  · simp only [↓wR, RA, simprocAttr, TF, h9]
    rw [if_pos e9]
    exact j3 ..
  rw [if_neg e9]
  simp only [↓wR, RA, simprocAttr, TF, h9]
  exact j3 ..
noncomputable def D5 (x : UInt16 × Unit) : Option AV := some ((r1 tl).E true (jd x.1))
set_option maxRecDepth 2000000 in
theorem Dq (x : UInt16 × Unit) (r : AV) (h : D5 x = some r) : bf PP 159 ((aC c8 a0).E x) r := by
  cases h
  exact ba (ak.nil PP) Tryz.func159 (by kernel_rfl) (by kernel_rfl) (by kernel_rfl) (Nat.le_of_ble_eq_true (by kernel_rfl)) (r1 tl) true (jd x.1) (apg x.1)
noncomputable abbrev V8 : Nat × Bool × (List AV → M AV) := (159, true, dc (aC c8 a0) D5)
def G0 (t : UInt16) : Bool := (t.toNat : Int) == 0 || (decide ((128 : Int) ≤ (t.toNat : Int)) && decide ((t.toNat : Int) ≤ 255))
theorem am6 (t : UInt16) : wl PP [] 0 (Tryz.f158.body.getD .skip) (dj PP Tryz.f158.results.toList (fun r st => (r1 bt).get true st.h r = some (G0 t))) (bw 0 [c8.val false t]) (bp []) := by
  unfold Tryz.f158
  unfold G0
  simp only [↓wR, RA, simprocAttr, TF]
  rw [cy]; refine ⟨fun ⟨h, e⟩ => ?_, fun ⟨h, e⟩ => ?_⟩
  · simp only [↓wR, RA, simprocAttr, TF, h]
  · simp only [↓wR, RA, simprocAttr, TF, h]
    rw [bj]; refine ⟨fun h2 => ?_, fun h2 => ?_⟩
    · simp only [↓wR, RA, simprocAttr, TF, h2]
    · simp only [↓wR, RA, simprocAttr, TF, h2]
      rfl
noncomputable def V9 (x : UInt16 × Unit) : Option AV := some ((r1 bt).E true (G0 x.1))
set_option maxRecDepth 2000000 in
theorem af9 (x : UInt16 × Unit) (r : AV) (h : V9 x = some r) : bf PP 158 ((aC c8 a0).E x) r := by
  cases h
  exact ba (ak.nil PP) Tryz.func158 (by kernel_rfl) (by kernel_rfl) (by kernel_rfl) (Nat.le_of_ble_eq_true (by kernel_rfl)) (r1 bt) true (G0 x.1) (am6 x.1)
noncomputable abbrev awr : Nat × Bool × (List AV → M AV) := (158, true, dc (aC c8 a0) V9)
noncomputable def E5 (n : UInt32) : List UInt8 := [UInt8.ofNat (n.toNat / 16777216), UInt8.ofNat (n.toNat / 65536), UInt8.ofNat (n.toNat / 256), UInt8.ofNat n.toNat]
theorem ar9 (n : UInt32) : wl PP [] 0 (Tryz.f182.body.getD .skip) (dj PP Tryz.f182.results.toList (fun r st => (r1 (cr cp)).get true st.h r = some (E5 n))) (bw 0 [bn.val false n]) (bp []) := by
  unfold Tryz.f182
  simp only [↓wR, RA, simprocAttr, TF]
  rfl
noncomputable def Np (x : UInt32 × Unit) : Option AV := some ((r1 (cr cp)).E true (E5 x.1))
set_option maxRecDepth 2000000 in
theorem agb (x : UInt32 × Unit) (r : AV) (h : Np x = some r) : bf PP 182 ((aC bn a0).E x) r := by
  cases h
  exact ba (ak.nil PP) Tryz.func182 (by kernel_rfl) (by kernel_rfl) (by kernel_rfl) (Nat.le_of_ble_eq_true (by kernel_rfl)) (r1 (cr cp)) true (E5 x.1) (ar9 x.1)
noncomputable abbrev axv : Nat × Bool × (List AV → M AV) := (182, true, dc (aC bn a0) Np)
def Qy (c : UInt8) : Bool := decide (97 ≤ c.toNat ∧ c.toNat ≤ 122 ∨ 65 ≤ c.toNat ∧ c.toNat ≤ 90 ∨ 48 ≤ c.toNat ∧ c.toNat ≤ 57)
def Mq (s : ByteArray) : Bool := s.data.toList.all Qy && decide (1 ≤ s.size ∧ s.size ≤ 15)
theorem axo (s : ByteArray) (hs : s.size ≤ 16777216) : wl PP [] 0 (Tryz.f179.body.getD .skip) (dj PP Tryz.f179.results.toList (fun r st => (r1 bt).get true st.h r = some (Mq s))) (bw 0 [an.val false s]) (bp []) := by
  unfold Tryz.f179
  simp only [↓wR, RA, simprocAttr, TF]
  refine dh [0, 6, 7] (fun (i : Nat) => [.sc (.string s), .sc (.int .i64 s.size), .sc (.int .i64 i)]) (fun _ => []) (fun i => i ≤ s.size ∧ s.data.toList.all Qy = (s.data.toList.drop i).all Qy) (fun i => s.size - i) 0 ⟨Nat.zero_le _, rfl⟩ ?_ ?_ ?_
  · simp only [↓wR, RA, simprocAttr, TF] <;> rfl
  · simp only [↓wR, RA, simprocAttr, TF]
  rintro i ⟨hi, hR⟩
  simp only [↓wR, RA, simprocAttr, TF]
  rw [bj]; refine ⟨fun h => ?_, fun h => ?_⟩
  · obtain ⟨c, hc⟩ : ∃ c, s.data.toList[i]? = some c := ⟨_, List.getElem?_eq_getElem (by simp; omega)⟩
    have hd := Hp hc
    rw [hd, List.all_cons] at hR
    simp only [↓wR, RA, simprocAttr, TF, h, hc]; repeat (simp (disch := omega) only [ah, ca, cb, bz, b9]; try simp only [↓wR, RA, simprocAttr, TF, h, hc])
    repeat' (rw [bj]; refine ⟨fun h => ?_, fun h => ?_⟩ <;> simp only [↓wR, RA, simprocAttr, TF, h, hc])
    all_goals first
      | (have ht : Qy c = false := by (unfold Qy; rw [decide_eq_false_iff_not]; omega)
         rw [Mq, hR, ht]; rfl)
      | (have ht : Qy c = true := by (unfold Qy; rw [decide_eq_true_eq]; omega)
         refine ⟨i + 1, ⟨by omega, by rw [hR, ht]; simp⟩, by omega, by (first | rfl | trivial | omega | ((try (simp (disch := omega) only [ah])); (try (simp only [FB])); first | done | rfl | omega))⟩)
  · have hdn : s.data.toList.drop i = [] := List.drop_eq_nil_of_le (by simp; omega)
    rw [hdn, List.all_nil] at hR
    simp only [↓wR, RA, simprocAttr, TF, h]
    unfold Mq
    rw [hR]
    rw [bj]; refine ⟨fun h1 => ?_, fun h1 => ?_⟩
    · simp only [↓wR, RA, simprocAttr, TF, h1]
      congr 1
      rw [Bool.eq_iff_iff]; simp; omega
    · simp only [↓wR, RA, simprocAttr, TF, h1]
      congr 1
      rw [Bool.eq_iff_iff]; simp; omega
noncomputable def Sr (x : ByteArray × Unit) : Option AV := if x.1.size ≤ 16777216 then some ((r1 bt).E true (Mq x.1)) else none
set_option maxRecDepth 2000000 in
theorem apo (x : ByteArray × Unit) (r : AV) (h : Sr x = some r) : bf PP 179 ((aC an a0).E x) r := by
  by_cases hc : x.1.size ≤ 16777216
  case neg => simp only [Sr, if_neg hc] at h; cases h
  simp only [Sr, if_pos hc] at h
  cases h
  exact ba (ak.nil PP) Tryz.func179 (by kernel_rfl) (by kernel_rfl) (by kernel_rfl) (Nat.le_of_ble_eq_true (by kernel_rfl)) (r1 bt) true (Mq x.1) (axo x.1 hc)
noncomputable abbrev azy : Nat × Bool × (List AV → M AV) := (179, true, dc (aC an a0) Sr)
end Go.Proofs.YtidomogemfchpaaGreat
end
section
set_option linter.unusedSimpArgs false
set_option linter.unusedVariables false
namespace Go.Proofs.YtidomogemfchpaaGreat
open Go.Vm
set_option maxRecDepth 2000000
def fu {α : Type} (f : α → Nat) (l : List α) : Nat := l.foldr (fun x k => f x + k + 1) 0
def uc (d : c7) : Nat := fu br d.names + d.nums.length + fu ByteArray.size d.texts + d.raw.length
theorem r9 {α : Type} {f : α → Nat} {l : List α} {x : α} (h : x ∈ l) : f x < fu f l := by
  induction l with
  | nil => cases h
  | cons a l ih =>
    simp only [fu, List.foldr_cons] at ih ⊢
    rcases List.mem_cons.1 h with rfl | h
    · omega
    · have := ih h; omega
theorem ql {α : Type} (f : α → Nat) (l : List α) : l.length ≤ fu f l := by
  induction l with
  | nil => exact Nat.le_refl _
  | cons a l ih => simp only [fu, List.foldr_cons, List.length_cons] at ih ⊢; omega
def dx (d : c7) : Prop := uc d ≤ 16777216
instance (d : c7) : Decidable (dx d) := inferInstanceAs (Decidable (_ ≤ _))
theorem dx.name {d : c7} (h : dx d) : ∀ n ∈ d.names, be n := fun n hn => by
  have h1 : br n < fu br d.names := r9 hn
  unfold dx uc at h; unfold be; omega
theorem dx.text {d : c7} (h : dx d) : ∀ s ∈ d.texts, s.size ≤ 16777216 := fun s hs => by
  have h1 : ByteArray.size s < fu ByteArray.size d.texts := r9 hs
  unfold dx uc at h; omega
theorem dx.lens {d : c7} (h : dx d) : d.names.length ≤ 16777216 ∧ d.nums.length ≤ 16777216 ∧ d.texts.length ≤ 16777216 ∧ d.raw.length ≤ 16777216 := by
  have h1 := ql br d.names
  have h2 := ql ByteArray.size d.texts
  unfold dx uc at h; omega
noncomputable def Na (s : Shape) : Int := IntKind.u32.wrap (1 * 2 ^ (if (8 * s.size).toNat ≤ 32 then (8 * s.size).toNat else 32))
noncomputable def yy (s : Shape) (t : UInt16) (d : c7) : Bool :=
  if (d.names.length : Int) ≠ s.names ∨ (d.nums.length : Int) ≠ s.nums ∨ (0 ≤ s.raw ∧ (d.raw.length : Int) ≠ s.raw) then false
  else if s.size < 4 ∧ (d.nums.any fun n => decide (Na s ≤ (n.toNat : Int))) = true then false
  else if (t.toNat : Int) = 257 then decide (d.texts.length = 2) && Mq (d.texts.headD ⟨#[]⟩)
  else if s.texts = 0 then decide (d.texts.length = 0)
  else decide (0 < d.texts.length) && !(d.texts.any fun x => decide (255 < x.size))
noncomputable def Rh (s : Shape) (t : UInt16) (d : c7) : Bool :=
  if s.size < 4 ∧ (d.nums.any fun n => decide (Na s ≤ (n.toNat : Int))) = true then false
  else if (t.toNat : Int) = 257 then decide (d.texts.length = 2) && Mq (d.texts.headD ⟨#[]⟩)
  else if s.texts = 0 then decide (d.texts.length = 0)
  else decide (0 < d.texts.length) && !(d.texts.any fun x => decide (255 < x.size))
theorem au1 (s : Shape) (t : UInt16) (d : c7) (hs : 0 ≤ s.size ∧ s.size ≤ 4) (hd : dx d) : wl PP [azy] 0 (Tryz.f160.body.getD .skip) (dj PP Tryz.f160.results.toList (fun r st => (r1 bt).get true st.h r = some (yy s t d))) (bw 0 [tl.val false s, c8.val false t, cd.val false d]) (bp []) := by
  unfold Tryz.f160
  obtain ⟨l1, l2, l3, l4⟩ := hd.lens
  simp only [El, mc, di]
  simp only [↓wR, RA, simprocAttr, TF]
  rw [g9]; refine ⟨fun ⟨h, e⟩ => ?_, fun ⟨h, e⟩ => ?_⟩
  · have hv : yy s t d = false := if_pos (.inl e)
    simp only [↓wR, RA, simprocAttr, TF, h, hv]
  simp only [↓wR, RA, simprocAttr, TF, h]
  rw [g9]; refine ⟨fun ⟨h2, e2⟩ => ?_, fun ⟨h2, e2⟩ => ?_⟩
  · have hv : yy s t d = false := if_pos (.inr (.inl e2))
    simp only [↓wR, RA, simprocAttr, TF, h2, hv]
  simp only [↓wR, RA, simprocAttr, TF, h2]
  have hraw : ¬ (0 ≤ s.raw ∧ (d.raw.length : Int) ≠ s.raw) → yy s t d = Rh s t d := fun hr => if_neg (fun h => by
    rcases h with h | h | h
    · exact h e
    · exact h e2
    · exact hr h)
  rw [bj]; refine ⟨fun h3 => ?_, fun h3 => ?_⟩
  simp only [↓wR, RA, simprocAttr, TF, h3]
  rw [g9]; refine ⟨fun ⟨h4, e4⟩ => ?_, fun ⟨h4, e4⟩ => ?_⟩
  have hv : yy s t d = false := if_pos (.inr (.inr ⟨h3, e4⟩))
  simp only [↓wR, RA, simprocAttr, TF, h4, hv]
  rw [hraw (fun q => q.2 e4)]
  simp only [↓wR, RA, simprocAttr, TF, h4]
  rotate_left
  rw [hraw (fun q => h3 q.1)]
  simp only [↓wR, RA, simprocAttr, TF, h3]
  all_goals
    clear hraw
    refine dh [1, 3, 5, 37, 38, 39] (fun (i : Nat) => [.sc (.int .u16 t.toNat), .ptr 0 0, .ptr 1 0, .vl false 1 (d.nums.map (bn.val false)), .sc (.int .i64 d.nums.length), .sc (.int .i64 i)]) (fun _ => [some (.row [.sc (.int .i64 s.names), .sc (.int .i64 s.nums), .sc (.int .i64 s.size), .sc (.int .i64 s.texts), .sc (.int .i64 s.raw)] 0 2 214), some (.row [.vl false 1 (d.names.map (ar.val false)), .vl false 1 (d.nums.map (bn.val false)), .vl false 1 (d.texts.map (an.val false)), .vl false 1 (d.raw.map (cp.val false))] 0 2 83)]) (fun i => i ≤ d.nums.length ∧ (s.size < 4 → (d.nums.any fun n => decide (Na s ≤ (n.toNat : Int))) = ((d.nums.drop i).any fun n => decide (Na s ≤ (n.toNat : Int))))) (fun i => d.nums.length - i) 0 ⟨Nat.zero_le _, fun _ => rfl⟩ (by simp only [↓wR, RA, simprocAttr, TF] <;> rfl) (by simp only [↓wR, RA, simprocAttr, TF] <;> rfl) ?_
    clear h h2 e e2
    rintro i ⟨hi, hR⟩
    simp only [↓wR, RA, simprocAttr, TF]
    rw [bj]; refine ⟨fun h => ?_, fun h => ?_⟩
    · obtain ⟨c, hc, hd1, hlt⟩ := dt (decide_eq_true h)
      rw [hd1, List.any_cons] at hR
      simp only [↓wR, RA, simprocAttr, TF, h, hc]
      rw [bj]; refine ⟨fun h5 => ?_, fun h5 => ?_⟩
      · have hR := hR h5
        have h80 : (0 : Int) ≤ 8 * s.size := by omega
        simp only [↓wR, RA, simprocAttr, TF, h5, h80]; repeat (simp (disch := omega) only [ah, ca, cb, bz, b9]; try simp only [↓wR, RA, simprocAttr, TF, h5, h80])
        rw [bj]; refine ⟨fun h6 => ?_, fun h6 => ?_⟩
        · have hv : Rh s t d = false := by
            rw [Rh, if_pos ⟨h5, by rw [hR, decide_eq_true (show Na s ≤ (c.toNat : Int) from h6)]; rfl⟩]
          simp only [↓wR, RA, simprocAttr, TF, h6, hv]
        · simp only [↓wR, RA, simprocAttr, TF, h6]; repeat (simp (disch := omega) only [ah, ca, cb, bz, b9]; try simp only [↓wR, RA, simprocAttr, TF, h6])
          refine ⟨i + 1, ⟨hlt, fun _ => ?_⟩, by omega, by (first | rfl | trivial | omega | ((try (simp (disch := omega) only [ah])); (try (simp only [FB])); first | done | rfl | omega))⟩
          rw [hR, decide_eq_false (show ¬ Na s ≤ (c.toNat : Int) from h6), Bool.false_or]
      · simp only [↓wR, RA, simprocAttr, TF, h5]; repeat (simp (disch := omega) only [ah, ca, cb, bz, b9]; try simp only [↓wR, RA, simprocAttr, TF, h5])
        exact ⟨i + 1, ⟨hlt, fun h => h.elim⟩, by omega, by (first | rfl | trivial | omega | ((try (simp (disch := omega) only [ah])); (try (simp only [FB])); first | done | rfl | omega))⟩
    · rw [dv (decide_eq_false h), List.any_nil] at hR
      have hr : Rh s t d = if (t.toNat : Int) = 257 then decide (d.texts.length = 2) && Mq (d.texts.headD ⟨#[]⟩) else if s.texts = 0 then decide (d.texts.length = 0) else decide (0 < d.texts.length) && !(d.texts.any fun x => decide (255 < x.size)) := by
        rw [Rh, if_neg]; rintro ⟨q1, q2⟩; rw [hR q1] at q2; cases q2
      simp only [↓wR, RA, simprocAttr, TF, h]
      rw [cy]; refine ⟨fun ⟨h6, e6⟩ => ?_, fun ⟨h6, e6⟩ => ?_⟩
      · rw [if_pos e6] at hr
        simp only [↓wR, RA, simprocAttr, TF, h6]
        rw [cy]; refine ⟨fun ⟨h7, e7⟩ => ?_, fun ⟨h7, e7⟩ => ?_⟩
        · obtain ⟨c, hc⟩ : ∃ c, d.texts[0]? = some c := ⟨_, List.getElem?_eq_getElem (by omega)⟩
          have hh : d.texts.headD ⟨#[]⟩ = c := by
            cases ht : d.texts with
            | nil => rw [ht] at hc; cases hc
            | cons a l => rw [ht] at hc; simpa using hc
          rw [hh, decide_eq_true (show d.texts.length = 2 by omega)] at hr
          simp only [↓wR, RA, simprocAttr, TF, h7, hc, Sr, hd.text c (List.mem_of_getElem? hc)]
          rw [hr]; rfl
        · simp only [↓wR, RA, simprocAttr, TF, h7]
          rw [hr, decide_eq_false (show ¬ d.texts.length = 2 by omega)]; rfl
      · rw [if_neg e6] at hr
        simp only [↓wR, RA, simprocAttr, TF, h6]
        rw [cy]; refine ⟨fun ⟨h7, e7⟩ => ?_, fun ⟨h7, e7⟩ => ?_⟩
        · rw [if_pos e7] at hr
          simp only [↓wR, RA, simprocAttr, TF, h7]
          rw [hr]; congr 1
          rw [Bool.eq_iff_iff]; simp
        · rw [if_neg e7] at hr
          simp only [↓wR, RA, simprocAttr, TF, h7]
          rw [bj]; refine ⟨fun h8 => ?_, fun h8 => ?_⟩
          · simp only [↓wR, RA, simprocAttr, TF, h8]
            refine bq (T := []) (ak.nil PP) mixed Tryz.func180 rfl (by kernel_rfl) (by kernel_rfl) (by kernel_rfl) (by kernel_rfl) ?_; unfold Tryz.f180
            simp only [↓wR, RA, simprocAttr, TF]
            refine bq (T := []) (ak.nil PP) mixed Tryz.func192 rfl (by kernel_rfl) (by kernel_rfl) (by kernel_rfl) (by kernel_rfl) ?_; unfold Tryz.f192
            simp only [↓wR, RA, simprocAttr, TF]
            refine dh [0, 1, 7, 8] (fun (i : Nat) => [.vl false 1 (d.texts.map (an.val false)), .sc (.func (.func 181) #[] #[]), .sc (.int .i64 d.texts.length), .sc (.int .i64 i)]) (fun _ => [some (.row [.sc (.int .i64 s.names), .sc (.int .i64 s.nums), .sc (.int .i64 s.size), .sc (.int .i64 s.texts), .sc (.int .i64 s.raw)] 0 2 214), some (.row [.vl false 1 (d.names.map (ar.val false)), .vl false 1 (d.nums.map (bn.val false)), .vl false 1 (d.texts.map (an.val false)), .vl false 1 (d.raw.map (cp.val false))] 0 2 83)]) (fun i => i ≤ d.texts.length ∧ (d.texts.any fun x => decide (255 < x.size)) = ((d.texts.drop i).any fun x => decide (255 < x.size))) (fun i => d.texts.length - i) 0 ⟨Nat.zero_le _, rfl⟩ (by simp only [↓wR, RA, simprocAttr, TF] <;> rfl) (by simp only [↓wR, RA, simprocAttr, TF] <;> rfl) ?_
            rintro k ⟨hk, hK⟩
            simp only [↓wR, RA, simprocAttr, TF]
            rw [bj]; refine ⟨fun h9 => ?_, fun h9 => ?_⟩
            · obtain ⟨c, hc, hd1, hlt⟩ := dt (decide_eq_true h9)
              rw [hd1, List.any_cons] at hK
              simp only [↓wR, RA, simprocAttr, TF, h9, hc]; repeat (simp (disch := omega) only [ah, ca, cb, bz, b9]; try simp only [↓wR, RA, simprocAttr, TF, h9, hc])
              refine bq (T := []) (ak.nil PP) mixed Tryz.func181 rfl (by kernel_rfl) (by kernel_rfl) (by kernel_rfl) (by kernel_rfl) ?_; unfold Tryz.f181
              simp only [↓wR, RA, simprocAttr, TF]
              rw [bj]; refine ⟨fun h10 => ?_, fun h10 => ?_⟩
              · simp only [↓wR, RA, simprocAttr, TF, h10]
                rw [hr, hK, decide_eq_true (show 0 < d.texts.length by omega), decide_eq_true (show 255 < c.size by omega)]; rfl
              · simp only [↓wR, RA, simprocAttr, TF, h10]; repeat (simp (disch := omega) only [ah, ca, cb, bz, b9]; try simp only [↓wR, RA, simprocAttr, TF, h10])
                refine ⟨k + 1, ⟨hlt, ?_⟩, by omega, by (first | rfl | trivial | omega | ((try (simp (disch := omega) only [ah])); (try (simp only [FB])); first | done | rfl | omega))⟩
                rw [hK, decide_eq_false (show ¬ 255 < c.size by omega), Bool.false_or]
            · rw [dv (decide_eq_false h9), List.any_nil] at hK
              simp only [↓wR, RA, simprocAttr, TF, h9]
              rw [hr, hK, decide_eq_true (show 0 < d.texts.length by omega)]; rfl
          · simp only [↓wR, RA, simprocAttr, TF, h8]
            rw [hr, decide_eq_false (show ¬ 0 < d.texts.length by omega)]; rfl
theorem Uc (t : UInt16) : 0 ≤ (jd t).size ∧ (jd t).size ≤ 4 := by
  unfold jd
  repeat' split
  all_goals simp
noncomputable def J1 (x : Shape × UInt16 × c7 × Unit) : Option AV := if (0 ≤ x.1.size ∧ x.1.size ≤ 4) ∧ dx x.2.2.1 then some ((r1 bt).E true (yy x.1 x.2.1 x.2.2.1)) else none
set_option maxRecDepth 2000000 in
theorem aj1 (x : Shape × UInt16 × c7 × Unit) (r : AV) (h : J1 x = some r) : bf PP 160 ((aC tl (aC c8 (aC cd a0))).E x) r := by
  by_cases hc : (0 ≤ x.1.size ∧ x.1.size ≤ 4) ∧ dx x.2.2.1
  case neg => simp only [J1, if_neg hc] at h; cases h
  simp only [J1, if_pos hc] at h
  cases h
  exact ba (ak.cons (ai apo) (ak.nil PP)) Tryz.func160 (by kernel_rfl) (by kernel_rfl) (by kernel_rfl) (Nat.le_of_ble_eq_true (by kernel_rfl)) (r1 bt) true (yy x.1 x.2.1 x.2.2.1) (au1 x.1 x.2.1 x.2.2.1 hc.1 hc.2)
noncomputable abbrev ayl : Nat × Bool × (List AV → M AV) := (160, true, dc (aC tl (aC c8 (aC cd a0))) J1)
end Go.Proofs.YtidomogemfchpaaGreat
end
