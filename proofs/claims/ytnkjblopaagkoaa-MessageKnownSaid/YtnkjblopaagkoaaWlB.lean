/- Walks on abstract values: operations in the order of the text, and control. No condition. -/
import Derived.Test.YtnkjblopaagkoaaWlA
namespace Go.Vm
noncomputable section

/-- Slots. -/
def RelSL (g : Gh) (w : World) (nt : Nat) (L : SL) (tmps : Array Value) : Prop := tmps.size = nt ∧ ∀ t, Rel g w (lk L t) (tmps.getD t undef)
theorem RelSL.ext {g w g' w'} (hx : Ext g w g' w') {nt L tmps} (h : RelSL g w nt L tmps) : RelSL g' w' nt L tmps := ⟨h.1, fun t => (h.2 t).ext hx⟩
theorem RelSL.eval {g w nt L} {a : Act} (h : RelSL g w nt L a.tmps) : RelF g w (evL L) a.eval := by
  intro x
  cases x with
  | tmp t => exact h.2 t
  | const v => exact .sc v
  | global g' => exact .sc _
  | func f => exact .sc _
theorem lk_cons (d t : Nat) (v : AV) (r : SL) : lk ((d, v) :: r) t = if d = t then v else lk r t := by
  show (Bool.rec (motive := fun _ => AV) (lk r t) v (Nat.beq d t)) = _
  by_cases h : d = t
  · subst h; rw [Nat.beq_refl, if_pos rfl]
  · rw [if_neg h, beq_no h]
theorem RelSL.put {g w nt L} {a : Act} {dst : Option Tmp} {v : AV} {u : Value} (h : RelSL g w nt L a.tmps) (hv : Rel g w v u) (hd : ∀ d, dst = some d → d < nt) : RelSL g w nt (putL dst v L) (a.put dst u).tmps := by
  cases dst with
  | none => exact h
  | some d =>
    have hd := hd d rfl
    refine ⟨by simp [Act.put, h.1], fun t => ?_⟩
    simp only [putL, lk_cons, Act.put, Array.getD_eq_getD_getElem?, Array.getElem?_setIfInBounds]
    by_cases e : d = t
    · subst e; rw [if_pos rfl, if_pos rfl, if_pos (by rw [h.1]; exact hd)]; exact hv
    · rw [if_neg e, if_neg e, ← Array.getD_eq_getD_getElem?]; exact h.2 t

/-- What a walk leaves as it was. -/
structure BaseP where
  b0 : Nat
  w : World
  K : Nat → Nat → Prop
  O : Nat → Prop
  pin : Nat
  pb : Nat → Option (Nat × Nat)
  far : Nat → Prop := fun _ => False
  n0 : Nat
  D : List Deferred := []
structure Base (B : BaseP) (g : Gh) (h : Tr AObj) (w : World) : Prop where
  b0 : g.b0 = B.b0
  pins : ∀ o, (o < B.pin ∨ B.far o) → g.inj o = B.pb o
  K : ∀ b j, B.K b j → g.K b j
  cell : ∀ b j, B.K b j → w.cell? ⟨b, j, none⟩ = B.w.cell? ⟨b, j, none⟩
  size : B.w.heap.size ≤ w.heap.size
  os : w.os = B.w.os
  tape : w.tape = B.w.tape
  output : w.output = B.w.output
  frame : ∀ b, b < B.w.heap.size → ¬ B.O b → w.heap[b]? = B.w.heap[b]?
  own : ∀ o b base, (h.get o).isSome = true → g.inj o = some (b, base) → B.w.heap.size ≤ b ∨ B.O b
  Kold : ∀ b j, g.K b j → B.K b j ∨ B.w.heap.size ≤ b ∨ B.O b
  blk : ∀ (b : Nat) (cs : Array Value) (e : TypeId) (fr : Nat × Nat), B.w.heap[b]? = some (Obj.cells cs e fr) → ∃ (cs' : Array Value) (fr' : Nat × Nat), w.heap[b]? = some (Obj.cells cs' e fr') ∧ cs'.size = cs.size
  lp : ∀ (b : Nat) (l : Loop), B.w.heap[b]? = some (Obj.loop l) → ∃ l', w.heap[b]? = some (Obj.loop l')
structure Cur (B : BaseP) (g : Gh) (st : St) (w : World) : Prop where
  ok : Ok g st.h w
  fresh : ∀ o, st.nx ≤ o → ¬ B.far o → g.inj o = none
  base : Base B g st.h w
  pin : B.pin ≤ st.nx
/-- Names that are no concern of a walk's are none of these. -/
def BaseP.Near (B : BaseP) (n n' : Nat) : Prop := ∀ o, n ≤ o → o < n' → ¬ B.far o
theorem BaseP.Near.sub {B : BaseP} {n n' m m' : Nat} (h : B.Near n n') (h1 : n ≤ m) (h2 : m' ≤ n') : B.Near m m' := fun o a b => h o (by omega) (by omega)
def BaseP.NoFar (B : BaseP) : Prop := ∀ o, ¬ B.far o
theorem BaseP.NoFar.near {B : BaseP} (h : B.NoFar) (n n' : Nat) : B.Near n n' := fun o _ _ => h o
theorem Cur.free {B g st st' w} (h : Cur B g st w) (hn : B.Near st.nx st'.nx) : Free g st st' := fun o h1 h2 => h.fresh o h1 (hn o h1 h2)
theorem Cur.step {B g st w g' st' w'} (h : Cur B g st w) (hn : B.Near st.nx st'.nx) (s : Stp g st w g' st' w') (hok : Ok g' st'.h w') : Cur B g' st' w' := by
  refine ⟨hok, fun o h1 h2 => s.step.fresh o (h.fresh o (Nat.le_trans s.le h1) h2) (by omega), ?_, Nat.le_trans h.pin s.le⟩
  have b := h.base
  have t := s.step
  refine ⟨t.ext.b0.trans b.b0, fun o ho => ?_, fun c j hc => t.ext.K c j (b.K c j hc), fun c j hc => (t.ext.cell c j (b.K c j hc)).trans (b.cell c j hc), Nat.le_trans b.size t.size, t.os.trans b.os, t.tape.trans b.tape, t.output.trans b.output, fun c hc hO => ?_, fun o c base ho hi => ?_, fun c j hc => ?_, fun c cs e fr h => ?_, fun c l h => ?_⟩
  · have h1 := b.pins o ho
    have h2 := h.pin
    cases hp : B.pb o with
    | none =>
      rw [hp] at h1
      refine t.fresh o h1 (fun hr => ?_)
      rcases ho with ho | ho
      · omega
      · exact hn o hr.1 hr.2 ho
    | some p => rw [hp] at h1; exact t.ext.inj o p h1
  · rw [t.frame c (Nat.lt_of_lt_of_le hc b.size) (fun o base ho hi => ?_)]
    · exact b.frame c hc hO
    · rcases b.own o c base ho hi with h1 | h1
      · omega
      · exact hO h1
  · rcases t.own o c base ho hi with h1 | ⟨o', base', h1, h2⟩
    · exact .inl (Nat.le_trans b.size h1)
    · exact b.own o' c base' h1 h2
  · rcases t.Kold c j hc with h1 | h1 | ⟨o', base', h1, h2⟩
    · exact b.Kold c j h1
    · exact .inr (.inl (Nat.le_trans b.size h1))
    · exact .inr (b.own o' c base' h1 h2)
  · obtain ⟨cs1, fr1, h1, h2⟩ := b.blk c cs e fr h
    obtain ⟨cs2, fr2, h3, h4⟩ := t.ext.blk c cs1 e fr1 h1
    exact ⟨cs2, fr2, h3, h4.trans h2⟩
  · obtain ⟨l1, h1⟩ := b.lp c l h
    exact t.ext.lp c l1 h1
theorem Cur.drawn {B g st w} (h : Cur B g st w) : Cur B g st { w with drawn := w.drawn + 1 } :=
  h.step (fun o h1 h2 => by omega) ⟨Nat.le_refl _, Step.same (w := w) rfl rfl rfl rfl⟩ (Ok.same (w := w) rfl h.ok)
theorem Cur.logs {B g st st' w} (h : Cur B g st w) (h1 : st'.h = st.h) (h2 : st'.nx = st.nx) : Cur B g st' w :=
  ⟨by rw [h1]; exact h.ok, by rw [h2]; exact h.fresh, by rw [h1]; exact h.base, by rw [h2]; exact h.pin⟩

def Fin (B : BaseP) (nt : Nat) (Q : QL) : Exit → Act → World → Prop := fun ex a w =>
  ∃ e L st g, ex = exitOf e ∧ Q e L st ∧ Cur B g st w ∧ RelSL g w nt L a.tmps ∧ Marks B.D B.n0 st.h g w a.defers
theorem Fin.mk' {B nt Q e L st g} {a : Act} {w : World} (hq : Q e L st) (hc : Cur B g st w) (hr : RelSL g w nt L a.tmps) (hd : Marks B.D B.n0 st.h g w a.defers) : Fin B nt Q (exitOf e) a w := ⟨e, L, st, g, rfl, hq, hc, hr, hd⟩

/-! ### One operation -/
/-- What an operation comes to in its activation. -/
def OpOk (P : Program) (o : Oper) (a : Act) (w : World) (T : Value → World → Prop) : Prop :=
  ∀ (ro : Option Nat) (N : Nat) (K : Act → World → Prop) (Q : Exit → Act → World → Prop), (∀ v w', T v w' → K (a.put o.dst v) w') → o.wpIn (fence ro) N P a w K Q
/-- Names of objects are names that are taken. -/
def Low (st : St) : Prop := ∀ o x, st.h.get o = some x → o < st.nx
/-- What a call comes to, whatever names are taken beside the ones that it takes. -/
def CallF (P : Program) (f : Nat) (args : List AV) (m : M AV) : Prop :=
  ∀ (g : Gh) (st : St) (w : World) (vs : List Value) (r : AV) (st' : St), Ok g st.h w → Free g st st' → Low st → RelL g w args vs → m st = some (r, st') →
    (∃ v w' g', (callFunc f vs.toArray).run P w = .ok (.value v) w' ∧ Step g st.h w st.nx st'.nx g' st'.h w' ∧ Ok g' st'.h w' ∧ Rel g' w' r v) ∨
    ((callFunc f vs.toArray).run P w = .ok (.enter f vs.toArray) w ∧
      Calls P f vs.toArray w (fun e w' => ∃ v g', e = .returned v ∧ Step g st.h w st.nx st'.nx g' st'.h w' ∧ Ok g' st'.h w' ∧ Rel g' w' r v))
/-- The same, of whatever state. -/
def CallG (P : Program) (f : Nat) (args : List AV) (m : M AV) : Prop :=
  ∀ (g : Gh) (st : St) (w : World) (vs : List Value) (r : AV) (st' : St), Ok g st.h w → Free g st st' → RelL g w args vs → m st = some (r, st') →
    (∃ v w' g', (callFunc f vs.toArray).run P w = .ok (.value v) w' ∧ Step g st.h w st.nx st'.nx g' st'.h w' ∧ Ok g' st'.h w' ∧ Rel g' w' r v) ∨
    ((callFunc f vs.toArray).run P w = .ok (.enter f vs.toArray) w ∧
      Calls P f vs.toArray w (fun e w' => ∃ v g', e = .returned v ∧ Step g st.h w st.nx st'.nx g' st'.h w' ∧ Ok g' st'.h w' ∧ Rel g' w' r v))
theorem CallG.toF {P : Program} {f : Nat} {args : List AV} {m : M AV} (h : CallG P f args m) : CallF P f args m := fun g st w vs r st' h1 h2 _ h3 h4 => h g st w vs r st' h1 h2 h3 h4
def TabOk (P : Program) (T : Tab) : Prop := ∀ f b m, T.find f = some (b, m) → ∀ args, CallG P f args (m args)

def TabOkF (P : Program) (T : Tab) : Prop := ∀ f b m, T.find f = some (b, m) → ∀ args, CallF P f args (m args)
theorem TabOk.toF {P : Program} {T : Tab} (h : TabOk P T) : TabOkF P T := fun f b m hf args => (h f b m hf args).toF
theorem operL_some {P : Program} {T : Tab} {o : Oper} {ρ : Operand → AV} {st st' : St} {r : AV} (h : operL P T o ρ st = some (r, st')) :
    (∃ f args ts, o.op = .call { callee := .value f, args, argTypes := ts } ∧ callV T (ρ f) (args.toList.map ρ) st = some (r, st')) ∨ mono (aop P o ρ) st = some (r, st') := by
  obtain ⟨dst, op, type, pos, after, guard⟩ := o
  cases op with
  | call c =>
    obtain ⟨callee, args, ts⟩ := c
    cases callee with
    | value f => exact .inl ⟨f, args, ts, rfl, h⟩
    | _ => exact .inr h
  | _ => exact .inr h

theorem plain_op {P : Program} {o : Oper} {a : Act} {g : Gh} {st st' : St} {w : World} {ρ : Operand → AV} {r : AV} (hok : Ok g st.h w) (hf : Free g st st') (hr : RelF g w ρ a.eval) (h : mono (aop P o ρ) st = some (r, st')) :
    OpOk P o a w (fun v w' => ∃ g', Step g st.h w st.nx st'.nx g' st'.h w' ∧ Ok g' st'.h w' ∧ Rel g' w' r v) := by
  obtain ⟨h1, hle⟩ := mono_some h
  have hd : ∀ c, o.op ≠ .defer c := by
    intro c e
    unfold aop at h1
    rw [e] at h1
    cases h1
  obtain ⟨nx, w', g', q1, q2, q3, q4⟩ := aop_ok (P := P) hok hf hr h1
  intro ro N K Q hK
  refine ⟨about_fence ro P o a w, ?_⟩
  rw [Oper.semAt_eq _ _ _ hd, q1]
  rcases q4 with ⟨v, rfl, hv⟩ | ⟨rfl, rfl⟩
  · exact hK v w' ⟨g', q2, q3, hv⟩
  · exact hK undef w' ⟨g', q2, q3, .sc _⟩

theorem callOk_op {P : Program} {o : Oper} {a : Act} {g : Gh} {st st' : St} {w : World} {r : AV} {h : Nat} {args : List AV} {vs : List Value} {m : M AV} (hnd : ∀ c, o.op ≠ .defer c) (hok : Ok g st.h w) (hf : Free g st st') (hlo : Low st)
    (hm : CallF P h args m) (hrel : RelL g w args vs) (hrun : (execOp a.eval o).run P w = (callFunc h vs.toArray).run P w) (hst : m st = some (r, st')) :
    OpOk P o a w (fun v w' => ∃ g', Step g st.h w st.nx st'.nx g' st'.h w' ∧ Ok g' st'.h w' ∧ Rel g' w' r v) := by
  intro ro N K Q hK
  refine ⟨about_fence ro P o a w, ?_⟩
  rw [Oper.semAt_eq _ _ _ hnd, hrun]
  rcases hm g st w vs r st' hok hf hlo hrel hst with ⟨v, w', g', q1, q2, q3, q4⟩ | ⟨q1, q2⟩
  · rw [q1]; exact hK v w' ⟨g', q2, q3, q4⟩
  · rw [q1]
    refine ⟨(fun h => (by cases h)), (callsIn_of_calls (ro := ro) (n := N - 1) q2).mono ?_⟩
    rintro e w' ⟨v, g', rfl, p2, p3, p4⟩
    exact hK v w' ⟨g', p2, p3, p4⟩

theorem callOk_opG {P : Program} {o : Oper} {a : Act} {g : Gh} {st st' : St} {w : World} {r : AV} {h : Nat} {args : List AV} {vs : List Value} {m : M AV} (hnd : ∀ c, o.op ≠ .defer c) (hok : Ok g st.h w) (hf : Free g st st')
    (hm : CallG P h args m) (hrel : RelL g w args vs) (hrun : (execOp a.eval o).run P w = (callFunc h vs.toArray).run P w) (hst : m st = some (r, st')) :
    OpOk P o a w (fun v w' => ∃ g', Step g st.h w st.nx st'.nx g' st'.h w' ∧ Ok g' st'.h w' ∧ Rel g' w' r v) := by
  intro ro N K Q hK
  refine ⟨about_fence ro P o a w, ?_⟩
  rw [Oper.semAt_eq _ _ _ hnd, hrun]
  rcases hm g st w vs r st' hok hf hrel hst with ⟨v, w', g', q1, q2, q3, q4⟩ | ⟨q1, q2⟩
  · rw [q1]; exact hK v w' ⟨g', q2, q3, q4⟩
  · rw [q1]
    refine ⟨(fun h => (by cases h)), (callsIn_of_calls (ro := ro) (n := N - 1) q2).mono ?_⟩
    rintro e w' ⟨v, g', rfl, p2, p3, p4⟩
    exact hK v w' ⟨g', p2, p3, p4⟩

theorem call_op {P : Program} {T : Tab} (hT : TabOk P T) {o : Oper} {a : Act} {g : Gh} {st st' : St} {w : World} {ρ : Operand → AV} {r : AV} {f : Operand} {args : Array Operand} {ts : Array TypeId}
    (ho : o.op = .call { callee := .value f, args, argTypes := ts }) (hok : Ok g st.h w) (hf : Free g st st') (hr : RelF g w ρ a.eval) (h : callV T (ρ f) (args.toList.map ρ) st = some (r, st')) :
    OpOk P o a w (fun v w' => ∃ g', Step g st.h w st.nx st'.nx g' st'.h w' ∧ Ok g' st'.h w' ∧ Rel g' w' r v) := by
  have hargs := hr.list args.toList
  have go : ∀ (k : Nat) (first captured : List AV) (va vb : Array Value), a.eval f = .func (.func k) va vb → RelL g w first va.toList → RelL g w captured vb.toList → callT T k (first ++ args.toList.map ρ ++ captured) st = some (r, st') →
      OpOk P o a w (fun v w' => ∃ g', Step g st.h w st.nx st'.nx g' st'.h w' ∧ Ok g' st'.h w' ∧ Rel g' w' r v) := by
    intro k first captured va vb hfn h1 h2 hc
    unfold callT at hc
    cases hfd : T.find k with
    | none => rw [hfd] at hc; cases hc
    | some p =>
      obtain ⟨b, m⟩ := p
      rw [hfd] at hc
      refine callOk_opG (not_defer ho) (vs := va.toList ++ args.toList.map a.eval ++ vb.toList) hok hf (hT k b m hfd _) ((h1.append hargs).append h2) ?_ (mono_some hc).1
      rw [call_run ho hfn]
      congr 2
      apply Array.ext'
      simp
  have hv := hr f
  unfold callV at h
  cases hx : ρ f with
  | fn fx first captured =>
    rw [hx] at h hv
    simp only at h
    cases fx with
    | func k =>
      have : ∃ va vb, a.eval f = .func (.func k) va vb ∧ RelL g w first va.toList ∧ RelL g w captured vb.toList := by
        generalize a.eval f = vf at hv
        cases hv with
        | fn _ _ _ va vb hs hh hs' hh' => exact ⟨va, vb, rfl, ⟨by simpa using hs, fun i x y hx hy => hh i x y hx (by simpa using hy)⟩, ⟨by simpa using hs', fun i x y hx hy => hh' i x y hx (by simpa using hy)⟩⟩
      obtain ⟨va, vb, e, h1, h2⟩ := this
      exact go k first captured va vb e h1 h2 h
    | _ => cases h
  | sc x =>
    rw [hx] at h hv
    simp only at h
    cases x with
    | func fx first captured =>
      cases fx with
      | func k =>
        have e := hv.exact rfl
        exact go k _ _ first captured e (RelL.scs g w _) (RelL.scs g w _) h
      | _ => cases h
    | _ => cases h
  | _ => rw [hx] at h; cases h

theorem operL_ok {P : Program} {T : Tab} (hT : TabOk P T) {o : Oper} {a : Act} {g : Gh} {st st' : St} {w : World} {ρ : Operand → AV} {r : AV} (hok : Ok g st.h w) (hf : Free g st st') (hr : RelF g w ρ a.eval) (h : operL P T o ρ st = some (r, st')) :
    OpOk P o a w (fun v w' => ∃ g', Step g st.h w st.nx st'.nx g' st'.h w' ∧ Ok g' st'.h w' ∧ Rel g' w' r v) := by
  rcases operL_some h with ⟨f, args, ts, ho, h1⟩ | h1
  · exact call_op hT ho hok hf hr h1
  · exact plain_op hok hf hr h1

theorem call_opF {P : Program} {T : Tab} (hT : TabOkF P T) {o : Oper} {a : Act} {g : Gh} {st st' : St} {w : World} {ρ : Operand → AV} {r : AV} {f : Operand} {args : Array Operand} {ts : Array TypeId}
    (ho : o.op = .call { callee := .value f, args, argTypes := ts }) (hok : Ok g st.h w) (hf : Free g st st') (hlo : Low st) (hr : RelF g w ρ a.eval) (h : callV T (ρ f) (args.toList.map ρ) st = some (r, st')) :
    OpOk P o a w (fun v w' => ∃ g', Step g st.h w st.nx st'.nx g' st'.h w' ∧ Ok g' st'.h w' ∧ Rel g' w' r v) := by
  have hargs := hr.list args.toList
  have go : ∀ (k : Nat) (first captured : List AV) (va vb : Array Value), a.eval f = .func (.func k) va vb → RelL g w first va.toList → RelL g w captured vb.toList → callT T k (first ++ args.toList.map ρ ++ captured) st = some (r, st') →
      OpOk P o a w (fun v w' => ∃ g', Step g st.h w st.nx st'.nx g' st'.h w' ∧ Ok g' st'.h w' ∧ Rel g' w' r v) := by
    intro k first captured va vb hfn h1 h2 hc
    unfold callT at hc
    cases hfd : T.find k with
    | none => rw [hfd] at hc; cases hc
    | some p =>
      obtain ⟨b, m⟩ := p
      rw [hfd] at hc
      refine callOk_op (not_defer ho) (vs := va.toList ++ args.toList.map a.eval ++ vb.toList) hok hf hlo (hT k b m hfd _) ((h1.append hargs).append h2) ?_ (mono_some hc).1
      rw [call_run ho hfn]
      congr 2
      apply Array.ext'
      simp
  have hv := hr f
  unfold callV at h
  cases hx : ρ f with
  | fn fx first captured =>
    rw [hx] at h hv
    simp only at h
    cases fx with
    | func k =>
      have : ∃ va vb, a.eval f = .func (.func k) va vb ∧ RelL g w first va.toList ∧ RelL g w captured vb.toList := by
        generalize a.eval f = vf at hv
        cases hv with
        | fn _ _ _ va vb hs hh hs' hh' => exact ⟨va, vb, rfl, ⟨by simpa using hs, fun i x y hx hy => hh i x y hx (by simpa using hy)⟩, ⟨by simpa using hs', fun i x y hx hy => hh' i x y hx (by simpa using hy)⟩⟩
      obtain ⟨va, vb, e, h1, h2⟩ := this
      exact go k first captured va vb e h1 h2 h
    | _ => cases h
  | sc x =>
    rw [hx] at h hv
    simp only at h
    cases x with
    | func fx first captured =>
      cases fx with
      | func k =>
        have e := hv.exact rfl
        exact go k _ _ first captured e (RelL.scs g w _) (RelL.scs g w _) h
      | _ => cases h
    | _ => cases h
  | _ => rw [hx] at h; cases h

theorem operL_okF {P : Program} {T : Tab} (hT : TabOkF P T) {o : Oper} {a : Act} {g : Gh} {st st' : St} {w : World} {ρ : Operand → AV} {r : AV} (hok : Ok g st.h w) (hf : Free g st st') (hlo : Low st) (hr : RelF g w ρ a.eval) (h : operL P T o ρ st = some (r, st')) :
    OpOk P o a w (fun v w' => ∃ g', Step g st.h w st.nx st'.nx g' st'.h w' ∧ Ok g' st'.h w' ∧ Rel g' w' r v) := by
  rcases operL_some h with ⟨f, args, ts, ho, h1⟩ | h1
  · exact call_opF hT ho hok hf hlo hr h1
  · exact plain_op hok hf hr h1

theorem callO_op {P : Program} {o : Oper} {a : Act} {g : Gh} {st : St} {w : World} {L : SL} {K : SL → St → Prop} (hok : Ok g st.h w) (hfr : ∀ o, st.nx ≤ o → g.inj o = none) (hr : RelF g w (evL L) a.eval) (h : callO P o L st K) :
    OpOk P o a w (fun v w' => ∃ g' r st', K (putL o.dst r L) st' ∧ st.nx ≤ st'.nx ∧ Step g st.h w st.nx st'.nx g' st'.h w' ∧ Ok g' st'.h w' ∧ Rel g' w' r v) := by
  unfold callO at h
  split at h
  · rename_i f args ts ho
    have hargs := hr.list args.toList
    have go : ∀ (k : Nat) (first captured : List AV) (va vb : Array Value), a.eval f = .func (.func k) va vb → RelL g w first va.toList → RelL g w captured vb.toList → CallAt P k (first ++ args.toList.map (evL L) ++ captured) st (contK K o.dst L) →
        OpOk P o a w (fun v w' => ∃ g' r st', K (putL o.dst r L) st' ∧ st.nx ≤ st'.nx ∧ Step g st.h w st.nx st'.nx g' st'.h w' ∧ Ok g' st'.h w' ∧ Rel g' w' r v) := by
      intro k first captured va vb hfn h1 h2 hc
      have hrun : (execOp a.eval o).run P w = (callFunc k (va.toList ++ args.toList.map a.eval ++ vb.toList).toArray).run P w := by
        rw [call_run ho hfn]
        congr 2
        apply Array.ext'
        simp
      intro ro N K' Q hK
      refine ⟨about_fence ro P o a w, ?_⟩
      rw [Oper.semAt_eq _ _ _ (not_defer ho), hrun]
      rcases hc g w _ hok hfr ((h1.append hargs).append h2) with ⟨v, w', g', r, st', q1, q2, q3, q4, q5, q6⟩ | ⟨q1, q2⟩
      · rw [q1]; exact hK v w' ⟨g', r, st', q2, q3, q4, q5, q6⟩
      · rw [q1]
        refine ⟨(fun h => (by cases h)), (callsIn_of_calls (ro := ro) (n := N - 1) q2).mono ?_⟩
        rintro e w' ⟨v, g', r, st', rfl, p2, p3, p4, p5, p6⟩
        exact hK v w' ⟨g', r, st', p2, p3, p4, p5, p6⟩
    have hv := hr f
    unfold callK at h
    cases hcv : calleeV (evL L f) (args.toList.map (evL L)) with
    | none => rw [hcv] at h; exact h.elim
    | some p =>
    obtain ⟨k, azs⟩ := p
    rw [hcv] at h
    simp only at h
    unfold calleeV at hcv
    cases hx : evL L f with
    | fn fx first captured =>
      rw [hx] at hcv hv
      simp only at hcv
      cases fx with
      | func k =>
        cases hcv
        have : ∃ va vb, a.eval f = .func (.func k) va vb ∧ RelL g w first va.toList ∧ RelL g w captured vb.toList := by
          generalize a.eval f = vf at hv
          cases hv with
          | fn _ _ _ va vb hs hh hs' hh' => exact ⟨va, vb, rfl, ⟨by simpa using hs, fun i x y hx hy => hh i x y hx (by simpa using hy)⟩, ⟨by simpa using hs', fun i x y hx hy => hh' i x y hx (by simpa using hy)⟩⟩
        obtain ⟨va, vb, e, h1, h2⟩ := this
        exact go k first captured va vb e h1 h2 h
      | _ => cases hcv
    | sc x =>
      rw [hx] at hcv hv
      simp only at hcv
      cases x with
      | func fx first captured =>
        cases fx with
        | func k =>
          cases hcv
          have e := hv.exact rfl
          exact go k _ _ first captured e (RelL.scs g w _) (RelL.scs g w _) h
        | _ => cases hcv
      | _ => cases hcv
    | _ => rw [hx] at hcv; cases hcv
  · exact h.elim

theorem callV_le {T : Tab} {f : AV} {args : List AV} {st st' : St} {r : AV} (h : callV T f args st = some (r, st')) : st.nx ≤ st'.nx := by
  have one : ∀ k args, callT T k args st = some (r, st') → st.nx ≤ st'.nx := by
    intro k args h
    unfold callT at h
    cases hfd : T.find k with
    | none => rw [hfd] at h; cases h
    | some p => rw [hfd] at h; exact (mono_some h).2
  have two : ∀ k args, callFn T k args st = some (r, st') → st.nx ≤ st'.nx := by
    intro k args h
    cases k with
    | func k => exact one k args h
    | _ => cases h
  unfold callV at h
  cases f with
  | fn k a b => exact two k _ h
  | sc x =>
    cases x with
    | func k a b => exact two k _ h
    | _ => cases h
  | _ => cases h
theorem operL_le {P : Program} {T : Tab} {o : Oper} {ρ : Operand → AV} {st st' : St} {r : AV} (h : operL P T o ρ st = some (r, st')) : st.nx ≤ st'.nx := by
  rcases operL_some h with ⟨f, args, ts, ho, h1⟩ | h1
  · exact callV_le h1
  · exact (mono_some h1).2

/-! ### Guards -/
theorem bool_exact {g w a v b} (h : Rel g w a v) (hb : a.bool = some b) : v = .bool b := by
  unfold AV.bool AV.exact boolOf at hb
  cases a with
  | sc x =>
    have := h.exact rfl
    subst this
    simp only [Option.bind_some] at hb
    split at hb
    · simp at hb; subst hb; rfl
    · cases hb
  | _ => cases hb
theorem boolAV_some {a : AV} {x y : Prop} (h : boolAV a x y) : ∃ v, a.bool = some v ∧ (v = true → x) ∧ (v = false → y) := by
  unfold boolAV at h
  split at h
  · rename_i v hv; exact ⟨v, hv, h⟩
  · exact h.elim
theorem wantP_some {o : Option Bool} {x y : Prop} (h : wantP o x y) : ∃ b, o = some b ∧ (b = true → x) ∧ (b = false → y) := by
  unfold wantP at h
  split at h
  · rename_i v; exact ⟨v, rfl, h⟩
  · exact h.elim
theorem want_exact {g w a v c b} (h : Rel g w a v) (hb : wantA a c = some b) : wantV c v = b := by
  unfold wantA AV.exact at hb
  cases a with
  | sc x =>
    have := h.exact rfl
    subst this
    simpa using hb
  | _ => cases hb
theorem yielded_val {ops : Array Oper} {tmps : Array Value} {j d : Nat} (c : Bool) (hd : ((ops[j]?).bind (·.dst)) = some d) (hlt : d < tmps.size) : (yielded ops tmps j == some c) = wantV c (tmps.getD d undef) := by
  unfold yielded
  rw [hd, Option.bind_some, Array.getD_eq_getD_getElem?, Array.getElem?_eq_getElem hlt, Option.getD_some]
  generalize tmps[d] = v
  unfold wantV
  cases v <;> first | rfl | (cases c <;> rfl)
/-- A guard: the operation is carried out, or not. -/
theorem guard_some {ops : Array Oper} {L : SL} {o : Oper} {x y : Prop} {g w nt} {a : Act} (hr : RelSL g w nt L a.tmps) (hs : ∀ j b, o.guard = some (j, b) → ∃ d, ((ops[j]?).bind (·.dst)) = some d ∧ d < nt) (h : guarded ops L o.guard x y) :
    (Region.wanted o (yielded ops a.tmps) = true ∧ x) ∨ (Region.wanted o (yielded ops a.tmps) = false ∧ y) := by
  unfold guarded at h
  unfold Region.wanted
  cases hg : o.guard with
  | none => rw [hg] at h; exact .inl ⟨rfl, h⟩
  | some q =>
    obtain ⟨j, b⟩ := q
    obtain ⟨d, hd, hlt⟩ := hs j b hg
    rw [hg] at h
    have hgs : gslot ops j = d := by unfold gslot; rw [hd]; rfl
    simp only [hgs] at h
    dsimp only
    obtain ⟨c, hc, h1, h2⟩ := wantP_some h
    rw [yielded_val b hd (by rw [hr.1]; exact hlt), want_exact (hr.2 d) hc]
    cases c with
    | true => exact .inl ⟨rfl, h1 rfl⟩
    | false => exact .inr ⟨rfl, h2 rfl⟩

/-! ### Operations in the order of the text -/
theorem dst_in {nt : Nat} {ops : Array Oper} (h : dstsIn nt ops = true) {o : Oper} (ho : o ∈ ops) : ∀ d, o.dst = some d → d < nt := by
  intro d hd
  unfold dstsIn at h
  rw [Array.all_eq_true_iff_forall_mem] at h
  have := h o ho
  rw [hd] at this
  simpa using this
theorem guard_in {nt : Nat} {ops : Array Oper} (h : guardsIn nt ops = true) {o : Oper} (ho : o ∈ ops) : ∀ j b, o.guard = some (j, b) → ∃ d, ((ops[j]?).bind (·.dst)) = some d ∧ d < nt := by
  intro j b hg
  unfold guardsIn at h
  rw [Array.all_eq_true_iff_forall_mem] at h
  have := h o ho
  rw [hg] at this
  simp only at this
  split at this
  · rename_i d hd; exact ⟨d, hd, by simpa using this⟩
  · cases this

theorem opsL_ok {P : Program} {T : Tab} (hT : TabOk P T) {ops : Array Oper} {ro : Option Nat} {N : Nat} {B : BaseP} {nt : Nat} {Q : Exit → Act → World → Prop} {K : SL → St → Prop} (hnf : B.NoFar) (hg : guardsIn nt ops = true) (hd : dstsIn nt ops = true)
    (hK : ∀ L st g w a, K L st → Cur B g st w → RelSL g w nt L a.tmps → Marks B.D B.n0 st.h g w a.defers → Q .normal a w) :
    ∀ (l : List Oper) (is : List Nat), (∀ o ∈ l, o ∈ ops) → is.map (fun i => ops[i]?) = l.map some → ∀ L st g w a, opsL P T ops l K L st → Cur B g st w → RelSL g w nt L a.tmps → Marks B.D B.n0 st.h g w a.defers → wpOpsIn (fence ro) N P ops Q is a w := by
  intro l
  induction l with
  | nil =>
    intro is _ his L st g w a h hc hr hdf
    cases is with
    | nil => exact hK L st g w a h hc hr hdf
    | cons i is => cases his
  | cons o l ih =>
    intro is hmem his L st g w a h hc hr hdf
    cases is with
    | nil => cases his
    | cons i is =>
      simp only [List.map_cons, List.cons.injEq] at his
      obtain ⟨hi, his⟩ := his
      have ho := hmem o (by simp)
      simp only [wpOpsIn, hi]
      rcases guard_some hr (guard_in hg ho) h with ⟨hw, h1⟩ | ⟨hw, h1⟩
      · rw [hw, if_pos rfl]
        unfold opDo afterE at h1
        cases hop : operL P T o (evL L) st with
        | none =>
          rw [hop] at h1
          refine callO_op hc.ok (fun o ho => hc.fresh o ho (hnf o)) hr.eval h1 ro N _ _ ?_
          rintro u w' ⟨g', v, st', q0, q1, q2, q3, q4⟩
          exact ih is (fun o ho => hmem o (by simp [ho])) his _ st' g' w' _ q0 (hc.step (hnf.near _ _) ⟨q1, q2⟩ q3) ((hr.ext q2.ext).put q4 (dst_in hd ho)) (by rw [put_defers]; exact hdf.step q2)
        | some p =>
          obtain ⟨v, st'⟩ := p
          rw [hop] at h1
          refine operL_ok hT hc.ok (hc.free (hnf.near _ _)) hr.eval hop ro N _ _ ?_
          rintro u w' ⟨g', q1, q2, q3⟩
          exact ih is (fun o ho => hmem o (by simp [ho])) his _ st' g' w' _ h1 (hc.step (hnf.near _ _) ⟨operL_le hop, q1⟩ q2) ((hr.ext q1.ext).put q3 (dst_in hd ho)) (by rw [put_defers]; exact hdf.step q1)
      · rw [hw, if_neg (by simp)]
        refine ⟨about_fence ro P o a w, ?_⟩
        exact ih is (fun o ho => hmem o (by simp [ho])) his _ st g w _ h1 hc (hr.put (.sc _) (dst_in hd ho)) (by rw [put_defers]; exact hdf)

theorem range_ops (ops : Array Oper) : (List.range ops.size).map (fun i => ops[i]?) = ops.toList.map some := by
  apply List.ext_getElem?
  intro i
  simp only [List.getElem?_map]
  by_cases h : i < ops.size
  · simp [h]
  · simp [h]

end
end Go.Vm
