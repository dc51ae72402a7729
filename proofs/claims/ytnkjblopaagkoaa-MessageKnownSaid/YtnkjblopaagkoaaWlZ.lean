/- Walks on abstract values: an iterator's code; the statement. No condition. -/
import Derived.Test.YtnkjblopaagkoaaWlY
namespace Go.Vm
noncomputable section

def codeOf : Ex → Code
  | .ret => .ret
  | .exit id => .exit id
  | .normal => .skip
def isNormal : Ex → Bool
  | .normal => true
  | _ => false
/-- The record of a loop, no round being under way. -/
structure LoopRec where
  fn : FuncId
  tmps : Array Value
  params : Array Tmp
  assign : Code
  body : Code
  defers : Nat
def LoopRec.at (r : LoopRec) (pe : Option Ex) : Loop := { state := match pe with | none => .ready | some _ => .done, pending := pe.map codeOf, fn := r.fn, tmps := r.tmps, params := r.params, assign := r.assign, body := r.body, defers := r.defers }
def afterOf (e : Ex) : Option Ex :=
  match e with
  | .normal => none
  | e => some e

def FinI (B : BaseP) (nt l : Nat) (rec : LoopRec) (Q : QI) : Exit → Act → World → Prop := fun ex a w =>
  ∃ e pe L st g, ex = exitOf e ∧ Q e pe L st ∧ Cur B g st w ∧ RelSL g w nt L a.tmps ∧ a.defers = [] ∧ w.heap[l]? = some (.loop (rec.at pe)) ∧ Unowned g st.h l
theorem FinI.mk' {B nt l rec} {Q : QI} {e pe L st g} {a : Act} {w : World} (hq : Q e pe L st) (hc : Cur B g st w) (hr : RelSL g w nt L a.tmps) (hd : a.defers = []) (hl : w.heap[l]? = some (.loop (rec.at pe))) (hu : Unowned g st.h l) :
    FinI B nt l rec Q (exitOf e) a w := ⟨e, pe, L, st, g, rfl, hq, hc, hr, hd, hl, hu⟩

/-- What a round comes to. -/
def RndOk (P : Program) (l : Nat) (rec : LoopRec) (R : Rnd) (B1 : BaseP) : Prop :=
  ∀ (N p : Nat) (args : List AV) (X : Ex → St → Prop) (g : Gh) (st : St) (w : World) (vs : List Value), Cur B1 g st w → B1.pin ≤ p → p ≤ st.nx → (∀ o, p ≤ o → g.inj o = none) → RelL g w args vs →
    w.heap[l]? = some (.loop (rec.at none)) → Unowned g st.h l → R p args X st →
    ∃ f tmps asg body, (Instr.yield l vs.toArray).run P w = .ok (.round l f tmps asg body) w ∧ RoundIn (fence none) N P l f tmps asg body w (fun e w' => ∃ ex st' g', X ex st' ∧ e = .returned (.bool (isNormal ex)) ∧ Cur (baseAt g st.h w p (· = l)) g' st' w' ∧
      w'.heap[l]? = some (.loop (rec.at (afterOf ex))) ∧ Unowned g' st'.h l)

theorem isYield_some {l : Nat} {a : AV} {g w v} (h : isYield l a = true) (hr : Rel g w a v) : v = .func (.yield l) #[] #[] := by
  unfold isYield at h
  split at h
  · rename_i x
    split at h
    · rename_i f va vb
      split at h
      · rename_i k
        simp only [Bool.and_eq_true] at h
        have := hr.exact rfl
        subst this
        obtain ⟨⟨h1, h2⟩, h3⟩ := h
        have h1 := Nat.eq_of_beq_eq_true h1
        have h2 : va = #[] := Array.eq_empty_of_size_eq_zero (Nat.eq_of_beq_eq_true h2)
        have h3 : vb = #[] := Array.eq_empty_of_size_eq_zero (Nat.eq_of_beq_eq_true h3)
        rw [h1, h2, h3]
      · cases h
    · cases h
  · cases h
theorem yield_run {P : Program} {o : Oper} {f : Operand} {args : Array Operand} {ts : Array TypeId} {ρ : Operand → Value} {l : Nat} (ho : o.op = .call { callee := .value f, args, argTypes := ts })
    (hf : ρ f = .func (.yield l) #[] #[]) (w : World) : (execOp ρ o).run P w = (Instr.yield l (args.map ρ)).run P w := by
  simp [execOp, ho, resolve, hf, Deferred.ofValue, invoke]

theorem opsI_ok {P : Program} {T : Tab} (hT : TabOk P T) {ops : Array Oper} {N : Nat} {B : BaseP} {nt l : Nat} {rec : LoopRec} {R : Rnd} (hnf : B.NoFar) (hp : B.pin ≤ 1000) (hR : RndOk P l rec R B) (hO : B.O l) {Q : Exit → Act → World → Prop} {K : Option Ex → SL → St → Prop} (hg : guardsIn nt ops = true) (hd : dstsIn nt ops = true)
    (hK : ∀ pe L st g w a, K pe L st → Cur B g st w → RelSL g w nt L a.tmps → a.defers = [] → w.heap[l]? = some (.loop (rec.at pe)) → Unowned g st.h l → Q .normal a w) :
    ∀ (ls : List Oper) (is : List Nat), (∀ o ∈ ls, o ∈ ops) → is.map (fun i => ops[i]?) = ls.map some → ∀ pe L st g w a, opsI P T l R B.pin ops ls K pe L st → Cur B g st w → RelSL g w nt L a.tmps → a.defers = [] →
      w.heap[l]? = some (.loop (rec.at pe)) → Unowned g st.h l → wpOpsIn (fence none) N P ops Q is a w := by
  intro ls
  induction ls with
  | nil =>
    intro is _ his pe L st g w a h hc hr hdf hl hu
    cases is with
    | nil => exact hK pe L st g w a h hc hr hdf hl hu
    | cons i is => cases his
  | cons o ls ih =>
    intro is hmem his pe L st g w a h hc hr hdf hl hu
    cases is with
    | nil => cases his
    | cons i is =>
      simp only [List.map_cons, List.cons.injEq] at his
      obtain ⟨hi, his⟩ := his
      have ho := hmem o (by simp)
      have hmem' : ∀ o ∈ ls, o ∈ ops := fun o ho => hmem o (by simp [ho])
      simp only [wpOpsIn, hi]
      rcases guard_some hr (guard_in hg ho) h with ⟨hw, h1⟩ | ⟨hw, h1⟩
      · rw [hw, if_pos rfl]
        unfold opI opIm at h1
        cases hy : yieldOf l o L with
        | none =>
          rw [hy] at h1
          simp only at h1
          unfold afterOp at h1
          cases hop : operL P T o (evL L) st with
          | none => rw [hop] at h1; exact h1.elim
          | some q =>
            obtain ⟨v, st'⟩ := q
            rw [hop] at h1
            refine operL_ok hT hc.ok (hc.free (hnf.near _ _)) hr.eval hop none N _ _ ?_
            rintro u w' ⟨g', q1, q2, q3⟩
            have hun := Unowned.step q1 (lt_of_heap hl) hu
            exact ih is hmem' his pe _ st' g' w' _ h1 (hc.step (hnf.near _ _) ⟨operL_le hop, q1⟩ q2) ((hr.ext q1.ext).put q3 (dst_in hd ho)) (by rw [put_defers]; exact hdf) (hun.2.trans hl) hun.1
        | some args =>
          rw [hy] at h1
          obtain ⟨rfl, keep, h1⟩ := h1
          have hcall : ∃ f ts, o.op = .call { callee := .value f, args, argTypes := ts } ∧ isYield l (evL L f) = true := by
            unfold yieldOf at hy
            split at hy
            · rename_i f args' ts he
              cases hb : isYield l (evL L f) with
              | false => rw [hb] at hy; cases hy
              | true => rw [hb] at hy; cases hy; exact ⟨f, ts, he, hb⟩
            · cases hy
          obtain ⟨f, ts, he, hb⟩ := hcall
          have hfv := isYield_some hb (hr.eval f)
          have cc := canon_ok hnf hp keep hc hr
          have cn := canon_names hc keep L
          have cu := canon_unowned (L := L) hp keep hu
          unfold yieldC at h1
          have hargs := cc.2.eval.list args.toList
          obtain ⟨fn, tmps, asg, body, hrun, hround⟩ := hR (N - 1) _ _ _ _ _ _ _ cc.1 cn.1 cn.2.1 cn.2.2 hargs hl cu h1
          refine ⟨about_fence none P o a w, ?_⟩
          rw [Oper.semAt_eq _ _ _ (not_defer he), yield_run he hfv, show args.map a.eval = (args.toList.map a.eval).toArray from (by apply Array.ext'; simp), hrun]
          refine ⟨(fun h => (by cases h)), hround.mono ?_⟩
          rintro e w' ⟨ex, st', g', hX, rfl, hc', hl', hu'⟩
          have hext := hc'.base.ext_at (fun o h _ => cn.2.2 o h)
          have hcB : Cur B g' st' w' := ⟨hc'.ok, fun o h1 _ => hc'.fresh o h1 (fun h => h), cc.1.base.comp hc'.base cn.1 (fun o h => (hnf o h).elim) (fun n hn => by subst hn; exact .inr hO), Nat.le_trans cn.1 hc'.pin⟩
          have hr' := (cc.2.ext hext).put (.sc (.bool (isNormal ex))) (dst_in hd ho)
          show wpOpsIn (fence none) N P ops Q is (a.put o.dst (.bool (isNormal ex))) w'
          cases ex with
          | normal => exact ih is hmem' his _ _ st' g' w' _ hX hcB hr' (by rw [put_defers]; exact hdf) hl' hu'
          | ret => exact ih is hmem' his _ _ st' g' w' _ hX hcB hr' (by rw [put_defers]; exact hdf) hl' hu'
          | exit id => exact ih is hmem' his _ _ st' g' w' _ hX hcB hr' (by rw [put_defers]; exact hdf) hl' hu'
      · rw [hw, if_neg (by simp)]
        refine ⟨about_fence none P o a w, ?_⟩
        exact ih is hmem' his pe _ st g w _ h1 hc (hr.put (.sc _) (dst_in hd ho)) (by rw [put_defers]; exact hdf) hl hu

/-- An iterator's code. -/
theorem wlI_ok {P : Program} {T : Tab} (hT : TabOk P T) (hm : P.follows .mixedOrders = true) {N : Nat} {B : BaseP} {nt l : Nat} {rec : LoopRec} {R : Rnd} (hnf : B.NoFar) (hp : B.pin ≤ 1000) (hR : RndOk P l rec R B) (hO : B.O l) :
    ∀ (c : Code), slotsIn nt c = true → ∀ (Q : QI) pe L st g w a, wlI P T l R B.pin c Q pe L st → Cur B g st w → RelSL g w nt L a.tmps → a.defers = [] → w.heap[l]? = some (.loop (rec.at pe)) → Unowned g st.h l →
      c.wpIn (fence none) N P (FinI B nt l rec Q) a w := by
  intro c
  induction c with
  | skip => intro _ Q pe L st g w a h hc hr hd hl hu; exact wpIn_skip (FinI.mk' (e := .normal) h hc hr hd hl hu)
  | label k => intro _ Q pe L st g w a h hc hr hd hl hu; exact wpIn_label (FinI.mk' (e := .normal) h hc hr hd hl hu)
  | exit id => intro _ Q pe L st g w a h hc hr hd hl hu; exact wpIn_exit (FinI.mk' (e := .exit id) h hc hr hd hl hu)
  | ret => intro _ Q pe L st g w a h hc hr hd hl hu; exact wpIn_ret (FinI.mk' (e := .ret) h hc hr hd hl hu)
  | region id ops draw =>
    intro hs Q pe L st g w a h hc hr hd hl hu
    simp only [slotsIn, Bool.and_eq_true] at hs
    cases draw with
    | false => exact wpIn_region (opsI_ok hT hnf hp hR hO hs.2 hs.1 (fun pe L st g w a h hc hr hd hl hu => FinI.mk' (e := .normal) h hc hr hd hl hu) ops.toList _ (by simp) (range_ops ops) pe L st g w a h hc hr hd hl hu)
    | true =>
      have hc0 := hc.at' B.pin (fun _ => False) hc.pin (far := fun _ => False) (fun o h => (hnf o h).elim)
      refine drawn_ok hT.toF hm hs.2 hs.1 (fun _ _ _ _ _ _ h => h) (fun L' st' g' w' a' h' hc' hr' _ hdd => ?_) h hc0 hr (by rw [hd]; exact Marks.nil _ _ _ _)
      have hun := hc'.base.unowned (lt_of_heap hl) hu (fun h => h)
      exact FinI.mk' (e := .normal) h' ⟨hc'.ok, fun o h1 _ => hc'.fresh o h1 (fun h => h), hc.base.comp hc'.base (Nat.le_refl _) (fun o h => (hnf o h).elim) (fun _ h => h.elim), hc'.pin⟩ hr' (hdd.trans hd) (hun.2.trans hl) hun.1
  | seq x y ihx ihy =>
    intro hs Q pe L st g w a h hc hr hd hl hu
    simp only [slotsIn, Bool.and_eq_true] at hs
    refine wpIn_seq (wpIn_mono (ihx hs.1 _ pe L st g w a h hc hr hd hl hu) ?_)
    rintro ex a' w' ⟨e, pe', L', st', g', rfl, hq, hc', hr', hd', hl', hu'⟩
    cases e with
    | normal => exact ihy hs.2 Q pe' L' st' g' w' a' hq hc' hr' hd' hl' hu'
    | exit id => exact ⟨.exit id, pe', L', st', g', rfl, hq, hc', hr', hd', hl', hu'⟩
    | ret => exact ⟨.ret, pe', L', st', g', rfl, hq, hc', hr', hd', hl', hu'⟩
  | cond c x y ihx ihy =>
    intro hs Q pe L st g w a h hc hr hd hl hu
    simp only [slotsIn, Bool.and_eq_true] at hs
    obtain ⟨v, hv, h1, h2⟩ := boolAV_some h
    have hev := bool_exact (hr.eval c) hv
    cases v with
    | true => exact wpIn_cond_true hev (ihx hs.1 Q pe L st g w a (h1 rfl) hc hr hd hl hu)
    | false => exact wpIn_cond_false hev (ihy hs.2 Q pe L st g w a (h2 rfl) hc hr hd hl hu)
  | block id x ih =>
    intro hs Q pe L st g w a h hc hr hd hl hu
    refine wpIn_block (wpIn_mono (ih hs _ pe L st g w a h hc hr hd hl hu) ?_)
    rintro ex a' w' ⟨e, pe', L', st', g', rfl, hq, hc', hr', hd', hl', hu'⟩
    cases e with
    | normal => exact ⟨.normal, pe', L', st', g', rfl, hq, hc', hr', hd', hl', hu'⟩
    | ret => exact ⟨.ret, pe', L', st', g', rfl, hq, hc', hr', hd', hl', hu'⟩
    | exit j =>
      simp only [blkI] at hq
      by_cases e : j = id
      · subst e
        simp only [Nat.beq_refl, cond_true] at hq
        simp only [exitOf, Exit.inBlock, if_true]
        exact ⟨.normal, pe', L', st', g', rfl, hq, hc', hr', hd', hl', hu'⟩
      · rw [beq_no e, cond_false] at hq
        simp only [exitOf, Exit.inBlock, if_neg e]
        exact ⟨.exit j, pe', L', st', g', rfl, hq, hc', hr', hd', hl', hu'⟩
  | loop x ih =>
    intro hs Q pe L st g w a h hc hr hd hl hu
    obtain ⟨rfl, keep, h⟩ := h
    refine wpIn_loop_least fun Y hY => ?_
    have hX := h (fun vs os => ∀ g w a, Cur B g (stK os) w → RelSL g w nt (zipK keep vs) a.tmps → a.defers = [] → w.heap[l]? = some (.loop (rec.at none)) → Unowned g (stK os).h l → Y a w) (fun vs os hb g w a hc hr hd hl hu => by
      refine hY a w (wpIn_mono (ih hs _ _ _ _ g w a hb hc hr hd hl hu) ?_)
      rintro ex a' w' ⟨e, pe', L', st', g', rfl, hq, hc', hr', hd', hl', hu'⟩
      cases e with
      | normal =>
        obtain ⟨rfl, hq⟩ := hq
        obtain ⟨vs', os', g1, hx, k1, k2, _, k4⟩ := head_ok hnf hp keep hq hc' hr'
        exact hx g1 w' a' k1 k2 hd' hl' (k4 _ (canon_unowned hp keep hu'))
      | exit id => exact ⟨.exit id, pe', L', st', g', rfl, hq, hc', hr', hd', hl', hu'⟩
      | ret => exact ⟨.ret, pe', L', st', g', rfl, hq, hc', hr', hd', hl', hu'⟩)
    obtain ⟨vs', os', g1, hx, k1, k2, _, k4⟩ := head_ok hnf hp keep hX hc hr
    exact hx g1 w a k1 k2 hd hl (k4 _ (canon_unowned hp keep hu))
  | scope x ih => intro _ Q pe L st g w a h; exact h.elim
  | rangeFunc f ps x y _ _ => intro _ Q pe L st g w a h; exact h.elim
  | goto k => intro _ Q pe L st g w a h; exact h.elim
  | refuse why => intro _ Q pe L st g w a h; exact h.elim

end
end Go.Vm
