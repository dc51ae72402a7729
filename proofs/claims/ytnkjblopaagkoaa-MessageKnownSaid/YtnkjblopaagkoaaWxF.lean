/- Runs on abstract values: ranges over functions. No condition. -/
import Derived.Test.YtnkjblopaagkoaaWxC
import Derived.RangeFuncIn
import Derived.RangeFuncOwn
namespace Go.Vm
noncomputable section

theorem argsX_lk (ex : Nat) (t : Nat) : ∀ L : SL, lk (argsX ex L) t = bif hasB ex t then lk L t else .bad
  | [] => by cases h : hasB ex t <;> rfl
  | p :: L => by
    obtain ⟨k, v⟩ := p
    show lk (bif hasB ex k then (k, v) :: argsX ex L else argsX ex L) t = _
    rw [lk_cons]
    cases hk : hasB ex k with
    | true =>
      rw [cond_true, lk_cons, argsX_lk ex t L]
      by_cases e : k = t
      · subst e; rw [if_pos rfl, if_pos rfl, hk]; rfl
      · rw [if_neg e, if_neg e]
    | false =>
      rw [cond_false, argsX_lk ex t L]
      by_cases e : k = t
      · subst e; rw [hk]; rfl
      · rw [if_neg e]
theorem argsX_less (ex : Nat) (L : SL) : Less (argsX ex L) L ∧ Within ex (argsX ex L) :=
  ⟨fun t => by rw [argsX_lk]; cases hasB ex t <;> simp, fun t ht => by rw [argsX_lk, ht]; rfl⟩
theorem putX_less (ex : Nat) : ∀ (ps : List Tmp) (vs : List AV) (L L0 : SL), Within ex L → Less L L0 → Less (putX ex ps vs L) (putArgs ps vs L0) ∧ Within ex (putX ex ps vs L)
  | [], vs, L, L0, hw, hl => ⟨hl, hw⟩
  | t :: ps, [], L, L0, hw, hl => ⟨hl, hw⟩
  | t :: ps, v :: vs, L, L0, hw, hl => by
    refine putX_less ex ps vs (bif hasB ex t then (t, v) :: L else L) ((t, v) :: L0) ?_ ?_
    · intro u hu
      cases ht : hasB ex t with
      | false => exact hw u hu
      | true =>
        rw [cond_true, lk_cons]
        by_cases e : t = u
        · subst e; rw [ht] at hu; cases hu
        · rw [if_neg e]; exact hw u hu
    · intro u
      cases ht : hasB ex t with
      | false =>
        rw [cond_false, lk_cons]
        by_cases e : t = u
        · subst e; exact .inr (hw t ht)
        · rw [if_neg e]; exact hl u
      | true =>
        rw [cond_true, lk_cons, lk_cons]
        by_cases e : t = u
        · subst e; rw [if_pos rfl, if_pos rfl]; exact .inl rfl
        · rw [if_neg e, if_neg e]; exact hl u

/-! ### Rounds -/
/-- What a round comes to. -/
def RndX (P : Program) (l : Nat) (rec : LoopRec) (R : RX) (B1 : BaseP) : Prop :=
  ∀ (N : Nat) (args : List AV) (q : Ex × St) (g : Gh) (st : St) (w : World) (vs : List Value), Low st → B1.Near st.nx q.2.nx → Cur B1 g st w → RelL g w args vs →
    w.heap[l]? = some (.loop (rec.at none)) → Unowned g st.h l → R args st = some q →
    ∃ f tmps asg body, (Instr.yield l vs.toArray).run P w = .ok (.round l f tmps asg body) w ∧ RoundIn (fence none) N P l f tmps asg body w (fun e w' => ∃ g', e = .returned (.bool (isNormal q.1)) ∧ Cur (baseAt g st.h w st.nx (· = l) B1.far) g' q.2 w' ∧
      w'.heap[l]? = some (.loop (rec.at (afterOf q.1))) ∧ Unowned g' q.2.h l)
theorem roundX_framed {ex : Nat} {A B : SL → St → Option XR} (hA : ∀ L, Framed (reX (A L))) (hB : ∀ L, Framed (reX (B L))) (ps : List Tmp) (L : SL) (args : List AV) : Framed (α := Ex) (roundX ex A B ps L args) := by
  cases hlen : Nat.beq args.length ps.length with
  | false => exact Framed.fail.congr (fun st => by unfold roundX; rw [hlen]; rfl)
  | true =>
    refine (Framed.bind (hA (putX ex ps args L)) (fun p : Ex × SL => (?_ : Framed (match p.1 with | .normal => (reX (B p.2)).bind (fun q => M.pure q.1) | _ => M.fail)))).congr (fun st => ?_)
    · split
      · exact Framed.bind (hB _) (fun q => Framed.pure _)
      · exact Framed.fail
    · unfold roundX
      rw [hlen, cond_true]
      unfold reX reM M.bind
      dsimp only
      cases A (putX ex ps args L) st with
      | none => rfl
      | some p =>
        obtain ⟨e, L1, st1⟩ := p
        cases e with
        | normal =>
          dsimp only
          cases B L1 st1 <;> rfl
        | _ => rfl
theorem roundX_ok {P : Program} {ex : Nat} {A B : SL → St → Option XR} {B1 : BaseP} {l nt : Nat} {rec : LoopRec} {L0 : SL} (hA : XOk P ex rec.assign A) (hB : XOk P ex rec.body B) (hps : rec.params.toList.all (fun t => Nat.blt t nt) = true)
    (hs1 : slotsIn nt rec.assign = true) (hs2 : slotsIn nt rec.body = true) (hp1 : rec.assign.plainR = true) (hp2 : rec.body.plainR = true) (hw0 : Within ex L0) (hL0 : ∀ g h w, Base B1 g h w → RelSL g w nt L0 rec.tmps) :
    RndX P l rec (roundX ex A B rec.params.toList L0) B1 := by
  intro N args q g st w vs hlo hnr hc hargs hl hu hR
  unfold roundX at hR
  cases hlen : Nat.beq args.length rec.params.toList.length with
  | false => rw [hlen] at hR; cases hR
  | true =>
  rw [hlen, cond_true] at hR
  have hlen := Nat.eq_of_beq_eq_true hlen
  have hvl : vs.length = args.length := hargs.1
  have hsz : args.length = rec.params.size := hlen.trans (Array.length_toList ..)
  have hy := run_yield (P := P) (args := vs.toArray) hl (by show vs.toArray.size = rec.params.size; rw [List.size_toArray, hvl, hsz])
  refine ⟨_, _, _, _, hy, roundIn_of_wpIn trivial ?_⟩
  have hB2 := hc.at' st.nx (fun _ => False) (Nat.le_refl _) (far := B1.far) (fun _ h => h)
  have hrel := putArgs_rel rec.params.toList args vs L0 rec.tmps hps hlen hargs (hL0 _ _ _ hc.base)
  have hput := putX_less ex rec.params.toList args L0 L0 hw0 (fun t => .inl rfl)
  have hfold : (((rec.at none).params.zip vs.toArray).foldl (fun tmps (x : Tmp × Value) => tmps.setIfInBounds x.1 x.2) (rec.at none).tmps) = ((rec.params.toList.zip vs).foldl (fun t (x : Tmp × Value) => t.setIfInBounds x.1 x.2) rec.tmps) := by
    rw [← Array.foldl_toList]
    simp [LoopRec.at]
  cases hrA : A (putX ex rec.params.toList args L0) st with
  | none => rw [hrA] at hR; cases hR
  | some p =>
  obtain ⟨e1, L1, st1⟩ := p
  rw [hrA] at hR
  simp only at hR
  have hlo1 := hA.low hrA hlo
  have hle1 := hA.le hrA hlo
  have hle2 : (e1, L1, st1).2.2.nx ≤ q.2.nx := by
    cases e1 with
    | normal =>
      simp only at hR
      cases hrB : B L1 st1 with
      | none => rw [hrB] at hR; cases hR
      | some p => rw [hrB] at hR; cases hR; exact hB.le hrB hlo1
    | _ => cases hR
  have h1 := hA.wp (some l) N (baseAt g st.h w st.nx (fun _ => False) B1.far) nt (Nat.zero_le _) (.inr hp1) hs1 _ _ _ g w { tmps := ((rec.at none).params.zip vs.toArray).foldl (fun tmps (x : Tmp × Value) => tmps.setIfInBounds x.1 x.2) (rec.at none).tmps, defers := [] } hrA hput.2 hlo (hnr.sub (Nat.le_refl _) hle2) hB2
    (by show RelSL g w nt _ (((rec.at none).params.zip vs.toArray).foldl (fun tmps (x : Tmp × Value) => tmps.setIfInBounds x.1 x.2) (rec.at none).tmps); rw [hfold]; exact hrel.less hput.1) (Marks.nil _ _ _ _)
  refine wpIn_mono h1 ?_
  rintro exx a1 w1 ⟨e, L1', st1', g1, rfl, hq, hc1, hr1, hd1⟩
  cases hq
  cases e1 with
  | exit id => cases hR
  | ret => cases hR
  | normal =>
    simp only at hR
    cases hrB : B L1 st1 with
    | none => rw [hrB] at hR; cases hR
    | some p =>
    obtain ⟨e3, L3, st3⟩ := p
    rw [hrB] at hR
    cases hR
    have hun := hc1.base.unowned (lt_of_heap hl) hu (fun h => h)
    have hl1 := hun.2.trans hl
    refine ⟨_, run_beginRound hl1 rfl, ?_⟩
    have hw1 : Cur (baseAt g st.h w st.nx (· = l) B1.far) g1 st1 w1 := ⟨hc1.ok, hc1.fresh, hc1.base.wider (fun _ h => h.elim), hc1.pin⟩
    have hp2' := put_loop (r' := { rec.at none with state := .busy }) hw1 hl1 hun.1 (.inl rfl)
    have hB3 := hp2'.1.at' st.nx (fun _ => False) hc1.pin (far := B1.far) (fun _ h => h)
    have hwi : Within ex L1 := hA.within _ _ _ hrA hput.2
    have h2 := hB.wp (some l) N (baseAt g1 st1.h (putB w1 l (.loop { rec.at none with state := .busy })) st.nx (fun _ => False) B1.far) nt (Nat.zero_le _) (.inr hp2) hs2 _ _ _ g1 _ a1 hrB hwi hlo1 (hnr.sub hle1 (Nat.le_refl _)) hB3 (hr1.ext hp2'.2) (hd1.put_loop hl1)
    refine wpIn_mono h2 ?_
    rintro exx a3 w3 ⟨e, L3', st3', g3, rfl, hq3, hc3, hr3, hd3⟩
    cases hq3
    have hl2 : (putB w1 l (.loop { rec.at none with state := .busy })).heap[l]? = some (.loop { rec.at none with state := .busy }) := putB_same _ (lt_of_heap hl1)
    have hun3 := hc3.base.unowned (lt_of_heap hl2) hun.1 (fun h => h)
    have hl3 := hun3.2.trans hl2
    have hc3' : Cur (baseAt g st.h w st.nx (· = l) B1.far) g3 st3 w3 := ⟨hc3.ok, hc3.fresh, hp2'.1.base.comp hc3.base (Nat.le_refl _) (fun _ h => h) (fun _ h => h.elim), hc3.pin⟩
    cases e3 with
    | normal =>
      refine ⟨_, _, run_endRound none hl3, g3, rfl, (put_loop (r' := rec.at none) hc3' hl3 hun3.1 (.inl rfl)).1, putB_same _ (lt_of_heap hl3), hun3.1⟩
    | ret =>
      refine ⟨_, _, run_endRound (some .ret) hl3, g3, rfl, (put_loop (r' := rec.at (some .ret)) hc3' hl3 hun3.1 (.inl rfl)).1, putB_same _ (lt_of_heap hl3), hun3.1⟩
    | exit id =>
      refine ⟨_, _, run_endRound (some (.exit id)) hl3, g3, rfl, (put_loop (r' := rec.at (some (.exit id))) hc3' hl3 hun3.1 (.inl rfl)).1, putB_same _ (lt_of_heap hl3), hun3.1⟩

/-! ### An iterator's code -/
def reI (X : St → Option XIR) : M (Ex × Option Ex × SL) := fun st =>
  match X st with
  | some q => some ((q.1, q.2.1, q.2.2.1), q.2.2.2)
  | none => none
theorem reI_some {X : St → Option XIR} {st : St} {q : XIR} (h : X st = some q) : reI X st = some ((q.1, q.2.1, q.2.2.1), q.2.2.2) := by unfold reI; rw [h]
structure XIOk (P : Program) (ex l : Nat) (rec : LoopRec) (B : BaseP) (c : Code) (X : Option Ex → SL → St → Option XIR) : Prop where
  within : ∀ pe L st q, X pe L st = some q → Within ex L → Within ex q.2.2.1
  framed : ∀ pe L, Framed (reI (X pe L))
  wp : ∀ (N nt : Nat), slotsIn nt c = true → ∀ pe L st q g w a, X pe L st = some q → Within ex L → Low st → B.Near st.nx q.2.2.2.nx → Cur B g st w → RelSL g w nt L a.tmps → a.defers = [] → w.heap[l]? = some (.loop (rec.at pe)) → Unowned g st.h l →
    c.wpIn (fence none) N P (FinI B nt l rec (fun e pe L st => (e, pe, L, st) = q)) a w

theorem yieldX_some {y : Nat} {o : Oper} {L : SL} {args : Array Operand} (h : yieldX y o L = some args) : ∃ f ts, o.op = .call { callee := .value f, args, argTypes := ts } ∧ evL L f = .yl y := by
  unfold yieldX at h
  split at h
  · rename_i f args' ts he
    split at h
    · rename_i k hk
      by_cases e : k = y
      · subst e
        rw [Nat.beq_refl, cond_true] at h
        cases h
        exact ⟨f, ts, he, hk⟩
      · rw [beq_no e] at h; cases h
    · cases h
  · cases h
theorem rel_yl {g w y v l} (h : Rel g w (.yl y) v) (hy : g.inj y = some (l, 0)) : v = .func (.yield l) #[] #[] := by
  cases h with
  | yl o b base hi => rw [hy] at hi; cases hi; rfl

theorem prepIOs_lk {P : Program} {look : Look} {ops : Array Oper} {y : Nat} {R : RX} {t : Nat} : ∀ (l : List Oper) (pe : Option Ex) (L : SL) (st : St) (p : Option Ex × SL × St), (prepIOs P ops l).run look y R pe L st = some p → (∀ o ∈ l, o.dst ≠ some t) → lk p.2.1 t = lk L t := by
  intro l
  induction l with
  | nil => intro pe L st p h _; cases h; rfl
  | cons o l ih =>
    intro pe L st p h hn
    change (match xoneI P look ops y R o pe L st with | some p => (prepIOs P ops l).run look y R p.1 p.2.1 p.2.2 | none => none) = some p at h
    cases h1 : xoneI P look ops y R o pe L st with
    | none => rw [h1] at h; cases h
    | some q =>
      rw [h1] at h
      rw [ih _ _ _ p h (fun o ho => hn o (by simp [ho]))]
      have hq : ∃ v, q.2.1 = putL o.dst v L := by
        unfold xoneI at h1
        split at h1
        · split at h1
          · split at h1
            · split at h1
              · cases h1; exact ⟨_, rfl⟩
              · cases h1
            · cases h1
          · split at h1
            · cases h1; exact ⟨_, rfl⟩
            · cases h1
        · cases h1; exact ⟨_, rfl⟩
        · cases h1
      obtain ⟨v, hv⟩ := hq
      rw [hv, lk_put, if_neg (hn o (by simp))]

section iter
variable {P : Program} {look : Look} {ex l y : Nat} {rec : LoopRec} {B : BaseP} {R : RX}

theorem xoneI_framed (hl : LookFr look) (hRf : ∀ args, Framed (α := Ex) (R args)) (ops : Array Oper) (o : Oper) (pe : Option Ex) (L : SL) : Framed (reM (xoneI P look ops y R o pe L)) := by
  cases hg : gval ops L o with
  | none => exact Framed.fail.congr (fun st => by unfold reM xoneI; rw [hg]; rfl)
  | some b =>
    cases b with
    | false => exact (Framed.pure (pe, putL o.dst (.sc undef) L)).congr (fun st => by unfold reM xoneI; rw [hg]; rfl)
    | true =>
      cases hy : yieldX y o L with
      | none =>
        refine (Framed.bind (prepA_framed_of (operX_framed (P := P) hl (o := o) (ρ := evL L))) (fun v => Framed.pure (pe, putL o.dst v L))).congr (fun st => ?_)
        unfold reM xoneI M.bind
        rw [hg, hy]
        dsimp only
        cases (prepA P o).run look (evL L) st <;> rfl
      | some args =>
        cases pe with
        | some e => exact Framed.fail.congr (fun st => by unfold reM xoneI; rw [hg, hy]; rfl)
        | none =>
          refine (Framed.bind (hRf (args.toList.map (evL L))) (fun e => Framed.pure (afterOf e, putL o.dst (.sc (.bool (isNormal e))) L))).congr (fun st => ?_)
          unfold reM xoneI M.bind
          rw [hg, hy]
          dsimp only
          cases R (args.toList.map (evL L)) st <;> rfl
theorem prepIOs_framed (hl : LookFr look) (hRf : ∀ args, Framed (α := Ex) (R args)) (ops : Array Oper) : ∀ (l : List Oper) (pe : Option Ex) (L : SL), Framed (reM ((prepIOs P ops l).run look y R pe L)) := by
  intro l
  induction l with
  | nil => intro pe L; exact Framed.pure (pe, L)
  | cons o l ih =>
    intro pe L
    refine (Framed.bind (xoneI_framed (P := P) (y := y) hl hRf ops o pe L) (fun p => ih p.1 p.2)).congr (fun st => ?_)
    show reM (fun st => match xoneI P look ops y R o pe L st with
    | some p => (prepIOs P ops l).run look y R p.1 p.2.1 p.2.2
    | none => none) st = _
    unfold reM M.bind
    dsimp only
    cases xoneI P look ops y R o pe L st <;> rfl
theorem prepIOs_ok (hF : LookFr look) (hRf : ∀ args, Framed (α := Ex) (R args)) (hT : TabOkF P (tabX look)) (hR : RndX P l rec R B) (hO : B.O l) (hy : y < B.pin ∧ B.pb y = some (l, 0)) {ops : Array Oper} {N nt : Nat} {Q : Exit → Act → World → Prop} (hg : guardsIn nt ops = true) (hd : dstsIn nt ops = true) {q : Option Ex × SL × St}
    (hK : ∀ g w (a : Act), Cur B g q.2.2 w → RelSL g w nt q.2.1 a.tmps → a.defers = [] → w.heap[l]? = some (.loop (rec.at q.1)) → Unowned g q.2.2.h l → Q .normal a w) :
    ∀ (ls : List Oper) (is : List Nat), (∀ o ∈ ls, o ∈ ops) → is.map (fun i => ops[i]?) = ls.map some → ∀ pe L st g w a, (prepIOs P ops ls).run look y R pe L st = some q → Low st → B.Near st.nx q.2.2.nx → Cur B g st w → RelSL g w nt L a.tmps → a.defers = [] →
      w.heap[l]? = some (.loop (rec.at pe)) → Unowned g st.h l → wpOpsIn (fence none) N P ops Q is a w := by
  intro ls
  induction ls with
  | nil =>
    intro is _ his pe L st g w a h hlo hn hc hr hdf hl hu
    cases is with
    | nil => cases h; exact hK g w a hc hr hdf hl hu
    | cons i is => cases his
  | cons o ls ih =>
    intro is hmem his pe L st g w a h hlo hn hc hr hdf hl hu
    cases is with
    | nil => cases his
    | cons i is =>
      simp only [List.map_cons, List.cons.injEq] at his
      obtain ⟨hi, his⟩ := his
      have ho := hmem o (by simp)
      have hmem' : ∀ o ∈ ls, o ∈ ops := fun o ho => hmem o (by simp [ho])
      change (match xoneI P look ops y R o pe L st with | some p => (prepIOs P ops ls).run look y R p.1 p.2.1 p.2.2 | none => none) = some q at h
      cases h1 : xoneI P look ops y R o pe L st with
      | none => rw [h1] at h; cases h
      | some p =>
      have hlo' : Low p.2.2 := (xoneI_framed (P := P) (y := y) hF hRf ops o pe L).low hlo (reM_some h1)
      have hle1 : st.nx ≤ p.2.2.nx := (xoneI_framed (P := P) (y := y) hF hRf ops o pe L st _ _ hlo (reM_some h1)).1
      rw [h1] at h
      simp only at h
      have hle2 : p.2.2.nx ≤ q.2.2.nx := (prepIOs_framed (P := P) (y := y) hF hRf ops ls p.1 p.2.1 _ _ _ hlo' (reM_some h)).1
      simp only [wpOpsIn, hi]
      unfold xoneI at h1
      cases hb : gval ops L o with
      | none => rw [hb] at h1; cases h1
      | some b =>
      rw [hb] at h1
      have hw : Region.wanted o (yielded ops a.tmps) = b := wanted_val hr.1 (guard_in hg ho) (fun j c _ => hr.2 _) hb
      rw [hw]
      cases b with
      | true =>
        rw [if_pos rfl]
        simp only at h1
        cases hyl : yieldX y o L with
        | none =>
          rw [hyl] at h1
          simp only at h1
          rw [prepA_eq, operX_eq] at h1
          cases hop : operL P (tabX look) o (evL L) st with
          | none => rw [hop] at h1; cases h1
          | some r =>
            obtain ⟨v, st'⟩ := r
            rw [hop] at h1
            cases h1
            refine operL_okF hT hc.ok (hc.free (hn.sub (Nat.le_refl _) hle2)) hlo hr.eval hop none N _ _ ?_
            rintro u w' ⟨g', q1, q2, q3⟩
            have hun := Unowned.step q1 (lt_of_heap hl) hu
            exact ih is hmem' his pe _ st' g' w' _ h hlo' (hn.sub hle1 (Nat.le_refl _)) (hc.step (hn.sub (Nat.le_refl _) hle2) ⟨operL_le hop, q1⟩ q2) ((hr.ext q1.ext).put q3 (dst_in hd ho)) (by rw [put_defers]; exact hdf) (hun.2.trans hl) hun.1
        | some args =>
          rw [hyl] at h1
          simp only at h1
          cases pe with
          | some e => cases h1
          | none =>
          simp only at h1
          cases hrr : R (args.toList.map (evL L)) st with
          | none => rw [hrr] at h1; cases h1
          | some r =>
          rw [hrr] at h1
          cases h1
          obtain ⟨f, ts, he, hev⟩ := yieldX_some hyl
          have hfv : a.eval f = .func (.yield l) #[] #[] := by
            have := hr.eval f
            rw [hev] at this
            exact rel_yl this ((hc.base.pins y (.inl hy.1)).trans hy.2)
          have hargs := hr.eval.list args.toList
          obtain ⟨fn, tmps, asg, body, hrun, hround⟩ := hR (N - 1) _ _ _ _ _ _ hlo (hn.sub (Nat.le_refl _) hle2) hc hargs hl hu hrr
          refine ⟨about_fence none P o a w, ?_⟩
          rw [Oper.semAt_eq _ _ _ (not_defer he), yield_run he hfv, show args.map a.eval = (args.toList.map a.eval).toArray from (by apply Array.ext'; simp), hrun]
          refine ⟨(fun h => (by cases h)), hround.mono ?_⟩
          rintro e w' ⟨g', rfl, hc', hl', hu'⟩
          have hext := hc'.base.ext_at hc.fresh
          have hcB : Cur B g' r.2 w' := ⟨hc'.ok, hc'.fresh, hc.base.comp hc'.base hc.pin (fun _ h => h) (fun n hn => by subst hn; exact .inr hO), Nat.le_trans hc.pin hc'.pin⟩
          have hr' := (hr.ext hext).put (.sc (.bool (isNormal r.1))) (dst_in hd ho)
          show wpOpsIn (fence none) N P ops Q is (a.put o.dst (.bool (isNormal r.1))) w'
          exact ih is hmem' his _ _ r.2 g' w' _ h hlo' (hn.sub hle1 (Nat.le_refl _)) hcB hr' (by rw [put_defers]; exact hdf) hl' hu'
      | false =>
        simp only at h1
        cases h1
        rw [if_neg (by simp)]
        refine ⟨about_fence none P o a w, ?_⟩
        exact ih is hmem' his pe _ st g w _ h hlo hn hc (hr.put (.sc _) (dst_in hd ho)) (by rw [put_defers]; exact hdf) hl hu

theorem thenI_some {B : Option Ex → SL → St → Option XIR} {r : Option XIR} {q : XIR} (h : thenI B r = some q) : (∃ pe L st, r = some (.normal, pe, L, st) ∧ B pe L st = some q) ∨ (r = some q ∧ q.1 ≠ .normal) := by
  unfold thenI at h
  cases r with
  | none => cases h
  | some p =>
    obtain ⟨e, pe, L, st⟩ := p
    simp only at h
    cases e with
    | normal => exact .inl ⟨pe, L, st, rfl, h⟩
    | exit id => cases h; exact .inr ⟨rfl, fun h => by cases h⟩
    | ret => cases h; exact .inr ⟨rfl, fun h => by cases h⟩
theorem thenI_framed {X : St → Option XIR} {B : Option Ex → SL → St → Option XIR} (hX : Framed (reI X)) (hB : ∀ pe L, Framed (reI (B pe L))) : Framed (reI fun st => thenI B (X st)) := by
  refine (Framed.bind hX (fun p : Ex × Option Ex × SL => (?_ : Framed (match p.1 with | .normal => reI (B p.2.1 p.2.2) | e => M.pure (e, p.2))))).congr (fun st => ?_)
  · split
    · exact hB _ _
    · exact Framed.pure _
  · unfold reI M.bind thenI
    dsimp only
    cases X st with
    | none => rfl
    | some q =>
      obtain ⟨e, pe, L, st1⟩ := q
      cases e <;> rfl
theorem loopI_framed {X : Option Ex → SL → St → Option XIR} (h : ∀ pe L, Framed (reI (X pe L))) : ∀ (n : Nat) (pe : Option Ex) (L : SL), Framed (reI (loopI X n pe L))
  | 0, _pe, _L => Framed.fail.congr (fun _st => rfl)
  | n + 1, pe, L => (thenI_framed (h pe (pruneL L 0)) (loopI_framed h n)).congr (fun _st => rfl)
theorem XIOk.le {c : Code} {X : Option Ex → SL → St → Option XIR} (h : XIOk P ex l rec B c X) {pe : Option Ex} {L : SL} {st : St} {q : XIR} (hx : X pe L st = some q) (hl : Low st) : st.nx ≤ q.2.2.2.nx := (h.framed pe L st _ _ hl (reI_some hx)).1
theorem XIOk.low {c : Code} {X : Option Ex → SL → St → Option XIR} (h : XIOk P ex l rec B c X) {pe : Option Ex} {L : SL} {st : St} {q : XIR} (hx : X pe L st = some q) (hl : Low st) : Low q.2.2.2 := (h.framed pe L).low hl (reI_some hx)
theorem loopI_ok {c : Code} {X : Option Ex → SL → St → Option XIR} (h : XIOk P ex l rec B c X) (n : Nat) : XIOk P ex l rec B (.loop c) (loopI X n) := by
  have hw' : ∀ L, Within ex L → Within ex (pruneL L 0) := fun L hw t ht => by rw [prune_zero]; exact hw t ht
  refine ⟨?_, loopI_framed h.framed n, ?_⟩
  · induction n with
    | zero => intro pe L st q hx; cases hx
    | succ n ih =>
      intro pe L st q hx hw
      change thenI (loopI X n) (X pe (pruneL L 0) st) = some q at hx
      rcases thenI_some hx with ⟨pe1, L1, st1, h1, h2⟩ | ⟨h1, _⟩
      · exact ih _ _ _ _ h2 (h.within _ _ _ _ h1 (hw' L hw))
      · exact h.within _ _ _ _ h1 (hw' L hw)
  · intro N nt hs pe L st q g w a hx hw hlo hnr hc hr hd hl hu
    refine wpIn_loop_least fun Y hY => ?_
    induction n generalizing pe L st g w a with
    | zero => cases hx
    | succ n ih =>
      change thenI (loopI X n) (X pe (pruneL L 0) st) = some q at hx
      have hr' : RelSL g w nt (pruneL L 0) a.tmps := ⟨hr.1, fun t => by rw [prune_zero]; exact hr.2 t⟩
      rcases thenI_some hx with ⟨pe1, L1, st1, h1, h2⟩ | ⟨h1, h2⟩
      · have hlo1 := h.low h1 hlo
        have hle1 := h.le h1 hlo
        have hle2 : st1.nx ≤ q.2.2.2.nx := (loopI_framed h.framed n pe1 L1 st1 _ _ hlo1 (reI_some h2)).1
        refine hY a w (wpIn_mono (h.wp N nt hs _ _ _ _ g w a h1 (hw' L hw) hlo (hnr.sub (Nat.le_refl _) hle2) hc hr' hd hl hu) ?_)
        rintro exx a1 w1 ⟨e1, pe1', L1', st1', g1, rfl, he, hc1, hr1, hd1, hl1, hu1⟩
        cases he
        exact ih pe1 L1 st1 g1 w1 a1 h2 (h.within _ _ _ _ h1 (hw' L hw)) hlo1 (hnr.sub hle1 (Nat.le_refl _)) hc1 hr1 hd1 hl1 hu1
      · refine hY a w (wpIn_mono (h.wp N nt hs _ _ _ _ g w a h1 (hw' L hw) hlo hnr hc hr' hd hl hu) ?_)
        rintro exx a1 w1 ⟨e1, pe1, L1, st1, g1, rfl, he, hc1, hr1, hd1, hl1, hu1⟩
        subst he
        cases e1 with
        | normal => exact (h2 rfl).elim
        | exit id => exact ⟨.exit id, pe1, L1, st1, g1, rfl, rfl, hc1, hr1, hd1, hl1, hu1⟩
        | ret => exact ⟨.ret, pe1, L1, st1, g1, rfl, rfl, hc1, hr1, hd1, hl1, hu1⟩

theorem prepI_ok (hT : TabOkF P (tabX look)) (hlk : LookFr look) (hRf : ∀ args, Framed (α := Ex) (R args)) (hm : P.follows .mixedOrders = true) (hR : RndX P l rec R B) (hO : B.O l) (hy : y < B.pin ∧ B.pb y = some (l, 0)) (n : Nat) : ∀ c : Code, XIOk P ex l rec B c ((prepI P ex c).run look n y R) := by
  intro c
  induction c with
  | skip => exact ⟨fun pe L st q h hw => by cases h; exact hw, fun pe L => Framed.pure (Ex.normal, pe, L), fun N nt _ pe L st q g w a h hw hlo hnr hc hr hd hl hu => by cases h; exact wpIn_skip (FinI.mk' (e := .normal) rfl hc hr hd hl hu)⟩
  | label k => exact ⟨fun pe L st q h hw => by cases h; exact hw, fun pe L => Framed.pure (Ex.normal, pe, L), fun N nt _ pe L st q g w a h hw hlo hnr hc hr hd hl hu => by cases h; exact wpIn_label (FinI.mk' (e := .normal) rfl hc hr hd hl hu)⟩
  | exit id => exact ⟨fun pe L st q h hw => by cases h; exact hw, fun pe L => Framed.pure (Ex.exit id, pe, L), fun N nt _ pe L st q g w a h hw hlo hnr hc hr hd hl hu => by cases h; exact wpIn_exit (FinI.mk' (e := .exit id) rfl hc hr hd hl hu)⟩
  | ret => exact ⟨fun pe L st q h hw => by cases h; exact hw, fun pe L => Framed.pure (Ex.ret, pe, L), fun N nt _ pe L st q g w a h hw hlo hnr hc hr hd hl hu => by cases h; exact wpIn_ret (FinI.mk' (e := .ret) rfl hc hr hd hl hu)⟩
  | region id ops draw =>
    cases draw with
    | false =>
      have key : ∀ pe L st q, (prepI P ex (.region id ops false)).run look n y R pe L st = some q → ∃ p, (prepIOs P ops ops.toList).run look y R pe L st = some p ∧ q = (.normal, p.1, keepL (keysOf ex ops) p.2.1 L, p.2.2) := by
        intro pe L st q h
        change (match (prepIOs P ops ops.toList).run look y R pe L st with
          | some p => some (Ex.normal, p.1, keepL (keysOf ex ops) p.2.1 L, p.2.2)
          | none => none) = some q at h
        cases h1 : (prepIOs P ops ops.toList).run look y R pe L st with
        | none => rw [h1] at h; cases h
        | some p => rw [h1] at h; cases h; exact ⟨p, rfl, rfl⟩
      refine ⟨fun pe L st q h hw => ?_, ?_, fun N nt hs pe L st q g w a h hw hlo hnr hc hr hd hl hu => ?_⟩
      · obtain ⟨p, h1, rfl⟩ := key pe L st q h
        exact (region_less hw (fun t ht => prepIOs_lk (t := t) _ _ _ _ _ h1 ht)).2
      · intro pe L
        refine (Framed.bind (prepIOs_framed (P := P) (y := y) hlk hRf ops ops.toList pe L) (fun p => Framed.pure (Ex.normal, p.1, keepL (keysOf ex ops) p.2 L))).congr (fun st => ?_)
        show reI (fun st => match (prepIOs P ops ops.toList).run look y R pe L st with
          | some p => some (Ex.normal, p.1, keepL (keysOf ex ops) p.2.1 L, p.2.2)
          | none => none) st = _
        unfold reI reM M.bind
        dsimp only
        cases (prepIOs P ops ops.toList).run look y R pe L st <;> rfl
      · obtain ⟨p, h1, rfl⟩ := key pe L st q h
        have hls := region_less hw (fun t ht => prepIOs_lk (t := t) _ _ _ _ _ h1 ht)
        simp only [slotsIn, Bool.and_eq_true] at hs
        exact wpIn_region (prepIOs_ok hlk hRf hT hR hO hy hs.2 hs.1 (fun g w a hc hr hd hl hu => FinI.mk' (e := .normal) rfl hc (hr.less hls.1) hd hl hu) ops.toList _ (by simp) (range_ops ops) pe L st g w a h1 hlo hnr hc hr hd hl hu)
    | true =>
      have key : ∀ pe L st q, (prepI P ex (.region id ops true)).run look n y R pe L st = some q → ∃ p, (prepR P ex ops true).run look n L st = some p ∧ q = (p.1, pe, p.2.1, p.2.2) := by
        intro pe L st q h
        change (match (prepR P ex ops true).run look n L st with
          | some q => some (q.1, pe, q.2.1, q.2.2)
          | none => none) = some q at h
        cases h1 : (prepR P ex ops true).run look n L st with
        | none => rw [h1] at h; cases h
        | some p => rw [h1] at h; cases h; exact ⟨p, rfl, rfl⟩
      refine ⟨fun pe L st q h hw => ?_, ?_, fun N nt hs pe L st q g w a h hw hlo hnr hc hr hd hl hu => ?_⟩
      · obtain ⟨p, h1, rfl⟩ := key pe L st q h
        exact (prepR_less h1 hw).2.1
      · intro pe L
        refine (Framed.bind (prepR_framed (P := P) hlk ex ops true n L) (fun p => Framed.pure (p.1, pe, p.2))).congr (fun st => ?_)
        show reI (fun st => match (prepR P ex ops true).run look n L st with
          | some q => some (q.1, pe, q.2.1, q.2.2)
          | none => none) st = _
        unfold reI reX reM M.bind
        dsimp only
        cases (prepR P ex ops true).run look n L st <;> rfl
      · obtain ⟨p, h1, rfl⟩ := key pe L st q h
        have e1 := (prepR_less h1 hw).1
        have hc0 := hc.at' B.pin (fun _ => False) hc.pin (far := B.far) (fun _ h => h)
        refine prepR_wp hT hlk hm (B := baseAt g st.h w B.pin (fun _ => False) B.far) hs h1 hw hlo hnr hc0 hr (by rw [hd]; exact Marks.nil _ _ _ _) (fun g' w' a' hc' hr' _ hdd => ?_)
        have hun := hc'.base.unowned (lt_of_heap hl) hu (fun h => h)
        exact FinI.mk' (e := .normal) (by rw [e1]) ⟨hc'.ok, hc'.fresh, hc.base.comp hc'.base (Nat.le_refl _) (fun _ h => h) (fun _ h => h.elim), hc'.pin⟩ hr' (hdd.trans hd) (hun.2.trans hl) hun.1
  | seq x z ihx ihy =>
    refine ⟨fun pe L st q h hw => ?_, ?_, fun N nt hs pe L st q g w a h hw hlo hnr hc hr hd hl hu => ?_⟩
    · rcases thenI_some h with ⟨pe1, L1, st1, h1, h2⟩ | ⟨h1, _⟩
      · exact ihy.within _ _ _ _ h2 (ihx.within _ _ _ _ h1 hw)
      · exact ihx.within _ _ _ _ h1 hw
    · intro pe L; exact (thenI_framed (ihx.framed pe L) ihy.framed).congr (fun st => rfl)
    · simp only [slotsIn, Bool.and_eq_true] at hs
      refine wpIn_seq ?_
      rcases thenI_some h with ⟨pe1, L1, st1, h1, h2⟩ | ⟨h1, h2⟩
      · have hlo1 := ihx.low h1 hlo
        have hle1 := ihx.le h1 hlo
        have hle2 := ihy.le h2 hlo1
        refine wpIn_mono (ihx.wp N nt hs.1 _ _ _ _ g w a h1 hw hlo (hnr.sub (Nat.le_refl _) hle2) hc hr hd hl hu) ?_
        rintro exx a1 w1 ⟨e1, pe1', L1', st1', g1, rfl, he, hc1, hr1, hd1, hl1, hu1⟩
        cases he
        exact ihy.wp N nt hs.2 _ _ _ _ g1 w1 a1 h2 (ihx.within _ _ _ _ h1 hw) hlo1 (hnr.sub hle1 (Nat.le_refl _)) hc1 hr1 hd1 hl1 hu1
      · refine wpIn_mono (ihx.wp N nt hs.1 _ _ _ _ g w a h1 hw hlo hnr hc hr hd hl hu) ?_
        rintro exx a1 w1 ⟨e1, pe1, L1, st1, g1, rfl, he, hc1, hr1, hd1, hl1, hu1⟩
        subst he
        cases e1 with
        | normal => exact (h2 rfl).elim
        | exit id => exact ⟨.exit id, pe1, L1, st1, g1, rfl, rfl, hc1, hr1, hd1, hl1, hu1⟩
        | ret => exact ⟨.ret, pe1, L1, st1, g1, rfl, rfl, hc1, hr1, hd1, hl1, hu1⟩
  | cond c x z ihx ihy =>
    have key : ∀ pe L st q, (prepI P ex (.cond c x z)).run look n y R pe L st = some q → ∃ v, (evL L c).bool = some v ∧ (v = true → (prepI P ex x).run look n y R pe L st = some q) ∧ (v = false → (prepI P ex z).run look n y R pe L st = some q) := by
      intro pe L st q h
      change (match (evL L c).bool with
        | some b => bif b then (prepI P ex x).run look n y R pe L st else (prepI P ex z).run look n y R pe L st
        | none => none) = some q at h
      cases hb : (evL L c).bool with
      | none => rw [hb] at h; cases h
      | some v =>
        rw [hb] at h
        exact ⟨v, rfl, fun e => by subst e; exact h, fun e => by subst e; exact h⟩
    refine ⟨fun pe L st q h hw => ?_, ?_, fun N nt hs pe L st q g w a h hw hlo hnr hc hr hd hl hu => ?_⟩
    · obtain ⟨v, _, h1, h2⟩ := key pe L st q h
      cases v with
      | true => exact ihx.within _ _ _ _ (h1 rfl) hw
      | false => exact ihy.within _ _ _ _ (h2 rfl) hw
    · intro pe L
      cases hb : (evL L c).bool with
      | none =>
        refine Framed.fail.congr (fun st => ?_)
        show reI (fun st => match (evL L c).bool with | some b => _ | none => none) st = _
        unfold reI; rw [hb]; rfl
      | some v =>
        cases v with
        | true =>
          refine (ihx.framed pe L).congr (fun st => ?_)
          show reI (fun st => match (evL L c).bool with
            | some b => bif b then (prepI P ex x).run look n y R pe L st else (prepI P ex z).run look n y R pe L st
            | none => none) st = _
          unfold reI; rw [hb]; rfl
        | false =>
          refine (ihy.framed pe L).congr (fun st => ?_)
          show reI (fun st => match (evL L c).bool with
            | some b => bif b then (prepI P ex x).run look n y R pe L st else (prepI P ex z).run look n y R pe L st
            | none => none) st = _
          unfold reI; rw [hb]; rfl
    · obtain ⟨v, hv, h1, h2⟩ := key pe L st q h
      simp only [slotsIn, Bool.and_eq_true] at hs
      have hev := bool_exact (hr.eval c) hv
      cases v with
      | true => exact wpIn_cond_true hev (ihx.wp N nt hs.1 _ _ _ _ g w a (h1 rfl) hw hlo hnr hc hr hd hl hu)
      | false => exact wpIn_cond_false hev (ihy.wp N nt hs.2 _ _ _ _ g w a (h2 rfl) hw hlo hnr hc hr hd hl hu)
  | block id x ih =>
    have key : ∀ pe L st q, (prepI P ex (.block id x)).run look n y R pe L st = some q → ∃ p, (prepI P ex x).run look n y R pe L st = some p ∧ q = (outX id p.1, p.2) := by
      intro pe L st q h
      change (match (prepI P ex x).run look n y R pe L st with
        | some p => some (outX id p.1, p.2)
        | none => none) = some q at h
      cases h1 : (prepI P ex x).run look n y R pe L st with
      | none => rw [h1] at h; cases h
      | some p => rw [h1] at h; cases h; exact ⟨p, rfl, rfl⟩
    refine ⟨fun pe L st q h hw => ?_, ?_, fun N nt hs pe L st q g w a h hw hlo hnr hc hr hd hl hu => ?_⟩
    · obtain ⟨p, h1, rfl⟩ := key pe L st q h
      have := ih.within pe L st p h1 hw
      exact this
    · intro pe L
      refine (Framed.bind (ih.framed pe L) (fun p => Framed.pure (outX id p.1, p.2))).congr (fun st => ?_)
      show reI (fun st => match (prepI P ex x).run look n y R pe L st with
        | some p => some (outX id p.1, p.2)
        | none => none) st = _
      unfold reI M.bind
      dsimp only
      cases (prepI P ex x).run look n y R pe L st <;> rfl
    · obtain ⟨p, h1, rfl⟩ := key pe L st q h
      refine wpIn_block (wpIn_mono (ih.wp N nt hs _ _ _ _ g w a h1 hw hlo hnr hc hr hd hl hu) ?_)
      rintro exx a1 w1 ⟨e1, pe1, L1, st1, g1, rfl, he, hc1, hr1, hd1, hl1, hu1⟩
      subst he
      cases e1 with
      | normal => exact ⟨.normal, pe1, L1, st1, g1, rfl, rfl, hc1, hr1, hd1, hl1, hu1⟩
      | ret => exact ⟨.ret, pe1, L1, st1, g1, rfl, rfl, hc1, hr1, hd1, hl1, hu1⟩
      | exit j =>
        simp only [outX]
        by_cases e : j = id
        · subst e
          simp only [Nat.beq_refl, cond_true]
          simp only [exitOf, Exit.inBlock, if_true]
          exact ⟨.normal, pe1, L1, st1, g1, rfl, rfl, hc1, hr1, hd1, hl1, hu1⟩
        · rw [beq_no e, cond_false]
          simp only [exitOf, Exit.inBlock, if_neg e]
          exact ⟨.exit j, pe1, L1, st1, g1, rfl, rfl, hc1, hr1, hd1, hl1, hu1⟩
  | loop x ih => exact loopI_ok ih n
  | scope x ih => exact ⟨fun pe L st q h => (by cases h), fun pe L => Framed.fail, fun N nt _ pe L st q g w a h => (by cases h)⟩
  | rangeFunc f ps asg body _ _ => exact ⟨fun pe L st q h => (by cases h), fun pe L => Framed.fail, fun N nt _ pe L st q g w a h => (by cases h)⟩
  | goto k => exact ⟨fun pe L st q h => (by cases h), fun pe L => Framed.fail, fun N nt _ pe L st q g w a h => (by cases h)⟩
  | refuse why => exact ⟨fun pe L st q h => (by cases h), fun pe L => Framed.fail, fun N nt _ pe L st q g w a h => (by cases h)⟩
end iter

/-! ### The statement -/
theorem name_step {g h w} {o b base : Nat} (hok : Ok g h w) (hid : g.inj o = none) (hno : h.get o = none) : Step g h w o (o + 1) (g.with o b base) h w ∧ Ok (g.with o b base) h w := by
  have hne : ∀ p q, g.inj p = some q → p ≠ o := fun p q hp e => by rw [e, hid] at hp; cases hp
  have hext : Ext g w (g.with o b base) w := ⟨rfl, fun p q hp => (Gh.with_other (hne p q hp)).trans hp, fun _ _ h => h, fun _ _ _ => rfl, fun c cs e fr h => ⟨cs, fr, h, rfl⟩, fun c l h => ⟨l, h⟩⟩
  have hinj : ∀ p x, h.get p = some x → (g.with o b base).inj p = g.inj p := fun p x hx => Gh.with_other (fun e => by rw [e, hno] at hx; cases hx)
  refine ⟨⟨hext, Nat.le_refl _, rfl, rfl, rfl, fun _ _ _ => rfl, fun p hp hr => ?_, fun p c bs hp hi => ?_, fun _ _ h => .inl h⟩, ⟨hok.size, fun p x hx => ?_, fun p p' x x' c bs bs' hpp hx hx' h1 h2 => ?_, hok.K⟩⟩
  · rw [Gh.with_other (fun e => hr (by omega))]; exact hp
  · obtain ⟨x, hx⟩ := Option.isSome_iff_exists.1 hp
    rw [hinj p x hx] at hi
    exact .inr ⟨p, bs, hp, hi⟩
  · refine (hok.obj' p x hx).imp (fun q => ⟨by rw [hinj p x hx]; exact q.1, q.2⟩) ?_
    rintro ⟨c, bs, h1, h2, h3⟩
    exact ⟨c, bs, by rw [hinj p x hx]; exact h1, h2, h3.ext hext rfl (fun _ hk => hk)⟩
  · rw [hinj p x hx] at h1
    rw [hinj p' x' hx'] at h2
    exact hok.sep p p' x x' c bs bs' hpp hx hx' h1 h2

theorem reserve_framed : Framed reserve := fun st a st1 hl h => by
  cases h
  refine ⟨Nat.le_succ _, [], [st.nx], rfl, rfl, (fun o ho => by simp at ho; subst ho; exact Nat.lt_succ_self _), (fun o h1 h2 => by simp at h2 ⊢; omega), (fun _ _ => rfl), fun h' rl' wl' hl' _ => ⟨h', rfl, fun o => ?_⟩⟩
  by_cases e : o ∈ [st.nx]
  · rw [if_pos e]
    simp at e
    subst e
    cases h1 : h'.get st.nx with
    | some x => exact absurd (hl' _ x h1) (Nat.lt_irrefl _)
    | none =>
      cases h2 : st.h.get st.nx with
      | some x => exact absurd (hl _ x h2) (Nat.lt_irrefl _)
      | none => rfl
  · rw [if_neg e]
theorem rangeX_ok {P : Program} {look : Look} (hT : TabOkF P (tabX look)) (hlk : LookFr look) (hm : P.follows .mixedOrders = true) (ex n : Nat) (f : Operand) (ps : Array Tmp) (asg body : Code) {A B' : SL → St → Option XR} (hA : XOk P ex asg A) (hB : XOk P ex body B') :
    XOk P ex (.rangeFunc f ps asg body) (rangeX P ex look n f ps.toList A B') := by
  have key : ∀ L st q, rangeX P ex look n f ps.toList A B' L st = some q → ∃ gf caps nt code, iterFn (evL L f) = some (gf, caps) ∧ iterB P gf = some (nt, code) ∧ caps.length + 1 ≤ nt ∧
      ∃ e pe L1 st1, (prepI P (codeEx code 0) code).run look n st.nx (roundX ex A B' ps.toList L) none (argsX (codeEx code 0) (argsL 0 (.yl st.nx :: caps))) { h := st.h, nx := st.nx + 1, rl := st.rl, wl := st.nx :: st.wl } = some (e, pe, L1, st1) ∧
        (∀ i, e ≠ .exit i) ∧ q = (match pe with | none => (.normal, L, st1) | some e => (e, L, st1)) := by
    intro L st q h
    unfold rangeX at h
    cases hf : iterFn (evL L f) with
    | none => rw [hf] at h; cases h
    | some r =>
    obtain ⟨gf, caps⟩ := r
    rw [hf] at h
    simp only at h
    cases hb : iterB P gf with
    | none =>
      have : iterX P gf = ⟨false, 0, fun _ _ _ _ _ _ => none⟩ := by unfold iterX; rw [hb]
      rw [this] at h
      cases h
    | some r =>
    obtain ⟨nt, code⟩ := r
    have hix : iterX P gf = ⟨true, nt, fun look n y R args st => (prepI P (codeEx code 0) code).run look n y R none (argsX (codeEx code 0) (argsL 0 args)) st⟩ := by unfold iterX; rw [hb]
    rw [hix] at h
    simp only [Bool.true_and] at h
    cases hle : Nat.ble (caps.length + 1) nt with
    | false => rw [hle] at h; cases h
    | true =>
    rw [hle, cond_true] at h
    refine ⟨gf, caps, nt, code, rfl, hb, Nat.le_of_ble_eq_true hle, ?_⟩
    cases hrun : (prepI P (codeEx code 0) code).run look n st.nx (roundX ex A B' ps.toList L) none (argsX (codeEx code 0) (argsL 0 (.yl st.nx :: caps))) { h := st.h, nx := st.nx + 1, rl := st.rl, wl := st.nx :: st.wl } with
    | none => rw [hrun] at h; cases h
    | some r =>
    obtain ⟨e, pe, L1, st1⟩ := r
    rw [hrun] at h
    refine ⟨e, pe, L1, st1, rfl, ?_⟩
    cases e with
    | exit i => cases h
    | normal =>
      refine ⟨(fun i hi => by cases hi), ?_⟩
      cases pe <;> · cases h; rfl
    | ret =>
      refine ⟨(fun i hi => by cases hi), ?_⟩
      cases pe <;> · cases h; rfl
  have hRf : ∀ L args, Framed (α := Ex) (roundX ex A B' ps.toList L args) := fun L args => roundX_framed hA.framed hB.framed ps.toList L args
  have hpf : ∀ (code : Code) (L : SL) (y : Nat) (L1 : SL), Framed (reI ((prepI P (codeEx code 0) code).run look n y (roundX ex A B' ps.toList L) none L1)) := fun code L y L1 => by
    refine (prepI_ok (l := 0) (rec := { fn := 0, tmps := #[], params := #[], assign := .skip, body := .skip, defers := 0 }) (B := { b0 := 0, w := default, K := fun _ _ => True, O := fun _ => True, pin := y + 1, pb := fun _ => some (0, 0), n0 := 0 }) hT hlk (hRf L) hm ?_ trivial ⟨Nat.lt_succ_self _, rfl⟩ n code).framed none L1
    intro N args q g st w vs hlo hnr hc
    have := hc.ok.K w.heap.size 0 (hc.base.K _ _ trivial)
    exact absurd this (Nat.lt_irrefl _)
  refine ⟨fun L st q h hw => ?_, fun L => ?_, fun ro N B nt hn0 hpl hs L st q g w a h hw hlo hnr hc hr hd => ?_⟩
  · obtain ⟨_, _, _, _, _, _, _, e, pe, L1, st1, _, _, rfl⟩ := key L st q h
    cases pe <;> exact hw
  · cases hf : iterFn (evL L f) with
    | none => exact Framed.fail.congr (fun st => by show reM (rangeX P ex look n f ps.toList A B' L) st = _; unfold reM rangeX; rw [hf]; rfl)
    | some r =>
    obtain ⟨gf, caps⟩ := r
    cases hb : iterB P gf with
    | none =>
      have : iterX P gf = ⟨false, 0, fun _ _ _ _ _ _ => none⟩ := by unfold iterX; rw [hb]
      exact Framed.fail.congr (fun st => by show reM (rangeX P ex look n f ps.toList A B' L) st = _; unfold reM rangeX; rw [hf]; dsimp only; rw [this]; rfl)
    | some r =>
    obtain ⟨nt, code⟩ := r
    have hix : iterX P gf = ⟨true, nt, fun look n y R args st => (prepI P (codeEx code 0) code).run look n y R none (argsX (codeEx code 0) (argsL 0 args)) st⟩ := by unfold iterX; rw [hb]
    cases hle : Nat.ble (caps.length + 1) nt with
    | false => exact Framed.fail.congr (fun st => by show reM (rangeX P ex look n f ps.toList A B' L) st = _; unfold reM rangeX; rw [hf]; dsimp only; rw [hix]; dsimp only; rw [hle]; rfl)
    | true =>
      refine (Framed.bind reserve_framed (fun y => Framed.bind (hpf code L y (argsX (codeEx code 0) (argsL 0 (.yl y :: caps)))) (fun p : Ex × Option Ex × SL => (?_ : Framed (match p.1 with
        | .exit _ => M.fail
        | _ => match p.2.1 with
          | none => M.pure (Ex.normal, L)
          | some e => M.pure (e, L)))))).congr (fun st => ?_)
      · split
        · exact Framed.fail
        · split <;> exact Framed.pure _
      · show reM (rangeX P ex look n f ps.toList A B' L) st = _
        unfold reM rangeX
        rw [hf]
        dsimp only
        rw [hix]
        dsimp only
        rw [hle]
        unfold M.bind reserve reI
        dsimp only [Bool.and_self, cond_true]
        cases (prepI P (codeEx code 0) code).run look n st.nx (roundX ex A B' ps.toList L) none (argsX (codeEx code 0) (argsL 0 (.yl st.nx :: caps))) { h := st.h, nx := st.nx + 1, rl := st.rl, wl := st.nx :: st.wl } with
        | none => rfl
        | some q =>
          obtain ⟨e, pe, L1, st1⟩ := q
          cases e with
          | exit i => rfl
          | normal => cases pe <;> rfl
          | ret => cases pe <;> rfl
  obtain ⟨gf, caps, nt', code, hfn, hib, hle, e0, pe0, L1, st1, hrun, hne, hq⟩ := key L st q h
  have hro : ro = none := by
    rcases hpl with hpl | hpl
    · exact hpl
    · cases hpl
  subst hro
  simp only [slotsIn, Bool.and_eq_true] at hs
  obtain ⟨⟨⟨⟨hs1, hs2⟩, hs3⟩, hs4⟩, hs5⟩ := hs
  obtain ⟨fn, hf1, hf2, hf3, hf4, hf5, rfl⟩ := iterB_some hib
  obtain ⟨vb, hev, hcaps⟩ := iterFn_some hfn (hr.eval f)
  refine wpIn_rangeFunc fun fno hfno => ?_
  obtain ⟨rec, hrec⟩ : ∃ rec : LoopRec, rec = { fn := fno, tmps := a.tmps, params := ps, assign := asg, body := body, defers := w.heap.size } := ⟨_, rfl⟩
  obtain ⟨W1, hW1⟩ : ∃ W1, (w.alloc (.deferred (some []))).alloc (.loop (rec.at none)) = W1 := ⟨_, rfl⟩
  have hsz : W1.heap.size = w.heap.size + 2 := by rw [← hW1]; simp
  have hold : ∀ b, b < w.heap.size → W1.heap[b]? = w.heap[b]? := fun b hb => by
    rw [← hW1, RowKit.Below.heap_alloc _ _ _ (by simp; omega)]; exact RowKit.Below.heap_alloc w _ _ hb
  have hL1 : W1.heap[w.heap.size + 1]? = some (.loop (rec.at none)) := by
    rw [← hW1]; have := World.alloc_heap_new (w.alloc (.deferred (some []))) (.loop (rec.at none)); rwa [World.size_alloc] at this
  have hD1 : W1.heap[w.heap.size]? = some (.deferred (some [])) := by
    rw [← hW1]; exact (RowKit.Below.heap_alloc _ _ _ (by simp)).trans (World.alloc_heap_new w _)
  have hlo2 : Low { h := st.h, nx := st.nx + 1, rl := st.rl, wl := st.nx :: st.wl } := fun o x hx => Nat.lt_succ_of_lt (hlo o x hx)
  have hle2 : st.nx + 1 ≤ st1.nx := (hpf code L st.nx _ _ _ _ hlo2 (reI_some hrun)).1
  have hq2 : q.2.2 = st1 := by rw [hq]; cases pe0 <;> rfl
  have hnx : st.nx < q.2.2.nx := by rw [hq2]; omega
  have hgrow := grow_step (w' := W1) st.nx st.nx hc.ok (by omega) hold (by rw [← hW1]; rfl) (by rw [← hW1]; rfl) (by rw [← hW1]; rfl)
  have hname := name_step (o := st.nx) (b := w.heap.size + 1) (base := 0) hgrow.2 (hc.fresh _ (Nat.le_refl _) (hnr _ (Nat.le_refl _) hnx)) (by cases hq : st.h.get st.nx with | none => rfl | some x => exact absurd (hlo _ _ hq) (Nat.lt_irrefl _))
  have hgrow : Step g st.h w st.nx (st.nx + 1) (g.with st.nx (w.heap.size + 1) 0) st.h W1 ∧ Ok (g.with st.nx (w.heap.size + 1) 0) st.h W1 := ⟨hgrow.1.trans hname.1 (Nat.le_refl _) (by omega), hname.2⟩
  obtain ⟨g2, hg2⟩ : ∃ g2, g.with st.nx (w.heap.size + 1) 0 = g2 := ⟨_, rfl⟩
  have hinj2 : g2.inj st.nx = some (w.heap.size + 1, 0) := by rw [← hg2]; exact Gh.with_inj
  rw [hg2] at hgrow
  obtain ⟨st2, hst2⟩ : ∃ st2 : St, st2 = { h := st.h, nx := st.nx + 1, rl := st.rl, wl := st.nx :: st.wl } := ⟨_, rfl⟩
  have h2h : st2.h = st.h := by rw [hst2]
  have h2n : st2.nx = st.nx + 1 := by rw [hst2]
  rw [← hst2] at hlo2
  rw [← hst2] at hrun
  have hcW : Cur B g2 st2 W1 := hc.step (hnr.sub (Nat.le_refl _) (by rw [h2n]; exact hnx)) ⟨by rw [h2n]; exact Nat.le_succ _, by rw [h2h, h2n]; exact hgrow.1⟩ (by rw [h2h]; exact hgrow.2)
  have hrW := hr.ext hgrow.1.ext
  have hmW := hd.step hgrow.1
  have hunew : ∀ b, w.heap.size ≤ b → Unowned g2 st2.h b := fun b hb o base ho hi => by
    rw [h2h] at ho
    obtain ⟨x, hx⟩ := Option.isSome_iff_exists.1 ho
    rcases hc.ok.obj' o x hx with ⟨q0, _⟩ | ⟨c, base', q1, _, q3⟩
    · exfalso
      have hlt : o ≠ st.nx := fun e => Nat.lt_irrefl _ (e ▸ hlo o x hx)
      rw [← hg2, Gh.with_other hlt, q0] at hi
      cases hi
    have := hgrow.1.ext.inj o _ q1
    rw [hi] at this; cases this
    have := q3.lt
    omega
  have hB1 := hcW.at' st2.nx (· = w.heap.size + 1) (Nat.le_refl _) (far := B.far) (fun _ h => h)
  have hlen : (#[Value.func (.yield (w.heap.size + 1)) #[] #[]] ++ vb).size ≤ fn.ntmps := by
    have := hcaps.1
    simp at this ⊢
    omega
  refine ⟨w.heap.size + 1, [mark w.heap.size], W1, { target := .fn (.func gf) vb, args := #[.func (.yield (w.heap.size + 1)) #[] #[]] }, W1, gf, #[.func (.yield (w.heap.size + 1)) #[] #[]] ++ vb, W1, ?_, ?_, fun _ _ => trivial, ?_, (fun h => (by cases h)), ?_⟩
  · rw [← hW1, hrec]; exact run_enterLoop_outer _ _ _ _ _
  · simp only [resolve, hev]
    simp [go_sem]
  · simp [invoke, go_sem, entered_ok hf3]
  · refine callsIn_of_wp_marks hf1 hf2 trivial ?_
    have hR := roundX_ok (P := P) (B1 := baseAt g2 st2.h W1 st2.nx (· = w.heap.size + 1) B.far) (l := w.heap.size + 1) (nt := nt) (rec := rec) (L0 := L) (by rw [hrec]; exact hA) (by rw [hrec]; exact hB) (by rw [hrec]; simpa [Array.all_toList] using hs1) (by rw [hrec]; exact hs2) (by rw [hrec]; exact hs3) (by rw [hrec]; exact hs4) (by rw [hrec]; exact hs5) hw
      (fun g' h' w' hb => by rw [hrec]; exact hrW.ext (hb.ext_at hcW.fresh))
    have hR' : RndX P (w.heap.size + 1) rec (roundX ex A B' ps.toList L) (baseAt g2 st2.h W1 st2.nx (· = w.heap.size + 1) B.far) := by rw [hrec] at hR ⊢; exact hR
    have hrel : RelSL g2 W1 fn.ntmps (argsL 0 (.yl st.nx :: caps)) ((#[Value.func (.yield (w.heap.size + 1)) #[] #[]] ++ vb) ++ Array.replicate (fn.ntmps - (#[Value.func (.yield (w.heap.size + 1)) #[] #[]] ++ vb).size) undef) := by
      have hrl : RelL g2 W1 (.yl st.nx :: caps) (.func (.yield (w.heap.size + 1)) #[] #[] :: vb.toList) := RelL.cons (.yl _ _ _ hinj2) (hcaps.ext hgrow.1.ext)
      have := relSL_args (nt := fn.ntmps) hrl (by simpa using hle)
      have e : (Value.func (.yield (w.heap.size + 1)) #[] #[] :: vb.toList).toArray = #[Value.func (.yield (w.heap.size + 1)) #[] #[]] ++ vb := by apply Array.ext'; simp
      rw [e] at this
      exact this
    have hpin : st.nx < (baseAt g2 st2.h W1 st2.nx (· = w.heap.size + 1) B.far).pin ∧ (baseAt g2 st2.h W1 st2.nx (· = w.heap.size + 1) B.far).pb st.nx = some (w.heap.size + 1, 0) := by
      refine ⟨by show st.nx < st2.nx; omega, ?_⟩
      exact hinj2
    have hax := argsX_less (codeEx code 0) (argsL 0 (.yl st.nx :: caps))
    have hw1 := (prepI_ok (ex := codeEx code 0) (B := baseAt g2 st2.h W1 st2.nx (· = w.heap.size + 1) B.far) hT hlk (hRf L) hm hR' (.inl rfl) hpin n code).wp (N - 1) fn.ntmps hf4 none _ st2 _ g2 W1 { tmps := (#[Value.func (.yield (w.heap.size + 1)) #[] #[]] ++ vb) ++ Array.replicate (fn.ntmps - (#[Value.func (.yield (w.heap.size + 1)) #[] #[]] ++ vb).size) undef, defers := [] } hrun hax.2 hlo2 (hnr.sub (by rw [h2n]; exact Nat.le_succ _) (by rw [hq2]; exact Nat.le_refl _)) hB1 (hrel.less hax.1) rfl hL1 (hunew _ (by omega))
    refine wpIn_mono hw1 ?_
    rintro exx a' w' ⟨e, pe, L', st', g', rfl, heq, hc', hr', hd', hl', hu'⟩
    cases heq
    have fin : bodyPostM (fence none) (N - 1) P fn (rangePost (fence none) N P (w.heap.size + 1) (Fin B nt (fun e L st => (e, L, st) = q)) { a with defers := [mark w.heap.size] ++ a.defers }) .ret a' w' := by
      show LeavesInM (fence none) (N - 1) P fn a'.tmps _ a'.defers .returning w'
      rw [hd']
      have hres : (results fn a'.tmps).run P w' = .ok (.tuple #[]) w' := by simp [results, hf5]
      refine ⟨_, hres, ?_⟩
      have hend := run_endLoop (P := P) hl' (by cases pe0 <;> simp [LoopRec.at])
      refine ⟨_, _, hend, ?_⟩
      have hput := put_loop (r' := { rec.at pe0 with state := .exhausted }) hc' hl' hu' (.inl rfl)
      have hb := hput.1.base
      have hcB : Cur B g' st1 (putB w' (w.heap.size + 1) (.loop { rec.at pe0 with state := .exhausted })) := ⟨hput.1.ok, hput.1.fresh, hcW.base.comp hb hcW.pin (fun _ h => h) (fun n hn => by subst hn; have := hc.base.size; exact .inl (by omega)), Nat.le_trans hcW.pin hput.1.pin⟩
      have hrB := hrW.ext (hb.ext_at hcW.fresh)
      have hmB : Marks B.D B.n0 st1.h g' (putB w' (w.heap.size + 1) (.loop { rec.at pe0 with state := .exhausted })) ([mark w.heap.size] ++ a.defers) := by
        have hm2 : Marks B.D B.n0 st2.h g2 W1 ([mark w.heap.size] ++ a.defers) := by
          rw [h2h]
          obtain ⟨bs, e1, e2, e3⟩ := hmW
          obtain ⟨bs0, e10, e20, e30⟩ := hd
          have hbs : bs = bs0 := by
            have : bs.map mark = bs0.map mark := List.append_cancel_right (e1.symm.trans e10)
            exact (List.map_inj_right (fun x y e => by simpa [mark] using e)).1 this
          subst hbs
          refine ⟨w.heap.size :: bs, by simp [e1], List.nodup_cons.2 ⟨fun hmem => ?_, e2⟩, fun b hb => ?_⟩
          · have := lt_of_heap (e30 _ hmem).2.1; omega
          · rcases List.mem_cons.1 hb with rfl | hb
            · have := hc.base.size
              exact ⟨by omega, hD1, by have := hunew w.heap.size (Nat.le_refl _); rwa [h2h] at this⟩
            · exact e3 b hb
        exact Marks.base hb hm2 (fun b hbl => by subst hbl; exact ⟨_, hL1⟩)
      cases pe0 with
      | none => exact Fin.mk' (e := .normal) hq.symm hcB hrB hmB
      | some e =>
        show (codeOf e).wpIn (fence none) N P (Fin B nt _) _ _
        cases e with
        | normal => exact wpIn_skip (Fin.mk' (e := .normal) hq.symm hcB hrB hmB)
        | ret => exact wpIn_ret (Fin.mk' (e := .ret) hq.symm hcB hrB hmB)
        | exit id => exact wpIn_exit (Fin.mk' (e := .exit id) hq.symm hcB hrB hmB)
    cases e0 with
    | normal => exact fin
    | ret => exact fin
    | exit id => exact (hne id rfl).elim

end
end Go.Vm
