/- Walks on abstract values: whatever order is drawn; all code. No condition. -/
import Derived.Test.YtnkjblopaagkoaaWlE
import Derived.OrdersIn
import Derived.Scope
namespace Go.Vm
noncomputable section

theorem onlyOf_rel {g w} {o : Oper} {L : SL} {a : Act} (h : ∀ t, (∃ x ∈ o.op.operands.toList, x = .tmp t) → Rel g w (lk L t) (a.tmps.getD t undef)) : RelF g w (onlyOf o L) a.eval := by
  intro x
  cases x with
  | tmp t =>
    simp only [onlyOf]
    cases hb : o.op.operands.any (fun x => match x with | .tmp u => Nat.beq u t | _ => false) with
    | false => exact .bad _
    | true =>
      rw [cond_true]
      refine h t ?_
      rw [Array.any_eq_true'] at hb
      obtain ⟨y, hy, hb⟩ := hb
      refine ⟨y, by simpa using hy, ?_⟩
      cases y with
      | tmp u => simp at hb; rw [hb]
      | _ => cases hb
  | const v => exact .sc v
  | global g' => exact .sc _
  | func f => exact .sc _

structure RunOk (P : Program) (T : Tab) (ops : Array Oper) (ds : List DS) (L0 : SL) (st0 : St) (L' : SL) (st' : St) : Prop where
  os : ds.map (·.o) = ops.toList
  ok : ∀ d ∈ ds, DSRun P T d
  at' : ∀ i d, ds[i]? = some d → (∀ t, lk d.L t = valS ds L0 (fun _ => true) i t) ∧ (∀ o, d.st.h.get o = valH ds st0.h (fun _ => true) i o) ∧ d.st.nx = nxAt ds st0.nx i ∧ d.st.nx ≤ d.st1.nx
  fin : (∀ t, lk L' t = valS ds L0 (fun _ => true) ds.length t) ∧ (∀ o, st'.h.get o = valH ds st0.h (fun _ => true) ds.length o) ∧ st'.nx = nxAt ds st0.nx ds.length
  slots : ∀ i k a b t, i ≠ k → ds[i]? = some a → ds[k]? = some b → t ∈ usesOf ops a.o → b.o.dst = some t → ((Region.before ops).getD (max i k) 0).testBit (min i k) = true
  edges : ∀ (i : Nat) o, ops[i]? = some o → ∀ e ∈ o.after, Region.binds .any e = true → e.on < i

theorem RunOk.get {P T ops ds L0 st0 L' st'} (h : RunOk P T ops ds L0 st0 L' st') {i : Nat} {d : DS} (hd : ds[i]? = some d) : ops[i]? = some d.o := by
  have := congrArg (·[i]?) h.os
  simp only [List.getElem?_map, hd, Option.map_some] at this
  simpa using this.symm
theorem RunOk.len {P T ops ds L0 st0 L' st'} (h : RunOk P T ops ds L0 st0 L' st') : ds.length = ops.size := by
  have := congrArg List.length h.os; simpa using this
theorem RunOk.has {P T ops ds L0 st0 L' st'} (h : RunOk P T ops ds L0 st0 L' st') {i : Nat} (hi : i < ops.size) : ∃ d, ds[i]? = some d := ⟨ds[i]'(by rw [h.len]; exact hi), by simp⟩

/-- Operations that do not get in each other's way. -/
def Calm (ops : Array Oper) (ds : List DS) : Prop := ∀ i k a b, i < k → ds[i]? = some a → ds[k]? = some b → ((Region.before ops).getD k 0).testBit i = true ∨ (apartN a.W b.R = true ∧ apartN a.W b.W = true ∧ apartN a.R b.W = true)
theorem calm_obj {P : Program} {T : Tab} {ops : Array Oper} {ds : List DS} {L0 : SL} {st0 : St} {L' : SL} {st' : St} (R : RunOk P T ops ds L0 st0 L' st') (C : Calm ops ds) {D : Nat → Bool} {i : Nat} {d : DS} (hi : ds[i]? = some d) (hD : D i = false) (hcl : Closed ops D)
    (hr : ∀ e ∈ d.o.after, Region.binds .any e = true → D e.on = true) :
    (∀ o ∈ d.R, valH ds st0.h D ds.length o = d.st.h.get o) ∧ ∀ o, valH ds st0.h (upd D i) ds.length o = if o ∈ d.W then d.st1.h.get o else valH ds st0.h D ds.length o := by
  have ho := R.get hi
  have hlt : i < ds.length := (List.getElem?_eq_some_iff.1 hi).1
  obtain ⟨a1, a2, a3, a4⟩ := R.at' i d hi
  have hbef := ready_before hcl ho hr
  have late : ∀ k e, ds[k]? = some e → i < k → (apartN d.W e.W = false ∨ apartN d.R e.W = false) → D k = false := by
    intro k e hk hik hap
    cases hDk : D k with
    | false => rfl
    | true =>
      rcases C i k d e hik hi hk with h6 | ⟨_, h6, h7⟩
      · have := hcl k i hDk h6; rw [hD] at this; cases this
      · rcases hap with q | q
        · rw [h6] at q; cases q
        · rw [h7] at q; cases q
  have noT : ∀ {x y : List Nat} {o : Nat}, o ∈ x → o ∈ y → apartN x y = false := by
    intro x y o hx hy
    cases he : apartN x y with
    | false => rfl
    | true => exact (apartN_no he hx hy).elim
  refine ⟨fun o hoR => ?_, fun o => ?_⟩
  · have := valH_upto (h0 := st0.h) (D := D) (i := i) (o := o) (ds := ds) (fun k e hk he => ?_) ds.length
    · rw [this, a2 o]; congr 1; omega
    · rcases Nat.lt_trichotomy k i with hlt' | rfl | hgt
      · refine ⟨fun _ => hlt', fun _ => ?_⟩
        rcases C k i e d hlt' hk hi with h6 | ⟨h6, _, _⟩
        · exact hbef k h6
        · exact (apartN_no h6 he hoR).elim
      · exact ⟨(fun q => by rw [hD] at q; cases q), (fun q => by omega)⟩
      · exact ⟨(fun q => by have := late k e hk hgt (.inr (noT hoR he)); rw [this] at q; cases q), (fun q => by omega)⟩
  · rw [valH_upd hi (fun hW k e hk hik he => late k e hk hik (.inl (noT hW he)))]
    by_cases hW : o ∈ d.W
    · rw [if_pos ⟨hW, hlt⟩, if_pos hW]
    · rw [if_neg (fun q => hW q.1), if_neg hW]

/-- Where some operations have been carried out. -/
structure At (H : (Nat → Bool) → Nat → Option AObj) (ops : Array Oper) (ds : List DS) (L0 : SL) (g0 : Gh) (st0 : St) (w0 : World) (df : List Deferred) (nt hi : Nat) (D : Nat → Bool) (a : Act) (w : World) : Prop where
  mem : ∃ g h, (∀ o, h.get o = H D o) ∧ Ok g h w ∧ Step g0 st0.h w0 st0.nx hi g h w ∧ (∀ t, Rel g w (valS ds L0 D ds.length t) (a.tmps.getD t undef)) ∧
    (∀ i d, ds[i]? = some d → D i = false → ∀ o, d.st.nx ≤ o → o < d.st1.nx → g.inj o = none)
  size : a.tmps.size = nt
  defers : a.defers = df
  closed : Closed ops D

theorem getD_put {a : Act} {dst : Option Tmp} {u : Value} {t : Nat} (hd : ∀ d, dst = some d → d < a.tmps.size) : (a.put dst u).tmps.getD t undef = if dst = some t then u else a.tmps.getD t undef := by
  cases dst with
  | none => simp [Act.put]
  | some d =>
    simp only [Act.put, Array.getD_eq_getD_getElem?, Array.getElem?_setIfInBounds, Option.some.injEq]
    by_cases e : d = t
    · subst e; rw [if_pos rfl, if_pos rfl, if_pos (hd d rfl)]; rfl
    · rw [if_neg e, if_neg e]
theorem put_size (a : Act) (dst : Option Tmp) (u : Value) : (a.put dst u).tmps.size = a.tmps.size := by cases dst <;> simp [Act.put]

/-- One operation more. -/
theorem At.step {H : (Nat → Bool) → Nat → Option AObj} {P : Program} {T : Tab} (hT : TabOkF P T) {ops : Array Oper} {ds : List DS} {L0 : SL} {g0 : Gh} {st0 : St} {w0 : World} {df : List Deferred} {ro : Option Nat} {N : Nat} {nt : Nat} {L' : SL} {st' : St} (R : RunOk P T ops ds L0 st0 L' st') (hg : guardsIn nt ops = true) (hdst : dstsIn nt ops = true)
    {D : Nat → Bool} {a : Act} {w : World} {i : Nat} {d : DS} (hi : ds[i]? = some d) (hgv : gval ops d.L d.o = some d.want) (obj : ∀ o ∈ d.R, H D o = d.st.h.get o) (hupd : ∀ o, H (upd D i) o = if o ∈ d.W then d.st1.h.get o else H D o) (hD : D i = false) (hr : ∀ e ∈ d.o.after, Region.binds .any e = true → D e.on = true) (A : At H ops ds L0 g0 st0 w0 df nt (nxAt ds st0.nx ds.length) D a w)
    {Q : Exit → Act → World → Prop} {K : Act → World → Prop} (hK : ∀ a' w', At H ops ds L0 g0 st0 w0 df nt (nxAt ds st0.nx ds.length) (upd D i) a' w' → K a' w') : wpOpIn (fence ro) N P ops Q i K a w := by
  have ho := R.get hi
  have hlt : i < ds.length := (List.getElem?_eq_some_iff.1 hi).1
  have hmem : d.o ∈ ops := Array.mem_of_getElem? ho
  have hok := R.ok d (List.mem_of_getElem? hi)
  obtain ⟨a1, a2, a3, a4⟩ := R.at' i d hi
  have hbef := ready_before A.closed ho hr
  have hcl := A.closed.upd ho hr
  obtain ⟨g, h, h1, h2, h3, h4, h5⟩ := A.mem
  -- slots
  have slot : ∀ t ∈ usesOf ops d.o, valS ds L0 D ds.length t = lk d.L t := by
    intro t ht
    have := valS_upto (L0 := L0) (D := D) (i := i) (t := t) (ds := ds) (fun k e hk he => ?_) ds.length
    · rw [this, a1 t]; congr 1; omega
    · rcases Nat.lt_trichotomy k i with hlt' | rfl | hgt
      · have := R.slots i k d e t (by omega) hi hk ht he
        rw [show max i k = i from by omega, show min i k = k from by omega] at this
        exact ⟨fun _ => hlt', fun _ => hbef k this⟩
      · exact ⟨(fun q => by rw [hD] at q; cases q), (fun q => by omega)⟩
      · have := R.slots i k d e t (by omega) hi hk ht he
        rw [show max i k = k from by omega, show min i k = i from by omega] at this
        exact ⟨(fun q => by have := A.closed k i q this; rw [hD] at this; cases this), (fun q => by omega)⟩
  have slotLate : ∀ t, d.o.dst = some t → ∀ k e, ds[k]? = some e → i < k → e.o.dst = some t → D k = false := by
    intro t ht k e hk hik he
    have hu : t ∈ usesOf ops d.o := by simp [usesOf, ht]
    have := R.slots i k d e t (by omega) hi hk hu he
    rw [show max i k = k from by omega, show min i k = i from by omega] at this
    cases hDk : D k with
    | false => rfl
    | true => have := A.closed k i hDk this; rw [hD] at this; cases this
  have hwant : Region.wanted d.o (yielded ops a.tmps) = d.want := by
    refine wanted_val (g := g) (w := w) A.size (guard_in hg hmem) (fun j c hgd => ?_) hgv
    have hu : gslot ops j ∈ usesOf ops d.o := by simp [usesOf, hgd]
    rw [← slot _ hu]
    exact h4 _
  have hslotS : ∀ (g' : Gh) (w' : World) (v : AV) (u : Value), (∀ t, Rel g' w' (valS ds L0 D ds.length t) (a.tmps.getD t undef)) → Rel g' w' v u → d.v = v → ∀ t, Rel g' w' (valS ds L0 (upd D i) ds.length t) ((a.put d.o.dst u).tmps.getD t undef) := by
    intro g' w' v u hall hv e t
    rw [getD_put (fun q hq => by rw [A.size]; exact dst_in hdst hmem q hq), valS_upd hi (slotLate t)]
    by_cases hd : d.o.dst = some t
    · rw [if_pos ⟨hd, hlt⟩, if_pos hd, e]; exact hv
    · rw [if_neg (fun q => hd q.1), if_neg hd]; exact hall t
  have mono1 : ∀ i d, ds[i]? = some d → d.st.nx = nxAt ds st0.nx i ∧ d.st.nx ≤ d.st1.nx := fun i d hd => ⟨(R.at' i d hd).2.2.1, (R.at' i d hd).2.2.2⟩
  have nxs : nxAt ds st0.nx (i + 1) = d.st1.nx := by rw [nxAt, hi]
  have free' : ∀ (g' : Gh), (∀ o, g.inj o = none → ¬ (d.st.nx ≤ o ∧ o < d.st1.nx) → g'.inj o = none) → ∀ k e, ds[k]? = some e → upd D i k = false → ∀ o, e.st.nx ≤ o → o < e.st1.nx → g'.inj o = none := by
    intro g' hf k e hk hkD o q1 q2
    have hki : k ≠ i := fun q => by subst q; simp [upd] at hkD
    simp only [upd, if_neg hki] at hkD
    refine hf o (h5 k e hk hkD o q1 q2) (fun q => ?_)
    obtain ⟨e1, e2⟩ := mono1 k e hk
    rcases Nat.lt_or_gt_of_ne hki with hl | hl
    · have := nxAt_mono mono1 i (k + 1) (by omega)
      rw [nxAt.eq_2, hk] at this
      simp only at this
      omega
    · have := nxAt_mono mono1 k (i + 1) (by omega)
      rw [nxs] at this
      omega
  unfold wpOpIn
  rw [ho]
  dsimp only
  cases hw : d.want with
  | false =>
    rw [hwant, hw, if_neg (by simp)]
    refine ⟨about_fence ro P d.o a w, ?_⟩
    obtain ⟨s1, s2, s3, s4⟩ := hok.skip hw
    refine hK _ _ ⟨⟨g, h, fun o => ?_, h2, h3, hslotS g w (.sc undef) undef h4 (.sc _) s1, free' g (fun o q _ => q)⟩, by rw [put_size]; exact A.size, by rw [put_defers]; exact A.defers, hcl⟩
    rw [h1 o, hupd o, if_neg (fun q => by rw [s4] at q; cases q)]
  | true =>
    rw [hwant, hw, if_pos rfl]
    obtain ⟨r1, r2', r3, r4, r5⟩ := hok.run hw
    have r2 : ∀ p ∈ d.R, p ≤ limit := fun p hp => by have := r2' p hp; omega
    have hsub : ∀ o x, (maskH d.st.h d.R).get o = some x → h.get o = some x := by
      intro o x hx
      rw [maskH_get _ _ _ r2] at hx
      by_cases hR : o ∈ d.R
      · rw [if_pos hR] at hx; rw [h1 o, obj o hR, hx]
      · rw [if_neg hR] at hx; cases hx
    have hfree : Free g { h := maskH d.st.h d.R, nx := d.st.nx, rl := [], wl := [] } d.st1 := fun o q1 q2 => h5 i d hi hD o q1 q2
    have hrel : RelF g w (onlyOf d.o d.L) a.eval := onlyOf_rel fun t ⟨x, hx, e⟩ => by
      have hu : t ∈ usesOf ops d.o := by
        simp only [usesOf, List.mem_append, List.mem_filterMap]
        exact .inl (.inr ⟨x, hx, by rw [e]⟩)
      rw [← slot t hu]
      exact h4 t
    have hlow : Low { h := maskH d.st.h d.R, nx := d.st.nx, rl := [], wl := [] } := fun o x hx => by
      simp only [maskH_get _ _ _ r2] at hx
      by_cases hR : o ∈ d.R
      · exact r2' o hR
      · rw [if_neg hR] at hx; cases hx
    refine operL_okF hT (h2.part hsub) hfree hlow hrel r1 ro N _ _ ?_
    rintro u w' ⟨g', q1, q2, q3⟩
    have hnew : ∀ p ∈ d.R ++ fromTo d.st.nx (d.st1.nx - d.st.nx), p ≤ limit := fun p hp => by
      rcases List.mem_append.1 hp with hp | hp
      · exact r2 p hp
      · rw [fromTo_mem] at hp; omega
    have hfs := frame_step (h' := mergeH d.st1.h (d.R ++ fromTo d.st.nx (d.st1.nx - d.st.nx)) h) (S := fun o => o ∈ d.R ++ fromTo d.st.nx (d.st1.nx - d.st.nx)) h2 hsub (fun o x hx => by
      rw [maskH_get _ _ _ r2] at hx
      by_cases hR : o ∈ d.R
      · exact List.mem_append.2 (.inl hR)
      · rw [if_neg hR] at hx; cases hx) q1 q2 (fun o hS => by rw [mergeH_get _ _ _ _ hnew, if_pos hS]) (fun o hS => by rw [mergeH_get _ _ _ _ hnew, if_neg hS]) (fun o e1 e2 => List.mem_append.2 (.inr (by have e1' : d.st.nx ≤ o := e1; have e2' : o < d.st1.nx := e2; rw [fromTo_mem]; omega)))
    have n1 : st0.nx ≤ d.st.nx := by rw [a3]; exact nxAt_mono mono1 i 0 (Nat.zero_le _)
    have n2 : d.st1.nx ≤ nxAt ds st0.nx ds.length := by rw [← nxs]; exact nxAt_mono mono1 ds.length (i + 1) hlt
    refine hK _ _ ⟨⟨g', _, fun o => ?_, hfs.2, h3.both (hfs.1.widen n1 n2), hslotS g' w' d.v u (fun t => (h4 t).ext q1.ext) q3 rfl, free' g' (fun o e1 e2 => q1.fresh o e1 e2)⟩, by rw [put_size]; exact A.size, by rw [put_defers]; exact A.defers, hcl⟩
    rw [mergeH_get _ _ _ _ hnew, hupd o]
    by_cases hW : o ∈ d.W
    · rw [if_pos hW, if_pos]
      rcases (r4 o).1 hW with hq | hq
      · exact List.mem_append.2 (.inl hq.2)
      · exact List.mem_append.2 (.inr (by rw [fromTo_mem]; omega))
    · rw [if_neg hW]
      by_cases hR : o ∈ d.R
      · rw [if_pos (List.mem_append.2 (.inl hR)), ← r5 o hR hW, obj o hR]
      · rw [if_neg, h1 o]
        intro hm
        rcases List.mem_append.1 hm with hm | hm
        · exact hR hm
        · rw [fromTo_mem] at hm
          exact hW ((r4 o).2 (.inr (by omega)))

theorem getD_upd {listed : Array Bool} {i : Nat} (hi : i < listed.size) : (fun k => (listed.setIfInBounds i true).getD k false) = upd (fun k => listed.getD k false) i := by
  funext k
  simp only [upd, Array.getD_eq_getD_getElem?, Array.getElem?_setIfInBounds]
  by_cases e : i = k
  · subst e; simp [hi]
  · rw [if_neg e, if_neg (Ne.symm e)]

theorem any_ok {H : (Nat → Bool) → Nat → Option AObj} {P : Program} {T : Tab} {ops : Array Oper} {ds : List DS} {L0 : SL} {g0 : Gh} {st0 : St} {w0 : World} {df : List Deferred} {ro : Option Nat} {N : Nat} {nt : Nat} {L' : SL} {st' : St} (R : RunOk P T ops ds L0 st0 L' st') {Q : Exit → Act → World → Prop}
    (hstep : ∀ (D : Nat → Bool) (a : Act) (w : World) (i : Nat) (d : DS) (K : Act → World → Prop), ds[i]? = some d → D i = false → (∀ e ∈ d.o.after, Region.binds .any e = true → D e.on = true) → At H ops ds L0 g0 st0 w0 df nt (nxAt ds st0.nx ds.length) D a w → (∀ a' w', At H ops ds L0 g0 st0 w0 df nt (nxAt ds st0.nx ds.length) (upd D i) a' w' → K a' w') → wpOpIn (fence ro) N P ops Q i K a w) (hQ : ∀ D a w, (∀ i, i < ds.length → D i = true) → At H ops ds L0 g0 st0 w0 df nt (nxAt ds st0.nx ds.length) D a w → Q .normal a w) :
    ∀ (fuel : Nat) (listed : Array Bool) (a : Act) (w : World), listed.size = ops.size → left (fun k => listed.getD k false) ops.size ≤ fuel → At H ops ds L0 g0 st0 w0 df nt (nxAt ds st0.nx ds.length) (fun k => listed.getD k false) a w →
      wpAnyIn (fence ro) N P .any ops Q fuel listed a w := by
  have flip : ∀ (listed : Array Bool) (i : Nat), i < listed.size → listed.getD i true = listed.getD i false := by
    intro listed i hi; simp [hi]
  intro fuel
  induction fuel with
  | zero =>
    intro listed a w hsz hl A
    have hall := left_zero ops.size (Nat.le_zero.1 hl)
    refine ⟨?_, hQ _ a w (fun i hi => hall i (by rw [← R.len]; exact hi)) A⟩
    cases hr : Region.ready .any ops listed with
    | nil => rfl
    | cons i r =>
      have : i ∈ Region.ready .any ops listed := by rw [hr]; simp
      rw [mem_ready] at this
      obtain ⟨h0, o, ho, _⟩ := this
      have hlt : i < ops.size := (Array.getElem?_eq_some_iff.1 ho).1
      rw [flip listed i (by omega)] at h0
      have := hall i hlt
      rw [h0] at this; cases this
  | succ fuel ih =>
    intro listed a w hsz hl A
    refine ⟨fun hnil => ?_, fun i hi => ?_⟩
    · refine hQ _ a w (fun i hi => ?_) A
      cases hDi : listed.getD i false with
      | true => rfl
      | false =>
        exfalso
        obtain ⟨k, h1, h2, h3⟩ := left_least (D := fun k => listed.getD k false) ops.size ⟨i, by rw [← R.len]; exact hi, hDi⟩
        have hk : k ∈ Region.ready .any ops listed := by
          rw [mem_ready]
          refine ⟨by rw [flip listed k (by omega)]; exact h2, ops[k], by simp [h1], fun e he hb => h3 _ (R.edges k ops[k] (by simp [h1]) e he hb)⟩
        rw [hnil] at hk; cases hk
    · rw [mem_ready] at hi
      obtain ⟨h0, o, ho, hall⟩ := hi
      have hlt : i < ops.size := (Array.getElem?_eq_some_iff.1 ho).1
      rw [flip listed i (by omega)] at h0
      obtain ⟨d, hd⟩ := R.has hlt
      have hdo := R.get hd
      rw [ho] at hdo
      obtain rfl : o = d.o := Option.some.inj hdo
      refine hstep _ a w i d _ hd h0 hall A (fun a' w' A' => ?_)
      have hu := getD_upd (listed := listed) (i := i) (by omega)
      refine ih _ a' w' (by simp [hsz]) ?_ (by rw [hu]; exact A')
      rw [hu]
      have := left_upd (D := fun k => listed.getD k false) (i := i) h0 ops.size
      rw [if_pos hlt] at this
      omega

theorem left_le (D : Nat → Bool) : ∀ m, left D m ≤ m
  | 0 => by simp [left]
  | m + 1 => by
    have := left_le D m
    rw [left]
    cases D m
    · rw [cond_false]; omega
    · rw [cond_true]; omega
theorem valH_none {ds : List DS} {h0 : Tr AObj} {o : Nat} : ∀ m, valH ds h0 (fun _ => false) m o = h0.get o
  | 0 => rfl
  | m + 1 => by rw [valH]; cases ds[m]? <;> simp [valH_none m]
theorem valS_none {ds : List DS} {L0 : SL} {t : Nat} : ∀ m, valS ds L0 (fun _ => false) m t = lk L0 t
  | 0 => rfl
  | m + 1 => by rw [valS]; cases ds[m]? <;> simp [valS_none m]
theorem valH_all {ds : List DS} {h0 : Tr AObj} {D : Nat → Bool} {o : Nat} : ∀ m, (∀ i, i < m → D i = true) → valH ds h0 D m o = valH ds h0 (fun _ => true) m o
  | 0, _ => rfl
  | m + 1, h => by rw [valH, valH]; simp only [h m (by omega), valH_all m (fun i hi => h i (by omega))]
theorem valS_all {ds : List DS} {L0 : SL} {D : Nat → Bool} {t : Nat} : ∀ m, (∀ i, i < m → D i = true) → valS ds L0 D m t = valS ds L0 (fun _ => true) m t
  | 0, _ => rfl
  | m + 1, h => by rw [valS, valS]; simp only [h m (by omega), valS_all m (fun i hi => h i (by omega))]

theorem Marks.congr {D : List Deferred} {n0 : Nat} {h h' : Tr AObj} {g : Gh} {w : World} {ds : List Deferred} (hm : Marks D n0 h g w ds) (he : ∀ o, h.get o = h'.get o) : Marks D n0 h' g w ds := by
  obtain ⟨bs, h1, h2, h3⟩ := hm
  exact ⟨bs, h1, h2, fun b hb => ⟨(h3 b hb).1, (h3 b hb).2.1, fun o base ho => (h3 b hb).2.2 o base (by rw [he]; exact ho)⟩⟩
/-- A region whose order is drawn. -/
theorem drawn_ok {P : Program} {T : Tab} (hT : TabOkF P T) (hm : P.follows .mixedOrders = true) {ops : Array Oper} {ro : Option Nat} {N : Nat} {B : BaseP} {nt id : Nat} {Q : Exit → Act → World → Prop} {K : SL → St → Prop} (hg : guardsIn nt ops = true) (hdst : dstsIn nt ops = true)
    {L : SL} {st : St} {g : Gh} {w : World} {a : Act} (hnear : ∀ L' st', K L' st' → B.Near st.nx st'.nx) (hK : ∀ L st g w a', K L st → Cur B g st w → RelSL g w nt L a'.tmps → Marks B.D B.n0 st.h g w a'.defers → a'.defers = a.defers → Q .normal a' w) (h : regionL P T ops true K L st) (hc : Cur B g st w) (hr : RelSL g w nt L a.tmps) (hd : Marks B.D B.n0 st.h g w a.defers) :
    (Code.region id ops true).wpIn (fence ro) N P Q a w := by
  obtain ⟨hs, h⟩ := h
  obtain ⟨ds, L', st', e1, e2, e3, e4, e5⟩ := opsD_run _ _ _ _ (h.elim (opsD_x _ _ _ _) fun h => h)
  obtain ⟨c1, c2, c3, c4⟩ := chain_at (fun d hd => (e2 d hd).toDSRun) e3
  unfold slotsCalm at hs
  rw [Bool.and_eq_true] at hs
  have R : RunOk P T ops ds L st L' st' := by
    refine ⟨e1, fun d hd => (e2 d hd).toDSRun, c1, ⟨c2, c3, c4⟩, fun i k x y t hik hx hy ht hdt => ?_, fun i o ho e he hb => ?_⟩
    · have hxi : (x.o, i) ∈ ops.toList.zipIdx := by
        rw [List.mem_zipIdx_iff_getElem?, ← e1]; simp [hx]
      have hyk : (y.o, k) ∈ ops.toList.zipIdx := by
        rw [List.mem_zipIdx_iff_getElem?, ← e1]; simp [hy]
      have h1 := List.all_eq_true.1 hs.1 _ hxi
      have h2 := List.all_eq_true.1 h1 t ht
      have h3 := List.all_eq_true.1 h2 _ hyk
      simp only [hdt, Bool.or_eq_true] at h3
      rcases h3 with (h3 | h3) | h3
      · simp at h3
      · simp at h3; omega
      · rw [Nat.max_comm, Nat.min_comm]; exact h3
    · have hoi : (o, i) ∈ ops.toList.zipIdx := by rw [List.mem_zipIdx_iff_getElem?]; simpa using ho
      have h1 := List.all_eq_true.1 hs.2 _ hoi
      rw [Array.all_eq_true_iff_forall_mem] at h1
      have := h1 e he
      rw [hb] at this
      simpa using this
  have C : Calm ops ds := fun i k x y hik hx hy => by
    have := calmAll_get _ 0 e4 i k ⟨x.R, x.W⟩ ⟨y.R, y.W⟩ hik (by simp [hx]) (by simp [hy])
    simp only [calmPair, Nat.zero_add, Bool.or_eq_true, Bool.and_eq_true] at this
    rcases this with h1 | h1
    · exact .inr ⟨h1.1.1, h1.1.2, h1.2⟩
    · exact .inl h1
  have hc1 := hc.drawn
  have hd' : Marks B.D B.n0 st.h g { w with drawn := w.drawn + 1 } a.defers := hd
  have mono1 : ∀ i d, ds[i]? = some d → d.st.nx = nxAt ds st.nx i ∧ d.st.nx ≤ d.st1.nx := fun i d hd => ⟨(c1 i d hd).2.2.1, (c1 i d hd).2.2.2⟩
  refine wpIn_region_any hm (any_ok (H := fun D o => valH ds st.h D ds.length o) (L0 := L) (g0 := g) (st0 := st) (w0 := { w with drawn := w.drawn + 1 }) (df := a.defers) R (fun D a w i d K hi hD hr A hK => At.step hT R hg hdst hi (e2 d (List.mem_of_getElem? hi)).g (calm_obj R C hi hD A.closed hr).1 (calm_obj R C hi hD A.closed hr).2 hD hr A hK) ?_ ops.size _ a _ (by simp) ?_ ?_)
  · intro D a' w' hall A
    obtain ⟨g', h', q1, q2, q3, q4, q5⟩ := A.mem
    have hh : ∀ o, h'.get o = st'.h.get o := fun o => by rw [q1 o, valH_all _ hall, c3 o]
    have hle : st.nx ≤ st'.nx := by rw [c4]; exact nxAt_mono mono1 ds.length 0 (Nat.zero_le _)
    refine hK L' st' g' w' a' e5 (hc1.step (hnear _ _ e5) ⟨hle, ?_⟩ (q2.congr hh)) ⟨A.size, fun t => ?_⟩ (by rw [A.defers]; exact Marks.congr (Marks.step q3 hd') hh) A.defers
    · rw [c4]; exact q3.congr hh
    · rw [c2 t, ← valS_all _ hall]; exact q4 t
  · exact left_le _ _
  · have hf : (fun k => (Array.replicate ops.size false).getD k false) = fun _ => false := by
      funext k
      simp only [Array.getD_eq_getD_getElem?, Array.getElem?_replicate]
      split <;> rfl
    rw [hf]
    exact ⟨⟨g, st.h, fun o => (valH_none _).symm, hc1.ok, .refl _ _ _ _ _, fun t => by
        rw [valS_none]; exact (hr.2 t).ext (Ext.same (w := w) (w' := { w with drawn := w.drawn + 1 }) rfl), fun i d hd _ o h1 h9 => hc.fresh o (by
        have := nxAt_mono mono1 i 0 (Nat.zero_le _)
        rw [(c1 i d hd).2.2.1] at h1
        exact Nat.le_trans this h1) (hnear _ _ e5 o (by
        have := nxAt_mono mono1 i 0 (Nat.zero_le _)
        rw [(c1 i d hd).2.2.1] at h1
        exact Nat.le_trans this h1) (by
        rw [c4]
        have h10 := nxAt_mono mono1 ds.length (i + 1) (List.getElem?_eq_some_iff.1 hd).1
        rw [nxAt.eq_2, hd] at h10
        exact Nat.lt_of_lt_of_le h9 h10))⟩, hr.1, rfl, fun i k hik => by cases hik⟩

theorem stepR_scope {P : Program} {b : Frame} {a : Act} {k : List Item} {cs : List Frame} {w : World} {c : Code} : step P (lone (b.atR a (.code (.scope c) :: k)) cs w) = .next (lone (b.atR a (.code c :: .inScope c :: k)) cs w) :=
  step_lone_go (by simp [stepG, stepG.exec, Frame.atR])
theorem stepR_inScope {P : Program} {b : Frame} {a : Act} {k : List Item} {cs : List Frame} {w : World} {c : Code} : step P (lone (b.atR a (.inScope c :: k)) cs w) = .next (lone (b.atR a k) cs w) :=
  step_lone_go (by simp [stepG, stepG.exec, Frame.atR])
theorem wpIn_scope_straight {F : Fence} {n : Nat} {P : Program} {Q : Exit → Act → World → Prop} {a : Act} {w : World} {c : Code} (h : c.wpIn F n P (Exit.noGoto Q) a w) : (Code.scope c).wpIn F n P Q a w := by
  intro b k cs hro hb hr
  obtain ⟨e, a₁, w₁, hq, harr⟩ := h b (.inScope c :: k) cs hro hb hr
  have h0 := fenced_calm (P := P) (F := F) (fr := b.atR a (.code (.scope c) :: k)) (cs := cs) (w := w) (n := n) hb hr rfl
  cases e with
  | normal => exact ⟨.normal, a₁, w₁, hq, .head h0 stepR_scope (StepsIn.trans harr (.one (fenced_calm (fr := b.atR a₁ (.inScope c :: k)) hb hr rfl) stepR_inScope))⟩
  | exit id =>
    have hx : exitTo id (.inScope c :: k) = exitTo id k := by simp [exitTo]
    exact ⟨.exit id, a₁, w₁, hq, fun k' hk => .head h0 stepR_scope (harr.1 k' (by rw [hx]; exact hk)),
      fun hr' hk => let ⟨k₁, h1, h2⟩ := harr.2 hr' (by rw [hx]; exact hk); ⟨k₁, h1, .head h0 stepR_scope h2⟩⟩
  | goto l => exact hq.elim
  | ret => exact ⟨_, a₁, w₁, hq, .of_steps (.one h0 stepR_scope) harr⟩
  | panic ch => exact ⟨_, a₁, w₁, hq, .of_steps (.one h0 stepR_scope) harr⟩
  | outgrown => exact ⟨_, a₁, w₁, hq, .of_steps (.one h0 stepR_scope) harr⟩

/-! ### All code -/
theorem wl_gen {P : Program} {T : Tab} (hT : TabOk P T) (hm : P.follows .mixedOrders = true) {ro : Option Nat} {N : Nat} {B : BaseP} {nt : Nat} (hnf : B.NoFar) (hp : B.pin ≤ 1000) (rf : Bool)
    (hrf : rf = true → ∀ f ps asg body, slotsIn nt (.rangeFunc f ps asg body) = true → WlOk P ro N B nt (.rangeFunc f ps asg body) (wl P T B.pin (.rangeFunc f ps asg body))) :
    ∀ c : Code, slotsIn nt c = true → (rf = true ∨ c.plainR = true) → WlOk P ro N B nt c (wl P T B.pin c) := by
  intro c
  have both : ∀ {x y : Bool}, (rf = true ∨ (x && y) = true) → (rf = true ∨ x = true) ∧ (rf = true ∨ y = true) := by
    intro x y h
    rcases h with h | h
    · exact ⟨.inl h, .inl h⟩
    · rw [Bool.and_eq_true] at h; exact ⟨.inr h.1, .inr h.2⟩
  induction c with
  | skip => intro _ _ Q L st g w a h hc hr hd; exact wpIn_skip (Fin.mk' (e := .normal) h hc hr hd)
  | label l => intro _ _ Q L st g w a h hc hr hd; exact wpIn_label (Fin.mk' (e := .normal) h hc hr hd)
  | exit id => intro _ _ Q L st g w a h hc hr hd; exact wpIn_exit (Fin.mk' (e := .exit id) h hc hr hd)
  | ret => intro _ _ Q L st g w a h hc hr hd; exact wpIn_ret (Fin.mk' (e := .ret) h hc hr hd)
  | region id ops draw =>
    intro hs hpl Q L st g w a h hc hr hd
    simp only [slotsIn, Bool.and_eq_true] at hs
    cases draw with
    | false =>
      refine wpIn_region (opsL_ok hT hnf hs.2 hs.1 (fun L st g w a h hc hr hd => Fin.mk' (e := .normal) h hc hr hd) ops.toList _ (by simp) (range_ops ops) L st g w a h hc hr hd)
    | true => exact drawn_ok hT.toF hm hs.2 hs.1 (fun _ _ _ => hnf.near _ _) (fun L st g w a h hc hr hd _ => Fin.mk' (e := .normal) h hc hr hd) h hc hr hd
  | seq x y ihx ihy =>
    intro hs hpl Q L st g w a h hc hr hd
    simp only [slotsIn, Bool.and_eq_true] at hs
    refine wpIn_seq (wpIn_mono (ihx hs.1 (both hpl).1 _ L st g w a h hc hr hd) ?_)
    rintro ex a' w' ⟨e, L', st', g', rfl, hq, hc', hr', hd'⟩
    cases e with
    | normal => exact ihy hs.2 (both hpl).2 Q L' st' g' w' a' hq hc' hr' hd'
    | exit id => exact ⟨.exit id, L', st', g', rfl, hq, hc', hr', hd'⟩
    | ret => exact ⟨.ret, L', st', g', rfl, hq, hc', hr', hd'⟩
  | cond c x y ihx ihy =>
    intro hs hpl Q L st g w a h hc hr hd
    simp only [slotsIn, Bool.and_eq_true] at hs
    obtain ⟨v, hv, h1, h2⟩ := boolAV_some h
    have hev := bool_exact (hr.eval c) hv
    cases v with
    | true => exact wpIn_cond_true hev (ihx hs.1 (both hpl).1 Q L st g w a (h1 rfl) hc hr hd)
    | false => exact wpIn_cond_false hev (ihy hs.2 (both hpl).2 Q L st g w a (h2 rfl) hc hr hd)
  | block id x ih =>
    intro hs hpl Q L st g w a h hc hr hd
    refine wpIn_block (wpIn_mono (ih hs hpl _ L st g w a h hc hr hd) ?_)
    rintro ex a' w' ⟨e, L', st', g', rfl, hq, hc', hr', hd'⟩
    cases e with
    | normal => exact ⟨.normal, L', st', g', rfl, hq, hc', hr', hd'⟩
    | ret => exact ⟨.ret, L', st', g', rfl, hq, hc', hr', hd'⟩
    | exit j =>
      simp only [blkQ] at hq
      by_cases e : j = id
      · subst e
        simp only [Nat.beq_refl, cond_true] at hq
        simp only [exitOf, Exit.inBlock, if_true]
        exact ⟨.normal, L', st', g', rfl, hq, hc', hr', hd'⟩
      · rw [beq_no e, cond_false] at hq
        simp only [exitOf, Exit.inBlock, if_neg e]
        exact ⟨.exit j, L', st', g', rfl, hq, hc', hr', hd'⟩
  | loop x ih =>
    intro hs hpl Q L st g w a h hc hr hd
    exact loop_ok hnf hp (ih hs hpl) Q L st g w a h hc hr hd
  | scope x ih =>
    intro hs hpl Q L st g w a h hc hr hd
    refine wpIn_scope_straight (wpIn_mono (ih hs hpl Q L st g w a h hc hr hd) ?_)
    rintro ex a' w' ⟨e, L', st', g', rfl, hq, hc', hr', hd'⟩
    cases e <;> exact ⟨_, L', st', g', rfl, hq, hc', hr', hd'⟩
  | rangeFunc f ps asg body =>
    intro hs hpl
    rcases hpl with hpl | hpl
    · exact hrf hpl f ps asg body hs
    · cases hpl
  | goto l => intro _ _ Q L st g w a h; exact h.elim
  | refuse why => intro _ _ Q L st g w a h; exact h.elim
/-- Code without ranges over functions, in an activation or in a round. -/
theorem wl_plain {P : Program} {T : Tab} (hT : TabOk P T) (hm : P.follows .mixedOrders = true) {ro : Option Nat} {N : Nat} {B : BaseP} {nt : Nat} (hnf : B.NoFar) (hp : B.pin ≤ 1000) (c : Code) (hs : slotsIn nt c = true) (hpl : c.plainR = true) : WlOk P ro N B nt c (wl P T B.pin c) :=
  wl_gen hT hm hnf hp false (fun h => by cases h) c hs (.inr hpl)

end
end Go.Vm
