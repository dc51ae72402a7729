/- Walks on abstract values: operations whose order is drawn. No condition. -/
import Derived.Test.YtnkjblopaagkoaaWlC
import Derived.Orders
namespace Go.Vm
noncomputable section

/-! ### Heaps in part -/
theorem maskH_get (h : Tr AObj) : ∀ (F : List Nat) (o : Nat), (∀ p ∈ F, p ≤ limit) → (maskH h F).get o = if o ∈ F then h.get o else none
  | [], o, _ => by simp [maskH, Tr.get_nil]
  | p :: r, o, hl => by
    rw [maskH, get_set _ _ _ _ (hl p (by simp)), maskH_get h r o (fun q hq => hl q (by simp [hq]))]
    by_cases e : o = p
    · subst e; simp
    · rw [if_neg e]; simp [e]
theorem mergeH_get (h1 h : Tr AObj) : ∀ (F : List Nat) (o : Nat), (∀ p ∈ F, p ≤ limit) → (mergeH h1 F h).get o = if o ∈ F then h1.get o else h.get o
  | [], o, _ => by simp [mergeH]
  | p :: r, o, hl => by
    rw [mergeH, get_set _ _ _ _ (hl p (by simp)), mergeH_get h1 h r o (fun q hq => hl q (by simp [hq]))]
    by_cases e : o = p
    · subst e; simp
    · rw [if_neg e]; simp [e]
theorem same_get {h h' : Tr AObj} : ∀ {F : List Nat}, same h h' F → ∀ o ∈ F, h.get o = h'.get o
  | [], _, o, ho => by cases ho
  | p :: r, hs, o, ho => by
    rcases List.mem_cons.1 ho with rfl | ho
    · exact hs.1
    · exact same_get hs.2 o ho

theorem Ok.part {g h hm w} (hok : Ok g h w) (hs : ∀ o x, hm.get o = some x → h.get o = some x) : Ok g hm w :=
  ⟨hok.size, fun o x hx => hok.obj' o x (hs o x hx), fun o o' x x' b base base' hne hx hx' => hok.sep o o' x x' b base base' hne (hs o x hx) (hs o' x' hx'), hok.K⟩

/-- What is done in a part of the heap is done in the heap. -/
theorem frame_step {g h hm w lo hi g' hm' w' h'} {S : Nat → Prop} (hok : Ok g h w) (hs : ∀ o x, hm.get o = some x → h.get o = some x) (hdom : ∀ o x, hm.get o = some x → S o)
    (hstep : Step g hm w lo hi g' hm' w') (hok' : Ok g' hm' w') (h1 : ∀ o, S o → h'.get o = hm'.get o) (h2 : ∀ o, ¬ S o → h'.get o = h.get o) (h3 : ∀ o, lo ≤ o → o < hi → S o) :
    Step g h w lo hi g' h' w' ∧ Ok g' h' w' := by
  have notown : ∀ o x b base, h.get o = some x → ¬ S o → g.inj o = some (b, base) → ∀ o' base', (hm.get o').isSome = true → g.inj o' ≠ some (b, base') := by
    intro o x b base ho hS hb o' base' ho' hb'
    obtain ⟨y, hy⟩ := Option.isSome_iff_exists.1 ho'
    have hne : o ≠ o' := fun e => hS (by rw [e]; exact hdom o' y hy)
    exact hok.sep o o' x y b base base' hne ho (hs o' y hy) hb hb'
  have old : ∀ o x, h'.get o = some x → ¬ S o → (g'.inj o = none ∧ Ghostly x) ∨ ∃ b base, g.inj o = some (b, base) ∧ g.b0 ≤ b ∧ b < w.heap.size ∧ h.get o = some x ∧ ObjRel g' w' b base x := by
    intro o x hx hS
    rw [h2 o hS] at hx
    refine (hok.obj' o x hx).imp (fun q => ⟨hstep.fresh o q.1 (fun hr => hS (h3 o hr.1 hr.2)), q.2⟩) ?_
    rintro ⟨b, base, q1, q2, q3⟩
    refine ⟨b, base, q1, q2, q3.lt, hx, q3.ext hstep.ext (hstep.frame b q3.lt (notown o x b base hx hS q1)) (fun j hj => ?_)⟩
    rcases hstep.Kold b j hj with h3 | h3 | ⟨o', base', h3, h4⟩
    · exact h3
    · have := q3.lt; omega
    · exact (notown o x b base hx hS q1 o' base' h3 h4).elim
  have cls : ∀ o : Nat, S o ∨ ¬ S o := fun o => Classical.em _
  refine ⟨⟨hstep.ext, hstep.size, hstep.os, hstep.tape, hstep.output, fun b hb hn => ?_, hstep.fresh, fun o b base ho hj => ?_, fun b j hK => ?_⟩, ⟨?_, fun o x hx => ?_, fun o o' x x' b base base' hne hx hx' hb hb' => ?_, hok'.K⟩⟩
  · refine hstep.frame b hb (fun o base ho hj => ?_)
    obtain ⟨y, hy⟩ := Option.isSome_iff_exists.1 ho
    exact hn o base (by rw [hs o y hy]; rfl) hj
  · obtain ⟨x, hx⟩ := Option.isSome_iff_exists.1 ho
    rcases cls o with hS | hS
    · rw [h1 o hS] at hx
      rcases hstep.own o b base (by rw [hx]; rfl) hj with h3 | ⟨o', base', h3, h4⟩
      · exact .inl h3
      · obtain ⟨y, hy⟩ := Option.isSome_iff_exists.1 h3
        exact .inr ⟨o', base', by rw [hs o' y hy]; rfl, h4⟩
    · rcases old o x hx hS with ⟨q0, _⟩ | ⟨b', base', q1, q2, q3, q4, q5⟩
      · rw [q0] at hj; cases hj
      have := hstep.ext.inj o _ q1
      rw [hj] at this
      cases this
      exact .inr ⟨o, base, by rw [q4]; rfl, q1⟩
  · rcases hstep.Kold b j hK with h3 | h3 | ⟨o', base', h3, h4⟩
    · exact .inl h3
    · exact .inr (.inl h3)
    · obtain ⟨y, hy⟩ := Option.isSome_iff_exists.1 h3
      exact .inr (.inr ⟨o', base', by rw [hs o' y hy]; rfl, h4⟩)
  · exact hok'.size
  · rcases cls o with hS | hS
    · rw [h1 o hS] at hx; exact hok'.obj' o x hx
    · refine (old o x hx hS).imp id ?_
      rintro ⟨b', base', q1, q2, q3, q4, q5⟩
      exact ⟨b', base', hstep.ext.inj o _ q1, by rw [hstep.ext.b0]; exact q2, q5⟩
  · rcases cls o with hS | hS
    · rcases cls o' with hS' | hS'
      · rw [h1 o hS] at hx
        rw [h1 o' hS'] at hx'
        exact hok'.sep o o' x x' b base base' hne hx hx' hb hb'
      · rcases old o' x' hx' hS' with ⟨q0, _⟩ | ⟨b1, base1, q1, q2, q3, q4, q5⟩
        · rw [q0] at hb'; cases hb'
        have := hstep.ext.inj o' _ q1
        rw [hb'] at this; cases this
        rw [h1 o hS] at hx
        rcases hstep.own o b base (by rw [hx]; rfl) hb with h3 | ⟨o2, base2, h3, h4⟩
        · omega
        · exact notown o' x' b base' q4 hS' q1 o2 base2 h3 h4
    · rcases old o x hx hS with ⟨q0, _⟩ | ⟨b1, base1, q1, q2, q3, q4, q5⟩
      · rw [q0] at hb; cases hb
      have := hstep.ext.inj o _ q1
      rw [hb] at this; cases this
      rcases cls o' with hS' | hS'
      · rw [h1 o' hS'] at hx'
        rcases hstep.own o' b base' (by rw [hx']; rfl) hb' with h3 | ⟨o2, base2, h3, h4⟩
        · omega
        · exact notown o x b base q4 hS q1 o2 base2 h3 h4
      · rcases old o' x' hx' hS' with ⟨q0, _⟩ | ⟨b2, base2, r1, r2, r3, r4, r5⟩
        · rw [q0] at hb'; cases hb'
        have := hstep.ext.inj o' _ r1
        rw [hb'] at this; cases this
        exact hok.sep o o' x x' b base base' hne q4 r4 q1 r1

theorem Step.both {g h w lo hi g' h' w' g'' h'' w''} (s : Step g h w lo hi g' h' w') (t : Step g' h' w' lo hi g'' h'' w'') : Step g h w lo hi g'' h'' w'' := by
  refine ⟨s.ext.trans t.ext, Nat.le_trans s.size t.size, t.os.trans s.os, t.tape.trans s.tape, t.output.trans s.output, fun b hb hn => ?_, fun o ho hr => t.fresh o (s.fresh o ho hr) hr, fun o b base ho hj => ?_, fun b j hK => ?_⟩
  · rw [t.frame b (Nat.lt_of_lt_of_le hb s.size) (fun o base ho hj => ?_), s.frame b hb hn]
    rcases s.own o b base ho hj with hge | ⟨o', base', ho', hj'⟩
    · omega
    · exact hn o' base' ho' hj'
  · rcases t.own o b base ho hj with hge | ⟨o', base', ho', hj'⟩
    · exact .inl (Nat.le_trans s.size hge)
    · exact s.own o' b base' ho' hj'
  · rcases t.Kold b j hK with h | hge | ⟨o', base', ho', hj'⟩
    · exact s.Kold b j h
    · exact .inr (.inl (Nat.le_trans s.size hge))
    · rcases s.own o' b base' ho' hj' with hge | hx
      · exact .inr (.inl hge)
      · exact .inr (.inr hx)

/-! ### The run in the order of the text, step by step -/
structure DS where
  o : Oper
  L : SL
  st : St
  want : Bool
  v : AV
  st1 : St
  R : List Nat
  W : List Nat
def gval (ops : Array Oper) (L : SL) (o : Oper) : Option Bool :=
  match o.guard with
  | none => some true
  | some (j, b) => wantA (lk L (gslot ops j)) b
structure DSRun (P : Program) (T : Tab) (d : DS) : Prop where
  run : d.want = true → operL P T d.o (onlyOf d.o d.L) { h := maskH d.st.h d.R, nx := d.st.nx, rl := [], wl := [] } = some (d.v, d.st1) ∧ (∀ p ∈ d.R, p < d.st.nx) ∧ d.st1.nx ≤ limit ∧
    (∀ o, o ∈ d.W ↔ (o ∈ d.W ∧ o ∈ d.R) ∨ (d.st.nx ≤ o ∧ o < d.st1.nx)) ∧ (∀ o ∈ d.R, o ∉ d.W → d.st.h.get o = d.st1.h.get o)
  skip : d.want = false → d.v = .sc undef ∧ d.st1.nx = d.st.nx ∧ d.R = [] ∧ d.W = []
structure DSOk (P : Program) (T : Tab) (ops : Array Oper) (d : DS) : Prop extends DSRun P T d where
  g : gval ops d.L d.o = some d.want
def DS.nextL (d : DS) : SL := putL d.o.dst d.v d.L
noncomputable def DS.next (d : DS) : St := bif d.want then { h := mergeH d.st1.h (d.R ++ fromTo d.st.nx (d.st1.nx - d.st.nx)) d.st.h, nx := d.st1.nx, rl := [], wl := [] } else d.st
def Chain : List DS → SL → St → SL → St → Prop
  | [], L, st, L', st' => L' = L ∧ st' = st
  | d :: r, L, st, L', st' => d.L = L ∧ d.st = st ∧ Chain r d.nextL d.next L' st'

theorem guarded_val {ops : Array Oper} {L : SL} {o : Oper} {x y : Prop} (h : guarded ops L o.guard x y) : ∃ b, gval ops L o = some b ∧ (b = true → x) ∧ (b = false → y) := by
  unfold guarded at h
  unfold gval
  cases hg : o.guard with
  | none => rw [hg] at h; exact ⟨true, rfl, fun _ => h, fun e => by cases e⟩
  | some q =>
    obtain ⟨j, b⟩ := q
    rw [hg] at h
    exact wantP_some h

theorem guardedX {ops : Array Oper} {L : SL} {gd : Option (Nat × Bool)} {x y x' y' : Prop} (h1 : x → x') (h2 : y → y') (h : guarded ops L gd x y) : guarded ops L gd x' y' := by
  unfold guarded at *
  split at h
  · exact h1 h
  · unfold wantP at *
    split at h
    · exact ⟨fun e => h1 (h.1 e), fun e => h2 (h.2 e)⟩
    · exact h.elim
theorem opDoX_mono {P : Program} {T : Tab} {o : Oper} {recs : List Rec} {K K' : List Rec → SL → St → Prop} {L : SL} {st : St} (hk : ∀ r L st, K r L st → K' r L st) (h : opDoX P T o recs K L st) : opDoX P T o recs K' L st := by
  obtain ⟨F, W, v, st1, h1, h2, h3, h4, h5, h6⟩ := h
  exact ⟨F, W, v, st1, h1, h2, h3, h4, h5, hk _ _ _ h6⟩
theorem opsD_x {P : Program} {T : Tab} {ops : Array Oper} {K : SL → St → Prop} : ∀ (l : List Oper) (recs : List Rec) (L : SL) (st : St), opsD P T ops l K recs L st → opsX P T ops l K recs L st
  | [], _, _, _, h => h
  | o :: r, recs, L, st, h => guardedX (fun q => opDoX_mono (fun _ _ _ k => opsD_x r _ _ _ k) (opDoD_x q)) (fun q => opsD_x r _ _ _ q) h
theorem opsD_run {P : Program} {T : Tab} {ops : Array Oper} {K : SL → St → Prop} : ∀ (l : List Oper) (L : SL) (st : St) (recs : List Rec), opsX P T ops l K recs L st →
    ∃ ds L' st', ds.map (·.o) = l ∧ (∀ d ∈ ds, DSOk P T ops d) ∧ Chain ds L st L' st' ∧ calmAll (Region.before ops) 0 (recs ++ ds.map fun d => ⟨d.R, d.W⟩) = true ∧ K L' st' := by
  intro l
  induction l with
  | nil => intro L st recs h; exact ⟨[], L, st, rfl, by simp, ⟨rfl, rfl⟩, by simpa using h.1, h.2⟩
  | cons o l ih =>
    intro L st recs h
    obtain ⟨b, hb, h1, h2⟩ := guarded_val h
    cases b with
    | true =>
      obtain ⟨F, W, v, st1, hop, h4, h5, h6, h7, h8⟩ := h1 rfl
      obtain ⟨ds, L', st', e1, e2, e3, e4, e5⟩ := ih _ _ _ h8
      have hle := operL_le hop
      refine ⟨{ o, L, st, want := true, v, st1, R := F, W := W ++ fromTo st.nx (st1.nx - st.nx) } :: ds, L', st', by simp [e1], ?_, ⟨rfl, rfl, ?_⟩, ?_, e5⟩
      · intro d hd
        rcases List.mem_cons.1 hd with rfl | hd
        · refine ⟨⟨fun _ => ⟨hop, h6, h7, fun q => ?_, fun q hq hn => ?_⟩, fun e => by cases e⟩, hb⟩
          · simp only [List.mem_append, fromTo_mem]
            constructor
            · rintro (hq | hq)
              · exact .inl ⟨.inl hq, h4 q hq⟩
              · exact .inr ⟨hq.1, by simp at hle; omega⟩
            · rintro (hq | hq)
              · exact hq.1
              · exact .inr ⟨hq.1, by omega⟩
          · have := h5 q hq (fun hw => hn (List.mem_append.2 (.inl hw)))
            rw [maskH_get _ _ _ (fun p hp => by have := h6 p hp; simp at hle; omega), if_pos hq] at this
            exact this
        · exact e2 d hd
      · exact e3
      · simpa [List.append_assoc] using e4
    | false =>
      have h3 := h2 rfl
      obtain ⟨ds, L', st', e1, e2, e3, e4, e5⟩ := ih _ _ _ h3
      refine ⟨{ o, L, st, want := false, v := .sc undef, st1 := st, R := [], W := [] } :: ds, L', st', by simp [e1], ?_, ⟨rfl, rfl, ?_⟩, ?_, e5⟩
      · intro d hd
        rcases List.mem_cons.1 hd with rfl | hd
        · exact ⟨⟨(fun e => by cases e), fun _ => ⟨rfl, rfl, rfl, rfl⟩⟩, hb⟩
        · exact e2 d hd
      · exact e3
      · simpa [List.append_assoc] using e4

/-! ### What slots and objects hold where some operations have been carried out -/
noncomputable def valH (ds : List DS) (h0 : Tr AObj) (D : Nat → Bool) : Nat → Nat → Option AObj
  | 0, o => h0.get o
  | m + 1, o =>
    match ds[m]? with
    | some d => if D m = true ∧ o ∈ d.W then d.st1.h.get o else valH ds h0 D m o
    | none => valH ds h0 D m o
def valS (ds : List DS) (L0 : SL) (D : Nat → Bool) : Nat → Nat → AV
  | 0, t => lk L0 t
  | m + 1, t =>
    match ds[m]? with
    | some d => if D m = true ∧ d.o.dst = some t then d.v else valS ds L0 D m t
    | none => valS ds L0 D m t
def nxAt (ds : List DS) (n0 : Nat) : Nat → Nat
  | 0 => n0
  | m + 1 =>
    match ds[m]? with
    | some d => d.st1.nx
    | none => nxAt ds n0 m

theorem lk_put (dst : Option Tmp) (v : AV) (L : SL) (t : Nat) : lk (putL dst v L) t = if dst = some t then v else lk L t := by
  cases dst with
  | none => simp [putL]
  | some d => simp [putL, lk_cons]

theorem chain_at {P : Program} {T : Tab} {ds : List DS} {L0 : SL} {st0 : St} {L' : SL} {st' : St} (hds : ∀ d ∈ ds, DSRun P T d) (hc : Chain ds L0 st0 L' st') :
    (∀ i d, ds[i]? = some d → (∀ t, lk d.L t = valS ds L0 (fun _ => true) i t) ∧ (∀ o, d.st.h.get o = valH ds st0.h (fun _ => true) i o) ∧ d.st.nx = nxAt ds st0.nx i ∧ d.st.nx ≤ d.st1.nx) ∧
    (∀ t, lk L' t = valS ds L0 (fun _ => true) ds.length t) ∧ (∀ o, st'.h.get o = valH ds st0.h (fun _ => true) ds.length o) ∧ st'.nx = nxAt ds st0.nx ds.length := by
  have key : ∀ (k : Nat) (r : List DS) (L : SL) (st : St), ds.drop k = r → k ≤ ds.length → Chain r L st L' st' → (∀ t, lk L t = valS ds L0 (fun _ => true) k t) → (∀ o, st.h.get o = valH ds st0.h (fun _ => true) k o) → st.nx = nxAt ds st0.nx k →
      (∀ i d, k ≤ i → ds[i]? = some d → (∀ t, lk d.L t = valS ds L0 (fun _ => true) i t) ∧ (∀ o, d.st.h.get o = valH ds st0.h (fun _ => true) i o) ∧ d.st.nx = nxAt ds st0.nx i ∧ d.st.nx ≤ d.st1.nx) ∧
      (∀ t, lk L' t = valS ds L0 (fun _ => true) ds.length t) ∧ (∀ o, st'.h.get o = valH ds st0.h (fun _ => true) ds.length o) ∧ st'.nx = nxAt ds st0.nx ds.length := by
    intro k r
    induction r generalizing k with
    | nil =>
      intro L st hr hk hch h1 h2 h3
      have hlen : k = ds.length := by
        have := congrArg List.length hr; simp at this; omega
      obtain ⟨rfl, rfl⟩ := hch
      subst hlen
      refine ⟨fun i d hi hd => ?_, h1, h2, h3⟩
      rw [List.getElem?_eq_none hi] at hd; cases hd
    | cons d r ih =>
      intro L st hr hk hch h1 h2 h3
      obtain ⟨rfl, rfl, hch⟩ := hch
      have hk' : k < ds.length := by
        rcases Nat.lt_or_ge k ds.length with h | h
        · exact h
        · rw [List.drop_eq_nil_of_le h] at hr; cases hr
      rw [List.drop_eq_getElem_cons hk'] at hr
      injection hr with hd hr
      have hdk : ds[k]? = some d := by rw [List.getElem?_eq_getElem hk', hd]
      have hok := hds d (List.mem_of_getElem? hdk)
      have hle : d.st.nx ≤ d.st1.nx := by
        cases hw : d.want with
        | true => have := operL_le (hok.run hw).1; exact this
        | false => rw [(hok.skip hw).2.1]; exact Nat.le_refl _
      have hn := ih (k + 1) d.nextL d.next hr hk' hch (fun t => ?_) (fun o => ?_) ?_
      · refine ⟨fun i d' hi hd' => ?_, hn.2⟩
        rcases Nat.lt_or_ge k i with h | h
        · exact hn.1 i d' h hd'
        · have : i = k := by omega
          subst this
          rw [hdk] at hd'; cases hd'
          exact ⟨h1, h2, h3, hle⟩
      · rw [DS.nextL, lk_put, valS, hdk]
        simp only [true_and]
        split
        · rfl
        · exact h1 t
      · rw [DS.next, valH, hdk]
        cases hw : d.want with
        | true =>
          obtain ⟨r1, r2, r3, r4, r5⟩ := hok.run hw
          simp only [cond_true, true_and]
          rw [mergeH_get _ _ _ _ (fun p hp => by
            rcases List.mem_append.1 hp with hp | hp
            · have := r2 p hp; omega
            · rw [fromTo_mem] at hp; omega)]
          by_cases hW : o ∈ d.W
          · rw [if_pos hW, if_pos]
            rcases (r4 o).1 hW with hq | hq
            · exact List.mem_append.2 (.inl hq.2)
            · exact List.mem_append.2 (.inr (by rw [fromTo_mem]; omega))
          · rw [if_neg hW]
            by_cases hR : o ∈ d.R
            · rw [if_pos (List.mem_append.2 (.inl hR)), ← r5 o hR hW, h2 o]
            · rw [if_neg, h2 o]
              intro hm
              rcases List.mem_append.1 hm with hm | hm
              · exact hR hm
              · rw [fromTo_mem] at hm
                exact hW ((r4 o).2 (.inr (by omega)))
        | false =>
          obtain ⟨s1, s2, s3, s4⟩ := hok.skip hw
          simp only [cond_false, s4, List.not_mem_nil, and_false, if_false]
          exact h2 o
      · rw [DS.next, nxAt, hdk]
        cases hw : d.want with
        | true => rfl
        | false => exact (hok.skip hw).2.1.symm
  have := key 0 ds L0 st0 rfl (Nat.zero_le _) hc (fun t => rfl) (fun o => rfl) rfl
  exact ⟨fun i d hd => this.1 i d (Nat.zero_le _) hd, this.2⟩

/-- Only the writers count. -/
theorem valH_upto {ds : List DS} {h0 : Tr AObj} {D : Nat → Bool} {i : Nat} {o : Nat} (h : ∀ k d, ds[k]? = some d → o ∈ d.W → (D k = true ↔ k < i)) : ∀ m, valH ds h0 D m o = valH ds h0 (fun _ => true) (min m i) o
  | 0 => by simp [valH]
  | m + 1 => by
    have ih := valH_upto (h0 := h0) h m
    rw [valH]
    cases hd : ds[m]? with
    | none =>
      rcases Nat.lt_or_ge m i with hm | hm
      · rw [show min (m + 1) i = m + 1 from by omega, valH, hd]; simp only; rw [ih, show min m i = m from by omega]
      · simp only; rw [ih, show min (m + 1) i = min m i from by omega]
    | some d =>
      simp only
      rcases Nat.lt_or_ge m i with hm | hm
      · rw [show min (m + 1) i = m + 1 from by omega, valH, hd]
        simp only
        by_cases hW : o ∈ d.W
        · rw [if_pos ⟨(h m d hd hW).2 hm, hW⟩, if_pos ⟨by simp, hW⟩]
        · rw [if_neg (fun e => hW e.2), if_neg (fun e => hW e.2), ih, show min m i = m from by omega]
      · rw [if_neg (fun e => by have := (h m d hd e.2).1 e.1; omega), ih, show min (m + 1) i = min m i from by omega]
theorem valS_upto {ds : List DS} {L0 : SL} {D : Nat → Bool} {i : Nat} {t : Nat} (h : ∀ k d, ds[k]? = some d → d.o.dst = some t → (D k = true ↔ k < i)) : ∀ m, valS ds L0 D m t = valS ds L0 (fun _ => true) (min m i) t
  | 0 => by simp [valS]
  | m + 1 => by
    have ih := valS_upto (L0 := L0) h m
    rw [valS]
    cases hd : ds[m]? with
    | none =>
      rcases Nat.lt_or_ge m i with hm | hm
      · rw [show min (m + 1) i = m + 1 from by omega, valS, hd]; simp only; rw [ih, show min m i = m from by omega]
      · simp only; rw [ih, show min (m + 1) i = min m i from by omega]
    | some d =>
      simp only
      rcases Nat.lt_or_ge m i with hm | hm
      · rw [show min (m + 1) i = m + 1 from by omega, valS, hd]
        simp only
        by_cases hW : d.o.dst = some t
        · rw [if_pos ⟨(h m d hd hW).2 hm, hW⟩, if_pos ⟨by simp, hW⟩]
        · rw [if_neg (fun e => hW e.2), if_neg (fun e => hW e.2), ih, show min m i = m from by omega]
      · rw [if_neg (fun e => by have := (h m d hd e.2).1 e.1; omega), ih, show min (m + 1) i = min m i from by omega]

def upd (D : Nat → Bool) (i : Nat) : Nat → Bool := fun k => if k = i then true else D k
theorem valH_upd {ds : List DS} {h0 : Tr AObj} {D : Nat → Bool} {i : Nat} {d : DS} {o : Nat} (hi : ds[i]? = some d) (h : o ∈ d.W → ∀ k e, ds[k]? = some e → i < k → o ∈ e.W → D k = false) :
    ∀ m, valH ds h0 (upd D i) m o = if o ∈ d.W ∧ i < m then d.st1.h.get o else valH ds h0 D m o
  | 0 => by simp [valH]
  | m + 1 => by
    have ih := valH_upd (h0 := h0) hi h m
    rw [valH]
    cases hd : ds[m]? with
    | none =>
      simp only
      rw [ih, valH, hd]
      have : m ≠ i := fun e => by subst e; rw [hi] at hd; cases hd
      by_cases hm : i < m
      · simp [hm, Nat.lt_succ_of_lt hm]
      · simp [hm, show ¬ i < m + 1 from by omega]
    | some e =>
      simp only
      rw [valH, hd]
      by_cases hm : m = i
      · subst hm
        rw [hi] at hd; cases hd
        simp only [upd, if_true, true_and]
        by_cases hW : o ∈ d.W
        · simp [hW]
        · rw [ih]; simp [hW]
      · simp only [upd, if_neg hm]
        by_cases hW : o ∈ d.W
        · by_cases hlt : i < m
          · by_cases he : o ∈ e.W
            · have := h hW m e hd hlt he
              rw [this, if_neg (by simp), ih]
              simp [hW, hlt, Nat.lt_succ_of_lt hlt]
            · rw [if_neg (fun q => he q.2), ih]
              simp [hW, hlt, Nat.lt_succ_of_lt hlt]
          · have hl2 : ¬ i < m + 1 := by omega
            rw [ih]; simp [hlt, hl2]
        · rw [ih]; simp [hW]
theorem valS_upd {ds : List DS} {L0 : SL} {D : Nat → Bool} {i : Nat} {d : DS} {t : Nat} (hi : ds[i]? = some d) (h : d.o.dst = some t → ∀ k e, ds[k]? = some e → i < k → e.o.dst = some t → D k = false) :
    ∀ m, valS ds L0 (upd D i) m t = if d.o.dst = some t ∧ i < m then d.v else valS ds L0 D m t
  | 0 => by simp [valS]
  | m + 1 => by
    have ih := valS_upd (L0 := L0) hi h m
    rw [valS]
    cases hd : ds[m]? with
    | none =>
      simp only
      rw [ih, valS, hd]
      have : m ≠ i := fun e => by subst e; rw [hi] at hd; cases hd
      by_cases hm : i < m
      · simp [hm, Nat.lt_succ_of_lt hm]
      · simp [hm, show ¬ i < m + 1 from by omega]
    | some e =>
      simp only
      rw [valS, hd]
      by_cases hm : m = i
      · subst hm
        rw [hi] at hd; cases hd
        simp only [upd, if_true, true_and]
        by_cases hW : d.o.dst = some t
        · simp [hW]
        · rw [ih]; simp [hW]
      · simp only [upd, if_neg hm]
        by_cases hW : d.o.dst = some t
        · by_cases hlt : i < m
          · by_cases he : e.o.dst = some t
            · have := h hW m e hd hlt he
              rw [this, if_neg (by simp), ih]
              simp [hW, hlt, Nat.lt_succ_of_lt hlt]
            · rw [if_neg (fun q => he q.2), ih]
              simp [hW, hlt, Nat.lt_succ_of_lt hlt]
          · have hl2 : ¬ i < m + 1 := by omega
            rw [ih]; simp [hlt, hl2]
        · rw [ih]; simp [hW]

end
end Go.Vm
