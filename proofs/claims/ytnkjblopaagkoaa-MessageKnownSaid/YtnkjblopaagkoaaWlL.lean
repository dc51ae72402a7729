/- Walks on abstract values: maps that are written out, whatever order is drawn. No condition. -/
import Derived.Test.YtnkjblopaagkoaaWlF
namespace Go.Vm
noncomputable section

/-! ### Objects that are the same but for the order of a map's entries -/
inductive Same : AObj → AObj → Prop
  | rfl (x : AObj) : Same x x
  | perm (es es' : List (Value × AV)) (h : es.Perm es') (hl : loose es = true) : Same (.map es) (.map es')
theorem Same.ghost {x y} (hs : Same x y) (h : Ghostly y) : Ghostly x := by
  cases hs with
  | rfl => exact h
  | perm es es' hp hl => obtain ⟨s, e, he⟩ := h; cases he
theorem Same.obj {g w b base x y} (hs : Same x y) (h : ObjRel g w b base y) : ObjRel g w b base x := by
  cases hs with
  | rfl => exact h
  | perm es es' hp hl =>
    obtain ⟨h0, ms, clock, h1, h2, h3, h4, l, h5, h6, h7⟩ := h
    refine ⟨h0, ms, clock, h1, by rw [h2, hp.length_eq], h3, h4, ?_⟩
    -- the entries of the map, told by their abstract entries
    have hlen : l.length = es'.length := by rw [h5.length_eq, ← h2]; simp
    have key : ∀ (k k' : List (Value × AV)), k.Perm k' → ∀ l' : List MapEntry, l'.length = k'.length → (∀ (i : Nat) e m, k'[i]? = some e → l'[i]? = some m → m.key = e.1 ∧ Rel g w e.2 m.val) →
        ∃ l : List MapEntry, l.Perm l' ∧ l.length = k.length ∧ (∀ (i : Nat) e m, k[i]? = some e → l[i]? = some m → m.key = e.1 ∧ Rel g w e.2 m.val) := by
      intro k k' hp
      induction hp with
      | nil => intro l' hl' hr; exact ⟨l', .refl _, hl', hr⟩
      | cons a _ ih =>
        intro l' hl' hr
        cases l' with
        | nil => simp at hl'
        | cons m l' =>
          obtain ⟨l, q1, q2, q3⟩ := ih l' (by simpa using hl') (fun i e m' he hm => hr (i + 1) e m' (by simpa using he) (by simpa using hm))
          refine ⟨m :: l, q1.cons m, by simp [q2], fun i e m' he hm => ?_⟩
          cases i with
          | zero => exact hr 0 e m' (by simpa using he) (by simpa using hm)
          | succ i => exact q3 i e m' (by simpa using he) (by simpa using hm)
      | swap a b k =>
        intro l' hl' hr
        match l', hl' with
        | m :: n :: l', hl' =>
          refine ⟨n :: m :: l', List.Perm.swap _ _ _, by simpa using hl', fun i e m' he hm => ?_⟩
          match i with
          | 0 => exact hr 1 e m' (by simpa using he) (by simpa using hm)
          | 1 => exact hr 0 e m' (by simpa using he) (by simpa using hm)
          | i + 2 => exact hr (i + 2) e m' (by simpa using he) (by simpa using hm)
      | trans _ _ ih1 ih2 =>
        intro l' hl' hr
        obtain ⟨l2, q1, q2, q3⟩ := ih2 l' hl' hr
        obtain ⟨l1, p1, p2, p3⟩ := ih1 l2 q2 q3
        exact ⟨l1, p1.trans q1, p2, p3⟩
    obtain ⟨l2, q1, _, q3⟩ := key es es' hp l hlen h6
    exact ⟨l2, q1.trans h5, q3, .inr hl⟩

/-! ### Heaps that hold less -/
theorem Ok.covers {g h h' w} (hok : Ok g h' w) (hs : ∀ o x, h.get o = some x → ∃ y, h'.get o = some y ∧ Same x y) : Ok g h w := by
  refine ⟨hok.size, fun o x hx => ?_, fun o o' x x' b base base' hne hx hx' => ?_, hok.K⟩
  · obtain ⟨y, h1, h2⟩ := hs o x hx
    refine (hok.obj' o y h1).imp (fun q => ⟨q.1, h2.ghost q.2⟩) ?_
    rintro ⟨b, base, q1, q2, q3⟩
    exact ⟨b, base, q1, q2, h2.obj q3⟩
  · obtain ⟨y, h1, _⟩ := hs o x hx
    obtain ⟨y', h1', _⟩ := hs o' x' hx'
    exact hok.sep o o' y y' b base base' hne h1 h1'
theorem isSome_covers {h h' : Tr AObj} (hs : ∀ o x, h.get o = some x → ∃ y, h'.get o = some y ∧ Same x y) {o : Nat} (ho : (h.get o).isSome = true) : (h'.get o).isSome = true := by
  obtain ⟨x, hx⟩ := Option.isSome_iff_exists.1 ho
  obtain ⟨y, h1, _⟩ := hs o x hx
  rw [h1]; rfl

/-! ### Entries that have been put in -/
structure Lit where
  i : Nat
  d : TypeDesc
  e : Value × AV
def ents (lits : List Lit) (D : Nat → Bool) : List (Value × AV) := (lits.filter fun q => D q.i).map (·.e)
structure LitsOk (lits : List Lit) : Prop where
  idx : (lits.map (·.i)).Nodup
  apart : ∀ q ∈ lits, ∀ r ∈ lits, q.i ≠ r.i → apartV q.e.1 r.e.1 = true ∧ Instr.sameNow q.d q.e.1 r.e.1 = some false
theorem idx_inj {lits : List Lit} (h : (lits.map (·.i)).Nodup) {q r : Lit} (hq : q ∈ lits) (hr : r ∈ lits) (e : q.i = r.i) : q = r := by
  induction lits with
  | nil => cases hq
  | cons a l ih =>
    rw [List.map_cons, List.nodup_cons] at h
    rcases List.mem_cons.1 hq with h1 | h1
    · rcases List.mem_cons.1 hr with h2 | h2
      · rw [h1, h2]
      · exact (h.1 (by rw [← h1, e]; exact List.mem_map_of_mem h2)).elim
    · rcases List.mem_cons.1 hr with h2 | h2
      · exact (h.1 (by rw [← h2, ← e]; exact List.mem_map_of_mem h1)).elim
      · exact ih h.2 h1 h2
theorem ents_mem {lits : List Lit} {D : Nat → Bool} {e : Value × AV} (h : e ∈ ents lits D) : ∃ q ∈ lits, D q.i = true ∧ q.e = e := by
  simp only [ents, List.mem_map, List.mem_filter] at h
  obtain ⟨q, ⟨h1, h2⟩, h3⟩ := h
  exact ⟨q, h1, h2, h3⟩
theorem apartK_ents {D : Nat → Bool} : ∀ {lits : List Lit}, LitsOk lits → apartK (ents lits D) = true
  | [], _ => rfl
  | q :: l, h => by
    have hl : LitsOk l := ⟨by have := h.idx; rw [List.map_cons, List.nodup_cons] at this; exact this.2, fun a ha b hb => h.apart a (by simp [ha]) b (by simp [hb])⟩
    have ih := apartK_ents (D := D) hl
    unfold ents at ih ⊢
    rw [List.filter_cons]
    split
    · simp only [List.map_cons, apartK, Bool.and_eq_true, List.all_eq_true]
      refine ⟨fun x hx => ?_, ih⟩
      obtain ⟨r, h1, _, rfl⟩ := ents_mem (D := D) hx
      refine (h.apart q (by simp) r (by simp [h1]) (fun e => ?_)).1
      have := h.idx
      rw [List.map_cons, List.nodup_cons] at this
      exact this.1 (by rw [e]; exact List.mem_map_of_mem h1)
    · exact ih
theorem ents_upd {lits : List Lit} (h : (lits.map (·.i)).Nodup) {D : Nat → Bool} {q : Lit} (hq : q ∈ lits) (hD : D q.i = false) : (ents lits (upd D q.i)).Perm (ents lits D ++ [q.e]) := by
  induction lits with
  | nil => cases hq
  | cons a l ih =>
    rw [List.map_cons, List.nodup_cons] at h
    unfold ents at ih ⊢
    rcases List.mem_cons.1 hq with rfl | hq
    · rw [List.filter_cons_of_pos (by simp [upd]), List.filter_cons_of_neg (by simp [hD])]
      have : l.filter (fun r => upd D q.i r.i) = l.filter (fun r => D r.i) := by
        refine List.filter_congr fun r hr => ?_
        have : r.i ≠ q.i := fun e => h.1 (by rw [← e]; exact List.mem_map_of_mem hr)
        simp [upd, this]
      rw [this, List.map_cons]
      exact (List.perm_append_singleton _ _).symm
    · have hne : a.i ≠ q.i := fun e => h.1 (by rw [e]; exact List.mem_map_of_mem hq)
      have hu : upd D q.i a.i = D a.i := by simp [upd, hne]
      cases hb : D a.i with
      | true =>
        rw [List.filter_cons_of_pos (by rw [hu, hb]), List.filter_cons_of_pos (by rw [hb])]
        exact (ih h.2 hq).cons _
      | false =>
        rw [List.filter_cons_of_neg (by rw [hu, hb]; simp), List.filter_cons_of_neg (by rw [hb]; simp)]
        exact ih h.2 hq
theorem ents_other {lits : List Lit} {D : Nat → Bool} {i : Nat} (h : ∀ q ∈ lits, q.i ≠ i) : ents lits (upd D i) = ents lits D := by
  unfold ents
  congr 1
  exact List.filter_congr fun q hq => by simp [upd, h q hq]
theorem ents_none {lits : List Lit} {D : Nat → Bool} (h : ∀ q ∈ lits, D q.i = false) : ents lits D = [] := by
  unfold ents
  rw [List.filter_eq_nil_iff.2 (fun q hq => by simp [h q hq])]
  rfl
theorem ents_all {lits : List Lit} {D : Nat → Bool} (h : ∀ q ∈ lits, D q.i = true) : ents lits D = lits.map (·.e) := by
  unfold ents
  rw [List.filter_eq_self.2 (fun q hq => h q hq)]
theorem findNow_none (d : TypeDesc) (k : Value) : ∀ (l : List MapEntry) (i : Nat), (∀ m ∈ l, Instr.sameNow d k m.key = some false) → Instr.findNow d k l i = some none
  | [], _, _ => rfl
  | m :: l, i, h => by
    rw [Instr.findNow, h m (by simp)]
    exact findNow_none d k l (i + 1) (fun m hm => h m (by simp [hm]))
theorem findK_none {P : Program} {kt : TypeId} {d : TypeDesc} {k : Value} {es : List (Value × AV)} (hu : P.underlying kt = some d) (h : ∀ e ∈ es, Instr.sameNow d k e.1 = some false) : findK P kt k es = some none := by
  have hf : Instr.findNow d k (keysM es) 0 = some none := findNow_none d k _ 0 (fun m hm => by
    simp only [keysM, List.mem_map] at hm
    obtain ⟨e, he, rfl⟩ := hm
    exact h e he)
  have hn : nowOk P kt k es = true := by unfold nowOk; rw [hu]; simp only; rw [hf]; rfl
  unfold findK
  rw [hn, Bool.or_true, cond_true]
  have hevu : ev P (underlying kt) = some d := by
    simp [underlying, program, ev, hu, ev_bind', ev_pure, Sem.bind, bind]
  have : ev P (Instr.findKey kt k (keysM es)) = some none := by
    unfold Instr.findKey
    rw [ev_bind', hevu]
    simp only [Option.bind_some]
    rw [hf]; rfl
  rw [this]; rfl

/-! ### The drawn order -/
theorem Step.covers {g h w lo hi g' h' h'' w'} (s : Step g h w lo hi g' h' w') (hs : ∀ o x, h''.get o = some x → ∃ y, h'.get o = some y ∧ Same x y) : Step g h w lo hi g' h'' w' :=
  ⟨s.ext, s.size, s.os, s.tape, s.output, s.frame, s.fresh, fun o b base ho hi => s.own o b base (isSome_covers hs ho) hi, s.Kold⟩
def isIns (o : Oper) : Bool := match o.op with | .insert .. => true | _ => false
def gvalY (ops : Array Oper) (L : SL) (o : Oper) : Option Bool := bif isIns o then some false else gval ops L o
def opsY (P : Program) (T : Tab) (ops : Array Oper) (E : List Rec → Prop) : List Oper → (SL → St → Prop) → List Rec → SL → St → Prop
  | [], K => fun recs L st => E recs ∧ K L st
  | o :: r, K => fun recs L st => (gvalY ops L o = some true ∧ opDoX P T o recs (opsY P T ops E r K) L st) ∨ (gvalY ops L o = some false ∧ opsY P T ops E r K (recs ++ [⟨[], []⟩]) (putL o.dst (.sc undef) L) st)
theorem opsY_run {P : Program} {T : Tab} {ops : Array Oper} {E : List Rec → Prop} {K : SL → St → Prop} : ∀ (l : List Oper) (L : SL) (st : St) (recs : List Rec), opsY P T ops E l K recs L st →
    ∃ ds L' st', ds.map (·.o) = l ∧ (∀ d ∈ ds, DSRun P T d ∧ gvalY ops d.L d.o = some d.want) ∧ Chain ds L st L' st' ∧ E (recs ++ ds.map fun d => ⟨d.R, d.W⟩) ∧ K L' st' := by
  intro l
  induction l with
  | nil => intro L st recs h; exact ⟨[], L, st, rfl, by simp, ⟨rfl, rfl⟩, by simpa using h.1, h.2⟩
  | cons o l ih =>
    intro L st recs h
    rcases h with ⟨hb, F, W, v, st1, hop, h4, h5, h6, h7, h8⟩ | ⟨hb, h3⟩
    · obtain ⟨ds, L', st', e1, e2, e3, e4, e5⟩ := ih _ _ _ h8
      have hle := operL_le hop
      refine ⟨{ o, L, st, want := true, v, st1, R := F, W := W ++ fromTo st.nx (st1.nx - st.nx) } :: ds, L', st', by simp [e1], ?_, ⟨rfl, rfl, ?_⟩, ?_, e5⟩
      · intro d hd
        rcases List.mem_cons.1 hd with rfl | hd
        · refine ⟨⟨fun _ => ⟨hop, h6, h7, fun q => ?_, fun q hq hn => ?_⟩, fun e => by cases e⟩, hb⟩
          · simp only [List.mem_append, fromTo_mem]
            constructor
            · rintro (hq | hq)
              · exact .inl ⟨.inl hq, h4 q hq⟩
              · exact .inr ⟨hq.1, by simp at hle; omega⟩
            · rintro (hq | hq)
              · exact hq.1
              · exact .inr ⟨hq.1, by omega⟩
          · have := h5 q hq (fun hw => hn (List.mem_append.2 (.inl hw)))
            rw [maskH_get _ _ _ (fun p hp => by have := h6 p hp; simp at hle; omega), if_pos hq] at this
            exact this
        · exact e2 d hd
      · exact e3
      · simpa [List.append_assoc] using e4
    · obtain ⟨ds, L', st', e1, e2, e3, e4, e5⟩ := ih _ _ _ h3
      refine ⟨{ o, L, st, want := false, v := .sc undef, st1 := st, R := [], W := [] } :: ds, L', st', by simp [e1], ?_, ⟨rfl, rfl, ?_⟩, ?_, e5⟩
      · intro d hd
        rcases List.mem_cons.1 hd with rfl | hd
        · exact ⟨⟨(fun e => by cases e), fun _ => ⟨rfl, rfl, rfl, rfl⟩⟩, hb⟩
        · exact e2 d hd
      · exact e3
      · simpa [List.append_assoc] using e4
theorem runOk_of {P : Program} {T : Tab} {ops : Array Oper} {ds : List DS} {L : SL} {st : St} {L' : SL} {st' : St} (hs : slotsCalm ops = true) (e1 : ds.map (·.o) = ops.toList) (e2 : ∀ d ∈ ds, DSRun P T d) (e3 : Chain ds L st L' st') : RunOk P T ops ds L st L' st' := by
  obtain ⟨c1, c2, c3, c4⟩ := chain_at e2 e3
  unfold slotsCalm at hs
  rw [Bool.and_eq_true] at hs
  refine ⟨e1, e2, c1, ⟨c2, c3, c4⟩, fun i k x y t hik hx hy ht hdt => ?_, fun i o ho e he hb => ?_⟩
  · have hxi : (x.o, i) ∈ ops.toList.zipIdx := by
      rw [List.mem_zipIdx_iff_getElem?, ← e1]; simp [hx]
    have hyk : (y.o, k) ∈ ops.toList.zipIdx := by
      rw [List.mem_zipIdx_iff_getElem?, ← e1]; simp [hy]
    have h1 := List.all_eq_true.1 hs.1 _ hxi
    have h2 := List.all_eq_true.1 h1 t ht
    have h3 := List.all_eq_true.1 h2 _ hyk
    simp only [hdt, Bool.or_eq_true] at h3
    rcases h3 with (h3 | h3) | h3
    · simp at h3
    · simp at h3; omega
    · rw [Nat.max_comm, Nat.min_comm]; exact h3
  · have hoi : (o, i) ∈ ops.toList.zipIdx := by rw [List.mem_zipIdx_iff_getElem?]; simpa using ho
    have h1 := List.all_eq_true.1 hs.2 _ hoi
    rw [Array.all_eq_true_iff_forall_mem] at h1
    have := h1 e he
    rw [hb] at this
    simpa using this
theorem calm_of {ops : Array Oper} {ds : List DS} (e4 : calmAll (Region.before ops) 0 (ds.map fun d => ⟨d.R, d.W⟩) = true) : Calm ops ds := fun i k x y hik hx hy => by
  have := calmAll_get _ 0 e4 i k ⟨x.R, x.W⟩ ⟨y.R, y.W⟩ hik (by simp [hx]) (by simp [hy])
  simp only [calmPair, Nat.zero_add, Bool.or_eq_true, Bool.and_eq_true] at this
  rcases this with h1 | h1
  · exact .inr ⟨h1.1.1, h1.1.2, h1.2⟩
  · exact .inl h1

end
end Go.Vm

namespace Go.Vm
noncomputable section

/-- One entry more. -/
theorem At.ins {H : (Nat → Bool) → Nat → Option AObj} {P : Program} {T : Tab} (hT : TabOkF P T) {ops : Array Oper} {ds : List DS} {L0 : SL} {g0 : Gh} {st0 : St} {w0 : World} {df : List Deferred} {ro : Option Nat} {N : Nat} {nt : Nat} {L' : SL} {st' : St} (R : RunOk P T ops ds L0 st0 L' st')
    {D : Nat → Bool} {a : Act} {w : World} {i : Nat} {d : DS} (hi : ds[i]? = some d) (hD : D i = false) (hr : ∀ e ∈ d.o.after, Region.binds .any e = true → D e.on = true) (A : At H ops ds L0 g0 st0 w0 df nt (nxAt ds st0.nx ds.length) D a w)
    {t : TypeId} {m k x : Operand} (hop : d.o.op = .insert t m k x) (hdst : d.o.dst = none) (hgd : d.o.guard = none) {p : Nat} {kt et : TypeId} {key : Value} (hu : P.underlying t = some (.map kt et)) (hm : onlyOf d.o d.L m = .mp p) (hkey : (onlyOf d.o d.L k).toV = some key)
    (hck : ev P (Instr.checkKey false 10000 kt key) = some ()) {es : List (Value × AV)} (hes : H D p = some (.map es)) (hlim : p ≤ limit) (hplt : p < nxAt ds st0.nx ds.length) (hfind : findK P kt key es = some none) (hst : stays es (es ++ [(key, onlyOf d.o d.L x)]) = true)
    {es' : List (Value × AV)} (hes' : H (upd D i) p = some (.map es')) (hsame : Same (.map es') (.map (es ++ [(key, onlyOf d.o d.L x)]))) (hoth : ∀ o, o ≠ p → H (upd D i) o = H D o)
    {Q : Exit → Act → World → Prop} {K : Act → World → Prop} (hK : ∀ a' w', At H ops ds L0 g0 st0 w0 df nt (nxAt ds st0.nx ds.length) (upd D i) a' w' → K a' w') : wpOpIn (fence ro) N P ops Q i K a w := by
  have ho := R.get hi
  have hbef := ready_before A.closed ho hr
  have hcl := A.closed.upd ho hr
  obtain ⟨a1, a2, a3, a4⟩ := R.at' i d hi
  obtain ⟨g, h, h1, h2, h3, h4, h5⟩ := A.mem
  have slot : ∀ t ∈ usesOf ops d.o, valS ds L0 D ds.length t = lk d.L t := by
    intro t ht
    have hlt : i < ds.length := (List.getElem?_eq_some_iff.1 hi).1
    have := valS_upto (L0 := L0) (D := D) (i := i) (t := t) (ds := ds) (fun k e hk he => ?_) ds.length
    · rw [this, a1 t]; congr 1; omega
    · rcases Nat.lt_trichotomy k i with hlt' | rfl | hgt
      · have := R.slots i k d e t (by omega) hi hk ht he
        rw [show max i k = i from by omega, show min i k = k from by omega] at this
        exact ⟨fun _ => hlt', fun _ => hbef k this⟩
      · exact ⟨(fun q => by rw [hD] at q; cases q), (fun q => by omega)⟩
      · have := R.slots i k d e t (by omega) hi hk ht he
        rw [show max i k = k from by omega, show min i k = i from by omega] at this
        exact ⟨(fun q => by have := A.closed k i q this; rw [hD] at this; cases this), (fun q => by omega)⟩
  have mono1 : ∀ i d, ds[i]? = some d → d.st.nx = nxAt ds st0.nx i ∧ d.st.nx ≤ d.st1.nx := fun i d hd => ⟨(R.at' i d hd).2.2.1, (R.at' i d hd).2.2.2⟩
  have hp : ∀ q ∈ [p], q ≤ limit := fun q hq => by rw [List.mem_singleton] at hq; subst hq; exact hlim
  have hmask : ∀ o, (maskH h [p]).get o = if o = p then h.get o else none := fun o => by rw [maskH_get _ _ _ hp]; simp
  have hsub : ∀ o x, (maskH h [p]).get o = some x → h.get o = some x := fun o x hx => by
    rw [hmask] at hx
    by_cases e : o = p
    · rw [if_pos e] at hx; exact hx
    · rw [if_neg e] at hx; cases hx
  have hrel : RelF g w (onlyOf d.o d.L) a.eval := onlyOf_rel fun t ⟨x, hx, e⟩ => by
    have hu : t ∈ usesOf ops d.o := by
      simp only [usesOf, List.mem_append, List.mem_filterMap]
      exact .inl (.inr ⟨x, hx, by rw [e]⟩)
    rw [← slot t hu]
    exact h4 t
  have hgp : (maskH h [p]).get p = some (.map es) := by rw [hmask, if_pos rfl, h1, hes]
  obtain ⟨st1, hst1⟩ : ∃ st1 : St, st1 = { h := (maskH h [p]).set depth p (some (.map (es ++ [(key, onlyOf d.o d.L x)]))), nx := nxAt ds st0.nx ds.length, rl := [p], wl := [p] } := ⟨_, rfl⟩
  have hrun : operL P T d.o (onlyOf d.o d.L) { h := maskH h [p], nx := nxAt ds st0.nx ds.length, rl := [], wl := [] } = some (.sc undef, st1) := by
    have h6 : aop P d.o (onlyOf d.o d.L) { h := maskH h [p], nx := nxAt ds st0.nx ds.length, rl := [], wl := [] } = some (.sc undef, st1) := by
      unfold aop
      rw [hop]
      simp only [opUpdate, hu, hm, hkey, M.bind, hget, hgp, updateObj, hck, hfind, hst, cond_true, hset, M.pure, hst1]
      rw [show Nat.ble p limit = true from Nat.ble_eq_true_of_le hlim]
      rfl
    have h7 : operL P T d.o (onlyOf d.o d.L) = mono (aop P d.o (onlyOf d.o d.L)) := by unfold operL; rw [hop]
    rw [h7, mono, h6]
    simp only
    rw [hst1]
    simp only
    rw [show Nat.ble (nxAt ds st0.nx ds.length) (nxAt ds st0.nx ds.length) = true from Nat.ble_eq_true_of_le (Nat.le_refl _)]
    rfl
  unfold wpOpIn
  rw [ho]
  dsimp only
  rw [if_pos (by simp [Region.wanted, hgd])]
  refine operL_okF hT (h2.part hsub) (fun o q1 q2 => by rw [hst1] at q2; exact absurd (Nat.lt_of_le_of_lt q1 q2) (Nat.lt_irrefl _)) (fun o x hx => ?_) hrel hrun ro N _ _ ?_
  · have hx' : (maskH h [p]).get o = some x := hx
    rw [hmask] at hx'
    by_cases e : o = p
    · subst e; exact hplt
    · rw [if_neg e] at hx'; cases hx'
  rintro u w' ⟨g', q1, q2, q3⟩
  have hget1 : ∀ o, st1.h.get o = if o = p then some (.map (es ++ [(key, onlyOf d.o d.L x)])) else none := fun o => by
    rw [hst1]
    simp only
    rw [get_set _ _ _ _ hlim, hmask]
    by_cases e : o = p
    · rw [if_pos e, if_pos e]
    · rw [if_neg e, if_neg e, if_neg e]
  have hfs := frame_step (h' := mergeH st1.h [p] h) (S := fun o => o ∈ [p]) h2 hsub (fun o x hx => by
    rw [hmask] at hx
    by_cases e : o = p
    · rw [e]; exact List.mem_singleton.2 rfl
    · rw [if_neg e] at hx; cases hx) q1 q2 (fun o hS => by rw [mergeH_get _ _ _ _ hp, if_pos hS]) (fun o hS => by rw [mergeH_get _ _ _ _ hp, if_neg hS]) (fun o e1 e2 => by rw [hst1] at e2; exact absurd (Nat.lt_of_le_of_lt e1 e2) (Nat.lt_irrefl _))
  have hH : ∀ o, ((mergeH st1.h [p] h).set depth p (some (.map es'))).get o = H (upd D i) o := fun o => by
    rw [get_set _ _ _ _ hlim]
    by_cases e : o = p
    · rw [if_pos e, e, hes']
    · rw [if_neg e, mergeH_get _ _ _ _ hp, if_neg (by simpa using e), h1, hoth o e]
  have hcov : ∀ o y, ((mergeH st1.h [p] h).set depth p (some (.map es'))).get o = some y → ∃ z, (mergeH st1.h [p] h).get o = some z ∧ Same y z := fun o y hy => by
    rw [get_set _ _ _ _ hlim] at hy
    by_cases e : o = p
    · rw [if_pos e] at hy
      cases hy
      refine ⟨_, ?_, hsame⟩
      rw [mergeH_get _ _ _ _ hp, if_pos (by simpa using e), hget1, if_pos e]
    · rw [if_neg e] at hy
      exact ⟨y, hy, .rfl _⟩
  have hnx1 : st1.nx = nxAt ds st0.nx ds.length := by rw [hst1]
  refine hK _ _ ⟨⟨g', _, hH, hfs.2.covers hcov, (h3.both ((by have := hfs.1; rw [hnx1] at this; exact this.widen (nxAt_mono mono1 ds.length 0 (Nat.zero_le _)) (Nat.le_refl _)))).covers hcov, fun t => ?_, fun k e hk hkD o o1 o2 => ?_⟩, by rw [put_size]; exact A.size, by rw [put_defers]; exact A.defers, hcl⟩
  · rw [valS_upd hi (fun q => by rw [hdst] at q; cases q), if_neg (fun q => by have := q.1; rw [hdst] at this; cases this), hdst]
    exact (h4 t).ext q1.ext
  · have hki : k ≠ i := fun q => by subst q; simp [upd] at hkD
    simp only [upd, if_neg hki] at hkD
    exact q1.fresh o (h5 k e hk hkD o o1 o2) (fun q => by have := q.2; rw [hnx1] at this; exact absurd (Nat.lt_of_le_of_lt q.1 this) (Nat.lt_irrefl _))

/-- A region whose order is drawn, whatever is held on the way. -/
theorem drawn_gen {P : Program} {T : Tab} (hm : P.follows .mixedOrders = true) {H : (Nat → Bool) → Nat → Option AObj} {ops : Array Oper} {ro : Option Nat} {N : Nat} {B : BaseP} {nt id : Nat} {Q : Exit → Act → World → Prop} {ds : List DS} {L : SL} {st : St} {L' : SL} {st' stF : St} (R : RunOk P T ops ds L st L' st')
    {g : Gh} {w : World} {a : Act} (h0 : ∀ o, H (fun _ => false) o = st.h.get o) (hF : ∀ D, (∀ i, i < ds.length → D i = true) → ∀ o, H D o = stF.h.get o) (hnF : stF.nx = st'.nx)
    (hstep : ∀ (w0 : World) (D : Nat → Bool) (a' : Act) (w' : World) (i : Nat) (d : DS) (K : Act → World → Prop), ds[i]? = some d → D i = false → (∀ e ∈ d.o.after, Region.binds .any e = true → D e.on = true) → At H ops ds L g st w0 a.defers nt (nxAt ds st.nx ds.length) D a' w' → (∀ a'' w'', At H ops ds L g st w0 a.defers nt (nxAt ds st.nx ds.length) (upd D i) a'' w'' → K a'' w'') → wpOpIn (fence ro) N P ops Q i K a' w')
    (hnear : B.Near st.nx st'.nx) (hc : Cur B g st w) (hr : RelSL g w nt L a.tmps) (hd : Marks B.D B.n0 st.h g w a.defers)
    (hK : ∀ g w a', Cur B g stF w → RelSL g w nt L' a'.tmps → Marks B.D B.n0 stF.h g w a'.defers → a'.defers = a.defers → Q .normal a' w) :
    (Code.region id ops true).wpIn (fence ro) N P Q a w := by
  have c1 := R.at'
  obtain ⟨c2, c3, c4⟩ := R.fin
  have hc1 := hc.drawn
  have hd' : Marks B.D B.n0 st.h g { w with drawn := w.drawn + 1 } a.defers := hd
  have mono1 : ∀ i d, ds[i]? = some d → d.st.nx = nxAt ds st.nx i ∧ d.st.nx ≤ d.st1.nx := fun i d hd => ⟨(c1 i d hd).2.2.1, (c1 i d hd).2.2.2⟩
  refine wpIn_region_any hm (any_ok (H := H) (L0 := L) (g0 := g) (st0 := st) (w0 := { w with drawn := w.drawn + 1 }) (df := a.defers) R (fun D a w i d K hi hD hr A hK => hstep _ D a w i d K hi hD hr A hK) ?_ ops.size _ a _ (by simp) ?_ ?_)
  · intro D a' w' hall A
    obtain ⟨g', h', q1, q2, q3, q4, q5⟩ := A.mem
    have hh : ∀ o, h'.get o = stF.h.get o := fun o => by rw [q1 o, hF D hall o]
    have hle : st.nx ≤ st'.nx := by rw [c4]; exact nxAt_mono mono1 ds.length 0 (Nat.zero_le _)
    refine hK g' w' a' (hc1.step (st' := stF) (by rw [hnF]; exact hnear) ⟨by rw [hnF]; exact hle, ?_⟩ (q2.congr hh)) ⟨A.size, fun t => ?_⟩ (by rw [A.defers]; exact Marks.congr (Marks.step q3 hd') hh) A.defers
    · rw [hnF, c4]; exact q3.congr hh
    · rw [c2 t, ← valS_all _ hall]; exact q4 t
  · exact left_le _ _
  · have hf : (fun k => (Array.replicate ops.size false).getD k false) = fun _ => false := by
      funext k
      simp only [Array.getD_eq_getD_getElem?, Array.getElem?_replicate]
      split <;> rfl
    rw [hf]
    exact ⟨⟨g, st.h, fun o => (h0 o).symm, hc1.ok, .refl _ _ _ _ _, fun t => by
        rw [valS_none]; exact (hr.2 t).ext (Ext.same (w := w) (w' := { w with drawn := w.drawn + 1 }) rfl), fun i d hd _ o h1 h9 => hc.fresh o (by
        have := nxAt_mono mono1 i 0 (Nat.zero_le _)
        rw [(c1 i d hd).2.2.1] at h1
        exact Nat.le_trans this h1) (hnear o (by
        have := nxAt_mono mono1 i 0 (Nat.zero_le _)
        rw [(c1 i d hd).2.2.1] at h1
        exact Nat.le_trans this h1) (by
        rw [c4]
        have h10 := nxAt_mono mono1 ds.length (i + 1) (List.getElem?_eq_some_iff.1 hd).1
        rw [nxAt.eq_2, hd] at h10
        exact Nat.lt_of_lt_of_le h9 h10))⟩, hr.1, rfl, fun i k hik => by cases hik⟩

theorem valH_nowrite {ds : List DS} {h0 : Tr AObj} {D : Nat → Bool} {p : Nat} : ∀ m, (∀ k e, k < m → ds[k]? = some e → D k = true → p ∉ e.W) → valH ds h0 D m p = h0.get p
  | 0, _ => rfl
  | m + 1, h => by
    have ih := valH_nowrite (h0 := h0) (D := D) (p := p) m (fun k e hk => h k e (by omega))
    rw [valH]
    cases hd : ds[m]? with
    | none => exact ih
    | some d =>
      simp only
      rw [if_neg (fun q => h m d (by omega) hd q.1 q.2), ih]
theorem valH_only {ds : List DS} {h0 : Tr AObj} {D : Nat → Bool} {p k0 : Nat} {d : DS} (hd : ds[k0]? = some d) (hW : p ∈ d.W) (hD : D k0 = true) (ho : ∀ k e, ds[k]? = some e → k ≠ k0 → p ∉ e.W) : ∀ m, k0 < m → valH ds h0 D m p = d.st1.h.get p
  | 0, h => by omega
  | m + 1, h => by
    rw [valH]
    by_cases e : m = k0
    · subst e
      rw [hd]
      simp only
      rw [if_pos ⟨hD, hW⟩]
    · have ih := valH_only (h0 := h0) hd hW hD ho m (by omega)
      cases hm : ds[m]? with
      | none => exact ih
      | some f =>
        simp only
        rw [if_neg (fun q => ho m f hm e q.2), ih]

/-- What is held on the way where a map is written out. -/
def litH (ds : List DS) (h0 : Tr AObj) (p k0 : Nat) (lits : List Lit) (D : Nat → Bool) (o : Nat) : Option AObj := if o = p then (if D k0 = true then some (.map (ents lits D)) else h0.get p) else valH ds h0 D ds.length o
structure LitAt (P : Program) (ops : Array Oper) (ds : List DS) (p k0 : Nat) (q : Lit) : Prop where
  at' : ∃ d, ds[q.i]? = some d ∧ ∃ t m k x kt et, d.o.op = .insert t m k x ∧ d.o.dst = none ∧ d.o.guard = none ∧ P.underlying t = some (.map kt et) ∧ P.underlying kt = some q.d ∧ onlyOf d.o d.L m = .mp p ∧ (onlyOf d.o d.L k).toV = some q.e.1 ∧ ev P (Instr.checkKey false 10000 kt q.e.1) = some () ∧ onlyOf d.o d.L x = q.e.2
  bef : ((Region.before ops).getD q.i 0).testBit k0 = true
theorem drawn_lit {P : Program} {T : Tab} (hT : TabOkF P T) (hm : P.follows .mixedOrders = true) {ops : Array Oper} {ro : Option Nat} {N : Nat} {B : BaseP} {nt id : Nat} {Q : Exit → Act → World → Prop} (hg : guardsIn nt ops = true) (hdst : dstsIn nt ops = true) {ds : List DS} {L : SL} {st : St} {L' : SL} {st' stF : St} (R : RunOk P T ops ds L st L' st') (C : Calm ops ds)
    (hgY : ∀ d ∈ ds, gvalY ops d.L d.o = some d.want) {p k0 : Nat} {lits : List Lit} (hl : LitsOk lits) (hat : ∀ q ∈ lits, LitAt P ops ds p k0 q) (hall : ∀ i d, ds[i]? = some d → isIns d.o = true → ∃ q ∈ lits, q.i = i) {d0 : DS} (hk0 : ds[k0]? = some d0) (hk0' : isIns d0.o = false) (hno : ∀ k e, ds[k]? = some e → k ≠ k0 → p ∉ e.R ∧ p ∉ e.W)
    (hp : st'.h.get p = some (.map [])) (hplt : p < st'.nx) (hlim : p ≤ limit) (hF : ∀ o, stF.h.get o = if o = p then some (.map (lits.map (·.e))) else st'.h.get o) (hnF : stF.nx = st'.nx)
    {g : Gh} {w : World} {a : Act} (hnear : B.Near st.nx st'.nx) (hc : Cur B g st w) (hr : RelSL g w nt L a.tmps) (hd : Marks B.D B.n0 st.h g w a.defers)
    (hK : ∀ g w a', Cur B g stF w → RelSL g w nt L' a'.tmps → Marks B.D B.n0 stF.h g w a'.defers → a'.defers = a.defers → Q .normal a' w) :
    (Code.region id ops true).wpIn (fence ro) N P Q a w := by
  have hlt0 : k0 < ds.length := (List.getElem?_eq_some_iff.1 hk0).1
  have hlen : ∀ q ∈ lits, q.i < ds.length := fun q hq => by
    obtain ⟨d, h1, _⟩ := (hat q hq).at'
    exact (List.getElem?_eq_some_iff.1 h1).1
  have hne0 : ∀ q ∈ lits, q.i ≠ k0 := fun q hq e => by
    obtain ⟨d, h1, t, m, k, x, kt, et, h2, _⟩ := (hat q hq).at'
    rw [e, hk0] at h1
    cases h1
    unfold isIns at hk0'
    rw [h2] at hk0'
    cases hk0'
  have hfin : valH ds st.h (fun _ => true) ds.length p = some (.map []) := by rw [← R.fin.2.1 p, hp]
  have hW0 : p ∈ d0.W → d0.st1.h.get p = some (.map []) := fun hW => by
    rw [← valH_only (h0 := st.h) (D := fun _ => true) hk0 hW rfl (fun k e hk hne => (hno k e hk hne).2) ds.length hlt0]; exact hfin
  have hN0 : p ∉ d0.W → st.h.get p = some (.map []) := fun hW => by
    rw [← valH_nowrite (h0 := st.h) (D := fun _ => true) (p := p) ds.length (fun k e _ hk _ => by
      by_cases h : k = k0
      · rw [h, hk0] at hk; cases hk; exact hW
      · exact (hno k e hk h).2)]
    exact hfin
  have hnx : st'.nx = nxAt ds st.nx ds.length := R.fin.2.2
  refine drawn_gen hm (H := litH ds st.h p k0 lits) (stF := stF) R (fun o => ?_) (fun D hD o => ?_) hnF (fun w0 D a' w' i d K hi hD hrd A hK => ?_) hnear hc hr hd hK
  · unfold litH
    by_cases e : o = p
    · rw [if_pos e, if_neg (by simp), e]
    · rw [if_neg e, valH_none]
  · unfold litH
    rw [hF]
    by_cases e : o = p
    · rw [if_pos e, if_pos e, if_pos (hD k0 hlt0), ents_all (fun q hq => hD _ (hlen q hq))]
    · rw [if_neg e, if_neg e, valH_all _ hD, ← R.fin.2.1 o]
  · have hbef := ready_before A.closed (R.get hi) hrd
    have hmem := List.mem_of_getElem? hi
    have hgv := hgY d hmem
    have hcalm := calm_obj R C hi hD A.closed hrd
    cases hins : isIns d.o with
    | false =>
      have hgv' : gval ops d.L d.o = some d.want := by unfold gvalY at hgv; rw [hins] at hgv; exact hgv
      have hnl : ∀ q ∈ lits, q.i ≠ i := fun q hq e => by
        obtain ⟨d', h1, t, m, k, x, kt, et, h2, _⟩ := (hat q hq).at'
        rw [e, hi] at h1
        cases h1
        unfold isIns at hins
        rw [h2] at hins
        cases hins
      refine At.step hT R hg hdst hi hgv' (fun o ho => ?_) (fun o => ?_) hD hrd A hK
      · unfold litH
        by_cases e : o = p
        · subst e
          by_cases hik : i = k0
          · subst hik
            rw [if_pos rfl, if_neg (by rw [hD]; simp)]
            rw [(R.at' i d hi).2.1 o, valH_nowrite i (fun k e hk he _ => (hno k e he (by omega)).2)]
          · exact ((hno i d hi hik).1 ho).elim
        · rw [if_neg e]; exact hcalm.1 o ho
      · unfold litH
        by_cases e : o = p
        · subst e
          rw [if_pos rfl, if_pos rfl]
          by_cases hik : i = k0
          · subst hik
            rw [hk0] at hi
            cases hi
            have hen : ents lits (upd D i) = [] := ents_none (fun q hq => by
              have hne := hne0 q hq
              simp only [upd, if_neg hne]
              cases hDq : D q.i with
              | false => rfl
              | true => have := A.closed q.i i hDq (hat q hq).bef; rw [hD] at this; cases this)
            rw [if_pos (show upd D i i = true from by simp [upd]), hen]
            by_cases hW : o ∈ d0.W
            · rw [if_pos hW, hW0 hW]
            · rw [if_neg hW, if_neg (by rw [hD]; simp), hN0 hW]
          · rw [if_neg (hno i d hi hik).2, ents_other hnl]
            simp only [upd, if_neg (Ne.symm hik)]
        · rw [if_neg e, if_neg e]; exact hcalm.2 o
    | true =>
      obtain ⟨q, hq, rfl⟩ := hall i d hi hins
      obtain ⟨d', h1, t, m, k, x, kt, et, h2, h3, h4, h5, h6, h7, h8, h9, h10⟩ := (hat q hq).at'
      rw [hi] at h1
      cases h1
      have hDk : D k0 = true := hbef k0 (hat q hq).bef
      have hne := hne0 q hq
      have hothers : ∀ e ∈ ents lits D, ∃ r ∈ lits, r.i ≠ q.i ∧ r.e = e := fun e he => by
        obtain ⟨r, r1, r2, r3⟩ := ents_mem he
        exact ⟨r, r1, (fun e => by rw [e, hD] at r2; cases r2), r3⟩
      have hperm := ents_upd hl.idx hq hD
      have hW : d.W = [] := by
        have : d.want = false := by
          unfold gvalY at hgv
          rw [hins] at hgv
          simpa using hgv.symm
        exact ((R.ok d hmem).skip this).2.2.2
      refine At.ins hT R hi hD hrd A h2 h3 h4 h5 h7 h8 h9 (es := ents lits D) (es' := ents lits (upd D q.i)) ?_ hlim (by rw [← hnx]; exact hplt) (findK_none h6 (fun e he => ?_)) ?_ ?_ ?_ (fun o e => ?_) hK
      · unfold litH; rw [if_pos rfl, if_pos hDk]
      · obtain ⟨r, r1, r2, rfl⟩ := hothers e he
        exact (hl.apart q hq r r1 (Ne.symm r2)).2
      · have hqe : (q.e.1, onlyOf d.o d.L x) = q.e := by rw [h10]
        rw [hqe]
        unfold stays
        cases hlo : loose (ents lits D) with
        | false => rfl
        | true =>
          have : loose (ents lits D ++ [q.e]) = true := by
            unfold loose at hlo ⊢
            simp only [Bool.and_eq_true] at hlo ⊢
            refine ⟨Nat.ble_eq_true_of_le (by have := Nat.le_of_ble_eq_true hlo.1; rw [List.length_append]; omega), ?_⟩
            have key : ∀ l : List (Value × AV), apartK l = true → (∀ e ∈ l, apartV e.1 q.e.1 = true) → apartK (l ++ [q.e]) = true := by
              intro l
              induction l with
              | nil => intro _ _; rfl
              | cons b l ih =>
                intro h1 h2
                simp only [apartK, List.cons_append, Bool.and_eq_true, List.all_eq_true] at h1 ⊢
                refine ⟨fun y hy => ?_, ih h1.2 (fun e he => h2 e (by simp [he]))⟩
                rcases List.mem_append.1 hy with hy | hy
                · exact h1.1 y hy
                · rw [List.mem_singleton] at hy; rw [hy]; exact h2 b (by simp)
            refine key _ hlo.2 (fun e he => ?_)
            obtain ⟨r, r1, r2, rfl⟩ := hothers e he
            exact (hl.apart r r1 q hq r2).1
          rw [this]; rfl
      · unfold litH; rw [if_pos rfl, if_pos (by simp [upd, hDk])]
      · have hqe : (q.e.1, onlyOf d.o d.L x) = q.e := by rw [h10]
        rw [hqe]
        by_cases h2 : 2 ≤ (ents lits (upd D q.i)).length
        · refine .perm _ _ hperm ?_
          unfold loose
          rw [Nat.ble_eq_true_of_le h2, apartK_ents hl]
          rfl
        · have h3 : (ents lits D).length = 0 := by have := hperm.length_eq; rw [List.length_append] at this; simp at this; omega
          have h4 : ents lits D = [] := List.eq_nil_of_length_eq_zero h3
          rw [h4] at hperm ⊢
          rw [List.nil_append] at hperm ⊢
          rw [List.perm_singleton.1 hperm]
          exact .rfl _
      · unfold litH
        rw [if_neg e, if_neg e, hcalm.2 o, hW, if_neg (by simp)]

end
end Go.Vm
