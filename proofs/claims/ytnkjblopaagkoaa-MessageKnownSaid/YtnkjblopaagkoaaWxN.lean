/- Runs on abstract values: ranges over maps, whatever order is drawn; code that has them. No condition. -/
import Derived.Test.YtnkjblopaagkoaaWxL
namespace Go.Vm
noncomputable section

/-! ### Operations of a known result -/
theorem op_val {P : Program} {o : Oper} {a : Act} {w w' : World} {v : Value} (hnd : ∀ c, o.op ≠ .defer c) (hrun : (execOp a.eval o).run P w = .ok (.value v) w') : OpOk P o a w (fun u u' => u = v ∧ u' = w') := by
  intro ro N K Q hK
  refine ⟨about_fence ro P o a w, ?_⟩
  rw [Oper.semAt_eq _ _ _ hnd, hrun]
  exact hK v w' ⟨rfl, rfl⟩
theorem wpOps_val {P : Program} {ops : Array Oper} {ro : Option Nat} {N i : Nat} {rest : List Nat} {o : Oper} {a : Act} {w w' : World} {v : Value} {Q : Exit → Act → World → Prop} (hi : ops[i]? = some o) (hg : o.guard = none) (hnd : ∀ c, o.op ≠ .defer c) (hrun : (execOp a.eval o).run P w = .ok (.value v) w')
    (h : wpOpsIn (fence ro) N P ops Q rest (a.put o.dst v) w') : wpOpsIn (fence ro) N P ops Q (i :: rest) a w := by
  simp only [wpOpsIn, hi]
  rw [if_pos (by simp [Region.wanted, hg])]
  refine op_val hnd hrun ro N _ _ ?_
  rintro u u' ⟨rfl, rfl⟩
  exact h

/-! ### Slots -/
theorem addX_less {ex t : Nat} {v : AV} {L : SL} (hw : Within ex L) : Less (addX ex t v L) ((t, v) :: L) := fun k => by
  unfold addX
  cases hb : hasB ex t with
  | true => exact .inl rfl
  | false =>
    rw [cond_false, lk_cons]
    by_cases e : t = k
    · subst e; exact .inr (hw t hb)
    · rw [if_neg e]; exact .inl rfl
theorem addX_within {ex t : Nat} {v : AV} {L : SL} (hw : Within ex L) : Within ex (addX ex t v L) := fun k hk => by
  unfold addX
  cases hb : hasB ex t with
  | true =>
    rw [cond_true, lk_cons, if_neg (fun e => by subst e; rw [hb] at hk; cases hk)]
    exact hw k hk
  | false => exact hw k hk
theorem mapK_lk (L : SL) (t : Nat) : ∀ ks : List Nat, lk (mapK ks L) t = if t ∈ ks then lk L t else .bad
  | [] => rfl
  | k :: ks => by
    show lk ((k, lk L k) :: mapK ks L) t = _
    rw [lk_cons, mapK_lk L t ks]
    by_cases e : k = t
    · subst e; simp
    · rw [if_neg e]
      simp only [List.mem_cons, Ne.symm e, false_or]
theorem mapK_less (L : SL) (ks : List Nat) : Less (mapK ks L) L := fun t => by
  rw [mapK_lk]
  by_cases h : t ∈ ks
  · rw [if_pos h]; exact .inl rfl
  · rw [if_neg h]; exact .inr rfl
theorem mapK_within {ex : Nat} {L : SL} {ks : List Nat} (hw : Within ex L) : Within ex (mapK ks L) := fun t ht => by
  rw [mapK_lk, hw t ht]; simp

/-! ### The iterator's block -/
theorem put_iter {B g st w r m s sn c m' s' sn' c'} (hc : Cur B g st w) (hl : w.heap[r]? = some (.mapIter m s sn c)) (hu : Unowned g st.h r) (hO : B.w.heap.size ≤ r) :
    Cur B g st (putB w r (.mapIter m' s' sn' c')) ∧ Ext g w g (putB w r (.mapIter m' s' sn' c')) := by
  have hne : ∀ {k : Nat} {o : Obj}, w.heap[k]? = some o → (∀ a b c d, o ≠ .mapIter a b c d) → k ≠ r := fun hk ho e => by
    subst e
    rw [hl] at hk; cases hk
    exact ho _ _ _ _ rfl
  have hcell : ∀ k j, (putB w r (.mapIter m' s' sn' c')).cell? ⟨k, j, none⟩ = w.cell? ⟨k, j, none⟩ := fun k j => by
    by_cases e : k = r
    · subst e
      simp [World.cell?, putB_same _ (lt_of_heap hl), hl]
    · exact cell_heap (putB_other w _ e)
  have hext : Ext g w g (putB w r (.mapIter m' s' sn' c')) := by
    refine ⟨rfl, fun _ _ h => h, fun _ _ h => h, fun k j _ => hcell k j, fun k cs e fr h => ?_, fun k q h => ?_⟩
    · exact ⟨cs, fr, (putB_other w _ (hne h (fun _ _ _ _ e => by cases e))).trans h, rfl⟩
    · exact ⟨q, (putB_other w _ (hne h (fun _ _ _ _ e => by cases e))).trans h⟩
  refine ⟨⟨⟨by rw [putB_size]; exact hc.ok.size, fun o x hx => ?_, hc.ok.sep, fun k j hk => by rw [putB_size]; exact hc.ok.K k j hk⟩, hc.fresh, ?_, hc.pin⟩, hext⟩
  · refine (hc.ok.obj' o x hx).imp id ?_
    rintro ⟨k, base, h1, h2, h3⟩
    exact ⟨k, base, h1, h2, h3.ext hext (putB_other w _ (fun e => hu o base (by rw [hx]; rfl) (by rw [← e]; exact h1))) (fun _ h => h)⟩
  · have b := hc.base
    refine ⟨b.b0, b.pins, b.K, fun k j hk => (hcell k j).trans (b.cell k j hk), by rw [putB_size]; exact b.size, b.os, b.tape, b.output, fun k hk hkO => ?_, b.own, b.Kold, fun k cs e fr h => ?_, fun k q h => ?_⟩
    · exact (putB_other w _ (fun e => by omega)).trans (b.frame k hk hkO)
    · obtain ⟨cs1, fr1, h1, h2⟩ := b.blk k cs e fr h
      exact ⟨cs1, fr1, (putB_other w _ (hne h1 (fun _ _ _ _ e => by cases e))).trans h1, h2⟩
    · obtain ⟨q1, h1⟩ := b.lp k q h
      exact hext.lp k q1 h1
theorem Marks.put_iter {D n0 h g w ds r m s sn c o'} (hm : Marks D n0 h g w ds) (hl : w.heap[r]? = some (.mapIter m s sn c)) : Marks D n0 h g (putB w r o') ds := by
  obtain ⟨bs, h1, h2, h3⟩ := hm
  refine ⟨bs, h1, h2, fun b hb => ⟨(h3 b hb).1, (putB_other w _ (fun e => ?_)).trans (h3 b hb).2.1, (h3 b hb).2.2⟩⟩
  have := (h3 b hb).2.1
  rw [e, hl] at this; cases this

theorem Cur.covers {B g st st' w} (hc : Cur B g st' w) (hs : ∀ o x, st.h.get o = some x → ∃ y, st'.h.get o = some y ∧ Same x y) (hn : st.nx = st'.nx) : Cur B g st w := by
  have b := hc.base
  exact ⟨hc.ok.covers hs, by rw [hn]; exact hc.fresh, ⟨b.b0, b.pins, b.K, b.cell, b.size, b.os, b.tape, b.output, b.frame, fun o c base ho hi => b.own o c base (isSome_covers hs ho) hi, b.Kold, b.blk, b.lp⟩, by rw [hn]; exact hc.pin⟩
theorem Unowned.covers {g h h' b} (hu : Unowned g h' b) (hs : ∀ o x, h.get o = some x → ∃ y, h'.get o = some y ∧ Same x y) : Unowned g h b := fun o base ho => hu o base (isSome_covers hs ho)
theorem Marks.covers {D n0 g h h' w ds} (hm : Marks D n0 h' g w ds) (hs : ∀ o x, h.get o = some x → ∃ y, h'.get o = some y ∧ Same x y) : Marks D n0 h g w ds := by
  obtain ⟨bs, h1, h2, h3⟩ := hm
  exact ⟨bs, h1, h2, fun b hb => ⟨(h3 b hb).1, (h3 b hb).2.1, (h3 b hb).2.2.covers hs⟩⟩
theorem sub_same {h h' : Tr AObj} (hs : ∀ o x, h.get o = some x → h'.get o = some x) : ∀ o x, h.get o = some x → ∃ y, h'.get o = some y ∧ Same x y := fun o x hx => ⟨x, hs o x hx, .rfl _⟩
theorem Base.step' {g h w p far g' h' w' hi} (c : Base (baseAt g h w p (fun _ => False) far) g' h' w') (hfree : ∀ o, p ≤ o → ¬ far o → g.inj o = none) (hfree' : ∀ o, hi ≤ o → ¬ far o → g'.inj o = none) : Step g h w p hi g' h' w' := by
  refine ⟨c.ext_at hfree, c.size, c.os, c.tape, c.output, fun b hb hn => c.frame b hb (fun hO => ?_), fun o ho hr => ?_, fun o b base ho hj => ?_, fun b j hk => ?_⟩
  · rcases hO with hO | ⟨o, base, h1, h2⟩
    · exact hO
    · exact hn o base h1 h2
  · by_cases hp : o < p ∨ far o
    · exact (c.pins o hp).trans ho
    · exact hfree' o (by omega) (fun h => hp (.inr h))
  · rcases c.own o b base ho hj with h1 | h1 | h1
    · exact .inl h1
    · exact h1.elim
    · exact .inr h1
  · rcases c.Kold b j hk with h1 | h1 | h1 | h1
    · exact .inl h1
    · exact .inr (.inl h1)
    · exact h1.elim
    · exact .inr (.inr h1)
theorem objRel_kind {g w b base x ds} (h : ObjRel g w b base x) : w.heap[b]? ≠ some (.deferred ds) := by
  intro e
  cases x with
  | row cells k st et => obtain ⟨cs, fr, h1, _⟩ := h; rw [e] at h1; cases h1
  | map es => obtain ⟨_, ms, c, h1, _⟩ := h; rw [e] at h1; cases h1
  | loop => obtain ⟨_, l, h1, _⟩ := h; rw [e] at h1; cases h1

end
end Go.Vm

namespace Go.Vm
noncomputable section

theorem born_idx' {L : List MapEntry} (hb : (L.map (·.born)).Nodup) {i j : Nat} {m m' : MapEntry} (hi : L[i]? = some m) (hj : L[j]? = some m') (he : m.born = m'.born) : i = j := by
  have key : ∀ (i j : Nat) (m m' : MapEntry), i < j → L[i]? = some m → L[j]? = some m' → m.born = m'.born → False := by
    intro i j m m' hij hi hj he
    obtain ⟨h1, e1⟩ := List.getElem?_eq_some_iff.1 hi
    obtain ⟨h2, e2⟩ := List.getElem?_eq_some_iff.1 hj
    have := List.pairwise_iff_getElem.1 hb i j (by simpa using h1) (by simpa using h2) hij
    simp only [List.getElem_map, e1, e2] at this
    exact this he
  rcases Nat.lt_trichotomy i j with q | q | q
  · exact (key i j m m' q hi hj he).elim
  · exact q
  · exact (key j i m' m q hj hi he.symm).elim
/-- At the head of a range over a map. -/
def HeadJ (B0 : BaseP) (n0 nt it oi r bm : Nat) (ms : Array MapEntry) (clock : Nat) (es : List (Value × AV)) (l : List MapEntry) (s : DP) (a : Act) (w : World) : Prop :=
  ∃ (g : Gh) (seen : Array Nat) (c0 : Nat), Cur B0 g s.st w ∧ RelSL g w nt s.L a.tmps ∧ Marks B0.D n0 s.st.h g w a.defers ∧ g.inj oi = some (r, 0) ∧ w.heap[bm]? = some (.map ms clock) ∧ w.heap[r]? = some (.mapIter (some bm) clock seen c0) ∧
    clock ≤ c0 ∧ Unowned g s.st.h r ∧ Unowned g s.st.h bm ∧ (∀ i, i ∈ s.left ↔ ∃ m, l[i]? = some m ∧ seen.contains m.born = false) ∧ s.left.Nodup ∧
    (∀ (i : Nat) e m, es[i]? = some e → l[i]? = some m → m.key = e.1 ∧ Rel g w e.2 m.val) ∧ Low s.st ∧ oi < s.st.nx
/-- Behind it. -/
def DoneJ (B0 : BaseP) (n0 nt : Nat) (L : SL) (st : St) (a : Act) (w : World) : Prop :=
  ∃ g, Cur B0 g st w ∧ RelSL g w nt L a.tmps ∧ Marks B0.D n0 st.h g w a.defers
theorem HeadJ.covers {B0 n0 nt it oi r bm ms clock es l s a w} {t : DP} (h : HeadJ B0 n0 nt it oi r bm ms clock es l s a w) (hc : Covers t s.L s.st) (hl : t.left = s.left) : HeadJ B0 n0 nt it oi r bm ms clock es l t a w := by
  obtain ⟨g, seen, c0, h1, h2, h3, h4, h5, h6, h7, h8, h9, h10, h11, h12, h13, h14⟩ := h
  refine ⟨g, seen, c0, h1.covers hc.obj hc.nx, ⟨h2.1, fun k => by rw [hc.L]; exact h2.2 k⟩, h3.covers hc.obj, h4, h5, h6, h7, h8.covers hc.obj, h9.covers hc.obj, fun i => by rw [hl]; exact h10 i, by rw [hl]; exact h11, h12, fun o x hx => ?_, by rw [hc.nx]; exact h14⟩
  obtain ⟨y, hy, _⟩ := hc.obj o x hx
  rw [hc.nx]; exact h13 o y hy

theorem range_two {ops : Array Oper} {o1 o2 : Oper} (h : ops.toList = [o1, o2]) : List.range ops.size = [0, 1] ∧ ops[0]? = some o1 ∧ ops[1]? = some o2 := by
  have hs : ops.size = 2 := by have := congrArg List.length h; simpa using this
  refine ⟨by rw [hs]; rfl, ?_, ?_⟩
  · rw [← Array.getElem?_toList, h]; rfl
  · rw [← Array.getElem?_toList, h]; rfl
theorem range_cons {ops : Array Oper} {o : Oper} {rest : List Oper} (h : ops.toList = o :: rest) : ∃ is, List.range ops.size = 0 :: is ∧ is.map (fun i => ops[i]?) = rest.map some ∧ ops[0]? = some o := by
  have hr := range_ops ops
  have hs : ops.size = rest.length + 1 := by have := congrArg List.length h; simpa using this
  rw [h] at hr
  rw [hs, List.range_succ_eq_map] at hr ⊢
  simp only [List.map_cons, List.cons.injEq] at hr
  exact ⟨_, rfl, hr.2, hr.1⟩
theorem range_snoc {ops : Array Oper} {o : Oper} {ahead : List Oper} (h : ops.toList = ahead ++ [o]) : ∃ is k, List.range ops.size = is ++ [k] ∧ is.map (fun i => ops[i]?) = ahead.map some ∧ ops[k]? = some o := by
  have hr := range_ops ops
  have hs : ops.size = ahead.length + 1 := by have := congrArg List.length h; simpa using this
  rw [h, hs, List.range_succ, List.map_append, List.map_append] at hr
  have := List.append_inj hr (by simp)
  rw [hs, List.range_succ]
  refine ⟨_, _, rfl, this.1, ?_⟩
  have h2 := this.2
  simpa using h2

/-- One round, or the end. -/
theorem round_wp {P : Program} {look : Look} (hT : TabOkF P (tabX look)) (hl : LookFr look) (hm : P.follows .mixedOrders = true) {ex n : Nat} {a0 b0 : Code} {m : ML} (hok : m.Ok a0 b0) {ro : Option Nat} {N : Nat} {B0 : BaseP} {n0 nt oi r bm : Nat} {ms : Array MapEntry} {clock : Nat} {es : List (Value × AV)} {l : List MapEntry} {ks : List Nat}
    (hr0 : B0.w.heap.size ≤ r) (hn0 : n0 ≤ B0.w.heap.size) (hpl : ro = none ∨ m.body.plainR = true) (hs : slotsIn nt m.round = true) (hold : ∀ x ∈ ms.toList, x.born < clock) (hnd : (ms.toList.map (·.born)).Nodup) (hperm : l.Perm ms.toList) (hlen : l.length = es.length) {s : DP} {a : Act} {w : World} (hJ : HeadJ B0 n0 nt m.it oi r bm ms clock es l s a w) (hw : Within ex s.L) {top : Nat}
    (hnear : B0.Near s.st.nx top) {Y : Act → World → Prop} {Q : Exit → Act → World → Prop}
    (hmore : ∀ i ∈ s.left, ∀ e, es[i]? = some e → ∃ p, mRound P ex look n m oi ks e s.L s.st = some p ∧ p.2.nx ≤ top ∧ ∀ a' w', HeadJ B0 n0 nt m.it oi r bm ms clock es l ⟨s.left.erase i, p.1, p.2⟩ a' w' → Y a' w')
    (hdone : s.left = [] → ∀ a' w', DoneJ B0 n0 nt (addX ex m.c (.sc (.bool false)) (addX ex m.n .bad s.L)) s.st a' w' → Q (.exit m.id) a' w')
    (hdit : s.left = [] → lk s.L m.it = .ptr oi 0) :
    m.round.wpIn (fence ro) N P (Exit.then Y Q) a w := by
  obtain ⟨g, seen, c0, h1, h2, h3, h4, h5, h6, h7, h8, h9, h10, h11, h12, h13, h14⟩ := hJ
  have hsome : ∀ i ∈ s.left, ∃ e, es[i]? = some e := fun i hi => by
    obtain ⟨q, q1, _⟩ := (h10 i).1 hi
    have hil : i < es.length := by rw [← hlen]; exact (List.getElem?_eq_some_iff.1 q1).1
    exact ⟨_, List.getElem?_eq_getElem hil⟩
  have hits : ∀ i ∈ s.left, ∀ e p, mRound P ex look n m oi ks e s.L s.st = some p → lk s.L m.it = .ptr oi 0 ∧ lk (headX ex m s.L) m.it = .ptr oi 0 := fun i hi e p hp => by
    unfold mRound at hp
    cases hb : (isPtr oi (lk s.L m.it) && isPtr oi (lk (headX ex m s.L) m.it)) with
    | false => rw [hb] at hp; cases hp
    | true =>
      rw [Bool.and_eq_true] at hb
      exact ⟨isPtr_eq hb.1, isPtr_eq hb.2⟩
  have hit : lk s.L m.it = .ptr oi 0 := by
    cases hle : s.left with
    | nil => exact hdit hle
    | cons i t =>
      have hi : i ∈ s.left := by rw [hle]; simp
      obtain ⟨e, he⟩ := hsome i hi
      obtain ⟨p, hp, _⟩ := hmore i hi e he
      exact (hits i hi e p hp).1
  have hitv := h2.2 m.it
  rw [hit] at hitv
  have hitp : a.tmps.getD m.it undef = .pointer (some ⟨r, 0, none⟩) := by
    generalize a.tmps.getD m.it undef = v at hitv
    cases hitv with
    | ptr _ _ b base hi => rw [h4] at hi; cases hi; rfl
  have hev : a.eval (.tmp m.it) = .pointer (some ⟨r, 0, none⟩) := hitp
  unfold ML.round at hs ⊢
  simp only [slotsIn, Bool.and_eq_true] at hs
  obtain ⟨⟨hs1', hs1⟩, ⟨_, ⟨hs3', hs3⟩, hs4⟩⟩ := hs
  obtain ⟨e1, e2, e3⟩ := range_two hok.nx
  have hmem1 : m.o1 ∈ m.nx := Array.mem_of_getElem? e2
  have hmem2 : m.o2 ∈ m.nx := Array.mem_of_getElem? e3
  have hd1 : ∀ d, m.o1.dst = some d → d < nt := dst_in hs1' hmem1
  have hd2 : ∀ d, m.o2.dst = some d → d < nt := dst_in hs1' hmem2
  have hsize : a.tmps.size = nt := h2.1
  have hn_lt : m.n < nt := hd1 _ hok.o1.2.1
  have hc_lt : m.c < nt := hd2 _ hok.o2.2.1
  refine wpIn_seq (wpIn_region ?_)
  rw [e1]
  have hstep : ∀ (u : Value) (bb : Bool) (w' : World), (Instr.next (.pointer (some ⟨r, 0, none⟩)) false m.o1.type).run P w = .ok u w' → Instr.extract u 0 = pure (.bool bb) →
      ((Code.seq (.cond (.tmp m.c) .skip (.exit m.id)) (.block m.id1 (.seq (.region m.r6 m.en false) m.body))).wpIn (fence ro) N P (Exit.then Y Q) ((a.put (some m.n) u).put (some m.c) (.bool bb)) w') →
      wpOpsIn (fence ro) N P m.nx (Exit.then ((Code.seq (.cond (.tmp m.c) .skip (.exit m.id)) (.block m.id1 (.seq (.region m.r6 m.en false) m.body))).wpIn (fence ro) N P (Exit.then Y Q)) (Exit.then Y Q)) [0, 1] a w := by
    intro u bb w' hrun hext hk
    refine wpOps_val (v := u) (w' := w') e2 hok.o1.2.2 (fun c e => by rw [hok.o1.1] at e; cases e) ?_ ?_
    · simp only [execOp, hok.o1.1, hev]
      simp [hrun]
    · rw [hok.o1.2.1]
      have hu : (a.put (some m.n) u).eval (.tmp m.n) = u := by
        show (a.put (some m.n) u).tmps.getD m.n undef = u
        rw [getD_put (fun d hd => by cases hd; rw [hsize]; exact hn_lt), if_pos rfl]
      refine wpOps_val (v := .bool bb) (w' := w') e3 hok.o2.2.2 (fun c e => by rw [hok.o2.1] at e; cases e) ?_ ?_
      · simp only [execOp, hok.o2.1, hu, hext]
        simp
      · rw [hok.o2.2.1]
        exact hk
  have hcev : ∀ (u : Value) (bb : Bool), ((a.put (some m.n) u).put (some m.c) (.bool bb)).eval (.tmp m.c) = .bool bb := fun u bb => by
    show ((a.put (some m.n) u).put (some m.c) (.bool bb)).tmps.getD m.c undef = _
    rw [getD_put (fun d hd => by cases hd; rw [put_size, hsize]; exact hc_lt), if_pos rfl]
  have hrel : ∀ (g' : Gh) (w' : World) (u : Value) (bb : Bool), RelSL g' w' nt s.L a.tmps → RelSL g' w' nt (addX ex m.c (.sc (.bool bb)) (addX ex m.n .bad s.L)) ((a.put (some m.n) u).put (some m.c) (.bool bb)).tmps := fun g' w' u bb hr => by
    have q1 := hr.put (dst := some m.n) (v := .bad) (u := u) (.bad _) (fun d hd => by cases hd; exact hn_lt)
    have q2 := q1.less (addX_less hw)
    have q3 := q2.put (dst := some m.c) (v := .sc (.bool bb)) (u := .bool bb) (.sc _) (fun d hd => by cases hd; exact hc_lt)
    exact q3.less (addX_less (addX_within hw))
  have hwH : ∀ bb, Within ex (addX ex m.c (.sc (.bool bb)) (addX ex m.n .bad s.L)) := fun bb => addX_within (addX_within hw)
  rcases run_next_at (P := P) w m.o1.type r bm clock c0 seen ms clock h6 h5 hold h7 with ⟨hz, hrun⟩ | ⟨me, hme, w1, hw1, hrun⟩
  · refine hstep _ false w hrun rfl ?_
    refine wpIn_seq (wpIn_cond_false (hcev _ _) (wpIn_exit ?_))
    show Q (.exit m.id) _ _
    refine hdone ?_ _ _ ⟨g, h1, hrel g w _ false h2, by rw [put_defers, put_defers]; exact h3⟩
    cases hle : s.left with
    | nil => rfl
    | cons i t =>
      obtain ⟨q, q1, q2⟩ := (h10 i).1 (by rw [hle]; simp)
      have hmm : q ∈ (leftOf ms seen).toList := by
        have := hperm.mem_iff.1 (List.mem_of_getElem? q1)
        simp only [leftOf, Array.toList_filter, List.mem_filter]
        exact ⟨this, by rw [q2]; rfl⟩
      have : (leftOf ms seen).toList = [] := List.eq_nil_of_length_eq_zero (by simpa using hz)
      rw [this] at hmm; cases hmm
  · -- an entry has come
    have hmm : me ∈ ms.toList ∧ seen.contains me.born = false := by
      simp only [leftOf, Array.toList_filter, List.mem_filter] at hme
      exact ⟨hme.1, by simpa using hme.2⟩
    obtain ⟨i, hi⟩ := List.mem_iff_getElem?.1 (hperm.mem_iff.2 hmm.1)
    have hil : i < es.length := by rw [← hlen]; exact (List.getElem?_eq_some_iff.1 hi).1
    have hei := List.getElem?_eq_getElem hil
    have hileft : i ∈ s.left := (h10 i).2 ⟨me, hi, hmm.2⟩
    obtain ⟨p, hp, hptop, hY⟩ := hmore i hileft _ hei
    refine hstep _ true _ hrun rfl ?_
    refine wpIn_seq (wpIn_cond_true (hcev _ _) (wpIn_skip ?_))
    show (Code.block _ _).wpIn _ _ _ _ _ _
    refine wpIn_block (wpIn_seq (wpIn_region ?_))
    -- the world behind the step
    have hcur1 : Cur B0 g s.st w1 := by
      rcases hw1 with rfl | rfl
      · exact h1
      · exact h1.drawn
    have hheap1 : w1.heap = w.heap := by rcases hw1 with rfl | rfl <;> rfl
    have hr1 : w1.heap[r]? = some (.mapIter (some bm) clock seen c0) := by rw [hheap1]; exact h6
    have hm1 : Marks B0.D n0 s.st.h g w1 a.defers := by rcases hw1 with rfl | rfl <;> exact h3
    have hrs1 : RelSL g w1 nt s.L a.tmps := by
      rcases hw1 with rfl | rfl
      · exact h2
      · exact h2.ext (Ext.same (w := w) (w' := { w with drawn := w.drawn + 1 }) rfl)
    have hext1 : ∀ e v, Rel g w e v → Rel g w1 e v := fun e v hrel => by
      rcases hw1 with rfl | rfl
      · exact hrel
      · exact hrel.ext (Ext.same (w := w) (w' := { w with drawn := w.drawn + 1 }) rfl)
    obtain ⟨W, hW⟩ : ∃ W, ChangeMaps.setBlock w1 r (.mapIter (some bm) clock (seen.push me.born) clock) = W := ⟨_, rfl⟩
    rw [hW]
    obtain ⟨hcW, hxW⟩ := put_iter (m' := some bm) (s' := clock) (sn' := seen.push me.born) (c' := clock) hcur1 hr1 h8 hr0
    have hmW := Marks.put_iter (o' := .mapIter (some bm) clock (seen.push me.born) clock) hm1 hr1
    have hWp : putB w1 r (.mapIter (some bm) clock (seen.push me.born) clock) = W := hW
    rw [hWp] at hcW hxW hmW
    have hrW : W.heap[r]? = some (.mapIter (some bm) clock (seen.push me.born) clock) := by rw [← hWp]; exact putB_same _ (lt_of_heap hr1)
    have hbmr : bm ≠ r := fun e => by rw [e] at h5; rw [h6] at h5; cases h5
    have hbW : W.heap[bm]? = some (.map ms clock) := by rw [← hWp, putB_other _ _ hbmr, hheap1]; exact h5
    have hrsW := hrs1.ext hxW
    -- the base of the round
    have hBi := hcW.at' s.st.nx (fun _ => False) (Nat.le_refl _) (far := B0.far) (fun _ h => h)
    obtain ⟨Bi, hBie⟩ : ∃ Bi : BaseP, { baseAt g s.st.h W s.st.nx (fun _ => False) B0.far with n0 := n0, D := B0.D } = Bi := ⟨_, rfl⟩
    have hcBi : Cur Bi g s.st W := by
      rw [← hBie]
      exact ⟨hBi.ok, hBi.fresh, ⟨hBi.base.b0, hBi.base.pins, hBi.base.K, hBi.base.cell, hBi.base.size, hBi.base.os, hBi.base.tape, hBi.base.output, hBi.base.frame, hBi.base.own, hBi.base.Kold, hBi.base.blk, hBi.base.lp⟩, hBi.pin⟩
    have hBin0 : Bi.n0 = n0 := by rw [← hBie]
    have hBiD : Bi.D = B0.D := by rw [← hBie]
    have hBiw : Bi.w = W := by rw [← hBie]; rfl
    have hBifar : Bi.far = B0.far := by rw [← hBie]; rfl
    -- the run of the round
    have hith := (hits i hileft _ p hp).2
    unfold mRound at hp
    cases hbp : (isPtr oi (lk s.L m.it) && isPtr oi (lk (headX ex m s.L) m.it)) with
    | false => rw [hbp] at hp; cases hp
    | true =>
    rw [hbp, cond_true] at hp
    cases hpo : (prepOs P m.en m.rest).run look ((m.e, .tup [.sc es[i].1, es[i].2]) :: headX ex m s.L) s.st with
    | none => rw [hpo] at hp; cases hp
    | some po =>
    rw [hpo] at hp
    dsimp only at hp
    cases hq : (prepC P ex m.body).run look n (keepL (keysOf ex m.en) po.1 (headX ex m s.L)) po.2 with
    | none => rw [hq] at hp; cases hp
    | some q =>
    rw [hq] at hp
    dsimp only at hp
    cases hlv : leaves m.id1 q.1 with
    | false => rw [hlv] at hp; cases hp
    | true =>
    rw [hlv] at hp
    cases hp
    have hbody := prepC_ok hT hl hm ex n m.body
    have hlo1 : Low po.2 := (prepOs_framed (P := P) hl m.en m.rest _).low h13 hpo
    have hle1 : s.st.nx ≤ po.2.nx := (prepOs_framed (P := P) hl m.en m.rest _ s.st po.1 po.2 h13 hpo).1
    have hle2 : po.2.nx ≤ q.2.2.nx := hbody.le hq hlo1
    have hnearBi : Bi.Near s.st.nx q.2.2.nx := by
      intro o o1 o2 o3
      rw [hBifar] at o3
      exact hnear o o1 (Nat.lt_of_lt_of_le o2 hptop) o3
    -- the entry, read once more
    obtain ⟨is, f1, f2, f3⟩ := range_cons hok.en
    rw [f1]
    have hmem3 : m.o3 ∈ m.en := Array.mem_of_getElem? f3
    have hd3 : ∀ d, m.o3.dst = some d → d < nt := dst_in hs3' hmem3
    have he_lt : m.e < nt := hd3 _ hok.o3.2.1
    obtain ⟨a2, ha2⟩ : ∃ a2, (a.put (some m.n) (.tuple #[.bool true, me.key, me.val])).put (some m.c) (.bool true) = a2 := ⟨_, rfl⟩
    rw [ha2]
    have hr2 : RelSL g W nt (headX ex m s.L) a2.tmps := by rw [← ha2]; exact hrel g W _ true hrsW
    have hd2' : a2.defers = a.defers := by rw [← ha2, put_defers, put_defers]
    have hitne : a2.eval (.tmp m.it) = .pointer (some ⟨r, 0, none⟩) := by
      have q1 := hr2.2 m.it
      rw [hith] at q1
      show a2.tmps.getD m.it undef = _
      generalize a2.tmps.getD m.it undef = v at q1
      cases q1 with
      | ptr _ _ b base hib => rw [h4] at hib; cases hib; rfl
    have hent := run_entry_at (P := P) W r bm clock seen ms clock me hrW hbW hmm.1 hnd
    refine wpOps_val (v := .tuple #[me.key, me.val]) (w' := W) f3 hok.o3.2.2 (fun c e => by rw [hok.o3.1] at e; cases e) ?_ ?_
    · simp only [execOp, hok.o3.1, hitne]
      simp [hent]
    rw [hok.o3.2.1]
    have hkv := h12 i _ me hei hi
    have hrel3 : RelSL g W nt ((m.e, .tup [.sc es[i].1, es[i].2]) :: headX ex m s.L) (a2.put (some m.e) (.tuple #[me.key, me.val])).tmps := by
      refine hr2.put (dst := some m.e) (v := .tup [.sc es[i].1, es[i].2]) ?_ (fun d hd => by cases hd; exact he_lt)
      refine .tup _ _ rfl (fun j x y hx hy => ?_)
      match j with
      | 0 => simp at hx hy; subst hx hy; rw [hkv.1]; exact .sc _
      | 1 => simp at hx hy; subst hx hy; exact (hext1 _ _ hkv.2).ext hxW
      | j + 2 => simp at hx
    have hiter := prepOs_wpR (N := N) (ro := ro) (B := Bi) (nt := nt) (Q := Exit.then (m.body.wpIn (fence ro) N P (Exit.inBlock m.id1 (Exit.then Y Q))) (Exit.inBlock m.id1 (Exit.then Y Q))) hT hl hs3 hs3' (p := po) [] (fun g' w' a' hc' hr' hd' _ => ?_) m.rest is (fun o ho => by rw [← Array.mem_toList_iff, hok.en]; simp [ho]) f2 _ s.st g W (a2.put (some m.e) (.tuple #[me.key, me.val])) hpo h13 (hnearBi.sub (Nat.le_refl _) hle2) hcBi hrel3 (by rw [put_defers, hd2', hBin0, hBiD]; exact hmW) rfl
    · rw [List.append_nil] at hiter
      exact hiter
    · -- the body
      show m.body.wpIn (fence ro) N P (Exit.inBlock m.id1 (Exit.then Y Q)) a' w'
      have hless := region_less (ops := m.en) (L := po.1) (hwH true) (fun t ht => by
        have h1 := prepOs_lk (t := t) _ _ _ _ hpo (fun o ho => ht o (by rw [hok.en]; simp [ho]))
        rw [h1, lk_cons, if_neg (fun e => by subst e; exact ht m.o3 (by rw [hok.en]; simp) hok.o3.2.1)]
        rfl)
      have hwB := hbody.wp ro N Bi nt (by rw [hBin0, hBiw, ← hWp, putB_size, hheap1]; exact Nat.le_trans hn0 h1.base.size) hpl hs4 _ _ _ g' w' a' hq hless.2 hlo1 (hnearBi.sub hle1 (Nat.le_refl _)) hc' (hr'.less hless.1) hd'
      refine wpIn_mono hwB ?_
      rintro exx a3 w3 ⟨e4, L4, st4, g4, rfl, he4, hc4, hr4, hd4⟩
      subst he4
      have hY' : Y a3 w3 := by
        refine hY a3 w3 ?_
        have hb4 : Base (baseAt g s.st.h W s.st.nx (fun _ => False) B0.far) g4 st4.h w3 := by
          have hb := hc4.base
          rw [← hBie] at hb
          exact ⟨hb.b0, hb.pins, hb.K, hb.cell, hb.size, hb.os, hb.tape, hb.output, hb.frame, hb.own, hb.Kold, hb.blk, hb.lp⟩
        have hfr4 : ∀ o, s.st.nx ≤ o → ¬ B0.far o → g.inj o = none := hcW.fresh
        have hur := hb4.unowned (lt_of_heap hrW) h8 (fun h => h)
        have hub := hb4.unowned (lt_of_heap hbW) h9 (fun h => h)
        have hext4 := hb4.ext_at hfr4
        refine ⟨g4, seen.push me.born, clock, ⟨hc4.ok, fun o o1 o2 => hc4.fresh o o1 (by rw [hBifar]; exact o2), hcW.base.comp hb4 hcW.pin (fun _ h => h) (fun _ h => h.elim), Nat.le_trans hcW.pin (Nat.le_trans hle1 hle2)⟩, hr4.less (mapK_less _ _), by rw [← hBin0, ← hBiD]; exact hd4, hext4.inj oi _ h4, hub.2.trans hbW, hur.2.trans hrW, Nat.le_refl _, hur.1, hub.1, fun j => ?_, h11.erase i, fun j e me' hj hj' => ⟨(h12 j e me' hj hj').1, (((hext1 _ _ (h12 j e me' hj hj').2).ext hxW).ext hext4)⟩, hbody.low hq hlo1, Nat.lt_of_lt_of_le h14 (Nat.le_trans hle1 hle2)⟩
        show j ∈ s.left.erase i ↔ _
        rw [h11.mem_erase_iff, h10 j]
        constructor
        · rintro ⟨hji, q, q1, q2⟩
          refine ⟨q, q1, ?_⟩
          have hne : q.born ≠ me.born := fun eb => by
            have hbl : (l.map (·.born)).Nodup := (hperm.map _).nodup_iff.2 hnd
            exact hji (born_idx' hbl q1 hi eb)
          simp only [Array.contains_push, Bool.or_eq_false_iff, q2, true_and]
          simpa using hne
        · rintro ⟨q, q1, q2⟩
          simp only [Array.contains_push, Bool.or_eq_false_iff] at q2
          refine ⟨fun e => ?_, q, q1, q2.1⟩
          subst e
          rw [hi] at q1; cases q1
          simp at q2
      cases e4 with
      | normal => exact hY'
      | ret => cases hlv
      | exit j =>
        have hj : j = m.id1 := Nat.eq_of_beq_eq_true hlv
        subst hj
        show Exit.inBlock m.id1 (Exit.then Y Q) (.exit m.id1) a3 w3
        unfold Exit.inBlock
        simp only [if_true]
        exact hY'

end
end Go.Vm

namespace Go.Vm
noncomputable section

theorem objRel_iter {g w b base x m s sn c} (h : ObjRel g w b base x) : w.heap[b]? ≠ some (.mapIter m s sn c) := by
  intro e
  cases x with
  | row cells k st et => obtain ⟨cs, fr, h1, _⟩ := h; rw [e] at h1; cases h1
  | map es => obtain ⟨_, ms, c, h1, _⟩ := h; rw [e] at h1; cases h1
  | loop => obtain ⟨_, l, h1, _⟩ := h; rw [e] at h1; cases h1
theorem Marks.of_ok {D n0 h h' g w ds} (hm : Marks D n0 h' g w ds) (hok : Ok g h w) : Marks D n0 h g w ds := by
  obtain ⟨bs, h1, h2, h3⟩ := hm
  refine ⟨bs, h1, h2, fun b hb => ⟨(h3 b hb).1, (h3 b hb).2.1, fun o base ho hi => ?_⟩⟩
  obtain ⟨x, hx⟩ := Option.isSome_iff_exists.1 ho
  obtain ⟨b', base', q1, _, q3⟩ := hok.obj o x hx
  rw [hi] at q1; cases q1
  exact objRel_kind q3 (h3 b hb).2.1
theorem mRound_within {P : Program} {look : Look} (hT : TabOkF P (tabX look)) (hl : LookFr look) (hm : P.follows .mixedOrders = true) {ex n : Nat} {a0 b0 : Code} {m : ML} (hok : m.Ok a0 b0) {oi : Nat} {ks : List Nat} {e : Value × AV} {L : SL} {st : St} {p : SL × St} (h : mRound P ex look n m oi ks e L st = some p) (hw : Within ex L) : Within ex p.1 := by
  unfold mRound at h
  cases hb : (isPtr oi (lk L m.it) && isPtr oi (lk (headX ex m L) m.it)) with
  | false => rw [hb] at h; cases h
  | true =>
  rw [hb, cond_true] at h
  cases hpo : (prepOs P m.en m.rest).run look ((m.e, .tup [.sc e.1, e.2]) :: headX ex m L) st with
  | none => rw [hpo] at h; cases h
  | some po =>
  rw [hpo] at h
  dsimp only at h
  cases hq : (prepC P ex m.body).run look n (keepL (keysOf ex m.en) po.1 (headX ex m L)) po.2 with
  | none => rw [hq] at h; cases h
  | some q =>
  rw [hq] at h
  dsimp only at h
  cases hlv : leaves m.id1 q.1 with
  | false => rw [hlv] at h; cases h
  | true =>
  rw [hlv] at h
  cases h
  have hless := region_less (ops := m.en) (L := po.1) (L0 := headX ex m L) (addX_within (addX_within hw)) (fun t ht => by
    have h1 := prepOs_lk (t := t) _ _ _ _ hpo (fun o ho => ht o (by rw [hok.en]; simp [ho]))
    rw [h1, lk_cons, if_neg (fun e => by subst e; exact ht m.o3 (by rw [hok.en]; simp) hok.o3.2.1)])
  exact mapK_within ((prepC_ok hT hl hm ex n m.body).within _ _ _ hq hless.2)

/-- All rounds. -/
theorem levs_wp {P : Program} {look : Look} (hT : TabOkF P (tabX look)) (hl : LookFr look) (hm : P.follows .mixedOrders = true) {ex n : Nat} {a0 b0 : Code} {m : ML} (hok : m.Ok a0 b0) {ro : Option Nat} {N : Nat} {B0 : BaseP} {n0 nt oi r bm : Nat} {ms : Array MapEntry} {clock : Nat} {es : List (Value × AV)} {l : List MapEntry} {ks : List Nat}
    (hr0 : B0.w.heap.size ≤ r) (hn0 : n0 ≤ B0.w.heap.size) (hpl : ro = none ∨ m.body.plainR = true) (hs : slotsIn nt m.round = true) (hold : ∀ x ∈ ms.toList, x.born < clock) (hnd : (ms.toList.map (·.born)).Nodup) (hperm : l.Perm ms.toList) (hlen : l.length = es.length)
    {f : DP} (hnear : B0.Near B0.pin f.st.nx) {F : List Nat} {nn : Nat} (hF : ∀ o ∈ F, o ≤ limit) {X : Act → World → Prop} {Q : Exit → Act → World → Prop} (hX : ∀ a w, m.round.wpIn (fence ro) N P (Exit.then X Q) a w → X a w)
    (hdone : ∀ a' w', DoneJ B0 n0 nt (addX ex m.c (.sc (.bool false)) (addX ex m.n .bad f.L)) f.st a' w' → Q (.exit m.id) a' w') (hfit : lk f.L m.it = .ptr oi 0) :
    ∀ (k : Nat) (ss : List DP), mLevs (fun i L st' => match es[i]? with
            | some e => mRound P ex look n m oi ks e L st'
            | none => none) F nn k ss = some [f] → ∀ s ∈ ss, s.left.length = k → s.st.nx ≤ f.st.nx ∧ (Within ex s.L → ∀ a w, HeadJ B0 n0 nt m.it oi r bm ms clock es l s a w → X a w)
  | 0, ss, h, s, hsm, hk => by
    cases h
    rw [List.mem_singleton] at hsm
    subst hsm
    have hleft : s.left = [] := List.eq_nil_of_length_eq_zero hk
    refine ⟨Nat.le_refl _, fun hw a w hJ => hX a w ?_⟩
    obtain ⟨g, seen, c0, j1, _⟩ := id hJ
    exact round_wp (n := n) hT hl hm hok (ks := ks) hr0 hn0 hpl hs hold hnd hperm hlen hJ hw (top := s.st.nx) (hnear.sub j1.pin (Nat.le_refl _)) (fun i hi => by rw [hleft] at hi; cases hi) (fun _ => hdone) (fun _ => hfit)
  | k + 1, ss, h, s, hsm, hk => by
    unfold mLevs at h
    cases hlev : mLev (fun i L st' => match es[i]? with
            | some e => mRound P ex look n m oi ks e L st'
            | none => none) F nn ss [] with
    | none => rw [hlev] at h; cases h
    | some ss' =>
    rw [hlev] at h
    have hcov := (mLev_cov hF ss [] ss' (fun t ht => by cases ht) hlev).2.2 s hsm
    have ih := levs_wp (bm := bm) hT hl hm hok (ks := ks) hr0 hn0 hpl hs hold hnd hperm hlen hnear hF hX hdone hfit k ss' h
    have hlen' : ∀ i ∈ s.left, (s.left.erase i).length = k := fun i hi => by rw [List.length_erase_of_mem hi]; omega
    refine ⟨?_, fun hw a w hJ => hX a w ?_⟩
    · cases hle : s.left with
      | nil => rw [hle] at hk; cases hk
      | cons i r =>
        have hi : i ∈ s.left := by rw [hle]; simp
        obtain ⟨p, _, h2, t, h3, h4, h5⟩ := hcov i hi
        have := (ih t h3 (by rw [h4]; exact hlen' i hi)).1
        rw [h5.nx] at this
        omega
    · obtain ⟨g, seen, c0, j1, _⟩ := id hJ
      refine round_wp (n := n) hT hl hm hok (ks := ks) hr0 hn0 hpl hs hold hnd hperm hlen hJ hw (top := f.st.nx) (hnear.sub j1.pin (Nat.le_refl _)) (fun i hi e he => ?_) (fun h0 => by rw [h0] at hk; cases hk) (fun h0 => by rw [h0] at hk; cases hk)
      obtain ⟨p, h1, h2, t, h3, h4, h5⟩ := hcov i hi
      simp only [he] at h1
      have iht := ih t h3 (by rw [h4]; exact hlen' i hi)
      refine ⟨p, h1, by rw [← h5.nx]; exact iht.1, fun a' w' hJ' => iht.2 (fun k hk => by rw [h5.L]; exact mRound_within hT hl hm hok h1 hw k hk) a' w' (hJ'.covers h5 h4)⟩

theorem within_less_cons {L L' : SL} {k : Nat} {v : AV} (h : Less L L') : Less ((k, v) :: L) ((k, v) :: L') := fun t => by
  rw [lk_cons, lk_cons]
  by_cases e : k = t
  · rw [if_pos e, if_pos e]; exact .inl rfl
  · rw [if_neg e, if_neg e]; exact h t
/-- A range over a map, whole. -/
theorem mapCore_wp {P : Program} {look : Look} (hT : TabOkF P (tabX look)) (hl : LookFr look) (hm : P.follows .mixedOrders = true) {ex n : Nat} {a0 b0 : Code} {m : ML} (hok : m.Ok a0 b0) {ro : Option Nat} {N : Nat} {B : BaseP} {nt : Nat} (hn0 : B.n0 ≤ B.w.heap.size) (hpl : ro = none ∨ m.body.plainR = true) (hs : slotsIn nt m.round = true) (hit : m.it < nt)
    {L L0 : SL} {st : St} {q : XR} (hq : mapCore P ex look n m L L0 st = some q) (hL0 : Less L0 L) (hw0 : Within ex L0) (hlo : Low st) (hnr : B.Near st.nx q.2.2.nx) {g : Gh} {w : World} {a : Act} (hc : Cur B g st w) (hr : RelSL g w nt L a.tmps) (hd : Marks B.D B.n0 st.h g w a.defers) {k : Nat} (hk : m.ops[k]? = some m.last)
    {Q : Exit → Act → World → Prop} (hQ : ∀ a w, Fin B nt (fun e L st => (e, L, st) = q) .normal a w → Q .normal a w) :
    wpOpsIn (fence ro) N P m.ops (Exit.then (b0.wpIn (fence ro) N P Q) Q) [k] a w := by
  unfold mapCore at hq
  split at hq
  case h_2 => cases hq
  rename_i kt et mo hu hx
  split at hq
  case h_2 => cases hq
  rename_i es ho
  generalize hFe : vis st.h 4096 (AV.names.go (L0.map (·.2))) [mo] = F at hq
  cases hb : (F.all (fun o => Nat.ble o limit && Nat.blt o st.nx) && (Nat.ble (st.nx + 1) limit && hasB ex m.it)) with
  | false => rw [hb] at hq; cases hq
  | true =>
  rw [hb, cond_true] at hq
  split at hq
  case h_2 => cases hq
  rename_i f hf
  cases hb2 : ((f.left.isEmpty && isPtr st.nx (lk f.L m.it)) && (Nat.ble (st.nx + 1) f.st.nx && Nat.ble f.st.nx limit)) with
  | false => rw [hb2] at hq; cases hq
  | true =>
  rw [hb2, cond_true] at hq
  have hqe : q = mEnd ex m F f st := (Option.some.inj hq).symm
  simp only [Bool.and_eq_true, List.all_eq_true, Nat.blt_eq] at hb hb2
  obtain ⟨hb1, hb3, hb4⟩ := hb
  obtain ⟨⟨hb5, hb6⟩, hb7, hb8⟩ := hb2
  have hle : st.nx + 1 ≤ f.st.nx := Nat.le_of_ble_eq_true hb7
  have hlim : f.st.nx ≤ limit := Nat.le_of_ble_eq_true hb8
  have hFl : ∀ o ∈ F, o ≤ limit := fun o ho => Nat.le_of_ble_eq_true (hb1 o ho).1
  have hFn : ∀ o ∈ F, o < st.nx := fun o ho => (hb1 o ho).2
  have hmoF : mo ∈ F := by rw [← hFe]; exact vis_acc _ _ _ _ _ (by simp)
  have hqnx : q.2.2.nx = f.st.nx := by rw [hqe]; rfl
  -- the map
  have hxv := hr.eval m.x
  rw [hx] at hxv
  generalize hv : a.eval m.x = v at hxv
  cases hxv with
  | mp _ bm base hmi =>
  obtain ⟨bm', base', hi', _, hrel⟩ := hc.ok.obj mo _ ho
  rw [hmi] at hi'; cases hi'
  obtain ⟨hb0, ms, clock, hms, hmr⟩ := hrel
  subst hb0
  obtain ⟨l, hp1, hp2, _⟩ := hmr.perm
  have hll : l.length = es.length := by rw [hp1.length_eq, ← hmr.len]; simp
  -- the block of the iterator
  obtain ⟨W, hW⟩ : ∃ W, w.alloc (.mapIter (some bm) clock #[] clock) = W := ⟨_, rfl⟩
  have hrun : (Instr.range m.t (.map (some bm))).run P w = .ok (.pointer (some ⟨w.heap.size, 0, none⟩)) W := by
    rw [← hW]
    simp [Instr.range, run_underlying hu, getMap hms, run_newObj]
  have hsz : W.heap.size = w.heap.size + 1 := by rw [← hW]; simp
  have hold : ∀ b, b < w.heap.size → W.heap[b]? = w.heap[b]? := fun b hb => by rw [← hW]; exact RowKit.Below.heap_alloc w _ _ hb
  have hiter : W.heap[w.heap.size]? = some (.mapIter (some bm) clock #[] clock) := by rw [← hW]; exact World.alloc_heap_new w _
  -- what is looked at
  obtain ⟨hM, hMe⟩ : ∃ hM, hM = maskH st.h (F.filter fun o => !Nat.beq o mo) := ⟨_, rfl⟩
  have hMg : ∀ o, hM.get o = if o ∈ F.filter (fun o => !Nat.beq o mo) then st.h.get o else none := fun o => by rw [hMe]; exact maskH_get _ _ _ (fun p hp => hFl p (List.mem_filter.1 hp).1)
  have hMs : ∀ o x, hM.get o = some x → st.h.get o = some x ∧ o ∈ F ∧ o ≠ mo := fun o x hx => by
    rw [hMg] at hx
    by_cases h : o ∈ F.filter (fun o => !Nat.beq o mo)
    · rw [if_pos h] at hx
      have := List.mem_filter.1 h
      exact ⟨hx, this.1, fun e => by rw [e] at this; simp at this⟩
    · rw [if_neg h] at hx; cases hx
  have hcM : Cur B g { h := hM, nx := st.nx, rl := [], wl := [] } w := hc.covers (sub_same fun o x hx => (hMs o x hx).1) rfl
  have hcB := hcM.at' st.nx (fun _ => False) (Nat.le_refl _) (far := B.far) (fun _ h => h)
  obtain ⟨B0, hB0⟩ : ∃ B0 : BaseP, { baseAt g hM w st.nx (fun _ => False) B.far with n0 := B.n0, D := B.D } = B0 := ⟨_, rfl⟩
  have hc0 : Cur B0 g { h := hM, nx := st.nx, rl := [], wl := [] } w := by
    rw [← hB0]
    exact ⟨hcB.ok, hcB.fresh, ⟨hcB.base.b0, hcB.base.pins, hcB.base.K, hcB.base.cell, hcB.base.size, hcB.base.os, hcB.base.tape, hcB.base.output, hcB.base.frame, hcB.base.own, hcB.base.Kold, hcB.base.blk, hcB.base.lp⟩, hcB.pin⟩
  have hB0w : B0.w = w := by rw [← hB0]; rfl
  have hB0n : B0.n0 = B.n0 := by rw [← hB0]
  have hB0D : B0.D = B.D := by rw [← hB0]
  have hB0p : B0.pin = st.nx := by rw [← hB0]; rfl
  have hB0f : B0.far = B.far := by rw [← hB0]; rfl
  have hnear0 : B0.Near B0.pin f.st.nx := fun o o1 o2 o3 => by
    rw [hB0p] at o1
    rw [hB0f] at o3
    exact hnr o o1 (by rw [hqnx]; exact o2) o3
  have hgn : g.inj st.nx = none := hc.fresh _ (Nat.le_refl _) (hnr _ (Nat.le_refl _) (by rw [hqnx]; omega))
  -- the iterator gets a name
  have step1 : ∀ h, Ok g h w → h.get st.nx = none → Step g h w st.nx (st.nx + 1) (g.with st.nx w.heap.size 0) h W ∧ Ok (g.with st.nx w.heap.size 0) h W := fun h hok hno => by
    have hgrow := grow_step (w' := W) st.nx st.nx hok (by omega) hold (by rw [← hW]; rfl) (by rw [← hW]; rfl) (by rw [← hW]; rfl)
    have hname := name_step (o := st.nx) (b := w.heap.size) (base := 0) hgrow.2 hgn hno
    exact ⟨hgrow.1.trans hname.1 (Nat.le_refl _) (by omega), hname.2⟩
  obtain ⟨g1, hg1⟩ : ∃ g1, g.with st.nx w.heap.size 0 = g1 := ⟨_, rfl⟩
  rw [hg1] at step1
  have hinj1 : g1.inj st.nx = some (w.heap.size, 0) := by rw [← hg1]; exact Gh.with_inj
  have hnoF : st.h.get st.nx = none := by
    cases hq : st.h.get st.nx with
    | none => rfl
    | some x => exact absurd (hlo _ _ hq) (Nat.lt_irrefl _)
  have stepM := step1 hM hc0.ok (by
    cases hq : hM.get st.nx with
    | none => rfl
    | some x => have := (hMs _ _ hq).1; rw [hnoF] at this; cases this)
  have stepF := step1 st.h hc.ok hnoF
  have hc1 : Cur B0 g1 { h := hM, nx := st.nx + 1, rl := [], wl := [] } W := hc0.step (st' := { h := hM, nx := st.nx + 1, rl := [], wl := [] }) (hnear0.sub (by rw [hB0p]; exact Nat.le_refl _) hle) ⟨Nat.le_succ _, stepM.1⟩ stepM.2
  refine wpOps_val (v := .pointer (some ⟨w.heap.size, 0, none⟩)) (w' := W) hk hok.last.2.2 (fun c e => by rw [hok.last.1] at e; cases e) (by simp only [execOp, hok.last.1, hv]; simp [hrun]) ?_
  rw [hok.last.2.1]
  show b0.wpIn (fence ro) N P Q _ _
  rw [hok.b]
  refine wpIn_block (wpIn_loop_least fun X hX => ?_)
  -- the slots
  have hrel1 : RelSL g1 W nt (addX ex m.it (.ptr st.nx 0) L0) (a.put (some m.it) (.pointer (some ⟨w.heap.size, 0, none⟩))).tmps := by
    have h1 := (hr.ext stepF.1.ext).put (dst := some m.it) (v := .ptr st.nx 0) (u := .pointer (some ⟨w.heap.size, 0, none⟩)) (.ptr _ _ _ _ hinj1) (fun d hd => by cases hd; exact hit)
    refine h1.less ?_
    unfold addX
    rw [hb4, cond_true]
    exact within_less_cons hL0
  have hw1 : Within ex (addX ex m.it (.ptr st.nx 0) L0) := addX_within hw0
  obtain ⟨ks, hks⟩ : ∃ ks, (addX ex m.it (.ptr st.nx 0) L0).map (·.1) = ks := ⟨_, rfl⟩
  rw [hks] at hf
  have hunb : ∀ o base, (hM.get o).isSome = true → g1.inj o ≠ some (bm, base) := fun o base hos he => by
    obtain ⟨x, hx⟩ := Option.isSome_iff_exists.1 hos
    obtain ⟨h1, h2, h3⟩ := hMs o x hx
    have hno : o ≠ st.nx := fun e => by have := hFn o h2; omega
    rw [← hg1, Gh.with_other hno] at he
    exact hc.ok.sep mo o _ x bm 0 base (Ne.symm h3) ho h1 hmi he
  have hunr : Unowned g1 hM w.heap.size := fun o base hos he => by
    obtain ⟨x, hx⟩ := Option.isSome_iff_exists.1 hos
    obtain ⟨b', base', q1, _, q3⟩ := stepM.2.obj o x hx
    rw [he] at q1; cases q1
    exact objRel_iter q3 hiter
  have hmarks : Marks B.D B.n0 hM g1 W a.defers := Marks.of_ok (Marks.step stepF.1 hd) stepM.2
  refine (levs_wp (bm := bm) (r := w.heap.size) (nt := nt) (n0 := B.n0) (B0 := B0) hT hl hm hok (ks := ks) (by rw [hB0w]; exact Nat.le_refl _) (by rw [hB0w]; exact Nat.le_trans hn0 hc.base.size) hpl hs hmr.old hmr.born hp1 hll hnear0 hFl hX (fun a' w' hJ => ?_) (isPtr_eq hb6) es.length _ hf (mFirst es ks (addX ex m.it (.ptr st.nx 0) L0) F mo st) (by simp) (by simp [mFirst])).2 (mapK_within hw1) _ _ ?_
  · -- behind the loop
    obtain ⟨g2, d1, d2, d3⟩ := hJ
    have hs0 : Step g hM w st.nx f.st.nx g2 f.st.h w' := by
      have hb := d1.base
      rw [← hB0] at hb
      refine Base.step' (p := st.nx) (far := B.far) ⟨hb.b0, hb.pins, hb.K, hb.cell, hb.size, hb.os, hb.tape, hb.output, hb.frame, hb.own, hb.Kold, hb.blk, hb.lp⟩ (fun o o1 o2 => hc.fresh o o1 o2) (fun o o1 o2 => ?_)
      exact d1.fresh o o1 (by rw [hB0f]; exact o2)
    have hCl : ∀ o ∈ Cs F st.nx f.st.nx, o ≤ limit := Cs_le hFl hlim
    have hfs := frame_step (h' := mergeH f.st.h (Cs F st.nx f.st.nx) st.h) (S := fun o => o ∈ Cs F st.nx f.st.nx) hc.ok (fun o x hx => (hMs o x hx).1) (fun o x hx => List.mem_append.2 (.inl (hMs o x hx).2.1)) hs0 d1.ok (fun o hS => by rw [mergeH_get _ _ _ _ hCl, if_pos hS]) (fun o hS => by rw [mergeH_get _ _ _ _ hCl, if_neg hS]) (fun o e1 e2 => List.mem_append.2 (.inr (by rw [fromTo_mem]; omega)))
    unfold Exit.inBlock
    simp only [if_true]
    refine hQ a' w' (Fin.mk' (e := .normal) (L := addX ex m.c (.sc (.bool false)) (addX ex m.n .bad f.L)) (st := (mEnd ex m F f st).2.2) (g := g2) (by rw [hqe]; rfl) (hc.step (st' := (mEnd ex m F f st).2.2) (by rw [hqe] at hnr; exact hnr) ⟨by show st.nx ≤ f.st.nx; omega, hfs.1⟩ hfs.2) d2 (Marks.of_ok (hB0D ▸ d3) hfs.2))
  · -- ahead of the first round
    subst hMe
    refine ⟨g1, #[], clock, hc1, hrel1.less (by rw [← hks]; exact mapK_less _ _), by rw [put_defers, hB0D]; exact hmarks, hinj1, ?_, hiter, Nat.le_refl _, hunr, hunb, fun i => ?_, List.nodup_range, fun i e me hi hme => ?_, fun o x hx => ?_, Nat.lt_succ_self _⟩
    · rw [hold bm (lt_of_heap hms)]; exact hms
    · show i ∈ List.range es.length ↔ _
      rw [List.mem_range, ← hll]
      constructor
      · intro hi
        exact ⟨l[i], by simp [hi], by simp⟩
      · rintro ⟨me, hme, _⟩
        exact (List.getElem?_eq_some_iff.1 hme).1
    · have := hp2 i e me hi hme
      exact ⟨this.1, this.2.ext stepF.1.ext⟩
    · have := hFn o (hMs o x hx).2.1
      show o < st.nx + 1
      omega

/-! ### Slots -/
theorem insS_within {ex : Nat} {C : List Nat} {s : DP} (hs : Within ex s.L) : ∀ (acc acc' : List DP), (∀ t ∈ acc, Within ex t.L) → insS C s acc = some acc' → ∀ t ∈ acc', Within ex t.L
  | [], acc', _, h, t, ht => by
    cases h
    rw [List.mem_singleton] at ht
    subst ht
    exact hs
  | a :: r, acc', hin, h, t, ht => by
    unfold insS at h
    cases hb : eqNs a.left s.left with
    | true =>
      rw [hb, cond_true] at h
      cases hc : sameS C a s with
      | false => rw [hc] at h; cases h
      | true => rw [hc] at h; cases h; exact hin t ht
    | false =>
      rw [hb, cond_false] at h
      cases hc : insS C s r with
      | none => rw [hc] at h; cases h
      | some r' =>
        rw [hc] at h
        cases h
        rcases List.mem_cons.1 ht with rfl | ht
        · exact hin _ (by simp)
        · exact insS_within hs r r' (fun t ht => hin t (by simp [ht])) hc t ht
theorem mOne_within {ex : Nat} {run : Nat → SL → St → Option (SL × St)} {F : List Nat} {n0 : Nat} {s : DP} (hr : ∀ i p, run i s.L s.st = some p → Within ex p.1) : ∀ (is : List Nat) (acc acc' : List DP), (∀ t ∈ acc, Within ex t.L) → mOne run F n0 s is acc = some acc' → ∀ t ∈ acc', Within ex t.L
  | [], acc, acc', hin, h => by cases h; exact hin
  | i :: r, acc, acc', hin, h => by
    unfold mOne at h
    cases hp : run i s.L s.st with
    | none => rw [hp] at h; cases h
    | some p =>
      rw [hp] at h
      dsimp only at h
      cases hb : (Nat.ble p.2.nx limit && Nat.ble s.st.nx p.2.nx) with
      | false => rw [hb] at h; cases h
      | true =>
        rw [hb, cond_true] at h
        cases hc : insS (Cs F n0 p.2.nx) ⟨s.left.erase i, p.1, p.2⟩ acc with
        | none => rw [hc] at h; cases h
        | some acc1 =>
          rw [hc] at h
          exact mOne_within hr r acc1 acc' (insS_within (s := ⟨s.left.erase i, p.1, p.2⟩) (hr i p hp) acc acc1 hin hc) h
theorem mLev_within {ex : Nat} {run : Nat → SL → St → Option (SL × St)} {F : List Nat} {n0 : Nat} (hr : ∀ i L st p, Within ex L → run i L st = some p → Within ex p.1) : ∀ (l acc acc' : List DP), (∀ t ∈ l, Within ex t.L) → (∀ t ∈ acc, Within ex t.L) → mLev run F n0 l acc = some acc' → ∀ t ∈ acc', Within ex t.L
  | [], acc, acc', _, hin, h => by cases h; exact hin
  | s :: r, acc, acc', hl, hin, h => by
    unfold mLev at h
    cases hc : mOne run F n0 s s.left acc with
    | none => rw [hc] at h; cases h
    | some acc1 =>
      rw [hc] at h
      exact mLev_within hr r acc1 acc' (fun t ht => hl t (by simp [ht])) (mOne_within (fun i p => hr i _ _ p (hl s (by simp))) s.left acc acc1 hin hc) h
theorem mLevs_within {ex : Nat} {run : Nat → SL → St → Option (SL × St)} {F : List Nat} {n0 : Nat} (hr : ∀ i L st p, Within ex L → run i L st = some p → Within ex p.1) : ∀ (k : Nat) (l l' : List DP), (∀ t ∈ l, Within ex t.L) → mLevs run F n0 k l = some l' → ∀ t ∈ l', Within ex t.L
  | 0, l, l', hl, h => by cases h; exact hl
  | k + 1, l, l', hl, h => by
    unfold mLevs at h
    cases hc : mLev run F n0 l [] with
    | none => rw [hc] at h; cases h
    | some l1 =>
      rw [hc] at h
      exact mLevs_within hr k l1 l' (mLev_within hr l [] l1 hl (fun t ht => by cases ht) hc) h
theorem mapCore_within {P : Program} {look : Look} (hT : TabOkF P (tabX look)) (hl : LookFr look) (hm : P.follows .mixedOrders = true) {ex n : Nat} {a0 b0 : Code} {m : ML} (hok : m.Ok a0 b0) {L L0 : SL} {st : St} {q : XR} (hq : mapCore P ex look n m L L0 st = some q) (hw0 : Within ex L0) : Within ex q.2.1 := by
  unfold mapCore at hq
  split at hq
  case h_2 => cases hq
  split at hq
  case h_2 => cases hq
  rename_i es ho
  generalize hFe : vis st.h 4096 (AV.names.go (L0.map (·.2))) _ = F at hq
  cases hb : (F.all (fun o => Nat.ble o limit && Nat.blt o st.nx) && (Nat.ble (st.nx + 1) limit && hasB ex m.it)) with
  | false => rw [hb] at hq; cases hq
  | true =>
  rw [hb, cond_true] at hq
  split at hq
  case h_2 => cases hq
  rename_i f hf
  cases hb2 : ((f.left.isEmpty && isPtr st.nx (lk f.L m.it)) && (Nat.ble (st.nx + 1) f.st.nx && Nat.ble f.st.nx limit)) with
  | false => rw [hb2] at hq; cases hq
  | true =>
  rw [hb2, cond_true] at hq
  cases hq
  refine addX_within (addX_within (mLevs_within (fun i L st p hw h => ?_) _ _ _ (fun t ht => ?_) hf f (by simp)))
  · split at h
    · exact mRound_within hT hl hm hok h hw
    · cases h
  · rw [List.mem_singleton] at ht
    subst ht
    exact mapK_within (addX_within hw0)

/-! ### Code -/
theorem seqX_ok {P : Program} {ex : Nat} {x y : Code} {X Y : SL → St → Option XR} (ihx : XOk P ex x X) (ihy : XOk P ex y Y) : XOk P ex (.seq x y) (fun L st => thenX Y (X L st)) := by
  have both : ∀ {ro : Option Nat} {x y : Bool}, (ro = none ∨ (x && y) = true) → (ro = none ∨ x = true) ∧ (ro = none ∨ y = true) := by
    intro ro x y h
    rcases h with h | h
    · exact ⟨.inl h, .inl h⟩
    · rw [Bool.and_eq_true] at h; exact ⟨.inr h.1, .inr h.2⟩
  refine ⟨fun L st q h hw => ?_, fun L => (thenX_framed (ihx.framed L) ihy.framed).congr (fun st => rfl), fun ro N B nt hn0 hpl hs L st q g w a h hw hlo hnr hc hr hd => ?_⟩
  · rcases thenX_some h with ⟨L1, st1, h1, h2⟩ | ⟨h1, _⟩
    · exact ihy.within _ _ _ h2 (ihx.within _ _ _ h1 hw)
    · exact ihx.within _ _ _ h1 hw
  · simp only [slotsIn, Bool.and_eq_true] at hs
    refine wpIn_seq ?_
    rcases thenX_some h with ⟨L1, st1, h1, h2⟩ | ⟨h1, h2⟩
    · have hlo1 := ihx.low h1 hlo
      have hle1 := ihx.le h1 hlo
      have hle2 := ihy.le h2 hlo1
      refine wpIn_mono (ihx.wp ro N B nt hn0 (both hpl).1 hs.1 _ _ _ g w a h1 hw hlo (hnr.sub (Nat.le_refl _) hle2) hc hr hd) ?_
      rintro exx a1 w1 ⟨e1, L1', st1', g1, rfl, he, hc1, hr1, hd1⟩
      cases he
      exact ihy.wp ro N B nt hn0 (both hpl).2 hs.2 _ _ _ g1 w1 a1 h2 (ihx.within _ _ _ h1 hw) hlo1 (hnr.sub hle1 (Nat.le_refl _)) hc1 hr1 hd1
    · refine wpIn_mono (ihx.wp ro N B nt hn0 (both hpl).1 hs.1 _ _ _ g w a h1 hw hlo hnr hc hr hd) ?_
      rintro exx a1 w1 ⟨e1, L1, st1, g1, rfl, he, hc1, hr1, hd1⟩
      subst he
      cases e1 with
      | normal => exact (h2 rfl).elim
      | exit id => exact ⟨.exit id, L1, st1, g1, rfl, rfl, hc1, hr1, hd1⟩
      | ret => exact ⟨.ret, L1, st1, g1, rfl, rfl, hc1, hr1, hd1⟩
theorem mapRun_ok {P : Program} {look : Look} (hT : TabOkF P (tabX look)) (hl : LookFr look) (hm : P.follows .mixedOrders = true) (ex n : Nat) {x y : Code} {m : ML} (hok : m.Ok x y) : XOk P ex (.seq x y) (fun L st => mapRun P ex look n m L st) := by
  have split : ∀ {L : SL} {st : St} {q : XR}, mapRun P ex look n m L st = some q → ∃ p, (prepOs P m.ops m.ahead).run look L st = some p ∧ mapCore P ex look n m p.1 (keepL (keysOf ex m.ops) p.1 L) p.2 = some q := fun {L st q} h => by
    unfold mapRun at h
    cases hp : (prepOs P m.ops m.ahead).run look L st with
    | none => rw [hp] at h; cases h
    | some p => rw [hp] at h; exact ⟨p, rfl, h⟩
  have hless : ∀ {L : SL} {st : St} {p : SL × St}, (prepOs P m.ops m.ahead).run look L st = some p → Within ex L → Less (keepL (keysOf ex m.ops) p.1 L) p.1 ∧ Within ex (keepL (keysOf ex m.ops) p.1 L) := fun {L st p} hp hw =>
    region_less hw (fun t ht => prepOs_lk (t := t) _ _ _ _ hp (fun o ho => ht o (by rw [hok.ops]; simp [ho])))
  refine ⟨fun L st q h hw => ?_, fun L => mapRun_framed hl ex n m L, fun ro N B nt hn0 hpl hs L st q g w a h hw hlo hnr hc hr hd => ?_⟩
  · obtain ⟨p, h1, h2⟩ := split h
    exact mapCore_within hT hl hm hok h2 (hless h1 hw).2
  · obtain ⟨p, h1, h2⟩ := split h
    have hfr := prepOs_framed (P := P) hl m.ops m.ahead L
    have hlo1 : Low p.2 := hfr.low hlo h1
    have hle1 : st.nx ≤ p.2.nx := (hfr st p.1 p.2 hlo h1).1
    have hle2 : p.2.nx ≤ q.2.2.nx := (mapCore_framed P ex look n m p.1 (keepL (keysOf ex m.ops) p.1 L) p.2 (q.1, q.2.1) q.2.2 hlo1 (by unfold reX reM; rw [h2])).1
    have hs' := hs
    rw [hok.a, hok.b] at hs'
    simp only [slotsIn, Bool.and_eq_true] at hs'
    have hround : slotsIn nt m.round = true := hs'.2
    have hplb : ro = none ∨ m.body.plainR = true := by
      rcases hpl with hpl | hpl
      · exact .inl hpl
      · right
        rw [hok.b] at hpl
        unfold ML.round at hpl
        simp only [Code.plainR, Bool.and_eq_true] at hpl
        exact hpl.2.2.2.2
    obtain ⟨is, k, f1, f2, f3⟩ := range_snoc hok.ops
    refine wpIn_seq ?_
    rw [show x = .region m.ra m.ops false from hok.a]
    refine wpIn_region ?_
    rw [f1]
    refine prepOs_wpR (B := B) (nt := nt) hT hl hs'.1.2 hs'.1.1 (p := p) [k] (fun g w a hc hr hd _ => ?_) m.ahead is (fun o ho => by rw [← Array.mem_toList_iff, hok.ops]; simp [ho]) f2 L st g w a h1 hlo (hnr.sub (Nat.le_refl _) hle2) hc hr hd rfl
    exact mapCore_wp hT hl hm hok hn0 hplb hround (dst_in hs'.1.1 (Array.mem_of_getElem? f3) _ hok.last.2.1) h2 (hless h1 hw).1 (hless h1 hw).2 hlo1 (hnr.sub hle1 (Nat.le_refl _)) hc hr hd f3 (fun a w h => h)
theorem prepM_ok {P : Program} {look : Look} (hT : TabOkF P (tabX look)) (hl : LookFr look) (hm : P.follows .mixedOrders = true) (ex n : Nat) : ∀ c : Code, XOk P ex c ((prepM P ex c).run look n) := by
  intro c
  induction c with
  | seq x y ihx ihy =>
    have he : (prepM P ex (.seq x y)).run look n = (match mapLoop x y with
      | some m => (⟨fun look n L st => mapRun P ex look n m L st⟩ : XC)
      | none => ⟨fun look n L st => thenX ((prepM P ex y).run look n) ((prepM P ex x).run look n L st)⟩).run look n := rfl
    rw [he]
    cases h : mapLoop x y with
    | some m => exact mapRun_ok hT hl hm ex n (mapLoop_ok h)
    | none => exact seqX_ok ihx ihy
  | skip => exact prepC_ok hT hl hm ex n _
  | label l => exact prepC_ok hT hl hm ex n _
  | exit id => exact prepC_ok hT hl hm ex n _
  | ret => exact prepC_ok hT hl hm ex n _
  | region id ops draw => exact prepC_ok hT hl hm ex n _
  | cond c x y _ _ => exact prepC_ok hT hl hm ex n _
  | block id x _ => exact prepC_ok hT hl hm ex n _
  | loop x _ => exact prepC_ok hT hl hm ex n _
  | scope x _ => exact prepC_ok hT hl hm ex n _
  | rangeFunc f ps asg body _ _ => exact prepC_ok hT hl hm ex n _
  | goto l => exact prepC_ok hT hl hm ex n _
  | refuse why => exact prepC_ok hT hl hm ex n _

end
end Go.Vm
