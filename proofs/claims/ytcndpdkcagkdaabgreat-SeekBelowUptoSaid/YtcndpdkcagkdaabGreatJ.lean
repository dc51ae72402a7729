/- Proved: where the arguments are together of bulk at most 1048576, the law SeekBelow returns true (under a name that is not there, and beyond a cut), and what it was given reads afterwards as it did before. No other conditions. -/
import Derived.WalkKit
import Derived.CallsIn
import Derived.RangeFuncIn
import Derived.RangeFuncLeaves
import Derived.Orders
import Derived.OrdersIn
import Derived.Scope
import Derived.RangeFuncOwn
import Derived.Stop.SameAnswer
import Derived.Laws.Externs
import Derived.Lib.Bytealg
import Derived.ProofKit
import Derived.OpenShut
import Derived.ReadAgain
import Derived.Deep.Slices
import Derived.ChangeSame
import Derived.Test.YtcndpdkcagkdaabGreatProg
import Derived.KernelRfl
import Derived.Test.YtcndpdkcagkdaabGreatRows
import Derived.Maps.RangeRun
import Derived.JoinedCond
import Derived.Test.YtcndpdkcagkdaabGreatJ4
set_option linter.unusedSimpArgs false
set_option linter.unusedVariables false
namespace Go.Vm
noncomputable section
theorem op_val {P : Program} {o : Oper} {a : Act} {w w' : World} {v : Value} (hnd : ∀ c, o.op ≠ .defer c) (hrun : (execOp a.eval o).run P w = .ok (.value v) w') : OpOk P o a w (fun u u' => u = v ∧ u' = w') := by
  intro ro N K Q hK
  refine ⟨about_fence ro P o a w, ?_⟩
  rw [Oper.semAt_eq _ _ _ hnd, hrun]
  exact hK v w' ⟨rfl, rfl⟩
theorem wpOps_val {P : Program} {ops : Array Oper} {ro : Option Nat} {N i : Nat} {rest : List Nat} {o : Oper} {a : Act} {w w' : World} {v : Value} {Q : Exit → Act → World → Prop} (hi : ops[i]? = some o) (hg : o.guard = none) (hnd : ∀ c, o.op ≠ .defer c) (hrun : (execOp a.eval o).run P w = .ok (.value v) w')
    (h : wpOpsIn (fence ro) N P ops Q rest (a.put o.dst v) w') : wpOpsIn (fence ro) N P ops Q (i :: rest) a w := by
  simp only [wpOpsIn, hi]
  rw [if_pos (by simp [Region.wanted, hg])]
  refine op_val hnd hrun ro N _ _ ?_
  rintro u u' ⟨rfl, rfl⟩
  exact h
theorem addX_less {ex t : Nat} {v : AV} {L : SL} (hw : Within ex L) : Less (addX ex t v L) ((t, v) :: L) := fun k => by
  unfold addX
  cases hb : hasB ex t with
  | true => exact .inl rfl
  | false =>
    rw [cond_false, lk_cons]
    by_cases e : t = k
    · subst e; exact .inr (hw t hb)
    · rw [if_neg e]; exact .inl rfl
theorem addX_within {ex t : Nat} {v : AV} {L : SL} (hw : Within ex L) : Within ex (addX ex t v L) := fun k hk => by
  unfold addX
  cases hb : hasB ex t with
  | true =>
    rw [cond_true, lk_cons, if_neg (fun e => by subst e; rw [hb] at hk; cases hk)]
    exact hw k hk
  | false => exact hw k hk
theorem mapK_lk (L : SL) (t : Nat) : ∀ ks : List Nat, lk (mapK ks L) t = if t ∈ ks then lk L t else .bad
  | [] => rfl
  | k :: ks => by
    show lk ((k, lk L k) :: mapK ks L) t = _
    rw [lk_cons, mapK_lk L t ks]
    by_cases e : k = t
    · subst e; simp
    · rw [if_neg e]
      simp only [List.mem_cons, Ne.symm e, false_or]
theorem mapK_less (L : SL) (ks : List Nat) : Less (mapK ks L) L := fun t => by
  rw [mapK_lk]
  by_cases h : t ∈ ks
  · rw [if_pos h]; exact .inl rfl
  · rw [if_neg h]; exact .inr rfl
theorem mapK_within {ex : Nat} {L : SL} {ks : List Nat} (hw : Within ex L) : Within ex (mapK ks L) := fun t ht => by
  rw [mapK_lk, hw t ht]; simp
theorem put_iter {B g st w r m s sn c m' s' sn' c'} (hc : Cur B g st w) (hl : w.heap[r]? = some (.mapIter m s sn c)) (hu : Unowned g st.h r) (hO : B.w.heap.size ≤ r) :
    Cur B g st (putB w r (.mapIter m' s' sn' c')) ∧ Ext g w g (putB w r (.mapIter m' s' sn' c')) := by
  have hne : ∀ {k : Nat} {o : Obj}, w.heap[k]? = some o → (∀ a b c d, o ≠ .mapIter a b c d) → k ≠ r := fun hk ho e => by
    subst e
    rw [hl] at hk; cases hk
    exact ho _ _ _ _ rfl
  have hcell : ∀ k j, (putB w r (.mapIter m' s' sn' c')).cell? ⟨k, j, none⟩ = w.cell? ⟨k, j, none⟩ := fun k j => by
    by_cases e : k = r
    · subst e
      simp [World.cell?, putB_same _ (lt_of_heap hl), hl]
    · exact cell_heap (putB_other w _ e)
  have hext : Ext g w g (putB w r (.mapIter m' s' sn' c')) := by
    refine ⟨rfl, fun _ _ h => h, fun _ _ h => h, fun k j _ => hcell k j, fun k cs e fr h => ?_, fun k q h => ?_⟩
    · exact ⟨cs, fr, (putB_other w _ (hne h (fun _ _ _ _ e => by cases e))).trans h, rfl⟩
    · exact ⟨q, (putB_other w _ (hne h (fun _ _ _ _ e => by cases e))).trans h⟩
  refine ⟨⟨⟨by rw [putB_size]; exact hc.ok.size, fun o x hx => ?_, hc.ok.sep, fun k j hk => by rw [putB_size]; exact hc.ok.K k j hk⟩, hc.fresh, ?_, hc.pin⟩, hext⟩
  · refine (hc.ok.obj' o x hx).imp id ?_
    rintro ⟨k, base, h1, h2, h3⟩
    exact ⟨k, base, h1, h2, h3.ext hext (putB_other w _ (fun e => hu o base (by rw [hx]; rfl) (by rw [← e]; exact h1))) (fun _ h => h)⟩
  · have b := hc.base
    refine ⟨b.b0, b.pins, b.K, fun k j hk => (hcell k j).trans (b.cell k j hk), by rw [putB_size]; exact b.size, b.os, b.tape, b.output, fun k hk hkO => ?_, b.own, b.Kold, fun k cs e fr h => ?_, fun k q h => ?_⟩
    · exact (putB_other w _ (fun e => by omega)).trans (b.frame k hk hkO)
    · obtain ⟨cs1, fr1, h1, h2⟩ := b.blk k cs e fr h
      exact ⟨cs1, fr1, (putB_other w _ (hne h1 (fun _ _ _ _ e => by cases e))).trans h1, h2⟩
    · obtain ⟨q1, h1⟩ := b.lp k q h
      exact hext.lp k q1 h1
theorem Marks.put_iter {n0 h g w ds r m s sn c o'} (hm : Marks n0 h g w ds) (hl : w.heap[r]? = some (.mapIter m s sn c)) : Marks n0 h g (putB w r o') ds := by
  obtain ⟨bs, h1, h2, h3⟩ := hm
  refine ⟨bs, h1, h2, fun b hb => ⟨(h3 b hb).1, (putB_other w _ (fun e => ?_)).trans (h3 b hb).2.1, (h3 b hb).2.2⟩⟩
  have := (h3 b hb).2.1
  rw [e, hl] at this; cases this
theorem Cur.covers {B g st st' w} (hc : Cur B g st' w) (hs : ∀ o x, st.h.get o = some x → ∃ y, st'.h.get o = some y ∧ Same x y) (hn : st.nx = st'.nx) : Cur B g st w := by
  have b := hc.base
  exact ⟨hc.ok.covers hs, by rw [hn]; exact hc.fresh, ⟨b.b0, b.pins, b.K, b.cell, b.size, b.os, b.tape, b.output, b.frame, fun o c base ho hi => b.own o c base (isSome_covers hs ho) hi, b.Kold, b.blk, b.lp⟩, by rw [hn]; exact hc.pin⟩
theorem Unowned.covers {g h h' b} (hu : Unowned g h' b) (hs : ∀ o x, h.get o = some x → ∃ y, h'.get o = some y ∧ Same x y) : Unowned g h b := fun o base ho => hu o base (isSome_covers hs ho)
theorem Marks.covers {n0 g h h' w ds} (hm : Marks n0 h' g w ds) (hs : ∀ o x, h.get o = some x → ∃ y, h'.get o = some y ∧ Same x y) : Marks n0 h g w ds := by
  obtain ⟨bs, h1, h2, h3⟩ := hm
  exact ⟨bs, h1, h2, fun b hb => ⟨(h3 b hb).1, (h3 b hb).2.1, (h3 b hb).2.2.covers hs⟩⟩
theorem sub_same {h h' : Tr AObj} (hs : ∀ o x, h.get o = some x → h'.get o = some x) : ∀ o x, h.get o = some x → ∃ y, h'.get o = some y ∧ Same x y := fun o x hx => ⟨x, hs o x hx, .rfl _⟩
theorem Base.step' {g h w p far g' h' w' hi} (c : Base (baseAt g h w p (fun _ => False) far) g' h' w') (hfree : ∀ o, p ≤ o → ¬ far o → g.inj o = none) (hfree' : ∀ o, hi ≤ o → ¬ far o → g'.inj o = none) : Step g h w p hi g' h' w' := by
  refine ⟨c.ext_at hfree, c.size, c.os, c.tape, c.output, fun b hb hn => c.frame b hb (fun hO => ?_), fun o ho hr => ?_, fun o b base ho hj => ?_, fun b j hk => ?_⟩
  · rcases hO with hO | ⟨o, base, h1, h2⟩
    · exact hO
    · exact hn o base h1 h2
  · by_cases hp : o < p ∨ far o
    · exact (c.pins o hp).trans ho
    · exact hfree' o (by omega) (fun h => hp (.inr h))
  · rcases c.own o b base ho hj with h1 | h1 | h1
    · exact .inl h1
    · exact h1.elim
    · exact .inr h1
  · rcases c.Kold b j hk with h1 | h1 | h1 | h1
    · exact .inl h1
    · exact .inr (.inl h1)
    · exact h1.elim
    · exact .inr (.inr h1)
theorem objRel_kind {g w b base x ds} (h : ObjRel g w b base x) : w.heap[b]? ≠ some (.deferred ds) := by
  intro e
  cases x with
  | row cells k st et => obtain ⟨cs, fr, h1, _⟩ := h; rw [e] at h1; cases h1
  | map es => obtain ⟨_, ms, c, h1, _⟩ := h; rw [e] at h1; cases h1
  | loop => obtain ⟨_, l, h1, _⟩ := h; rw [e] at h1; cases h1
end
end Go.Vm
namespace Go.Vm
noncomputable section
theorem born_idx' {L : List MapEntry} (hb : (L.map (·.born)).Nodup) {i j : Nat} {m m' : MapEntry} (hi : L[i]? = some m) (hj : L[j]? = some m') (he : m.born = m'.born) : i = j := by
  have key : ∀ (i j : Nat) (m m' : MapEntry), i < j → L[i]? = some m → L[j]? = some m' → m.born = m'.born → False := by
    intro i j m m' hij hi hj he
    obtain ⟨h1, e1⟩ := List.getElem?_eq_some_iff.1 hi
    obtain ⟨h2, e2⟩ := List.getElem?_eq_some_iff.1 hj
    have := List.pairwise_iff_getElem.1 hb i j (by simpa using h1) (by simpa using h2) hij
    simp only [List.getElem_map, e1, e2] at this
    exact this he
  rcases Nat.lt_trichotomy i j with q | q | q
  · exact (key i j m m' q hi hj he).elim
  · exact q
  · exact (key j i m' m q hj hi he.symm).elim
def HeadJ (B0 : BaseP) (n0 nt it oi r bm : Nat) (ms : Array MapEntry) (clock : Nat) (es : List (Value × AV)) (l : List MapEntry) (s : DP) (a : Act) (w : World) : Prop :=
  ∃ (g : Gh) (seen : Array Nat) (c0 : Nat), Cur B0 g s.st w ∧ RelSL g w nt s.L a.tmps ∧ Marks n0 s.st.h g w a.defers ∧ g.inj oi = some (r, 0) ∧ w.heap[bm]? = some (.map ms clock) ∧ w.heap[r]? = some (.mapIter (some bm) clock seen c0) ∧
    clock ≤ c0 ∧ Unowned g s.st.h r ∧ Unowned g s.st.h bm ∧ (∀ i, i ∈ s.left ↔ ∃ m, l[i]? = some m ∧ seen.contains m.born = false) ∧ s.left.Nodup ∧
    (∀ (i : Nat) e m, es[i]? = some e → l[i]? = some m → m.key = e.1 ∧ Rel g w e.2 m.val) ∧ Low s.st ∧ oi < s.st.nx
def DoneJ (B0 : BaseP) (n0 nt : Nat) (L : SL) (st : St) (a : Act) (w : World) : Prop :=
  ∃ g, Cur B0 g st w ∧ RelSL g w nt L a.tmps ∧ Marks n0 st.h g w a.defers
theorem HeadJ.covers {B0 n0 nt it oi r bm ms clock es l s a w} {t : DP} (h : HeadJ B0 n0 nt it oi r bm ms clock es l s a w) (hc : Covers t s.L s.st) (hl : t.left = s.left) : HeadJ B0 n0 nt it oi r bm ms clock es l t a w := by
  obtain ⟨g, seen, c0, h1, h2, h3, h4, h5, h6, h7, h8, h9, h10, h11, h12, h13, h14⟩ := h
  refine ⟨g, seen, c0, h1.covers hc.obj hc.nx, ⟨h2.1, fun k => by rw [hc.L]; exact h2.2 k⟩, h3.covers hc.obj, h4, h5, h6, h7, h8.covers hc.obj, h9.covers hc.obj, fun i => by rw [hl]; exact h10 i, by rw [hl]; exact h11, h12, fun o x hx => ?_, by rw [hc.nx]; exact h14⟩
  obtain ⟨y, hy, _⟩ := hc.obj o x hx
  rw [hc.nx]; exact h13 o y hy
theorem range_two {ops : Array Oper} {o1 o2 : Oper} (h : ops.toList = [o1, o2]) : List.range ops.size = [0, 1] ∧ ops[0]? = some o1 ∧ ops[1]? = some o2 := by
  have hs : ops.size = 2 := by have := congrArg List.length h; simpa using this
  refine ⟨by rw [hs]; rfl, ?_, ?_⟩
  · rw [← Array.getElem?_toList, h]; rfl
  · rw [← Array.getElem?_toList, h]; rfl
theorem range_cons {ops : Array Oper} {o : Oper} {rest : List Oper} (h : ops.toList = o :: rest) : ∃ is, List.range ops.size = 0 :: is ∧ is.map (fun i => ops[i]?) = rest.map some ∧ ops[0]? = some o := by
  have hr := range_ops ops
  have hs : ops.size = rest.length + 1 := by have := congrArg List.length h; simpa using this
  rw [h] at hr
  rw [hs, List.range_succ_eq_map] at hr ⊢
  simp only [List.map_cons, List.cons.injEq] at hr
  exact ⟨_, rfl, hr.2, hr.1⟩
theorem range_snoc {ops : Array Oper} {o : Oper} {ahead : List Oper} (h : ops.toList = ahead ++ [o]) : ∃ is k, List.range ops.size = is ++ [k] ∧ is.map (fun i => ops[i]?) = ahead.map some ∧ ops[k]? = some o := by
  have hr := range_ops ops
  have hs : ops.size = ahead.length + 1 := by have := congrArg List.length h; simpa using this
  rw [h, hs, List.range_succ, List.map_append, List.map_append] at hr
  have := List.append_inj hr (by simp)
  rw [hs, List.range_succ]
  refine ⟨_, _, rfl, this.1, ?_⟩
  have h2 := this.2
  simpa using h2
theorem round_wp {P : Program} {look : Look} (hT : TabOkF P (tabX look)) (hl : LookFr look) (hm : P.follows .mixedOrders = true) {ex n : Nat} {a0 b0 : Code} {m : ML} (hok : m.Ok a0 b0) {ro : Option Nat} {N : Nat} {B0 : BaseP} {n0 nt oi r bm : Nat} {ms : Array MapEntry} {clock : Nat} {es : List (Value × AV)} {l : List MapEntry} {ks : List Nat}
    (hr0 : B0.w.heap.size ≤ r) (hn0 : n0 ≤ B0.w.heap.size) (hpl : ro = none ∨ m.body.plainR = true) (hs : slotsIn nt m.round = true) (hold : ∀ x ∈ ms.toList, x.born < clock) (hnd : (ms.toList.map (·.born)).Nodup) (hperm : l.Perm ms.toList) (hlen : l.length = es.length) {s : DP} {a : Act} {w : World} (hJ : HeadJ B0 n0 nt m.it oi r bm ms clock es l s a w) (hw : Within ex s.L) {top : Nat}
    (hnear : B0.Near s.st.nx top) {Y : Act → World → Prop} {Q : Exit → Act → World → Prop}
    (hmore : ∀ i ∈ s.left, ∀ e, es[i]? = some e → ∃ p, mRound P ex look n m oi ks e s.L s.st = some p ∧ p.2.nx ≤ top ∧ ∀ a' w', HeadJ B0 n0 nt m.it oi r bm ms clock es l ⟨s.left.erase i, p.1, p.2⟩ a' w' → Y a' w')
    (hdone : s.left = [] → ∀ a' w', DoneJ B0 n0 nt (addX ex m.c (.sc (.bool false)) (addX ex m.n .bad s.L)) s.st a' w' → Q (.exit m.id) a' w')
    (hdit : s.left = [] → lk s.L m.it = .ptr oi 0) :
    m.round.wpIn (fence ro) N P (Exit.then Y Q) a w := by
  obtain ⟨g, seen, c0, h1, h2, h3, h4, h5, h6, h7, h8, h9, h10, h11, h12, h13, h14⟩ := hJ
  have hsome : ∀ i ∈ s.left, ∃ e, es[i]? = some e := fun i hi => by
    obtain ⟨q, q1, _⟩ := (h10 i).1 hi
    have hil : i < es.length := by rw [← hlen]; exact (List.getElem?_eq_some_iff.1 q1).1
    exact ⟨_, List.getElem?_eq_getElem hil⟩
  have hits : ∀ i ∈ s.left, ∀ e p, mRound P ex look n m oi ks e s.L s.st = some p → lk s.L m.it = .ptr oi 0 ∧ lk (headX ex m s.L) m.it = .ptr oi 0 := fun i hi e p hp => by
    unfold mRound at hp
    cases hb : (isPtr oi (lk s.L m.it) && isPtr oi (lk (headX ex m s.L) m.it)) with
    | false => rw [hb] at hp; cases hp
    | true =>
      rw [Bool.and_eq_true] at hb
      exact ⟨isPtr_eq hb.1, isPtr_eq hb.2⟩
  have hit : lk s.L m.it = .ptr oi 0 := by
    cases hle : s.left with
    | nil => exact hdit hle
    | cons i t =>
      have hi : i ∈ s.left := by rw [hle]; simp
      obtain ⟨e, he⟩ := hsome i hi
      obtain ⟨p, hp, _⟩ := hmore i hi e he
      exact (hits i hi e p hp).1
  have hitv := h2.2 m.it
  rw [hit] at hitv
  have hitp : a.tmps.getD m.it undef = .pointer (some ⟨r, 0, none⟩) := by
    generalize a.tmps.getD m.it undef = v at hitv
    cases hitv with
    | ptr _ _ b base hi => rw [h4] at hi; cases hi; rfl
  have hev : a.eval (.tmp m.it) = .pointer (some ⟨r, 0, none⟩) := hitp
  unfold ML.round at hs ⊢
  simp only [slotsIn, Bool.and_eq_true] at hs
  obtain ⟨⟨hs1', hs1⟩, ⟨_, ⟨hs3', hs3⟩, hs4⟩⟩ := hs
  obtain ⟨e1, e2, e3⟩ := range_two hok.nx
  have hmem1 : m.o1 ∈ m.nx := Array.mem_of_getElem? e2
  have hmem2 : m.o2 ∈ m.nx := Array.mem_of_getElem? e3
  have hd1 : ∀ d, m.o1.dst = some d → d < nt := dst_in hs1' hmem1
  have hd2 : ∀ d, m.o2.dst = some d → d < nt := dst_in hs1' hmem2
  have hsize : a.tmps.size = nt := h2.1
  have hn_lt : m.n < nt := hd1 _ hok.o1.2.1
  have hc_lt : m.c < nt := hd2 _ hok.o2.2.1
  refine wpIn_seq (wpIn_region ?_)
  rw [e1]
  have hstep : ∀ (u : Value) (bb : Bool) (w' : World), (Instr.next (.pointer (some ⟨r, 0, none⟩)) false m.o1.type).run P w = .ok u w' → Instr.extract u 0 = pure (.bool bb) →
      ((Code.seq (.cond (.tmp m.c) .skip (.exit m.id)) (.block m.id1 (.seq (.region m.r6 m.en false) m.body))).wpIn (fence ro) N P (Exit.then Y Q) ((a.put (some m.n) u).put (some m.c) (.bool bb)) w') →
      wpOpsIn (fence ro) N P m.nx (Exit.then ((Code.seq (.cond (.tmp m.c) .skip (.exit m.id)) (.block m.id1 (.seq (.region m.r6 m.en false) m.body))).wpIn (fence ro) N P (Exit.then Y Q)) (Exit.then Y Q)) [0, 1] a w := by
    intro u bb w' hrun hext hk
    refine wpOps_val (v := u) (w' := w') e2 hok.o1.2.2 (fun c e => by rw [hok.o1.1] at e; cases e) ?_ ?_
    · simp only [execOp, hok.o1.1, hev]
      simp [hrun]
    · rw [hok.o1.2.1]
      have hu : (a.put (some m.n) u).eval (.tmp m.n) = u := by
        show (a.put (some m.n) u).tmps.getD m.n undef = u
        rw [getD_put (fun d hd => by cases hd; rw [hsize]; exact hn_lt), if_pos rfl]
      refine wpOps_val (v := .bool bb) (w' := w') e3 hok.o2.2.2 (fun c e => by rw [hok.o2.1] at e; cases e) ?_ ?_
      · simp only [execOp, hok.o2.1, hu, hext]
        simp
      · rw [hok.o2.2.1]
        exact hk
  have hcev : ∀ (u : Value) (bb : Bool), ((a.put (some m.n) u).put (some m.c) (.bool bb)).eval (.tmp m.c) = .bool bb := fun u bb => by
    show ((a.put (some m.n) u).put (some m.c) (.bool bb)).tmps.getD m.c undef = _
    rw [getD_put (fun d hd => by cases hd; rw [put_size, hsize]; exact hc_lt), if_pos rfl]
  have hrel : ∀ (g' : Gh) (w' : World) (u : Value) (bb : Bool), RelSL g' w' nt s.L a.tmps → RelSL g' w' nt (addX ex m.c (.sc (.bool bb)) (addX ex m.n .bad s.L)) ((a.put (some m.n) u).put (some m.c) (.bool bb)).tmps := fun g' w' u bb hr => by
    have q1 := hr.put (dst := some m.n) (v := .bad) (u := u) (.bad _) (fun d hd => by cases hd; exact hn_lt)
    have q2 := q1.less (addX_less hw)
    have q3 := q2.put (dst := some m.c) (v := .sc (.bool bb)) (u := .bool bb) (.sc _) (fun d hd => by cases hd; exact hc_lt)
    exact q3.less (addX_less (addX_within hw))
  have hwH : ∀ bb, Within ex (addX ex m.c (.sc (.bool bb)) (addX ex m.n .bad s.L)) := fun bb => addX_within (addX_within hw)
  rcases run_next_at (P := P) w m.o1.type r bm clock c0 seen ms clock h6 h5 hold h7 with ⟨hz, hrun⟩ | ⟨me, hme, w1, hw1, hrun⟩
  · refine hstep _ false w hrun rfl ?_
    refine wpIn_seq (wpIn_cond_false (hcev _ _) (wpIn_exit ?_))
    show Q (.exit m.id) _ _
    refine hdone ?_ _ _ ⟨g, h1, hrel g w _ false h2, by rw [put_defers, put_defers]; exact h3⟩
    cases hle : s.left with
    | nil => rfl
    | cons i t =>
      obtain ⟨q, q1, q2⟩ := (h10 i).1 (by rw [hle]; simp)
      have hmm : q ∈ (leftOf ms seen).toList := by
        have := hperm.mem_iff.1 (List.mem_of_getElem? q1)
        simp only [leftOf, Array.toList_filter, List.mem_filter]
        exact ⟨this, by rw [q2]; rfl⟩
      have : (leftOf ms seen).toList = [] := List.eq_nil_of_length_eq_zero (by simpa using hz)
      rw [this] at hmm; cases hmm
  · 
    have hmm : me ∈ ms.toList ∧ seen.contains me.born = false := by
      simp only [leftOf, Array.toList_filter, List.mem_filter] at hme
      exact ⟨hme.1, by simpa using hme.2⟩
    obtain ⟨i, hi⟩ := List.mem_iff_getElem?.1 (hperm.mem_iff.2 hmm.1)
    have hil : i < es.length := by rw [← hlen]; exact (List.getElem?_eq_some_iff.1 hi).1
    have hei := List.getElem?_eq_getElem hil
    have hileft : i ∈ s.left := (h10 i).2 ⟨me, hi, hmm.2⟩
    obtain ⟨p, hp, hptop, hY⟩ := hmore i hileft _ hei
    refine hstep _ true _ hrun rfl ?_
    refine wpIn_seq (wpIn_cond_true (hcev _ _) (wpIn_skip ?_))
    show (Code.block _ _).wpIn _ _ _ _ _ _
    refine wpIn_block (wpIn_seq (wpIn_region ?_))
    have hcur1 : Cur B0 g s.st w1 := by
      rcases hw1 with rfl | rfl
      · exact h1
      · exact h1.drawn
    have hheap1 : w1.heap = w.heap := by rcases hw1 with rfl | rfl <;> rfl
    have hr1 : w1.heap[r]? = some (.mapIter (some bm) clock seen c0) := by rw [hheap1]; exact h6
    have hm1 : Marks n0 s.st.h g w1 a.defers := by rcases hw1 with rfl | rfl <;> exact h3
    have hrs1 : RelSL g w1 nt s.L a.tmps := by
      rcases hw1 with rfl | rfl
      · exact h2
      · exact h2.ext (Ext.same (w := w) (w' := { w with drawn := w.drawn + 1 }) rfl)
    have hext1 : ∀ e v, Rel g w e v → Rel g w1 e v := fun e v hrel => by
      rcases hw1 with rfl | rfl
      · exact hrel
      · exact hrel.ext (Ext.same (w := w) (w' := { w with drawn := w.drawn + 1 }) rfl)
    obtain ⟨W, hW⟩ : ∃ W, ChangeMaps.setBlock w1 r (.mapIter (some bm) clock (seen.push me.born) clock) = W := ⟨_, rfl⟩
    rw [hW]
    obtain ⟨hcW, hxW⟩ := put_iter (m' := some bm) (s' := clock) (sn' := seen.push me.born) (c' := clock) hcur1 hr1 h8 hr0
    have hmW := Marks.put_iter (o' := .mapIter (some bm) clock (seen.push me.born) clock) hm1 hr1
    have hWp : putB w1 r (.mapIter (some bm) clock (seen.push me.born) clock) = W := hW
    rw [hWp] at hcW hxW hmW
    have hrW : W.heap[r]? = some (.mapIter (some bm) clock (seen.push me.born) clock) := by rw [← hWp]; exact putB_same _ (lt_of_heap hr1)
    have hbmr : bm ≠ r := fun e => by rw [e] at h5; rw [h6] at h5; cases h5
    have hbW : W.heap[bm]? = some (.map ms clock) := by rw [← hWp, putB_other _ _ hbmr, hheap1]; exact h5
    have hrsW := hrs1.ext hxW
    have hBi := hcW.at' s.st.nx (fun _ => False) (Nat.le_refl _) (far := B0.far) (fun _ h => h)
    obtain ⟨Bi, hBie⟩ : ∃ Bi : BaseP, { baseAt g s.st.h W s.st.nx (fun _ => False) B0.far with n0 := n0 } = Bi := ⟨_, rfl⟩
    have hcBi : Cur Bi g s.st W := by
      rw [← hBie]
      exact ⟨hBi.ok, hBi.fresh, ⟨hBi.base.b0, hBi.base.pins, hBi.base.K, hBi.base.cell, hBi.base.size, hBi.base.os, hBi.base.tape, hBi.base.output, hBi.base.frame, hBi.base.own, hBi.base.Kold, hBi.base.blk, hBi.base.lp⟩, hBi.pin⟩
    have hBin0 : Bi.n0 = n0 := by rw [← hBie]
    have hBiw : Bi.w = W := by rw [← hBie]; rfl
    have hBifar : Bi.far = B0.far := by rw [← hBie]; rfl
    have hith := (hits i hileft _ p hp).2
    unfold mRound at hp
    cases hbp : (isPtr oi (lk s.L m.it) && isPtr oi (lk (headX ex m s.L) m.it)) with
    | false => rw [hbp] at hp; cases hp
    | true =>
    rw [hbp, cond_true] at hp
    cases hpo : (prepOs P m.en m.rest).run look ((m.e, .tup [.sc es[i].1, es[i].2]) :: headX ex m s.L) s.st with
    | none => rw [hpo] at hp; cases hp
    | some po =>
    rw [hpo] at hp
    dsimp only at hp
    cases hq : (prepC P ex m.body).run look n (keepL (keysOf ex m.en) po.1 (headX ex m s.L)) po.2 with
    | none => rw [hq] at hp; cases hp
    | some q =>
    rw [hq] at hp
    dsimp only at hp
    cases hlv : leaves m.id1 q.1 with
    | false => rw [hlv] at hp; cases hp
    | true =>
    rw [hlv] at hp
    cases hp
    have hbody := prepC_ok hT hl hm ex n m.body
    have hlo1 : Low po.2 := (prepOs_framed (P := P) hl m.en m.rest _).low h13 hpo
    have hle1 : s.st.nx ≤ po.2.nx := (prepOs_framed (P := P) hl m.en m.rest _ s.st po.1 po.2 h13 hpo).1
    have hle2 : po.2.nx ≤ q.2.2.nx := hbody.le hq hlo1
    have hnearBi : Bi.Near s.st.nx q.2.2.nx := by
      intro o o1 o2 o3
      rw [hBifar] at o3
      exact hnear o o1 (Nat.lt_of_lt_of_le o2 hptop) o3
    obtain ⟨is, f1, f2, f3⟩ := range_cons hok.en
    rw [f1]
    have hmem3 : m.o3 ∈ m.en := Array.mem_of_getElem? f3
    have hd3 : ∀ d, m.o3.dst = some d → d < nt := dst_in hs3' hmem3
    have he_lt : m.e < nt := hd3 _ hok.o3.2.1
    obtain ⟨a2, ha2⟩ : ∃ a2, (a.put (some m.n) (.tuple #[.bool true, me.key, me.val])).put (some m.c) (.bool true) = a2 := ⟨_, rfl⟩
    rw [ha2]
    have hr2 : RelSL g W nt (headX ex m s.L) a2.tmps := by rw [← ha2]; exact hrel g W _ true hrsW
    have hd2' : a2.defers = a.defers := by rw [← ha2, put_defers, put_defers]
    have hitne : a2.eval (.tmp m.it) = .pointer (some ⟨r, 0, none⟩) := by
      have q1 := hr2.2 m.it
      rw [hith] at q1
      show a2.tmps.getD m.it undef = _
      generalize a2.tmps.getD m.it undef = v at q1
      cases q1 with
      | ptr _ _ b base hib => rw [h4] at hib; cases hib; rfl
    have hent := run_entry_at (P := P) W r bm clock seen ms clock me hrW hbW hmm.1 hnd
    refine wpOps_val (v := .tuple #[me.key, me.val]) (w' := W) f3 hok.o3.2.2 (fun c e => by rw [hok.o3.1] at e; cases e) ?_ ?_
    · simp only [execOp, hok.o3.1, hitne]
      simp [hent]
    rw [hok.o3.2.1]
    have hkv := h12 i _ me hei hi
    have hrel3 : RelSL g W nt ((m.e, .tup [.sc es[i].1, es[i].2]) :: headX ex m s.L) (a2.put (some m.e) (.tuple #[me.key, me.val])).tmps := by
      refine hr2.put (dst := some m.e) (v := .tup [.sc es[i].1, es[i].2]) ?_ (fun d hd => by cases hd; exact he_lt)
      refine .tup _ _ rfl (fun j x y hx hy => ?_)
      match j with
      | 0 => simp at hx hy; subst hx hy; rw [hkv.1]; exact .sc _
      | 1 => simp at hx hy; subst hx hy; exact (hext1 _ _ hkv.2).ext hxW
      | j + 2 => simp at hx
    have hiter := prepOs_wpR (N := N) (ro := ro) (B := Bi) (nt := nt) (Q := Exit.then (m.body.wpIn (fence ro) N P (Exit.inBlock m.id1 (Exit.then Y Q))) (Exit.inBlock m.id1 (Exit.then Y Q))) hT hl hs3 hs3' (p := po) [] (fun g' w' a' hc' hr' hd' => ?_) m.rest is (fun o ho => by rw [← Array.mem_toList_iff, hok.en]; simp [ho]) f2 _ s.st g W (a2.put (some m.e) (.tuple #[me.key, me.val])) hpo h13 (hnearBi.sub (Nat.le_refl _) hle2) hcBi hrel3 (by rw [put_defers, hd2', hBin0]; exact hmW)
    · rw [List.append_nil] at hiter
      exact hiter
    · 
      show m.body.wpIn (fence ro) N P (Exit.inBlock m.id1 (Exit.then Y Q)) a' w'
      have hless := region_less (ops := m.en) (L := po.1) (hwH true) (fun t ht => by
        have h1 := prepOs_lk (t := t) _ _ _ _ hpo (fun o ho => ht o (by rw [hok.en]; simp [ho]))
        rw [h1, lk_cons, if_neg (fun e => by subst e; exact ht m.o3 (by rw [hok.en]; simp) hok.o3.2.1)]
        rfl)
      have hwB := hbody.wp ro N Bi nt (by rw [hBin0, hBiw, ← hWp, putB_size, hheap1]; exact Nat.le_trans hn0 h1.base.size) hpl hs4 _ _ _ g' w' a' hq hless.2 hlo1 (hnearBi.sub hle1 (Nat.le_refl _)) hc' (hr'.less hless.1) hd'
      refine wpIn_mono hwB ?_
      rintro exx a3 w3 ⟨e4, L4, st4, g4, rfl, he4, hc4, hr4, hd4⟩
      subst he4
      have hY' : Y a3 w3 := by
        refine hY a3 w3 ?_
        have hb4 : Base (baseAt g s.st.h W s.st.nx (fun _ => False) B0.far) g4 st4.h w3 := by
          have hb := hc4.base
          rw [← hBie] at hb
          exact ⟨hb.b0, hb.pins, hb.K, hb.cell, hb.size, hb.os, hb.tape, hb.output, hb.frame, hb.own, hb.Kold, hb.blk, hb.lp⟩
        have hfr4 : ∀ o, s.st.nx ≤ o → ¬ B0.far o → g.inj o = none := hcW.fresh
        have hur := hb4.unowned (lt_of_heap hrW) h8 (fun h => h)
        have hub := hb4.unowned (lt_of_heap hbW) h9 (fun h => h)
        have hext4 := hb4.ext_at hfr4
        refine ⟨g4, seen.push me.born, clock, ⟨hc4.ok, fun o o1 o2 => hc4.fresh o o1 (by rw [hBifar]; exact o2), hcW.base.comp hb4 hcW.pin (fun _ h => h) (fun _ h => h.elim), Nat.le_trans hcW.pin (Nat.le_trans hle1 hle2)⟩, hr4.less (mapK_less _ _), by rw [← hBin0]; exact hd4, hext4.inj oi _ h4, hub.2.trans hbW, hur.2.trans hrW, Nat.le_refl _, hur.1, hub.1, fun j => ?_, h11.erase i, fun j e me' hj hj' => ⟨(h12 j e me' hj hj').1, (((hext1 _ _ (h12 j e me' hj hj').2).ext hxW).ext hext4)⟩, hbody.low hq hlo1, Nat.lt_of_lt_of_le h14 (Nat.le_trans hle1 hle2)⟩
        show j ∈ s.left.erase i ↔ _
        rw [h11.mem_erase_iff, h10 j]
        constructor
        · rintro ⟨hji, q, q1, q2⟩
          refine ⟨q, q1, ?_⟩
          have hne : q.born ≠ me.born := fun eb => by
            have hbl : (l.map (·.born)).Nodup := (hperm.map _).nodup_iff.2 hnd
            exact hji (born_idx' hbl q1 hi eb)
          simp only [Array.contains_push, Bool.or_eq_false_iff, q2, true_and]
          simpa using hne
        · rintro ⟨q, q1, q2⟩
          simp only [Array.contains_push, Bool.or_eq_false_iff] at q2
          refine ⟨fun e => ?_, q, q1, q2.1⟩
          subst e
          rw [hi] at q1; cases q1
          simp at q2
      cases e4 with
      | normal => exact hY'
      | ret => cases hlv
      | exit j =>
        have hj : j = m.id1 := Nat.eq_of_beq_eq_true hlv
        subst hj
        show Exit.inBlock m.id1 (Exit.then Y Q) (.exit m.id1) a3 w3
        unfold Exit.inBlock
        simp only [if_true]
        exact hY'
end
end Go.Vm
namespace Go.Vm
noncomputable section
theorem objRel_iter {g w b base x m s sn c} (h : ObjRel g w b base x) : w.heap[b]? ≠ some (.mapIter m s sn c) := by
  intro e
  cases x with
  | row cells k st et => obtain ⟨cs, fr, h1, _⟩ := h; rw [e] at h1; cases h1
  | map es => obtain ⟨_, ms, c, h1, _⟩ := h; rw [e] at h1; cases h1
  | loop => obtain ⟨_, l, h1, _⟩ := h; rw [e] at h1; cases h1
theorem Marks.of_ok {n0 h h' g w ds} (hm : Marks n0 h' g w ds) (hok : Ok g h w) : Marks n0 h g w ds := by
  obtain ⟨bs, h1, h2, h3⟩ := hm
  refine ⟨bs, h1, h2, fun b hb => ⟨(h3 b hb).1, (h3 b hb).2.1, fun o base ho hi => ?_⟩⟩
  obtain ⟨x, hx⟩ := Option.isSome_iff_exists.1 ho
  obtain ⟨b', base', q1, _, q3⟩ := hok.obj o x hx
  rw [hi] at q1; cases q1
  exact objRel_kind q3 (h3 b hb).2.1
theorem mRound_within {P : Program} {look : Look} (hT : TabOkF P (tabX look)) (hl : LookFr look) (hm : P.follows .mixedOrders = true) {ex n : Nat} {a0 b0 : Code} {m : ML} (hok : m.Ok a0 b0) {oi : Nat} {ks : List Nat} {e : Value × AV} {L : SL} {st : St} {p : SL × St} (h : mRound P ex look n m oi ks e L st = some p) (hw : Within ex L) : Within ex p.1 := by
  unfold mRound at h
  cases hb : (isPtr oi (lk L m.it) && isPtr oi (lk (headX ex m L) m.it)) with
  | false => rw [hb] at h; cases h
  | true =>
  rw [hb, cond_true] at h
  cases hpo : (prepOs P m.en m.rest).run look ((m.e, .tup [.sc e.1, e.2]) :: headX ex m L) st with
  | none => rw [hpo] at h; cases h
  | some po =>
  rw [hpo] at h
  dsimp only at h
  cases hq : (prepC P ex m.body).run look n (keepL (keysOf ex m.en) po.1 (headX ex m L)) po.2 with
  | none => rw [hq] at h; cases h
  | some q =>
  rw [hq] at h
  dsimp only at h
  cases hlv : leaves m.id1 q.1 with
  | false => rw [hlv] at h; cases h
  | true =>
  rw [hlv] at h
  cases h
  have hless := region_less (ops := m.en) (L := po.1) (L0 := headX ex m L) (addX_within (addX_within hw)) (fun t ht => by
    have h1 := prepOs_lk (t := t) _ _ _ _ hpo (fun o ho => ht o (by rw [hok.en]; simp [ho]))
    rw [h1, lk_cons, if_neg (fun e => by subst e; exact ht m.o3 (by rw [hok.en]; simp) hok.o3.2.1)])
  exact mapK_within ((prepC_ok hT hl hm ex n m.body).within _ _ _ hq hless.2)
theorem levs_wp {P : Program} {look : Look} (hT : TabOkF P (tabX look)) (hl : LookFr look) (hm : P.follows .mixedOrders = true) {ex n : Nat} {a0 b0 : Code} {m : ML} (hok : m.Ok a0 b0) {ro : Option Nat} {N : Nat} {B0 : BaseP} {n0 nt oi r bm : Nat} {ms : Array MapEntry} {clock : Nat} {es : List (Value × AV)} {l : List MapEntry} {ks : List Nat}
    (hr0 : B0.w.heap.size ≤ r) (hn0 : n0 ≤ B0.w.heap.size) (hpl : ro = none ∨ m.body.plainR = true) (hs : slotsIn nt m.round = true) (hold : ∀ x ∈ ms.toList, x.born < clock) (hnd : (ms.toList.map (·.born)).Nodup) (hperm : l.Perm ms.toList) (hlen : l.length = es.length)
    {f : DP} (hnear : B0.Near B0.pin f.st.nx) {F : List Nat} {nn : Nat} (hF : ∀ o ∈ F, o ≤ limit) {X : Act → World → Prop} {Q : Exit → Act → World → Prop} (hX : ∀ a w, m.round.wpIn (fence ro) N P (Exit.then X Q) a w → X a w)
    (hdone : ∀ a' w', DoneJ B0 n0 nt (addX ex m.c (.sc (.bool false)) (addX ex m.n .bad f.L)) f.st a' w' → Q (.exit m.id) a' w') (hfit : lk f.L m.it = .ptr oi 0) :
    ∀ (k : Nat) (ss : List DP), mLevs (fun i L st' => match es[i]? with
            | some e => mRound P ex look n m oi ks e L st'
            | none => none) F nn k ss = some [f] → ∀ s ∈ ss, s.left.length = k → s.st.nx ≤ f.st.nx ∧ (Within ex s.L → ∀ a w, HeadJ B0 n0 nt m.it oi r bm ms clock es l s a w → X a w)
  | 0, ss, h, s, hsm, hk => by
    cases h
    rw [List.mem_singleton] at hsm
    subst hsm
    have hleft : s.left = [] := List.eq_nil_of_length_eq_zero hk
    refine ⟨Nat.le_refl _, fun hw a w hJ => hX a w ?_⟩
    obtain ⟨g, seen, c0, j1, _⟩ := id hJ
    exact round_wp (n := n) hT hl hm hok (ks := ks) hr0 hn0 hpl hs hold hnd hperm hlen hJ hw (top := s.st.nx) (hnear.sub j1.pin (Nat.le_refl _)) (fun i hi => by rw [hleft] at hi; cases hi) (fun _ => hdone) (fun _ => hfit)
  | k + 1, ss, h, s, hsm, hk => by
    unfold mLevs at h
    cases hlev : mLev (fun i L st' => match es[i]? with
            | some e => mRound P ex look n m oi ks e L st'
            | none => none) F nn ss [] with
    | none => rw [hlev] at h; cases h
    | some ss' =>
    rw [hlev] at h
    have hcov := (mLev_cov hF ss [] ss' (fun t ht => by cases ht) hlev).2.2 s hsm
    have ih := levs_wp (bm := bm) hT hl hm hok (ks := ks) hr0 hn0 hpl hs hold hnd hperm hlen hnear hF hX hdone hfit k ss' h
    have hlen' : ∀ i ∈ s.left, (s.left.erase i).length = k := fun i hi => by rw [List.length_erase_of_mem hi]; omega
    refine ⟨?_, fun hw a w hJ => hX a w ?_⟩
    · cases hle : s.left with
      | nil => rw [hle] at hk; cases hk
      | cons i r =>
        have hi : i ∈ s.left := by rw [hle]; simp
        obtain ⟨p, _, h2, t, h3, h4, h5⟩ := hcov i hi
        have := (ih t h3 (by rw [h4]; exact hlen' i hi)).1
        rw [h5.nx] at this
        omega
    · obtain ⟨g, seen, c0, j1, _⟩ := id hJ
      refine round_wp (n := n) hT hl hm hok (ks := ks) hr0 hn0 hpl hs hold hnd hperm hlen hJ hw (top := f.st.nx) (hnear.sub j1.pin (Nat.le_refl _)) (fun i hi e he => ?_) (fun h0 => by rw [h0] at hk; cases hk) (fun h0 => by rw [h0] at hk; cases hk)
      obtain ⟨p, h1, h2, t, h3, h4, h5⟩ := hcov i hi
      simp only [he] at h1
      have iht := ih t h3 (by rw [h4]; exact hlen' i hi)
      refine ⟨p, h1, by rw [← h5.nx]; exact iht.1, fun a' w' hJ' => iht.2 (fun k hk => by rw [h5.L]; exact mRound_within hT hl hm hok h1 hw k hk) a' w' (hJ'.covers h5 h4)⟩
theorem within_less_cons {L L' : SL} {k : Nat} {v : AV} (h : Less L L') : Less ((k, v) :: L) ((k, v) :: L') := fun t => by
  rw [lk_cons, lk_cons]
  by_cases e : k = t
  · rw [if_pos e, if_pos e]; exact .inl rfl
  · rw [if_neg e, if_neg e]; exact h t
theorem mapCore_wp {P : Program} {look : Look} (hT : TabOkF P (tabX look)) (hl : LookFr look) (hm : P.follows .mixedOrders = true) {ex n : Nat} {a0 b0 : Code} {m : ML} (hok : m.Ok a0 b0) {ro : Option Nat} {N : Nat} {B : BaseP} {nt : Nat} (hn0 : B.n0 ≤ B.w.heap.size) (hpl : ro = none ∨ m.body.plainR = true) (hs : slotsIn nt m.round = true) (hit : m.it < nt)
    {L L0 : SL} {st : St} {q : XR} (hq : mapCore P ex look n m L L0 st = some q) (hL0 : Less L0 L) (hw0 : Within ex L0) (hlo : Low st) (hnr : B.Near st.nx q.2.2.nx) {g : Gh} {w : World} {a : Act} (hc : Cur B g st w) (hr : RelSL g w nt L a.tmps) (hd : Marks B.n0 st.h g w a.defers) {k : Nat} (hk : m.ops[k]? = some m.last)
    {Q : Exit → Act → World → Prop} (hQ : ∀ a w, Fin B nt (fun e L st => (e, L, st) = q) .normal a w → Q .normal a w) :
    wpOpsIn (fence ro) N P m.ops (Exit.then (b0.wpIn (fence ro) N P Q) Q) [k] a w := by
  unfold mapCore at hq
  split at hq
  case h_2 => cases hq
  rename_i kt et mo hu hx
  split at hq
  case h_2 => cases hq
  rename_i es ho
  generalize hFe : vis st.h 4096 (AV.names.go (L0.map (·.2))) [mo] = F at hq
  cases hb : (F.all (fun o => Nat.ble o limit && Nat.blt o st.nx) && (Nat.ble (st.nx + 1) limit && hasB ex m.it)) with
  | false => rw [hb] at hq; cases hq
  | true =>
  rw [hb, cond_true] at hq
  split at hq
  case h_2 => cases hq
  rename_i f hf
  cases hb2 : ((f.left.isEmpty && isPtr st.nx (lk f.L m.it)) && (Nat.ble (st.nx + 1) f.st.nx && Nat.ble f.st.nx limit)) with
  | false => rw [hb2] at hq; cases hq
  | true =>
  rw [hb2, cond_true] at hq
  have hqe : q = mEnd ex m F f st := (Option.some.inj hq).symm
  simp only [Bool.and_eq_true, List.all_eq_true, Nat.blt_eq] at hb hb2
  obtain ⟨hb1, hb3, hb4⟩ := hb
  obtain ⟨⟨hb5, hb6⟩, hb7, hb8⟩ := hb2
  have hle : st.nx + 1 ≤ f.st.nx := Nat.le_of_ble_eq_true hb7
  have hlim : f.st.nx ≤ limit := Nat.le_of_ble_eq_true hb8
  have hFl : ∀ o ∈ F, o ≤ limit := fun o ho => Nat.le_of_ble_eq_true (hb1 o ho).1
  have hFn : ∀ o ∈ F, o < st.nx := fun o ho => (hb1 o ho).2
  have hmoF : mo ∈ F := by rw [← hFe]; exact vis_acc _ _ _ _ _ (by simp)
  have hqnx : q.2.2.nx = f.st.nx := by rw [hqe]; rfl
  have hxv := hr.eval m.x
  rw [hx] at hxv
  generalize hv : a.eval m.x = v at hxv
  cases hxv with
  | mp _ bm base hmi =>
  obtain ⟨bm', base', hi', _, hrel⟩ := hc.ok.obj mo _ ho
  rw [hmi] at hi'; cases hi'
  obtain ⟨hb0, ms, clock, hms, hmr⟩ := hrel
  subst hb0
  obtain ⟨l, hp1, hp2, _⟩ := hmr.perm
  have hll : l.length = es.length := by rw [hp1.length_eq, ← hmr.len]; simp
  obtain ⟨W, hW⟩ : ∃ W, w.alloc (.mapIter (some bm) clock #[] clock) = W := ⟨_, rfl⟩
  have hrun : (Instr.range m.t (.map (some bm))).run P w = .ok (.pointer (some ⟨w.heap.size, 0, none⟩)) W := by
    rw [← hW]
    simp [Instr.range, run_underlying hu, getMap hms, run_newObj]
  have hsz : W.heap.size = w.heap.size + 1 := by rw [← hW]; simp
  have hold : ∀ b, b < w.heap.size → W.heap[b]? = w.heap[b]? := fun b hb => by rw [← hW]; exact RowKit.Below.heap_alloc w _ _ hb
  have hiter : W.heap[w.heap.size]? = some (.mapIter (some bm) clock #[] clock) := by rw [← hW]; exact World.alloc_heap_new w _
  obtain ⟨hM, hMe⟩ : ∃ hM, hM = maskH st.h (F.filter fun o => !Nat.beq o mo) := ⟨_, rfl⟩
  have hMg : ∀ o, hM.get o = if o ∈ F.filter (fun o => !Nat.beq o mo) then st.h.get o else none := fun o => by rw [hMe]; exact maskH_get _ _ _ (fun p hp => hFl p (List.mem_filter.1 hp).1)
  have hMs : ∀ o x, hM.get o = some x → st.h.get o = some x ∧ o ∈ F ∧ o ≠ mo := fun o x hx => by
    rw [hMg] at hx
    by_cases h : o ∈ F.filter (fun o => !Nat.beq o mo)
    · rw [if_pos h] at hx
      have := List.mem_filter.1 h
      exact ⟨hx, this.1, fun e => by rw [e] at this; simp at this⟩
    · rw [if_neg h] at hx; cases hx
  have hcM : Cur B g { h := hM, nx := st.nx, rl := [], wl := [] } w := hc.covers (sub_same fun o x hx => (hMs o x hx).1) rfl
  have hcB := hcM.at' st.nx (fun _ => False) (Nat.le_refl _) (far := B.far) (fun _ h => h)
  obtain ⟨B0, hB0⟩ : ∃ B0 : BaseP, { baseAt g hM w st.nx (fun _ => False) B.far with n0 := B.n0 } = B0 := ⟨_, rfl⟩
  have hc0 : Cur B0 g { h := hM, nx := st.nx, rl := [], wl := [] } w := by
    rw [← hB0]
    exact ⟨hcB.ok, hcB.fresh, ⟨hcB.base.b0, hcB.base.pins, hcB.base.K, hcB.base.cell, hcB.base.size, hcB.base.os, hcB.base.tape, hcB.base.output, hcB.base.frame, hcB.base.own, hcB.base.Kold, hcB.base.blk, hcB.base.lp⟩, hcB.pin⟩
  have hB0w : B0.w = w := by rw [← hB0]; rfl
  have hB0n : B0.n0 = B.n0 := by rw [← hB0]
  have hB0p : B0.pin = st.nx := by rw [← hB0]; rfl
  have hB0f : B0.far = B.far := by rw [← hB0]; rfl
  have hnear0 : B0.Near B0.pin f.st.nx := fun o o1 o2 o3 => by
    rw [hB0p] at o1
    rw [hB0f] at o3
    exact hnr o o1 (by rw [hqnx]; exact o2) o3
  have hgn : g.inj st.nx = none := hc.fresh _ (Nat.le_refl _) (hnr _ (Nat.le_refl _) (by rw [hqnx]; omega))
  have step1 : ∀ h, Ok g h w → h.get st.nx = none → Step g h w st.nx (st.nx + 1) (g.with st.nx w.heap.size 0) h W ∧ Ok (g.with st.nx w.heap.size 0) h W := fun h hok hno => by
    have hgrow := grow_step (w' := W) st.nx st.nx hok (by omega) hold (by rw [← hW]; rfl) (by rw [← hW]; rfl) (by rw [← hW]; rfl)
    have hname := name_step (o := st.nx) (b := w.heap.size) (base := 0) hgrow.2 hgn hno
    exact ⟨hgrow.1.trans hname.1 (Nat.le_refl _) (by omega), hname.2⟩
  obtain ⟨g1, hg1⟩ : ∃ g1, g.with st.nx w.heap.size 0 = g1 := ⟨_, rfl⟩
  rw [hg1] at step1
  have hinj1 : g1.inj st.nx = some (w.heap.size, 0) := by rw [← hg1]; exact Gh.with_inj
  have hnoF : st.h.get st.nx = none := by
    cases hq : st.h.get st.nx with
    | none => rfl
    | some x => exact absurd (hlo _ _ hq) (Nat.lt_irrefl _)
  have stepM := step1 hM hc0.ok (by
    cases hq : hM.get st.nx with
    | none => rfl
    | some x => have := (hMs _ _ hq).1; rw [hnoF] at this; cases this)
  have stepF := step1 st.h hc.ok hnoF
  have hc1 : Cur B0 g1 { h := hM, nx := st.nx + 1, rl := [], wl := [] } W := hc0.step (st' := { h := hM, nx := st.nx + 1, rl := [], wl := [] }) (hnear0.sub (by rw [hB0p]; exact Nat.le_refl _) hle) ⟨Nat.le_succ _, stepM.1⟩ stepM.2
  refine wpOps_val (v := .pointer (some ⟨w.heap.size, 0, none⟩)) (w' := W) hk hok.last.2.2 (fun c e => by rw [hok.last.1] at e; cases e) (by simp only [execOp, hok.last.1, hv]; simp [hrun]) ?_
  rw [hok.last.2.1]
  show b0.wpIn (fence ro) N P Q _ _
  rw [hok.b]
  refine wpIn_block (wpIn_loop_least fun X hX => ?_)
  have hrel1 : RelSL g1 W nt (addX ex m.it (.ptr st.nx 0) L0) (a.put (some m.it) (.pointer (some ⟨w.heap.size, 0, none⟩))).tmps := by
    have h1 := (hr.ext stepF.1.ext).put (dst := some m.it) (v := .ptr st.nx 0) (u := .pointer (some ⟨w.heap.size, 0, none⟩)) (.ptr _ _ _ _ hinj1) (fun d hd => by cases hd; exact hit)
    refine h1.less ?_
    unfold addX
    rw [hb4, cond_true]
    exact within_less_cons hL0
  have hw1 : Within ex (addX ex m.it (.ptr st.nx 0) L0) := addX_within hw0
  obtain ⟨ks, hks⟩ : ∃ ks, (addX ex m.it (.ptr st.nx 0) L0).map (·.1) = ks := ⟨_, rfl⟩
  rw [hks] at hf
  have hunb : ∀ o base, (hM.get o).isSome = true → g1.inj o ≠ some (bm, base) := fun o base hos he => by
    obtain ⟨x, hx⟩ := Option.isSome_iff_exists.1 hos
    obtain ⟨h1, h2, h3⟩ := hMs o x hx
    have hno : o ≠ st.nx := fun e => by have := hFn o h2; omega
    rw [← hg1, Gh.with_other hno] at he
    exact hc.ok.sep mo o _ x bm 0 base (Ne.symm h3) ho h1 hmi he
  have hunr : Unowned g1 hM w.heap.size := fun o base hos he => by
    obtain ⟨x, hx⟩ := Option.isSome_iff_exists.1 hos
    obtain ⟨b', base', q1, _, q3⟩ := stepM.2.obj o x hx
    rw [he] at q1; cases q1
    exact objRel_iter q3 hiter
  have hmarks : Marks B.n0 hM g1 W a.defers := Marks.of_ok (Marks.step stepF.1 hd) stepM.2
  refine (levs_wp (bm := bm) (r := w.heap.size) (nt := nt) (n0 := B.n0) (B0 := B0) hT hl hm hok (ks := ks) (by rw [hB0w]; exact Nat.le_refl _) (by rw [hB0w]; exact Nat.le_trans hn0 hc.base.size) hpl hs hmr.old hmr.born hp1 hll hnear0 hFl hX (fun a' w' hJ => ?_) (isPtr_eq hb6) es.length _ hf (mFirst es ks (addX ex m.it (.ptr st.nx 0) L0) F mo st) (by simp) (by simp [mFirst])).2 (mapK_within hw1) _ _ ?_
  · 
    obtain ⟨g2, d1, d2, d3⟩ := hJ
    have hs0 : Step g hM w st.nx f.st.nx g2 f.st.h w' := by
      have hb := d1.base
      rw [← hB0] at hb
      refine Base.step' (p := st.nx) (far := B.far) ⟨hb.b0, hb.pins, hb.K, hb.cell, hb.size, hb.os, hb.tape, hb.output, hb.frame, hb.own, hb.Kold, hb.blk, hb.lp⟩ (fun o o1 o2 => hc.fresh o o1 o2) (fun o o1 o2 => ?_)
      exact d1.fresh o o1 (by rw [hB0f]; exact o2)
    have hCl : ∀ o ∈ Cs F st.nx f.st.nx, o ≤ limit := Cs_le hFl hlim
    have hfs := frame_step (h' := mergeH f.st.h (Cs F st.nx f.st.nx) st.h) (S := fun o => o ∈ Cs F st.nx f.st.nx) hc.ok (fun o x hx => (hMs o x hx).1) (fun o x hx => List.mem_append.2 (.inl (hMs o x hx).2.1)) hs0 d1.ok (fun o hS => by rw [mergeH_get _ _ _ _ hCl, if_pos hS]) (fun o hS => by rw [mergeH_get _ _ _ _ hCl, if_neg hS]) (fun o e1 e2 => List.mem_append.2 (.inr (by rw [fromTo_mem]; omega)))
    unfold Exit.inBlock
    simp only [if_true]
    refine hQ a' w' (Fin.mk' (e := .normal) (L := addX ex m.c (.sc (.bool false)) (addX ex m.n .bad f.L)) (st := (mEnd ex m F f st).2.2) (g := g2) (by rw [hqe]; rfl) (hc.step (st' := (mEnd ex m F f st).2.2) (by rw [hqe] at hnr; exact hnr) ⟨by show st.nx ≤ f.st.nx; omega, hfs.1⟩ hfs.2) d2 (Marks.of_ok d3 hfs.2))
  · 
    subst hMe
    refine ⟨g1, #[], clock, hc1, hrel1.less (by rw [← hks]; exact mapK_less _ _), by rw [put_defers]; exact hmarks, hinj1, ?_, hiter, Nat.le_refl _, hunr, hunb, fun i => ?_, List.nodup_range, fun i e me hi hme => ?_, fun o x hx => ?_, Nat.lt_succ_self _⟩
    · rw [hold bm (lt_of_heap hms)]; exact hms
    · show i ∈ List.range es.length ↔ _
      rw [List.mem_range, ← hll]
      constructor
      · intro hi
        exact ⟨l[i], by simp [hi], by simp⟩
      · rintro ⟨me, hme, _⟩
        exact (List.getElem?_eq_some_iff.1 hme).1
    · have := hp2 i e me hi hme
      exact ⟨this.1, this.2.ext stepF.1.ext⟩
    · have := hFn o (hMs o x hx).2.1
      show o < st.nx + 1
      omega
theorem insS_within {ex : Nat} {C : List Nat} {s : DP} (hs : Within ex s.L) : ∀ (acc acc' : List DP), (∀ t ∈ acc, Within ex t.L) → insS C s acc = some acc' → ∀ t ∈ acc', Within ex t.L
  | [], acc', _, h, t, ht => by
    cases h
    rw [List.mem_singleton] at ht
    subst ht
    exact hs
  | a :: r, acc', hin, h, t, ht => by
    unfold insS at h
    cases hb : eqNs a.left s.left with
    | true =>
      rw [hb, cond_true] at h
      cases hc : sameS C a s with
      | false => rw [hc] at h; cases h
      | true => rw [hc] at h; cases h; exact hin t ht
    | false =>
      rw [hb, cond_false] at h
      cases hc : insS C s r with
      | none => rw [hc] at h; cases h
      | some r' =>
        rw [hc] at h
        cases h
        rcases List.mem_cons.1 ht with rfl | ht
        · exact hin _ (by simp)
        · exact insS_within hs r r' (fun t ht => hin t (by simp [ht])) hc t ht
theorem mOne_within {ex : Nat} {run : Nat → SL → St → Option (SL × St)} {F : List Nat} {n0 : Nat} {s : DP} (hr : ∀ i p, run i s.L s.st = some p → Within ex p.1) : ∀ (is : List Nat) (acc acc' : List DP), (∀ t ∈ acc, Within ex t.L) → mOne run F n0 s is acc = some acc' → ∀ t ∈ acc', Within ex t.L
  | [], acc, acc', hin, h => by cases h; exact hin
  | i :: r, acc, acc', hin, h => by
    unfold mOne at h
    cases hp : run i s.L s.st with
    | none => rw [hp] at h; cases h
    | some p =>
      rw [hp] at h
      dsimp only at h
      cases hb : (Nat.ble p.2.nx limit && Nat.ble s.st.nx p.2.nx) with
      | false => rw [hb] at h; cases h
      | true =>
        rw [hb, cond_true] at h
        cases hc : insS (Cs F n0 p.2.nx) ⟨s.left.erase i, p.1, p.2⟩ acc with
        | none => rw [hc] at h; cases h
        | some acc1 =>
          rw [hc] at h
          exact mOne_within hr r acc1 acc' (insS_within (s := ⟨s.left.erase i, p.1, p.2⟩) (hr i p hp) acc acc1 hin hc) h
theorem mLev_within {ex : Nat} {run : Nat → SL → St → Option (SL × St)} {F : List Nat} {n0 : Nat} (hr : ∀ i L st p, Within ex L → run i L st = some p → Within ex p.1) : ∀ (l acc acc' : List DP), (∀ t ∈ l, Within ex t.L) → (∀ t ∈ acc, Within ex t.L) → mLev run F n0 l acc = some acc' → ∀ t ∈ acc', Within ex t.L
  | [], acc, acc', _, hin, h => by cases h; exact hin
  | s :: r, acc, acc', hl, hin, h => by
    unfold mLev at h
    cases hc : mOne run F n0 s s.left acc with
    | none => rw [hc] at h; cases h
    | some acc1 =>
      rw [hc] at h
      exact mLev_within hr r acc1 acc' (fun t ht => hl t (by simp [ht])) (mOne_within (fun i p => hr i _ _ p (hl s (by simp))) s.left acc acc1 hin hc) h
theorem mLevs_within {ex : Nat} {run : Nat → SL → St → Option (SL × St)} {F : List Nat} {n0 : Nat} (hr : ∀ i L st p, Within ex L → run i L st = some p → Within ex p.1) : ∀ (k : Nat) (l l' : List DP), (∀ t ∈ l, Within ex t.L) → mLevs run F n0 k l = some l' → ∀ t ∈ l', Within ex t.L
  | 0, l, l', hl, h => by cases h; exact hl
  | k + 1, l, l', hl, h => by
    unfold mLevs at h
    cases hc : mLev run F n0 l [] with
    | none => rw [hc] at h; cases h
    | some l1 =>
      rw [hc] at h
      exact mLevs_within hr k l1 l' (mLev_within hr l [] l1 hl (fun t ht => by cases ht) hc) h
theorem mapCore_within {P : Program} {look : Look} (hT : TabOkF P (tabX look)) (hl : LookFr look) (hm : P.follows .mixedOrders = true) {ex n : Nat} {a0 b0 : Code} {m : ML} (hok : m.Ok a0 b0) {L L0 : SL} {st : St} {q : XR} (hq : mapCore P ex look n m L L0 st = some q) (hw0 : Within ex L0) : Within ex q.2.1 := by
  unfold mapCore at hq
  split at hq
  case h_2 => cases hq
  split at hq
  case h_2 => cases hq
  rename_i es ho
  generalize hFe : vis st.h 4096 (AV.names.go (L0.map (·.2))) _ = F at hq
  cases hb : (F.all (fun o => Nat.ble o limit && Nat.blt o st.nx) && (Nat.ble (st.nx + 1) limit && hasB ex m.it)) with
  | false => rw [hb] at hq; cases hq
  | true =>
  rw [hb, cond_true] at hq
  split at hq
  case h_2 => cases hq
  rename_i f hf
  cases hb2 : ((f.left.isEmpty && isPtr st.nx (lk f.L m.it)) && (Nat.ble (st.nx + 1) f.st.nx && Nat.ble f.st.nx limit)) with
  | false => rw [hb2] at hq; cases hq
  | true =>
  rw [hb2, cond_true] at hq
  cases hq
  refine addX_within (addX_within (mLevs_within (fun i L st p hw h => ?_) _ _ _ (fun t ht => ?_) hf f (by simp)))
  · split at h
    · exact mRound_within hT hl hm hok h hw
    · cases h
  · rw [List.mem_singleton] at ht
    subst ht
    exact mapK_within (addX_within hw0)
theorem seqX_ok {P : Program} {ex : Nat} {x y : Code} {X Y : SL → St → Option XR} (ihx : XOk P ex x X) (ihy : XOk P ex y Y) : XOk P ex (.seq x y) (fun L st => thenX Y (X L st)) := by
  have both : ∀ {ro : Option Nat} {x y : Bool}, (ro = none ∨ (x && y) = true) → (ro = none ∨ x = true) ∧ (ro = none ∨ y = true) := by
    intro ro x y h
    rcases h with h | h
    · exact ⟨.inl h, .inl h⟩
    · rw [Bool.and_eq_true] at h; exact ⟨.inr h.1, .inr h.2⟩
  refine ⟨fun L st q h hw => ?_, fun L => (thenX_framed (ihx.framed L) ihy.framed).congr (fun st => rfl), fun ro N B nt hn0 hpl hs L st q g w a h hw hlo hnr hc hr hd => ?_⟩
  · rcases thenX_some h with ⟨L1, st1, h1, h2⟩ | ⟨h1, _⟩
    · exact ihy.within _ _ _ h2 (ihx.within _ _ _ h1 hw)
    · exact ihx.within _ _ _ h1 hw
  · simp only [slotsIn, Bool.and_eq_true] at hs
    refine wpIn_seq ?_
    rcases thenX_some h with ⟨L1, st1, h1, h2⟩ | ⟨h1, h2⟩
    · have hlo1 := ihx.low h1 hlo
      have hle1 := ihx.le h1 hlo
      have hle2 := ihy.le h2 hlo1
      refine wpIn_mono (ihx.wp ro N B nt hn0 (both hpl).1 hs.1 _ _ _ g w a h1 hw hlo (hnr.sub (Nat.le_refl _) hle2) hc hr hd) ?_
      rintro exx a1 w1 ⟨e1, L1', st1', g1, rfl, he, hc1, hr1, hd1⟩
      cases he
      exact ihy.wp ro N B nt hn0 (both hpl).2 hs.2 _ _ _ g1 w1 a1 h2 (ihx.within _ _ _ h1 hw) hlo1 (hnr.sub hle1 (Nat.le_refl _)) hc1 hr1 hd1
    · refine wpIn_mono (ihx.wp ro N B nt hn0 (both hpl).1 hs.1 _ _ _ g w a h1 hw hlo hnr hc hr hd) ?_
      rintro exx a1 w1 ⟨e1, L1, st1, g1, rfl, he, hc1, hr1, hd1⟩
      subst he
      cases e1 with
      | normal => exact (h2 rfl).elim
      | exit id => exact ⟨.exit id, L1, st1, g1, rfl, rfl, hc1, hr1, hd1⟩
      | ret => exact ⟨.ret, L1, st1, g1, rfl, rfl, hc1, hr1, hd1⟩
theorem mapRun_ok {P : Program} {look : Look} (hT : TabOkF P (tabX look)) (hl : LookFr look) (hm : P.follows .mixedOrders = true) (ex n : Nat) {x y : Code} {m : ML} (hok : m.Ok x y) : XOk P ex (.seq x y) (fun L st => mapRun P ex look n m L st) := by
  have split : ∀ {L : SL} {st : St} {q : XR}, mapRun P ex look n m L st = some q → ∃ p, (prepOs P m.ops m.ahead).run look L st = some p ∧ mapCore P ex look n m p.1 (keepL (keysOf ex m.ops) p.1 L) p.2 = some q := fun {L st q} h => by
    unfold mapRun at h
    cases hp : (prepOs P m.ops m.ahead).run look L st with
    | none => rw [hp] at h; cases h
    | some p => rw [hp] at h; exact ⟨p, rfl, h⟩
  have hless : ∀ {L : SL} {st : St} {p : SL × St}, (prepOs P m.ops m.ahead).run look L st = some p → Within ex L → Less (keepL (keysOf ex m.ops) p.1 L) p.1 ∧ Within ex (keepL (keysOf ex m.ops) p.1 L) := fun {L st p} hp hw =>
    region_less hw (fun t ht => prepOs_lk (t := t) _ _ _ _ hp (fun o ho => ht o (by rw [hok.ops]; simp [ho])))
  refine ⟨fun L st q h hw => ?_, fun L => mapRun_framed hl ex n m L, fun ro N B nt hn0 hpl hs L st q g w a h hw hlo hnr hc hr hd => ?_⟩
  · obtain ⟨p, h1, h2⟩ := split h
    exact mapCore_within hT hl hm hok h2 (hless h1 hw).2
  · obtain ⟨p, h1, h2⟩ := split h
    have hfr := prepOs_framed (P := P) hl m.ops m.ahead L
    have hlo1 : Low p.2 := hfr.low hlo h1
    have hle1 : st.nx ≤ p.2.nx := (hfr st p.1 p.2 hlo h1).1
    have hle2 : p.2.nx ≤ q.2.2.nx := (mapCore_framed P ex look n m p.1 (keepL (keysOf ex m.ops) p.1 L) p.2 (q.1, q.2.1) q.2.2 hlo1 (by unfold reX reM; rw [h2])).1
    have hs' := hs
    rw [hok.a, hok.b] at hs'
    simp only [slotsIn, Bool.and_eq_true] at hs'
    have hround : slotsIn nt m.round = true := hs'.2
    have hplb : ro = none ∨ m.body.plainR = true := by
      rcases hpl with hpl | hpl
      · exact .inl hpl
      · right
        rw [hok.b] at hpl
        unfold ML.round at hpl
        simp only [Code.plainR, Bool.and_eq_true] at hpl
        exact hpl.2.2.2.2
    obtain ⟨is, k, f1, f2, f3⟩ := range_snoc hok.ops
    refine wpIn_seq ?_
    rw [show x = .region m.ra m.ops false from hok.a]
    refine wpIn_region ?_
    rw [f1]
    refine prepOs_wpR (B := B) (nt := nt) hT hl hs'.1.2 hs'.1.1 (p := p) [k] (fun g w a hc hr hd => ?_) m.ahead is (fun o ho => by rw [← Array.mem_toList_iff, hok.ops]; simp [ho]) f2 L st g w a h1 hlo (hnr.sub (Nat.le_refl _) hle2) hc hr hd
    exact mapCore_wp hT hl hm hok hn0 hplb hround (dst_in hs'.1.1 (Array.mem_of_getElem? f3) _ hok.last.2.1) h2 (hless h1 hw).1 (hless h1 hw).2 hlo1 (hnr.sub hle1 (Nat.le_refl _)) hc hr hd f3 (fun a w h => h)
theorem prepM_ok {P : Program} {look : Look} (hT : TabOkF P (tabX look)) (hl : LookFr look) (hm : P.follows .mixedOrders = true) (ex n : Nat) : ∀ c : Code, XOk P ex c ((prepM P ex c).run look n) := by
  intro c
  induction c with
  | seq x y ihx ihy =>
    have he : (prepM P ex (.seq x y)).run look n = (match mapLoop x y with
      | some m => (⟨fun look n L st => mapRun P ex look n m L st⟩ : XC)
      | none => ⟨fun look n L st => thenX ((prepM P ex y).run look n) ((prepM P ex x).run look n L st)⟩).run look n := rfl
    rw [he]
    cases h : mapLoop x y with
    | some m => exact mapRun_ok hT hl hm ex n (mapLoop_ok h)
    | none => exact seqX_ok ihx ihy
  | skip => exact prepC_ok hT hl hm ex n _
  | label l => exact prepC_ok hT hl hm ex n _
  | exit id => exact prepC_ok hT hl hm ex n _
  | ret => exact prepC_ok hT hl hm ex n _
  | region id ops draw => exact prepC_ok hT hl hm ex n _
  | cond c x y _ _ => exact prepC_ok hT hl hm ex n _
  | block id x _ => exact prepC_ok hT hl hm ex n _
  | loop x _ => exact prepC_ok hT hl hm ex n _
  | scope x _ => exact prepC_ok hT hl hm ex n _
  | rangeFunc f ps asg body _ _ => exact prepC_ok hT hl hm ex n _
  | goto l => exact prepC_ok hT hl hm ex n _
  | refuse why => exact prepC_ok hT hl hm ex n _
end
end Go.Vm
namespace Go.Vm
noncomputable section
structure XF where
  run : Look → Nat → List AV → M AV
def resX (P : Program) (L : SL) (rs : List ResultVar) : M (List AV) :=
  List.rec (motive := fun _ => M (List AV)) (M.pure []) (fun r _ ih =>
    match r with
    | .tmp t => ih.bind fun l => M.pure (lk L t :: l)
    | .cell a t => (opLoad P t (lk L a)).bind fun v => ih.bind fun l => M.pure (v :: l)) rs
def finX (P : Program) (fn : Func) (p : Ex × SL) : M AV :=
  match p.1 with
  | .exit _ => M.fail
  | _ => (resX P p.2 fn.results.toList).bind fun l => M.pure (pack l)
def exOf (fn : Func) (body : Code) : Nat := resEx fn.results.toList (codeEx body 0)
def prepF (P : Program) (fn : Func) (body : Code) (ex : Nat) : XF :=
  ⟨fun look n args => bif Nat.ble args.length fn.ntmps then (reX ((prepM P ex body).run look n (argsX ex (argsL 0 args)))).bind (finX P fn) else M.fail⟩
def funX (P : Program) (f : Nat) : Option XF :=
  match P.funcs[f]? with
  | some fn =>
    match fn.body with
    | some body => bif entered P f && slotsIn fn.ntmps body then some (prepF P fn body (exOf fn body)) else none
    | none => none
  | none => none
def lookN (P : Program) (base : Look) (n d : Nat) : Look :=
  Nat.rec (motive := fun _ => Look) base (fun _ ih f =>
    match base f with
    | some p => some p
    | none =>
      match funX P f with
      | some xf => some (false, fun args => xf.run ih n args)
      | none => bif entered P f then none else some (false, fun args => aextern P f args)) d
theorem opLoad_like {P : Program} {t : TypeId} {a : AV} {st st1 st2 : St} {v : AV} (h : opLoad P t a st1 = some (v, st2)) (hh : st1.h = st.h) : (∃ s, opLoad P t a st = some (v, s)) ∧ st2.h = st1.h ∧ st2.nx = st1.nx := by
  unfold opLoad at h ⊢
  split at h
  · rename_i id off
    unfold M.bind hget at h ⊢
    cases hg : st1.h.get id with
    | none => rw [hg] at h; cases h
    | some x =>
      rw [hg] at h
      rw [hh] at hg
      rw [hg]
      simp only at h ⊢
      unfold loadObj at h ⊢
      cases x with
      | row cells k s et =>
        simp only at h ⊢
        obtain ⟨h1, rfl⟩ := of_some h
        rw [h1]
        exact ⟨⟨_, rfl⟩, rfl, rfl⟩
      | _ => cases h
  · obtain ⟨h1, rfl⟩ := of_some h
    rw [h1]
    exact ⟨⟨_, rfl⟩, rfl, rfl⟩
  · cases h
theorem resX_resL {P : Program} {L : SL} {st : St} : ∀ (rs : List ResultVar) (st1 st2 : St) (l : List AV), resX P L rs st1 = some (l, st2) → st1.h = st.h → resL P L st rs = some l ∧ st2.h = st1.h ∧ st2.nx = st1.nx
  | [], st1, st2, l, h, hh => by cases h; exact ⟨rfl, rfl, rfl⟩
  | .tmp t :: rs, st1, st2, l, h, hh => by
    change (M.bind (resX P L rs) fun l => M.pure (lk L t :: l)) st1 = _ at h
    unfold M.bind at h
    cases h1 : resX P L rs st1 with
    | none => rw [h1] at h; cases h
    | some q =>
      obtain ⟨l1, s1⟩ := q
      rw [h1] at h
      cases h
      obtain ⟨e1, e2, e3⟩ := resX_resL rs st1 _ l1 h1 hh
      exact ⟨by simp [resL, e1], e2, e3⟩
  | .cell a t :: rs, st1, st2, l, h, hh => by
    change (M.bind (opLoad P t (lk L a)) fun v => M.bind (resX P L rs) fun l => M.pure (v :: l)) st1 = _ at h
    unfold M.bind at h
    cases h0 : opLoad P t (lk L a) st1 with
    | none => rw [h0] at h; cases h
    | some q =>
      obtain ⟨v, s0⟩ := q
      rw [h0] at h
      simp only at h
      obtain ⟨⟨s, e0⟩, e1, e2⟩ := opLoad_like h0 hh
      cases h1 : resX P L rs s0 with
      | none => rw [h1] at h; cases h
      | some q =>
        obtain ⟨l1, s1⟩ := q
        rw [h1] at h
        cases h
        obtain ⟨f1, f2, f3⟩ := resX_resL rs s0 _ l1 h1 (e1.trans hh)
        exact ⟨by simp [resL, e0, f1], f2.trans e1, f3.trans e2⟩
theorem opLoad_framed {P : Program} {t : TypeId} {a : AV} : Framed (opLoad P t a) := by
  unfold opLoad loadObj
  repeat' (first | exact Framed.pure _ | exact Framed.fail | exact Framed.of _ | exact Framed.hget _ | (refine Framed.bind ?_ fun x => ?_) | split)
theorem resX_framed {P : Program} {L : SL} : ∀ rs : List ResultVar, Framed (resX P L rs)
  | [] => Framed.pure _
  | .tmp _t :: rs => Framed.bind (resX_framed rs) (fun _ => Framed.pure _)
  | .cell _a _t :: rs => Framed.bind opLoad_framed (fun _ => Framed.bind (resX_framed rs) (fun _ => Framed.pure _))
theorem finX_framed {P : Program} {fn : Func} (p : Ex × SL) : Framed (finX P fn p) := by
  unfold finX
  split
  · exact Framed.fail
  · exact Framed.bind (resX_framed _) (fun _ => Framed.pure _)
theorem prepF_framed {P : Program} {look : Look} (hT : TabOkF P (tabX look)) (hl : LookFr look) (hm : P.follows .mixedOrders = true) (fn : Func) (body : Code) (ex n : Nat) (args : List AV) : Framed ((prepF P fn body ex).run look n args) :=
  Framed.cond (Framed.bind ((prepM_ok hT hl hm ex n body).framed _) finX_framed) Framed.fail
def baseOf (g : Gh) (st : St) (w : World) (n' : Nat) : BaseP := { baseAt g st.h w st.nx (fun _ => False) (fun o => n' ≤ o) with n0 := w.heap.size }
theorem Cur.of {g st st' w} (hok : Ok g st.h w) (hfr : Free g st st') : Cur (baseOf g st w st'.nx) g st w :=
  ⟨hok, fun o h1 h2 => hfr o h1 (Nat.lt_of_not_le h2), ⟨rfl, fun _o _ho => rfl, fun _ _ h => h, fun _ _ _ => rfl, Nat.le_refl _, rfl, rfl, rfl, fun _ _ _ => rfl, fun o _b base ho hi => .inr (.inr ⟨o, base, ho, hi⟩), fun _ _ h => .inl h,
    fun _b cs _e fr h => ⟨cs, fr, h, rfl⟩, fun _b l h => ⟨l, h⟩⟩, Nat.le_refl _⟩
theorem Cur.back {g st w g' st' w' s'} (h : Cur (baseOf g st w st'.nx) g' s' w') (hh : s'.h = st'.h) (hfr : Free g st st') : Step g st.h w st.nx st'.nx g' st'.h w' := by
  have b := h.base
  have pins : ∀ o, (o < st.nx ∨ st'.nx ≤ o) → g'.inj o = g.inj o := fun o ho => b.pins o ho
  refine ⟨⟨b.b0, fun o p hp => ?_, b.K, b.cell, b.blk, b.lp⟩, b.size, b.os, b.tape, b.output, fun c hc hn => b.frame c hc (fun hO => ?_), fun o ho hr => ?_, fun o c base ho hi => ?_, fun c j hk => ?_⟩
  · by_cases h1 : st.nx ≤ o ∧ o < st'.nx
    · rw [hfr o h1.1 h1.2] at hp; cases hp
    · rw [pins o (by omega)]; exact hp
  · rcases hO with hO | ⟨o, base, h1, h2⟩
    · exact hO
    · exact hn o base h1 h2
  · rw [pins o (by omega)]; exact ho
  · rw [← hh] at ho
    rcases b.own o c base ho hi with h1 | h1 | h1
    · exact .inl h1
    · exact h1.elim
    · exact .inr h1
  · rcases b.Kold c j hk with h1 | h1 | h1 | h1
    · exact .inl h1
    · exact .inr (.inl h1)
    · exact h1.elim
    · exact .inr (.inr h1)
theorem run_call {P : Program} {look : Look} (hT : TabOkF P (tabX look)) (hl : LookFr look) (hm : P.follows .mixedOrders = true) {f : Nat} {fn : Func} {body : Code} (hf : P.funcs[f]? = some fn) (hb : fn.body = some body) (he : entered P f = true) (hs : slotsIn fn.ntmps body = true) (ex n : Nat) (args : List AV) :
    CallF P f args ((prepF P fn body ex).run look n args) := by
  intro g st w vs r st' hok hfr hlo hrel hm'
  change (bif Nat.ble args.length fn.ntmps then (reX ((prepM P ex body).run look n (argsX ex (argsL 0 args)))).bind (finX P fn) else M.fail) st = some (r, st') at hm'
  cases hle : Nat.ble args.length fn.ntmps with
  | false => rw [hle] at hm'; cases hm'
  | true =>
  rw [hle, cond_true] at hm'
  have hle := Nat.le_of_ble_eq_true hle
  unfold M.bind reX reM at hm'
  cases hrun : (prepM P ex body).run look n (argsX ex (argsL 0 args)) st with
  | none => rw [hrun] at hm'; cases hm'
  | some q =>
  obtain ⟨e1, L1, st1⟩ := q
  rw [hrun] at hm'
  change finX P fn (e1, L1) st1 = some (r, st') at hm'
  have key : (∀ id, e1 ≠ .exit id) ∧ ∃ l, resL P L1 st1 fn.results.toList = some l ∧ r = pack l ∧ st1.h = st'.h ∧ st1.nx = st'.nx := by
    have two : ((resX P L1 fn.results.toList).bind fun l => M.pure (pack l)) st1 = some (r, st') → ∃ l, resL P L1 st1 fn.results.toList = some l ∧ r = pack l ∧ st1.h = st'.h ∧ st1.nx = st'.nx := by
      intro h
      unfold M.bind at h
      cases h1 : resX P L1 fn.results.toList st1 with
      | none => rw [h1] at h; cases h
      | some p =>
        obtain ⟨l, s⟩ := p
        rw [h1] at h
        cases h
        obtain ⟨a, b, c⟩ := resX_resL (st := st1) _ _ _ _ h1 rfl
        exact ⟨l, a, rfl, b.symm, c.symm⟩
    cases e1 with
    | normal => exact ⟨(fun _ h => by cases h), two hm'⟩
    | ret => exact ⟨(fun _ h => by cases h), two hm'⟩
    | exit id => cases hm'
  obtain ⟨hne, l, hres, hr, hh1, hh2⟩ := key
  refine .inr ⟨entered_ok he _ _, calls_of_callsIn (ro := none) (n := 0) (callsIn_of_wp_marks hf hb trivial ?_)⟩
  have hcur := Cur.of hok hfr
  have hx := argsX_less ex (argsL 0 args)
  have hmono : st.nx ≤ st1.nx := (prepM_ok hT hl hm ex n body).le hrun hlo
  have hnear : (baseOf g st w st'.nx).Near st.nx st1.nx := fun o h1 h2 h3 => by
    have : st'.nx ≤ o := h3
    omega
  have hrun' := (prepM_ok hT hl hm ex n body).wp none 0 (baseOf g st w st'.nx) fn.ntmps (Nat.le_refl _) (.inl rfl) hs _ _ _ g w { tmps := vs.toArray ++ Array.replicate (fn.ntmps - vs.toArray.size) undef, defers := [] } hrun hx.2 hlo hnear hcur ((relSL_args hrel hle).less hx.1) (Marks.nil _ _ _ _)
  refine wpIn_mono hrun' ?_
  rintro exx a1 w1 ⟨e2, L2, st2, g1, rfl, he1, hc1, hr1, hd1⟩
  cases he1
  have fin : bodyPostM (fence none) 0 P fn (fun e w' => ∃ v g', e = .returned v ∧ Step g st.h w st.nx st'.nx g' st'.h w' ∧ Ok g' st'.h w' ∧ Rel g' w' r v) .ret a1 w1 := by
    show LeavesInM (fence none) 0 P fn a1.tmps _ a1.defers .returning w1
    obtain ⟨bs, f1, f2, f3⟩ := hd1
    rw [f1]
    refine leaves_good (Good := fun u => Cur (baseOf g st w st'.nx) g1 st1 u ∧ (∀ a v, Rel g1 w1 a v → Rel g1 u a v)) (S := fun b => w.heap.size ≤ b ∧ Unowned g1 st1.h b) ?_ ?_ bs w1
      ⟨hc1, fun _ _ h => h⟩ f2 (fun b hb => ⟨⟨(f3 b hb).1, (f3 b hb).2.2⟩, (f3 b hb).2.1⟩)
    · rintro u b ⟨g2, g3⟩ ⟨hb1, hb2⟩ hb3
      have hput := Ok.put_unowned (ds' := none) g2.ok hb3 hb2
      have hst := Step.put_late (ds' := none) hok (hh1 ▸ g2.back hh1 hfr) hb1
      refine ⟨?_, fun a v h => hput.2 a v (g3 a v h)⟩
      have hc3 : Cur (baseOf g st w st'.nx) g1 { st1 with nx := st'.nx } _ := hcur.step (st' := { st1 with nx := st'.nx }) (fun o a b => hnear o a (by rw [hh2]; exact b)) ⟨(by rw [← hh2]; exact hmono), hst⟩ hput.1
      exact ⟨hc3.ok, by rw [hh2]; exact hc3.fresh, hc3.base, by rw [hh2]; exact hc3.pin⟩
    · rintro u ⟨g2, g3⟩
      obtain ⟨us, h1, h2⟩ := resL_ok (P := P) g2.ok ⟨hr1.1, fun t => g3 _ _ (hr1.2 t)⟩ fn.results.toList l hres
      obtain ⟨v, h3, h4⟩ := pack_ok h1 h2
      exact ⟨v, h3, v, g1, rfl, g2.back hh1 hfr, hh1 ▸ g2.ok, by rw [hr]; exact h4⟩
  cases e1 with
  | normal => exact fin
  | ret => exact fin
  | exit id => exact (hne id rfl).elim
theorem extern_call {P : Program} (f : Nat) (args : List AV) : CallF P f args (aextern P f args) := by
  intro g st w vs r st' hok hfree hlow hrel h1
  refine .inl ?_
  unfold aextern at h1
  cases hu : AV.toV.toVs args with
  | none => simp [hu, M.fail] at h1
  | some us =>
  rw [hu] at h1
  have := relL_exact hrel hu
  subst this
  obtain ⟨h2, rfl⟩ := of_some h1
  cases hev : ev P (callFunc f vs.toArray) with
  | none => rw [hev] at h2; cases h2
  | some nx =>
  rw [hev] at h2
  cases nx <;> simp [valueOf] at h2
  rename_i v
  subst h2
  exact ⟨v, w, g, ev_ok _ _ w hev, .refl _ _ _ _ _, hok, .sc v⟩
def LookOk (P : Program) (look : Look) : Prop := ∀ f p, look f = some p → ∀ args, CallF P f args (p.2 args)
theorem LookOk.tab {P : Program} {look : Look} (h : LookOk P look) : TabOkF P (tabX look) := by
  intro f b m hf args
  rw [find_tabX] at hf
  cases hb : Nat.blt f topF with
  | false => rw [hb] at hf; cases hf
  | true =>
    rw [hb, cond_true] at hf
    exact h f (b, m) hf args
theorem lookN_ok {P : Program} {base : Look} (hb : LookOk P base) (hl : LookFr base) (hm : P.follows .mixedOrders = true) (n : Nat) : ∀ d, LookOk P (lookN P base n d) ∧ LookFr (lookN P base n d) := by
  intro d
  induction d with
  | zero => exact ⟨hb, hl⟩
  | succ d ih =>
    have key : ∀ f p, lookN P base n (d + 1) f = some p → base f = some p ∨ ∀ args, CallF P f args (p.2 args) ∧ Framed (p.2 args) := by
      intro f p h
      change (match base f with
        | some p => some p
        | none =>
          match funX P f with
          | some xf => some (false, fun args => xf.run (lookN P base n d) n args)
          | none => bif entered P f then none else some (false, fun args => aextern P f args)) = some p at h
      cases h0 : base f with
      | some p' => rw [h0] at h; cases h; exact .inl rfl
      | none =>
        rw [h0] at h
        simp only at h
        cases h1 : funX P f with
        | none =>
          rw [h1] at h
          simp only at h
          cases h2 : entered P f with
          | true => rw [h2] at h; cases h
          | false =>
            rw [h2] at h; cases h
            refine .inr fun args => ⟨extern_call f args, ?_⟩
            show Framed (aextern P f args)
            unfold aextern
            split
            · exact Framed.of _
            · exact Framed.fail
        | some xf =>
          rw [h1] at h
          cases h
          refine .inr fun args => ?_
          unfold funX at h1
          cases hf : P.funcs[f]? with
          | none => rw [hf] at h1; cases h1
          | some fn =>
            rw [hf] at h1
            simp only at h1
            cases hbd : fn.body with
            | none => rw [hbd] at h1; cases h1
            | some body =>
              rw [hbd] at h1
              simp only at h1
              cases hc : (entered P f && slotsIn fn.ntmps body) with
              | false => rw [hc] at h1; cases h1
              | true =>
                rw [hc] at h1
                cases h1
                rw [Bool.and_eq_true] at hc
                exact ⟨run_call ih.1.tab ih.2 hm hf hbd hc.1 hc.2 _ n args, prepF_framed ih.1.tab ih.2 hm fn body _ n args⟩
    refine ⟨fun f p h args => ?_, fun f p h args => ?_⟩
    · rcases key f p h with h1 | h1
      · exact hb f p h1 args
      · exact (h1 args).1
    · rcases key f p h with h1 | h1
      · exact hl f p h1 args
      · exact (h1 args).2
end
end Go.Vm
namespace Go.Vm
noncomputable section
theorem run_loadX {P : Program} (w : World) : ∀ (ns : List Int) (a : Addr) (i : Nat) (acc : ByteArray), (∀ (j : Nat) x, ns[j]? = some x → (load (a.add (i + j))).run P w = .ok (.int .u8 x) w) →
    (Extern.Bytes.loadBytes (a.add i) ns.length acc).run P w = .ok ⟨acc.data ++ (ns.map fun n => UInt8.ofNat n.toNat).toArray⟩ w
  | [], a, i, acc, _ => by simp [Extern.Bytes.loadBytes]
  | x :: l, a, i, acc, h => by
    have h0 := h 0 x rfl
    rw [Nat.add_zero] at h0
    have e : (a.add i).add 1 = a.add (i + 1) := by
      unfold Addr.add
      by_cases hj : i = 0
      · subst hj; simp
      · simp [hj]; omega
    have ih := run_loadX (P := P) w l a (i + 1) (acc.push x.toNat.toUInt8) (fun j y hy => by
      have := h (j + 1) y (by simpa using hy)
      rw [show i + 1 + j = i + (j + 1) from by omega]; exact this)
    simp only [List.length_cons, Extern.Bytes.loadBytes, Sem.run_bind, h0, Result.andThen]
    rw [e, ih]
    congr 1
    apply ByteArray.ext
    simp [ByteArray.push, Nat.toUInt8]
theorem map_int {l : List Int} {l' : List Value} (h : l' = l.map (Value.int .u8)) (j : Nat) (x : Int) (hx : l[j]? = some x) : l'[j]? = some (.int .u8 x) := by rw [h, List.getElem?_map, hx]; rfl
theorem src_bytes {P : Program} {g st st1 w} {a : AV} {v : Value} {l : List AV} {bs : List UInt8} (hok : Ok g st.h w) (hr : Rel g w a v) (h : cellsIn 1 a st = some (l, st1)) (hb : bytesOf l = some bs) :
    (Extern.Bytes.bytesOf v).run P w = .ok ⟨bs.toArray⟩ w := by
  obtain ⟨_, _, n, news, hsrc, hrl⟩ := cellsIn_ok (P := P) hok hr h
  obtain ⟨ns, e1, e2⟩ := bytesOf_ok _ _ _ hrl hb
  obtain ⟨r1, r2⟩ := hsrc.run w rfl
  cases v with
  | slice p len cap =>
    have hn : n = len := by simp [Builtin.lenOf] at r1; exact r1.symm
    subst hn
    cases p with
    | none =>
      have : news = [] := by simpa [Builtin.firstCells] using r2
      subst this
      have : ns = [] := by simpa using e1.symm
      subst this
      subst e2
      rfl
    | some a =>
      simp only [Builtin.firstCells, Nat.mul_one] at r2
      unfold loadCells at r2
      obtain ⟨l', q1, q2, q3⟩ := loadCellsFrom_ok a n 0 #[] _ _ r2
      have hl' : l' = news := by simpa using q2.symm
      subst hl'
      have hlen : ns.length = n := by rw [← q1, e1, List.length_map]
      have := run_loadX (P := P) w ns a 0 .empty (fun j x hx => by
        exact q3 j _ (map_int e1 j x hx))
      rw [hlen] at this
      have e0 : a.add 0 = a := by simp [Addr.add]
      rw [e0] at this
      show (Extern.Bytes.loadBytes a n .empty).run P w = _
      rw [this, e2]
      congr 2
      simp [ByteArray.empty, ByteArray.emptyWithCapacity]
      rfl
  | string s =>
    have hn : n = s.size := by simp [Builtin.lenOf] at r1; exact r1.symm
    subst hn
    simp only [Builtin.firstCells, Sem.run_pure, Result.ok.injEq, and_true] at r2
    have h1 := congrArg Array.toList r2
    rw [e1] at h1
    show Result.ok s w = _
    congr 1
    apply ByteArray.ext
    apply Array.ext'
    rw [e2]
    have h2 := congrArg (List.map fun v : Value => match v with | .int _ n => UInt8.ofNat n.toNat | _ => 0) h1
    simp only [List.map_map, Array.toList_map] at h2
    have h3 : (s.extract 0 s.size).data.toList = s.data.toList := by simp
    rw [h3] at h2
    have h4 : (List.map ((fun v : Value => match v with | .int _ n => UInt8.ofNat n.toNat | _ => 0) ∘ fun b : UInt8 => Value.int .u8 (b.toNat : Int)) s.data.toList) = s.data.toList := by
      rw [show ((fun v : Value => match v with | .int _ n => UInt8.ofNat n.toNat | _ => 0) ∘ fun b : UInt8 => Value.int .u8 (b.toNat : Int)) = id from by funext b; simp]
      simp
    rw [h4] at h2
    rw [h2]
    simp
  | _ => simp [Builtin.lenOf, stuck] at r1
def sameE (args : List AV) : M AV :=
  match args with
  | [a] => .pure a
  | _ => .fail
def compareE (args : List AV) : M AV :=
  match args with
  | [a, b] => (cellsIn 1 a).bind fun x => (cellsIn 1 b).bind fun y =>
    match bytesOf x with
    | some x =>
      match bytesOf y with
      | some y => .pure (.sc (goInt (Lib.compareBytes x y)))
      | none => .fail
    | none => .fail
  | _ => .fail
def Still {α : Type} (m : M α) : Prop := ∀ st v st1, m st = some (v, st1) → st1.h = st.h ∧ st1.nx = st.nx
theorem Still.pure {α : Type} (a : α) : Still (M.pure a) := fun st v st1 h => by cases h; exact ⟨rfl, rfl⟩
theorem Still.fail {α : Type} : Still (M.fail : M α) := fun st v st1 h => by cases h
theorem Still.bind {α β : Type} {m : M α} {f : α → M β} (hm : Still m) (h : ∀ x, Still (f x)) : Still (m.bind f) := fun st v st1 hb => by
  obtain ⟨x, s1, h1, h2⟩ := bind_some hb
  have h3 := hm _ _ _ h1
  have h4 := h x _ _ _ h2
  exact ⟨h4.1.trans h3.1, h4.2.trans h3.2⟩
theorem Still.hget (id : Nat) : Still (Vm.hget id) := fun _st _v _st1 h => (hget_some h).2
theorem Still.cond {α : Type} {b : Bool} {x y : M α} (hx : Still x) (hy : Still y) : Still (bif b then x else y) := by cases b <;> assumption
theorem Still.cellsIn (sz : Nat) (v : AV) : Still (Vm.cellsIn sz v) := by
  unfold Vm.cellsIn cellsObj
  repeat' (first | exact Still.pure _ | exact Still.fail | apply Still.cond | (refine Still.bind (Still.hget _) fun x => ?_) | split)
theorem sameE_framed (args : List AV) : Framed (sameE args) := by
  unfold sameE; split
  · exact Framed.pure _
  · exact Framed.fail
theorem compareE_framed (args : List AV) : Framed (compareE args) := by
  unfold compareE; split
  · exact Framed.bind (Framed.cellsIn _ _) fun x => Framed.bind (Framed.cellsIn _ _) fun y => by
      split
      · split
        · exact Framed.pure _
        · exact Framed.fail
      · exact Framed.fail
  · exact Framed.fail
theorem compareE_still (args : List AV) : Still (compareE args) := by
  unfold compareE; split
  · exact Still.bind (Still.cellsIn _ _) fun x => Still.bind (Still.cellsIn _ _) fun y => by
      split
      · split
        · exact Still.pure _
        · exact Still.fail
      · exact Still.fail
  · exact Still.fail
theorem same_call {P : Program} {f : Nat} {fn : Func} (hf : P.funcs[f]? = some fn) (h1 : (fn.name == "runtime.NumGoroutine") = false) (h2 : fn.body.isNone = true) (h3 : Extern.findNext fn = none) (h4 : Extern.find fn = some Extern.AbiNoEscape.same) (args : List AV) :
    CallF P f args (sameE args) := by
  intro g st w vs r st' hok hfree hlow hrel hm
  refine .inl ?_
  unfold sameE at hm
  split at hm
  · rename_i a
    cases hm
    obtain ⟨v, rfl, hv⟩ := relL_one hrel
    refine ⟨v, w, g, ?_, .refl _ _ _ _ _, hok, hv⟩
    rw [run_callFunc_extern hf h1 h2 h3 h4]
    rfl
  · cases hm
theorem compare_call {P : Program} {f : Nat} {fn : Func} (hf : P.funcs[f]? = some fn) (h1 : (fn.name == "runtime.NumGoroutine") = false) (h2 : fn.body.isNone = true) (h3 : Extern.findNext fn = none) (h4 : Extern.find fn = some Extern.BytealgCompare.compare) (args : List AV) :
    CallF P f args (compareE args) := by
  intro g st w vs r st' hok hfree hlow hrel hm
  refine .inl ?_
  have hst := compareE_still _ _ _ _ hm
  unfold compareE at hm
  split at hm
  · rename_i a c
    obtain ⟨x, s1, e1, hm⟩ := bind_some hm
    obtain ⟨y, s2, e2, hm⟩ := bind_some hm
    cases hx : bytesOf x with
    | none => rw [hx] at hm; cases hm
    | some bx =>
    cases hy : bytesOf y with
    | none => rw [hx, hy] at hm; cases hm
    | some yb =>
    rw [hx, hy] at hm
    cases hm
    have hh := Still.cellsIn _ _ _ _ _ e1
    match vs, hrel with
    | [v, u], hrel =>
      have r1 := src_bytes (P := P) hok hrel.head e1 hx
      have r2 := src_bytes (P := P) (st := s1) (by rw [hh.1]; exact hok) hrel.tail.head e2 hy
      refine ⟨goInt (Lib.compareBytes bx yb), w, g, ?_, ?_, ?_, .sc _⟩
      · rw [run_callFunc_extern hf h1 h2 h3 h4]
        have : (Extern.BytealgCompare.compare #[v, u]).run P w = .ok (goInt (Lib.compareBytes bx yb)) w := by
          change Sem.run P (do pure (goInt (Extern.BytealgCompare.cmp (← Extern.Bytes.bytesOf v) (← Extern.Bytes.bytesOf u)))) w = _
          simp only [Sem.run_bind, r1, r2, Result.andThen, Sem.run_pure]
          rw [Lib.cmp_eq]
        show ((Extern.BytealgCompare.compare #[v, u]).run P w).andThen _ = _
        rw [this]
        rfl
      · rw [hst.1, hst.2]; exact .refl _ _ _ _ _
      · rw [hst.1]; exact hok
    | [], hrel => have := hrel.1; simp at this
    | [v], hrel => have := hrel.1; simp at this
    | _ :: _ :: _ :: _, hrel => have := hrel.1; simp at this
  · cases hm
def lookOf (l : List (Nat × Bool × (List AV → M AV))) : Look := fun f => List.rec (motive := fun _ => Option (Bool × (List AV → M AV))) none (fun p _ ih => bif Nat.beq p.1 f then some p.2 else ih) l
theorem lookOf_nil {P : Program} : LookOk P (lookOf []) ∧ LookFr (lookOf []) := ⟨(fun f p h => by cases h), (fun f p h => by cases h)⟩
theorem lookOf_cons {P : Program} {f : Nat} {b : Bool} {m : List AV → M AV} {l : List (Nat × Bool × (List AV → M AV))} (h1 : ∀ args, CallF P f args (m args)) (h2 : ∀ args, Framed (m args)) (h : LookOk P (lookOf l) ∧ LookFr (lookOf l)) :
    LookOk P (lookOf ((f, b, m) :: l)) ∧ LookFr (lookOf ((f, b, m) :: l)) := by
  have key : ∀ g p, lookOf ((f, b, m) :: l) g = some p → (g = f ∧ p = (b, m)) ∨ lookOf l g = some p := by
    intro g p hp
    change (bif Nat.beq f g then some (b, m) else lookOf l g) = some p at hp
    by_cases e : f = g
    · subst e
      rw [Nat.beq_refl, cond_true] at hp
      cases hp
      exact .inl ⟨rfl, rfl⟩
    · rw [beq_no e, cond_false] at hp
      exact .inr hp
  refine ⟨fun g p hp args => ?_, fun g p hp args => ?_⟩
  · rcases key g p hp with ⟨rfl, rfl⟩ | hp
    · exact h1 args
    · exact h.1 g p hp args
  · rcases key g p hp with ⟨rfl, rfl⟩ | hp
    · exact h2 args
    · exact h.2 g p hp args
theorem callPure_of_run {P : Program} {look : Look} (hl : LookOk P look) {f : Nat} {p : Bool × (List AV → M AV)} (hp : look f = some p) (he : entered P f = true) {args : List AV} {ρ : Type} (R : RC ρ) (fr : Bool) (x : ρ) {r : AV} {st' : St} (h : p.2 args (stK []) = some (r, st')) (hx : R.get fr st'.h r = some x) :
    CallPure P f args (R.E fr x) := by
  intro K w vs hK hrel
  have hok : Ok (gK w.heap.size K) (stK []).h w := ⟨Nat.le_refl _, fun o x hx => by simp [stK, heapK, Tr.get_nil] at hx, fun o o' x x' b base base' _ hx => by simp [stK, heapK, Tr.get_nil] at hx, hK⟩
  have fin : ∀ v w' g', Step (gK w.heap.size K) (stK []).h w (stK []).nx st'.nx g' st'.h w' → Ok g' st'.h w' → Rel g' w' r v → Quiet w w' ∧ Rel (gK w.heap.size (newK K w w')) w' (R.E fr x) v := by
    intro v w' g' s hok' hr
    have hnone : ∀ o base b, (Tr.get (stK []).h o).isSome = true → (gK w.heap.size K).inj o ≠ some (b, base) := fun o base b ho => by simp [stK, heapK, Tr.get_nil] at ho
    refine ⟨⟨s.size, fun b hb => s.frame b hb (fun o base ho => hnone o base b ho), s.os, s.tape, s.output⟩, ?_⟩
    refine R.ok hok' ⟨fun b j hk => ?_, fun o cells k e' e ho b base hi j hj => ?_⟩ (fun _ => ?_) hr hx
    · rcases s.Kold b j hk with h5 | h5 | ⟨o, base, h5, _⟩
      · exact .inl h5
      · exact .inr ⟨h5, hok'.K b j hk⟩
      · simp [stK, heapK, Tr.get_nil] at h5
    · obtain ⟨b', base', h5, _, h6⟩ := hok'.obj o _ ho
      rw [hi] at h5; cases h5
      rcases s.own o b base (by rw [ho]; rfl) hi with h7 | ⟨o', base', h7, _⟩
      · exact .inr ⟨h7, h6.lt⟩
      · simp [stK, heapK, Tr.get_nil] at h7
    · exact Nat.le_of_eq s.ext.b0.symm
  rcases hl f p hp args (gK w.heap.size K) (stK []) w vs r st' hok (fun _ _ _ => rfl) (fun o x hx => by simp [stK, heapK, Tr.get_nil] at hx) hrel h with ⟨v, w', g', q1, q2, q3, q4⟩ | ⟨q1, q2⟩
  · rw [entered_ok he] at q1; cases q1
  · refine .inr ⟨q1, q2.mono ?_⟩
    rintro e w' ⟨v, g', rfl, p2, p3, p4⟩
    exact ⟨v, rfl, fin v w' g' p2 p3 p4⟩
end
end Go.Vm
namespace Go.Vm
noncomputable section
def oneC (c : AV) : Bool :=
  match c with
  | .sc v => match v with
    | .agg _ => false
    | _ => true
  | .agg _ => false
  | _ => true
def chunkN (sz : Nat) : Nat → List AV → List AV
  | 0, _ => []
  | n + 1, l => .agg (l.take sz) :: chunkN sz n (l.drop sz)
def chunkC (sz n : Nat) (l : List AV) : Option (List AV) := bif Nat.beq sz 1 then (bif l.all oneC then some l else none) else some (chunkN sz n l)
def mapX (f : AV → M AV) (l : List AV) : M (List AV) := List.rec (motive := fun _ => M (List AV)) (M.pure []) (fun a _ ih => (f a).bind fun x => ih.bind fun l => M.pure (x :: l)) l
def deepRow (fr : Bool) (r : List AV → M (List AV)) (off len sz : Nat) (x : AObj) : M AV :=
  match x with
  | .row cells _ _ _ => bif Nat.ble (off + len * sz) cells.length then (r ((cells.drop off).take (len * sz))).bind fun l => (M.of (chunkC sz len l)).bind fun es => M.pure (.vl fr sz es) else M.fail
  | _ => M.fail
def deep1 (fr : Bool) (f : AV → M AV) (a : AV) : M AV :=
  match a with
  | .sc _ => M.pure a
  | .agg l => (mapX f l).bind fun l => M.pure (.agg l)
  | .tup l => (mapX f l).bind fun l => M.pure (.tup l)
  | .vl loc sz es => bif loc || !fr then (mapX f es).bind fun l => M.pure (.vl fr sz l) else M.fail
  | .sl o off len sz => (hget o).bind (deepRow fr (mapX f) off len sz)
  | .ez => M.pure a
  | _ => M.fail
def deep (fr : Bool) (n : Nat) : AV → M AV := Nat.rec (motive := fun _ => AV → M AV) (fun _ => M.fail) (fun _ ih => deep1 fr ih) n
theorem oneC_cells {c : AV} (h : oneC c = true) : c.cells = [c] := by
  cases c with
  | sc v => cases v <;> first | rfl | cases h
  | agg l => cases h
  | _ => rfl
theorem chunkN_cells {sz : Nat} : ∀ (n : Nat) (l : List AV), l.length = n * sz → (chunkN sz n l).flatMap AV.cells = l ∧ (chunkN sz n l).length = n ∧ ∀ e ∈ chunkN sz n l, e.cells.length = sz
  | 0, l, h => by
    have : l = [] := List.eq_nil_of_length_eq_zero (by simpa using h)
    subst this
    exact ⟨rfl, rfl, fun e he => by cases he⟩
  | n + 1, l, h => by
    rw [Nat.succ_mul] at h
    obtain ⟨h1, h2, h3⟩ := chunkN_cells (sz := sz) n (l.drop sz) (by rw [List.length_drop]; omega)
    refine ⟨?_, by simp [chunkN, h2], fun e he => ?_⟩
    · rw [chunkN, List.flatMap_cons, h1]
      show l.take sz ++ l.drop sz = l
      exact List.take_append_drop sz l
    · rcases List.mem_cons.1 he with rfl | he
      · show (l.take sz).length = sz
        rw [List.length_take]; omega
      · exact h3 e he
theorem chunkC_cells {sz n : Nat} {l es : List AV} (hl : l.length = n * sz) (h : chunkC sz n l = some es) : es.flatMap AV.cells = l ∧ es.length = n ∧ ∀ e ∈ es, e.cells.length = sz := by
  unfold chunkC at h
  cases hb : Nat.beq sz 1 with
  | false => rw [hb] at h; cases h; exact chunkN_cells n l hl
  | true =>
    rw [hb, cond_true] at h
    have h1 := Nat.eq_of_beq_eq_true hb
    subst h1
    cases ha : l.all oneC with
    | false => rw [ha] at h; cases h
    | true =>
      rw [ha] at h
      cases h
      rw [List.all_eq_true] at ha
      refine ⟨?_, by omega, fun e he => by rw [oneC_cells (ha e he)]; rfl⟩
      clear hl
      induction l with
      | nil => rfl
      | cons a l ih => rw [List.flatMap_cons, oneC_cells (ha a (by simp)), ih (fun x hx => ha x (by simp [hx]))]; rfl
structure DeepA (fr : Bool) (h : Tr AObj) (a x : AV) : Prop where
  len : x.cells.length = a.cells.length
  rel : ∀ {g w K b0 v}, Ok g h w → Lends g h K → (fr = true → b0 ≤ g.b0) → Rel g w a v → Rel (gK b0 K) w x v
  cel : ∀ {g w K b0 vs}, Ok g h w → Lends g h K → (fr = true → b0 ≤ g.b0) → RelL g w a.cells vs → RelL (gK b0 K) w x.cells vs
structure DeepL (fr : Bool) (h : Tr AObj) (l l' : List AV) : Prop where
  len : l'.length = l.length
  size : ∀ sz, (∀ e ∈ l, e.cells.length = sz) → ∀ e ∈ l', e.cells.length = sz
  rel : ∀ {g w K b0 vs}, Ok g h w → Lends g h K → (fr = true → b0 ≤ g.b0) → RelL g w l vs → RelL (gK b0 K) w l' vs
  cel : ∀ {g w K b0 vs}, Ok g h w → Lends g h K → (fr = true → b0 ≤ g.b0) → RelL g w (l.flatMap AV.cells) vs → RelL (gK b0 K) w (l'.flatMap AV.cells) vs
theorem DeepL.nil {fr h} : DeepL fr h [] [] where
  len := rfl
  size _ _ e he := by cases he
  rel _ _ _ hr := ⟨hr.1, fun i a v ha => by simp at ha⟩
  cel _ _ _ hr := ⟨hr.1, fun i a v ha => by simp at ha⟩
theorem relL_un {g w a l vs} (h : RelL g w (a :: l) vs) : ∃ v us, vs = v :: us ∧ Rel g w a v ∧ RelL g w l us := by
  match vs, h with
  | [], h => have := h.1; simp at this
  | v :: us, h => exact ⟨v, us, rfl, h.head, h.tail⟩
theorem DeepL.cons {fr h a x l l'} (h1 : DeepA fr h a x) (h2 : DeepL fr h l l') : DeepL fr h (a :: l) (x :: l') where
  len := by simp [h2.len]
  size sz hs e he := by
    rcases List.mem_cons.1 he with rfl | he
    · rw [h1.len]; exact hs a (by simp)
    · exact h2.size sz (fun e he => hs e (by simp [he])) e he
  rel hok hl hb hr := by
    obtain ⟨v, us, rfl, q1, q2⟩ := relL_un hr
    exact RelL.cons (h1.rel hok hl hb q1) (h2.rel hok hl hb q2)
  cel hok hl hb hr := by
    rw [List.flatMap_cons] at hr ⊢
    obtain ⟨u, u', rfl, q1, q2⟩ := hr.split
    exact (h1.cel hok hl hb q1).append (h2.cel hok hl hb q2)
theorem DeepA.one {fr h a x} (ha : a.cells = [a]) (hx : x.cells = [x]) (rel : ∀ {g w K b0 v}, Ok g h w → Lends g h K → (fr = true → b0 ≤ g.b0) → Rel g w a v → Rel (gK b0 K) w x v) : DeepA fr h a x where
  len := by rw [ha, hx]; rfl
  rel := rel
  cel hok hl hb hr := by
    rw [ha] at hr
    rw [hx]
    obtain ⟨v, rfl, h1⟩ := relL_one hr
    exact RelL.one (rel hok hl hb h1)
theorem vl_cells {fr b0 K w sz} {es : List AV} {vs : List Value} {b off cap : Nat} (hr : RelL (gK b0 K) w (es.flatMap AV.cells) vs) (hsz : ∀ e ∈ es, e.cells.length = sz) (hcap : es.length ≤ cap) (hb : fr = true → b0 ≤ b)
    (hc : ∀ j v, vs[j]? = some v → K b (off + j) ∧ w.cell? ⟨b, off + j, none⟩ = some v) : Rel (gK b0 K) w (.vl fr sz es) (.slice (some ⟨b, off, none⟩) es.length cap) :=
  Rel.vl (g := gK b0 K) (w := w) fr sz es b off cap (fun j => vs.getD j undef) hsz hb hcap
    (fun j a ha => by
      obtain ⟨v, hv, _⟩ := hr.get ha
      have := hc j v hv
      exact ⟨this.1, by rw [this.2, List.getD_eq_getElem?_getD, hv]; rfl⟩)
    (fun j a ha => by
      obtain ⟨v, hv, hrel⟩ := hr.get ha
      show Rel _ _ a (vs.getD j undef)
      rw [List.getD_eq_getElem?_getD, hv]; exact hrel)
theorem deep_vl {fr h loc sz} {es es' : List AV} (hd : DeepL fr h es es') (hb : (loc || !fr) = true) : DeepA fr h (.vl loc sz es) (.vl fr sz es') := by
  refine DeepA.one rfl rfl fun {g w K b0 v} hok hl hb0 hr => ?_
  cases hr with
  | vlnil => have := hd.len; rw [List.eq_nil_of_length_eq_zero this]; exact .vlnil _ _
  | vlz _ _ a => have := hd.len; rw [List.eq_nil_of_length_eq_zero this]; exact .vlz _ _ a
  | vl _ _ _ b off cap c hsz hloc hcap hc hrel =>
    have hloc' : fr = true → b0 ≤ b := fun e => by
      rw [e] at hb
      simp at hb
      have := hloc hb
      have := hb0 e
      omega
    have hlist : RelL g w (es.flatMap AV.cells) (valsOf 0 (es.flatMap AV.cells).length c) := by
      refine ⟨by simp [valsOf], fun i a v ha hv => ?_⟩
      have hi := (List.getElem?_eq_some_iff.1 ha).1
      simp only [valsOf, List.getElem?_map, List.getElem?_range hi, Option.map_some, Option.some.injEq, Nat.zero_add] at hv
      subst hv
      exact hrel i a ha
    have q1 := hd.cel (b0 := b0) hok hl hb0 hlist
    rw [← hd.len]
    refine vl_cells q1 (hd.size sz hsz) (by rw [hd.len]; exact hcap) hloc' (fun j v hv => ?_)
    have hj : j < (es.flatMap AV.cells).length := by
      have := (List.getElem?_eq_some_iff.1 hv).1; simpa [valsOf] using this
    simp only [valsOf, List.getElem?_map, List.getElem?_range hj, Option.map_some, Option.some.injEq, Nat.zero_add] at hv
    subst hv
    have := hc j _ (List.getElem?_eq_getElem hj)
    exact ⟨hl.K _ _ this.1, this.2⟩
theorem deep_sl {fr h o off len sz k st et} {cells l es : List AV} (ho : h.get o = some (.row cells k st et)) (hle : off + len * sz ≤ cells.length) (hd : DeepL fr h ((cells.drop off).take (len * sz)) l) (he : chunkC sz len l = some es) : DeepA fr h (.sl o off len sz) (.vl fr sz es) := by
  have hlen : ((cells.drop off).take (len * sz)).length = len * sz := by simp; omega
  obtain ⟨e1, e2, e3⟩ := chunkC_cells (hd.len.trans hlen) he
  refine DeepA.one rfl rfl fun {g w K b0 v} hok hl hb0 hr => ?_
  cases hr with
  | slz _ _ _ a => rw [List.eq_nil_of_length_eq_zero e2]; exact .vlz _ _ a
  | sln _ _ _ => rw [List.eq_nil_of_length_eq_zero e2]; exact .vlnil _ _
  | sl _ _ _ _ b base cap hi hcap hm hroom =>
    obtain ⟨b', base', hi', hbb, hrow⟩ := hok.obj o _ ho
    rw [hi] at hi'; cases hi'
    obtain ⟨cs, fz, r1, r2, r3, _⟩ := hrow
    have hpart : RelL g w ((cells.drop off).take (len * sz)) (valsOf (base + off) (len * sz) (fun j => cs.getD j undef)) := by
      refine ⟨by simp [valsOf]; omega, fun i a v ha hv => ?_⟩
      rw [List.getElem?_take, List.getElem?_drop] at ha
      by_cases hil : i < len * sz
      · rw [if_pos hil] at ha
        obtain ⟨u, hu, hrel⟩ := r3 _ a ha
        simp only [valsOf, List.getElem?_map, List.getElem?_range hil, Option.map_some, Option.some.injEq] at hv
        subst hv
        rw [Array.getD_eq_getD_getElem?, Nat.add_assoc, hu]
        exact hrel
      · rw [if_neg hil] at ha; cases ha
    have q1 := hd.rel (b0 := b0) hok hl hb0 hpart
    rw [← e1] at q1
    rw [← e2]
    refine vl_cells q1 e3 (by omega) (fun e => by have := hb0 e; omega) (fun j v hv => ?_)
    have hj : j < len * sz := by
      have := (List.getElem?_eq_some_iff.1 hv).1; simpa [valsOf] using this
    simp only [valsOf, List.getElem?_map, List.getElem?_range hj, Option.map_some, Option.some.injEq] at hv
    obtain ⟨u, hu, _⟩ := r3 (off + j) (cells[off + j]'(by omega)) (by simp)
    have hrows := hl.rows o cells k st et ho b base hi (off + j) (by omega)
    rw [← Nat.add_assoc] at hrows hu
    refine ⟨hrows, ?_⟩
    rw [cell_eq r1, hu, ← hv, Array.getD_eq_getD_getElem?, hu]
    rfl
def DeepF (fr : Bool) (f : AV → M AV) : Prop := ∀ a st x st1, f a st = some (x, st1) → st1.h = st.h ∧ st1.nx = st.nx ∧ DeepA fr st.h a x
theorem mapX_deep {fr} {f : AV → M AV} (hf : DeepF fr f) : ∀ (l : List AV) (st : St) (l' : List AV) (st1 : St), mapX f l st = some (l', st1) → st1.h = st.h ∧ st1.nx = st.nx ∧ DeepL fr st.h l l'
  | [], st, l', st1, h => by cases h; exact ⟨rfl, rfl, .nil⟩
  | a :: l, st, l', st1, h => by
    change (M.bind (f a) fun x => M.bind (mapX f l) fun l => M.pure (x :: l)) st = _ at h
    obtain ⟨x, s1, h1, h⟩ := bind_some h
    obtain ⟨q, s2, h2, h⟩ := bind_some h
    cases h
    obtain ⟨e1, e2, e3⟩ := hf a st x s1 h1
    obtain ⟨e4, e5, e6⟩ := mapX_deep hf l s1 q _ h2
    rw [e1] at e6
    exact ⟨e4.trans e1, e5.trans e2, .cons e3 e6⟩
theorem relL_any {g g' w vs} {l : List Value} (h : RelL g w (l.map .sc) vs) : RelL g' w (l.map .sc) vs :=
  ⟨h.1, fun i a v ha hv => by
    have h1 := h.2 i a v ha hv
    rw [List.getElem?_map, Option.map_eq_some_iff] at ha
    obtain ⟨u, _, rfl⟩ := ha
    cases h1
    exact .sc _⟩
theorem deep1_deep {fr} {f : AV → M AV} (hf : DeepF fr f) : DeepF fr (deep1 fr f) := by
  intro a st x st1 h
  cases a with
  | sc v =>
    cases h
    exact ⟨rfl, rfl, rfl, (fun _ _ _ hr => by cases hr; exact .sc _), fun _ _ _ hr => relL_any hr⟩
  | ez => cases h; exact ⟨rfl, rfl, .one rfl rfl fun _ _ _ hr => by cases hr; exact .ez _⟩
  | agg l =>
    change ((mapX f l).bind fun l => M.pure (AV.agg l)) st = some (x, st1) at h
    obtain ⟨l', s1, h1, h⟩ := bind_some h
    cases h
    obtain ⟨e1, e2, e3⟩ := mapX_deep hf l st l' _ h1
    refine ⟨e1, e2, e3.len, fun {g w K b0 v} hok hl hb hr => ?_, fun hok hl hb hr => e3.rel hok hl hb hr⟩
    cases hr with
    | agg _ vs hs hh =>
      have q := e3.rel (b0 := b0) hok hl hb (vs := vs.toList) ⟨by simpa using hs, fun i a v ha hv => hh i a v ha (by simpa using hv)⟩
      exact .agg _ vs (by rw [hs, e3.len]) (fun i a v ha hv => q.2 i a v ha (by simpa using hv))
  | tup l =>
    change ((mapX f l).bind fun l => M.pure (AV.tup l)) st = some (x, st1) at h
    obtain ⟨l', s1, h1, h⟩ := bind_some h
    cases h
    obtain ⟨e1, e2, e3⟩ := mapX_deep hf l st l' _ h1
    refine ⟨e1, e2, .one rfl rfl fun {g w K b0 v} hok hl hb hr => ?_⟩
    cases hr with
    | tup _ vs hs hh =>
      have q := e3.rel (b0 := b0) hok hl hb (vs := vs.toList) ⟨by simpa using hs, fun i a v ha hv => hh i a v ha (by simpa using hv)⟩
      exact .tup _ vs (by rw [hs, e3.len]) (fun i a v ha hv => q.2 i a v ha (by simpa using hv))
  | vl loc sz es =>
    change (bif loc || !fr then (mapX f es).bind fun l => M.pure (AV.vl fr sz l) else M.fail) st = some (x, st1) at h
    cases hb : (loc || !fr) with
    | false => rw [hb] at h; cases h
    | true =>
      rw [hb, cond_true] at h
      obtain ⟨l', s1, h1, h⟩ := bind_some h
      cases h
      obtain ⟨e1, e2, e3⟩ := mapX_deep hf es st l' _ h1
      exact ⟨e1, e2, deep_vl e3 hb⟩
  | sl o off len sz =>
    change ((hget o).bind (deepRow fr (mapX f) off len sz)) st = _ at h
    obtain ⟨ob, s1, h1, h⟩ := bind_some h
    obtain ⟨ho, hs1⟩ := hget_some h1
    cases ob with
    | row cells k s e =>
      change (bif Nat.ble (off + len * sz) cells.length then (mapX f ((cells.drop off).take (len * sz))).bind fun l => (M.of (chunkC sz len l)).bind fun es => M.pure (AV.vl fr sz es) else M.fail) s1 = some (x, st1) at h
      cases hle : Nat.ble (off + len * sz) cells.length with
      | false => rw [hle] at h; cases h
      | true =>
        rw [hle, cond_true] at h
        obtain ⟨l, s2, h2, h⟩ := bind_some h
        obtain ⟨es, s3, h3, h⟩ := bind_some h
        cases h
        obtain ⟨h4, rfl⟩ := of_some h3
        obtain ⟨e1, e2, e3⟩ := mapX_deep hf _ s1 l _ h2
        rw [hs1.1] at e1 e3
        rw [hs1.2] at e2
        exact ⟨e1, e2, deep_sl ho (Nat.le_of_ble_eq_true hle) e3 h4⟩
    | _ => cases h
  | _ => cases h
theorem deep_deep (fr : Bool) : ∀ n, DeepF fr (deep fr n)
  | 0 => fun _ _ _ _ h => by cases h
  | n + 1 => deep1_deep (deep_deep fr n)
theorem mapX_framed {f : AV → M AV} (hf : ∀ a, Framed (f a)) : ∀ l, Framed (mapX f l)
  | [] => Framed.pure _
  | a :: l => Framed.bind (hf a) fun _ => Framed.bind (mapX_framed hf l) fun _ => Framed.pure _
theorem deep1_framed {fr} {f : AV → M AV} (hf : ∀ a, Framed (f a)) (a : AV) : Framed (deep1 fr f a) := by
  unfold deep1 deepRow
  repeat' (first | exact Framed.pure _ | exact Framed.fail | exact Framed.of _ | exact Framed.hget _ | exact mapX_framed hf _ | apply Framed.cond | (refine Framed.bind ?_ fun x => ?_) | split)
theorem deep_framed (fr : Bool) : ∀ n a, Framed (deep fr n a)
  | 0, _ => Framed.fail
  | n + 1, a => deep1_framed (deep_framed fr n) a
namespace Lit
abbrev I (k : IntKind) (n : Int) : AV := .sc (.int k n)
abbrev B (b : Bool) : AV := .sc (.bool b)
abbrev S (l : List UInt8) : AV := .sc (.string ⟨⟨l⟩⟩)
abbrev N : AV := .sc (.slice none 0 0)
abbrev G (l : List AV) : AV := .agg l
abbrev T (l : List AV) : AV := .tup l
abbrev V (loc : Bool) (sz : Nat) (es : List AV) : AV := .vl loc sz es
end Lit
abbrev Memo := List (List AV × AV)
def pickL (ds : List AV) : Memo → Option AV
  | [] => none
  | p :: r => bif eqAV.eqL p.1 ds then some p.2 else pickL ds r
theorem pickL_mem {ds : List AV} {r : AV} : ∀ {l : Memo}, pickL ds l = some r → (ds, r) ∈ l
  | [], h => by cases h
  | p :: l, h => by
    unfold pickL at h
    cases hb : eqAV.eqL p.1 ds with
    | false => rw [hb] at h; exact List.mem_cons_of_mem _ (pickL_mem h)
    | true =>
      rw [hb] at h
      cases h
      rw [← eqAVL_eq hb]
      exact List.mem_cons_self
def memoM (n : Nat) (l : Memo) (args : List AV) : M AV := (mapX (deep false n) args).bind fun ds => M.of (pickL ds l)
theorem memo_framed (n : Nat) (l : Memo) (args : List AV) : Framed (memoM n l args) := Framed.bind (mapX_framed (deep_framed false n) _) fun _ => Framed.of _
def MemoOk (P : Program) (f : Nat) (l : Memo) : Prop := ∀ p ∈ l, p.2.fresh = true ∧ CallPure P f p.1 p.2
theorem MemoOk.nil {P f} : MemoOk P f [] := fun p hp => by cases hp
theorem MemoOk.cons {P f a r l} (hf : r.fresh = true) (h : CallPure P f a r) (hl : MemoOk P f l) : MemoOk P f ((a, r) :: l) := fun p hp => by
  rcases List.mem_cons.1 hp with rfl | hp
  · exact ⟨hf, h⟩
  · exact hl p hp
theorem memo_call {P : Program} {f n : Nat} {l : Memo} (h : MemoOk P f l) (args : List AV) : CallF P f args (memoM n l args) := by
  intro g st w vs r st' hok hfree _ hrel hm
  obtain ⟨ds, s1, h1, hm⟩ := bind_some hm
  obtain ⟨h2, rfl⟩ := of_some hm
  obtain ⟨hfr, hp⟩ := h _ (pickL_mem h2)
  obtain ⟨e1, e2, e3⟩ := mapX_deep (deep_deep false n) args st ds _ h1
  have hargs := e3.rel (b0 := w.heap.size) (K := fun b _ => b < w.heap.size) hok ⟨fun b j hk => hok.K b j hk, fun o cells k s e ho b base hi j hj => by
    obtain ⟨b', base', h5, _, h6⟩ := hok.obj o _ ho
    rw [hi] at h5; cases h5
    exact h6.lt⟩ (fun h => by cases h) hrel
  rw [e1, e2]
  have hX : ∀ v w', Quiet w w' ∧ Rel (gK w.heap.size (newK (fun b _ => b < w.heap.size) w w')) w' r v → Quiet w w' ∧ Rel (g.more w w') w' r v := fun v w' hv => ⟨hv.1, hv.2.fresh hfr hok.size (fun b j hk hle => by
    rcases hk with hk | hk
    · omega
    · exact .inr hk)⟩
  rcases hp (fun b _ => b < w.heap.size) w vs (fun _ _ h => h) hargs with ⟨v, q1, q2⟩ | ⟨q1, q2⟩
  · obtain ⟨q, hr⟩ := hX v w q2
    have := quiet_step (lo := st.nx) (hi := st.nx) hok q
    exact .inl ⟨v, w, _, q1, this.1, this.2, hr⟩
  · refine .inr ⟨q1, q2.mono ?_⟩
    rintro e w' ⟨v, rfl, h3⟩
    obtain ⟨q, hr⟩ := hX v w' h3
    have := quiet_step (lo := st.nx) (hi := st.nx) hok q
    exact ⟨v, _, rfl, this.1, this.2, hr⟩
def rDeep (n : Nat) : RC AV where
  E _ x := x
  D fr h a := match deep fr n a { h := h, nx := 0, rl := [], wl := [] } with
    | some p => some p.1
    | none => none
  ok := by
    intro fr g h w K b0 a v x hok hl hb hr hd
    split at hd
    · rename_i p hp
      cases hd
      exact ((deep_deep fr n) a _ p.1 p.2 hp).2.2.rel hok hl hb hr
    · cases hd
def ranTo (n : Nat) (o : Option (AV × St)) (x : AV) : Bool :=
  match o with
  | some p => match (rDeep n).get true p.2.h p.1 with
    | some y => eqAV y x && x.fresh
    | none => false
  | none => false
theorem callPure_ran {P : Program} {look : Look} (hl : LookOk P look) {f n : Nat} (he : entered P f = true) {args : List AV} {x : AV} (h : ranTo n (match look f with | some p => p.2 args (stK []) | none => none) x = true) : x.fresh = true ∧ CallPure P f args x := by
  unfold ranTo at h
  cases hp : look f with
  | none => rw [hp] at h; cases h
  | some p =>
    rw [hp] at h
    dsimp only at h
    cases hq : p.2 args (stK []) with
    | none => rw [hq] at h; cases h
    | some q =>
      rw [hq] at h
      dsimp only at h
      cases hy : (rDeep n).get true q.2.h q.1 with
      | none => rw [hy] at h; cases h
      | some y =>
        rw [hy] at h
        simp only [Bool.and_eq_true] at h
        have hx := eqAV_eq h.1
        subst hx
        exact ⟨h.2, callPure_of_run hl hp he (rDeep n) true y (r := q.1) (st' := q.2) hq hy⟩
end
end Go.Vm
section
set_option linter.unusedVariables false
namespace Go.Proofs.YtcndpdkcagkdaabGreat.seekKnown
open Go.Vm Go.Vm.Lit
set_option maxRecDepth 1000000
noncomputable def pv0 : AV := (V false 8 [(G [(V false 1 [(S [97])]), (I .u16 (6)), (I .u16 (1)), (I .u32 (60)), (V false 1 [(V false 1 [(S [110, 115]), (S [97])]), (V false 1 [(S [97])])]), (V false 1 [(I .u32 (1)), (I .u32 (2)), (I .u32 (3)), (I .u32 (4)), (I .u32 (30))]), (N), (N)]), (G [(V false 1 [(S [97])]), (I .u16 (2)), (I .u16 (1)), (I .u32 (60)), (V false 1 [(V false 1 [(S [110, 115]), (S [97])])]), (N), (N), (N)]), (G [(V false 1 [(S [110, 115]), (S [97])]), (I .u16 (1)), (I .u16 (1)), (I .u32 (60)), (N), (N), (N), (V false 1 [(I .u8 (10)), (I .u8 (0)), (I .u8 (0)), (I .u8 (1))])]), (G [(V false 1 [(S [119, 119, 119]), (S [97])]), (I .u16 (5)), (I .u16 (1)), (I .u32 (60)), (V false 1 [(V false 1 [(S [110, 115]), (S [97])])]), (N), (N), (N)]), (G [(V false 1 [(S [98]), (S [97])]), (I .u16 (2)), (I .u16 (1)), (I .u32 (60)), (V false 1 [(V false 1 [(S [110, 115]), (S [98]), (S [97])])]), (N), (N), (N)]), (G [(V false 1 [(S [110, 115]), (S [98]), (S [97])]), (I .u16 (1)), (I .u16 (1)), (I .u32 (60)), (N), (N), (N), (V false 1 [(I .u8 (10)), (I .u8 (0)), (I .u8 (0)), (I .u8 (2))])]), (G [(V false 1 [(S [42]), (S [119]), (S [97])]), (I .u16 (1)), (I .u16 (1)), (I .u32 (60)), (N), (N), (N), (V false 1 [(I .u8 (10)), (I .u8 (0)), (I .u8 (0)), (I .u8 (3))])])])
noncomputable def pv1 : AV := (T [(V true 5 [(G [(V true 1 [(S [97])]), (I .u16 (6)), (I .u16 (1)), (I .u32 (60)), (V true 4 [(G [(V true 1 [(V true 1 [(S [110, 115]), (S [97])]), (V true 1 [(S [97])])]), (V true 1 [(I .u32 (1)), (I .u32 (2)), (I .u32 (3)), (I .u32 (4)), (I .u32 (30))]), (N), (N)])])]), (G [(V true 1 [(S [97])]), (I .u16 (2)), (I .u16 (1)), (I .u32 (60)), (V true 4 [(G [(V true 1 [(V true 1 [(S [110, 115]), (S [97])])]), (N), (N), (N)])])]), (G [(V true 1 [(S [110, 115]), (S [97])]), (I .u16 (1)), (I .u16 (1)), (I .u32 (60)), (V true 4 [(G [(N), (N), (N), (V true 1 [(I .u8 (10)), (I .u8 (0)), (I .u8 (0)), (I .u8 (1))])])])]), (G [(V true 1 [(S [119, 119, 119]), (S [97])]), (I .u16 (5)), (I .u16 (1)), (I .u32 (60)), (V true 4 [(G [(V true 1 [(V true 1 [(S [110, 115]), (S [97])])]), (N), (N), (N)])])]), (G [(V true 1 [(S [98]), (S [97])]), (I .u16 (2)), (I .u16 (1)), (I .u32 (60)), (V true 4 [(G [(V true 1 [(V true 1 [(S [110, 115]), (S [98]), (S [97])])]), (N), (N), (N)])])]), (G [(V true 1 [(S [110, 115]), (S [98]), (S [97])]), (I .u16 (1)), (I .u16 (1)), (I .u32 (60)), (V true 4 [(G [(N), (N), (N), (V true 1 [(I .u8 (10)), (I .u8 (0)), (I .u8 (0)), (I .u8 (2))])])])]), (G [(V true 1 [(S [42]), (S [119]), (S [97])]), (I .u16 (1)), (I .u16 (1)), (I .u32 (60)), (V true 4 [(G [(N), (N), (N), (V true 1 [(I .u8 (10)), (I .u8 (0)), (I .u8 (0)), (I .u8 (3))])])])])]), (I .i64 (0))])
noncomputable def pb0 : Look := lookOf [(102, true, sameE), (99, true, compareE)]
theorem pb0Ok : LookOk PP pb0 ∧ LookFr pb0 :=
  lookOf_cons (fun args => same_call (fn := (PP.funcs[102]?).getD default) (by kernel_rfl) (by kernel_rfl) (by kernel_rfl) (by kernel_rfl) (by kernel_rfl) args) (fun args => sameE_framed args) (lookOf_cons (fun args => compare_call (fn := (PP.funcs[99]?).getD default) (by kernel_rfl) (by kernel_rfl) (by kernel_rfl) (by kernel_rfl) (by kernel_rfl) args) (fun args => compareE_framed args) (lookOf_nil))
noncomputable def pa0 : List AV := [pv0]
noncomputable def pr0 : AV := pv1
theorem pm0 : pr0.fresh = true ∧ CallPure PP 35 pa0 pr0 :=
  callPure_ran (n := 60) (lookN_ok pb0Ok.1 pb0Ok.2 mixed 100000 60).1 (by kernel_rfl) (by kernel_rfl)
noncomputable def pv2 : AV := (V false 5 [(G [(V false 1 [(S [97])]), (I .u16 (6)), (I .u16 (1)), (I .u32 (60)), (V false 4 [(G [(V false 1 [(V false 1 [(S [110, 115]), (S [97])]), (V false 1 [(S [97])])]), (V false 1 [(I .u32 (1)), (I .u32 (2)), (I .u32 (3)), (I .u32 (4)), (I .u32 (30))]), (N), (N)])])]), (G [(V false 1 [(S [97])]), (I .u16 (2)), (I .u16 (1)), (I .u32 (60)), (V false 4 [(G [(V false 1 [(V false 1 [(S [110, 115]), (S [97])])]), (N), (N), (N)])])]), (G [(V false 1 [(S [110, 115]), (S [97])]), (I .u16 (1)), (I .u16 (1)), (I .u32 (60)), (V false 4 [(G [(N), (N), (N), (V false 1 [(I .u8 (10)), (I .u8 (0)), (I .u8 (0)), (I .u8 (1))])])])]), (G [(V false 1 [(S [119, 119, 119]), (S [97])]), (I .u16 (5)), (I .u16 (1)), (I .u32 (60)), (V false 4 [(G [(V false 1 [(V false 1 [(S [110, 115]), (S [97])])]), (N), (N), (N)])])]), (G [(V false 1 [(S [98]), (S [97])]), (I .u16 (2)), (I .u16 (1)), (I .u32 (60)), (V false 4 [(G [(V false 1 [(V false 1 [(S [110, 115]), (S [98]), (S [97])])]), (N), (N), (N)])])]), (G [(V false 1 [(S [110, 115]), (S [98]), (S [97])]), (I .u16 (1)), (I .u16 (1)), (I .u32 (60)), (V false 4 [(G [(N), (N), (N), (V false 1 [(I .u8 (10)), (I .u8 (0)), (I .u8 (0)), (I .u8 (2))])])])]), (G [(V false 1 [(S [42]), (S [119]), (S [97])]), (I .u16 (1)), (I .u16 (1)), (I .u32 (60)), (V false 4 [(G [(N), (N), (N), (V false 1 [(I .u8 (10)), (I .u8 (0)), (I .u8 (0)), (I .u8 (3))])])])])])
noncomputable def pv3 : AV := (V true 5 [(G [(V true 1 [(S [97])]), (I .u16 (2)), (I .u16 (1)), (I .u32 (60)), (V true 4 [(G [(V true 1 [(V true 1 [(S [110, 115]), (S [97])])]), (N), (N), (N)])])]), (G [(V true 1 [(S [97])]), (I .u16 (6)), (I .u16 (1)), (I .u32 (60)), (V true 4 [(G [(V true 1 [(V true 1 [(S [110, 115]), (S [97])]), (V true 1 [(S [97])])]), (V true 1 [(I .u32 (1)), (I .u32 (2)), (I .u32 (3)), (I .u32 (4)), (I .u32 (30))]), (N), (N)])])]), (G [(V true 1 [(S [98]), (S [97])]), (I .u16 (2)), (I .u16 (1)), (I .u32 (60)), (V true 4 [(G [(V true 1 [(V true 1 [(S [110, 115]), (S [98]), (S [97])])]), (N), (N), (N)])])]), (G [(V true 1 [(S [110, 115]), (S [98]), (S [97])]), (I .u16 (1)), (I .u16 (1)), (I .u32 (60)), (V true 4 [(G [(N), (N), (N), (V true 1 [(I .u8 (10)), (I .u8 (0)), (I .u8 (0)), (I .u8 (2))])])])]), (G [(V true 1 [(S [110, 115]), (S [97])]), (I .u16 (1)), (I .u16 (1)), (I .u32 (60)), (V true 4 [(G [(N), (N), (N), (V true 1 [(I .u8 (10)), (I .u8 (0)), (I .u8 (0)), (I .u8 (1))])])])]), (G [(V true 1 [(S [42]), (S [119]), (S [97])]), (I .u16 (1)), (I .u16 (1)), (I .u32 (60)), (V true 4 [(G [(N), (N), (N), (V true 1 [(I .u8 (10)), (I .u8 (0)), (I .u8 (0)), (I .u8 (3))])])])]), (G [(V true 1 [(S [119, 119, 119]), (S [97])]), (I .u16 (5)), (I .u16 (1)), (I .u32 (60)), (V true 4 [(G [(V true 1 [(V true 1 [(S [110, 115]), (S [97])])]), (N), (N), (N)])])])])
noncomputable def pa1 : List AV := [pv2]
noncomputable def pr1 : AV := pv3
theorem pm1 : pr1.fresh = true ∧ CallPure PP 59 pa1 pr1 :=
  callPure_ran (n := 60) (lookN_ok pb0Ok.1 pb0Ok.2 mixed 100000 60).1 (by kernel_rfl) (by kernel_rfl)
noncomputable def pv4 : AV := (G [(V false 1 [(S [97])]), (V false 5 [(G [(V false 1 [(S [97])]), (I .u16 (2)), (I .u16 (1)), (I .u32 (60)), (V false 4 [(G [(V false 1 [(V false 1 [(S [110, 115]), (S [97])])]), (N), (N), (N)])])]), (G [(V false 1 [(S [97])]), (I .u16 (6)), (I .u16 (1)), (I .u32 (60)), (V false 4 [(G [(V false 1 [(V false 1 [(S [110, 115]), (S [97])]), (V false 1 [(S [97])])]), (V false 1 [(I .u32 (1)), (I .u32 (2)), (I .u32 (3)), (I .u32 (4)), (I .u32 (30))]), (N), (N)])])]), (G [(V false 1 [(S [98]), (S [97])]), (I .u16 (2)), (I .u16 (1)), (I .u32 (60)), (V false 4 [(G [(V false 1 [(V false 1 [(S [110, 115]), (S [98]), (S [97])])]), (N), (N), (N)])])]), (G [(V false 1 [(S [110, 115]), (S [98]), (S [97])]), (I .u16 (1)), (I .u16 (1)), (I .u32 (60)), (V false 4 [(G [(N), (N), (N), (V false 1 [(I .u8 (10)), (I .u8 (0)), (I .u8 (0)), (I .u8 (2))])])])]), (G [(V false 1 [(S [110, 115]), (S [97])]), (I .u16 (1)), (I .u16 (1)), (I .u32 (60)), (V false 4 [(G [(N), (N), (N), (V false 1 [(I .u8 (10)), (I .u8 (0)), (I .u8 (0)), (I .u8 (1))])])])]), (G [(V false 1 [(S [42]), (S [119]), (S [97])]), (I .u16 (1)), (I .u16 (1)), (I .u32 (60)), (V false 4 [(G [(N), (N), (N), (V false 1 [(I .u8 (10)), (I .u8 (0)), (I .u8 (0)), (I .u8 (3))])])])]), (G [(V false 1 [(S [119, 119, 119]), (S [97])]), (I .u16 (5)), (I .u16 (1)), (I .u32 (60)), (V false 4 [(G [(V false 1 [(V false 1 [(S [110, 115]), (S [97])])]), (N), (N), (N)])])])])])
noncomputable def pa2 : List AV := [pv4]
noncomputable def pr2 : AV := (I .i64 (0))
theorem pm2 : pr2.fresh = true ∧ CallPure PP 27 pa2 pr2 :=
  callPure_ran (n := 60) (lookN_ok pb0Ok.1 pb0Ok.2 mixed 100000 60).1 (by kernel_rfl) (by kernel_rfl)
noncomputable def pv5 : AV := (T [(G [(V true 1 [(S [97])]), (V true 5 [(G [(V true 1 [(S [97])]), (I .u16 (2)), (I .u16 (1)), (I .u32 (60)), (V true 4 [(G [(V true 1 [(V true 1 [(S [110, 115]), (S [97])])]), (N), (N), (N)])])]), (G [(V true 1 [(S [97])]), (I .u16 (6)), (I .u16 (1)), (I .u32 (60)), (V true 4 [(G [(V true 1 [(V true 1 [(S [110, 115]), (S [97])]), (V true 1 [(S [97])])]), (V true 1 [(I .u32 (1)), (I .u32 (2)), (I .u32 (3)), (I .u32 (4)), (I .u32 (30))]), (N), (N)])])]), (G [(V true 1 [(S [98]), (S [97])]), (I .u16 (2)), (I .u16 (1)), (I .u32 (60)), (V true 4 [(G [(V true 1 [(V true 1 [(S [110, 115]), (S [98]), (S [97])])]), (N), (N), (N)])])]), (G [(V true 1 [(S [110, 115]), (S [98]), (S [97])]), (I .u16 (1)), (I .u16 (1)), (I .u32 (60)), (V true 4 [(G [(N), (N), (N), (V true 1 [(I .u8 (10)), (I .u8 (0)), (I .u8 (0)), (I .u8 (2))])])])]), (G [(V true 1 [(S [110, 115]), (S [97])]), (I .u16 (1)), (I .u16 (1)), (I .u32 (60)), (V true 4 [(G [(N), (N), (N), (V true 1 [(I .u8 (10)), (I .u8 (0)), (I .u8 (0)), (I .u8 (1))])])])]), (G [(V true 1 [(S [42]), (S [119]), (S [97])]), (I .u16 (1)), (I .u16 (1)), (I .u32 (60)), (V true 4 [(G [(N), (N), (N), (V true 1 [(I .u8 (10)), (I .u8 (0)), (I .u8 (0)), (I .u8 (3))])])])]), (G [(V true 1 [(S [119, 119, 119]), (S [97])]), (I .u16 (5)), (I .u16 (1)), (I .u32 (60)), (V true 4 [(G [(V true 1 [(V true 1 [(S [110, 115]), (S [97])])]), (N), (N), (N)])])])])]), (I .i64 (0))])
noncomputable def pb1 : Look := lookOf [(102, true, sameE), (99, true, compareE), (59, false, memoM 60 [(pa1, pr1)]), (27, false, memoM 60 [(pa2, pr2)])]
theorem pb1Ok : LookOk PP pb1 ∧ LookFr pb1 :=
  lookOf_cons (fun args => same_call (fn := (PP.funcs[102]?).getD default) (by kernel_rfl) (by kernel_rfl) (by kernel_rfl) (by kernel_rfl) (by kernel_rfl) args) (fun args => sameE_framed args) (lookOf_cons (fun args => compare_call (fn := (PP.funcs[99]?).getD default) (by kernel_rfl) (by kernel_rfl) (by kernel_rfl) (by kernel_rfl) (by kernel_rfl) args) (fun args => compareE_framed args) (lookOf_cons (fun args => memo_call (MemoOk.cons pm1.1 pm1.2 (MemoOk.nil)) args) (fun args => memo_framed 60 _ args) (lookOf_cons (fun args => memo_call (MemoOk.cons pm2.1 pm2.2 (MemoOk.nil)) args) (fun args => memo_framed 60 _ args) (lookOf_nil))))
noncomputable def pa3 : List AV := [(V false 1 [(S [97])]), pv2]
noncomputable def pr3 : AV := pv5
theorem pm3 : pr3.fresh = true ∧ CallPure PP 36 pa3 pr3 :=
  callPure_ran (n := 60) (lookN_ok pb1Ok.1 pb1Ok.2 mixed 100000 60).1 (by kernel_rfl) (by kernel_rfl)
noncomputable def pb2 : Look := lookOf [(102, true, sameE), (99, true, compareE), (35, false, memoM 60 [(pa0, pr0)]), (36, false, memoM 60 [(pa3, pr3)])]
theorem pb2Ok : LookOk PP pb2 ∧ LookFr pb2 :=
  lookOf_cons (fun args => same_call (fn := (PP.funcs[102]?).getD default) (by kernel_rfl) (by kernel_rfl) (by kernel_rfl) (by kernel_rfl) (by kernel_rfl) args) (fun args => sameE_framed args) (lookOf_cons (fun args => compare_call (fn := (PP.funcs[99]?).getD default) (by kernel_rfl) (by kernel_rfl) (by kernel_rfl) (by kernel_rfl) (by kernel_rfl) args) (fun args => compareE_framed args) (lookOf_cons (fun args => memo_call (MemoOk.cons pm0.1 pm0.2 (MemoOk.nil)) args) (fun args => memo_framed 60 _ args) (lookOf_cons (fun args => memo_call (MemoOk.cons pm3.1 pm3.2 (MemoOk.nil)) args) (fun args => memo_framed 60 _ args) (lookOf_nil))))
noncomputable def pa4 : List AV := [(V false 1 [(S [97])]), pv0]
noncomputable def pr4 : AV := pv5
theorem pm4 : pr4.fresh = true ∧ CallPure PP 25 pa4 pr4 :=
  callPure_ran (n := 60) (lookN_ok pb2Ok.1 pb2Ok.2 mixed 100000 60).1 (by kernel_rfl) (by kernel_rfl)
noncomputable def pb3 : Look := lookOf [(102, true, sameE), (99, true, compareE), (25, false, memoM 60 [(pa4, pr4)])]
theorem pb3Ok : LookOk PP pb3 ∧ LookFr pb3 :=
  lookOf_cons (fun args => same_call (fn := (PP.funcs[102]?).getD default) (by kernel_rfl) (by kernel_rfl) (by kernel_rfl) (by kernel_rfl) (by kernel_rfl) args) (fun args => sameE_framed args) (lookOf_cons (fun args => compare_call (fn := (PP.funcs[99]?).getD default) (by kernel_rfl) (by kernel_rfl) (by kernel_rfl) (by kernel_rfl) (by kernel_rfl) args) (fun args => compareE_framed args) (lookOf_cons (fun args => memo_call (MemoOk.cons pm4.1 pm4.2 (MemoOk.nil)) args) (fun args => memo_framed 60 _ args) (lookOf_nil)))
noncomputable def pa5 : List AV := []
noncomputable def pr5 : AV := pv5
theorem pm5 : pr5.fresh = true ∧ CallPure PP 11 pa5 pr5 :=
  callPure_ran (n := 60) (lookN_ok pb3Ok.1 pb3Ok.2 mixed 100000 60).1 (by kernel_rfl) (by kernel_rfl)
noncomputable def pb4 : Look := lookOf [(102, true, sameE), (99, true, compareE), (27, false, memoM 60 [(pa2, pr2)])]
theorem pb4Ok : LookOk PP pb4 ∧ LookFr pb4 :=
  lookOf_cons (fun args => same_call (fn := (PP.funcs[102]?).getD default) (by kernel_rfl) (by kernel_rfl) (by kernel_rfl) (by kernel_rfl) (by kernel_rfl) args) (fun args => sameE_framed args) (lookOf_cons (fun args => compare_call (fn := (PP.funcs[99]?).getD default) (by kernel_rfl) (by kernel_rfl) (by kernel_rfl) (by kernel_rfl) (by kernel_rfl) args) (fun args => compareE_framed args) (lookOf_cons (fun args => memo_call (MemoOk.cons pm2.1 pm2.2 (MemoOk.nil)) args) (fun args => memo_framed 60 _ args) (lookOf_nil)))
noncomputable def pa6 : List AV := [pv4, (V false 1 [(S [120]), (S [98]), (S [97])])]
noncomputable def pr6 : AV := (I .i64 (0))
theorem pm6 : pr6.fresh = true ∧ CallPure PP 14 pa6 pr6 :=
  callPure_ran (n := 60) (lookN_ok pb4Ok.1 pb4Ok.2 mixed 100000 60).1 (by kernel_rfl) (by kernel_rfl)
noncomputable def pv6 : AV := (T [(G [(I .u8 (4)), (V true 1 [(S [98]), (S [97])]), (N)]), (I .i64 (0))])
noncomputable def pb5 : Look := lookOf [(102, true, sameE), (99, true, compareE), (14, false, memoM 60 [(pa6, pr6)])]
theorem pb5Ok : LookOk PP pb5 ∧ LookFr pb5 :=
  lookOf_cons (fun args => same_call (fn := (PP.funcs[102]?).getD default) (by kernel_rfl) (by kernel_rfl) (by kernel_rfl) (by kernel_rfl) (by kernel_rfl) args) (fun args => sameE_framed args) (lookOf_cons (fun args => compare_call (fn := (PP.funcs[99]?).getD default) (by kernel_rfl) (by kernel_rfl) (by kernel_rfl) (by kernel_rfl) (by kernel_rfl) args) (fun args => compareE_framed args) (lookOf_cons (fun args => memo_call (MemoOk.cons pm6.1 pm6.2 (MemoOk.nil)) args) (fun args => memo_framed 60 _ args) (lookOf_nil)))
noncomputable def pa7 : List AV := [pv4, (V false 1 [(S [120]), (S [98]), (S [97])])]
noncomputable def pr7 : AV := pv6
theorem pm7 : pr7.fresh = true ∧ CallPure PP 6 pa7 pr7 :=
  callPure_ran (n := 60) (lookN_ok pb5Ok.1 pb5Ok.2 mixed 100000 60).1 (by kernel_rfl) (by kernel_rfl)
noncomputable def pa8 : List AV := [pv4, (V false 1 [(S [78, 83]), (S [97])])]
noncomputable def pr8 : AV := (I .i64 (0))
theorem pm8 : pr8.fresh = true ∧ CallPure PP 14 pa8 pr8 :=
  callPure_ran (n := 60) (lookN_ok pb4Ok.1 pb4Ok.2 mixed 100000 60).1 (by kernel_rfl) (by kernel_rfl)
noncomputable def pa9 : List AV := [pv4, (V false 1 [(S [78, 83]), (S [97])])]
noncomputable def pr9 : AV := (B true)
theorem pm9 : pr9.fresh = true ∧ CallPure PP 9 pa9 pr9 :=
  callPure_ran (n := 60) (lookN_ok pb0Ok.1 pb0Ok.2 mixed 100000 60).1 (by kernel_rfl) (by kernel_rfl)
noncomputable def pb6 : Look := lookOf [(102, true, sameE), (99, true, compareE), (9, false, memoM 60 [(pa9, pr9)])]
theorem pb6Ok : LookOk PP pb6 ∧ LookFr pb6 :=
  lookOf_cons (fun args => same_call (fn := (PP.funcs[102]?).getD default) (by kernel_rfl) (by kernel_rfl) (by kernel_rfl) (by kernel_rfl) (by kernel_rfl) args) (fun args => sameE_framed args) (lookOf_cons (fun args => compare_call (fn := (PP.funcs[99]?).getD default) (by kernel_rfl) (by kernel_rfl) (by kernel_rfl) (by kernel_rfl) (by kernel_rfl) args) (fun args => compareE_framed args) (lookOf_cons (fun args => memo_call (MemoOk.cons pm9.1 pm9.2 (MemoOk.nil)) args) (fun args => memo_framed 60 _ args) (lookOf_nil)))
noncomputable def pa10 : List AV := [pv4, (V false 1 [(S [78, 83]), (S [97])])]
noncomputable def pr10 : AV := (V true 1 [(S [78, 83]), (S [97])])
theorem pm10 : pr10.fresh = true ∧ CallPure PP 16 pa10 pr10 :=
  callPure_ran (n := 60) (lookN_ok pb6Ok.1 pb6Ok.2 mixed 100000 60).1 (by kernel_rfl) (by kernel_rfl)
noncomputable def pv7 : AV := (T [(G [(I .u8 (1)), (V true 1 [(S [78, 83]), (S [97])]), (V true 1 [(S [78, 83]), (S [97])])]), (I .i64 (0))])
noncomputable def pb7 : Look := lookOf [(102, true, sameE), (99, true, compareE), (14, false, memoM 60 [(pa8, pr8)]), (16, false, memoM 60 [(pa10, pr10)])]
theorem pb7Ok : LookOk PP pb7 ∧ LookFr pb7 :=
  lookOf_cons (fun args => same_call (fn := (PP.funcs[102]?).getD default) (by kernel_rfl) (by kernel_rfl) (by kernel_rfl) (by kernel_rfl) (by kernel_rfl) args) (fun args => sameE_framed args) (lookOf_cons (fun args => compare_call (fn := (PP.funcs[99]?).getD default) (by kernel_rfl) (by kernel_rfl) (by kernel_rfl) (by kernel_rfl) (by kernel_rfl) args) (fun args => compareE_framed args) (lookOf_cons (fun args => memo_call (MemoOk.cons pm8.1 pm8.2 (MemoOk.nil)) args) (fun args => memo_framed 60 _ args) (lookOf_cons (fun args => memo_call (MemoOk.cons pm10.1 pm10.2 (MemoOk.nil)) args) (fun args => memo_framed 60 _ args) (lookOf_nil))))
noncomputable def pa11 : List AV := [pv4, (V false 1 [(S [78, 83]), (S [97])])]
noncomputable def pr11 : AV := pv7
theorem pm11 : pr11.fresh = true ∧ CallPure PP 6 pa11 pr11 :=
  callPure_ran (n := 60) (lookN_ok pb7Ok.1 pb7Ok.2 mixed 100000 60).1 (by kernel_rfl) (by kernel_rfl)
noncomputable def pa12 : List AV := [pv4, (V false 1 [(S [119]), (S [97])])]
noncomputable def pr12 : AV := (I .i64 (0))
theorem pm12 : pr12.fresh = true ∧ CallPure PP 14 pa12 pr12 :=
  callPure_ran (n := 60) (lookN_ok pb4Ok.1 pb4Ok.2 mixed 100000 60).1 (by kernel_rfl) (by kernel_rfl)
noncomputable def pa13 : List AV := [pv4, (V false 1 [(S [119]), (S [97])])]
noncomputable def pr13 : AV := (B true)
theorem pm13 : pr13.fresh = true ∧ CallPure PP 9 pa13 pr13 :=
  callPure_ran (n := 60) (lookN_ok pb0Ok.1 pb0Ok.2 mixed 100000 60).1 (by kernel_rfl) (by kernel_rfl)
noncomputable def pb8 : Look := lookOf [(102, true, sameE), (99, true, compareE), (9, false, memoM 60 [(pa13, pr13)])]
theorem pb8Ok : LookOk PP pb8 ∧ LookFr pb8 :=
  lookOf_cons (fun args => same_call (fn := (PP.funcs[102]?).getD default) (by kernel_rfl) (by kernel_rfl) (by kernel_rfl) (by kernel_rfl) (by kernel_rfl) args) (fun args => sameE_framed args) (lookOf_cons (fun args => compare_call (fn := (PP.funcs[99]?).getD default) (by kernel_rfl) (by kernel_rfl) (by kernel_rfl) (by kernel_rfl) (by kernel_rfl) args) (fun args => compareE_framed args) (lookOf_cons (fun args => memo_call (MemoOk.cons pm13.1 pm13.2 (MemoOk.nil)) args) (fun args => memo_framed 60 _ args) (lookOf_nil)))
noncomputable def pa14 : List AV := [pv4, (V false 1 [(S [119]), (S [97])])]
noncomputable def pr14 : AV := (V true 1 [(S [119]), (S [97])])
theorem pm14 : pr14.fresh = true ∧ CallPure PP 16 pa14 pr14 :=
  callPure_ran (n := 60) (lookN_ok pb8Ok.1 pb8Ok.2 mixed 100000 60).1 (by kernel_rfl) (by kernel_rfl)
noncomputable def pv8 : AV := (T [(G [(I .u8 (2)), (N), (V true 1 [(S [119]), (S [97])])]), (I .i64 (0))])
noncomputable def pb9 : Look := lookOf [(102, true, sameE), (99, true, compareE), (14, false, memoM 60 [(pa12, pr12)]), (16, false, memoM 60 [(pa14, pr14)])]
theorem pb9Ok : LookOk PP pb9 ∧ LookFr pb9 :=
  lookOf_cons (fun args => same_call (fn := (PP.funcs[102]?).getD default) (by kernel_rfl) (by kernel_rfl) (by kernel_rfl) (by kernel_rfl) (by kernel_rfl) args) (fun args => sameE_framed args) (lookOf_cons (fun args => compare_call (fn := (PP.funcs[99]?).getD default) (by kernel_rfl) (by kernel_rfl) (by kernel_rfl) (by kernel_rfl) (by kernel_rfl) args) (fun args => compareE_framed args) (lookOf_cons (fun args => memo_call (MemoOk.cons pm12.1 pm12.2 (MemoOk.nil)) args) (fun args => memo_framed 60 _ args) (lookOf_cons (fun args => memo_call (MemoOk.cons pm14.1 pm14.2 (MemoOk.nil)) args) (fun args => memo_framed 60 _ args) (lookOf_nil))))
noncomputable def pa15 : List AV := [pv4, (V false 1 [(S [119]), (S [97])])]
noncomputable def pr15 : AV := pv8
theorem pm15 : pr15.fresh = true ∧ CallPure PP 6 pa15 pr15 :=
  callPure_ran (n := 60) (lookN_ok pb9Ok.1 pb9Ok.2 mixed 100000 60).1 (by kernel_rfl) (by kernel_rfl)
noncomputable def pa16 : List AV := [pv4, (V false 1 [(S [112]), (S [113]), (S [119]), (S [97])])]
noncomputable def pr16 : AV := (I .i64 (0))
theorem pm16 : pr16.fresh = true ∧ CallPure PP 14 pa16 pr16 :=
  callPure_ran (n := 60) (lookN_ok pb4Ok.1 pb4Ok.2 mixed 100000 60).1 (by kernel_rfl) (by kernel_rfl)
noncomputable def pa17 : List AV := [pv4, (V false 1 [(S [112]), (S [113]), (S [119]), (S [97])])]
noncomputable def pr17 : AV := (B false)
theorem pm17 : pr17.fresh = true ∧ CallPure PP 9 pa17 pr17 :=
  callPure_ran (n := 60) (lookN_ok pb0Ok.1 pb0Ok.2 mixed 100000 60).1 (by kernel_rfl) (by kernel_rfl)
noncomputable def pa18 : List AV := [pv4, (V false 1 [(S [113]), (S [119]), (S [97])])]
noncomputable def pr18 : AV := (B false)
theorem pm18 : pr18.fresh = true ∧ CallPure PP 9 pa18 pr18 :=
  callPure_ran (n := 60) (lookN_ok pb0Ok.1 pb0Ok.2 mixed 100000 60).1 (by kernel_rfl) (by kernel_rfl)
noncomputable def pb10 : Look := lookOf [(102, true, sameE), (99, true, compareE), (9, false, memoM 60 [(pa17, pr17), (pa18, pr18), (pa13, pr13)])]
theorem pb10Ok : LookOk PP pb10 ∧ LookFr pb10 :=
  lookOf_cons (fun args => same_call (fn := (PP.funcs[102]?).getD default) (by kernel_rfl) (by kernel_rfl) (by kernel_rfl) (by kernel_rfl) (by kernel_rfl) args) (fun args => sameE_framed args) (lookOf_cons (fun args => compare_call (fn := (PP.funcs[99]?).getD default) (by kernel_rfl) (by kernel_rfl) (by kernel_rfl) (by kernel_rfl) (by kernel_rfl) args) (fun args => compareE_framed args) (lookOf_cons (fun args => memo_call (MemoOk.cons pm17.1 pm17.2 (MemoOk.cons pm18.1 pm18.2 (MemoOk.cons pm13.1 pm13.2 (MemoOk.nil)))) args) (fun args => memo_framed 60 _ args) (lookOf_nil)))
noncomputable def pa19 : List AV := [pv4, (V false 1 [(S [112]), (S [113]), (S [119]), (S [97])])]
noncomputable def pr19 : AV := (V true 1 [(S [119]), (S [97])])
theorem pm19 : pr19.fresh = true ∧ CallPure PP 16 pa19 pr19 :=
  callPure_ran (n := 60) (lookN_ok pb10Ok.1 pb10Ok.2 mixed 100000 60).1 (by kernel_rfl) (by kernel_rfl)
noncomputable def pa20 : List AV := [pv4, (V false 1 [(S [42]), (S [119]), (S [97])])]
noncomputable def pr20 : AV := (B true)
theorem pm20 : pr20.fresh = true ∧ CallPure PP 9 pa20 pr20 :=
  callPure_ran (n := 60) (lookN_ok pb0Ok.1 pb0Ok.2 mixed 100000 60).1 (by kernel_rfl) (by kernel_rfl)
noncomputable def pv9 : AV := (T [(G [(I .u8 (3)), (V true 1 [(S [42]), (S [119]), (S [97])]), (V true 1 [(S [119]), (S [97])])]), (I .i64 (0))])
noncomputable def pb11 : Look := lookOf [(102, true, sameE), (99, true, compareE), (14, false, memoM 60 [(pa16, pr16)]), (16, false, memoM 60 [(pa19, pr19)]), (9, false, memoM 60 [(pa20, pr20)])]
theorem pb11Ok : LookOk PP pb11 ∧ LookFr pb11 :=
  lookOf_cons (fun args => same_call (fn := (PP.funcs[102]?).getD default) (by kernel_rfl) (by kernel_rfl) (by kernel_rfl) (by kernel_rfl) (by kernel_rfl) args) (fun args => sameE_framed args) (lookOf_cons (fun args => compare_call (fn := (PP.funcs[99]?).getD default) (by kernel_rfl) (by kernel_rfl) (by kernel_rfl) (by kernel_rfl) (by kernel_rfl) args) (fun args => compareE_framed args) (lookOf_cons (fun args => memo_call (MemoOk.cons pm16.1 pm16.2 (MemoOk.nil)) args) (fun args => memo_framed 60 _ args) (lookOf_cons (fun args => memo_call (MemoOk.cons pm19.1 pm19.2 (MemoOk.nil)) args) (fun args => memo_framed 60 _ args) (lookOf_cons (fun args => memo_call (MemoOk.cons pm20.1 pm20.2 (MemoOk.nil)) args) (fun args => memo_framed 60 _ args) (lookOf_nil)))))
noncomputable def pa21 : List AV := [pv4, (V false 1 [(S [112]), (S [113]), (S [119]), (S [97])])]
noncomputable def pr21 : AV := pv9
theorem pm21 : pr21.fresh = true ∧ CallPure PP 6 pa21 pr21 :=
  callPure_ran (n := 60) (lookN_ok pb11Ok.1 pb11Ok.2 mixed 100000 60).1 (by kernel_rfl) (by kernel_rfl)
noncomputable def pa22 : List AV := [pv4, (V false 1 [(S [113]), (S [97])])]
noncomputable def pr22 : AV := (I .i64 (0))
theorem pm22 : pr22.fresh = true ∧ CallPure PP 14 pa22 pr22 :=
  callPure_ran (n := 60) (lookN_ok pb4Ok.1 pb4Ok.2 mixed 100000 60).1 (by kernel_rfl) (by kernel_rfl)
noncomputable def pa23 : List AV := [pv4, (V false 1 [(S [113]), (S [97])])]
noncomputable def pr23 : AV := (B false)
theorem pm23 : pr23.fresh = true ∧ CallPure PP 9 pa23 pr23 :=
  callPure_ran (n := 60) (lookN_ok pb0Ok.1 pb0Ok.2 mixed 100000 60).1 (by kernel_rfl) (by kernel_rfl)
noncomputable def pa24 : List AV := [pv4, (V false 1 [(S [97])])]
noncomputable def pr24 : AV := (B true)
theorem pm24 : pr24.fresh = true ∧ CallPure PP 9 pa24 pr24 :=
  callPure_ran (n := 60) (lookN_ok pb0Ok.1 pb0Ok.2 mixed 100000 60).1 (by kernel_rfl) (by kernel_rfl)
noncomputable def pb12 : Look := lookOf [(102, true, sameE), (99, true, compareE), (9, false, memoM 60 [(pa23, pr23), (pa24, pr24)])]
theorem pb12Ok : LookOk PP pb12 ∧ LookFr pb12 :=
  lookOf_cons (fun args => same_call (fn := (PP.funcs[102]?).getD default) (by kernel_rfl) (by kernel_rfl) (by kernel_rfl) (by kernel_rfl) (by kernel_rfl) args) (fun args => sameE_framed args) (lookOf_cons (fun args => compare_call (fn := (PP.funcs[99]?).getD default) (by kernel_rfl) (by kernel_rfl) (by kernel_rfl) (by kernel_rfl) (by kernel_rfl) args) (fun args => compareE_framed args) (lookOf_cons (fun args => memo_call (MemoOk.cons pm23.1 pm23.2 (MemoOk.cons pm24.1 pm24.2 (MemoOk.nil))) args) (fun args => memo_framed 60 _ args) (lookOf_nil)))
noncomputable def pa25 : List AV := [pv4, (V false 1 [(S [113]), (S [97])])]
noncomputable def pr25 : AV := (V true 1 [(S [97])])
theorem pm25 : pr25.fresh = true ∧ CallPure PP 16 pa25 pr25 :=
  callPure_ran (n := 60) (lookN_ok pb12Ok.1 pb12Ok.2 mixed 100000 60).1 (by kernel_rfl) (by kernel_rfl)
noncomputable def pa26 : List AV := [pv4, (V false 1 [(S [42]), (S [97])])]
noncomputable def pr26 : AV := (B false)
theorem pm26 : pr26.fresh = true ∧ CallPure PP 9 pa26 pr26 :=
  callPure_ran (n := 60) (lookN_ok pb0Ok.1 pb0Ok.2 mixed 100000 60).1 (by kernel_rfl) (by kernel_rfl)
noncomputable def pv10 : AV := (T [(G [(I .u8 (0)), (N), (V true 1 [(S [97])])]), (I .i64 (0))])
noncomputable def pb13 : Look := lookOf [(102, true, sameE), (99, true, compareE), (14, false, memoM 60 [(pa22, pr22)]), (16, false, memoM 60 [(pa25, pr25)]), (9, false, memoM 60 [(pa26, pr26)])]
theorem pb13Ok : LookOk PP pb13 ∧ LookFr pb13 :=
  lookOf_cons (fun args => same_call (fn := (PP.funcs[102]?).getD default) (by kernel_rfl) (by kernel_rfl) (by kernel_rfl) (by kernel_rfl) (by kernel_rfl) args) (fun args => sameE_framed args) (lookOf_cons (fun args => compare_call (fn := (PP.funcs[99]?).getD default) (by kernel_rfl) (by kernel_rfl) (by kernel_rfl) (by kernel_rfl) (by kernel_rfl) args) (fun args => compareE_framed args) (lookOf_cons (fun args => memo_call (MemoOk.cons pm22.1 pm22.2 (MemoOk.nil)) args) (fun args => memo_framed 60 _ args) (lookOf_cons (fun args => memo_call (MemoOk.cons pm25.1 pm25.2 (MemoOk.nil)) args) (fun args => memo_framed 60 _ args) (lookOf_cons (fun args => memo_call (MemoOk.cons pm26.1 pm26.2 (MemoOk.nil)) args) (fun args => memo_framed 60 _ args) (lookOf_nil)))))
noncomputable def pa27 : List AV := [pv4, (V false 1 [(S [113]), (S [97])])]
noncomputable def pr27 : AV := pv10
theorem pm27 : pr27.fresh = true ∧ CallPure PP 6 pa27 pr27 :=
  callPure_ran (n := 60) (lookN_ok pb13Ok.1 pb13Ok.2 mixed 100000 60).1 (by kernel_rfl) (by kernel_rfl)
noncomputable def pa28 : List AV := [pv4, (V false 1 [(S [42]), (S [119]), (S [97])])]
noncomputable def pr28 : AV := (I .i64 (0))
theorem pm28 : pr28.fresh = true ∧ CallPure PP 14 pa28 pr28 :=
  callPure_ran (n := 60) (lookN_ok pb4Ok.1 pb4Ok.2 mixed 100000 60).1 (by kernel_rfl) (by kernel_rfl)
noncomputable def pb14 : Look := lookOf [(102, true, sameE), (99, true, compareE), (9, false, memoM 60 [(pa20, pr20)])]
theorem pb14Ok : LookOk PP pb14 ∧ LookFr pb14 :=
  lookOf_cons (fun args => same_call (fn := (PP.funcs[102]?).getD default) (by kernel_rfl) (by kernel_rfl) (by kernel_rfl) (by kernel_rfl) (by kernel_rfl) args) (fun args => sameE_framed args) (lookOf_cons (fun args => compare_call (fn := (PP.funcs[99]?).getD default) (by kernel_rfl) (by kernel_rfl) (by kernel_rfl) (by kernel_rfl) (by kernel_rfl) args) (fun args => compareE_framed args) (lookOf_cons (fun args => memo_call (MemoOk.cons pm20.1 pm20.2 (MemoOk.nil)) args) (fun args => memo_framed 60 _ args) (lookOf_nil)))
noncomputable def pa29 : List AV := [pv4, (V false 1 [(S [42]), (S [119]), (S [97])])]
noncomputable def pr29 : AV := (V true 1 [(S [42]), (S [119]), (S [97])])
theorem pm29 : pr29.fresh = true ∧ CallPure PP 16 pa29 pr29 :=
  callPure_ran (n := 60) (lookN_ok pb14Ok.1 pb14Ok.2 mixed 100000 60).1 (by kernel_rfl) (by kernel_rfl)
noncomputable def pv11 : AV := (T [(G [(I .u8 (1)), (V true 1 [(S [42]), (S [119]), (S [97])]), (V true 1 [(S [42]), (S [119]), (S [97])])]), (I .i64 (0))])
noncomputable def pb15 : Look := lookOf [(102, true, sameE), (99, true, compareE), (14, false, memoM 60 [(pa28, pr28)]), (16, false, memoM 60 [(pa29, pr29)])]
theorem pb15Ok : LookOk PP pb15 ∧ LookFr pb15 :=
  lookOf_cons (fun args => same_call (fn := (PP.funcs[102]?).getD default) (by kernel_rfl) (by kernel_rfl) (by kernel_rfl) (by kernel_rfl) (by kernel_rfl) args) (fun args => sameE_framed args) (lookOf_cons (fun args => compare_call (fn := (PP.funcs[99]?).getD default) (by kernel_rfl) (by kernel_rfl) (by kernel_rfl) (by kernel_rfl) (by kernel_rfl) args) (fun args => compareE_framed args) (lookOf_cons (fun args => memo_call (MemoOk.cons pm28.1 pm28.2 (MemoOk.nil)) args) (fun args => memo_framed 60 _ args) (lookOf_cons (fun args => memo_call (MemoOk.cons pm29.1 pm29.2 (MemoOk.nil)) args) (fun args => memo_framed 60 _ args) (lookOf_nil))))
noncomputable def pa30 : List AV := [pv4, (V false 1 [(S [42]), (S [119]), (S [97])])]
noncomputable def pr30 : AV := pv11
theorem pm30 : pr30.fresh = true ∧ CallPure PP 6 pa30 pr30 :=
  callPure_ran (n := 60) (lookN_ok pb15Ok.1 pb15Ok.2 mixed 100000 60).1 (by kernel_rfl) (by kernel_rfl)
noncomputable def pa31 : List AV := [pv4, (V false 1 [(S [99])])]
noncomputable def pr31 : AV := (I .i64 (2))
theorem pm31 : pr31.fresh = true ∧ CallPure PP 14 pa31 pr31 :=
  callPure_ran (n := 60) (lookN_ok pb4Ok.1 pb4Ok.2 mixed 100000 60).1 (by kernel_rfl) (by kernel_rfl)
noncomputable def pb16 : Look := lookOf [(102, true, sameE), (99, true, compareE), (14, false, memoM 60 [(pa31, pr31)])]
theorem pb16Ok : LookOk PP pb16 ∧ LookFr pb16 :=
  lookOf_cons (fun args => same_call (fn := (PP.funcs[102]?).getD default) (by kernel_rfl) (by kernel_rfl) (by kernel_rfl) (by kernel_rfl) (by kernel_rfl) args) (fun args => sameE_framed args) (lookOf_cons (fun args => compare_call (fn := (PP.funcs[99]?).getD default) (by kernel_rfl) (by kernel_rfl) (by kernel_rfl) (by kernel_rfl) (by kernel_rfl) args) (fun args => compareE_framed args) (lookOf_cons (fun args => memo_call (MemoOk.cons pm31.1 pm31.2 (MemoOk.nil)) args) (fun args => memo_framed 60 _ args) (lookOf_nil)))
noncomputable def pa32 : List AV := [pv4, (V false 1 [(S [99])])]
noncomputable def pr32 : AV := (T [(G [(I .u8 (0)), (N), (N)]), (I .i64 (2))])
theorem pm32 : pr32.fresh = true ∧ CallPure PP 6 pa32 pr32 :=
  callPure_ran (n := 60) (lookN_ok pb16Ok.1 pb16Ok.2 mixed 100000 60).1 (by kernel_rfl) (by kernel_rfl)
noncomputable def pb17 : Look := lookOf [(102, true, sameE), (99, true, compareE), (14, false, memoM 60 [(pa16, pr16)]), (16, false, memoM 60 [(pa19, pr19)])]
theorem pb17Ok : LookOk PP pb17 ∧ LookFr pb17 :=
  lookOf_cons (fun args => same_call (fn := (PP.funcs[102]?).getD default) (by kernel_rfl) (by kernel_rfl) (by kernel_rfl) (by kernel_rfl) (by kernel_rfl) args) (fun args => sameE_framed args) (lookOf_cons (fun args => compare_call (fn := (PP.funcs[99]?).getD default) (by kernel_rfl) (by kernel_rfl) (by kernel_rfl) (by kernel_rfl) (by kernel_rfl) args) (fun args => compareE_framed args) (lookOf_cons (fun args => memo_call (MemoOk.cons pm16.1 pm16.2 (MemoOk.nil)) args) (fun args => memo_framed 60 _ args) (lookOf_cons (fun args => memo_call (MemoOk.cons pm19.1 pm19.2 (MemoOk.nil)) args) (fun args => memo_framed 60 _ args) (lookOf_nil))))
noncomputable def pa33 : List AV := [pv4, (V false 1 [(S [112]), (S [113]), (S [119]), (S [97])])]
noncomputable def pr33 : AV := (T [(I .i64 (2)), (I .i64 (0))])
theorem pm33 : pr33.fresh = true ∧ CallPure PP 12 pa33 pr33 :=
  callPure_ran (n := 60) (lookN_ok pb17Ok.1 pb17Ok.2 mixed 100000 60).1 (by kernel_rfl) (by kernel_rfl)
noncomputable def base : Look := lookOf [(102, true, sameE), (99, true, compareE), (11, false, memoM 60 [(pa5, pr5)]), (6, false, memoM 60 [(pa7, pr7), (pa11, pr11), (pa15, pr15), (pa21, pr21), (pa27, pr27), (pa30, pr30), (pa32, pr32)]), (12, false, memoM 60 [(pa33, pr33)])]
theorem baseOk : LookOk PP base ∧ LookFr base :=
  lookOf_cons (fun args => same_call (fn := (PP.funcs[102]?).getD default) (by kernel_rfl) (by kernel_rfl) (by kernel_rfl) (by kernel_rfl) (by kernel_rfl) args) (fun args => sameE_framed args) (lookOf_cons (fun args => compare_call (fn := (PP.funcs[99]?).getD default) (by kernel_rfl) (by kernel_rfl) (by kernel_rfl) (by kernel_rfl) (by kernel_rfl) args) (fun args => compareE_framed args) (lookOf_cons (fun args => memo_call (MemoOk.cons pm5.1 pm5.2 (MemoOk.nil)) args) (fun args => memo_framed 60 _ args) (lookOf_cons (fun args => memo_call (MemoOk.cons pm7.1 pm7.2 (MemoOk.cons pm11.1 pm11.2 (MemoOk.cons pm15.1 pm15.2 (MemoOk.cons pm21.1 pm21.2 (MemoOk.cons pm27.1 pm27.2 (MemoOk.cons pm30.1 pm30.2 (MemoOk.cons pm32.1 pm32.2 (MemoOk.nil)))))))) args) (fun args => memo_framed 60 _ args) (lookOf_cons (fun args => memo_call (MemoOk.cons pm33.1 pm33.2 (MemoOk.nil)) args) (fun args => memo_framed 60 _ args) (lookOf_nil)))))
noncomputable def look : Look := lookN PP base 100000 60
theorem lookOk : LookOk PP look := (lookN_ok baseOk.1 baseOk.2 mixed 100000 60).1
noncomputable def okRun (r : Option (AV × St)) : Bool := match r with | some p => (match p.1 with | .sc v => (match v with | .bool b => b | _ => false) | _ => false) | none => false
noncomputable def runOf (f : Nat) : Option (AV × St) := match look f with | some p => p.2 [] (stK []) | none => none
set_option maxRecDepth 1000000
theorem runs : okRun (runOf 4) = true := by kernel_rfl
theorem okRun_some {r : Option (AV × St)} (h : okRun r = true) : ∃ st, r = some (.sc (.bool true), st) := by
  unfold okRun at h
  split at h
  · rename_i p
    obtain ⟨a, st⟩ := p
    dsimp only at h
    split at h
    · split at h
      · subst h; exact ⟨st, rfl⟩
      · cases h
    · cases h
  · cases h
theorem law_pure : CallPure PP 4 [] (.sc (.bool true)) := by
  obtain ⟨st, h⟩ := okRun_some runs
  unfold runOf at h
  cases hp : look 4 with
  | none => rw [hp] at h; cases h
  | some p =>
    rw [hp] at h
    exact callPure_of_run lookOk hp (by kernel_rfl) (r1 codBool) true true h rfl
end Go.Proofs.YtcndpdkcagkdaabGreat.seekKnown
namespace Go.Proofs.YtcndpdkcagkdaabGreat
open Go.Vm
theorem seekKnown_pure : CallPure PP 4 [] (.sc (.bool true)) := seekKnown.law_pure
end Go.Proofs.YtcndpdkcagkdaabGreat
end
section
set_option linter.unusedVariables false
namespace Go.Proofs.YtcndpdkcagkdaabGreat
open Go.Vm Go.ChangeShapes Go.WideShapes Go.ChangeAt
mutual
theorem bulk_d {H : Type} : ∀ d : DataW H, Rows.uptoBulk d = bulkD d
  | .lit l => by cases l <;> simp only [Rows.uptoBulk, bulkD]
  | .nil => by simp only [Rows.uptoBulk, bulkD]
  | .ptr d => by simp only [Rows.uptoBulk, bulkD, bulk_d d]
  | .slice a b => by simp only [Rows.uptoBulk, bulkD, bulk_l a, bulk_l b]
  | .agg a => by simp only [Rows.uptoBulk, bulkD, bulk_l a]
  | .iface _ d => by simp only [Rows.uptoBulk, bulkD, bulk_d d]
  | .map e => by simp only [Rows.uptoBulk, bulkD, bulk_e e]
  | .held _ => by simp only [Rows.uptoBulk, bulkD]
theorem bulk_l {H : Type} : ∀ l : List (DataW H), Rows.uptoBulkAll l = bulkL l
  | [] => by simp only [Rows.uptoBulkAll, bulkL]
  | d :: r => by simp only [Rows.uptoBulkAll, bulkL, bulk_d d, bulk_l r]
theorem bulk_e {H : Type} : ∀ l : List (Lit × DataW H), Rows.uptoBulkEntries l = bulkE l
  | [] => by simp only [Rows.uptoBulkEntries, bulkE]
  | x :: r => by simp only [Rows.uptoBulkEntries, bulkE, bulk_x x, bulk_e r]
theorem bulk_x {H : Type} : ∀ x : Lit × DataW H, Rows.uptoBulkEntry x = bulkX x
  | (l, d) => by cases l <;> simp only [Rows.uptoBulkEntry, bulkX, bulk_d d]
end
theorem upto_bulk {H : Type} {l : List (DataW H)} (h : Rows.uptoSmall H l = true) : bulkL l ≤ 1048576 := by
  have := of_decide_eq_true h
  rwa [bulk_l] at this
theorem witness_of {H : Type} {enc : TypeId × Value → H} {C : Checked} {os : Os} {f : FuncId} {fn : Func} {s : OpenSpec} {k : (H : Type) → List (DataW H) → Bool} (hk : s.cond = some k) {conds : List PathCond} {apart : Bool} (modest : Bool) (i : Input) (fuel : Nat)
    (hv : (World.plainHolding C.prog os i).variablesB C.prog = true)
    (hr : ((World.plainHolding C.prog os i).heap.toList.drop C.prog.globals.size).take ((begin C.prog (fun _ _ => 0) default).world.heap.size - C.prog.globals.size) =
      (begin C.prog (fun _ _ => 0) default).world.heap.toList.drop C.prog.globals.size)
    (hok : Input.okWideB C.prog (World.plainHolding C.prog os i) f ⟨#[], i.args, []⟩ = true)
    (hx : (match DataW.whole enc C.prog (World.plainHolding C.prog os i).memory fn.params.toList s.vars apart i.args.toList fuel with
      | some x => conds.all (PathCond.test C.prog ⟨fn.params.toList, x.1, s.bare.plain.varTypes C.prog, x.2.1⟩) && k H (x.1 ++ x.2.1)
      | none => false) = true)
    (hsz : s.bare.sizedB enc C.prog fn apart (World.plainHolding C.prog os i).memory i.args fuel = true) :
    ∃ (w : World) (tape : Tape) (i : Input), w.os = os ∧ (w.forCall tape i).Shaped C.prog ∧ i.vars = [] ∧ Input.okWide C.prog (w.forCall tape i) .any w.heap.size f i ∧
      s.pre6 enc C.prog fn conds apart (w.forCall tape i).memory i.args ∧ ({ modest := modest } : Assume).holds C.prog (lone (Frame.enter C.prog f i.args .normal) [] (w.forCall tape i)) := by
  cases hd : DataW.whole enc C.prog (World.plainHolding C.prog os i).memory fn.params.toList s.vars apart i.args.toList fuel with
  | none => rw [hd] at hx; cases hx
  | some x =>
    rw [hd] at hx
    simp only [Bool.and_eq_true] at hx
    exact OpenSpec.witness hk modest i fuel hv hr hok hd hx.1 hx.2 hsz
end Go.Proofs.YtcndpdkcagkdaabGreat
end
section
set_option linter.unusedVariables false
set_option maxRecDepth 2000000
namespace Go.Proofs.YtcndpdkcagkdaabGreat.seekBelow
open Go.Vm Go.ChangeShapes Go.WideShapes Go.ChangeAt
theorem tabOk : TabOk PP [known17, fewC, sFind, nameSame, nameUnder, zHas, zAt] := (TabOk.cons (pure_entry (fun x r h => by cases h; exact seekKnown_pure)) (TabOk.cons (pure_entry fewC_pure) (TabOk.cons (pure_entry sFind_pure) (TabOk.cons (pure_entry nameSame_pure) (TabOk.cons (pure_entry nameUnder_pure) (TabOk.cons (pure_entry zHas_pure) (TabOk.cons (pure_entry zAt_pure) (TabOk.nil PP))))))))
theorem law_pure (x : RZone × Name × ByteArray × Unit) (h : (muZone x.1 + (muName x.2.1 + (muLab x.2.2.1 + 0))) ≤ 1048576) : CallPure PP 3 ((aC codZone (aC codName (aC codStr a0))).E x) (.sc (.bool true)) :=
  callPure_wl tabOk Tryz.func3 (by kernel_rfl) (by kernel_rfl) (by kernel_rfl) (Nat.le_of_ble_eq_true (by kernel_rfl)) (r1 codBool) true true (seekBelow_wl x.1 x.2.1 x.2.2.1 (zone_small (by omega)) (name_small (by omega)) (by unfold muLab at h; have h1 := wt_name (x.2.2.1 :: x.2.1); have h2 := wt_name x.2.1; unfold smallN; simp only [muName, muL, sumμ, muLab] at h h1; omega))
theorem own : ownKnob PP.godebug = none := by kernel_rfl
theorem undBool : PP.underlying 4 = some .bool := by kernel_rfl
theorem lifted (os : Os) (started : os.Started) (H : Type) (enc : TypeId × Value → H) (F : Stop.Interp) :
    ReturnsInHanded {} Tryz.checked os 3 .any ((Rows.OpenSpec.upto Rows.seekBelowSpec).pre6 enc Tryz.prog Tryz.f3 Rows.seekBelowUptoRow.domain false) (((Rows.OpenSpec.upto Rows.seekBelowSpec).at F).post enc Tryz.prog Tryz.f3 false true false false) := by
  refine returnsInHanded_of_cond (C := Tryz.checked) (k := Rows.uptoSmall) rfl own started (by kernel_rfl) Tryz.func3
    (witness_of (enc := enc) (C := Tryz.checked) rfl false ⟨#[], Tryz.f3.params.map fun t => ((PP.info? t).bind (·.zero)).getD undef, []⟩ 8 (by kernel_rfl) (by kernel_rfl) (by kernel_rfl) (by kernel_rfl) (by kernel_rfl)) ?_
  intro W base args ds gs before hval hW _ hk _
  exact law_post (by kernel_rfl) (by kernel_rfl) (slicesFull_at (by kernel_rfl)) (tb := 4) (by kernel_rfl) rfl (by kernel_rfl) undBool (typesIn_at (by kernel_rfl))
    (fun H ds hl => by match ds, (show ds.length = 3 from hl) with | [_, _, _], _ => rfl) (A := (aC codZone (aC codName (aC codStr a0)))) (rdA_cons (by kernel_rfl) rdZone (rdA_cons (by kernel_rfl) rdName (rdA_cons (by kernel_rfl) rdS (rdA_nil PP)))) (N := some 1048576) (fun x hx => law_pure x (hx _ rfl)) enc W base args ds gs before hval hW (fun n hn => by cases hn; exact upto_bulk hk)
theorem over : Rows.seekBelowUptoRow.holds Tryz.pinned (Rows.OpenSpec.upto Rows.seekBelowSpec) :=
  OpenClaim.holds_of_cond 3 Tryz.f3 rfl rfl rfl rfl rfl rfl rfl ⟨rfl, rfl, rfl, rfl, rfl⟩ rfl rfl rfl rfl rfl (by kernel_rfl) Tryz.func3 (by kernel_rfl)
    (of_decide_eq_true (by kernel_rfl)) (by unfold Func.isWrapper; first | (rw [if_pos (by decide +kernel)]; kernel_rfl) | (rw [if_neg (by decide +kernel)]; exact ⟨rfl, rfl⟩))
    (fun os started H enc _ F => lifted os started H enc F)
theorem proved : Rows.SeekBelowUptoSaid := over
end Go.Proofs.YtcndpdkcagkdaabGreat.seekBelow
end
