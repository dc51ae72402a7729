/- Runs on abstract values: functions of the model's tables; from a run to a call. No condition. -/
import Derived.Test.YtnkjblopaagkoaaWxD
import Derived.Stop.SameAnswer
import Derived.Laws.Externs
import Derived.Lib.Bytealg
namespace Go.Vm
noncomputable section

/-! ### Bytes that are read -/
theorem run_loadX {P : Program} (w : World) : ∀ (ns : List Int) (a : Addr) (i : Nat) (acc : ByteArray), (∀ (j : Nat) x, ns[j]? = some x → (load (a.add (i + j))).run P w = .ok (.int .u8 x) w) →
    (Extern.Bytes.loadBytes (a.add i) ns.length acc).run P w = .ok ⟨acc.data ++ (ns.map fun n => UInt8.ofNat n.toNat).toArray⟩ w
  | [], a, i, acc, _ => by simp [Extern.Bytes.loadBytes]
  | x :: l, a, i, acc, h => by
    have h0 := h 0 x rfl
    rw [Nat.add_zero] at h0
    have e : (a.add i).add 1 = a.add (i + 1) := by
      unfold Addr.add
      by_cases hj : i = 0
      · subst hj; simp
      · simp [hj]; omega
    have ih := run_loadX (P := P) w l a (i + 1) (acc.push x.toNat.toUInt8) (fun j y hy => by
      have := h (j + 1) y (by simpa using hy)
      rw [show i + 1 + j = i + (j + 1) from by omega]; exact this)
    simp only [List.length_cons, Extern.Bytes.loadBytes, Sem.run_bind, h0, Result.andThen]
    rw [e, ih]
    congr 1
    apply ByteArray.ext
    simp [ByteArray.push, Nat.toUInt8]
theorem map_int {l : List Int} {l' : List Value} (h : l' = l.map (Value.int .u8)) (j : Nat) (x : Int) (hx : l[j]? = some x) : l'[j]? = some (.int .u8 x) := by rw [h, List.getElem?_map, hx]; rfl
theorem src_bytes {P : Program} {g st st1 w} {a : AV} {v : Value} {l : List AV} {bs : List UInt8} (hok : Ok g st.h w) (hr : Rel g w a v) (h : cellsIn 1 a st = some (l, st1)) (hb : bytesOf l = some bs) :
    (Extern.Bytes.bytesOf v).run P w = .ok ⟨bs.toArray⟩ w := by
  obtain ⟨_, _, n, news, hsrc, hrl⟩ := cellsIn_ok (P := P) hok hr h
  obtain ⟨ns, e1, e2⟩ := bytesOf_ok _ _ _ hrl hb
  obtain ⟨r1, r2⟩ := hsrc.run w rfl
  cases v with
  | slice p len cap =>
    have hn : n = len := by simp [Builtin.lenOf] at r1; exact r1.symm
    subst hn
    cases p with
    | none =>
      have : news = [] := by simpa [Builtin.firstCells] using r2
      subst this
      have : ns = [] := by simpa using e1.symm
      subst this
      subst e2
      rfl
    | some a =>
      simp only [Builtin.firstCells, Nat.mul_one] at r2
      unfold loadCells at r2
      obtain ⟨l', q1, q2, q3⟩ := loadCellsFrom_ok a n 0 #[] _ _ r2
      have hl' : l' = news := by simpa using q2.symm
      subst hl'
      have hlen : ns.length = n := by rw [← q1, e1, List.length_map]
      have := run_loadX (P := P) w ns a 0 .empty (fun j x hx => by
        exact q3 j _ (map_int e1 j x hx))
      rw [hlen] at this
      have e0 : a.add 0 = a := by simp [Addr.add]
      rw [e0] at this
      show (Extern.Bytes.loadBytes a n .empty).run P w = _
      rw [this, e2]
      congr 2
      simp [ByteArray.empty, ByteArray.emptyWithCapacity]
      rfl
  | string s =>
    have hn : n = s.size := by simp [Builtin.lenOf] at r1; exact r1.symm
    subst hn
    simp only [Builtin.firstCells, Sem.run_pure, Result.ok.injEq, and_true] at r2
    have h1 := congrArg Array.toList r2
    rw [e1] at h1
    show Result.ok s w = _
    congr 1
    apply ByteArray.ext
    apply Array.ext'
    rw [e2]
    have h2 := congrArg (List.map fun v : Value => match v with | .int _ n => UInt8.ofNat n.toNat | _ => 0) h1
    simp only [List.map_map, Array.toList_map] at h2
    have h3 : (s.extract 0 s.size).data.toList = s.data.toList := by simp
    rw [h3] at h2
    have h4 : (List.map ((fun v : Value => match v with | .int _ n => UInt8.ofNat n.toNat | _ => 0) ∘ fun b : UInt8 => Value.int .u8 (b.toNat : Int)) s.data.toList) = s.data.toList := by
      rw [show ((fun v : Value => match v with | .int _ n => UInt8.ofNat n.toNat | _ => 0) ∘ fun b : UInt8 => Value.int .u8 (b.toNat : Int)) = id from by funext b; simp]
      simp
    rw [h4] at h2
    rw [h2]
    simp
  | _ => simp [Builtin.lenOf, stuck] at r1

/-! ### Entries -/
def sameE (args : List AV) : M AV :=
  match args with
  | [a] => .pure a
  | _ => .fail
def compareE (args : List AV) : M AV :=
  match args with
  | [a, b] => (cellsIn 1 a).bind fun x => (cellsIn 1 b).bind fun y =>
    match bytesOf x with
    | some x =>
      match bytesOf y with
      | some y => .pure (.sc (goInt (Lib.compareBytes x y)))
      | none => .fail
    | none => .fail
  | _ => .fail
def Still {α : Type} (m : M α) : Prop := ∀ st v st1, m st = some (v, st1) → st1.h = st.h ∧ st1.nx = st.nx
theorem Still.pure {α : Type} (a : α) : Still (M.pure a) := fun st v st1 h => by cases h; exact ⟨rfl, rfl⟩
theorem Still.fail {α : Type} : Still (M.fail : M α) := fun st v st1 h => by cases h
theorem Still.bind {α β : Type} {m : M α} {f : α → M β} (hm : Still m) (h : ∀ x, Still (f x)) : Still (m.bind f) := fun st v st1 hb => by
  obtain ⟨x, s1, h1, h2⟩ := bind_some hb
  have h3 := hm _ _ _ h1
  have h4 := h x _ _ _ h2
  exact ⟨h4.1.trans h3.1, h4.2.trans h3.2⟩
theorem Still.hget (id : Nat) : Still (Vm.hget id) := fun _st _v _st1 h => (hget_some h).2
theorem Still.cond {α : Type} {b : Bool} {x y : M α} (hx : Still x) (hy : Still y) : Still (bif b then x else y) := by cases b <;> assumption
theorem Still.cellsIn (sz : Nat) (v : AV) : Still (Vm.cellsIn sz v) := by
  unfold Vm.cellsIn cellsObj
  repeat' (first | exact Still.pure _ | exact Still.fail | apply Still.cond | (refine Still.bind (Still.hget _) fun x => ?_) | split)
theorem sameE_framed (args : List AV) : Framed (sameE args) := by
  unfold sameE; split
  · exact Framed.pure _
  · exact Framed.fail
theorem compareE_framed (args : List AV) : Framed (compareE args) := by
  unfold compareE; split
  · exact Framed.bind (Framed.cellsIn _ _) fun x => Framed.bind (Framed.cellsIn _ _) fun y => by
      split
      · split
        · exact Framed.pure _
        · exact Framed.fail
      · exact Framed.fail
  · exact Framed.fail
theorem sameE_still (args : List AV) : Still (sameE args) := by
  unfold sameE; split
  · exact Still.pure _
  · exact Still.fail
theorem compareE_still (args : List AV) : Still (compareE args) := by
  unfold compareE; split
  · exact Still.bind (Still.cellsIn _ _) fun x => Still.bind (Still.cellsIn _ _) fun y => by
      split
      · split
        · exact Still.pure _
        · exact Still.fail
      · exact Still.fail
  · exact Still.fail
theorem same_call {P : Program} {f : Nat} {fn : Func} (hf : P.funcs[f]? = some fn) (h1 : (fn.name == "runtime.NumGoroutine") = false) (h2 : fn.body.isNone = true) (h3 : Extern.findNext fn = none) (h4 : Extern.find fn = some Extern.AbiNoEscape.same) (args : List AV) :
    CallF P f args (sameE args) := by
  intro g st w vs r st' hok hfree hlow hrel hm
  refine .inl ?_
  unfold sameE at hm
  split at hm
  · rename_i a
    cases hm
    obtain ⟨v, rfl, hv⟩ := relL_one hrel
    refine ⟨v, w, g, ?_, .refl _ _ _ _ _, hok, hv⟩
    rw [run_callFunc_extern hf h1 h2 h3 h4]
    rfl
  · cases hm
theorem compare_call {P : Program} {f : Nat} {fn : Func} (hf : P.funcs[f]? = some fn) (h1 : (fn.name == "runtime.NumGoroutine") = false) (h2 : fn.body.isNone = true) (h3 : Extern.findNext fn = none) (h4 : Extern.find fn = some Extern.BytealgCompare.compare) (args : List AV) :
    CallF P f args (compareE args) := by
  intro g st w vs r st' hok hfree hlow hrel hm
  refine .inl ?_
  have hst := compareE_still _ _ _ _ hm
  unfold compareE at hm
  split at hm
  · rename_i a c
    obtain ⟨x, s1, e1, hm⟩ := bind_some hm
    obtain ⟨y, s2, e2, hm⟩ := bind_some hm
    cases hx : bytesOf x with
    | none => rw [hx] at hm; cases hm
    | some bx =>
    cases hy : bytesOf y with
    | none => rw [hx, hy] at hm; cases hm
    | some yb =>
    rw [hx, hy] at hm
    cases hm
    have hh := Still.cellsIn _ _ _ _ _ e1
    match vs, hrel with
    | [v, u], hrel =>
      have r1 := src_bytes (P := P) hok hrel.head e1 hx
      have r2 := src_bytes (P := P) (st := s1) (by rw [hh.1]; exact hok) hrel.tail.head e2 hy
      refine ⟨goInt (Lib.compareBytes bx yb), w, g, ?_, ?_, ?_, .sc _⟩
      · rw [run_callFunc_extern hf h1 h2 h3 h4]
        have : (Extern.BytealgCompare.compare #[v, u]).run P w = .ok (goInt (Lib.compareBytes bx yb)) w := by
          change Sem.run P (do pure (goInt (Extern.BytealgCompare.cmp (← Extern.Bytes.bytesOf v) (← Extern.Bytes.bytesOf u)))) w = _
          simp only [Sem.run_bind, r1, r2, Result.andThen, Sem.run_pure]
          rw [Lib.cmp_eq]
        show ((Extern.BytealgCompare.compare #[v, u]).run P w).andThen _ = _
        rw [this]
        rfl
      · rw [hst.1, hst.2]; exact .refl _ _ _ _ _
      · rw [hst.1]; exact hok
    | [], hrel => have := hrel.1; simp at this
    | [v], hrel => have := hrel.1; simp at this
    | _ :: _ :: _ :: _, hrel => have := hrel.1; simp at this
  · cases hm

/-! ### Tables -/
def lookOf (l : List (Nat × Bool × (List AV → M AV))) : Look := fun f => List.rec (motive := fun _ => Option (Bool × (List AV → M AV))) none (fun p _ ih => bif Nat.beq p.1 f then some p.2 else ih) l
theorem lookOf_nil {P : Program} : LookOk P (lookOf []) ∧ LookFr (lookOf []) := ⟨(fun f p h => by cases h), (fun f p h => by cases h)⟩
theorem lookOf_cons {P : Program} {f : Nat} {b : Bool} {m : List AV → M AV} {l : List (Nat × Bool × (List AV → M AV))} (h1 : ∀ args, CallF P f args (m args)) (h2 : ∀ args, Framed (m args)) (h : LookOk P (lookOf l) ∧ LookFr (lookOf l)) :
    LookOk P (lookOf ((f, b, m) :: l)) ∧ LookFr (lookOf ((f, b, m) :: l)) := by
  have key : ∀ g p, lookOf ((f, b, m) :: l) g = some p → (g = f ∧ p = (b, m)) ∨ lookOf l g = some p := by
    intro g p hp
    change (bif Nat.beq f g then some (b, m) else lookOf l g) = some p at hp
    by_cases e : f = g
    · subst e
      rw [Nat.beq_refl, cond_true] at hp
      cases hp
      exact .inl ⟨rfl, rfl⟩
    · rw [beq_no e, cond_false] at hp
      exact .inr hp
  refine ⟨fun g p hp args => ?_, fun g p hp args => ?_⟩
  · rcases key g p hp with ⟨rfl, rfl⟩ | hp
    · exact h1 args
    · exact h.1 g p hp args
  · rcases key g p hp with ⟨rfl, rfl⟩ | hp
    · exact h2 args
    · exact h.2 g p hp args

/-! ### A call out of a run, from no memory of its own on -/
theorem callPure_of_run {P : Program} {look : Look} (hl : LookOk P look) {f : Nat} {p : Bool × (List AV → M AV)} (hp : look f = some p) (he : entered P f = true) {args : List AV} {ρ : Type} (R : RC ρ) (fr : Bool) (x : ρ) {r : AV} {st' : St} (h : p.2 args (stK []) = some (r, st')) (hx : R.get fr st'.h r = some x) :
    CallPure P f args (R.E fr x) := by
  intro K w vs hK hrel
  have hok : Ok (gK w.heap.size K) (stK []).h w := ⟨Nat.le_refl _, fun o x hx => by simp [stK, heapK, Tr.get_nil] at hx, fun o o' x x' b base base' _ hx => by simp [stK, heapK, Tr.get_nil] at hx, hK⟩
  have fin : ∀ v w' g', Step (gK w.heap.size K) (stK []).h w (stK []).nx st'.nx g' st'.h w' → Ok g' st'.h w' → Rel g' w' r v → Quiet w w' ∧ Rel (gK w.heap.size (newK K w w')) w' (R.E fr x) v := by
    intro v w' g' s hok' hr
    have hnone : ∀ o base b, (Tr.get (stK []).h o).isSome = true → (gK w.heap.size K).inj o ≠ some (b, base) := fun o base b ho => by simp [stK, heapK, Tr.get_nil] at ho
    refine ⟨⟨s.size, fun b hb => s.frame b hb (fun o base ho => hnone o base b ho), s.os, s.tape, s.output⟩, ?_⟩
    refine R.ok hok' ⟨fun b j hk => ?_, fun o cells k e' e ho b base hi j hj => ?_⟩ (fun _ => ?_) hr hx
    · rcases s.Kold b j hk with h5 | h5 | ⟨o, base, h5, _⟩
      · exact .inl h5
      · exact .inr ⟨h5, hok'.K b j hk⟩
      · simp [stK, heapK, Tr.get_nil] at h5
    · obtain ⟨b', base', h5, _, h6⟩ := hok'.obj o _ ho
      rw [hi] at h5; cases h5
      rcases s.own o b base (by rw [ho]; rfl) hi with h7 | ⟨o', base', h7, _⟩
      · exact .inr ⟨h7, h6.lt⟩
      · simp [stK, heapK, Tr.get_nil] at h7
    · exact Nat.le_of_eq s.ext.b0.symm
  rcases hl f p hp args (gK w.heap.size K) (stK []) w vs r st' hok (fun _ _ _ => rfl) (fun o x hx => by simp [stK, heapK, Tr.get_nil] at hx) hrel h with ⟨v, w', g', q1, q2, q3, q4⟩ | ⟨q1, q2⟩
  · rw [entered_ok he] at q1; cases q1
  · refine .inr ⟨q1, q2.mono ?_⟩
    rintro e w' ⟨v, g', rfl, p2, p3, p4⟩
    exact ⟨v, rfl, fin v w' g' p2 p3 p4⟩

end
end Go.Vm
