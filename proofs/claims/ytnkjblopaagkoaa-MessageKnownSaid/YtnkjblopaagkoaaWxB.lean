/- Runs on abstract values: what a computation reads and writes is in its logs, and it hangs on nothing else. No condition. -/
import Derived.Test.YtnkjblopaagkoaaWxA
namespace Go.Vm
noncomputable section

/-! ### Frames -/
def Framed {α : Type} (m : M α) : Prop :=
  ∀ st a st1, Low st → m st = some (a, st1) →
    st.nx ≤ st1.nx ∧ ∃ r w, st1.rl = r ++ st.rl ∧ st1.wl = w ++ st.wl ∧ (∀ o ∈ w, o < st1.nx) ∧ (∀ o, st.nx ≤ o → o < st1.nx → o ∈ w) ∧ (∀ o, o ∉ w → st1.h.get o = st.h.get o) ∧
      ∀ h' rl' wl', (∀ o x, h'.get o = some x → o < st.nx) → (∀ o, o ∈ r ∨ o ∈ w → h'.get o = st.h.get o) →
        ∃ h1', m { h := h', nx := st.nx, rl := rl', wl := wl' } = some (a, { h := h1', nx := st1.nx, rl := r ++ rl', wl := w ++ wl' }) ∧ ∀ o, h1'.get o = if o ∈ w then st1.h.get o else h'.get o
theorem Framed.low {α : Type} {m : M α} (h : Framed m) {st st1 a} (hl : Low st) (hm : m st = some (a, st1)) : Low st1 := by
  obtain ⟨h1, r, w, _, _, h2, _, h3, _⟩ := h st a st1 hl hm
  intro o x hx
  by_cases ho : o ∈ w
  · exact h2 o ho
  · rw [h3 o ho] at hx; exact Nat.lt_of_lt_of_le (hl o x hx) h1
theorem Framed.pure {α : Type} (a : α) : Framed (M.pure a) := fun st b st1 hl h => by
  cases h
  exact ⟨Nat.le_refl _, [], [], rfl, rfl, (fun o ho => by cases ho), (fun o h1 h2 => by omega), (fun _ _ => rfl), fun h' rl' wl' _ _ => ⟨h', rfl, fun o => by simp⟩⟩
theorem Framed.fail {α : Type} : Framed (M.fail : M α) := fun st b st1 _ h => by cases h
theorem Framed.of {α : Type} (a : Option α) : Framed (M.of a) := by cases a; exact Framed.fail; exact Framed.pure _
theorem Framed.cond {α : Type} {b : Bool} {x y : M α} (hx : Framed x) (hy : Framed y) : Framed (bif b then x else y) := by cases b <;> assumption
theorem Framed.bind {α β : Type} {m : M α} {f : α → M β} (hm : Framed m) (hf : ∀ x, Framed (f x)) : Framed (m.bind f) := fun st b st2 hl h => by
  obtain ⟨a, st1, h1, h2⟩ := bind_some h
  have hl1 := hm.low hl h1
  obtain ⟨k1, r1, w1, k2, k3, k4, k5, k6, k7⟩ := hm st a st1 hl h1
  obtain ⟨q1, r2, w2, q2, q3, q4, q5, q6, q7⟩ := hf a st1 b st2 hl1 h2
  refine ⟨Nat.le_trans k1 q1, r2 ++ r1, w2 ++ w1, by rw [q2, k2, List.append_assoc], by rw [q3, k3, List.append_assoc], fun o ho => ?_, fun o h3 h4 => ?_, fun o ho => ?_, fun h' rl' wl' hl' ha => ?_⟩
  · rcases List.mem_append.1 ho with ho | ho
    · exact q4 o ho
    · exact Nat.lt_of_lt_of_le (k4 o ho) q1
  · rcases Nat.lt_or_ge o st1.nx with h5 | h5
    · exact List.mem_append.2 (.inr (k5 o h3 h5))
    · exact List.mem_append.2 (.inl (q5 o h5 h4))
  · rw [q6 o (fun h => ho (List.mem_append.2 (.inl h))), k6 o (fun h => ho (List.mem_append.2 (.inr h)))]
  · obtain ⟨h1', e1, e2⟩ := k7 h' rl' wl' hl' (fun o ho => ha o (ho.imp (fun h => List.mem_append.2 (.inr h)) (fun h => List.mem_append.2 (.inr h))))
    have hlo1 : ∀ o x, h1'.get o = some x → o < st1.nx := fun o x hx => by
      rw [e2] at hx
      by_cases ho : o ∈ w1
      · exact k4 o ho
      · rw [if_neg ho] at hx; exact Nat.lt_of_lt_of_le (hl' o x hx) k1
    obtain ⟨h2', e3, e4⟩ := q7 h1' (r1 ++ rl') (w1 ++ wl') hlo1 (fun o ho => by
      rw [e2]
      by_cases hw : o ∈ w1
      · rw [if_pos hw]
      · rw [if_neg hw, k6 o hw]
        exact ha o (ho.imp (fun h => List.mem_append.2 (.inl h)) (fun h => List.mem_append.2 (.inl h))))
    refine ⟨h2', ?_, fun o => ?_⟩
    · show M.bind m f _ = _
      unfold M.bind
      rw [e1]
      simp only
      rw [e3, List.append_assoc, List.append_assoc]
    · rw [e4]
      by_cases h5 : o ∈ w2
      · rw [if_pos h5, if_pos (List.mem_append.2 (.inl h5))]
      · rw [if_neg h5, e2]
        by_cases h6 : o ∈ w1
        · rw [if_pos h6, if_pos (List.mem_append.2 (.inr h6)), q6 o h5]
        · rw [if_neg h6, if_neg (fun h => by rcases List.mem_append.1 h with h | h; exact h5 h; exact h6 h)]
theorem Framed.mono {α : Type} {m : M α} (h : Framed m) : Framed (Vm.mono m) := fun st a st1 hl hm => by
  obtain ⟨h1, h2⟩ := mono_some hm
  obtain ⟨k1, r, w, k2, k3, k4, k5, k6, k7⟩ := h st a st1 hl h1
  refine ⟨k1, r, w, k2, k3, k4, k5, k6, fun h' rl' wl' hl' ha => ?_⟩
  obtain ⟨h1', e1, e2⟩ := k7 h' rl' wl' hl' ha
  refine ⟨h1', ?_, e2⟩
  unfold Vm.mono
  rw [e1]
  simp only
  rw [show Nat.ble st.nx st1.nx = true from Nat.ble_eq_true_of_le k1]
  rfl
theorem Framed.hget (id : Nat) : Framed (Vm.hget id) := fun st a st1 hl h => by
  unfold Vm.hget at h
  cases hx : st.h.get id with
  | none => rw [hx] at h; cases h
  | some x =>
    rw [hx] at h
    cases h
    refine ⟨Nat.le_refl _, [id], [], rfl, rfl, (fun o ho => by cases ho), (fun o h1 h2 => by simp at h2; omega), (fun _ _ => rfl), fun h' rl' wl' _ ha => ⟨h', ?_, fun o => by simp⟩⟩
    unfold Vm.hget
    simp only [ha id (.inl (by simp)), hx]
    rfl
theorem Framed.hset (id : Nat) (x : AObj) : Framed (Vm.hset id x) := fun st a st1 hl h => by
  unfold Vm.hset at h
  cases hx : st.h.get id with
  | none => rw [hx] at h; cases h
  | some y =>
    rw [hx] at h
    cases hb : Nat.ble id limit with
    | false => rw [hb] at h; cases h
    | true =>
      rw [hb] at h
      cases h
      have hlt := Nat.le_of_ble_eq_true hb
      refine ⟨Nat.le_refl _, [], [id], rfl, rfl, (fun o ho => by simp at ho; subst ho; exact hl _ y hx), (fun o h1 h2 => by simp at h2; omega), (fun o ho => by simp at ho; simp only; rw [get_set _ _ _ _ hlt, if_neg ho]), fun h' rl' wl' _ ha => ⟨h'.set depth id (some x), ?_, fun o => ?_⟩⟩
      · unfold Vm.hset
        simp only [ha id (.inr (by simp)), hx, hb, cond_true]
        rfl
      · simp only [get_set _ _ _ _ hlt, List.mem_singleton]
        by_cases e : o = id
        · rw [if_pos e, if_pos e, if_pos e]
        · rw [if_neg e, if_neg e]
theorem Framed.hdel (id : Nat) : Framed (Vm.hdel id) := fun st a st1 hl h => by
  unfold Vm.hdel at h
  cases hx : st.h.get id with
  | none => rw [hx] at h; cases h
  | some y =>
    rw [hx] at h
    cases hb : Nat.ble id limit with
    | false => rw [hb] at h; cases h
    | true =>
      rw [hb] at h
      cases h
      have hlt := Nat.le_of_ble_eq_true hb
      refine ⟨Nat.le_refl _, [], [id], rfl, rfl, (fun o ho => by simp at ho; subst ho; exact hl _ y hx), (fun o h1 h2 => by simp at h2; omega), (fun o ho => by simp at ho; simp only; rw [get_set _ _ _ _ hlt, if_neg ho]), fun h' rl' wl' _ ha => ⟨h'.set depth id none, ?_, fun o => ?_⟩⟩
      · unfold Vm.hdel
        simp only [ha id (.inr (by simp)), hx, hb, cond_true]
        rfl
      · simp only [get_set _ _ _ _ hlt, List.mem_singleton]
        by_cases e : o = id
        · rw [if_pos e, if_pos e, if_pos e]
        · rw [if_neg e, if_neg e]
theorem Framed.hnew (x : AObj) : Framed (Vm.hnew x) := fun st a st1 hl h => by
  unfold Vm.hnew at h
  cases hb : Nat.ble st.nx limit with
  | false => rw [hb] at h; cases h
  | true =>
    rw [hb] at h
    cases h
    have hlt := Nat.le_of_ble_eq_true hb
    refine ⟨Nat.le_succ _, [], [st.nx], rfl, rfl, (fun o ho => by simp at ho; subst ho; exact Nat.lt_succ_self _), (fun o h1 h2 => by simp at h2 ⊢; omega), (fun o ho => by simp at ho; simp only; rw [get_set _ _ _ _ hlt, if_neg ho]), fun h' rl' wl' _ ha => ⟨h'.set depth st.nx (some x), ?_, fun o => ?_⟩⟩
    · unfold Vm.hnew
      simp only [hb, cond_true]
      rfl
    · simp only [get_set _ _ _ _ hlt, List.mem_singleton]
      by_cases e : o = st.nx
      · rw [if_pos e, if_pos e, if_pos e]
      · rw [if_neg e, if_neg e]
theorem Framed.logged {α : Type} {m : M α} (h : Framed m) : Framed (Vm.logged m) := fun st a st1 hl hm => by
  unfold Vm.logged at hm
  cases h1 : m { h := st.h, nx := st.nx, rl := [], wl := [] } with
  | none => rw [h1] at hm; cases hm
  | some p =>
    rw [h1] at hm
    cases hm
    obtain ⟨k1, r, w, k2, k3, k4, k5, k6, k7⟩ := h { h := st.h, nx := st.nx, rl := [], wl := [] } p.1 p.2 hl h1
    rw [List.append_nil] at k2 k3
    refine ⟨k1, r, w, by simp only [k2], by simp only [k3], k4, k5, k6, fun h' rl' wl' hl' ha => ?_⟩
    obtain ⟨h1', e1, e2⟩ := k7 h' [] [] hl' ha
    refine ⟨h1', ?_, e2⟩
    unfold Vm.logged
    simp only at e1 ⊢
    rw [e1]
    simp only [List.append_nil, k2, k3]

theorem Framed.cellsIn (sz : Nat) (v : AV) : Framed (Vm.cellsIn sz v) := by
  unfold Vm.cellsIn cellsObj
  repeat' (first | exact Framed.pure _ | exact Framed.fail | exact Framed.hget _ | apply Framed.cond | (refine Framed.bind ?_ fun x => ?_) | split)
theorem Framed.exacts {P : Program} {ρ : Operand → AV} {o : Oper} {l : List Operand} : Framed (opPure P ρ o l) := by unfold opPure; exact Framed.cond (Framed.of _) Framed.fail
theorem Framed.bx {t : TypeId} {x : AV} : Framed (opBox t x) := by
  unfold opBox
  repeat' (first | exact Framed.pure _ | exact Framed.fail | exact Framed.hnew _ | apply Framed.cond | (refine Framed.bind ?_ fun x => ?_) | split)

theorem aop_framed {P : Program} {o : Oper} {ρ : Operand → AV} : Framed (aop P o ρ) := by
  unfold aop
  cases ho : o.op with
  | move x => exact Framed.pure _
  | assign x => exact Framed.pure _
  | load t a =>
    show Framed (opLoad P t (ρ a))
    unfold opLoad loadObj
    repeat' (first | exact Framed.pure _ | exact Framed.fail | exact Framed.of _ | exact Framed.hget _ | (refine Framed.bind ?_ fun x => ?_) | split)
  | fieldAddr s x f =>
    show Framed (opFieldAddr P s (ρ x) f)
    unfold opFieldAddr
    repeat' (first | exact Framed.pure _ | exact Framed.fail | exact Framed.of _ | apply Framed.cond | split)
  | binOp op t x y u =>
    show Framed (opBin P ρ o op t x y)
    have he : ∀ a b, Framed (binElse P ρ o op t a b) := fun a b => by
      unfold binElse eqRef eqPtr eqSlice eqMap eqIfc eqFunc bothPlain yesNo
      repeat' (first | exact Framed.pure _ | exact Framed.fail | exact Framed.of _ | exact Framed.hget _ | apply Framed.cond | (refine Framed.bind ?_ fun x => ?_) | split)
    unfold opBin binVals binInt
    repeat' (first | exact he _ _ | exact Framed.pure _ | exact Framed.fail | exact Framed.of _ | apply Framed.cond | split)
  | pick c a b =>
    show Framed (opPick (ρ c) (ρ a) (ρ b))
    unfold opPick
    repeat' (first | exact Framed.pure _ | exact Framed.fail | split)
  | store t a x =>
    show Framed (opStore P t (ρ a) (ρ x))
    unfold opStore storeObj
    repeat' (first | exact Framed.pure _ | exact Framed.fail | exact Framed.hget _ | exact Framed.hset _ _ | apply Framed.cond | (refine Framed.bind ?_ fun x => ?_) | split)
  | mapUpdate t m k x =>
    show Framed (opUpdate P t (ρ m) (ρ k) (ρ x))
    unfold opUpdate updateObj
    repeat' (first | exact Framed.pure _ | exact Framed.fail | exact Framed.hget _ | exact Framed.hset _ _ | apply Framed.cond | (refine Framed.bind ?_ fun x => ?_) | split)
  | insert t m k x =>
    show Framed (opUpdate P t (ρ m) (ρ k) (ρ x))
    unfold opUpdate updateObj
    repeat' (first | exact Framed.pure _ | exact Framed.fail | exact Framed.hget _ | exact Framed.hset _ _ | apply Framed.cond | (refine Framed.bind ?_ fun x => ?_) | split)
  | extract t ix =>
    show Framed (opExtract (ρ t) ix)
    unfold opExtract
    repeat' (first | exact Framed.pure _ | exact Framed.fail | exact Framed.of _ | split)
  | indexAddr t x ix =>
    show Framed (opIndexAddr P t (ρ x) (ρ ix))
    unfold opIndexAddr indexIn
    repeat' (first | exact Framed.pure _ | exact Framed.fail | exact Framed.of _ | apply Framed.cond | split)
  | nilCheck x =>
    show Framed (opNilCheck (ρ x))
    unfold opNilCheck
    repeat' (first | exact Framed.pure _ | exact Framed.fail | split)
  | alloc t =>
    show Framed (opAlloc P t)
    unfold opAlloc
    split
    · exact Framed.fail
    · exact Framed.bx
  | box t x => exact Framed.bx
  | build t ps =>
    show Framed (opBuild P t _)
    unfold opBuild
    repeat' (first | exact Framed.pure _ | exact Framed.fail | exact Framed.of _ | split)
  | buildSlice t len ps =>
    show Framed (opBuildSlice P t len _)
    unfold opBuildSlice newRowOf
    repeat' (first | exact Framed.hnew _ | exact Framed.pure _ | exact Framed.fail | exact Framed.of _ | apply Framed.cond | (refine Framed.bind ?_ fun x => ?_) | split)
  | makeSlice t l c =>
    show Framed (opMakeSlice P t (ρ l) (ρ c))
    unfold opMakeSlice newRowOf
    repeat' (first | exact Framed.hnew _ | exact Framed.pure _ | exact Framed.fail | exact Framed.of _ | apply Framed.cond | (refine Framed.bind ?_ fun x => ?_) | split)
  | makeMap t r =>
    show Framed (opMakeMap r)
    unfold opMakeMap
    repeat' (first | exact Framed.hnew _ | exact Framed.pure _ | exact Framed.fail | (refine Framed.bind ?_ fun x => ?_) | split)
  | makeFunc f a b => exact Framed.pure _
  | convert src dst x =>
    show Framed (opConvert P ρ o src dst (ρ x))
    have he : Framed (convElse P ρ o (ρ x)) := by unfold convElse; split; exact Framed.of _; exact Framed.fail
    unfold opConvert convKinds
    repeat' (first | exact he | exact Framed.fail | split)
    · unfold convSB; repeat' (first | exact Framed.hnew _ | exact Framed.pure _ | exact Framed.fail | apply Framed.cond | (refine Framed.bind ?_ fun x => ?_) | split)
    · unfold convBS bytesStr; repeat' (first | exact Framed.cellsIn _ _ | exact Framed.pure _ | exact Framed.fail | apply Framed.cond | (refine Framed.bind ?_ fun x => ?_) | split)
    · unfold convUP ofUnsafe; repeat' (first | exact Framed.hget _ | exact Framed.pure _ | exact Framed.fail | apply Framed.cond | (refine Framed.bind ?_ fun x => ?_) | split)
    · unfold convPU toUnsafe; repeat' (first | exact Framed.hget _ | exact Framed.pure _ | exact Framed.fail | apply Framed.cond | (refine Framed.bind ?_ fun x => ?_) | split)
    · unfold convInt; repeat' (first | exact Framed.pure _ | exact Framed.fail | split)
  | makeInterface t x =>
    show Framed (opMakeInterface P t (ρ x))
    unfold opMakeInterface
    repeat' (first | exact Framed.pure _ | exact Framed.fail | split)
  | field s x f =>
    show Framed (opField P s (ρ x) f)
    unfold opField
    repeat' (first | exact Framed.pure _ | exact Framed.fail | exact Framed.of _ | split)
  | index t x ix =>
    show Framed (opIndex P ρ o t x ix)
    unfold opIndex
    repeat' (first | exact Framed.exacts | exact Framed.pure _ | exact Framed.fail | exact Framed.of _ | apply Framed.cond | split)
  | slice t x lo hi mx =>
    show Framed (opSlice P ρ o t x lo hi mx)
    unfold opSlice sliceArr
    repeat' (first | exact Framed.exacts | exact Framed.hget _ | exact Framed.pure _ | exact Framed.fail | exact Framed.of _ | apply Framed.cond | (refine Framed.bind ?_ fun x => ?_) | split)
  | lookup t x ix ok =>
    show Framed (opLookup P t (ρ x) (ρ ix) ok)
    unfold opLookup lookupObj found
    repeat' (first | exact Framed.hget _ | exact Framed.pure _ | exact Framed.fail | exact Framed.of _ | apply Framed.cond | (refine Framed.bind ?_ fun x => ?_) | split)
  | typeAssert x t a ok =>
    show Framed (opTypeAssert P ρ o (ρ x) a ok)
    unfold opTypeAssert
    repeat' (first | exact Framed.pure _ | exact Framed.fail | exact Framed.of _ | apply Framed.cond | split)
  | unOp op t x => exact Framed.exacts
  | call c =>
    obtain ⟨callee, args, ts⟩ := c
    cases callee with
    | value f => exact Framed.fail
    | invoke r m => exact Framed.fail
    | builtin b =>
      show Framed (opBuiltin P ρ o b args.toList ts)
      unfold opBuiltin
      split <;> first | exact Framed.fail | exact Framed.exacts | skip
      · unfold opLen lenObj
        repeat' (first | exact Framed.hget _ | exact Framed.pure _ | exact Framed.fail | (refine Framed.bind ?_ fun x => ?_) | split)
      · have ha : ∀ e sz bytes s new, Framed (aappend e sz bytes s new) := fun e sz bytes s new => by
          unfold aappend appendObj newRowOf
          repeat' (first | exact Framed.hget _ | exact Framed.hnew _ | exact Framed.hdel _ | exact Framed.pure _ | exact Framed.fail | apply Framed.cond | (refine Framed.bind ?_ fun x => ?_) | split)
        unfold opAppend
        repeat' (first | exact ha _ _ _ _ _ | exact Framed.cellsIn _ _ | exact Framed.pure _ | exact Framed.fail | apply Framed.cond | (refine Framed.bind ?_ fun x => ?_) | split)
      · unfold opCopy copyObj
        repeat' (first | exact Framed.hget _ | exact Framed.hset _ _ | exact Framed.cellsIn _ _ | exact Framed.pure _ | exact Framed.fail | apply Framed.cond | (refine Framed.bind ?_ fun x => ?_) | split)
      · unfold opDelete deleteObj
        repeat' (first | exact Framed.hget _ | exact Framed.hset _ _ | exact Framed.pure _ | exact Framed.fail | apply Framed.cond | (refine Framed.bind ?_ fun x => ?_) | split)
      · unfold opCap
        repeat' (first | exact Framed.pure _ | exact Framed.fail | split)
      · unfold opSliceData
        repeat' (first | exact Framed.pure _ | exact Framed.fail | apply Framed.cond | split)
      · unfold opUnsafeString stringObj
        repeat' (first | exact Framed.hget _ | exact Framed.hset _ _ | exact Framed.pure _ | exact Framed.fail | apply Framed.cond | (refine Framed.bind ?_ fun x => ?_) | split)
  | _ => exact Framed.fail

/-- What the table says of calls. -/
def LookFr (look : Look) : Prop := ∀ f p, look f = some p → ∀ args, Framed (p.2 args)
theorem prepA_framed_of {P : Program} {look : Look} {o : Oper} {ρ : Operand → AV} (h : Framed (operX P look o ρ)) : Framed ((prepA P o).run look ρ) := by rw [prepA_eq]; exact h
theorem operX_framed {P : Program} {look : Look} (hl : LookFr look) {o : Oper} {ρ : Operand → AV} : Framed (operX P look o ρ) := by
  have hcall : ∀ g args, Framed (callX look g args) := by
    intro g args
    unfold callX
    refine Framed.cond ?_ Framed.fail
    split
    · rename_i p hp; exact (hl g p hp args).mono
    · exact Framed.fail
  have hfn : ∀ g args, Framed (callFnX look g args) := by
    intro g args
    unfold callFnX
    split
    · exact hcall _ _
    · exact Framed.fail
  unfold operX
  split
  · unfold callVX
    split
    · exact hfn _ _
    · split
      · exact hfn _ _
      · exact Framed.fail
    · exact Framed.fail
  · exact aop_framed.mono

/-! ### Operations of a region -/
theorem Framed.congr {α : Type} {m m' : M α} (h : Framed m) (e : ∀ st, m' st = m st) : Framed m' := by
  rw [show m' = m from funext e]; exact h
theorem prepO_framed {P : Program} {look : Look} (hl : LookFr look) (ops : Array Oper) (o : Oper) (L : SL) : Framed (α := SL) ((prepO P ops o).run look L) := by
  cases hg : gval ops L o with
  | none => exact Framed.fail.congr (fun st => by rw [prepO_eq]; unfold xone; rw [hg]; rfl)
  | some b =>
    cases b with
    | false => exact (Framed.pure (putL o.dst (.sc undef) L)).congr (fun st => by rw [prepO_eq]; unfold xone; rw [hg]; rfl)
    | true =>
      refine (Framed.bind (prepA_framed_of (operX_framed (P := P) hl (o := o) (ρ := evL L))) (fun v => Framed.pure (putL o.dst v L))).congr (fun st => ?_)
      rw [prepO_eq]
      show xone P look ops o L st = M.bind _ _ st
      unfold xone M.bind
      rw [hg]
      simp only
      cases (prepA P o).run look (evL L) st <;> rfl
theorem prepOs_framed {P : Program} {look : Look} (hl : LookFr look) (ops : Array Oper) : ∀ (l : List Oper) (L : SL), Framed (α := SL) ((prepOs P ops l).run look L) := by
  intro l
  induction l with
  | nil => intro L; exact Framed.pure L
  | cons o l ih =>
    intro L
    refine (Framed.bind (prepO_framed (P := P) hl ops o L) (fun L' => ih L')).congr (fun st => ?_)
    rw [prepOs_cons]
    unfold M.bind
    cases (prepO P ops o).run look L st <;> rfl
theorem prepOs_wpR {P : Program} {look : Look} (hT : TabOkF P (tabX look)) (hl : LookFr look) {ops : Array Oper} {ro : Option Nat} {N : Nat} {B : BaseP} {nt : Nat} {Q : Exit → Act → World → Prop} (hg : guardsIn nt ops = true) (hd : dstsIn nt ops = true) {p : SL × St} {d0 : List Deferred}
    (rest : List Nat) (hK : ∀ g w (a : Act), Cur B g p.2 w → RelSL g w nt p.1 a.tmps → Marks B.D B.n0 p.2.h g w a.defers → a.defers = d0 → wpOpsIn (fence ro) N P ops Q rest a w) :
    ∀ (l : List Oper) (is : List Nat), (∀ o ∈ l, o ∈ ops) → is.map (fun i => ops[i]?) = l.map some → ∀ L st g w a, (prepOs P ops l).run look L st = some p → Low st → B.Near st.nx p.2.nx → Cur B g st w → RelSL g w nt L a.tmps → Marks B.D B.n0 st.h g w a.defers → a.defers = d0 → wpOpsIn (fence ro) N P ops Q (is ++ rest) a w := by
  intro l
  induction l with
  | nil =>
    intro is _ his L st g w a h hlo hn hc hr hdf hd0
    cases is with
    | nil => cases h; exact hK g w a hc hr hdf hd0
    | cons i is => cases his
  | cons o l ih =>
    intro is hmem his L st g w a h hlo hn hc hr hdf hd0
    cases is with
    | nil => cases his
    | cons i is =>
      simp only [List.map_cons, List.cons.injEq] at his
      obtain ⟨hi, his⟩ := his
      have ho := hmem o (by simp)
      rw [prepOs_cons] at h
      cases h1 : (prepO P ops o).run look L st with
      | none => rw [h1] at h; cases h
      | some q =>
      have hlo' : Low q.2 := (prepO_framed (P := P) hl ops o L).low hlo h1
      have hle1 : st.nx ≤ q.2.nx := (prepO_framed hl ops o L st q.1 q.2 hlo h1).1
      rw [h1] at h
      simp only at h
      have hle2 : q.2.nx ≤ p.2.nx := (prepOs_framed hl ops l q.1 q.2 p.1 p.2 hlo' h).1
      have h2 := prepO_ok h1
      unfold xone at h2
      simp only [List.cons_append, wpOpsIn, hi]
      cases hb : gval ops L o with
      | none => rw [hb] at h2; cases h2
      | some b =>
      rw [hb] at h2
      have hw : Region.wanted o (yielded ops a.tmps) = b := wanted_val hr.1 (guard_in hg ho) (fun j c _ => hr.2 _) hb
      rw [hw]
      cases b with
      | true =>
        rw [if_pos rfl]
        simp only at h2
        rw [prepA_eq, operX_eq] at h2
        cases hop : operL P (tabX look) o (evL L) st with
        | none => rw [hop] at h2; cases h2
        | some r =>
          obtain ⟨v, st'⟩ := r
          rw [hop] at h2
          cases h2
          refine operL_okF hT hc.ok (hc.free (hn.sub (Nat.le_refl _) hle2)) hlo hr.eval hop ro N _ _ ?_
          rintro u w' ⟨g', q1, q2, q3⟩
          exact ih is (fun o ho => hmem o (by simp [ho])) his _ st' g' w' _ h hlo' (hn.sub hle1 (Nat.le_refl _)) (hc.step (hn.sub (Nat.le_refl _) hle2) ⟨operL_le hop, q1⟩ q2) ((hr.ext q1.ext).put q3 (dst_in hd ho)) (by rw [put_defers]; exact hdf.step q1) (by rw [put_defers]; exact hd0)
      | false =>
        simp only at h2
        cases h2
        rw [if_neg (by simp)]
        refine ⟨about_fence ro P o a w, ?_⟩
        exact ih is (fun o ho => hmem o (by simp [ho])) his _ st g w _ h hlo hn hc (hr.put (.sc _) (dst_in hd ho)) (by rw [put_defers]; exact hdf) (by rw [put_defers]; exact hd0)

theorem prepOs_wp {P : Program} {look : Look} (hT : TabOkF P (tabX look)) (hl : LookFr look) {ops : Array Oper} {ro : Option Nat} {N : Nat} {B : BaseP} {nt : Nat} {Q : Exit → Act → World → Prop} (hg : guardsIn nt ops = true) (hd : dstsIn nt ops = true) {p : SL × St} {d0 : List Deferred}
    (hK : ∀ g w (a : Act), Cur B g p.2 w → RelSL g w nt p.1 a.tmps → Marks B.D B.n0 p.2.h g w a.defers → a.defers = d0 → Q .normal a w) :
    ∀ (l : List Oper) (is : List Nat), (∀ o ∈ l, o ∈ ops) → is.map (fun i => ops[i]?) = l.map some → ∀ L st g w a, (prepOs P ops l).run look L st = some p → Low st → B.Near st.nx p.2.nx → Cur B g st w → RelSL g w nt L a.tmps → Marks B.D B.n0 st.h g w a.defers → a.defers = d0 → wpOpsIn (fence ro) N P ops Q is a w := by
  intro l is h1 h2 L st g w a h3 h4 h5 h6 h7 h8 h9
  rw [show is = is ++ [] from (List.append_nil is).symm]
  exact prepOs_wpR hT hl hg hd [] (fun g w a h1 h2 h3 h4 => hK g w a h1 h2 h3 h4) l is h1 h2 L st g w a h3 h4 h5 h6 h7 h8 h9

/-! ### A region whose order is drawn -/
def reM {α β : Type} (X : St → Option (α × β × St)) : M (α × β) := fun st =>
  match X st with
  | some q => some ((q.1, q.2.1), q.2.2)
  | none => none
theorem reM_some {α β : Type} {X : St → Option (α × β × St)} {st : St} {q : α × β × St} (h : X st = some q) : reM X st = some ((q.1, q.2.1), q.2.2) := by unfold reM; rw [h]
def checkNx {α : Type} (m : M α) : M α := fun st => bif Nat.ble st.nx limit then m st else none
theorem Framed.checkNx {α : Type} {m : M α} (h : Framed m) : Framed (Vm.checkNx m) := fun st a st1 hl hm => by
  unfold Vm.checkNx at hm
  cases hb : Nat.ble st.nx limit with
  | false => rw [hb] at hm; cases hm
  | true =>
    rw [hb] at hm
    obtain ⟨k1, r, w, k2, k3, k4, k5, k6, k7⟩ := h st a st1 hl hm
    refine ⟨k1, r, w, k2, k3, k4, k5, k6, fun h' rl' wl' hl' ha => ?_⟩
    obtain ⟨h1', e1, e2⟩ := k7 h' rl' wl' hl' ha
    exact ⟨h1', by unfold Vm.checkNx; simp only [hb, cond_true]; exact e1, e2⟩
theorem xdraw_framed {P : Program} {look : Look} (hl : LookFr look) (ops : Array Oper) : ∀ (l : List Oper) (recs : List Rec) (L : SL), Framed (reM (xdraw P look ops l recs L)) := by
  intro l
  induction l with
  | nil => intro recs L; exact Framed.pure (recs, L)
  | cons o l ih =>
    intro recs L
    have e : ∀ st, xdraw P look ops (o :: l) recs L st = (match gvalY ops L o with
      | some true =>
        match logged ((prepA P o).run look (onlyOf o L)) st with
        | some p => bif Nat.ble p.2.nx limit then xdraw P look ops l (recs ++ [⟨p.1.2.1, p.1.2.2⟩]) (putL o.dst p.1.1 L) p.2 else none
        | none => none
      | some false => xdraw P look ops l (recs ++ [⟨[], []⟩]) (putL o.dst (.sc undef) L) st
      | none => none) := fun st => rfl
    cases hg : gvalY ops L o with
    | none => exact Framed.fail.congr (fun st => by unfold reM; rw [e, hg]; rfl)
    | some b =>
      cases b with
      | false => exact (ih (recs ++ [⟨[], []⟩]) (putL o.dst (.sc undef) L)).congr (fun st => by unfold reM; rw [e, hg])
      | true =>
        refine (Framed.bind (prepA_framed_of (operX_framed (P := P) hl (o := o) (ρ := onlyOf o L))).logged (fun p => (ih (recs ++ [⟨p.2.1, p.2.2⟩]) (putL o.dst p.1 L)).checkNx)).congr (fun st => ?_)
        unfold reM M.bind
        rw [e, hg]
        simp only
        cases logged ((prepA P o).run look (onlyOf o L)) st with
        | none => rfl
        | some p =>
          simp only [checkNx]
          cases Nat.ble p.2.nx limit <;> rfl
theorem xdraw_lk {P : Program} {look : Look} {ops : Array Oper} {t : Nat} : ∀ (l : List Oper) (recs : List Rec) (L : SL) (st : St) (r : List Rec × SL × St), xdraw P look ops l recs L st = some r → (∀ o ∈ l, o.dst ≠ some t) → lk r.2.1 t = lk L t := by
  intro l
  induction l with
  | nil => intro recs L st r h _; cases h; rfl
  | cons o l ih =>
    intro recs L st r h hn
    change (match gvalY ops L o with
      | some true =>
        match logged ((prepA P o).run look (onlyOf o L)) st with
        | some p => bif Nat.ble p.2.nx limit then xdraw P look ops l (recs ++ [⟨p.1.2.1, p.1.2.2⟩]) (putL o.dst p.1.1 L) p.2 else none
        | none => none
      | some false => xdraw P look ops l (recs ++ [⟨[], []⟩]) (putL o.dst (.sc undef) L) st
      | none => none) = some r at h
    have step : ∀ v recs st1, xdraw P look ops l recs (putL o.dst v L) st1 = some r → lk r.2.1 t = lk L t := by
      intro v recs st1 h'
      rw [ih _ _ _ r h' (fun o ho => hn o (by simp [ho])), lk_put, if_neg (hn o (by simp))]
    split at h
    · split at h
      · rename_i p _
        cases hb : Nat.ble p.2.nx limit with
        | true => rw [hb] at h; exact step _ _ _ h
        | false => rw [hb] at h; cases h
      · cases h
    · exact step _ _ _ h
    · cases h

/-- Logs that are calm are calm as footprints. -/
theorem apartN_of {a b a' b' : List Nat} (h : apartN a b = true) (ha : ∀ o ∈ a', o ∈ a) (hb : ∀ o ∈ b', o ∈ b) : apartN a' b' = true :=
  (apartN_iff _ _).2 fun o h1 h2 => apartN_no h (ha o h1) (hb o h2)
def SubRec (a a' : Rec) : Prop := (∀ o ∈ a'.W, o ∈ a.W) ∧ ∀ o ∈ a'.R, o ∈ a.R ∨ o ∈ a.W
theorem apartN_or {a b c x y : List Nat} (h1 : apartN a b = true) (h2 : apartN a c = true) (hx : ∀ o ∈ x, o ∈ a) (hy : ∀ o ∈ y, o ∈ b ∨ o ∈ c) : apartN x y = true :=
  (apartN_iff _ _).2 fun o k1 k2 => (hy o k2).elim (apartN_no h1 (hx o k1)) (apartN_no h2 (hx o k1))
theorem apartN_or' {a b c x y : List Nat} (h1 : apartN b a = true) (h2 : apartN c a = true) (hx : ∀ o ∈ x, o ∈ b ∨ o ∈ c) (hy : ∀ o ∈ y, o ∈ a) : apartN x y = true :=
  (apartN_iff _ _).2 fun o k1 k2 => (hx o k1).elim (fun h => apartN_no h1 h (hy o k2)) (fun h => apartN_no h2 h (hy o k2))
theorem calmPair_sub {before : Array Nat} {i j : Nat} {a b a' b' : Rec} (ha : SubRec a a') (hb : SubRec b b') (h : calmPair before i j a b = true) : calmPair before i j a' b' = true := by
  unfold calmPair at h ⊢
  simp only [Bool.or_eq_true, Bool.and_eq_true] at h ⊢
  rcases h with ⟨⟨h1, h2⟩, h3⟩ | h
  · exact .inl ⟨⟨apartN_or h1 h2 ha.1 hb.2, apartN_of h2 ha.1 hb.1⟩, apartN_or' h3 h2 ha.2 hb.1⟩
  · exact .inr h
theorem calmRow_sub {before : Array Nat} {i : Nat} {a a' : Rec} (ha : SubRec a a') : ∀ (l l' : List Rec) (j : Nat), l.length = l'.length → (∀ (k : Nat) x y, l[k]? = some x → l'[k]? = some y → SubRec x y) → calmRow before i a j l = true → calmRow before i a' j l' = true
  | [], [], _, _, _, _ => rfl
  | [], _ :: _, _, h, _, _ => by simp at h
  | _ :: _, [], _, h, _, _ => by simp at h
  | x :: l, y :: l', j, hl, hs, h => by
    simp only [calmRow, Bool.and_eq_true] at h ⊢
    exact ⟨calmPair_sub ha (hs 0 x y rfl rfl) h.1, calmRow_sub ha l l' (j + 1) (by simpa using hl) (fun k u v hu hv => hs (k + 1) u v (by simpa using hu) (by simpa using hv)) h.2⟩
theorem calmAll_sub {before : Array Nat} : ∀ (l l' : List Rec) (j : Nat), l.length = l'.length → (∀ (k : Nat) x y, l[k]? = some x → l'[k]? = some y → SubRec x y) → calmAll before j l = true → calmAll before j l' = true
  | [], [], _, _, _, _ => rfl
  | [], _ :: _, _, h, _, _ => by simp at h
  | _ :: _, [], _, h, _, _ => by simp at h
  | x :: l, y :: l', j, hl, hs, h => by
    simp only [calmAll, Bool.and_eq_true] at h ⊢
    exact ⟨calmRow_sub (hs 0 x y rfl rfl) l l' (j + 1) (by simpa using hl) (fun k u v hu hv => hs (k + 1) u v (by simpa using hu) (by simpa using hv)) h.1, calmAll_sub l l' (j + 1) (by simpa using hl) (fun k u v hu hv => hs (k + 1) u v (by simpa using hu) (by simpa using hv)) h.2⟩

theorem xdraw_ok {P : Program} {look : Look} (hl : LookFr look) {ops : Array Oper} {E : List Rec → Prop} {K : SL → St → Prop} : ∀ (l : List Oper) (recs recs' : List Rec) (L : SL) (st st' : St) (r : List Rec × SL × St), xdraw P look ops l recs L st = some r → Low st → (∀ o, st'.h.get o = st.h.get o) → st'.nx = st.nx →
    recs.length = recs'.length → (∀ (k : Nat) x y, recs[k]? = some x → recs'[k]? = some y → SubRec x y) → (∀ l', r.1.length = l'.length → (∀ (k : Nat) x y, r.1[k]? = some x → l'[k]? = some y → SubRec x y) → E l') → (∀ st2, (∀ o, st2.h.get o = r.2.2.h.get o) → st2.nx = r.2.2.nx → K r.2.1 st2) →
    opsY P (tabX look) ops E l K recs' L st' := by
  intro l
  induction l with
  | nil =>
    intro recs recs' L st st' r h hlo hh hnx hlen hsub hc hk
    cases h
    exact ⟨hc _ hlen hsub, hk st' hh hnx⟩
  | cons o l ih =>
    intro recs recs' L st st' r h hlo hh hnx hlen hsub hc hk
    change (match gvalY ops L o with
      | some true =>
        match logged ((prepA P o).run look (onlyOf o L)) st with
        | some p => bif Nat.ble p.2.nx limit then xdraw P look ops l (recs ++ [⟨p.1.2.1, p.1.2.2⟩]) (putL o.dst p.1.1 L) p.2 else none
        | none => none
      | some false => xdraw P look ops l (recs ++ [⟨[], []⟩]) (putL o.dst (.sc undef) L) st
      | none => none) = some r at h
    have hsnoc : ∀ (a a' : Rec), SubRec a a' → ∀ (k : Nat) x y, (recs ++ [a])[k]? = some x → (recs' ++ [a'])[k]? = some y → SubRec x y := by
      intro a a' ha k x y hx hy
      rcases Nat.lt_trichotomy k recs.length with hk' | hk' | hk'
      · rw [List.getElem?_append_left hk'] at hx
        rw [List.getElem?_append_left (by omega)] at hy
        exact hsub k x y hx hy
      · subst hk'
        rw [List.getElem?_append_right (Nat.le_refl _), Nat.sub_self] at hx
        rw [List.getElem?_append_right (by omega), hlen, Nat.sub_self] at hy
        cases hx; cases hy
        exact ha
      · rw [List.getElem?_eq_none (by simp; omega)] at hx; cases hx
    cases hb : gvalY ops L o with
    | none => rw [hb] at h; cases h
    | some b =>
      rw [hb] at h
      cases b with
      | true =>
        refine .inl ⟨hb, ?_⟩
        simp only at h
        cases h1 : logged ((prepA P o).run look (onlyOf o L)) st with
        | none => rw [h1] at h; cases h
        | some p =>
        rw [h1] at h
        simp only at h
        rw [prepA_eq] at h1
        have hfr := (operX_framed (P := P) hl (o := o) (ρ := onlyOf o L))
        have hlo1 : Low p.2 := hfr.logged.low hlo h1
        unfold logged at h1
        cases h2 : operX P look o (onlyOf o L) { h := st.h, nx := st.nx, rl := [], wl := [] } with
        | none => rw [h2] at h1; cases h1
        | some q =>
        rw [h2] at h1
        cases h1
        obtain ⟨v, st1⟩ := q
        simp only at h
        cases hlim : Nat.ble st1.nx limit with
        | false => rw [hlim] at h; cases h
        | true =>
        rw [hlim, cond_true] at h
        have hlim := Nat.le_of_ble_eq_true hlim
        obtain ⟨k1, rr, ww, k2, k3, k4, k5, k6, k7⟩ := hfr { h := st.h, nx := st.nx, rl := [], wl := [] } v st1 hlo h2
        rw [List.append_nil] at k2 k3
        simp only at k1 k5 k6 k7
        obtain ⟨F, hF⟩ : ∃ F, F = (rr ++ ww).filter (fun o => decide (o < st.nx)) := ⟨_, rfl⟩
        obtain ⟨W, hW⟩ : ∃ W, W = ww.filter (fun o => decide (o < st.nx)) := ⟨_, rfl⟩
        have mF : ∀ o, o ∈ F ↔ (o ∈ rr ∨ o ∈ ww) ∧ o < st.nx := fun o => by rw [hF, List.mem_filter, List.mem_append, decide_eq_true_eq]
        have mW : ∀ o, o ∈ W ↔ o ∈ ww ∧ o < st.nx := fun o => by rw [hW]; simp
        have hFl : ∀ q ∈ F, q ≤ limit := fun q hq => by have := ((mF q).1 hq).2; omega
        have hmask : ∀ o, (maskH st'.h F).get o = if o ∈ F then st'.h.get o else none := fun o => maskH_get _ _ _ hFl
        obtain ⟨h1', e1, e2⟩ := k7 (maskH st'.h F) [] [] (fun o x hx => by
          rw [hmask] at hx
          by_cases ho : o ∈ F
          · exact ((mF o).1 ho).2
          · rw [if_neg ho] at hx; cases hx) (fun o ho => by
          rw [hmask]
          by_cases hlt : o < st.nx
          · rw [if_pos ((mF o).2 ⟨ho, hlt⟩)]; exact hh o
          · rw [if_neg (fun h => hlt ((mF o).1 h).2)]
            cases hx : st.h.get o with
            | none => rfl
            | some x => exact absurd (hlo o x hx) hlt)
        rw [List.append_nil, List.append_nil] at e1
        refine ⟨F, W, v, { h := h1', nx := st1.nx, rl := rr, wl := ww }, ?_, fun q hq => (mF q).2 ⟨.inr ((mW q).1 hq).1, ((mW q).1 hq).2⟩, fun q hq hqn => ?_, fun q hq => by rw [hnx]; exact ((mF q).1 hq).2, hlim, ?_⟩
        · rw [← operX_eq, hnx]; exact e1
        · simp only
          rw [e2, if_neg (fun h => hqn ((mW q).2 ⟨h, ((mF q).1 hq).2⟩))]
        · have hnew : ∀ q ∈ F ++ fromTo st'.nx (st1.nx - st'.nx), q ≤ limit := fun q hq => by
            rcases List.mem_append.1 hq with hq | hq
            · exact hFl q hq
            · rw [fromTo_mem] at hq; omega
          refine ih _ _ _ _ _ r h hlo1 (fun q => ?_) rfl (by simp [hlen]) (hsnoc _ _ ⟨fun q hq => ?_, fun q hq => ?_⟩) hc hk
          · simp only
            rw [mergeH_get _ _ _ _ hnew]
            by_cases hq : q ∈ F ++ fromTo st'.nx (st1.nx - st'.nx)
            · rw [if_pos hq, e2]
              by_cases hw : q ∈ ww
              · rw [if_pos hw]
              · rw [if_neg hw, hmask]
                have hqF : q ∈ F := by
                  rcases List.mem_append.1 hq with hq | hq
                  · exact hq
                  · rw [fromTo_mem] at hq
                    exact absurd (k5 q (by omega) (by omega)) hw
                rw [if_pos hqF, hh q]
                exact (k6 q hw).symm
            · rw [if_neg hq]
              have hw : q ∉ ww := fun hw => hq (by
                rcases Nat.lt_or_ge q st.nx with h9 | h9
                · exact List.mem_append.2 (.inl ((mF q).2 ⟨.inr hw, h9⟩))
                · refine List.mem_append.2 (.inr ?_)
                  rw [fromTo_mem]
                  have := k4 q hw
                  omega)
              rw [hh q]
              exact (k6 q hw).symm
          · simp only [k3]
            rcases List.mem_append.1 hq with hq | hq
            · exact ((mW q).1 hq).1
            · rw [fromTo_mem] at hq
              simp only at hq
              exact k5 q (by omega) (by omega)
          · simp only [k2, k3]
            exact ((mF q).1 hq).1
      | false =>
        refine .inr ⟨hb, ?_⟩
        simp only at h
        exact ih _ _ _ _ _ r h hlo hh hnx (by simp [hlen]) (hsnoc _ _ ⟨fun o ho => ho, fun o ho => .inl ho⟩) hc hk

end
end Go.Vm
