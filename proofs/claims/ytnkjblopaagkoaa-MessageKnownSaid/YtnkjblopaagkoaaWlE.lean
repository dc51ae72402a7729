/- Walks on abstract values: whatever order is drawn; all control. No condition. -/
import Derived.Test.YtnkjblopaagkoaaWlD
namespace Go.Vm
noncomputable section

/-! ### What must stand ahead of an operation -/
theorem inner_bits {acc : Array Nat} {k : Nat} : ∀ (l : List Edge) (s0 : Nat), (l.foldl (fun s e => if Region.binds .any e then s ||| 2 ^ e.on ||| acc.getD e.on 0 else s) s0).testBit k = true →
    s0.testBit k = true ∨ ∃ e ∈ l, Region.binds .any e = true ∧ (k = e.on ∨ (acc.getD e.on 0).testBit k = true)
  | [], s0, h => .inl h
  | e :: l, s0, h => by
    simp only [List.foldl_cons] at h
    rcases inner_bits l _ h with h1 | ⟨e', he, h1, h2⟩
    · by_cases hb : Region.binds .any e = true
      · rw [if_pos hb] at h1
        simp only [Nat.testBit_or, Bool.or_eq_true, Nat.testBit_two_pow, decide_eq_true_eq] at h1
        rcases h1 with (h1 | h1) | h1
        · exact .inl h1
        · exact .inr ⟨e, by simp, hb, .inl h1.symm⟩
        · exact .inr ⟨e, by simp, hb, .inr h1⟩
      · rw [if_neg hb] at h1; exact .inl h1
    · exact .inr ⟨e', by simp [he], h1, h2⟩
def befStep (acc : Array Nat) (o : Oper) : Array Nat := acc.push (o.after.foldl (fun s e => if Region.binds .any e then s ||| 2 ^ e.on ||| acc.getD e.on 0 else s) 0)
theorem before_list (ops : Array Oper) : Region.before ops = ops.toList.foldl befStep #[] := by
  unfold Region.before
  rw [← Array.foldl_toList]
  rfl
theorem getD_zero {a : Array Nat} {i k : Nat} (h : (a.getD i 0).testBit k = true) : i < a.size := by
  rcases Nat.lt_or_ge i a.size with h1 | h1
  · exact h1
  · rw [Array.getD_eq_getD_getElem?, Array.getElem?_eq_none h1] at h
    simp at h
theorem bef_bits (l : List Oper) : (l.foldl befStep #[]).size = l.length ∧ ∀ i k, ((l.foldl befStep #[]).getD i 0).testBit k = true →
    ∃ o, l[i]? = some o ∧ ∃ e ∈ o.after, Region.binds .any e = true ∧ (k = e.on ∨ ((l.foldl befStep #[]).getD e.on 0).testBit k = true) := by
  suffices h : ∀ r : List Oper, (r.reverse.foldl befStep #[]).size = r.length ∧ ∀ i k, ((r.reverse.foldl befStep #[]).getD i 0).testBit k = true →
      ∃ o, r.reverse[i]? = some o ∧ ∃ e ∈ o.after, Region.binds .any e = true ∧ (k = e.on ∨ ((r.reverse.foldl befStep #[]).getD e.on 0).testBit k = true) by
    have := h l.reverse
    simpa using this
  intro r
  induction r with
  | nil => exact ⟨rfl, fun i k h => by have := getD_zero h; simp at this⟩
  | cons o r ih =>
    rw [List.reverse_cons, List.foldl_append]
    generalize hb : r.reverse.foldl befStep #[] = b at ih
    obtain ⟨h1, h2⟩ := ih
    simp only [List.foldl_cons, List.foldl_nil]
    have hsz : (befStep b o).size = r.length + 1 := by simp [befStep, h1]
    have hget : ∀ i, i < b.size → (befStep b o).getD i 0 = b.getD i 0 := by
      intro i hi
      simp only [befStep, Array.getD_eq_getD_getElem?, Array.getElem?_push]
      rw [if_neg (by omega)]
    refine ⟨by simpa using hsz, fun i k h => ?_⟩
    have hi := getD_zero h
    rw [hsz] at hi
    by_cases hlt : i < b.size
    · rw [hget i hlt] at h
      obtain ⟨o', ho, e, he, hbn, hk⟩ := h2 i k h
      refine ⟨o', by rw [List.getElem?_append_left (by simp; omega)]; exact ho, e, he, hbn, hk.imp id fun hk => ?_⟩
      rw [hget _ (getD_zero hk)]; exact hk
    · have hie : i = r.length := by omega
      have hv : (befStep b o).getD i 0 = o.after.foldl (fun s e => if Region.binds .any e then s ||| 2 ^ e.on ||| b.getD e.on 0 else s) 0 := by
        simp only [befStep, Array.getD_eq_getD_getElem?, Array.getElem?_push]
        rw [if_pos (by omega)]; rfl
      rw [hv, ← Array.foldl_toList] at h
      rcases inner_bits _ _ h with h3 | ⟨e, he, hbn, hk⟩
      · simp at h3
      · refine ⟨o, by rw [List.getElem?_append_right (by simp; omega)]; simp [hie], e, by simpa using he, hbn, hk.imp id fun hk => ?_⟩
        rw [hget _ (getD_zero hk)]; exact hk
theorem before_bits {ops : Array Oper} {i k : Nat} (h : ((Region.before ops).getD i 0).testBit k = true) :
    ∃ o, ops[i]? = some o ∧ ∃ e ∈ o.after, Region.binds .any e = true ∧ (k = e.on ∨ ((Region.before ops).getD e.on 0).testBit k = true) := by
  rw [before_list] at h ⊢
  obtain ⟨o, ho, r⟩ := (bef_bits ops.toList).2 i k h
  exact ⟨o, by simpa using ho, r⟩

/-! ### The checks -/
theorem apartN_no {a b : List Nat} (h : apartN a b = true) {o : Nat} (ha : o ∈ a) (hb : o ∈ b) : False := (apartN_iff a b).1 h o ha hb

theorem calmRow_get {before : Array Nat} {i : Nat} {a : Rec} : ∀ (r : List Rec) (j : Nat), calmRow before i a j r = true → ∀ k b, r[k]? = some b → calmPair before i (j + k) a b = true
  | [], j, _, k, b, h => by simp at h
  | c :: r, j, h, k, b, hk => by
    simp only [calmRow, Bool.and_eq_true] at h
    cases k with
    | zero => simp at hk; subst hk; exact h.1
    | succ k => have := calmRow_get r (j + 1) h.2 k b (by simpa using hk); rwa [show j + 1 + k = j + (k + 1) from by omega] at this
theorem calmAll_get {before : Array Nat} : ∀ (r : List Rec) (j : Nat), calmAll before j r = true → ∀ i k a b, i < k → r[i]? = some a → r[k]? = some b → calmPair before (j + i) (j + k) a b = true
  | [], j, _, i, k, a, b, _, h, _ => by simp at h
  | c :: r, j, h, i, k, a, b, hlt, hi, hk => by
    simp only [calmAll, Bool.and_eq_true] at h
    obtain ⟨k, rfl⟩ : ∃ q, k = q + 1 := ⟨k - 1, by omega⟩
    cases i with
    | zero => simp at hi; subst hi; have := calmRow_get r (j + 1) h.1 k b (by simpa using hk); rwa [show j + 1 + k = j + (k + 1) from by omega] at this
    | succ i =>
      have := calmAll_get r (j + 1) h.2 i k a b (by omega) (by simpa using hi) (by simpa using hk)
      rwa [show j + 1 + i = j + (i + 1) from by omega, show j + 1 + k = j + (k + 1) from by omega] at this

def Closed (ops : Array Oper) (D : Nat → Bool) : Prop := ∀ i k, D i = true → ((Region.before ops).getD i 0).testBit k = true → D k = true
theorem ready_before {ops : Array Oper} {D : Nat → Bool} {i : Nat} {o : Oper} (hc : Closed ops D) (ho : ops[i]? = some o) (hr : ∀ e ∈ o.after, Region.binds .any e = true → D e.on = true) :
    ∀ k, ((Region.before ops).getD i 0).testBit k = true → D k = true := by
  intro k hk
  obtain ⟨o', ho', e, he, hb, h⟩ := before_bits hk
  rw [ho] at ho'; cases ho'
  rcases h with rfl | h
  · exact hr e he hb
  · exact hc e.on k (hr e he hb) h
theorem Closed.upd {ops : Array Oper} {D : Nat → Bool} {i : Nat} {o : Oper} (hc : Closed ops D) (ho : ops[i]? = some o) (hr : ∀ e ∈ o.after, Region.binds .any e = true → D e.on = true) : Closed ops (upd D i) := by
  intro j k hj hk
  have : D k = true := by
    by_cases e : j = i
    · subst e; exact ready_before hc ho hr k hk
    · simp only [Vm.upd, if_neg e] at hj; exact hc j k hj hk
  simp only [Vm.upd]; split
  · rfl
  · exact this

/-- How many are left. -/
def left (D : Nat → Bool) : Nat → Nat
  | 0 => 0
  | m + 1 => left D m + (bif D m then 0 else 1)
theorem left_upd {D : Nat → Bool} {i : Nat} (hi : D i = false) : ∀ m, left (upd D i) m + (if i < m then 1 else 0) = left D m
  | 0 => by simp [left]
  | m + 1 => by
    have ih := left_upd hi m
    simp only [left, upd]
    by_cases e : m = i
    · subst e
      simp only [if_true, cond_true, hi, cond_false] at *
      simp only [Nat.lt_irrefl, if_false, Nat.lt_succ_self, if_true] at *
      omega
    · rw [if_neg e]
      by_cases h : i < m
      · rw [if_pos h] at ih; rw [if_pos (by omega)]; omega
      · rw [if_neg h] at ih; rw [if_neg (by omega)]; omega
theorem left_zero {D : Nat → Bool} : ∀ m, left D m = 0 → ∀ k, k < m → D k = true
  | 0, _, k, h => by omega
  | m + 1, h, k, hk => by
    simp only [left] at h
    by_cases e : k = m
    · subst e
      cases hd : D k with
      | true => rfl
      | false => rw [hd] at h; simp at h
    · exact left_zero m (by omega) k (by omega)
theorem left_least {D : Nat → Bool} : ∀ m, (∃ k, k < m ∧ D k = false) → ∃ k, k < m ∧ D k = false ∧ ∀ j, j < k → D j = true
  | 0, ⟨k, h, _⟩ => by omega
  | m + 1, ⟨k, hk, hd⟩ => by
    by_cases h : ∃ k, k < m ∧ D k = false
    · obtain ⟨j, h1, h2, h3⟩ := left_least m h; exact ⟨j, by omega, h2, h3⟩
    · have hall : ∀ j, j < m → D j = true := fun j hj => by
        cases hdj : D j with
        | true => rfl
        | false => exact (h ⟨j, hj, hdj⟩).elim
      have : k = m := by
        rcases Nat.lt_or_ge k m with h1 | h1
        · rw [hall k h1] at hd; cases hd
        · omega
      subst this
      exact ⟨k, by omega, hd, hall⟩

theorem nxAt_mono {ds : List DS} {n0 : Nat} (h : ∀ i d, ds[i]? = some d → d.st.nx = nxAt ds n0 i ∧ d.st.nx ≤ d.st1.nx) : ∀ m i, i ≤ m → nxAt ds n0 i ≤ nxAt ds n0 m
  | 0, i, hi => by rw [show i = 0 from by omega]; exact Nat.le_refl _
  | m + 1, i, hi => by
    by_cases e : i = m + 1
    · subst e; exact Nat.le_refl _
    · have ih := nxAt_mono h m i (by omega)
      refine Nat.le_trans ih ?_
      rw [nxAt.eq_2]
      cases hd : ds[m]? with
      | none => exact Nat.le_refl _
      | some d => obtain ⟨h1, h2⟩ := h m d hd; simp only; omega

theorem wanted_val {ops : Array Oper} {o : Oper} {g w nt b} {L : SL} {tmps : Array Value} (hsz : tmps.size = nt) (hs : ∀ j b, o.guard = some (j, b) → ∃ d, ((ops[j]?).bind (·.dst)) = some d ∧ d < nt)
    (hr : ∀ j c, o.guard = some (j, c) → Rel g w (lk L (gslot ops j)) (tmps.getD (gslot ops j) undef)) (h : gval ops L o = some b) : Region.wanted o (yielded ops tmps) = b := by
  unfold gval at h
  unfold Region.wanted
  cases hg : o.guard with
  | none => rw [hg] at h; simpa using h
  | some q =>
    obtain ⟨j, c⟩ := q
    obtain ⟨d, hd, hlt⟩ := hs j c hg
    have hrel := hr j c hg
    rw [hg] at h
    have hgs : gslot ops j = d := by unfold gslot; rw [hd]; rfl
    dsimp only at h ⊢
    rw [hgs] at h hrel
    rw [yielded_val c hd (by rw [hsz]; exact hlt)]
    exact want_exact hrel h

end
end Go.Vm
