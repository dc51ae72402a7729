/- Runs on abstract values: code carried out along its text, calls by a table. Definitions, and what they say of walks. No condition. -/
import Derived.Test.YtjfhegabpjmahaaWlI
namespace Go.Vm
noncomputable section

/-! ### Calls by a function instead of a list -/
abbrev Look := Nat → Option (Bool × (List AV → M AV))
def topF : Nat := 10000
def callX (look : Look) (f : Nat) (args : List AV) : M AV :=
  bif Nat.blt f topF then
    match look f with
    | some p => mono (p.2 args)
    | none => .fail
  else .fail
def callFnX (look : Look) (g : Fn) (args : List AV) : M AV :=
  match g with
  | .func g => callX look g args
  | _ => .fail
def callVX (look : Look) (f : AV) (args : List AV) : M AV :=
  match f with
  | .fn g first captured => callFnX look g (first ++ args ++ captured)
  | .sc x =>
    match x with
    | .func g first captured => callFnX look g (first.toList.map .sc ++ args ++ captured.toList.map .sc)
    | _ => .fail
  | _ => .fail
def operX (P : Program) (look : Look) (o : Oper) (ρ : Operand → AV) : M AV :=
  match o.op with
  | .call { callee := .value f, args, .. } => callVX look (ρ f) (args.toList.map ρ)
  | _ => mono (aop P o ρ)
def tabOf (look : Look) : Nat → Tab
  | 0 => []
  | n + 1 =>
    match look n with
    | some p => (n, p.1, p.2) :: tabOf look n
    | none => tabOf look n
theorem tabOf_find (look : Look) (f : Nat) : ∀ n, (tabOf look n).find f = if f < n then look f else none
  | 0 => by simp [tabOf, Tab.find]
  | n + 1 => by
    rw [tabOf]
    cases hl : look n with
    | some p =>
      simp only [Tab.find]
      by_cases e : n = f
      · subst e; simp [hl]
      · rw [beq_no e, cond_false, tabOf_find look f n]
        by_cases h : f < n
        · rw [if_pos h, if_pos (by omega)]
        · rw [if_neg h, if_neg (by omega)]
    | none =>
      simp only
      rw [tabOf_find look f n]
      by_cases h : f < n
      · rw [if_pos h, if_pos (by omega)]
      · rw [if_neg h]
        by_cases e : f = n
        · subst e; rw [if_pos (by omega), hl]
        · rw [if_neg (by omega)]
def tabX (look : Look) : Tab := tabOf look topF
theorem find_tabX (look : Look) (f : Nat) : (tabX look).find f = bif Nat.blt f topF then look f else none := by
  rw [tabX, tabOf_find]
  by_cases h : f < topF
  · rw [if_pos h, show Nat.blt f topF = true from by simpa using h]; rfl
  · rw [if_neg h, show Nat.blt f topF = false from by cases hb : Nat.blt f topF with | false => rfl | true => exact (h (by simpa using hb)).elim]; rfl
theorem callX_eq (look : Look) : callX look = callT (tabX look) := by
  funext f args
  unfold callX callT
  rw [find_tabX]
  cases Nat.blt f topF with
  | false => rfl
  | true => cases look f <;> rfl
theorem operX_eq (P : Program) (look : Look) : operX P look = operL P (tabX look) := by
  have h1 : callFnX look = callFn (tabX look) := by funext g args; unfold callFnX callFn; rw [callX_eq]; rfl
  have h2 : callVX look = callV (tabX look) := by funext f args; unfold callVX callV; rw [h1]; rfl
  funext o ρ
  unfold operX operL
  rw [h2]
  rfl

/-! ### Operations -/
def xone (P : Program) (look : Look) (ops : Array Oper) (o : Oper) (L : SL) (st : St) : Option (SL × St) :=
  match gval ops L o with
  | some true =>
    match operX P look o (evL L) st with
    | some (v, st') => some (putL o.dst v L, st')
    | none => none
  | some false => some (putL o.dst (.sc undef) L, st)
  | none => none
structure XO where
  run : Look → SL → St → Option (SL × St)
def prepO (P : Program) (ops : Array Oper) (o : Oper) : XO := ⟨fun look L st => xone P look ops o L st⟩
theorem prepO_ok {P look ops o L st r} (h : (prepO P ops o).run look L st = some r) : xone P look ops o L st = some r := h
def prepOs (P : Program) (ops : Array Oper) (l : List Oper) : XO :=
  List.rec (motive := fun _ => XO) ⟨fun _ L st => some (L, st)⟩ (fun o _ ih => ⟨fun look L st =>
    match (prepO P ops o).run look L st with
    | some p => ih.run look p.1 p.2
    | none => none⟩) l

theorem guarded_of {ops : Array Oper} {L : SL} {o : Oper} {x y : Prop} {b : Bool} (h : gval ops L o = some b) (hx : b = true → x) (hy : b = false → y) : guarded ops L o.guard x y := by
  unfold gval at h
  unfold guarded
  cases hg : o.guard with
  | none => rw [hg] at h; cases h; exact hx rfl
  | some q =>
    obtain ⟨j, c⟩ := q
    rw [hg] at h
    simp only at h ⊢
    rw [h]
    exact ⟨hx, hy⟩
theorem prepOs_ok {P : Program} {look : Look} {ops : Array Oper} {K : SL → St → Prop} : ∀ (l : List Oper) (L : SL) (st : St) (p : SL × St), (prepOs P ops l).run look L st = some p → K p.1 p.2 → opsL P (tabX look) ops l K L st := by
  intro l
  induction l with
  | nil => intro L st p h hk; cases h; exact hk
  | cons o l ih =>
    intro L st p h hk
    change (match (prepO P ops o).run look L st with | some p => (prepOs P ops l).run look p.1 p.2 | none => none) = some p at h
    cases h1 : (prepO P ops o).run look L st with
    | none => rw [h1] at h; cases h
    | some q =>
      rw [h1] at h
      have h2 := prepO_ok h1
      unfold xone at h2
      show guarded ops L o.guard _ _
      cases hb : gval ops L o with
      | none => rw [hb] at h2; cases h2
      | some b =>
        rw [hb] at h2
        refine guarded_of hb (fun e => ?_) (fun e => ?_)
        · subst e
          simp only at h2
          show afterOp (operL P (tabX look) o (evL L) st) o.dst L _
          rw [operX_eq] at h2
          cases h3 : operL P (tabX look) o (evL L) st with
          | none => rw [h3] at h2; cases h2
          | some r =>
            obtain ⟨v, st'⟩ := r
            rw [h3] at h2
            cases h2
            exact ih _ _ p h hk
        · subst e
          simp only at h2
          cases h2
          exact ih _ _ p h hk
/-- Slots that are not written stay. -/
theorem prepOs_lk {P : Program} {look : Look} {ops : Array Oper} {t : Nat} : ∀ (l : List Oper) (L : SL) (st : St) (p : SL × St), (prepOs P ops l).run look L st = some p → (∀ o ∈ l, o.dst ≠ some t) → lk p.1 t = lk L t := by
  intro l
  induction l with
  | nil => intro L st p h _; cases h; rfl
  | cons o l ih =>
    intro L st p h hn
    change (match (prepO P ops o).run look L st with | some p => (prepOs P ops l).run look p.1 p.2 | none => none) = some p at h
    cases h1 : (prepO P ops o).run look L st with
    | none => rw [h1] at h; cases h
    | some q =>
      rw [h1] at h
      rw [ih _ _ p h (fun o ho => hn o (by simp [ho]))]
      have h2 := prepO_ok h1
      have hq : ∃ v, q.1 = putL o.dst v L := by
        unfold xone at h2
        split at h2
        · split at h2
          · cases h2; exact ⟨_, rfl⟩
          · cases h2
        · cases h2; exact ⟨_, rfl⟩
        · cases h2
      obtain ⟨v, hv⟩ := hq
      rw [hv, lk_put, if_neg (hn o (by simp))]

/-! ### Slots: sets of them as numbers -/
def hasB (s t : Nat) : Bool := Nat.beq (Nat.land (Nat.shiftRight s t) 1) 1
def addB (s t : Nat) : Nat := Nat.lor s (Nat.shiftLeft 1 t)
def keepL (ks : List Nat) (L L0 : SL) : SL := List.rec (motive := fun _ => SL) L0 (fun t _ ih => (t, lk L t) :: ih) ks
theorem keepL_lk (L L0 : SL) (t : Nat) : ∀ ks, lk (keepL ks L L0) t = if t ∈ ks then lk L t else lk L0 t
  | [] => by simp [keepL]
  | k :: ks => by
    show lk ((k, lk L k) :: keepL ks L L0) t = _
    rw [lk_cons, keepL_lk L L0 t ks]
    by_cases e : k = t
    · subst e; simp
    · rw [if_neg e]
      simp only [List.mem_cons, Ne.symm e, false_or]
def pruneL (L : SL) : Nat → SL := List.rec (motive := fun _ => Nat → SL) (fun _ => []) (fun p _ ih s => bif hasB s p.1 then ih s else p :: ih (addB s p.1)) L
theorem hasB_addB (s t u : Nat) : hasB (addB s t) u = (hasB s u || decide (t = u)) := by
  have key : ∀ s u, hasB s u = s.testBit u := by
    intro s u
    unfold hasB
    rw [Nat.testBit]
    show Nat.beq ((s >>> u) &&& 1) 1 = _
    rw [Nat.and_comm]
    have : 1 &&& (s >>> u) < 2 := Nat.lt_of_le_of_lt Nat.and_le_left (by omega)
    rcases (by omega : 1 &&& (s >>> u) = 0 ∨ 1 &&& (s >>> u) = 1) with h | h <;> rw [h] <;> rfl
  rw [key, key]
  show (s ||| (1 <<< t)).testBit u = _
  rw [Nat.testBit_or, Nat.shiftLeft_eq, Nat.one_mul, Nat.testBit_two_pow]
theorem pruneL_lk (t : Nat) : ∀ (L : SL) (s : Nat), lk (pruneL L s) t = bif hasB s t then .bad else lk L t
  | [], s => by cases h : hasB s t <;> rfl
  | p :: L, s => by
    obtain ⟨k, v⟩ := p
    show lk (bif hasB s k then pruneL L s else (k, v) :: pruneL L (addB s k)) t = _
    rw [lk_cons]
    cases hk : hasB s k with
    | true =>
      rw [cond_true, pruneL_lk t L s]
      by_cases e : k = t
      · subst e; rw [hk]; rfl
      · rw [if_neg e]
    | false =>
      rw [cond_false, lk_cons, pruneL_lk t L, hasB_addB]
      by_cases e : k = t
      · subst e; rw [if_pos rfl, if_pos rfl, hk]; rfl
      · rw [if_neg e, if_neg e, decide_eq_false e, Bool.or_false]

/-- Slots of which less is known. -/
def Less (L' L : SL) : Prop := ∀ t, lk L' t = lk L t ∨ lk L' t = .bad
theorem RelSL.less {g w nt L L' tmps} (h : RelSL g w nt L tmps) (hl : Less L' L) : RelSL g w nt L' tmps :=
  ⟨h.1, fun t => by rcases hl t with e | e <;> rw [e]; exact h.2 t; exact .bad _⟩
/-- Only these slots are known. -/
def Within (ex : Nat) (L : SL) : Prop := ∀ t, hasB ex t = false → lk L t = .bad

/-! ### Regions -/
def keysOf (ex : Nat) (ops : Array Oper) : List Nat := (ops.toList.filterMap (·.dst)).filter (hasB ex)
theorem region_less {ex : Nat} {ops : Array Oper} {L L0 : SL} (hw : Within ex L0) (hlk : ∀ t, (∀ o ∈ ops.toList, o.dst ≠ some t) → lk L t = lk L0 t) : Less (keepL (keysOf ex ops) L L0) L ∧ Within ex (keepL (keysOf ex ops) L L0) := by
  have hm : ∀ t, t ∈ keysOf ex ops ↔ (∃ o ∈ ops.toList, o.dst = some t) ∧ hasB ex t = true := by
    intro t; simp [keysOf, List.mem_filter, List.mem_filterMap]
  refine ⟨fun t => ?_, fun t ht => ?_⟩
  · rw [keepL_lk]
    by_cases h : t ∈ keysOf ex ops
    · rw [if_pos h]; exact .inl rfl
    · rw [if_neg h]
      cases hx : hasB ex t with
      | false => exact .inr (hw t hx)
      | true =>
        refine .inl (hlk t fun o ho e => h ((hm t).2 ⟨⟨o, ho, e⟩, hx⟩)).symm
  · rw [keepL_lk, if_neg (fun h => by have := ((hm t).1 h).2; rw [ht] at this; cases this)]
    exact hw t ht

/-- A computation with what it reads and writes. -/
def logged {α : Type} (m : M α) : M (α × List Nat × List Nat) := fun st =>
  match m { h := st.h, nx := st.nx, rl := [], wl := [] } with
  | some p => some ((p.1, p.2.rl, p.2.wl), { h := p.2.h, nx := p.2.nx, rl := p.2.rl ++ st.rl, wl := p.2.wl ++ st.wl })
  | none => none
def xdraw (P : Program) (look : Look) (ops : Array Oper) (l : List Oper) : List Rec → SL → St → Option (List Rec × SL × St) :=
  List.rec (motive := fun _ => List Rec → SL → St → Option (List Rec × SL × St)) (fun recs L st => some (recs, L, st)) (fun o _ ih recs L st =>
    match gval ops L o with
    | some true =>
      match logged (operX P look o (onlyOf o L)) st with
      | some p => bif Nat.ble p.2.nx limit then ih (recs ++ [⟨p.1.2.1, p.1.2.2⟩]) (putL o.dst p.1.1 L) p.2 else none
      | none => none
    | some false => ih (recs ++ [⟨[], []⟩]) (putL o.dst (.sc undef) L) st
    | none => none) l

end
end Go.Vm
