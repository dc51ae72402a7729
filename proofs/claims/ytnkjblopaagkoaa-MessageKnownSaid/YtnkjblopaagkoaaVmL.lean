/- Lengths, type assertions, composite values. No condition. -/
import Derived.Test.YtnkjblopaagkoaaVmK
namespace Go.Vm

/-- An operation that the abstract one describes: a value, or nothing. -/
def DoesO (P : Program) (g : Gh) (st : St) (w : World) (s : Sem Next) (r : AV) (st' : St) : Prop :=
  ∃ nx w' g', s.run P w = .ok nx w' ∧ Step g st.h w st.nx st'.nx g' st'.h w' ∧ Ok g' st'.h w' ∧ ((∃ v, nx = .value v ∧ Rel g' w' r v) ∨ (nx = .skip ∧ r = .sc undef))

theorem Does.value {P g st w} {s : Sem Value} {r st'} (h : Does P g st w s r st') : DoesO P g st w (do pure (.value (← s))) r st' := by
  obtain ⟨v, w', g', h1, h2, h3, h4⟩ := h
  exact ⟨.value v, w', g', by simp [h1], h2, h3, .inl ⟨v, rfl, h4⟩⟩

theorem opPure_does {P : Program} {g st st' w ρa ρ} {o : Oper} {l : List Operand} {r : AV} (hok : Ok g st.h w) (hρ : RelF g w ρa ρ) (hl : execOp (fun z => ((ρa z).toV).getD undef) o = execOp ρ o ∨ exactAll ρa l = false) (h : opPure P ρa o l st = some (r, st')) :
    DoesO P g st w (execOp ρ o) r st' := by
  obtain ⟨rfl, h1⟩ := opPure_ok hρ hl h
  rcases h1 with ⟨v, h2, rfl⟩ | ⟨h2, rfl⟩
  · exact ⟨_, _, g, h2, .refl _ _ _ _ _, hok, .inl ⟨v, rfl, .sc v⟩⟩
  · exact ⟨_, _, g, h2, .refl _ _ _ _ _, hok, .inr ⟨rfl, rfl⟩⟩

theorem apure_does {P : Program} {g st st' w ρa ρ} {o : Oper} {r : AV} (hok : Ok g st.h w) (hl : execOp (fun z => ((ρa z).toV).getD undef) o = execOp ρ o) (h : M.of (apure P ρa o) st = some (r, st')) :
    DoesO P g st w (execOp ρ o) r st' := by
  obtain ⟨h2, rfl⟩ := of_some h
  unfold apure at h2
  rw [hl] at h2
  split at h2
  · rename_i v hv; cases h2; exact ⟨_, _, g, ev_ok _ _ w hv, .refl _ _ _ _ _, hok, .inl ⟨v, rfl, .sc v⟩⟩
  · rename_i hv; cases h2; exact ⟨_, _, g, ev_ok _ _ w hv, .refl _ _ _ _ _, hok, .inr ⟨rfl, rfl⟩⟩
  · cases h2

theorem exact_one {g w ρa ρ} (hρ : RelF g w ρa ρ) {x : Operand} {v : Value} (h : ρa x = .sc v) : ((ρa x).toV).getD undef = ρ x := by
  have := hρ x
  rw [h] at this ⊢
  rw [this.exact rfl]; rfl
theorem exact_some {g w ρa ρ} (hρ : RelF g w ρa ρ) {x : Operand} (h : (ρa x).toV.isSome = true) : ((ρa x).toV).getD undef = ρ x := by
  obtain ⟨v, hv⟩ := Option.isSome_iff_exists.1 h
  rw [hv, (hρ x).exact hv]; rfl

theorem opLen_ok {P : Program} {g st st' w} {ts : Array TypeId} {ty : TypeId} {x r : AV} {v : Value} (hok : Ok g st.h w) (hx : Rel g w x v) (h : opLen ((ts[0]?).bind P.underlying) x st = some (r, st')) :
    Does P g st w (Builtin.len_ ts ty #[v]) r st' := by
  cases h0 : ts[0]? with
  | none => simp [h0, opLen, M.fail] at h
  | some t =>
  rw [h0] at h
  simp only [Option.bind_some] at h
  cases hu : P.underlying t with
  | none => simp [hu, opLen, M.fail] at h
  | some d =>
  rw [hu] at h
  cases d with
  | array n e =>
    obtain ⟨rfl, rfl⟩ := pure_some h
    exact Does.still hok rfl (by cases v <;> simp [Builtin.len_, h0, run_underlying hu]) (.sc _)
  | slice e =>
    simp only [opLen] at h
    cases hl : sliceLen x with
    | none => simp [hl, M.fail] at h
    | some n =>
      rw [hl] at h
      obtain ⟨rfl, rfl⟩ := pure_some h
      obtain ⟨a, c, rfl⟩ := sliceLen_ok (P := P) hx hl
      exact Does.still hok rfl (by simp [Builtin.len_, h0, run_underlying hu]) (.sc _)
  | string =>
    simp only [opLen] at h
    cases hx with
    | sc =>
      cases v with
      | string s =>
        obtain ⟨rfl, rfl⟩ := pure_some h
        exact Does.still hok rfl (by simp [Builtin.len_, h0, run_underlying hu]) (.sc _)
      | _ => cases h
    | _ => cases h
  | map k e =>
    simp only [opLen] at h
    cases hx with
    | sc =>
      cases v with
      | map m =>
        cases m with
        | none =>
          obtain ⟨rfl, rfl⟩ := pure_some h
          exact Does.still hok rfl (by simp [Builtin.len_, h0, run_underlying hu]) (.sc _)
        | some _ => cases h
      | _ => cases h
    | mp o b base hi =>
      obtain ⟨y, s1, hy, h2⟩ := bind_some h
      obtain ⟨hy1, hh1, hn1⟩ := hget_some hy
      cases y with
      | row => cases h2
      | loop => cases h2
      | map es =>
        obtain ⟨rfl, rfl⟩ := pure_some h2
        obtain ⟨b', base', hi', _, hrel⟩ := hok.obj o _ hy1
        rw [hi] at hi'; cases hi'
        obtain ⟨_, ms, clock, m1, m2, _⟩ := hrel
        exact Does.still hok hh1 (by simp [Builtin.len_, h0, run_underlying hu, getMap m1, m2]) (.sc _)
    | _ => cases h
  | _ => simp [opLen, M.fail] at h

theorem opCap_ok {P : Program} {g st st' w} {ts : Array TypeId} {ty : TypeId} {x r : AV} {v : Value} (hok : Ok g st.h w) (hx : Rel g w x v) (h : opCap ((ts[0]?).bind P.underlying) x st = some (r, st')) :
    Does P g st w (Builtin.cap_ ts ty #[v]) r st' := by
  cases h0 : ts[0]? with
  | none => simp [h0, opCap, M.fail] at h
  | some t =>
  rw [h0] at h
  simp only [Option.bind_some] at h
  cases hu : P.underlying t with
  | none => simp [hu, opCap, M.fail] at h
  | some d =>
  rw [hu] at h
  cases d with
  | slice e =>
    cases hx with
    | sc =>
      cases v with
      | slice a n c =>
        obtain ⟨rfl, rfl⟩ := pure_some h
        exact Does.still hok rfl (by simp [Builtin.cap_, h0, run_underlying hu]) (.sc _)
      | _ => cases h
    | _ => cases h
  | _ => simp [opCap, M.fail] at h

theorem opTypeAssert_ok {P : Program} {g st st' w ρa ρ} {o : Oper} {x : Operand} {xT asserted : TypeId} {ok : Bool} {r : AV} (hok : Ok g st.h w) (hρ : RelF g w ρa ρ) (ho : o.op = .typeAssert x xT asserted ok)
    (h : opTypeAssert P ρa o (ρa x) asserted ok st = some (r, st')) : DoesO P g st w (execOp ρ o) r st' := by
  have hx := hρ x
  have hex : execOp ρ o = (do pure (.value (← Instr.typeAssert (ρ x) xT asserted ok))) := by simp [execOp, ho]
  generalize hax : ρa x = ax at hx h
  cases ax with
  | ifc d a =>
    rw [hex]
    refine Does.value ?_
    simp only [opTypeAssert] at h
    generalize hv : ρ x = v at hx ⊢
    cases hx with
    | ifc _ _ u hu' =>
    cases hu : P.underlying asserted with
    | none => simp [hu, M.fail] at h
    | some td =>
    rw [hu] at h
    cases td with
    | interface m => cases h
    | _ =>
      simp only at h
      rcases cond_some h with ⟨he, h1⟩ | ⟨he, h1⟩
      · have he := Nat.eq_of_beq_eq_true he
        subst he
        obtain ⟨rfl, rfl⟩ := pure_some h1
        cases ok with
        | true => exact Does.still hok rfl (by simp [Instr.typeAssert, run_underlying hu]) (.tup _ #[u, .bool true] rfl (fun i a v h1 h2 => by
            cases i with
            | zero => simp at h1 h2; subst h1 h2; exact hu'
            | succ i => cases i with
              | zero => simp at h1 h2; subst h1 h2; exact .sc _
              | succ i => simp at h1))
        | false => exact Does.still hok rfl (by simp [Instr.typeAssert, run_underlying hu]) hu'
      · have hne : d ≠ asserted := fun e => by subst e; simp at he
        rcases cond_some h1 with ⟨hk, h2⟩ | ⟨_, h2⟩
        case inr => cases h2
        subst hk
        cases hz : zeroT P asserted with
        | none => simp [hz, M.fail] at h2
        | some z =>
        rw [hz] at h2
        obtain ⟨rfl, rfl⟩ := pure_some h2
        exact Does.still hok rfl (by simp [Instr.typeAssert, run_underlying hu, hne, run_zeroValue hz]) (.tup _ #[z, .bool false] rfl (fun i a v h1 h2 => by
            cases i with
            | zero => simp at h1 h2; subst h1 h2; exact .sc _
            | succ i => cases i with
              | zero => simp at h1 h2; subst h1 h2; exact .sc _
              | succ i => simp at h1))
  | sc u => exact apure_does hok (by simp [execOp, ho, exact_one hρ hax]) h
  | _ => cases h

theorem opNilCheck_ok {P : Program} {g st st' w ρa ρ} {o : Oper} {x : Operand} {r : AV} (hok : Ok g st.h w) (hρ : RelF g w ρa ρ) (ho : o.op = .nilCheck x)
    (h : opNilCheck (ρa x) st = some (r, st')) : DoesO P g st w (execOp ρ o) r st' := by
  have hx := hρ x
  generalize hax : ρa x = ax at hx h
  have hr : r = ax ∧ st' = st ∧ (∀ v, ρ x = v → (execOp ρ o) = pure (.value v)) := by
    unfold opNilCheck at h
    split at h
    · obtain ⟨h1, h2⟩ := pure_some h
      refine ⟨h1, h2, fun v hv => ?_⟩
      rw [hv] at hx; cases hx; simp [execOp, ho, hv]
    · obtain ⟨h1, h2⟩ := pure_some h
      refine ⟨h1, h2, fun v hv => ?_⟩
      rw [hv] at hx; cases hx; simp [execOp, ho, hv]
    · obtain ⟨h1, h2⟩ := pure_some h
      refine ⟨h1, h2, fun v hv => ?_⟩
      rw [hv] at hx; cases hx; simp [execOp, ho, hv]
    · obtain ⟨h1, h2⟩ := pure_some h
      refine ⟨h1, h2, fun v hv => ?_⟩
      rw [hv] at hx; cases hx; simp [execOp, ho, hv]
    · obtain ⟨h1, h2⟩ := pure_some h
      refine ⟨h1, h2, fun v hv => ?_⟩
      rw [hv] at hx; cases hx; simp [execOp, ho, hv]
    · cases h
  obtain ⟨rfl, rfl, h3⟩ := hr
  rw [h3 _ rfl]
  exact ⟨_, _, g, rfl, .refl _ _ _ _ _, hok, .inl ⟨_, rfl, hx⟩⟩

/-! ### Composite values -/
theorem fill_ok {g w} {place : Nat → Option (Nat × Nat)} : ∀ (ps : List (Nat × AV)) (vs : List (Nat × Value)) (cells : List AV) (cs : Array Value) (r : List AV), RelL g w cells cs.toList →
    ps.length = vs.length → (∀ (i : Nat) p q, ps[i]? = some p → vs[i]? = some q → p.1 = q.1 ∧ Rel g w p.2 q.2) → afill place cells ps = some r → ∃ rs, Instr.fill place cs vs = some rs ∧ RelL g w r rs.toList := by
  intro ps
  induction ps with
  | nil =>
    intro vs cells cs r hl hlen _ h
    cases vs with
    | cons => simp at hlen
    | nil => simp [afill] at h; subst h; exact ⟨cs, rfl, hl⟩
  | cons p ps ih =>
    intro vs cells cs r hl hlen hp h
    cases vs with
    | nil => simp at hlen
    | cons q vs =>
    obtain ⟨i, a⟩ := p
    obtain ⟨i', v⟩ := q
    have h0 := hp 0 (i, a) (i', v) rfl rfl
    simp only at h0
    obtain ⟨rfl, hav⟩ := h0
    simp only [afill] at h
    cases hpl : place i with
    | none => simp [hpl] at h
    | some os =>
    obtain ⟨off, size⟩ := os
    simp only [hpl] at h
    cases hc : (!a.known || !(Nat.beq a.cells.length size) || !(Nat.ble (off + size) cells.length)) with
    | true => simp [hc] at h
    | false =>
    rw [hc] at h
    simp only [Bool.or_eq_false_iff, Bool.not_eq_false'] at hc
    obtain ⟨⟨c1, c2⟩, c3⟩ := hc
    have c2 := Nat.eq_of_beq_eq_true c2
    have c3 := Nat.le_of_ble_eq_true c3
    have hac := hav.cells c1
    have hvs : v.cells.size = size := by rw [← c2, ← hac.1, Array.length_toList]
    have hcs : cs.size = cells.length := by rw [← hl.1, Array.length_toList]
    simp only [cond_false] at h
    have hnew : RelL g w (cells.take off ++ a.cells ++ cells.drop (off + size)) (splice cs off v.cells.toList).toList := by
      have : (splice cs off v.cells.toList).toList = cs.toList.take off ++ v.cells.toList ++ cs.toList.drop (off + size) := by
        simp [splice, hvs]
      rw [this]
      exact ((hl.take off).append hac).append (hl.drop (off + size))
    have hfold : v.cells.zipIdx.foldl (fun cs (x : Value × Nat) => cs.setIfInBounds (off + x.2) x.1) cs = splice cs off v.cells.toList := by
      have key : ∀ (us : List Value) (j : Nat) (cs : Array Value), off + j + us.length ≤ cs.size → (us.zipIdx j).foldl (fun cs (x : Value × Nat) => cs.setIfInBounds (off + x.2) x.1) cs = splice cs (off + j) us := by
        intro us
        induction us with
        | nil => intro j cs _; simp [splice_nil]
        | cons u us ih2 =>
          intro j cs hle
          simp only [List.length_cons] at hle
          rw [List.zipIdx_cons, List.foldl_cons, ih2 (j + 1) _ (by simp; omega)]
          simp only
          rw [show off + (j + 1) = off + j + 1 from rfl, splice_cons _ _ _ _ (by omega)]
      have := key v.cells.toList 0 cs (by rw [Array.length_toList]; omega)
      rw [← Array.foldl_toList, Array.toList_zipIdx]
      simpa using this
    obtain ⟨rs, e1, e2⟩ := ih vs _ _ r hnew (by simpa using hlen) (fun j p q h1 h2 => hp (j + 1) p q (by simpa using h1) (by simpa using h2)) h
    refine ⟨rs, ?_, e2⟩
    simp only [Instr.fill, hpl]
    rw [if_neg (by simp [hvs]; omega)]
    rw [← e1]
    congr 1

end Go.Vm
