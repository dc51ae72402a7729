/- Operators. No condition. -/
import Derived.Test.YtnkjblopaagkoaaVmM
namespace Go.Vm

theorem eqIn_ptr {P : Program} {w : World} {t e : TypeId} {n : Nat} (d : Nat) (a b : Addr) (hu : P.underlying t = some (.pointer e)) (hs : sizeT P e = some n) (hn : n ≠ 0) :
    (Op.equalIn (d + 1) t (.pointer (some a)) (.pointer (some b))).run P w = (sameAddr a b).run P w := by
  simp [Op.equalIn, run_underlying hu, run_sizeOf hs, hn]
theorem eqIn_ptr_nil {P : Program} {w : World} {t e : TypeId} (d : Nat) (a : Addr) (hu : P.underlying t = some (.pointer e)) : (Op.equalIn (d + 1) t (.pointer (some a)) (.pointer none)).run P w = .ok false w := by
  simp [Op.equalIn, run_underlying hu]
theorem eqIn_nil_ptr {P : Program} {w : World} {t e : TypeId} (d : Nat) (a : Addr) (hu : P.underlying t = some (.pointer e)) : (Op.equalIn (d + 1) t (.pointer none) (.pointer (some a))).run P w = .ok false w := by
  simp [Op.equalIn, run_underlying hu]
theorem eqIn_slice_nil {P : Program} {w : World} {t e : TypeId} (d : Nat) (a : Addr) (l c l' c' : Nat) (hu : P.underlying t = some (.slice e)) : (Op.equalIn (d + 1) t (.slice (some a) l c) (.slice none l' c')).run P w = .ok false w := by
  simp [Op.equalIn, run_underlying hu]
theorem eqIn_nil_slice {P : Program} {w : World} {t e : TypeId} (d : Nat) (a : Addr) (l c l' c' : Nat) (hu : P.underlying t = some (.slice e)) : (Op.equalIn (d + 1) t (.slice none l' c') (.slice (some a) l c)).run P w = .ok false w := by
  simp [Op.equalIn, run_underlying hu]
theorem eqIn_map_nil {P : Program} {w : World} {t k e : TypeId} (d : Nat) (a : Nat) (hu : P.underlying t = some (.map k e)) : (Op.equalIn (d + 1) t (.map (some a)) (.map none)).run P w = .ok false w := by
  simp [Op.equalIn, run_underlying hu]
theorem eqIn_nil_map {P : Program} {w : World} {t k e : TypeId} (d : Nat) (a : Nat) (hu : P.underlying t = some (.map k e)) : (Op.equalIn (d + 1) t (.map none) (.map (some a))).run P w = .ok false w := by
  simp [Op.equalIn, run_underlying hu]
theorem eqIn_ifc_nil {P : Program} {w : World} {t : TypeId} {m} (d : Nat) (a : TypeId) (v : Value) (hu : P.underlying t = some (.interface m)) : (Op.equalIn (d + 1) t (.iface a v) .nilIface).run P w = .ok false w := by
  simp [Op.equalIn, run_underlying hu]
theorem eqIn_nil_ifc {P : Program} {w : World} {t : TypeId} {m} (d : Nat) (a : TypeId) (v : Value) (hu : P.underlying t = some (.interface m)) : (Op.equalIn (d + 1) t .nilIface (.iface a v)).run P w = .ok false w := by
  simp [Op.equalIn, run_underlying hu]
theorem eqIn_fn_nil {P : Program} {w : World} {t : TypeId} {p q r} (d : Nat) (f : Fn) (a b : Array Value) (hu : P.underlying t = some (.func p q r)) : (Op.equalIn (d + 1) t (.func f a b) .nilFunc).run P w = .ok false w := by
  simp [Op.equalIn, run_underlying hu]
theorem eqIn_nil_fn {P : Program} {w : World} {t : TypeId} {p q r} (d : Nat) (f : Fn) (a b : Array Value) (hu : P.underlying t = some (.func p q r)) : (Op.equalIn (d + 1) t .nilFunc (.func f a b)).run P w = .ok false w := by
  simp [Op.equalIn, run_underlying hu]

def BinDoes (P : Program) (g : Gh) (st : St) (w : World) (op : BinOp) (t : TypeId) (x y : Operand) (a b : Value) (r : AV) (st' : St) : Prop :=
  Does P g st w (do eqGuard op t x y a b; binOp op t a b) r st'

/-- An equality that comes out so. -/
theorem yesNo_does {P : Program} {g st s1 st' w} {op : BinOp} {t : TypeId} {x y : Operand} {a b : Value} {q : Bool} {r : AV} (hok : Ok g st.h w) (hh : s1.h = st.h)
    (hg : ∀ op', (eqGuard op' t x y a b).run P w = .ok () w) (he : (Op.equal t a b).run P w = .ok q w) (hb : ∀ op', op' = .eql → binOp op' t a b = (do pure (.bool (← Op.equal t a b)))) (hb' : ∀ op', op' = .neq → binOp op' t a b = (do pure (.bool (!(← Op.equal t a b)))))
    (h : yesNo op q s1 = some (r, st')) : BinDoes P g st w op t x y a b r st' := by
  unfold BinDoes
  cases op with
  | eql =>
    obtain ⟨rfl, rfl⟩ := pure_some h
    exact Does.still hok hh (by rw [hb _ rfl]; simp [hg, he]) (.sc _)
  | neq =>
    obtain ⟨rfl, rfl⟩ := pure_some h
    exact Does.still hok hh (by rw [hb' _ rfl]; simp [hg, he]) (.sc _)
  | _ => cases h

theorem frozen_none {w : World} {b n : Nat} {cs : Array Value} {e : TypeId} (h : w.heap[b]? = some (.cells cs e (0, 0))) : w.frozen? ⟨b, n, none⟩ = false := by
  simp [World.frozen?, h]

theorem viewAt_cells {P : Program} {w : World} {b : Nat} {cs : Array Value} {e : TypeId} {fr : Nat × Nat} (h : w.heap[b]? = some (.cells cs e fr)) : (viewAt b).run P w = .ok none w := by
  simp [viewAt, World.shape?, h]

theorem sameAddr_apart {P : Program} {w : World} {b b' m n : Nat} {cs cs' : Array Value} {e e' : TypeId} (hne : b ≠ b') (h : w.heap[b]? = some (.cells cs e (0, 0))) (h' : w.heap[b']? = some (.cells cs' e' (0, 0))) :
    (sameAddr ⟨b, m, none⟩ ⟨b', n, none⟩).run P w = .ok false w := by
  have hv := viewAt_cells (P := P) h
  have hv' := viewAt_cells (P := P) h'
  have s1 : w.shape? b = some (e, cs.size) := by simp [World.shape?, h]
  have s2 : w.shape? b' = some (e', cs'.size) := by simp [World.shape?, h']
  simp [sameAddr, hne, frozen_none h, frozen_none h', noView, hv, hv', mayBeOne, stringish, s1, s2]

theorem eqPtr_ok {P : Program} {g st st' w} {op : BinOp} {t e : TypeId} {n : Nat} {x y : Operand} {a b : AV} {va vb : Value} {r : AV} (hok : Ok g st.h w) (ha : Rel g w a va) (hb : Rel g w b vb)
    (hu : P.underlying t = some (.pointer e)) (hs : sizeT P e = some n) (hn : n ≠ 0) (h : eqPtr op a b st = some (r, st')) : BinDoes P g st w op t x y va vb r st' := by
  have hg : ∀ (p q : Option Addr) op', (eqGuard op' t x y (.pointer p) (.pointer q)).run P w = .ok () w := by
    intro p q op'; cases op' <;> simp [eqGuard]
  have hbe : ∀ (p q : Option Addr) op', op' = .eql → binOp op' t (.pointer p) (.pointer q) = (do pure (.bool (← Op.equal t (.pointer p) (.pointer q)))) := by
    intro p q op' h; subst h; rfl
  have hbn : ∀ (p q : Option Addr) op', op' = .neq → binOp op' t (.pointer p) (.pointer q) = (do pure (.bool (!(← Op.equal t (.pointer p) (.pointer q))))) := by
    intro p q op' h; subst h; rfl
  unfold eqPtr at h
  split at h
  · rename_i o off o' off'
    cases ha with
    | ptr _ _ bl base hi =>
    cases hb with
    | ptr _ _ bl' base' hi' =>
    rcases cond_some h with ⟨ho, h1⟩ | ⟨ho, h1⟩
    · have ho := Nat.eq_of_beq_eq_true ho
      subst ho
      rw [hi] at hi'; cases hi'
      refine yesNo_does hok rfl (hg _ _) ?_ (hbe _ _) (hbn _ _) h1
      have e1 : Nat.beq off off' = decide (off = off') := by
        by_cases hq : off = off'
        · subst hq; simp
        · rw [beq_no hq]; simp [hq]
      refine (eqIn_ptr 9999 _ _ hu hs hn).trans ?_
      have e2 : ((⟨bl, base + off, none⟩ : Addr) == ⟨bl, base + off', none⟩) = decide (off = off') := by
        by_cases hq : off = off'
        · subst hq; simp
        · have : (⟨bl, base + off, none⟩ : Addr) ≠ ⟨bl, base + off', none⟩ := by intro e; injection e with _ e3 _; omega
          rw [beq_eq_false_iff_ne.2 this]; simp [hq]
      simp [sameAddr, e1, e2]
    · have hne : o ≠ o' := by intro e; subst e; simp at ho
      obtain ⟨p, s1, h2, h3⟩ := bind_some h1
      obtain ⟨q, s2, h4, h5⟩ := bind_some h3
      obtain ⟨hp1, hp2, hp3⟩ := hget_some h2
      obtain ⟨hq1, hq2, hq3⟩ := hget_some h4
      rw [hp2] at hq1
      obtain ⟨b1, base1, i1, _, r1⟩ := hok.obj o p hp1
      obtain ⟨b2, base2, i2, _, r2⟩ := hok.obj o' q hq1
      rw [hi] at i1; cases i1
      rw [hi'] at i2; cases i2
      have hbne : bl ≠ bl' := fun e => hok.sep o o' p q bl base base' hne hp1 hq1 hi (by rw [e]; exact hi')
      cases p with
      | map => cases q <;> cases h5
      | loop => cases q <;> cases h5
      | row c1 k1 s1' e1 =>
      cases q with
      | map => cases h5
      | loop => cases h5
      | row c2 k2 s2' e2 =>
      rcases cond_some h5 with ⟨_, h6⟩ | ⟨hc, h6⟩
      · cases h6
      simp only [Bool.or_eq_false_iff] at hc
      have n1 : s1' ≠ 1 := by intro e; subst e; simp at hc
      have n2 : s2' ≠ 1 := by intro e; subst e; simp at hc
      obtain ⟨cs1, fr1, p1, _, _, _, _, p6, _⟩ := r1
      obtain ⟨cs2, fr2, q1, _, _, _, _, q6, _⟩ := r2
      have f1 := p6 n1
      have f2 := q6 n2
      subst f1 f2
      refine yesNo_does hok (by rw [hq2, hp2]) (hg _ _) ?_ (hbe _ _) (hbn _ _) h6
      exact (eqIn_ptr 9999 _ _ hu hs hn).trans (sameAddr_apart hbne p1 q1)
  · cases ha with
    | ptr _ _ bl base hi =>
    have := hb.exact rfl; subst this
    exact yesNo_does hok rfl (hg _ _) (eqIn_ptr_nil 9999 _ hu) (hbe _ _) (hbn _ _) h
  · cases hb with
    | ptr _ _ bl base hi =>
    have := ha.exact rfl; subst this
    exact yesNo_does hok rfl (hg _ _) (eqIn_nil_ptr 9999 _ hu) (hbe _ _) (hbn _ _) h
  · cases ha with
    | cptr l bl off c hc hr =>
    have := hb.exact rfl; subst this
    exact yesNo_does hok rfl (hg _ _) (eqIn_ptr_nil 9999 _ hu) (hbe _ _) (hbn _ _) h
  · cases hb with
    | cptr l bl off c hc hr =>
    have := ha.exact rfl; subst this
    exact yesNo_does hok rfl (hg _ _) (eqIn_nil_ptr 9999 _ hu) (hbe _ _) (hbn _ _) h
  · cases h

theorem eqRef_ok {P : Program} {g st st' w} {op : BinOp} {t : TypeId} {x y : Operand} {a b : AV} {va vb : Value} {r : AV} (hok : Ok g st.h w) (ha : Rel g w a va) (hb : Rel g w b vb)
    (h : eqRef P t op a b st = some (r, st')) : BinDoes P g st w op t x y va vb r st' := by
  unfold eqRef at h
  cases hu : P.underlying t with
  | none => simp [hu, M.fail] at h
  | some d =>
  rw [hu] at h
  cases d with
  | pointer e =>
    simp only at h
    cases hs : sizeT P e with
    | none => simp [hs, M.fail] at h
    | some n =>
    rw [hs] at h
    rcases cond_some h with ⟨_, h1⟩ | ⟨hn, h1⟩
    · cases h1
    exact eqPtr_ok hok ha hb hu hs (by intro e; subst e; simp at hn) h1
  | slice e =>
    simp only at h
    have hg : ∀ (p q : Option Addr) (l c l' c' : Nat) op', (eqGuard op' t x y (.slice p l c) (.slice q l' c')).run P w = .ok () w := by
      intro p q l c l' c' op'; cases op' <;> simp [eqGuard]
    unfold eqSlice at h
    split at h
    all_goals first
      | (cases h; done)
      | (rcases cond_some h with ⟨hn, h⟩ | ⟨_, h⟩
         · have := hb.exact rfl; subst this
           cases ha <;> first | (cases hn; done) | exact yesNo_does hok rfl (hg _ _ _ _ _ _) (eqIn_slice_nil 9999 _ _ _ _ _ hu) (fun op' h => by subst h; rfl) (fun op' h => by subst h; rfl) h
         · cases h)
      | (rcases cond_some h with ⟨hn, h⟩ | ⟨_, h⟩
         · have := ha.exact rfl; subst this
           cases hb <;> first | (cases hn; done) | exact yesNo_does hok rfl (hg _ _ _ _ _ _) (eqIn_nil_slice 9999 _ _ _ _ _ hu) (fun op' h => by subst h; rfl) (fun op' h => by subst h; rfl) h
         · cases h)
      | (have := hb.exact rfl; subst this
         cases ha <;> exact yesNo_does hok rfl (hg _ _ _ _ _ _) (eqIn_slice_nil 9999 _ _ _ _ _ hu) (fun op' h => by subst h; rfl) (fun op' h => by subst h; rfl) h)
      | (have := ha.exact rfl; subst this
         cases hb <;> exact yesNo_does hok rfl (hg _ _ _ _ _ _) (eqIn_nil_slice 9999 _ _ _ _ _ hu) (fun op' h => by subst h; rfl) (fun op' h => by subst h; rfl) h)
  | map k e =>
    simp only at h
    have hg : ∀ (p q : Option Nat) op', (eqGuard op' t x y (.map p) (.map q)).run P w = .ok () w := by
      intro p q op'; cases op' <;> simp [eqGuard]
    unfold eqMap at h
    split at h
    · have := hb.exact rfl; subst this
      cases ha with
      | mp => exact yesNo_does hok rfl (hg _ _) (eqIn_map_nil 9999 _ hu) (fun op' h => by subst h; rfl) (fun op' h => by subst h; rfl) h
    · have := ha.exact rfl; subst this
      cases hb with
      | mp => exact yesNo_does hok rfl (hg _ _) (eqIn_nil_map 9999 _ hu) (fun op' h => by subst h; rfl) (fun op' h => by subst h; rfl) h
    · cases h
  | interface m =>
    simp only at h
    unfold eqIfc at h
    split at h
    · have := hb.exact rfl; subst this
      cases ha with
      | ifc => exact yesNo_does hok rfl (fun op' => by cases op' <;> simp [eqGuard]) (eqIn_ifc_nil 9999 _ _ hu) (fun op' h => by subst h; rfl) (fun op' h => by subst h; rfl) h
    · have := ha.exact rfl; subst this
      cases hb with
      | ifc => exact yesNo_does hok rfl (fun op' => by cases op' <;> simp [eqGuard]) (eqIn_nil_ifc 9999 _ _ hu) (fun op' h => by subst h; rfl) (fun op' h => by subst h; rfl) h
    · cases h
  | func p q s =>
    simp only at h
    unfold eqFunc at h
    split at h
    · have := hb.exact rfl; subst this
      cases ha with
      | fn => exact yesNo_does hok rfl (fun op' => by cases op' <;> simp [eqGuard]) (eqIn_fn_nil 9999 _ _ _ hu) (fun op' h => by subst h; rfl) (fun op' h => by subst h; rfl) h
    · have := ha.exact rfl; subst this
      cases hb with
      | fn => exact yesNo_does hok rfl (fun op' => by cases op' <;> simp [eqGuard]) (eqIn_nil_fn 9999 _ _ _ hu) (fun op' h => by subst h; rfl) (fun op' h => by subst h; rfl) h
    · cases h
  | _ => cases h

theorem opBin_ok {P : Program} {g st st' w ρa ρ} {o : Oper} {op : BinOp} {t : TypeId} {x y : Operand} {r : AV} (hok : Ok g st.h w) (hρ : RelF g w ρa ρ) (ho : execOp ρ o = (do pure (.value (← (do eqGuard op t x y (ρ x) (ρ y); binOp op t (ρ x) (ρ y))))))
    (hex : (ρa x).toV.isSome = true → (ρa y).toV.isSome = true → execOp (fun z => ((ρa z).toV).getD undef) o = execOp ρ o)
    (h : opBin P ρa o op t x y st = some (r, st')) : DoesO P g st w (execOp ρ o) r st' := by
  have hx := hρ x
  have hy := hρ y
  have els : binElse P ρa o op t (ρa x) (ρa y) st = some (r, st') → DoesO P g st w (execOp ρ o) r st' := by
    intro h
    rcases cond_some h with ⟨he, h1⟩ | ⟨_, h1⟩
    · simp only [Bool.and_eq_true] at he
      exact apure_does hok (hex he.1 he.2) h1
    · rw [ho]
      exact Does.value (eqRef_ok hok hx hy h1)
  unfold opBin binVals at h
  cases ha : (ρa x).int with
  | none => rw [ha] at h; exact els h
  | some p =>
  cases hb : (ρa y).int with
  | none => rw [ha, hb] at h; exact els h
  | some q =>
  obtain ⟨k, n⟩ := p
  obtain ⟨k', m⟩ := q
  rw [ha, hb] at h
  simp only at h
  rcases cond_some h with ⟨hk, h1⟩ | ⟨_, h1⟩
  case inr => exact els h1
  have hk : k = k' := by simpa using hk
  subst hk
  cases hi : intOp op k n m with
  | none => rw [hi] at h1; exact els h1
  | some v =>
  rw [hi] at h1
  obtain ⟨rfl, rfl⟩ := pure_some h1
  rw [ho]
  have e1 := (hx.int_ok ha).1
  have e2 := (hy.int_ok hb).1
  rw [e1, e2]
  refine Does.value (Does.still hok rfl (v := v) ?_ (.sc v))
  have hg : (eqGuard op t x y (.int k n) (.int k m)).run P w = .ok () w := by cases op <;> simp [eqGuard]
  cases op <;> simp [intOp] at hi <;> subst hi <;> simp [hg, binOp, Op.intArith, Op.intCmp]

end Go.Vm
