/- Walks on abstract values: operations on exact values. No condition. -/
import Derived.Test.YtbkefbehgoojaaaWlS
namespace Go.Vm

section
variable (P : Program) (ρ : Operand → AV) (d : Option Tmp) (ty : TypeId) (pos : String) (af : Array Edge) (gd : Option (Nat × Bool)) (t u : TypeId) (x y : Operand)

theorem binElse_ints (op : BinOp) (k k' : IntKind) (a b : Int) (hx : ρ x = .sc (.int k a)) (hy : ρ y = .sc (.int k' b)) :
    binElse P ρ ⟨d, .binOp op t x y u, ty, pos, af, gd⟩ op t (.sc (.int k a)) (.sc (.int k' b)) = M.of ((ev P (binOp op t (.int k a) (.int k' b))).map .sc) := by
  have h1 : ∀ s : Sem Value, ev P (do pure (Next.value (← s))) = (ev P s).map Next.value := by
    intro s
    induction s with
    | pure b => rfl
    | program k ih => exact ih P
    | choose q k ih =>
      simp only [bind, Sem.bind, ev]
      split
      · exact ih 0
      · rfl
    | mark m k ih => exact ih
    | _ => rfl
  have h2 : execOp (fun z => ((ρ z).toV).getD undef) ⟨d, .binOp op t x y u, ty, pos, af, gd⟩ = (do pure (Next.value (← (do eqGuard op t x y (.int k a) (.int k' b); binOp op t (.int k a) (.int k' b))))) := by
    simp only [execOp, hx, hy, AV.toV, Option.getD_some]
  have h3 : ev P (do eqGuard op t x y (.int k a) (.int k' b); binOp op t (.int k a) (.int k' b)) = ev P (binOp op t (.int k a) (.int k' b)) := by
    cases op <;> rfl
  unfold binElse apure
  simp only [AV.toV, Option.isSome_some, Bool.and_self, cond_true]
  rw [h2, h1, h3]
  cases ev P (binOp op t (.int k a) (.int k' b)) <;> rfl
theorem ev_shl (k k' : IntKind) (a b : Int) (h : 0 ≤ b) : ev P (binOp .shl t (.int k a) (.int k' b)) = some (.int k (k.wrap (a * 2 ^ (min b.toNat k.bits)))) := by
  have : ¬ b < 0 := by omega
  simp [binOp, Op.shift, this, ev_pure]
theorem ev_shr (k k' : IntKind) (a b : Int) (h : 0 ≤ b) : ev P (binOp .shr t (.int k a) (.int k' b)) = some (.int k (a.fdiv (2 ^ (min b.toNat k.bits)))) := by
  have : ¬ b < 0 := by omega
  simp [binOp, Op.shift, this, ev_pure]
theorem ev_and (k : IntKind) (a b : Int) : ev P (binOp .and t (.int k a) (.int k b)) = some (.int k (k.wrap (((a % 2 ^ k.bits).toNat &&& (b % 2 ^ k.bits).toNat : Nat) : Int))) := by
  simp [binOp, Op.intBits, ev_pure]
theorem ev_or (k : IntKind) (a b : Int) : ev P (binOp .or t (.int k a) (.int k b)) = some (.int k (k.wrap (((a % 2 ^ k.bits).toNat ||| (b % 2 ^ k.bits).toNat : Nat) : Int))) := by
  simp [binOp, Op.intBits, ev_pure]
theorem ev_xor (k : IntKind) (a b : Int) : ev P (binOp .xor t (.int k a) (.int k b)) = some (.int k (k.wrap (((a % 2 ^ k.bits).toNat ^^^ (b % 2 ^ k.bits).toNat : Nat) : Int))) := by
  simp [binOp, Op.intBits, ev_pure]
theorem ev_quo (k : IntKind) (a b : Int) (h : b ≠ 0) : ev P (binOp .quo t (.int k a) (.int k b)) = some (.int k (k.wrap (a.tdiv b))) := by
  simp [binOp, Op.intDiv, ev_pure, h]
theorem ev_rem (k : IntKind) (a b : Int) (h : b ≠ 0) : ev P (binOp .rem t (.int k a) (.int k b)) = some (.int k (a.tmod b)) := by
  simp [binOp, Op.intDiv, ev_pure, h]
theorem binElse_bools (op : BinOp) (a b : Bool) (hx : ρ x = .sc (.bool a)) (hy : ρ y = .sc (.bool b)) :
    binElse P ρ ⟨d, .binOp op t x y u, ty, pos, af, gd⟩ op t (.sc (.bool a)) (.sc (.bool b)) = M.of ((ev P (binOp op t (.bool a) (.bool b))).map .sc) := by
  have h1 : ∀ s : Sem Value, ev P (do pure (Next.value (← s))) = (ev P s).map Next.value := by
    intro s
    induction s with
    | pure b => rfl
    | program k ih => exact ih P
    | choose q k ih =>
      simp only [bind, Sem.bind, ev]
      split
      · exact ih 0
      · rfl
    | mark m k ih => exact ih
    | _ => rfl
  have h2 : execOp (fun z => ((ρ z).toV).getD undef) ⟨d, .binOp op t x y u, ty, pos, af, gd⟩ = (do pure (Next.value (← (do eqGuard op t x y (.bool a) (.bool b); binOp op t (.bool a) (.bool b))))) := by
    simp only [execOp, hx, hy, AV.toV, Option.getD_some]
  have h3 : ev P (do eqGuard op t x y (.bool a) (.bool b); binOp op t (.bool a) (.bool b)) = ev P (binOp op t (.bool a) (.bool b)) := by
    cases op <;> rfl
  unfold binElse apure
  simp only [AV.toV, Option.isSome_some, Bool.and_self, cond_true]
  rw [h2, h1, h3]
  cases ev P (binOp op t (.bool a) (.bool b)) <;> rfl
theorem ev_under {d : TypeDesc} (h : P.underlying t = some d) : ev P (underlying t) = some d := by
  rw [underlying]
  show ev P (match P.underlying t with | some d => pure d | none => _) = _
  rw [h]; rfl
theorem ev_eqIn_bool (n : Nat) (a b : Bool) (h : P.underlying t = some .bool) : ev P (Op.equalIn (n + 1) t (.bool a) (.bool b)) = some (a == b) := by
  simp only [Op.equalIn]
  rw [ev_bind', ev_under P t h]
  rfl
theorem ev_eql_bool (a b : Bool) (h : P.underlying t = some .bool) : ev P (binOp .eql t (.bool a) (.bool b)) = some (.bool (a == b)) := by
  show ev P (do pure (Value.bool (← Op.equalIn (9999 + 1) t (.bool a) (.bool b)))) = _
  rw [ev_bind', ev_eqIn_bool P t 9999 a b h]
  rfl
theorem ev_neq_bool (a b : Bool) (h : P.underlying t = some .bool) : ev P (binOp .neq t (.bool a) (.bool b)) = some (.bool (a != b)) := by
  show ev P (do pure (Value.bool (!(← Op.equalIn (9999 + 1) t (.bool a) (.bool b))))) = _
  rw [ev_bind', ev_eqIn_bool P t 9999 a b h]
  rfl
end

end Go.Vm
