/- Walks on abstract values: rules that a walk rewrites by. No condition. -/
import Derived.Test.YtbkefbehgoojaaaWlI
namespace Go.Vm

section code
variable (P : Program) (T : Tab) (pin : Nat) (Q : QL) (L : SL) (st : St)
theorem wl_skip : wl P T pin .skip Q L st = Q .normal L st := id rfl
theorem wl_label (l) : wl P T pin (.label l) Q L st = Q .normal L st := id rfl
theorem wl_region (i ops d) : wl P T pin (.region i ops d) Q L st = regionL P T ops d (Q .normal) L st := id rfl
theorem wl_seq (a b) : wl P T pin (.seq a b) Q L st = wl P T pin a (seqQ (wl P T pin b) Q) L st := id rfl
theorem wl_cond (c a b) : wl P T pin (.cond c a b) Q L st = boolK (evL L c) (wl P T pin a Q) (wl P T pin b Q) L st := id rfl
theorem wl_block (i b) : wl P T pin (.block i b) Q L st = wl P T pin b (blkQ i Q) L st := id rfl
theorem wl_loop (b) : wl P T pin (.loop b) Q L st = LoopL pin (wl P T pin b) Q L st := id rfl
theorem wl_scope (b) : wl P T pin (.scope b) Q L st = wl P T pin b Q L st := id rfl
theorem wl_exit (i) : wl P T pin (.exit i) Q L st = Q (.exit i) L st := id rfl
theorem wl_ret : wl P T pin .ret Q L st = Q .ret L st := id rfl
theorem seqQ_n (W) : seqQ W Q .normal L st = W Q L st := id rfl
theorem seqQ_e (W i) : seqQ W Q (.exit i) L st = Q (.exit i) L st := id rfl
theorem seqQ_r (W) : seqQ W Q .ret L st = Q .ret L st := id rfl
theorem blkQ_n (i) : blkQ i Q .normal L st = Q .normal L st := id rfl
theorem blkQ_r (i) : blkQ i Q .ret L st = Q .ret L st := id rfl
theorem blkQ_e (i j) : blkQ i Q (.exit j) L st = bif Nat.beq j i then Q .normal L st else Q (.exit j) L st := id rfl
theorem headQ_n (keep X) : headQ pin keep X Q .normal L st = X (canonV pin keep L st) (canonO pin keep L st) := id rfl
theorem headQ_e (keep X i) : headQ pin keep X Q (.exit i) L st = Q (.exit i) L st := id rfl
theorem headQ_r (keep X) : headQ pin keep X Q .ret L st = Q .ret L st := id rfl
theorem retQ_n (rs R) : retQ P rs R .normal L st = retR (resL P L st rs) R st := id rfl
theorem retQ_r (rs R) : retQ P rs R .ret L st = retR (resL P L st rs) R st := id rfl
theorem regionL_f (ops K) : regionL P T ops false K L st = opsL P T ops ops.toList K L st := id rfl
theorem regionL_t (ops K) (h : slotsCalm ops = true) : regionL P T ops true K L st = opsD P T ops ops.toList K [] L st := by simp [regionL, h]
theorem opsL_nil (ops K) : opsL P T ops [] K L st = K L st := id rfl
theorem opsL_cons (ops o r K) : opsL P T ops (o :: r) K L st = guardedK ops o.guard (opDo P T o (opsL P T ops r K)) (opSkip o.dst (opsL P T ops r K)) L st := id rfl
theorem opsD_nil (ops K recs) : opsD P T ops [] K recs L st = (calmAll (Region.before ops) 0 recs = true ∧ K L st) := id rfl
theorem opsD_cons (ops o r K recs) : opsD P T ops (o :: r) K recs L st = guardedK ops o.guard (opDoD P T o recs (opsD P T ops r K)) (opSkip o.dst (opsD P T ops r K (recs ++ [⟨[], []⟩]))) L st := id rfl
theorem guardedK_n (ops X Y) : guardedK ops none X Y L st = X L st := id rfl
theorem guardedK_t (ops j X Y) : guardedK ops (some (j, true)) X Y L st = boolK (lk L (gslot ops j)) X Y L st := id rfl
theorem guardedK_f (ops j X Y) : guardedK ops (some (j, false)) X Y L st = boolK (lk L (gslot ops j)) Y X L st := id rfl
theorem opDo_eq (o K) : opDo P T o K L st = afterOp (operL P T o (evL L) st) o.dst L K := id rfl
theorem opSkip_eq (d K) : opSkip d K L st = K (putL d (.sc undef) L) st := id rfl
theorem opDoD_eq (o recs K) : opDoD P T o recs K L st = afterD (operL P T o (onlyOf o L) { h := maskH st.h (footOf o L st), nx := st.nx, rl := [], wl := [] }) (readsOnly T (onlyOf o L) o) (footOf o L st) o.dst L st recs K := id rfl
theorem boolK_b (b X Y) : boolK (.sc (.bool b)) X Y L st = ((b = true → X L st) ∧ (b = false → Y L st)) := id rfl
theorem boolK_t (X Y) : boolK (.sc (.bool true)) X Y L st = X L st := by simp [boolK, boolAV, AV.bool, AV.exact, boolOf]
theorem boolK_f (X Y) : boolK (.sc (.bool false)) X Y L st = Y L st := by simp [boolK, boolAV, AV.bool, AV.exact, boolOf]
theorem afterOp_s (v d K) : afterOp (some (v, st)) d L K = K (putL d v L) st := id rfl
theorem afterOp_none (d K) : afterOp none d L K = False := id rfl
theorem putL_some (d v) : putL (some d) v L = (d, v) :: L := id rfl
theorem putL_none (v) : putL none v L = L := id rfl
theorem retR_s (l R) : retR (some l) R st = R (pack l) st := id rfl
theorem lk_hit (d v) : lk ((d, v) :: L) d = v := by simp [lk]
theorem lk_miss (d t v) (h : (d == t) = false) : lk ((d, v) :: L) t = lk L t := by
  have e : d ≠ t := by simpa using h
  rw [lk_cons, if_neg e]
theorem evL_t (t) : evL L (.tmp t) = lk L t := id rfl
theorem evL_c (v) : evL L (.const v) = .sc v := id rfl
theorem evL_f (f) : evL L (.func f) = .sc (.func (.func f) #[] #[]) := id rfl
theorem resL_n : resL P L st [] = some [] := id rfl
theorem resL_t (t r) : resL P L st (.tmp t :: r) = (resL P L st r).map (lk L t :: ·) := id rfl
theorem resL_c (a t r) : resL P L st (.cell a t :: r) = match opLoad P t (lk L a) st with | some (v, _) => (resL P L st r).map (v :: ·) | none => none := id rfl
end code

section ops
variable (P : Program) (T : Tab) (ρ : Operand → AV) (d : Option Tmp) (ty : TypeId) (pos : String) (af : Array Edge) (gd : Option (Nat × Bool))
theorem operL_move (x) : operL P T ⟨d, .move x, ty, pos, af, gd⟩ ρ = mono (M.pure (ρ x)) := id rfl
theorem operL_assign (x) : operL P T ⟨d, .assign x, ty, pos, af, gd⟩ ρ = mono (M.pure (ρ x)) := id rfl
theorem operL_load (t a) : operL P T ⟨d, .load t a, ty, pos, af, gd⟩ ρ = mono (opLoad P t (ρ a)) := id rfl
theorem operL_fieldAddr (s x f) : operL P T ⟨d, .fieldAddr s x f, ty, pos, af, gd⟩ ρ = mono (opFieldAddr P s (ρ x) f) := id rfl
theorem operL_binOp (op t x y u) : operL P T ⟨d, .binOp op t x y u, ty, pos, af, gd⟩ ρ = mono (opBin P ρ ⟨d, .binOp op t x y u, ty, pos, af, gd⟩ op t x y) := id rfl
theorem operL_pick (c a b) : operL P T ⟨d, .pick c a b, ty, pos, af, gd⟩ ρ = mono (opPick (ρ c) (ρ a) (ρ b)) := id rfl
theorem operL_store (t a x) : operL P T ⟨d, .store t a x, ty, pos, af, gd⟩ ρ = mono (opStore P t (ρ a) (ρ x)) := id rfl
theorem operL_extract (t i) : operL P T ⟨d, .extract t i, ty, pos, af, gd⟩ ρ = mono (opExtract (ρ t) i) := id rfl
theorem operL_indexAddr (t x i) : operL P T ⟨d, .indexAddr t x i, ty, pos, af, gd⟩ ρ = mono (opIndexAddr P t (ρ x) (ρ i)) := id rfl
theorem operL_nilCheck (x) : operL P T ⟨d, .nilCheck x, ty, pos, af, gd⟩ ρ = mono (opNilCheck (ρ x)) := id rfl
theorem operL_alloc (t) : operL P T ⟨d, .alloc t, ty, pos, af, gd⟩ ρ = mono (opAlloc P t) := id rfl
theorem operL_box (t x) : operL P T ⟨d, .box t x, ty, pos, af, gd⟩ ρ = mono (opBox t (ρ x)) := id rfl
theorem operL_build (t ps) : operL P T ⟨d, .build t ps, ty, pos, af, gd⟩ ρ = mono (opBuild P t (ps.toList.map fun p => (p.1, ρ p.2))) := id rfl
theorem operL_buildSlice (t n ps) : operL P T ⟨d, .buildSlice t n ps, ty, pos, af, gd⟩ ρ = mono (opBuildSlice P t n (ps.toList.map fun p => (p.1, ρ p.2))) := id rfl
theorem operL_makeSlice (t l c) : operL P T ⟨d, .makeSlice t l c, ty, pos, af, gd⟩ ρ = mono (opMakeSlice P t (ρ l) (ρ c)) := id rfl
theorem operL_makeMap (t r) : operL P T ⟨d, .makeMap t r, ty, pos, af, gd⟩ ρ = mono (opMakeMap r) := id rfl
theorem operL_makeFunc (f a b) : operL P T ⟨d, .makeFunc f a b, ty, pos, af, gd⟩ ρ = mono (M.pure (.fn f (a.toList.map ρ) (b.toList.map ρ))) := id rfl
theorem operL_convert (s u x) : operL P T ⟨d, .convert s u x, ty, pos, af, gd⟩ ρ = mono (opConvert P ρ ⟨d, .convert s u x, ty, pos, af, gd⟩ s u (ρ x)) := id rfl
theorem operL_field (s x f) : operL P T ⟨d, .field s x f, ty, pos, af, gd⟩ ρ = mono (opField P s (ρ x) f) := id rfl
theorem operL_index (t x i) : operL P T ⟨d, .index t x i, ty, pos, af, gd⟩ ρ = mono (opIndex P ρ ⟨d, .index t x i, ty, pos, af, gd⟩ t x i) := id rfl
theorem operL_slice (t x l h m) : operL P T ⟨d, .slice t x l h m, ty, pos, af, gd⟩ ρ = mono (opSlice P ρ ⟨d, .slice t x l h m, ty, pos, af, gd⟩ t x l h m) := id rfl
theorem operL_lookup (t x i ok) : operL P T ⟨d, .lookup t x i ok, ty, pos, af, gd⟩ ρ = mono (opLookup P t (ρ x) (ρ i) ok) := id rfl
theorem operL_mapUpdate (t m k x) : operL P T ⟨d, .mapUpdate t m k x, ty, pos, af, gd⟩ ρ = mono (opUpdate P t (ρ m) (ρ k) (ρ x)) := id rfl
theorem operL_unOp (op t x) : operL P T ⟨d, .unOp op t x, ty, pos, af, gd⟩ ρ = mono (opPure P ρ ⟨d, .unOp op t x, ty, pos, af, gd⟩ [x]) := id rfl
theorem operL_len (x ts) : operL P T ⟨d, .call { callee := .builtin .len, args := #[x], argTypes := ts }, ty, pos, af, gd⟩ ρ = mono (opLen ((ts[0]?).bind P.underlying) (ρ x)) := id rfl
theorem operL_append (s x ts) : operL P T ⟨d, .call { callee := .builtin .append, args := #[s, x], argTypes := ts }, ty, pos, af, gd⟩ ρ = mono (opAppend P ts[0]? ((ts[1]?).bind P.underlying) (ρ s) (ρ x)) := id rfl
theorem operL_copy (s x ts) : operL P T ⟨d, .call { callee := .builtin .copy, args := #[s, x], argTypes := ts }, ty, pos, af, gd⟩ ρ = mono (opCopy P ts[0]? (ρ s) (ρ x)) := id rfl
theorem operL_call (f args ts) : operL P T ⟨d, .call { callee := .value f, args, argTypes := ts }, ty, pos, af, gd⟩ ρ = callV T (ρ f) (args.toList.map ρ) := id rfl
end ops

section monad
variable {α β : Type} (s : St)
theorem monoE (m : M α) : mono m s = match m s with | none => none | some (a, s') => bif decide (s.nx ≤ s'.nx) then some (a, s') else none := by
  have : ∀ a b, Nat.ble a b = decide (a ≤ b) := fun a b => by rw [Bool.eq_iff_iff]; simp
  unfold mono
  cases m s with
  | none => rfl
  | some p => simp only [this]
theorem bindE (m : M α) (f : α → M β) : (m.bind f) s = match m s with | none => none | some (a, s') => f a s' := id rfl
theorem pureE (a : α) : (M.pure a) s = some (a, s) := id rfl
theorem failE : (M.fail : M α) s = none := id rfl
theorem ofE_s (a : α) : (M.of (some a)) s = some (a, s) := id rfl
theorem ofE_n : (M.of (none : Option α)) s = none := id rfl
theorem condE (b : Bool) (m m' : M α) : (bif b then m else m') s = bif b then m s else m' s := by cases b <;> rfl
theorem hgetE (o : Nat) : hget o s = match s.h.get o with | some x => some (x, { s with rl := o :: s.rl }) | none => none := id rfl
theorem hnewE (x : AObj) : hnew x s = bif decide (s.nx ≤ limit) then some (s.nx, { s with h := s.h.set depth s.nx (some x), nx := s.nx + 1, wl := s.nx :: s.wl }) else none := by
  have : Nat.ble s.nx limit = decide (s.nx ≤ limit) := by rw [Bool.eq_iff_iff]; simp
  unfold hnew; rw [this]
theorem hsetE (o : Nat) (x : AObj) : hset o x s = match s.h.get o with | some _ => bif decide (o ≤ limit) then some ((), { s with h := s.h.set depth o (some x), wl := o :: s.wl }) else none | none => none := by
  have : Nat.ble o limit = decide (o ≤ limit) := by rw [Bool.eq_iff_iff]; simp
  unfold hset; rw [this]; rfl
theorem hdelE (o : Nat) : hdel o s = match s.h.get o with | some _ => bif decide (o ≤ limit) then some ((), { s with h := s.h.set depth o none, wl := o :: s.wl }) else none | none => none := by
  have : Nat.ble o limit = decide (o ≤ limit) := by rw [Bool.eq_iff_iff]; simp
  unfold hdel; rw [this]; rfl
theorem get_set' (t : Tr AObj) (n m : Nat) (x : Option AObj) (h : n ≤ 16777214) : (Tr.set depth t n x).get m = if m = n then x else t.get m := get_set t n m x h
theorem get_nil' (n : Nat) : (Tr.nil : Tr AObj).get n = none := id rfl
theorem bleE (a b : Nat) : Nat.ble a b = decide (a ≤ b) := by rw [Bool.eq_iff_iff]; simp
theorem bltE (a b : Nat) : Nat.blt a b = decide (a < b) := by rw [Bool.eq_iff_iff]; simp
theorem beqE (a b : Nat) : Nat.beq a b = decide (a = b) := by rw [Bool.eq_iff_iff]; simp
end monad

/-! ### More is shown where more is asked -/
theorem boolAV_mono {a : AV} {x y x' y' : Prop} (h1 : x → x') (h2 : y → y') (h : boolAV a x y) : boolAV a x' y' := by
  unfold boolAV at *
  split at h
  · exact ⟨fun e => h1 (h.1 e), fun e => h2 (h.2 e)⟩
  · exact h.elim
theorem guarded_mono {ops L gd} {x y x' y' : Prop} (h1 : x → x') (h2 : y → y') (h : guarded ops L gd x y) : guarded ops L gd x' y' := by
  unfold guarded at *
  split at h
  · exact h1 h
  · exact boolAV_mono h1 h2 h
  · exact boolAV_mono h2 h1 h
theorem opsL_mono {P T ops} {K K' : SL → St → Prop} (h : ∀ L st, K L st → K' L st) : ∀ (l : List Oper) (L : SL) (st : St), opsL P T ops l K L st → opsL P T ops l K' L st
  | [], L, st, hh => h L st hh
  | o :: r, L, st, hh => guarded_mono (fun q => by
      unfold opDo afterOp at *
      split at q
      · exact opsL_mono h r _ _ q
      · exact q.elim) (fun q => opsL_mono h r _ _ q) hh
theorem opsD_mono {P T ops} {K K' : SL → St → Prop} (h : ∀ L st, K L st → K' L st) : ∀ (l : List Oper) (recs : List Rec) (L : SL) (st : St), opsD P T ops l K recs L st → opsD P T ops l K' recs L st
  | [], recs, L, st, hh => ⟨hh.1, h L st hh.2⟩
  | o :: r, recs, L, st, hh => guarded_mono (fun q => by
      unfold opDoD afterD at *
      split at q
      · exact ⟨q.1, q.2.1, opsD_mono h r _ _ _ q.2.2⟩
      · exact q.elim) (fun q => opsD_mono h r _ _ _ q) hh
theorem wl_mono {P : Program} {T : Tab} {pin : Nat} : ∀ (c : Code) (Q Q' : QL), (∀ e L st, Q e L st → Q' e L st) → ∀ L st, wl P T pin c Q L st → wl P T pin c Q' L st := by
  intro c
  induction c with
  | skip => intro Q Q' h L st hh; exact h _ _ _ hh
  | label l => intro Q Q' h L st hh; exact h _ _ _ hh
  | exit i => intro Q Q' h L st hh; exact h _ _ _ hh
  | ret => intro Q Q' h L st hh; exact h _ _ _ hh
  | region i ops draw =>
    intro Q Q' h L st hh
    cases draw with
    | false => exact opsL_mono (h _) _ _ _ hh
    | true => exact ⟨hh.1, opsD_mono (h _) _ _ _ _ hh.2⟩
  | seq a b iha ihb =>
    intro Q Q' h L st hh
    refine iha _ _ ?_ L st hh
    intro e L st q
    cases e with
    | normal => exact ihb _ _ h L st q
    | _ => exact h _ _ _ q
  | cond c a b iha ihb => intro Q Q' h L st hh; exact boolAV_mono (iha _ _ h L st) (ihb _ _ h L st) hh
  | block i b ih =>
    intro Q Q' h L st hh
    refine ih _ _ ?_ L st hh
    intro e L st q
    cases e with
    | exit j =>
      simp only [blkQ] at *
      cases hb : Nat.beq j i with
      | true => rw [hb] at q; exact h _ _ _ q
      | false => rw [hb] at q; exact h _ _ _ q
    | _ => exact h _ _ _ q
  | loop b ih =>
    intro Q Q' h L st hh
    obtain ⟨keep, hh⟩ := hh
    refine ⟨keep, fun X hX => hh X fun vs os q => hX vs os (ih _ _ ?_ _ _ q)⟩
    intro e L st q
    cases e with
    | normal => exact q
    | _ => exact h _ _ _ q
  | scope b ih => intro Q Q' h L st hh; exact ih _ _ h L st hh
  | rangeFunc => intro _ _ _ _ _ hh; exact hh.elim
  | goto => intro _ _ _ _ _ hh; exact hh.elim
  | refuse => intro _ _ _ _ _ hh; exact hh.elim

/-- A loop, by a measure. -/
theorem loop_of {α : Type} {P : Program} {T : Tab} {pin : Nat} {b : Code} {Q : QL} {L : SL} {st : St} (keep : List Nat) (V : α → List AV) (O : α → List (Option AObj)) (I : α → Prop) (μ : α → Nat) (x : α) (hx : I x)
    (hv : canonV pin keep L st = V x) (ho : canonO pin keep L st = O x)
    (step : ∀ x, I x → wl P T pin b (headQ pin keep (fun vs os => ∃ y, I y ∧ μ y < μ x ∧ vs = V y ∧ os = O y) Q) (zipK keep (V x)) (stK (O x))) : LoopL pin (wl P T pin b) Q L st :=
  LoopL.of keep V O I μ x hx hv ho (fun _ _ h => wl_mono b _ _ h) step

section cods
theorem codL_val {α : Type} (C : Cod α) (l : Bool) (xs : List α) : (codL C).val l xs = .vl l C.sz (xs.map (C.val l)) := id rfl
theorem codL_sz {α : Type} (C : Cod α) : (codL C).sz = 1 := id rfl
theorem codStr_sz : codStr.sz = 1 := id rfl
theorem codU8_sz : codU8.sz = 1 := id rfl
theorem codU16_sz : codU16.sz = 1 := id rfl
theorem codU32_sz : codU32.sz = 1 := id rfl
theorem codInt_sz (k : IntKind) : (codInt k).sz = 1 := id rfl
theorem codBool_sz : codBool.sz = 1 := id rfl
theorem codU8_val (l : Bool) (x : UInt8) : codU8.val l x = .sc (.int .u8 x.toNat) := id rfl
theorem codU16_val (l : Bool) (x : UInt16) : codU16.val l x = .sc (.int .u16 x.toNat) := id rfl
theorem codU32_val (l : Bool) (x : UInt32) : codU32.val l x = .sc (.int .u32 x.toNat) := id rfl
theorem codInt_val (k : IntKind) (l : Bool) (x : Int) : (codInt k).val l x = .sc (.int k x) := id rfl
theorem codBool_val (l : Bool) (x : Bool) : codBool.val l x = .sc (.bool x) := id rfl
theorem idx_nil (o i : Nat) : idx [] o i = none := id rfl
theorem ren_sc (τ : Nat → Option Nat) (v : Value) : (AV.sc v).ren τ = .sc v := by simp [AV.ren]
theorem ren_comp {α : Type} (C : Cod α) (τ : Nat → Option Nat) (l : Bool) : AV.ren τ ∘ C.val l = C.val l := by funext x; exact val_ren C τ l x
theorem codStr_val (l : Bool) (x : ByteArray) : codStr.val l x = .sc (.string x) := id rfl

theorem exact_sc (v : Value) : (AV.sc v).exact = some v := id rfl
theorem decV_one {α : Type} (C : Cod α) (fr : Bool) (h : Tr AObj) (a : AV) (h1 : a.known = true) (h2 : a.isAgg = C.agg) : C.decV fr h a = C.dec fr h a.cells := by
  unfold Cod.decV; rw [h1, h2]; simp
theorem codU32_dec (fr : Bool) (h : Tr AObj) (n : Int) (h0 : 0 ≤ n) (h1 : n < 4294967296) : codU32.decV fr h (.sc (.int .u32 n)) = some (UInt32.ofNat n.toNat) := by
  rw [decV_one _ _ _ _ rfl rfl]; show u32V (.int .u32 n) = _; simp [u32V, h0, h1]
theorem codU16_dec (fr : Bool) (h : Tr AObj) (n : Int) (h0 : 0 ≤ n) (h1 : n < 65536) : codU16.decV fr h (.sc (.int .u16 n)) = some (UInt16.ofNat n.toNat) := by
  rw [decV_one _ _ _ _ rfl rfl]; show u16V (.int .u16 n) = _; simp [u16V, h0, h1]
theorem codU8_dec (fr : Bool) (h : Tr AObj) (n : Int) (h0 : 0 ≤ n) (h1 : n < 256) : codU8.decV fr h (.sc (.int .u8 n)) = some (UInt8.ofNat n.toNat) := by
  rw [decV_one _ _ _ _ rfl rfl]; show u8V (.int .u8 n) = _; simp [u8V, h0, h1]
theorem codU32_rt (fr : Bool) (h : Tr AObj) (n : UInt32) : codU32.decV fr h (.sc (.int .u32 n.toNat)) = some n := codU32.rtV fr h true n (fun _ => rfl)
theorem codU16_rt (fr : Bool) (h : Tr AObj) (n : UInt16) : codU16.decV fr h (.sc (.int .u16 n.toNat)) = some n := codU16.rtV fr h true n (fun _ => rfl)
theorem codU8_rt (fr : Bool) (h : Tr AObj) (n : UInt8) : codU8.decV fr h (.sc (.int .u8 n.toNat)) = some n := codU8.rtV fr h true n (fun _ => rfl)
theorem codInt_dec (k : IntKind) (fr : Bool) (h : Tr AObj) (n : Int) : (codInt k).decV fr h (.sc (.int k n)) = some n := (codInt k).rtV fr h true n (fun _ => rfl)
theorem codBool_dec (fr : Bool) (h : Tr AObj) (b : Bool) : codBool.decV fr h (.sc (.bool b)) = some b := codBool.rtV fr h true b (fun _ => rfl)
theorem codStr_dec (fr : Bool) (h : Tr AObj) (s : ByteArray) : codStr.decV fr h (.sc (.string s)) = some s := codStr.rtV fr h true s (fun _ => rfl)
theorem codL_dec {α : Type} (C : Cod α) (fr : Bool) (h : Tr AObj) (a : AV) (h1 : a.known = true) (h2 : a.isAgg = false) (h3 : a.cells = [a]) : (codL C).decV fr h a = decS C fr h a := by
  rw [decV_one _ _ _ _ h1 h2, h3]; rfl
theorem codL_nil {α : Type} (C : Cod α) (fr : Bool) (h : Tr AObj) : (codL C).decV fr h (.sc (.slice none 0 0)) = some [] := codL_dec C fr h _ rfl rfl rfl
theorem codL_vl {α : Type} (C : Cod α) (fr : Bool) (h : Tr AObj) (l : Bool) (xs : List α) (hl : (l || !fr) = true) : (codL C).decV fr h (.vl l C.sz (xs.map (C.val l))) = some xs := by
  refine (codL C).rtV fr h l xs ?_
  cases fr <;> simp_all
theorem flat_cells {α : Type} (C : Cod α) (l : Bool) : ∀ xs : List α, (xs.flatMap (C.cells l)).length = xs.length * C.sz
  | [] => by simp
  | x :: xs => by rw [List.flatMap_cons, List.length_append, C.len, flat_cells C l xs, List.length_cons, Nat.succ_mul, Nat.add_comm]
theorem codL_sl {α : Type} (C : Cod α) (fr : Bool) (h : Tr AObj) (o n : Nat) (xs : List α) (cells : List AV) (k s : Nat) (e : TypeId) (hg : h.get o = some (.row cells k s e)) (hc : cells = xs.flatMap (C.cells true)) (hn : n = xs.length) :
    (codL C).decV fr h (.sl o 0 n C.sz) = some xs := by
  rw [codL_dec C fr h _ rfl rfl rfl]
  subst hc hn
  have hlen := flat_cells C true xs
  simp [decS, hg, decRow, hlen, List.take_of_length_le, decN_flat C fr h true (fun _ => rfl), bleE]
theorem decS_nil {α : Type} (C : Cod α) (fr : Bool) (h : Tr AObj) : decS C fr h (.sc (.slice none 0 0)) = some [] := id rfl
theorem decS_vl {α : Type} (C : Cod α) (fr : Bool) (h : Tr AObj) (l : Bool) (xs : List α) (n : Nat) (hn : n = C.sz) (hl : (l || !fr) = true) : decS C fr h (.vl l n (xs.map (C.val l))) = some xs := by
  subst hn
  have : (codL C).decV fr h (.vl l C.sz (xs.map (C.val l))) = some xs := codL_vl C fr h l xs hl
  rwa [codL_dec C fr h _ rfl rfl rfl] at this
theorem decS_sl {α : Type} (C : Cod α) (fr : Bool) (h : Tr AObj) (o off len n : Nat) : decS C fr h (.sl o off len n) = bif decide (n = C.sz) then (h.get o).bind (decRow C fr h off len) else none := by
  show (bif Nat.beq n C.sz then _ else _) = _
  rw [beqE]
theorem decRow_row {α : Type} (C : Cod α) (fr : Bool) (h : Tr AObj) (off len : Nat) (cells : List AV) (k s : Nat) (e : TypeId) :
    decRow C fr h off len (.row cells k s e) = bif decide (off + len * C.sz ≤ cells.length) then decN C fr h len ((cells.drop off).take (len * C.sz)) else none := by
  show (bif Nat.ble _ _ then _ else _) = _
  rw [bleE]
theorem decN_s {α : Type} (C : Cod α) (fr : Bool) (h : Tr AObj) (n : Nat) (l : List AV) : decN C fr h (n + 1) l = match C.dec fr h (l.take C.sz), decN C fr h n (l.drop C.sz) with | some x, some xs => some (x :: xs) | _, _ => none := id rfl
theorem decN_z {α : Type} (C : Cod α) (fr : Bool) (h : Tr AObj) (l : List AV) : decN C fr h 0 l = some [] := id rfl
theorem codU8_dec1 (fr : Bool) (h : Tr AObj) (n : Int) (h0 : 0 ≤ n) (h1 : n < 256) : codU8.dec fr h [.sc (.int .u8 n)] = some (UInt8.ofNat n.toNat) := by
  show u8V (.int .u8 n) = _; simp [u8V, h0, h1]
theorem r2_E {α β : Type} (A : Cod α) (B : Cod β) (l : Bool) (p : α × β) : (r2 A B).E l p = .tup [A.val l p.1, B.val l p.2] := id rfl
theorem r3_E {α β γ : Type} (A : Cod α) (B : Cod β) (C : Cod γ) (l : Bool) (p : α × β × γ) : (r3 A B C).E l p = .tup [A.val l p.1, B.val l p.2.1, C.val l p.2.2] := id rfl
theorem r1_E {α : Type} (A : Cod α) (l : Bool) (x : α) : (r1 A).E l x = A.val l x := id rfl
theorem callV_sc (T : Tab) (g : Nat) (a b : Array Value) (args : List AV) : callV T (.sc (.func (.func g) a b)) args = callT T g (a.toList.map .sc ++ args ++ b.toList.map .sc) := id rfl
theorem callV_fn (T : Tab) (g : Nat) (a b : List AV) (args : List AV) : callV T (.fn (.func g) a b) args = callT T g (a ++ args ++ b) := id rfl
theorem callT_hit (f : Nat) (b : Bool) (m : List AV → M AV) (T : Tab) (args : List AV) : callT ((f, b, m) :: T) f args = mono (m args) := by simp [callT, Tab.find]
theorem callT_miss (f g : Nat) (b : Bool) (m : List AV → M AV) (T : Tab) (args : List AV) (h : (f == g) = false) : callT ((f, b, m) :: T) g args = callT T g args := by
  have : f ≠ g := by simpa using h
  simp [callT, Tab.find, beq_no this]
theorem pureM_eq {α : Type} (A : AC α) (F : α → Option AV) (args : List AV) (st : St) : pureM A F args st = match A.get .nil args with | some x => (F x).map fun r => (r, st) | none => match A.get st.h args with | some x => (match F x with | some r => bif r.fresh then some (r, st) else none | none => none) | none => none := id rfl
theorem r2_D {α β : Type} (A : Cod α) (B : Cod β) (fr : Bool) (h : Tr AObj) (a b : AV) : (r2 A B).get fr h (.tup [a, b]) = match A.decV fr h a, B.decV fr h b with | some x, some y => some (x, y) | _, _ => none := id rfl
theorem r3_D {α β γ : Type} (A : Cod α) (B : Cod β) (C : Cod γ) (fr : Bool) (h : Tr AObj) (a b c : AV) : (r3 A B C).get fr h (.tup [a, b, c]) = match A.decV fr h a, B.decV fr h b, C.decV fr h c with | some x, some y, some z => some (x, y, z) | _, _, _ => none := id rfl
theorem a0_D (h : Tr AObj) : a0.get h [] = some () := id rfl
theorem aC_D {α β : Type} (C : Cod α) (R : AC β) (h : Tr AObj) (a : AV) (r : List AV) : (aC C R).get h (a :: r) = match C.decV false h a, R.get h r with | some x, some y => some (x, y) | _, _ => none := id rfl
theorem r1_D {α : Type} (A : Cod α) (fr : Bool) (h : Tr AObj) (a : AV) : (r1 A).get fr h a = A.decV fr h a := id rfl
end cods

/-! ### Literals of types: what is built. -/
section
variable (P : Program)
theorem afill_nil (pl : Nat → Option (Nat × Nat)) (cells : List AV) : afill pl cells [] = some cells := id rfl
theorem afill_cons (pl : Nat → Option (Nat × Nat)) (cells : List AV) (i : Nat) (v : AV) (rest : List (Nat × AV)) : afill pl cells ((i, v) :: rest) = match pl i with
    | none => none
    | some (off, size) => bif !v.known || !(Nat.beq v.cells.length size) || !(Nat.ble (off + size) cells.length) then none else afill pl (cells.take off ++ v.cells ++ cells.drop (off + size)) rest := id rfl
/-- A struct's zero cells and the places of its fields. -/
def buildT (t : TypeId) : Option (List AV × List (Nat × Nat)) :=
  match zeroT P t, P.underlying t with
  | some z, some (.struct fields) => (placesT P fields).map fun pl => (z.cells.toList.map .sc, pl)
  | _, _ => none
theorem opBuild_eq (t : TypeId) (ps : List (Nat × AV)) : opBuild P t ps = match buildT P t with
    | some (z, pl) => .of ((afill (fun i => pl[i]?) z ps).map .agg)
    | none => opBuild P t ps := by
  cases hb : buildT P t with
  | none => rfl
  | some q =>
    obtain ⟨z, pl⟩ := q
    simp only [buildT] at hb
    split at hb
    · rename_i z' fs hz hu
      cases hp : placesT P fs with
      | none => simp [hp] at hb
      | some pl' =>
        simp [hp] at hb
        obtain ⟨rfl, rfl⟩ := hb
        simp [opBuild, hz, hu, hp]
    · cases hb
/-- A slice's element, its size and its zero cells. -/
def rowT (t : TypeId) : Option (TypeId × Nat × List AV) :=
  match elemT P t with
  | none => none
  | some e =>
    match sizeT P e, zeroT P e with
    | some sz, some z => bif Nat.beq z.cells.size sz then some (e, sz, z.cells.toList.map .sc) else none
    | _, _ => none
theorem opBuildSlice_eq (t : TypeId) (len : Nat) (ps : List (Nat × AV)) : opBuildSlice P t len ps = match rowT P t with
    | some (e, sz, z) =>
      match afill (fun i => some (i * sz, sz)) (List.replicate len z).flatten ps with
      | some cells => bif Nat.ble (len * sz) 16777216 && Nat.ble len 16777216 then newRowOf e sz len cells else .fail
      | none => .fail
    | none => opBuildSlice P t len ps := by
  cases hb : rowT P t with
  | none => rfl
  | some q =>
    obtain ⟨e, sz, z⟩ := q
    simp only [rowT] at hb
    split at hb
    · cases hb
    · rename_i e' he
      split at hb
      · rename_i sz' z' hs hz
        cases hq : Nat.beq z'.cells.size sz' with
        | false => simp [hq] at hb
        | true =>
          simp [hq] at hb
          obtain ⟨rfl, rfl, rfl⟩ := hb
          simp only [opBuildSlice, he, hs, hz, hq, Bool.and_true]
          rfl
      · cases hb
end
end Go.Vm
