/- Walks on abstract values: rules that a walk rewrites by. No condition. -/
import Derived.Test.YtnkjblopaagkoaaWlK
namespace Go.Vm
noncomputable section

section code
variable (P : Program) (T : Tab) (pin : Nat) (Q : QL) (L : SL) (st : St)
theorem wl_skip : wl P T pin .skip Q L st = Q .normal L st := id rfl
theorem wl_label (l) : wl P T pin (.label l) Q L st = Q .normal L st := id rfl
theorem wl_region (i ops d) : wl P T pin (.region i ops d) Q L st = regionL P T ops d (Q .normal) L st := id rfl
theorem wl_seq (a b) : wl P T pin (.seq a b) Q L st = wl P T pin a (seqQ (wl P T pin b) Q) L st := id rfl
theorem wl_cond (c a b) : wl P T pin (.cond c a b) Q L st = boolK (evL L c) (wl P T pin a Q) (wl P T pin b Q) L st := id rfl
theorem wl_block (i b) : wl P T pin (.block i b) Q L st = wl P T pin b (blkQ i Q) L st := id rfl
theorem wl_loop (b) : wl P T pin (.loop b) Q L st = LoopL pin (wl P T pin b) Q L st := id rfl
theorem wl_scope (b) : wl P T pin (.scope b) Q L st = wl P T pin b Q L st := id rfl
theorem wl_exit (i) : wl P T pin (.exit i) Q L st = Q (.exit i) L st := id rfl
theorem wl_ret : wl P T pin .ret Q L st = Q .ret L st := id rfl
theorem seqQ_n (W) : seqQ W Q .normal L st = W Q L st := id rfl
theorem seqQ_e (W i) : seqQ W Q (.exit i) L st = Q (.exit i) L st := id rfl
theorem seqQ_r (W) : seqQ W Q .ret L st = Q .ret L st := id rfl
theorem blkQ_n (i) : blkQ i Q .normal L st = Q .normal L st := id rfl
theorem blkQ_r (i) : blkQ i Q .ret L st = Q .ret L st := id rfl
theorem blkQ_e (i j) : blkQ i Q (.exit j) L st = bif Nat.beq j i then Q .normal L st else Q (.exit j) L st := id rfl
theorem headQ_n (keep X) : headQ pin keep X Q .normal L st = X (canonV pin keep L st) (canonO pin keep L st) := id rfl
theorem headQ_e (keep X i) : headQ pin keep X Q (.exit i) L st = Q (.exit i) L st := id rfl
theorem headQ_r (keep X) : headQ pin keep X Q .ret L st = Q .ret L st := id rfl
theorem retQ_n (rs R) : retQ P rs R .normal L st = retR (resL P L st rs) R st := id rfl
theorem retQ_r (rs R) : retQ P rs R .ret L st = retR (resL P L st rs) R st := id rfl
theorem regionL_f (ops K) : regionL P T ops false K L st = opsL P T ops ops.toList K L st := id rfl
theorem opsL_nil (ops K) : opsL P T ops [] K L st = K L st := id rfl
theorem opsL_cons (ops o r K) : opsL P T ops (o :: r) K L st = guardedK ops o.guard (opDo P T o (opsL P T ops r K)) (opSkip o.dst (opsL P T ops r K)) L st := id rfl
theorem opsD_nil (ops K recs) : opsD P T ops [] K recs L st = (calmAll (Region.before ops) 0 recs = true ∧ K L st) := id rfl
theorem opsD_cons (ops o r K recs) : opsD P T ops (o :: r) K recs L st = guardedK ops o.guard (opDoD P T o recs (opsD P T ops r K)) (opSkip o.dst (opsD P T ops r K (recs ++ [⟨[], []⟩]))) L st := id rfl
theorem guardedK_n (ops X Y) : guardedK ops none X Y L st = X L st := id rfl
theorem guardedK_t (ops j c X Y) : guardedK ops (some (j, c)) X Y L st = guardK (lk L (gslot ops j)) c X Y L st := id rfl
theorem guardK_t (b : Bool) (X Y : SL → St → Prop) : guardK (.sc (.bool b)) true X Y L st = boolK (.sc (.bool b)) X Y L st := by cases b <;> simp [guardK, wantP, wantA, wantV, boolK, boolAV, AV.bool, AV.exact, boolOf]
theorem guardK_f (b : Bool) (X Y : SL → St → Prop) : guardK (.sc (.bool b)) false X Y L st = boolK (.sc (.bool b)) Y X L st := by cases b <;> simp [guardK, wantP, wantA, wantV, boolK, boolAV, AV.bool, AV.exact, boolOf]
theorem guardK_u (c : Bool) (X Y : SL → St → Prop) : guardK (.sc undef) c X Y L st = Y L st := by simp [guardK, wantP, wantA, wantV, AV.exact, undef]
theorem opDo_eq (o K) : opDo P T o K L st = afterE (operL P T o (evL L) st) P o L st K := id rfl
theorem afterE_s (v o K st') : afterE (some (v, st')) P o L st K = K (putL o.dst v L) st' := id rfl
theorem afterE_n (o K) : afterE none P o L st K = callO P o L st K := id rfl
theorem callO_v (d f args ts ty pos af gd K) : callO P ⟨d, .call { callee := .value f, args, argTypes := ts }, ty, pos, af, gd⟩ L st K = callK P (calleeV (evL L f) (args.toList.map (evL L))) d L st K := id rfl
theorem callK_s (f args d K) : callK P (some (f, args)) d L st K = CallAt P f args st (contK K d L) := id rfl
theorem callK_n (d K) : callK P none d L st K = False := id rfl
theorem contK_eq (K d r) : contK K d L r st = K (putL d r L) st := id rfl
theorem calleeV_fn (g a b args) : calleeV (.fn (.func g) a b) args = some (g, a ++ args ++ b) := id rfl
theorem calleeV_sc (g a b args) : calleeV (.sc (.func (.func g) a b)) args = some (g, a.toList.map .sc ++ args ++ b.toList.map .sc) := id rfl
theorem opDoD_eq (o recs K) : opDoD P T o recs K L st = drawnF P T o recs K L st (footOf o L st) := id rfl
theorem drawnF_eq (o recs K F) : drawnF P T o recs K L st F = drawnK (readsOnly T (onlyOf o L) o) F o recs K L st (operL P T o (onlyOf o L) { h := maskH st.h F, nx := st.nx, rl := [], wl := [] }) := id rfl
theorem drawnK_s (ro F o recs K v st1) : drawnK ro F o recs K L st (some (v, st1)) = ((allLt st.nx F = true ∧ Nat.ble st1.nx limit = true) ∧ same (maskH st.h F) st1.h (bif ro then F else []) ∧
    K (recs ++ [⟨F, (bif ro then [] else F) ++ fromTo st.nx (st1.nx - st.nx)⟩]) (putL o.dst v L) { h := mergeH st1.h (F ++ fromTo st.nx (st1.nx - st.nx)) st.h, nx := st1.nx, rl := [], wl := [] }) := id rfl
theorem drawnK_n (ro F o recs K) : drawnK ro F o recs K L st none = False := id rfl
theorem opSkip_eq (d K) : opSkip d K L st = K (putL d (.sc undef) L) st := id rfl
theorem boolK_b (b X Y) : boolK (.sc (.bool b)) X Y L st = ((b = true → X L st) ∧ (b = false → Y L st)) := id rfl
theorem boolK_t (X Y) : boolK (.sc (.bool true)) X Y L st = X L st := by simp [boolK, boolAV, AV.bool, AV.exact, boolOf]
theorem boolK_f (X Y) : boolK (.sc (.bool false)) X Y L st = Y L st := by simp [boolK, boolAV, AV.bool, AV.exact, boolOf]
theorem afterOp_s (v d K) : afterOp (some (v, st)) d L K = K (putL d v L) st := id rfl
theorem afterOp_none (d K) : afterOp none d L K = False := id rfl
theorem putL_some (d v) : putL (some d) v L = (d, v) :: L := id rfl
theorem putL_none (v) : putL none v L = L := id rfl
theorem retR_s (l R) : retR (some l) R st = R (pack l) st := id rfl
theorem lk_hit (d v) : lk ((d, v) :: L) d = v := by simp [lk]
theorem lk_miss (d t v) (h : (d == t) = false) : lk ((d, v) :: L) t = lk L t := by
  have e : d ≠ t := by simpa using h
  rw [lk_cons, if_neg e]
theorem evL_t (t) : evL L (.tmp t) = lk L t := id rfl
theorem evL_c (v) : evL L (.const v) = .sc v := id rfl
theorem evL_f (f) : evL L (.func f) = .sc (.func (.func f) #[] #[]) := id rfl
theorem resL_n : resL P L st [] = some [] := id rfl
theorem resL_t (t r) : resL P L st (.tmp t :: r) = (resL P L st r).map (lk L t :: ·) := id rfl
theorem resL_c (a t r) : resL P L st (.cell a t :: r) = match opLoad P t (lk L a) st with | some (v, _) => (resL P L st r).map (v :: ·) | none => none := id rfl
end code

section ops
variable (P : Program) (T : Tab) (ρ : Operand → AV) (d : Option Tmp) (ty : TypeId) (pos : String) (af : Array Edge) (gd : Option (Nat × Bool))
theorem operL_move (x) : operL P T ⟨d, .move x, ty, pos, af, gd⟩ ρ = mono (M.pure (ρ x)) := id rfl
theorem operL_assign (x) : operL P T ⟨d, .assign x, ty, pos, af, gd⟩ ρ = mono (M.pure (ρ x)) := id rfl
theorem operL_load (t a) : operL P T ⟨d, .load t a, ty, pos, af, gd⟩ ρ = mono (opLoad P t (ρ a)) := id rfl
theorem operL_fieldAddr (s x f) : operL P T ⟨d, .fieldAddr s x f, ty, pos, af, gd⟩ ρ = mono (opFieldAddr P s (ρ x) f) := id rfl
theorem operL_binOp (op t x y u) : operL P T ⟨d, .binOp op t x y u, ty, pos, af, gd⟩ ρ = mono (opBin P ρ ⟨d, .binOp op t x y u, ty, pos, af, gd⟩ op t x y) := id rfl
theorem operL_pick (c a b) : operL P T ⟨d, .pick c a b, ty, pos, af, gd⟩ ρ = mono (opPick (ρ c) (ρ a) (ρ b)) := id rfl
theorem operL_store (t a x) : operL P T ⟨d, .store t a x, ty, pos, af, gd⟩ ρ = mono (opStore P t (ρ a) (ρ x)) := id rfl
theorem operL_extract (t i) : operL P T ⟨d, .extract t i, ty, pos, af, gd⟩ ρ = mono (opExtract (ρ t) i) := id rfl
theorem operL_indexAddr (t x i) : operL P T ⟨d, .indexAddr t x i, ty, pos, af, gd⟩ ρ = mono (opIndexAddr P t (ρ x) (ρ i)) := id rfl
theorem operL_nilCheck (x) : operL P T ⟨d, .nilCheck x, ty, pos, af, gd⟩ ρ = mono (opNilCheck (ρ x)) := id rfl
theorem operL_alloc (t) : operL P T ⟨d, .alloc t, ty, pos, af, gd⟩ ρ = mono (opAlloc P t) := id rfl
theorem operL_box (t x) : operL P T ⟨d, .box t x, ty, pos, af, gd⟩ ρ = mono (opBox t (ρ x)) := id rfl
theorem operL_build (t ps) : operL P T ⟨d, .build t ps, ty, pos, af, gd⟩ ρ = mono (opBuild P t (ps.toList.map fun p => (p.1, ρ p.2))) := id rfl
theorem operL_buildSlice (t n ps) : operL P T ⟨d, .buildSlice t n ps, ty, pos, af, gd⟩ ρ = mono (opBuildSlice P t n (ps.toList.map fun p => (p.1, ρ p.2))) := id rfl
theorem operL_makeSlice (t l c) : operL P T ⟨d, .makeSlice t l c, ty, pos, af, gd⟩ ρ = mono (opMakeSlice P t (ρ l) (ρ c)) := id rfl
theorem operL_makeMap (t r) : operL P T ⟨d, .makeMap t r, ty, pos, af, gd⟩ ρ = mono (opMakeMap r) := id rfl
theorem operL_makeFunc (f a b) : operL P T ⟨d, .makeFunc f a b, ty, pos, af, gd⟩ ρ = mono (M.pure (.fn f (a.toList.map ρ) (b.toList.map ρ))) := id rfl
theorem operL_convert (s u x) : operL P T ⟨d, .convert s u x, ty, pos, af, gd⟩ ρ = mono (opConvert P ρ ⟨d, .convert s u x, ty, pos, af, gd⟩ s u (ρ x)) := id rfl
theorem operL_field (s x f) : operL P T ⟨d, .field s x f, ty, pos, af, gd⟩ ρ = mono (opField P s (ρ x) f) := id rfl
theorem operL_index (t x i) : operL P T ⟨d, .index t x i, ty, pos, af, gd⟩ ρ = mono (opIndex P ρ ⟨d, .index t x i, ty, pos, af, gd⟩ t x i) := id rfl
theorem operL_slice (t x l h m) : operL P T ⟨d, .slice t x l h m, ty, pos, af, gd⟩ ρ = mono (opSlice P ρ ⟨d, .slice t x l h m, ty, pos, af, gd⟩ t x l h m) := id rfl
theorem operL_lookup (t x i ok) : operL P T ⟨d, .lookup t x i ok, ty, pos, af, gd⟩ ρ = mono (opLookup P t (ρ x) (ρ i) ok) := id rfl
theorem operL_mapUpdate (t m k x) : operL P T ⟨d, .mapUpdate t m k x, ty, pos, af, gd⟩ ρ = mono (opUpdate P t (ρ m) (ρ k) (ρ x)) := id rfl
theorem operL_unOp (op t x) : operL P T ⟨d, .unOp op t x, ty, pos, af, gd⟩ ρ = mono (opPure P ρ ⟨d, .unOp op t x, ty, pos, af, gd⟩ [x]) := id rfl
theorem operL_len (x ts) : operL P T ⟨d, .call { callee := .builtin .len, args := #[x], argTypes := ts }, ty, pos, af, gd⟩ ρ = mono (opLen ((ts[0]?).bind P.underlying) (ρ x)) := id rfl
theorem operL_append (s x ts) : operL P T ⟨d, .call { callee := .builtin .append, args := #[s, x], argTypes := ts }, ty, pos, af, gd⟩ ρ = mono (opAppend P ts[0]? ((ts[1]?).bind P.underlying) (ρ s) (ρ x)) := id rfl
theorem operL_copy (s x ts) : operL P T ⟨d, .call { callee := .builtin .copy, args := #[s, x], argTypes := ts }, ty, pos, af, gd⟩ ρ = mono (opCopy P ts[0]? (ρ s) (ρ x)) := id rfl
theorem operL_call (f args ts) : operL P T ⟨d, .call { callee := .value f, args, argTypes := ts }, ty, pos, af, gd⟩ ρ = callV T (ρ f) (args.toList.map ρ) := id rfl
end ops

section monad
variable {α β : Type} (s : St)
theorem monoE (m : M α) : mono m s = match m s with | none => none | some (a, s') => bif decide (s.nx ≤ s'.nx) then some (a, s') else none := by
  have : ∀ a b, Nat.ble a b = decide (a ≤ b) := fun a b => by rw [Bool.eq_iff_iff]; simp
  unfold mono
  cases m s with
  | none => rfl
  | some p => simp only [this]
theorem bindE (m : M α) (f : α → M β) : (m.bind f) s = match m s with | none => none | some (a, s') => f a s' := id rfl
theorem pureE (a : α) : (M.pure a) s = some (a, s) := id rfl
theorem failE : (M.fail : M α) s = none := id rfl
theorem ofE_s (a : α) : (M.of (some a)) s = some (a, s) := id rfl
theorem ofE_n : (M.of (none : Option α)) s = none := id rfl
theorem condE (b : Bool) (m m' : M α) : (bif b then m else m') s = bif b then m s else m' s := by cases b <;> rfl
theorem hgetE (o : Nat) : hget o s = match s.h.get o with | some x => some (x, { s with rl := o :: s.rl }) | none => none := id rfl
theorem hnewE (x : AObj) : hnew x s = bif decide (s.nx ≤ limit) then some (s.nx, { s with h := s.h.set depth s.nx (some x), nx := s.nx + 1, wl := s.nx :: s.wl }) else none := by
  have : Nat.ble s.nx limit = decide (s.nx ≤ limit) := by rw [Bool.eq_iff_iff]; simp
  unfold hnew; rw [this]
theorem hsetE (o : Nat) (x : AObj) : hset o x s = match s.h.get o with | some _ => bif decide (o ≤ limit) then some ((), { s with h := s.h.set depth o (some x), wl := o :: s.wl }) else none | none => none := by
  have : Nat.ble o limit = decide (o ≤ limit) := by rw [Bool.eq_iff_iff]; simp
  unfold hset; rw [this]; rfl
theorem hdelE (o : Nat) : hdel o s = match s.h.get o with | some _ => bif decide (o ≤ limit) then some ((), { s with h := s.h.set depth o none, wl := o :: s.wl }) else none | none => none := by
  have : Nat.ble o limit = decide (o ≤ limit) := by rw [Bool.eq_iff_iff]; simp
  unfold hdel; rw [this]; rfl
theorem get_set' (t : Tr AObj) (n m : Nat) (x : Option AObj) (h : n ≤ 16777214) : (Tr.set depth t n x).get m = if m = n then x else t.get m := get_set t n m x h
theorem get_nil' (n : Nat) : (Tr.nil : Tr AObj).get n = none := id rfl
theorem bleE (a b : Nat) : Nat.ble a b = decide (a ≤ b) := by rw [Bool.eq_iff_iff]; simp
theorem bltE (a b : Nat) : Nat.blt a b = decide (a < b) := by rw [Bool.eq_iff_iff]; simp
theorem beqE (a b : Nat) : Nat.beq a b = decide (a = b) := by rw [Bool.eq_iff_iff]; simp
end monad

/-! ### More is shown where more is asked -/
theorem boolAV_mono {a : AV} {x y x' y' : Prop} (h1 : x → x') (h2 : y → y') (h : boolAV a x y) : boolAV a x' y' := by
  unfold boolAV at *
  split at h
  · exact ⟨fun e => h1 (h.1 e), fun e => h2 (h.2 e)⟩
  · exact h.elim
theorem guarded_mono {ops L gd} {x y x' y' : Prop} (h1 : x → x') (h2 : y → y') (h : guarded ops L gd x y) : guarded ops L gd x' y' := by
  unfold guarded at *
  split at h
  · exact h1 h
  · unfold wantP at *
    split at h
    · exact ⟨fun e => h1 (h.1 e), fun e => h2 (h.2 e)⟩
    · exact h.elim
theorem CallAt.mono {P f args st} {R R' : AV → St → Prop} (h : ∀ r st, R r st → R' r st) (hc : CallAt P f args st R) : CallAt P f args st R' := by
  intro g w vs h1 h2 h3
  rcases hc g w vs h1 h2 h3 with ⟨v, w', g', r, st', q1, q2, q3⟩ | ⟨q1, q2⟩
  · exact .inl ⟨v, w', g', r, st', q1, h _ _ q2, q3⟩
  · refine .inr ⟨q1, q2.mono ?_⟩
    rintro e w' ⟨v, g', r, st', p1, p2, p3⟩
    exact ⟨v, g', r, st', p1, h _ _ p2, p3⟩
theorem callO_mono {P o L st} {K K' : SL → St → Prop} (h : ∀ L st, K L st → K' L st) (hc : callO P o L st K) : callO P o L st K' := by
  unfold callO callK at *
  split at hc
  · split at hc
    · exact CallAt.mono (fun r st hk => h _ _ hk) hc
    · exact hc.elim
  · exact hc.elim
theorem opsL_mono {P T ops} {K K' : SL → St → Prop} (h : ∀ L st, K L st → K' L st) : ∀ (l : List Oper) (L : SL) (st : St), opsL P T ops l K L st → opsL P T ops l K' L st
  | [], L, st, hh => h L st hh
  | o :: r, L, st, hh => guarded_mono (fun q => by
      unfold opDo afterE at *
      split at q
      · exact opsL_mono h r _ _ q
      · exact callO_mono (fun L st => opsL_mono h r L st) q) (fun q => opsL_mono h r _ _ q) hh
theorem opsD_mono {P T ops} {K K' : SL → St → Prop} (h : ∀ L st, K L st → K' L st) : ∀ (l : List Oper) (recs : List Rec) (L : SL) (st : St), opsD P T ops l K recs L st → opsD P T ops l K' recs L st
  | [], recs, L, st, hh => ⟨hh.1, h L st hh.2⟩
  | o :: r, recs, L, st, hh => guarded_mono (fun q => by
      unfold opDoD drawnF drawnK at *
      split at q
      · exact ⟨q.1, q.2.1, opsD_mono h r _ _ _ q.2.2⟩
      · exact q.elim) (fun q => opsD_mono h r _ _ _ q) hh
theorem opsX_mono {P T ops} {K K' : SL → St → Prop} (h : ∀ L st, K L st → K' L st) : ∀ (l : List Oper) (recs : List Rec) (L : SL) (st : St), opsX P T ops l K recs L st → opsX P T ops l K' recs L st
  | [], recs, L, st, hh => ⟨hh.1, h L st hh.2⟩
  | o :: r, recs, L, st, hh => guarded_mono (fun q => opDoX_mono (fun _ _ _ k => opsX_mono h r _ _ _ k) q) (fun q => opsX_mono h r _ _ _ q) hh
theorem opsI_mono {P T l pin ops} {R : Rnd} (hR : ∀ p args (X X' : Ex → St → Prop) st, (∀ e st, X e st → X' e st) → R p args X st → R p args X' st) {K K' : Option Ex → SL → St → Prop} (h : ∀ pe L st, K pe L st → K' pe L st) :
    ∀ (ls : List Oper) (pe : Option Ex) (L : SL) (st : St), opsI P T l R pin ops ls K pe L st → opsI P T l R pin ops ls K' pe L st
  | [], pe, L, st, hh => h pe L st hh
  | o :: r, pe, L, st, hh => guarded_mono (fun q => by
      unfold opI opIm at *
      split at q
      · unfold afterOp at *
        split at q
        · exact opsI_mono hR h r _ _ _ q
        · exact q.elim
      · obtain ⟨h0, keep, q⟩ := q
        refine ⟨h0, keep, hR _ _ _ _ _ (fun e st q => ?_) q⟩
        cases e with
        | normal => exact opsI_mono hR h r _ _ _ q
        | ret => exact opsI_mono hR h r _ _ _ q
        | exit id => exact opsI_mono hR h r _ _ _ q) (fun q => opsI_mono hR h r _ _ _ q) hh
theorem wlI_mono {P : Program} {T : Tab} {l pin : Nat} {R : Rnd} (hR : ∀ p args (X X' : Ex → St → Prop) st, (∀ e st, X e st → X' e st) → R p args X st → R p args X' st) :
    ∀ (c : Code) (Q Q' : QI), (∀ e pe L st, Q e pe L st → Q' e pe L st) → ∀ pe L st, wlI P T l R pin c Q pe L st → wlI P T l R pin c Q' pe L st := by
  intro c
  induction c with
  | skip => intro Q Q' h pe L st hh; exact h _ _ _ _ hh
  | label l => intro Q Q' h pe L st hh; exact h _ _ _ _ hh
  | exit i => intro Q Q' h pe L st hh; exact h _ _ _ _ hh
  | ret => intro Q Q' h pe L st hh; exact h _ _ _ _ hh
  | region i ops draw =>
    intro Q Q' h pe L st hh
    cases draw with
    | false => exact opsI_mono hR (h _) _ _ _ _ hh
    | true => exact ⟨hh.1, hh.2.imp (opsD_mono (h _ _) _ _ _ _) (opsX_mono (h _ _) _ _ _ _)⟩
  | seq a b iha ihb =>
    intro Q Q' h pe L st hh
    refine iha _ _ ?_ pe L st hh
    intro e pe L st q
    cases e with
    | normal => exact ihb _ _ h pe L st q
    | _ => exact h _ _ _ _ q
  | cond c a b iha ihb => intro Q Q' h pe L st hh; exact boolAV_mono (iha _ _ h pe L st) (ihb _ _ h pe L st) hh
  | block i b ih =>
    intro Q Q' h pe L st hh
    refine ih _ _ ?_ pe L st hh
    intro e pe L st q
    cases e with
    | exit j =>
      simp only [blkI] at *
      cases hb : Nat.beq j i with
      | true => rw [hb] at q; exact h _ _ _ _ q
      | false => rw [hb] at q; exact h _ _ _ _ q
    | _ => exact h _ _ _ _ q
  | loop b ih =>
    intro Q Q' h pe L st hh
    obtain ⟨h0, keep, hh⟩ := hh
    refine ⟨h0, keep, fun X hX => hh X fun vs os q => hX vs os (ih _ _ ?_ _ _ _ q)⟩
    intro e pe L st q
    cases e with
    | normal => exact q
    | _ => exact h _ _ _ _ q
  | scope b ih => intro _ _ _ _ _ _ hh; exact hh.elim
  | rangeFunc => intro _ _ _ _ _ _ hh; exact hh.elim
  | goto => intro _ _ _ _ _ _ hh; exact hh.elim
  | refuse => intro _ _ _ _ _ _ hh; exact hh.elim
theorem wl_mono' {P : Program} {T : Tab} : ∀ (c : Code) (pin : Nat) (Q Q' : QL), (∀ e L st, Q e L st → Q' e L st) → ∀ L st, wl P T pin c Q L st → wl P T pin c Q' L st := by
  intro c
  induction c with
  | skip => intro pin Q Q' h L st hh; exact h _ _ _ hh
  | label l => intro pin Q Q' h L st hh; exact h _ _ _ hh
  | exit i => intro pin Q Q' h L st hh; exact h _ _ _ hh
  | ret => intro pin Q Q' h L st hh; exact h _ _ _ hh
  | region i ops draw =>
    intro pin Q Q' h L st hh
    cases draw with
    | false => exact opsL_mono (h _) _ _ _ hh
    | true => exact ⟨hh.1, hh.2.imp (opsD_mono (h _) _ _ _ _) (opsX_mono (h _) _ _ _ _)⟩
  | seq a b iha ihb =>
    intro pin Q Q' h L st hh
    refine iha _ _ _ ?_ L st hh
    intro e L st q
    cases e with
    | normal => exact ihb _ _ _ h L st q
    | _ => exact h _ _ _ q
  | cond c a b iha ihb => intro pin Q Q' h L st hh; exact boolAV_mono (iha _ _ _ h L st) (ihb _ _ _ h L st) hh
  | block i b ih =>
    intro pin Q Q' h L st hh
    refine ih _ _ _ ?_ L st hh
    intro e L st q
    cases e with
    | exit j =>
      simp only [blkQ] at *
      cases hb : Nat.beq j i with
      | true => rw [hb] at q; exact h _ _ _ q
      | false => rw [hb] at q; exact h _ _ _ q
    | _ => exact h _ _ _ q
  | loop b ih =>
    intro pin Q Q' h L st hh
    obtain ⟨keep, hh⟩ := hh
    refine ⟨keep, fun X hX => hh X fun vs os q => hX vs os (ih _ _ _ ?_ _ _ q)⟩
    intro e L st q
    cases e with
    | normal => exact q
    | _ => exact h _ _ _ q
  | scope b ih => intro pin Q Q' h L st hh; exact ih _ _ _ h L st hh
  | rangeFunc f ps a b iha ihb =>
    intro pin Q Q' h L st hh
    obtain ⟨keep, h0, hh⟩ := hh
    refine ⟨keep, h0, ?_⟩
    unfold rangeV at *
    split at hh
    · unfold rangeW at *
      split at hh
      · refine ⟨hh.1, fun l => wlI_mono (fun p args X X' st hX hr => ⟨hr.1, hr.2.1, iha _ _ _ (fun e L st q => (by
          cases e with
          | normal => exact ihb _ _ _ (fun e _ st q => hX e st q) _ _ q
          | _ => exact q.elim)) _ _ hr.2.2⟩) _ _ _ (fun e pe L st q => (by
          cases e with
          | exit id => exact q.elim
          | normal =>
            cases pe with
            | none => exact h _ _ _ q
            | some e => exact h _ _ _ q
          | ret =>
            cases pe with
            | none => exact h _ _ _ q
            | some e => exact h _ _ _ q)) _ _ _ (hh.2 l)⟩
      · exact hh.elim
    · exact hh.elim
  | goto => intro _ _ _ _ _ _ hh; exact hh.elim
  | refuse => intro _ _ _ _ _ _ hh; exact hh.elim
theorem wl_mono {P : Program} {T : Tab} {pin : Nat} (c : Code) (Q Q' : QL) (h : ∀ e L st, Q e L st → Q' e L st) (L : SL) (st : St) (hh : wl P T pin c Q L st) : wl P T pin c Q' L st := wl_mono' c pin Q Q' h L st hh

/-- A loop, by a measure. -/
theorem loop_of {α : Type} {P : Program} {T : Tab} {pin : Nat} {b : Code} {Q : QL} {L : SL} {st : St} (keep : List Nat) (V : α → List AV) (O : α → List (Option AObj)) (I : α → Prop) (μ : α → Nat) (x : α) (hx : I x)
    (hv : canonV pin keep L st = V x) (ho : canonO pin keep L st = O x)
    (step : ∀ x, I x → wl P T pin b (headQ pin keep (fun vs os => ∃ y, I y ∧ μ y < μ x ∧ vs = V y ∧ os = O y) Q) (zipK keep (V x)) (stK (O x))) : LoopL pin (wl P T pin b) Q L st :=
  LoopL.of keep V O I μ x hx hv ho (fun _ _ h => wl_mono b _ _ h) step

section cods
theorem codL_val {α : Type} (C : Cod α) (l : Bool) (xs : List α) : (codL C).val l xs = .vl l C.sz (xs.map (C.val l)) := id rfl
theorem codL_sz {α : Type} (C : Cod α) : (codL C).sz = 1 := id rfl
theorem codStr_sz : codStr.sz = 1 := id rfl
theorem codU8_sz : codU8.sz = 1 := id rfl
theorem codU16_sz : codU16.sz = 1 := id rfl
theorem codU32_sz : codU32.sz = 1 := id rfl
theorem codInt_sz (k : IntKind) : (codInt k).sz = 1 := id rfl
theorem codBool_sz : codBool.sz = 1 := id rfl
theorem codU8_val (l : Bool) (x : UInt8) : codU8.val l x = .sc (.int .u8 x.toNat) := id rfl
theorem codU16_val (l : Bool) (x : UInt16) : codU16.val l x = .sc (.int .u16 x.toNat) := id rfl
theorem codU32_val (l : Bool) (x : UInt32) : codU32.val l x = .sc (.int .u32 x.toNat) := id rfl
theorem codInt_val (k : IntKind) (l : Bool) (x : Int) : (codInt k).val l x = .sc (.int k x) := id rfl
theorem codBool_val (l : Bool) (x : Bool) : codBool.val l x = .sc (.bool x) := id rfl
theorem idx_nil (o i : Nat) : idx [] o i = none := id rfl
theorem ren_sc (τ : Nat → Option Nat) (v : Value) : (AV.sc v).ren τ = .sc v := by simp [AV.ren]
theorem ren_comp {α : Type} (C : Cod α) (τ : Nat → Option Nat) (l : Bool) : AV.ren τ ∘ C.val l = C.val l := by funext x; exact val_ren C τ l x
theorem codStr_val (l : Bool) (x : ByteArray) : codStr.val l x = .sc (.string x) := id rfl

theorem exact_sc (v : Value) : (AV.sc v).exact = some v := id rfl
theorem decV_one {α : Type} (C : Cod α) (fr : Bool) (h : Tr AObj) (a : AV) (h1 : a.known = true) (h2 : a.isAgg = C.agg) : C.decV fr h a = C.dec fr h a.cells := by
  unfold Cod.decV; rw [h1, h2]; simp
theorem codU32_dec (fr : Bool) (h : Tr AObj) (n : Int) (h0 : 0 ≤ n) (h1 : n < 4294967296) : codU32.decV fr h (.sc (.int .u32 n)) = some (UInt32.ofNat n.toNat) := by
  rw [decV_one _ _ _ _ rfl rfl]; show u32V (.int .u32 n) = _; simp [u32V, h0, h1]
theorem codU16_dec (fr : Bool) (h : Tr AObj) (n : Int) (h0 : 0 ≤ n) (h1 : n < 65536) : codU16.decV fr h (.sc (.int .u16 n)) = some (UInt16.ofNat n.toNat) := by
  rw [decV_one _ _ _ _ rfl rfl]; show u16V (.int .u16 n) = _; simp [u16V, h0, h1]
theorem codU8_dec (fr : Bool) (h : Tr AObj) (n : Int) (h0 : 0 ≤ n) (h1 : n < 256) : codU8.decV fr h (.sc (.int .u8 n)) = some (UInt8.ofNat n.toNat) := by
  rw [decV_one _ _ _ _ rfl rfl]; show u8V (.int .u8 n) = _; simp [u8V, h0, h1]
theorem codU32_rt (fr : Bool) (h : Tr AObj) (n : UInt32) : codU32.decV fr h (.sc (.int .u32 n.toNat)) = some n := codU32.rtV fr h true n (fun _ => rfl)
theorem codU16_rt (fr : Bool) (h : Tr AObj) (n : UInt16) : codU16.decV fr h (.sc (.int .u16 n.toNat)) = some n := codU16.rtV fr h true n (fun _ => rfl)
theorem codU8_rt (fr : Bool) (h : Tr AObj) (n : UInt8) : codU8.decV fr h (.sc (.int .u8 n.toNat)) = some n := codU8.rtV fr h true n (fun _ => rfl)
theorem codInt_dec (k : IntKind) (fr : Bool) (h : Tr AObj) (n : Int) : (codInt k).decV fr h (.sc (.int k n)) = some n := (codInt k).rtV fr h true n (fun _ => rfl)
theorem codBool_dec (fr : Bool) (h : Tr AObj) (b : Bool) : codBool.decV fr h (.sc (.bool b)) = some b := codBool.rtV fr h true b (fun _ => rfl)
theorem codStr_dec (fr : Bool) (h : Tr AObj) (s : ByteArray) : codStr.decV fr h (.sc (.string s)) = some s := codStr.rtV fr h true s (fun _ => rfl)
theorem codL_dec {α : Type} (C : Cod α) (fr : Bool) (h : Tr AObj) (a : AV) (h1 : a.known = true) (h2 : a.isAgg = false) (h3 : a.cells = [a]) : (codL C).decV fr h a = decS C fr h a := by
  rw [decV_one _ _ _ _ h1 h2, h3]; rfl
theorem codL_nil {α : Type} (C : Cod α) (fr : Bool) (h : Tr AObj) : (codL C).decV fr h (.sc (.slice none 0 0)) = some [] := codL_dec C fr h _ rfl rfl rfl
theorem codL_vl {α : Type} (C : Cod α) (fr : Bool) (h : Tr AObj) (l : Bool) (xs : List α) (hl : (l || !fr) = true) : (codL C).decV fr h (.vl l C.sz (xs.map (C.val l))) = some xs := by
  refine (codL C).rtV fr h l xs ?_
  cases fr <;> simp_all
theorem flat_cells {α : Type} (C : Cod α) (l : Bool) : ∀ xs : List α, (xs.flatMap (C.cells l)).length = xs.length * C.sz
  | [] => by simp
  | x :: xs => by rw [List.flatMap_cons, List.length_append, C.len, flat_cells C l xs, List.length_cons, Nat.succ_mul, Nat.add_comm]
theorem codL_sl {α : Type} (C : Cod α) (fr : Bool) (h : Tr AObj) (o n : Nat) (xs : List α) (cells : List AV) (k s : Nat) (e : TypeId) (hg : h.get o = some (.row cells k s e)) (hc : cells = xs.flatMap (C.cells true)) (hn : n = xs.length) :
    (codL C).decV fr h (.sl o 0 n C.sz) = some xs := by
  rw [codL_dec C fr h _ rfl rfl rfl]
  subst hc hn
  have hlen := flat_cells C true xs
  simp [decS, hg, decRow, hlen, List.take_of_length_le, decN_flat C fr h true (fun _ => rfl), bleE]
theorem decS_nil {α : Type} (C : Cod α) (fr : Bool) (h : Tr AObj) : decS C fr h (.sc (.slice none 0 0)) = some [] := id rfl
theorem decS_vl {α : Type} (C : Cod α) (fr : Bool) (h : Tr AObj) (l : Bool) (xs : List α) (n : Nat) (hn : n = C.sz) (hl : (l || !fr) = true) : decS C fr h (.vl l n (xs.map (C.val l))) = some xs := by
  subst hn
  have : (codL C).decV fr h (.vl l C.sz (xs.map (C.val l))) = some xs := codL_vl C fr h l xs hl
  rwa [codL_dec C fr h _ rfl rfl rfl] at this
theorem decS_sl {α : Type} (C : Cod α) (fr : Bool) (h : Tr AObj) (o off len n : Nat) : decS C fr h (.sl o off len n) = bif decide (n = C.sz) then (h.get o).bind (decRow C fr h off len) else none := by
  show (bif Nat.beq n C.sz then _ else _) = _
  rw [beqE]
theorem decRow_row {α : Type} (C : Cod α) (fr : Bool) (h : Tr AObj) (off len : Nat) (cells : List AV) (k s : Nat) (e : TypeId) :
    decRow C fr h off len (.row cells k s e) = bif decide (off + len * C.sz ≤ cells.length) then decN C fr h len ((cells.drop off).take (len * C.sz)) else none := by
  show (bif Nat.ble _ _ then _ else _) = _
  rw [bleE]
theorem decN_s {α : Type} (C : Cod α) (fr : Bool) (h : Tr AObj) (n : Nat) (l : List AV) : decN C fr h (n + 1) l = match C.dec fr h (l.take C.sz), decN C fr h n (l.drop C.sz) with | some x, some xs => some (x :: xs) | _, _ => none := id rfl
theorem decN_z {α : Type} (C : Cod α) (fr : Bool) (h : Tr AObj) (l : List AV) : decN C fr h 0 l = some [] := id rfl
theorem codU8_dec1 (fr : Bool) (h : Tr AObj) (n : Int) (h0 : 0 ≤ n) (h1 : n < 256) : codU8.dec fr h [.sc (.int .u8 n)] = some (UInt8.ofNat n.toNat) := by
  show u8V (.int .u8 n) = _; simp [u8V, h0, h1]
theorem r2_E {α β : Type} (A : Cod α) (B : Cod β) (l : Bool) (p : α × β) : (r2 A B).E l p = .tup [A.val l p.1, B.val l p.2] := id rfl
theorem r3_E {α β γ : Type} (A : Cod α) (B : Cod β) (C : Cod γ) (l : Bool) (p : α × β × γ) : (r3 A B C).E l p = .tup [A.val l p.1, B.val l p.2.1, C.val l p.2.2] := id rfl
theorem r1_E {α : Type} (A : Cod α) (l : Bool) (x : α) : (r1 A).E l x = A.val l x := id rfl
theorem callV_sc (T : Tab) (g : Nat) (a b : Array Value) (args : List AV) : callV T (.sc (.func (.func g) a b)) args = callT T g (a.toList.map .sc ++ args ++ b.toList.map .sc) := id rfl
theorem callV_fn (T : Tab) (g : Nat) (a b : List AV) (args : List AV) : callV T (.fn (.func g) a b) args = callT T g (a ++ args ++ b) := id rfl
theorem callT_hit (f : Nat) (b : Bool) (m : List AV → M AV) (T : Tab) (args : List AV) : callT ((f, b, m) :: T) f args = mono (m args) := by simp [callT, Tab.find]
theorem callT_miss (f g : Nat) (b : Bool) (m : List AV → M AV) (T : Tab) (args : List AV) (h : (f == g) = false) : callT ((f, b, m) :: T) g args = callT T g args := by
  have : f ≠ g := by simpa using h
  simp [callT, Tab.find, beq_no this]
theorem pureM_eq {α : Type} (A : AC α) (F : α → Option AV) (args : List AV) (st : St) : pureM A F args st = match A.get .nil args with | some x => (F x).map fun r => (r, st) | none => match A.get st.h args with | some x => (match F x with | some r => bif r.fresh then some (r, st) else none | none => none) | none => none := id rfl
theorem r2_D {α β : Type} (A : Cod α) (B : Cod β) (fr : Bool) (h : Tr AObj) (a b : AV) : (r2 A B).get fr h (.tup [a, b]) = match A.decV fr h a, B.decV fr h b with | some x, some y => some (x, y) | _, _ => none := id rfl
theorem r3_D {α β γ : Type} (A : Cod α) (B : Cod β) (C : Cod γ) (fr : Bool) (h : Tr AObj) (a b c : AV) : (r3 A B C).get fr h (.tup [a, b, c]) = match A.decV fr h a, B.decV fr h b, C.decV fr h c with | some x, some y, some z => some (x, y, z) | _, _, _ => none := id rfl
theorem a0_D (h : Tr AObj) : a0.get h [] = some () := id rfl
theorem aC_D {α β : Type} (C : Cod α) (R : AC β) (h : Tr AObj) (a : AV) (r : List AV) : (aC C R).get h (a :: r) = match C.decV false h a, R.get h r with | some x, some y => some (x, y) | _, _ => none := id rfl
theorem r1_D {α : Type} (A : Cod α) (fr : Bool) (h : Tr AObj) (a : AV) : (r1 A).get fr h a = A.decV fr h a := id rfl
end cods

/-! ### Literals of types: what is built. -/
section
variable (P : Program)
theorem afill_nil (pl : Nat → Option (Nat × Nat)) (cells : List AV) : afill pl cells [] = some cells := id rfl
theorem afill_cons (pl : Nat → Option (Nat × Nat)) (cells : List AV) (i : Nat) (v : AV) (rest : List (Nat × AV)) : afill pl cells ((i, v) :: rest) = match pl i with
    | none => none
    | some (off, size) => bif !v.known || !(Nat.beq v.cells.length size) || !(Nat.ble (off + size) cells.length) then none else afill pl (cells.take off ++ v.cells ++ cells.drop (off + size)) rest := id rfl
/-- A struct's zero cells and the places of its fields. -/
def buildT (t : TypeId) : Option (List AV × List (Nat × Nat)) :=
  match zeroT P t, P.underlying t with
  | some z, some (.struct fields) => (placesT P fields).map fun pl => (z.cells.toList.map .sc, pl)
  | _, _ => none
theorem opBuild_eq (t : TypeId) (ps : List (Nat × AV)) : opBuild P t ps = match buildT P t with
    | some (z, pl) => .of ((afill (fun i => pl[i]?) z ps).map .agg)
    | none => opBuild P t ps := by
  cases hb : buildT P t with
  | none => rfl
  | some q =>
    obtain ⟨z, pl⟩ := q
    simp only [buildT] at hb
    split at hb
    · rename_i z' fs hz hu
      cases hp : placesT P fs with
      | none => simp [hp] at hb
      | some pl' =>
        simp [hp] at hb
        obtain ⟨rfl, rfl⟩ := hb
        simp [opBuild, hz, hu, hp]
    · cases hb
/-- A slice's element, its size and its zero cells. -/
def rowT (t : TypeId) : Option (TypeId × Nat × List AV) :=
  match elemT P t with
  | none => none
  | some e =>
    match sizeT P e, zeroT P e with
    | some sz, some z => bif Nat.beq z.cells.size sz then some (e, sz, z.cells.toList.map .sc) else none
    | _, _ => none
theorem opBuildSlice_eq (t : TypeId) (len : Nat) (ps : List (Nat × AV)) : opBuildSlice P t len ps = match rowT P t with
    | some (e, sz, z) =>
      match afill (fun i => some (i * sz, sz)) (List.replicate len z).flatten ps with
      | some cells => bif Nat.ble (len * sz) 16777216 && Nat.ble len 16777216 then newRowOf e sz len cells else .fail
      | none => .fail
    | none => opBuildSlice P t len ps := by
  cases hb : rowT P t with
  | none => rfl
  | some q =>
    obtain ⟨e, sz, z⟩ := q
    simp only [rowT] at hb
    split at hb
    · cases hb
    · rename_i e' he
      split at hb
      · rename_i sz' z' hs hz
        cases hq : Nat.beq z'.cells.size sz' with
        | false => simp [hq] at hb
        | true =>
          simp [hq] at hb
          obtain ⟨rfl, rfl, rfl⟩ := hb
          simp only [opBuildSlice, he, hs, hz, hq, Bool.and_true]
          rfl
      · cases hb
end
/-! ### Ranges over functions -/
section ranges
variable (P : Program) (T : Tab) (l pin : Nat) (R : Rnd) (Q : QI) (pe : Option Ex) (L : SL) (st : St)
theorem wl_range (f : Operand) (ps : Array Tmp) (a b : Code) (Q : QL) : wl P T pin (.rangeFunc f ps a b) Q L st = RangeL P T f ps.toList (fun p => wl P T p a) (fun p => wl P T p b) pin Q L st := id rfl
theorem wlI_skip : wlI P T l R pin .skip Q pe L st = Q .normal pe L st := id rfl
theorem wlI_label (k : Nat) : wlI P T l R pin (.label k) Q pe L st = Q .normal pe L st := id rfl
theorem wlI_region (i : Nat) (ops : Array Oper) : wlI P T l R pin (.region i ops false) Q pe L st = opsI P T l R pin ops ops.toList (Q .normal) pe L st := id rfl
theorem wlI_draw (i : Nat) (ops : Array Oper) : wlI P T l R pin (.region i ops true) Q pe L st = regionL P T ops true (Q .normal pe) L st := id rfl
theorem wlI_seq (a b : Code) : wlI P T l R pin (.seq a b) Q pe L st = wlI P T l R pin a (seqI (wlI P T l R pin b) Q) pe L st := id rfl
theorem wlI_cond (c : Operand) (a b : Code) : wlI P T l R pin (.cond c a b) Q pe L st = boolI (evL L c) (wlI P T l R pin a Q) (wlI P T l R pin b Q) pe L st := id rfl
theorem wlI_block (i : Nat) (a : Code) : wlI P T l R pin (.block i a) Q pe L st = wlI P T l R pin a (blkI i Q) pe L st := id rfl
theorem wlI_exit (i : Nat) : wlI P T l R pin (.exit i) Q pe L st = Q (.exit i) pe L st := id rfl
theorem wlI_ret : wlI P T l R pin .ret Q pe L st = Q .ret pe L st := id rfl
theorem wlI_loop (b : Code) : wlI P T l R pin (.loop b) Q pe L st = (pe = none ∧ LoopL pin (fun Q' L st => wlI P T l R pin b (headI Q' Q) none L st) (fun _ _ _ => False) L st) := id rfl
theorem seqI_n (W : QI → Option Ex → SL → St → Prop) : seqI W Q .normal pe L st = W Q pe L st := id rfl
theorem seqI_e (W : QI → Option Ex → SL → St → Prop) (i : Nat) : seqI W Q (.exit i) pe L st = Q (.exit i) pe L st := id rfl
theorem seqI_r (W : QI → Option Ex → SL → St → Prop) : seqI W Q .ret pe L st = Q .ret pe L st := id rfl
theorem blkI_n (i : Nat) : blkI i Q .normal pe L st = Q .normal pe L st := id rfl
theorem blkI_r (i : Nat) : blkI i Q .ret pe L st = Q .ret pe L st := id rfl
theorem blkI_e (i j : Nat) : blkI i Q (.exit j) pe L st = if j = i then Q .normal pe L st else Q (.exit j) pe L st := by
  show (bif Nat.beq j i then _ else _) = _
  rw [beqE]; by_cases h : j = i <;> simp [h]
theorem headI_n (Q' : QL) : headI Q' Q .normal pe L st = (pe = none ∧ Q' .normal L st) := id rfl
theorem headI_e (Q' : QL) (i : Nat) : headI Q' Q (.exit i) pe L st = Q (.exit i) pe L st := id rfl
theorem headI_r (Q' : QL) : headI Q' Q .ret pe L st = Q .ret pe L st := id rfl
theorem endI_nn (Q : QL) (L0 : SL) : endI Q L0 .normal none L st = Q .normal L0 st := id rfl
theorem endI_ns (Q : QL) (L0 : SL) (e : Ex) : endI Q L0 .normal (some e) L st = Q e L0 st := id rfl
theorem endI_rn (Q : QL) (L0 : SL) : endI Q L0 .ret none L st = Q .normal L0 st := id rfl
theorem endI_rs (Q : QL) (L0 : SL) (e : Ex) : endI Q L0 .ret (some e) L st = Q e L0 st := id rfl
theorem opsI_nil (ops : Array Oper) (K : Option Ex → SL → St → Prop) : opsI P T l R pin ops [] K pe L st = K pe L st := id rfl
theorem opsI_cons (ops : Array Oper) (o : Oper) (r : List Oper) (K : Option Ex → SL → St → Prop) : opsI P T l R pin ops (o :: r) K pe L st = guardedI ops o.guard (opI P T l R pin o (opsI P T l R pin ops r K)) (opSkipI o.dst (opsI P T l R pin ops r K)) pe L st := id rfl
theorem guardedI_n (ops : Array Oper) (X Y : Option Ex → SL → St → Prop) : guardedI ops none X Y pe L st = X pe L st := id rfl
theorem guardedI_t (ops : Array Oper) (j : Nat) (c : Bool) (X Y : Option Ex → SL → St → Prop) : guardedI ops (some (j, c)) X Y pe L st = guardI (lk L (gslot ops j)) c X Y pe L st := id rfl
theorem guardI_t (b : Bool) (X Y : Option Ex → SL → St → Prop) : guardI (.sc (.bool b)) true X Y pe L st = boolI (.sc (.bool b)) X Y pe L st := by cases b <;> simp [guardI, wantP, wantA, wantV, boolI, boolAV, AV.bool, AV.exact, boolOf]
theorem guardI_f (b : Bool) (X Y : Option Ex → SL → St → Prop) : guardI (.sc (.bool b)) false X Y pe L st = boolI (.sc (.bool b)) Y X pe L st := by cases b <;> simp [guardI, wantP, wantA, wantV, boolI, boolAV, AV.bool, AV.exact, boolOf]
theorem guardI_u (c : Bool) (X Y : Option Ex → SL → St → Prop) : guardI (.sc undef) c X Y pe L st = Y pe L st := by simp [guardI, wantP, wantA, wantV, AV.exact, undef]
theorem boolI_t (X Y : Option Ex → SL → St → Prop) : boolI (.sc (.bool true)) X Y pe L st = X pe L st := by simp [boolI, boolAV, AV.bool, AV.exact, boolOf]
theorem boolI_f (X Y : Option Ex → SL → St → Prop) : boolI (.sc (.bool false)) X Y pe L st = Y pe L st := by simp [boolI, boolAV, AV.bool, AV.exact, boolOf]
theorem boolI_b (b : Bool) (X Y : Option Ex → SL → St → Prop) : boolI (.sc (.bool b)) X Y pe L st = ((b = true → X pe L st) ∧ (b = false → Y pe L st)) := by simp [boolI, boolAV, AV.bool, AV.exact, boolOf]
theorem opSkipI_eq (d : Option Tmp) (K : Option Ex → SL → St → Prop) : opSkipI d K pe L st = K pe (putL d (.sc undef) L) st := id rfl
theorem opI_eq (o : Oper) (K : Option Ex → SL → St → Prop) : opI P T l R pin o K pe L st = opIm P T R pin o K pe L st (yieldOf l o L) := id rfl
theorem opIm_n (o : Oper) (K : Option Ex → SL → St → Prop) : opIm P T R pin o K pe L st none = afterOp (operL P T o (evL L) st) o.dst L (K pe) := id rfl
theorem opIm_s (o : Oper) (K : Option Ex → SL → St → Prop) (args : Array Operand) : opIm P T R pin o K pe L st (some args) = (pe = none ∧ ∃ keep : List Nat, yieldC R (canonO pin keep L st).length args o.dst K (zipK keep (canonV pin keep L st)) (stK (canonO pin keep L st))) := id rfl
theorem afterY_n (d : Option Tmp) (K : Option Ex → SL → St → Prop) : afterY d L K .normal st = K none (putL d (.sc (.bool true)) L) st := id rfl
theorem afterY_r (d : Option Tmp) (K : Option Ex → SL → St → Prop) : afterY d L K .ret st = K (some .ret) (putL d (.sc (.bool false)) L) st := id rfl
theorem afterY_e (d : Option Tmp) (K : Option Ex → SL → St → Prop) (i : Nat) : afterY d L K (.exit i) st = K (some (.exit i)) (putL d (.sc (.bool false)) L) st := id rfl
theorem thenR_n (B : QL → SL → St → Prop) (X : Ex → St → Prop) : thenR B X .normal L st = B (fun e _ st => X e st) L st := id rfl
theorem isYield_y (k : Nat) (va vb : Array Value) : isYield l (.sc (.func (.yield k) va vb)) = (Nat.beq k l && Nat.beq va.size 0 && Nat.beq vb.size 0) := id rfl
theorem isYield_f (k : Nat) (va vb : Array Value) : isYield l (.sc (.func (.func k) va vb)) = false := id rfl
theorem isYield_c (f : Fn) (a b : List AV) : isYield l (.fn f a b) = false := id rfl
theorem putArgs_nil : putArgs [] [] L = L := id rfl
theorem putArgs_cons (t : Nat) (ts : List Nat) (v : AV) (vs : List AV) : putArgs (t :: ts) (v :: vs) L = putArgs ts vs ((t, v) :: L) := id rfl
/-- A yield: what stays, in which names. -/
theorem yield_of {o : Oper} {K : Option Ex → SL → St → Prop} {args : Array Operand} (keep : List Nat) (V : List AV) (O : List (Option AObj)) (hv : canonV pin keep L st = V) (ho : canonO pin keep L st = O)
    (h : R O.length (args.toList.map (evL (zipK keep V))) (afterY o.dst (zipK keep V) K) (stK O)) : opIm P T R pin o K none L st (some args) := ⟨rfl, keep, by rw [hv, ho]; exact h⟩
/-- The statement: what stays, in which names; which iterator. -/
theorem range_of {f : Operand} {ps : List Tmp} {A B : Nat → QL → SL → St → Prop} {Q : QL} (keep : List Nat) (V : List AV) (O : List (Option AObj)) (g : Nat) (caps : List AV) (nt : Nat) (code : Code) (hv : canonV pin keep L st = V) (ho : canonO pin keep L st = O)
    (hf : iterFn (evL (zipK keep V) f) = some (g, caps)) (hb : iterB P g = some (nt, code)) (hp : Nat.ble O.length 1000 = true) (hn : Nat.ble (caps.length + 1) nt = true)
    (h : ∀ l, wlI P T l (roundC ps A B (zipK keep V)) O.length code (endI Q (zipK keep V)) none (argsL 0 (.sc (.func (.yield l) #[] #[]) :: caps)) (stK O)) : RangeL P T f ps A B pin Q L st := by
  refine ⟨keep, ?_⟩
  rw [hv, ho]
  refine ⟨hp, ?_⟩
  rw [hf]
  show rangeW P T ps A B O.length Q (zipK keep V) (stK O) caps (iterB P g)
  rw [hb]
  exact ⟨hn, h⟩
/-- An iterator's loop, by a measure. -/
theorem loopI_of {α : Type} {b : Code} (keep : List Nat) (V : α → List AV) (O : α → List (Option AObj)) (I : α → Prop) (μ : α → Nat) (x : α) (hx : I x) (hR : ∀ p args (X X' : Ex → St → Prop) st, (∀ e st, X e st → X' e st) → R p args X st → R p args X' st)
    (hv : canonV pin keep L st = V x) (ho : canonO pin keep L st = O x)
    (step : ∀ x, I x → wlI P T l R pin b (headI (headQ pin keep (fun vs os => ∃ y, I y ∧ μ y < μ x ∧ vs = V y ∧ os = O y) (fun _ _ _ => False)) Q) none (zipK keep (V x)) (stK (O x))) : wlI P T l R pin (.loop b) Q none L st :=
  ⟨rfl, LoopL.of (B := fun Q' L st => wlI P T l R pin b (headI Q' Q) none L st) keep V O I μ x hx hv ho (fun Q1 Q2 h L st hh => wlI_mono hR b _ _ (fun e pe L st q => by
    cases e with
    | normal => exact ⟨q.1, h _ _ _ q.2⟩
    | ret => exact q
    | exit i => exact q) none L st hh) step⟩
theorem roundC_mono {ps : List Tmp} {a b : Code} {L0 : SL} : ∀ p args (X X' : Ex → St → Prop) st, (∀ e st, X e st → X' e st) → roundC ps (fun p => wl P T p a) (fun p => wl P T p b) L0 p args X st → roundC ps (fun p => wl P T p a) (fun p => wl P T p b) L0 p args X' st :=
  fun p args X X' st hX hr => ⟨hr.1, hr.2.1, wl_mono _ _ _ (fun e L st q => by
    cases e with
    | normal => exact wl_mono _ _ _ (fun e _ st q => hX e st q) _ _ q
    | _ => exact q.elim) _ _ hr.2.2⟩
end ranges
section yields
variable {lp : Nat} {L : SL} {d : Option Tmp} {ty : TypeId} {pos : String} {af : Array Edge} {gd : Option (Nat × Bool)}
theorem yieldOf_move (x) : yieldOf lp ⟨d, .move x, ty, pos, af, gd⟩ L = none := id rfl
theorem yieldOf_assign (x) : yieldOf lp ⟨d, .assign x, ty, pos, af, gd⟩ L = none := id rfl
theorem yieldOf_load (t a) : yieldOf lp ⟨d, .load t a, ty, pos, af, gd⟩ L = none := id rfl
theorem yieldOf_fieldAddr (s x f) : yieldOf lp ⟨d, .fieldAddr s x f, ty, pos, af, gd⟩ L = none := id rfl
theorem yieldOf_binOp (op t x y u) : yieldOf lp ⟨d, .binOp op t x y u, ty, pos, af, gd⟩ L = none := id rfl
theorem yieldOf_pick (c a b) : yieldOf lp ⟨d, .pick c a b, ty, pos, af, gd⟩ L = none := id rfl
theorem yieldOf_store (t a x) : yieldOf lp ⟨d, .store t a x, ty, pos, af, gd⟩ L = none := id rfl
theorem yieldOf_extract (t i) : yieldOf lp ⟨d, .extract t i, ty, pos, af, gd⟩ L = none := id rfl
theorem yieldOf_indexAddr (t x i) : yieldOf lp ⟨d, .indexAddr t x i, ty, pos, af, gd⟩ L = none := id rfl
theorem yieldOf_nilCheck (x) : yieldOf lp ⟨d, .nilCheck x, ty, pos, af, gd⟩ L = none := id rfl
theorem yieldOf_alloc (t) : yieldOf lp ⟨d, .alloc t, ty, pos, af, gd⟩ L = none := id rfl
theorem yieldOf_box (t x) : yieldOf lp ⟨d, .box t x, ty, pos, af, gd⟩ L = none := id rfl
theorem yieldOf_build (t ps) : yieldOf lp ⟨d, .build t ps, ty, pos, af, gd⟩ L = none := id rfl
theorem yieldOf_buildSlice (t n ps) : yieldOf lp ⟨d, .buildSlice t n ps, ty, pos, af, gd⟩ L = none := id rfl
theorem yieldOf_makeSlice (t l c) : yieldOf lp ⟨d, .makeSlice t l c, ty, pos, af, gd⟩ L = none := id rfl
theorem yieldOf_makeMap (t r) : yieldOf lp ⟨d, .makeMap t r, ty, pos, af, gd⟩ L = none := id rfl
theorem yieldOf_makeFunc (f a b) : yieldOf lp ⟨d, .makeFunc f a b, ty, pos, af, gd⟩ L = none := id rfl
theorem yieldOf_convert (s u x) : yieldOf lp ⟨d, .convert s u x, ty, pos, af, gd⟩ L = none := id rfl
theorem yieldOf_field (s x f) : yieldOf lp ⟨d, .field s x f, ty, pos, af, gd⟩ L = none := id rfl
theorem yieldOf_index (t x i) : yieldOf lp ⟨d, .index t x i, ty, pos, af, gd⟩ L = none := id rfl
theorem yieldOf_slice (t x l h m) : yieldOf lp ⟨d, .slice t x l h m, ty, pos, af, gd⟩ L = none := id rfl
theorem yieldOf_lookup (t x i ok) : yieldOf lp ⟨d, .lookup t x i ok, ty, pos, af, gd⟩ L = none := id rfl
theorem yieldOf_mapUpdate (t m k x) : yieldOf lp ⟨d, .mapUpdate t m k x, ty, pos, af, gd⟩ L = none := id rfl
theorem yieldOf_unOp (op t x) : yieldOf lp ⟨d, .unOp op t x, ty, pos, af, gd⟩ L = none := id rfl
theorem yieldOf_len (x ts) : yieldOf lp ⟨d, .call { callee := .builtin .len, args := #[x], argTypes := ts }, ty, pos, af, gd⟩ L = none := id rfl
theorem yieldOf_append (s x ts) : yieldOf lp ⟨d, .call { callee := .builtin .append, args := #[s, x], argTypes := ts }, ty, pos, af, gd⟩ L = none := id rfl
theorem yieldOf_copy (s x ts) : yieldOf lp ⟨d, .call { callee := .builtin .copy, args := #[s, x], argTypes := ts }, ty, pos, af, gd⟩ L = none := id rfl
theorem yieldOf_call (f : Operand) (args : Array Operand) (ts : Array TypeId) : yieldOf lp ⟨d, .call { callee := .value f, args := args, argTypes := ts }, ty, pos, af, gd⟩ L = bif isYield lp (evL L f) then some args else none := id rfl
end yields
end
end Go.Vm
