/- Runs on abstract values: code carried out along its text, calls by a table. Definitions, and what they say of walks. No condition. -/
import Derived.Test.YtnkjblopaagkoaaWlI
import Derived.Test.YtnkjblopaagkoaaWlL
namespace Go.Vm
noncomputable section

/-! ### Calls by a function instead of a list -/
abbrev Look := Nat → Option (Bool × (List AV → M AV))
def topF : Nat := 10000
def callX (look : Look) (f : Nat) (args : List AV) : M AV :=
  bif Nat.blt f topF then
    match look f with
    | some p => mono (p.2 args)
    | none => .fail
  else .fail
def callFnX (look : Look) (g : Fn) (args : List AV) : M AV :=
  match g with
  | .func g => callX look g args
  | _ => .fail
def callVX (look : Look) (f : AV) (args : List AV) : M AV :=
  match f with
  | .fn g first captured => callFnX look g (first ++ args ++ captured)
  | .sc x =>
    match x with
    | .func g first captured => callFnX look g (first.toList.map .sc ++ args ++ captured.toList.map .sc)
    | _ => .fail
  | _ => .fail
def operX (P : Program) (look : Look) (o : Oper) (ρ : Operand → AV) : M AV :=
  match o.op with
  | .call { callee := .value f, args, .. } => callVX look (ρ f) (args.toList.map ρ)
  | _ => mono (aop P o ρ)
/-! ### Names are only added -/
def Grows {α : Type} (m : M α) : Prop := ∀ st a st1, m st = some (a, st1) → st.nx ≤ st1.nx
theorem Grows.pure {α : Type} (a : α) : Grows (M.pure a) := fun st _ st1 h => by cases h; exact Nat.le_refl _
theorem Grows.fail {α : Type} : Grows (M.fail : M α) := fun st _ st1 h => by cases h
theorem Grows.of {α : Type} (a : Option α) : Grows (M.of a) := by cases a; exact Grows.fail; exact Grows.pure _
theorem Grows.cond {α : Type} {b : Bool} {x y : M α} (hx : Grows x) (hy : Grows y) : Grows (bif b then x else y) := by cases b <;> assumption
theorem Grows.bind {α β : Type} {m : M α} {f : α → M β} (hm : Grows m) (hf : ∀ x, Grows (f x)) : Grows (m.bind f) := fun st b st2 h => by
  obtain ⟨x, s1, h1, h2⟩ := bind_some h
  exact Nat.le_trans (hm _ _ _ h1) (hf x _ _ _ h2)
theorem Grows.hget (id : Nat) : Grows (Vm.hget id) := fun st a st1 h => by
  unfold Vm.hget at h
  split at h
  · cases h; exact Nat.le_refl _
  · cases h
theorem Grows.hset (id : Nat) (x : AObj) : Grows (Vm.hset id x) := fun st a st1 h => by
  unfold Vm.hset at h
  split at h
  · cases hb : Nat.ble id limit with
    | true => rw [hb] at h; cases h; exact Nat.le_refl _
    | false => rw [hb] at h; cases h
  · cases h
theorem Grows.hdel (id : Nat) : Grows (Vm.hdel id) := fun st a st1 h => by
  unfold Vm.hdel at h
  split at h
  · cases hb : Nat.ble id limit with
    | true => rw [hb] at h; cases h; exact Nat.le_refl _
    | false => rw [hb] at h; cases h
  · cases h
theorem Grows.hnew (x : AObj) : Grows (Vm.hnew x) := fun st a st1 h => by
  unfold Vm.hnew at h
  cases hb : Nat.ble st.nx limit with
  | true => rw [hb] at h; cases h; exact Nat.le_succ _
  | false => rw [hb] at h; cases h
theorem Grows.mono {α : Type} {m : M α} (h : Grows m) : Vm.mono m = m := by
  funext st
  unfold Vm.mono
  cases hm : m st with
  | none => rfl
  | some p =>
    obtain ⟨a, st1⟩ := p
    simp only
    rw [show Nat.ble st.nx st1.nx = true from Nat.ble_eq_true_of_le (h st a st1 hm)]
    rfl
theorem Grows.cellsIn (sz : Nat) (v : AV) : Grows (Vm.cellsIn sz v) := by
  unfold Vm.cellsIn cellsObj
  repeat' (first | exact Grows.pure _ | exact Grows.fail | exact Grows.hget _ | apply Grows.cond | (refine Grows.bind ?_ fun x => ?_) | split)
theorem Grows.exacts {P : Program} {ρ : Operand → AV} {o : Oper} {l : List Operand} : Grows (opPure P ρ o l) := by unfold opPure; exact Grows.cond (Grows.of _) Grows.fail
theorem Grows.bx {t : TypeId} {x : AV} : Grows (opBox t x) := by
  unfold opBox
  repeat' (first | exact Grows.pure _ | exact Grows.fail | exact Grows.hnew _ | apply Grows.cond | (refine Grows.bind ?_ fun x => ?_) | split)

theorem aop_grows {P : Program} {o : Oper} {ρ : Operand → AV} : Grows (aop P o ρ) := by
  unfold aop
  cases ho : o.op with
  | move x => exact Grows.pure _
  | assign x => exact Grows.pure _
  | load t a =>
    show Grows (opLoad P t (ρ a))
    unfold opLoad loadObj
    repeat' (first | exact Grows.pure _ | exact Grows.fail | exact Grows.of _ | exact Grows.hget _ | (refine Grows.bind ?_ fun x => ?_) | split)
  | fieldAddr s x f =>
    show Grows (opFieldAddr P s (ρ x) f)
    unfold opFieldAddr
    repeat' (first | exact Grows.pure _ | exact Grows.fail | exact Grows.of _ | apply Grows.cond | split)
  | binOp op t x y u =>
    show Grows (opBin P ρ o op t x y)
    have he : ∀ a b, Grows (binElse P ρ o op t a b) := fun a b => by
      unfold binElse eqRef eqPtr eqSlice eqMap eqIfc eqFunc bothPlain yesNo
      repeat' (first | exact Grows.pure _ | exact Grows.fail | exact Grows.of _ | exact Grows.hget _ | apply Grows.cond | (refine Grows.bind ?_ fun x => ?_) | split)
    unfold opBin binVals binInt
    repeat' (first | exact he _ _ | exact Grows.pure _ | exact Grows.fail | exact Grows.of _ | apply Grows.cond | split)
  | pick c a b =>
    show Grows (opPick (ρ c) (ρ a) (ρ b))
    unfold opPick
    repeat' (first | exact Grows.pure _ | exact Grows.fail | split)
  | store t a x =>
    show Grows (opStore P t (ρ a) (ρ x))
    unfold opStore storeObj
    repeat' (first | exact Grows.pure _ | exact Grows.fail | exact Grows.hget _ | exact Grows.hset _ _ | apply Grows.cond | (refine Grows.bind ?_ fun x => ?_) | split)
  | mapUpdate t m k x =>
    show Grows (opUpdate P t (ρ m) (ρ k) (ρ x))
    unfold opUpdate updateObj
    repeat' (first | exact Grows.pure _ | exact Grows.fail | exact Grows.hget _ | exact Grows.hset _ _ | apply Grows.cond | (refine Grows.bind ?_ fun x => ?_) | split)
  | insert t m k x =>
    show Grows (opUpdate P t (ρ m) (ρ k) (ρ x))
    unfold opUpdate updateObj
    repeat' (first | exact Grows.pure _ | exact Grows.fail | exact Grows.hget _ | exact Grows.hset _ _ | apply Grows.cond | (refine Grows.bind ?_ fun x => ?_) | split)
  | extract t ix =>
    show Grows (opExtract (ρ t) ix)
    unfold opExtract
    repeat' (first | exact Grows.pure _ | exact Grows.fail | exact Grows.of _ | split)
  | indexAddr t x ix =>
    show Grows (opIndexAddr P t (ρ x) (ρ ix))
    unfold opIndexAddr indexIn
    repeat' (first | exact Grows.pure _ | exact Grows.fail | exact Grows.of _ | apply Grows.cond | split)
  | nilCheck x =>
    show Grows (opNilCheck (ρ x))
    unfold opNilCheck
    repeat' (first | exact Grows.pure _ | exact Grows.fail | split)
  | alloc t =>
    show Grows (opAlloc P t)
    unfold opAlloc
    split
    · exact Grows.fail
    · exact Grows.bx
  | box t x => exact Grows.bx
  | build t ps =>
    show Grows (opBuild P t _)
    unfold opBuild
    repeat' (first | exact Grows.pure _ | exact Grows.fail | exact Grows.of _ | split)
  | buildSlice t len ps =>
    show Grows (opBuildSlice P t len _)
    unfold opBuildSlice newRowOf
    repeat' (first | exact Grows.hnew _ | exact Grows.pure _ | exact Grows.fail | exact Grows.of _ | apply Grows.cond | (refine Grows.bind ?_ fun x => ?_) | split)
  | makeSlice t l c =>
    show Grows (opMakeSlice P t (ρ l) (ρ c))
    unfold opMakeSlice newRowOf
    repeat' (first | exact Grows.hnew _ | exact Grows.pure _ | exact Grows.fail | exact Grows.of _ | apply Grows.cond | (refine Grows.bind ?_ fun x => ?_) | split)
  | makeMap t r =>
    show Grows (opMakeMap r)
    unfold opMakeMap
    repeat' (first | exact Grows.hnew _ | exact Grows.pure _ | exact Grows.fail | (refine Grows.bind ?_ fun x => ?_) | split)
  | makeFunc f a b => exact Grows.pure _
  | convert src dst x =>
    show Grows (opConvert P ρ o src dst (ρ x))
    have he : Grows (convElse P ρ o (ρ x)) := by unfold convElse; split; exact Grows.of _; exact Grows.fail
    unfold opConvert convKinds
    repeat' (first | exact he | exact Grows.fail | split)
    · unfold convSB; repeat' (first | exact Grows.hnew _ | exact Grows.pure _ | exact Grows.fail | apply Grows.cond | (refine Grows.bind ?_ fun x => ?_) | split)
    · unfold convBS bytesStr; repeat' (first | exact Grows.cellsIn _ _ | exact Grows.pure _ | exact Grows.fail | apply Grows.cond | (refine Grows.bind ?_ fun x => ?_) | split)
    · unfold convUP ofUnsafe; repeat' (first | exact Grows.hget _ | exact Grows.pure _ | exact Grows.fail | apply Grows.cond | (refine Grows.bind ?_ fun x => ?_) | split)
    · unfold convPU toUnsafe; repeat' (first | exact Grows.hget _ | exact Grows.pure _ | exact Grows.fail | apply Grows.cond | (refine Grows.bind ?_ fun x => ?_) | split)
    · unfold convInt; repeat' (first | exact Grows.pure _ | exact Grows.fail | split)
  | makeInterface t x =>
    show Grows (opMakeInterface P t (ρ x))
    unfold opMakeInterface
    repeat' (first | exact Grows.pure _ | exact Grows.fail | split)
  | field s x f =>
    show Grows (opField P s (ρ x) f)
    unfold opField
    repeat' (first | exact Grows.pure _ | exact Grows.fail | exact Grows.of _ | split)
  | index t x ix =>
    show Grows (opIndex P ρ o t x ix)
    unfold opIndex
    repeat' (first | exact Grows.exacts | exact Grows.pure _ | exact Grows.fail | exact Grows.of _ | apply Grows.cond | split)
  | slice t x lo hi mx =>
    show Grows (opSlice P ρ o t x lo hi mx)
    unfold opSlice sliceArr
    repeat' (first | exact Grows.exacts | exact Grows.hget _ | exact Grows.pure _ | exact Grows.fail | exact Grows.of _ | apply Grows.cond | (refine Grows.bind ?_ fun x => ?_) | split)
  | lookup t x ix ok =>
    show Grows (opLookup P t (ρ x) (ρ ix) ok)
    unfold opLookup lookupObj found
    repeat' (first | exact Grows.hget _ | exact Grows.pure _ | exact Grows.fail | exact Grows.of _ | apply Grows.cond | (refine Grows.bind ?_ fun x => ?_) | split)
  | typeAssert x t a ok =>
    show Grows (opTypeAssert P ρ o (ρ x) a ok)
    unfold opTypeAssert
    repeat' (first | exact Grows.pure _ | exact Grows.fail | exact Grows.of _ | apply Grows.cond | split)
  | unOp op t x => exact Grows.exacts
  | call c =>
    obtain ⟨callee, args, ts⟩ := c
    cases callee with
    | value f => exact Grows.fail
    | invoke r m => exact Grows.fail
    | builtin b =>
      show Grows (opBuiltin P ρ o b args.toList ts)
      unfold opBuiltin
      split <;> first | exact Grows.fail | exact Grows.exacts | skip
      · unfold opLen lenObj
        repeat' (first | exact Grows.hget _ | exact Grows.pure _ | exact Grows.fail | (refine Grows.bind ?_ fun x => ?_) | split)
      · have ha : ∀ e sz bytes s new, Grows (aappend e sz bytes s new) := fun e sz bytes s new => by
          unfold aappend appendObj newRowOf
          repeat' (first | exact Grows.hget _ | exact Grows.hnew _ | exact Grows.hdel _ | exact Grows.pure _ | exact Grows.fail | apply Grows.cond | (refine Grows.bind ?_ fun x => ?_) | split)
        unfold opAppend
        repeat' (first | exact ha _ _ _ _ _ | exact Grows.cellsIn _ _ | exact Grows.pure _ | exact Grows.fail | apply Grows.cond | (refine Grows.bind ?_ fun x => ?_) | split)
      · unfold opCopy copyObj
        repeat' (first | exact Grows.hget _ | exact Grows.hset _ _ | exact Grows.cellsIn _ _ | exact Grows.pure _ | exact Grows.fail | apply Grows.cond | (refine Grows.bind ?_ fun x => ?_) | split)
      · unfold opDelete deleteObj
        repeat' (first | exact Grows.hget _ | exact Grows.hset _ _ | exact Grows.pure _ | exact Grows.fail | apply Grows.cond | (refine Grows.bind ?_ fun x => ?_) | split)
      · unfold opCap
        repeat' (first | exact Grows.pure _ | exact Grows.fail | split)
      · unfold opSliceData
        repeat' (first | exact Grows.pure _ | exact Grows.fail | apply Grows.cond | split)
      · unfold opUnsafeString stringObj
        repeat' (first | exact Grows.hget _ | exact Grows.hset _ _ | exact Grows.pure _ | exact Grows.fail | apply Grows.cond | (refine Grows.bind ?_ fun x => ?_) | split)
  | _ => exact Grows.fail

/-- An operation, made ready: what it is is asked once. -/
structure XA where
  run : Look → (Operand → AV) → M AV
def prepB (P : Program) (o : Oper) (op : BinOp) (t : TypeId) (x y : Operand) : XA := ⟨fun _ ρ => opBin P ρ o op t x y⟩
def prepU (P : Program) (o : Oper) (b : Builtin) (args : List Operand) (ts : Array TypeId) : XA :=
  match b, args with
  | .len, [x] => ⟨fun _ ρ => (opLen ((ts[0]?).bind P.underlying) (ρ x))⟩
  | .append, [s, x] => ⟨fun _ ρ => (opAppend P ts[0]? ((ts[1]?).bind P.underlying) (ρ s) (ρ x))⟩
  | .copy, [d, x] => ⟨fun _ ρ => (opCopy P ts[0]? (ρ d) (ρ x))⟩
  | .delete, [m, k] => ⟨fun _ ρ => (opDelete P ((ts[0]?).bind P.underlying) (ρ m) (ρ k))⟩
  | .cap, [x] => ⟨fun _ ρ => (opCap ((ts[0]?).bind P.underlying) (ρ x))⟩
  | .unsafeSliceData, [x] => ⟨fun _ ρ => (opSliceData (ρ x))⟩
  | .unsafeString, [x, y] => ⟨fun _ ρ => (opUnsafeString P ts[0]? (ρ x) (ρ y))⟩
  | .min, l => ⟨fun _ ρ => (opPure P ρ o l)⟩
  | .max, l => ⟨fun _ ρ => (opPure P ρ o l)⟩
  | _, _ => ⟨fun _ _ => .fail⟩
def prepA (P : Program) (o : Oper) : XA :=
  match o.op with
  | .move x => ⟨fun _ ρ => (.pure (ρ x))⟩
  | .assign x => ⟨fun _ ρ => (.pure (ρ x))⟩
  | .load t a => ⟨fun _ ρ => (opLoad P t (ρ a))⟩
  | .fieldAddr s x f => ⟨fun _ ρ => (opFieldAddr P s (ρ x) f)⟩
  | .binOp op t x y _ => prepB P o op t x y
  | .pick c a b => ⟨fun _ ρ => (opPick (ρ c) (ρ a) (ρ b))⟩
  | .store t a x => ⟨fun _ ρ => (opStore P t (ρ a) (ρ x))⟩
  | .extract t ix => ⟨fun _ ρ => (opExtract (ρ t) ix)⟩
  | .call { callee := .value f, args, .. } => ⟨fun look ρ => callVX look (ρ f) (args.toList.map ρ)⟩
  | .call { callee := .builtin b, args, argTypes } => prepU P o b args.toList argTypes
  | .indexAddr t x ix => ⟨fun _ ρ => (opIndexAddr P t (ρ x) (ρ ix))⟩
  | .nilCheck x => ⟨fun _ ρ => (opNilCheck (ρ x))⟩
  | .alloc t => ⟨fun _ _ => (opAlloc P t)⟩
  | .box t x => ⟨fun _ ρ => (opBox t (ρ x))⟩
  | .build t parts => ⟨fun _ ρ => (opBuild P t (parts.toList.map fun p => (p.1, ρ p.2)))⟩
  | .buildSlice t len parts => ⟨fun _ ρ => (opBuildSlice P t len (parts.toList.map fun p => (p.1, ρ p.2)))⟩
  | .makeSlice t l c => ⟨fun _ ρ => (opMakeSlice P t (ρ l) (ρ c))⟩
  | .makeMap _ r => ⟨fun _ _ => (opMakeMap r)⟩
  | .makeFunc f first captured => ⟨fun _ ρ => (.pure (.fn f (first.toList.map ρ) (captured.toList.map ρ)))⟩
  | .convert src dst x => ⟨fun _ ρ => (opConvert P ρ o src dst (ρ x))⟩
  | .makeInterface t x => ⟨fun _ ρ => (opMakeInterface P t (ρ x))⟩
  | .field s x f => ⟨fun _ ρ => (opField P s (ρ x) f)⟩
  | .index t x ix => ⟨fun _ ρ => (opIndex P ρ o t x ix)⟩
  | .slice t x lo hi mx => ⟨fun _ ρ => (opSlice P ρ o t x lo hi mx)⟩
  | .lookup t x ix ok => ⟨fun _ ρ => (opLookup P t (ρ x) (ρ ix) ok)⟩
  | .mapUpdate t m k x | .insert t m k x => ⟨fun _ ρ => (opUpdate P t (ρ m) (ρ k) (ρ x))⟩
  | .typeAssert x _ asserted ok => ⟨fun _ ρ => (opTypeAssert P ρ o (ρ x) asserted ok)⟩
  | .unOp _ _ x => ⟨fun _ ρ => (opPure P ρ o [x])⟩
  | _ => ⟨fun _ _ => .fail⟩
theorem prepA_eq (P : Program) (look : Look) (o : Oper) (ρ : Operand → AV) : (prepA P o).run look ρ = operX P look o ρ := by
  have key : ∀ (h : ∀ f args ts, o.op ≠ .call { callee := .value f, args, argTypes := ts }), (prepA P o).run look ρ = aop P o ρ := by
    intro h
    unfold prepA aop
    cases ho : o.op with
    | call c =>
      obtain ⟨callee, args, ts⟩ := c
      cases callee with
      | builtin b =>
        dsimp only
        unfold prepU opBuiltin
        generalize args.toList = l
        cases b <;> rcases l with _ | ⟨x, _ | ⟨y, _ | ⟨z, l⟩⟩⟩ <;> rfl
      | value f => exact (h f args ts ho).elim
      | _ => rfl
    | _ => rfl
  unfold operX
  split
  · rename_i f args ts ho
    unfold prepA
    rw [ho]
  · rename_i hn
    rw [aop_grows.mono]
    exact key hn
def tabOf (look : Look) : Nat → Tab
  | 0 => []
  | n + 1 =>
    match look n with
    | some p => (n, p.1, p.2) :: tabOf look n
    | none => tabOf look n
theorem tabOf_find (look : Look) (f : Nat) : ∀ n, (tabOf look n).find f = if f < n then look f else none
  | 0 => by simp [tabOf, Tab.find]
  | n + 1 => by
    rw [tabOf]
    cases hl : look n with
    | some p =>
      simp only [Tab.find]
      by_cases e : n = f
      · subst e; simp [hl]
      · rw [beq_no e, cond_false, tabOf_find look f n]
        by_cases h : f < n
        · rw [if_pos h, if_pos (by omega)]
        · rw [if_neg h, if_neg (by omega)]
    | none =>
      simp only
      rw [tabOf_find look f n]
      by_cases h : f < n
      · rw [if_pos h, if_pos (by omega)]
      · rw [if_neg h]
        by_cases e : f = n
        · subst e; rw [if_pos (by omega), hl]
        · rw [if_neg (by omega)]
def tabX (look : Look) : Tab := tabOf look topF
theorem find_tabX (look : Look) (f : Nat) : (tabX look).find f = bif Nat.blt f topF then look f else none := by
  rw [tabX, tabOf_find]
  by_cases h : f < topF
  · rw [if_pos h, show Nat.blt f topF = true from by simpa using h]; rfl
  · rw [if_neg h, show Nat.blt f topF = false from by cases hb : Nat.blt f topF with | false => rfl | true => exact (h (by simpa using hb)).elim]; rfl
theorem callX_eq (look : Look) : callX look = callT (tabX look) := by
  funext f args
  unfold callX callT
  rw [find_tabX]
  cases Nat.blt f topF with
  | false => rfl
  | true => cases look f <;> rfl
theorem operX_eq (P : Program) (look : Look) : operX P look = operL P (tabX look) := by
  have h1 : callFnX look = callFn (tabX look) := by funext g args; unfold callFnX callFn; rw [callX_eq]; rfl
  have h2 : callVX look = callV (tabX look) := by funext f args; unfold callVX callV; rw [h1]; rfl
  funext o ρ
  unfold operX operL
  rw [h2]
  rfl

/-! ### Operations -/
def xone (P : Program) (look : Look) (ops : Array Oper) (o : Oper) (L : SL) (st : St) : Option (SL × St) :=
  match gval ops L o with
  | some true =>
    match (prepA P o).run look (evL L) st with
    | some (v, st') => some (putL o.dst v L, st')
    | none => none
  | some false => some (putL o.dst (.sc undef) L, st)
  | none => none
structure XO where
  run : Look → SL → St → Option (SL × St)
def prepV (P : Program) (o : Oper) (d : Nat) : XO :=
  match o.op with
  | .move x => ⟨fun _ L st => some ((d, evL L x) :: L, st)⟩
  | .assign x => ⟨fun _ L st => some ((d, evL L x) :: L, st)⟩
  | _ => ⟨fun look L st => Option.rec (motive := fun _ => Option (SL × St)) none (fun p => some ((d, p.1) :: L, p.2)) ((prepA P o).run look (evL L) st)⟩
def prepO (P : Program) (ops : Array Oper) (o : Oper) : XO :=
  match o.guard with
  | none =>
    match o.dst with
    | some d => prepV P o d
    | none => ⟨fun look L st => Option.rec (motive := fun _ => Option (SL × St)) none (fun p => some (L, p.2)) ((prepA P o).run look (evL L) st)⟩
  | some _ => ⟨fun look L st => xone P look ops o L st⟩
theorem prepO_eq (P : Program) (look : Look) (ops : Array Oper) (o : Oper) (L : SL) (st : St) : (prepO P ops o).run look L st = xone P look ops o L st := by
  unfold prepO
  cases hg : o.guard with
  | some q => rfl
  | none =>
    have hx : xone P look ops o L st = match (prepA P o).run look (evL L) st with
        | some (v, st') => some (putL o.dst v L, st')
        | none => none := by
      unfold xone gval
      rw [hg]
    rw [hx]
    cases hd : o.dst with
    | none =>
      show Option.rec (motive := fun _ => Option (SL × St)) none (fun p => some (L, p.2)) ((prepA P o).run look (evL L) st) = _
      cases (prepA P o).run look (evL L) st <;> rfl
    | some d =>
      show (prepV P o d).run look L st = _
      unfold prepV
      cases ho : o.op with
      | move x => rw [show (prepA P o).run look (evL L) st = some (evL L x, st) from by unfold prepA; rw [ho]; rfl]; rfl
      | assign x => rw [show (prepA P o).run look (evL L) st = some (evL L x, st) from by unfold prepA; rw [ho]; rfl]; rfl
      | _ =>
        show Option.rec (motive := fun _ => Option (SL × St)) none (fun p => some ((d, p.1) :: L, p.2)) ((prepA P o).run look (evL L) st) = _
        cases (prepA P o).run look (evL L) st <;> rfl
theorem prepO_ok {P look ops o L st r} (h : (prepO P ops o).run look L st = some r) : xone P look ops o L st = some r := by rw [← prepO_eq]; exact h
def prepOs (P : Program) (ops : Array Oper) (l : List Oper) : XO :=
  List.rec (motive := fun _ => XO) ⟨fun _ L st => some (L, st)⟩ (fun o _ ih => ⟨fun look L st =>
    Option.rec (motive := fun _ => Option (SL × St)) none (fun p => ih.run look p.1 p.2) ((prepO P ops o).run look L st)⟩) l

theorem prepOs_cons (P : Program) (look : Look) (ops : Array Oper) (o : Oper) (l : List Oper) (L : SL) (st : St) : (prepOs P ops (o :: l)).run look L st = (match (prepO P ops o).run look L st with | some p => (prepOs P ops l).run look p.1 p.2 | none => none) := by
  show Option.rec (motive := fun _ => Option (SL × St)) none (fun p => (prepOs P ops l).run look p.1 p.2) ((prepO P ops o).run look L st) = _
  cases (prepO P ops o).run look L st <;> rfl
theorem guarded_of {ops : Array Oper} {L : SL} {o : Oper} {x y : Prop} {b : Bool} (h : gval ops L o = some b) (hx : b = true → x) (hy : b = false → y) : guarded ops L o.guard x y := by
  unfold gval at h
  unfold guarded
  cases hg : o.guard with
  | none => rw [hg] at h; cases h; exact hx rfl
  | some q =>
    obtain ⟨j, c⟩ := q
    rw [hg] at h
    simp only at h ⊢
    rw [h]
    exact ⟨hx, hy⟩
theorem prepOs_ok {P : Program} {look : Look} {ops : Array Oper} {K : SL → St → Prop} : ∀ (l : List Oper) (L : SL) (st : St) (p : SL × St), (prepOs P ops l).run look L st = some p → K p.1 p.2 → opsL P (tabX look) ops l K L st := by
  intro l
  induction l with
  | nil => intro L st p h hk; cases h; exact hk
  | cons o l ih =>
    intro L st p h hk
    rw [prepOs_cons] at h
    cases h1 : (prepO P ops o).run look L st with
    | none => rw [h1] at h; cases h
    | some q =>
      rw [h1] at h
      have h2 := prepO_ok h1
      unfold xone at h2
      show guarded ops L o.guard _ _
      cases hb : gval ops L o with
      | none => rw [hb] at h2; cases h2
      | some b =>
        rw [hb] at h2
        refine guarded_of hb (fun e => ?_) (fun e => ?_)
        · subst e
          simp only at h2
          show afterE (operL P (tabX look) o (evL L) st) P o L st _
          rw [prepA_eq, operX_eq] at h2
          cases h3 : operL P (tabX look) o (evL L) st with
          | none => rw [h3] at h2; cases h2
          | some r =>
            obtain ⟨v, st'⟩ := r
            rw [h3] at h2
            cases h2
            exact ih _ _ p h hk
        · subst e
          simp only at h2
          cases h2
          exact ih _ _ p h hk
/-- Slots that are not written stay. -/
theorem prepOs_lk {P : Program} {look : Look} {ops : Array Oper} {t : Nat} : ∀ (l : List Oper) (L : SL) (st : St) (p : SL × St), (prepOs P ops l).run look L st = some p → (∀ o ∈ l, o.dst ≠ some t) → lk p.1 t = lk L t := by
  intro l
  induction l with
  | nil => intro L st p h _; cases h; rfl
  | cons o l ih =>
    intro L st p h hn
    rw [prepOs_cons] at h
    cases h1 : (prepO P ops o).run look L st with
    | none => rw [h1] at h; cases h
    | some q =>
      rw [h1] at h
      rw [ih _ _ p h (fun o ho => hn o (by simp [ho]))]
      have h2 := prepO_ok h1
      have hq : ∃ v, q.1 = putL o.dst v L := by
        unfold xone at h2
        split at h2
        · split at h2
          · cases h2; exact ⟨_, rfl⟩
          · cases h2
        · cases h2; exact ⟨_, rfl⟩
        · cases h2
      obtain ⟨v, hv⟩ := hq
      rw [hv, lk_put, if_neg (hn o (by simp))]

/-! ### Slots: sets of them as numbers -/
def hasB (s t : Nat) : Bool := Nat.beq (Nat.land (Nat.shiftRight s t) 1) 1
def addB (s t : Nat) : Nat := Nat.lor s (Nat.shiftLeft 1 t)
def keepL (ks : List Nat) (L L0 : SL) : SL := List.rec (motive := fun _ => SL) L0 (fun t _ ih => (t, lk L t) :: ih) ks
theorem keepL_lk (L L0 : SL) (t : Nat) : ∀ ks, lk (keepL ks L L0) t = if t ∈ ks then lk L t else lk L0 t
  | [] => by simp [keepL]
  | k :: ks => by
    show lk ((k, lk L k) :: keepL ks L L0) t = _
    rw [lk_cons, keepL_lk L L0 t ks]
    by_cases e : k = t
    · subst e; simp
    · rw [if_neg e]
      simp only [List.mem_cons, Ne.symm e, false_or]
def pruneL (L : SL) : Nat → SL := List.rec (motive := fun _ => Nat → SL) (fun _ => []) (fun p _ ih s => Bool.rec (motive := fun _ => SL) (p :: ih (addB s p.1)) (ih s) (hasB s p.1)) L
theorem hasB_addB (s t u : Nat) : hasB (addB s t) u = (hasB s u || decide (t = u)) := by
  have key : ∀ s u, hasB s u = s.testBit u := by
    intro s u
    unfold hasB
    rw [Nat.testBit]
    show Nat.beq ((s >>> u) &&& 1) 1 = _
    rw [Nat.and_comm]
    have : 1 &&& (s >>> u) < 2 := Nat.lt_of_le_of_lt Nat.and_le_left (by omega)
    rcases (by omega : 1 &&& (s >>> u) = 0 ∨ 1 &&& (s >>> u) = 1) with h | h <;> rw [h] <;> rfl
  rw [key, key]
  show (s ||| (1 <<< t)).testBit u = _
  rw [Nat.testBit_or, Nat.shiftLeft_eq, Nat.one_mul, Nat.testBit_two_pow]
theorem pruneL_lk (t : Nat) : ∀ (L : SL) (s : Nat), lk (pruneL L s) t = bif hasB s t then .bad else lk L t
  | [], s => by cases h : hasB s t <;> rfl
  | p :: L, s => by
    obtain ⟨k, v⟩ := p
    show lk (Bool.rec (motive := fun _ => SL) ((k, v) :: pruneL L (addB s k)) (pruneL L s) (hasB s k)) t = _
    rw [lk_cons]
    cases hk : hasB s k with
    | true =>
      show lk (pruneL L s) t = _
      rw [pruneL_lk t L s]
      by_cases e : k = t
      · subst e; rw [hk]; rfl
      · rw [if_neg e]
    | false =>
      show lk ((k, v) :: pruneL L (addB s k)) t = _
      rw [lk_cons, pruneL_lk t L, hasB_addB]
      by_cases e : k = t
      · subst e; rw [if_pos rfl, if_pos rfl, hk]; rfl
      · rw [if_neg e, if_neg e, decide_eq_false e, Bool.or_false]

/-- Slots of which less is known. -/
def Less (L' L : SL) : Prop := ∀ t, lk L' t = lk L t ∨ lk L' t = .bad
theorem RelSL.less {g w nt L L' tmps} (h : RelSL g w nt L tmps) (hl : Less L' L) : RelSL g w nt L' tmps :=
  ⟨h.1, fun t => by rcases hl t with e | e <;> rw [e]; exact h.2 t; exact .bad _⟩
/-- Only these slots are known. -/
def Within (ex : Nat) (L : SL) : Prop := ∀ t, hasB ex t = false → lk L t = .bad

/-! ### Regions -/
def keysOf (ex : Nat) (ops : Array Oper) : List Nat := (ops.toList.filterMap (·.dst)).filter (hasB ex)
theorem region_less {ex : Nat} {ops : Array Oper} {L L0 : SL} (hw : Within ex L0) (hlk : ∀ t, (∀ o ∈ ops.toList, o.dst ≠ some t) → lk L t = lk L0 t) : Less (keepL (keysOf ex ops) L L0) L ∧ Within ex (keepL (keysOf ex ops) L L0) := by
  have hm : ∀ t, t ∈ keysOf ex ops ↔ (∃ o ∈ ops.toList, o.dst = some t) ∧ hasB ex t = true := by
    intro t; simp [keysOf, List.mem_filter, List.mem_filterMap]
  refine ⟨fun t => ?_, fun t ht => ?_⟩
  · rw [keepL_lk]
    by_cases h : t ∈ keysOf ex ops
    · rw [if_pos h]; exact .inl rfl
    · rw [if_neg h]
      cases hx : hasB ex t with
      | false => exact .inr (hw t hx)
      | true =>
        refine .inl (hlk t fun o ho e => h ((hm t).2 ⟨⟨o, ho, e⟩, hx⟩)).symm
  · rw [keepL_lk, if_neg (fun h => by have := ((hm t).1 h).2; rw [ht] at this; cases this)]
    exact hw t ht

/-- A computation with what it reads and writes. -/
def logged {α : Type} (m : M α) : M (α × List Nat × List Nat) := fun st =>
  match m { h := st.h, nx := st.nx, rl := [], wl := [] } with
  | some p => some ((p.1, p.2.rl, p.2.wl), { h := p.2.h, nx := p.2.nx, rl := p.2.rl ++ st.rl, wl := p.2.wl ++ st.wl })
  | none => none
def xdraw (P : Program) (look : Look) (ops : Array Oper) (l : List Oper) : List Rec → SL → St → Option (List Rec × SL × St) :=
  List.rec (motive := fun _ => List Rec → SL → St → Option (List Rec × SL × St)) (fun recs L st => some (recs, L, st)) (fun o _ ih recs L st =>
    match gvalY ops L o with
    | some true =>
      match logged ((prepA P o).run look (onlyOf o L)) st with
      | some p => bif Nat.ble p.2.nx limit then ih (recs ++ [⟨p.1.2.1, p.1.2.2⟩]) (putL o.dst p.1.1 L) p.2 else none
      | none => none
    | some false => ih (recs ++ [⟨[], []⟩]) (putL o.dst (.sc undef) L) st
    | none => none) l

/-! ### Maps that are written out -/
def usesTmp (o : Oper) (u : Nat) : Bool := o.op.operands.any fun x => match x with | .tmp t => Nat.beq t u | _ => false
def lateOk (ops : Array Oper) (i : Nat) (o : Oper) : Bool := ops.toList.zipIdx.all fun r => Nat.blt r.2 i || (match r.1.dst with | some d => !(usesTmp o d) | none => true)
def isMp (p : Nat) (a : AV) : Bool := match a with | .mp q => Nat.beq q p | _ => false
def litAt (P : Program) (ops : Array Oper) (L : SL) (p k0 i : Nat) (o : Oper) : Option Lit :=
  match o.op, o.dst, o.guard with
  | .insert t m k x, none, none =>
    match P.underlying t with
    | some (.map kt _) =>
      match P.underlying kt, (evL L k).toV with
      | some d, some key =>
        match ev P (Instr.checkKey false 10000 kt key) with
        | some _ => bif (isMp p (evL L m) && ((Region.before ops).getD i 0).testBit k0) && lateOk ops i o then some ⟨i, d, (key, evL L x)⟩ else none
        | none => none
      | _, _ => none
    | _ => none
  | _, _, _ => none
def litsL (f : Nat → Oper → Option Lit) : List Oper → Nat → Option (List Lit)
  | [], _ => some []
  | o :: r, i =>
    bif isIns o then
      match f i o, litsL f r (i + 1) with
      | some q, some l => some (q :: l)
      | _, _ => none
    else litsL f r (i + 1)
def isFalse (b : Option Bool) : Bool := match b with | some false => true | _ => false
def litsB (ops : Array Oper) (recs : List Rec) (p k0 : Nat) (lits : List Lit) : Bool :=
  (lits.all (fun q => lits.all fun r => Nat.beq q.i r.i || (apartV q.e.1 r.e.1 && isFalse (Instr.sameNow q.d q.e.1 r.e.1))) && Nat.ble p limit) &&
  ((recs.zipIdx.all fun r => Nat.beq r.2 k0 || (!(memN p r.1.R) && !(memN p r.1.W))) && (match ops[k0]? with | some o => !(isIns o) | none => false))
def whoW (p : Nat) : List Rec → Nat → Option Nat
  | [], _ => none
  | a :: r, i => bif memN p a.W then some i else whoW p r (i + 1)
def anyIns (l : List Oper) : Option Oper := List.rec (motive := fun _ => Option Oper) none (fun o _ ih => bif isIns o then some o else ih) l
def litPut (p : Nat) (lits : List Lit) (x : AObj) : M Unit :=
  match x with
  | .map [] => hset p (.map (lits.map (·.e)))
  | _ => M.fail
def litMap (P : Program) (ops : Array Oper) (recs : List Rec) (L : SL) (p : Nat) : M Unit :=
  match whoW p recs 0 with
  | some k0 =>
    match litsL (litAt P ops L p k0) ops.toList 0 with
    | some lits => bif litsB ops recs p k0 lits then (hget p).bind (litPut p lits) else M.fail
    | none => M.fail
  | none => M.fail
def litRun (P : Program) (ops : Array Oper) (recs : List Rec) (L : SL) : M Unit :=
  match anyIns ops.toList with
  | none => M.pure ()
  | some o =>
    match o.op with
    | .insert _ m _ _ =>
      match evL L m with
      | .mp p => litMap P ops recs L p
      | _ => M.fail
    | _ => M.fail

end
end Go.Vm
