/- Walks on abstract values: what is to be shown of a piece of code, reckoned along its text. Definitions only; no condition. -/
import Derived.Test.YtnkjblopaagkoaaVmX
namespace Go.Vm
noncomputable section

/-- Slots, the last written first. -/
abbrev SL := List (Nat × AV)
noncomputable def lk (L : SL) (t : Nat) : AV := List.rec (motive := fun _ => AV) .bad (fun p _ ih => Bool.rec (motive := fun _ => AV) ih p.2 (Nat.beq p.1 t)) L
def evL (L : SL) (x : Operand) : AV :=
  Operand.rec (motive := fun _ => AV) (fun t => lk L t) (fun v => .sc v) (fun g => .sc (.pointer (some ⟨g, 0, none⟩))) (fun f => .sc (.func (.func f) #[] #[])) x
abbrev QL := Ex → SL → St → Prop
def putL (d : Option Tmp) (v : AV) (L : SL) : SL :=
  match d with
  | none => L
  | some d => (d, v) :: L

/-- What calls compute: a function, whether it leaves memory alone, what it comes to. -/
abbrev Tab := List (Nat × Bool × (List AV → M AV))
def Tab.find : Tab → Nat → Option (Bool × (List AV → M AV))
  | [], _ => none
  | (g, m) :: r, f => bif Nat.beq g f then some m else Tab.find r f
def callT (T : Tab) (f : Nat) (args : List AV) : M AV :=
  match T.find f with
  | some (_, m) => mono (m args)
  | none => .fail
def callFn (T : Tab) (g : Fn) (args : List AV) : M AV :=
  match g with
  | .func g => callT T g args
  | _ => .fail
def callV (T : Tab) (f : AV) (args : List AV) : M AV :=
  match f with
  | .fn g first captured => callFn T g (first ++ args ++ captured)
  | .sc x =>
    match x with
    | .func g first captured => callFn T g (first.toList.map .sc ++ args ++ captured.toList.map .sc)
    | _ => .fail
  | _ => .fail
def operL (P : Program) (T : Tab) (o : Oper) (ρ : Operand → AV) : M AV :=
  match o.op with
  | .call { callee := .value f, args, .. } => callV T (ρ f) (args.toList.map ρ)
  | _ => mono (aop P o ρ)

def afterOp (r : Option (AV × St)) (d : Option Tmp) (L : SL) (K : SL → St → Prop) : Prop :=
  match r with
  | some (v, st) => K (putL d v L) st
  | none => False
def boolAV (a : AV) (x y : Prop) : Prop :=
  match a.bool with
  | some v => (v = true → x) ∧ (v = false → y)
  | none => False
def gslot (ops : Array Oper) (j : Nat) : Nat := ((ops[j]?).bind (·.dst)).getD 0
/-- What a guard says of a value (an operation that was passed over leaves one that is no Bool). -/
def wantV (c : Bool) (v : Value) : Bool :=
  match v with
  | .bool b => b == c
  | _ => false
def wantA (a : AV) (c : Bool) : Option Bool := a.exact.map (wantV c)
def wantP (o : Option Bool) (x y : Prop) : Prop :=
  match o with
  | some b => (b = true → x) ∧ (b = false → y)
  | none => False
def guarded (ops : Array Oper) (L : SL) (gd : Option (Nat × Bool)) (x y : Prop) : Prop :=
  match gd with
  | none => x
  | some (j, c) => wantP (wantA (lk L (gslot ops j)) c) x y

/-- The same, with what follows unapplied. -/
def boolK (a : AV) (X Y : SL → St → Prop) (L : SL) (st : St) : Prop := boolAV a (X L st) (Y L st)
def guardK (a : AV) (c : Bool) (X Y : SL → St → Prop) (L : SL) (st : St) : Prop := wantP (wantA a c) (X L st) (Y L st)
def guardedK (ops : Array Oper) (gd : Option (Nat × Bool)) (X Y : SL → St → Prop) (L : SL) (st : St) : Prop := guarded ops L gd (X L st) (Y L st)
/-- Which function is called, at which arguments. -/
def calleeV (f : AV) (args : List AV) : Option (Nat × List AV) :=
  match f with
  | .fn g first captured =>
    match g with
    | .func g => some (g, first ++ args ++ captured)
    | _ => none
  | .sc x =>
    match x with
    | .func g first captured =>
      match g with
      | .func g => some (g, first.toList.map .sc ++ args ++ captured.toList.map .sc)
      | _ => none
    | _ => none
  | _ => none
/-- A call at a state: whatever the world, it comes back, and what is asked holds of what it comes to. -/
def CallAt (P : Program) (f : Nat) (args : List AV) (st : St) (R : AV → St → Prop) : Prop :=
  ∀ (g : Gh) (w : World) (vs : List Value), Ok g st.h w → (∀ o, st.nx ≤ o → g.inj o = none) → RelL g w args vs →
    (∃ v w' g' r st', (callFunc f vs.toArray).run P w = .ok (.value v) w' ∧ R r st' ∧ st.nx ≤ st'.nx ∧ Step g st.h w st.nx st'.nx g' st'.h w' ∧ Ok g' st'.h w' ∧ Rel g' w' r v) ∨
    ((callFunc f vs.toArray).run P w = .ok (.enter f vs.toArray) w ∧
      Calls P f vs.toArray w (fun e w' => ∃ v g' r st', e = .returned v ∧ R r st' ∧ st.nx ≤ st'.nx ∧ Step g st.h w st.nx st'.nx g' st'.h w' ∧ Ok g' st'.h w' ∧ Rel g' w' r v))
def contK (K : SL → St → Prop) (d : Option Tmp) (L : SL) : AV → St → Prop := fun r st => K (putL d r L) st
def callK (P : Program) (c : Option (Nat × List AV)) (d : Option Tmp) (L : SL) (st : St) (K : SL → St → Prop) : Prop :=
  match c with
  | some (f, args) => CallAt P f args st (contK K d L)
  | none => False
/-- A call of a function that is in no table. -/
def callO (P : Program) (o : Oper) (L : SL) (st : St) (K : SL → St → Prop) : Prop :=
  match o.op with
  | .call { callee := .value f, args, .. } => callK P (calleeV (evL L f) (args.toList.map (evL L))) o.dst L st K
  | _ => False
def afterE (r : Option (AV × St)) (P : Program) (o : Oper) (L : SL) (st : St) (K : SL → St → Prop) : Prop :=
  match r with
  | some (v, st') => K (putL o.dst v L) st'
  | none => callO P o L st K
def opDo (P : Program) (T : Tab) (o : Oper) (K : SL → St → Prop) (L : SL) (st : St) : Prop := afterE (operL P T o (evL L) st) P o L st K
def opSkip (d : Option Tmp) (K : SL → St → Prop) (L : SL) (st : St) : Prop := K (putL d (.sc undef) L) st

/-- Operations in the order of the text. -/
def opsL (P : Program) (T : Tab) (ops : Array Oper) : List Oper → (SL → St → Prop) → SL → St → Prop
  | [], K => K
  | o :: r, K => guardedK ops o.guard (opDo P T o (opsL P T ops r K)) (opSkip o.dst (opsL P T ops r K))

/-! ### Operations whose order is drawn -/
/-- Names of objects. -/
def AV.names : AV → List Nat
  | .agg l => go l
  | .tup l => go l
  | .sl o _ _ _ => [o]
  | .ptr o _ => [o]
  | .fn _ a b => go a ++ go b
  | .mp o => [o]
  | .ifc _ v => v.names
  | .yl o => [o]
  | _ => []
where go : List AV → List Nat
  | [] => []
  | a :: r => a.names ++ go r
def AObj.names : AObj → List Nat
  | .row cells _ _ _ => AV.names.go cells
  | .map es => AV.names.go (es.map (·.2))
  | .loop .. => []
/-- What can be reached. -/
def reach (h : Tr AObj) : Nat → List Nat → List Nat → List Nat
  | 0, _, acc => acc
  | _ + 1, [], acc => acc
  | n + 1, o :: r, acc =>
    bif acc.contains o then reach h n r acc
    else
      match h.get o with
      | some x => reach h n (x.names ++ r) (acc ++ [o])
      | none => reach h n r acc
def maskH (h : Tr AObj) : List Nat → Tr AObj
  | [] => .nil
  | o :: r => Tr.set depth (maskH h r) o (h.get o)
def mergeH (h1 : Tr AObj) : List Nat → Tr AObj → Tr AObj
  | [], h => h
  | o :: r, h => Tr.set depth (mergeH h1 r h) o (h1.get o)
def fromTo (lo : Nat) : Nat → List Nat
  | 0 => []
  | n + 1 => lo :: fromTo (lo + 1) n

/-- What an operation reads; what it writes or makes. -/
structure Rec where
  R : List Nat
  W : List Nat

def readsOnly (T : Tab) (ρ : Operand → AV) (o : Oper) : Bool :=
  match o.op with
  | .store .. | .mapUpdate .. | .insert .. => false
  | .call { callee := .builtin b, .. } =>
    match b with
    | .append | .copy | .delete | .unsafeString => false
    | _ => true
  | .call { callee := .value f, .. } =>
    match ρ f with
    | .fn (.func g) _ _ => match T.find g with | some (b, _) => b | none => false
    | .sc (.func (.func g) _ _) => match T.find g with | some (b, _) => b | none => false
    | _ => false
  | _ => true
/-- The operands that an operation looks at. -/
def onlyOf (o : Oper) (L : SL) : Operand → AV
  | .tmp t => bif o.op.operands.any (fun x => match x with | .tmp u => Nat.beq u t | _ => false) then lk L t else .bad
  | .const v => .sc v
  | .global g => .sc (.pointer (some ⟨g, 0, none⟩))
  | .func f => .sc (.func (.func f) #[] #[])
def same (h h' : Tr AObj) : List Nat → Prop
  | [] => True
  | o :: r => h.get o = h'.get o ∧ same h h' r
def memN (o : Nat) (l : List Nat) : Bool := List.rec (motive := fun _ => Bool) false (fun x _ ih => Bool.rec (motive := fun _ => Bool) ih true (Nat.beq x o)) l
def apartN (a b : List Nat) : Bool := List.rec (motive := fun _ => Bool) true (fun _ _ _ => List.rec (motive := fun _ => Bool) true (fun x _ ih => Bool.rec (motive := fun _ => Bool) ih false (memN x b)) a) b
theorem memN_iff (o : Nat) : ∀ l : List Nat, memN o l = true ↔ o ∈ l
  | [] => by simp [memN]
  | x :: l => by
    show (Bool.rec _ _ (Nat.beq x o) : Bool) = true ↔ _
    have ih := memN_iff o l
    cases hb : Nat.beq x o with
    | true => have := Nat.eq_of_beq_eq_true hb; subst this; simp
    | false =>
      have : x ≠ o := fun e => by subst e; simp at hb
      show memN o l = true ↔ _
      rw [ih, List.mem_cons]
      exact ⟨.inr, fun h => h.resolve_left (fun e => this e.symm)⟩
theorem apartN_iff (a b : List Nat) : apartN a b = true ↔ ∀ o ∈ a, o ∉ b := by
  cases b with
  | nil => simp [apartN]
  | cons y b =>
    show (List.rec (motive := fun _ => Bool) true (fun x _ ih => Bool.rec (motive := fun _ => Bool) ih false (memN x (y :: b))) a : Bool) = true ↔ _
    generalize y :: b = l
    induction a with
    | nil => simp
    | cons x a ih =>
      show (Bool.rec _ _ (memN x l) : Bool) = true ↔ _
      cases hb : memN x l with
      | true =>
        have := (memN_iff x l).1 hb
        simp [this]
      | false =>
        have hn : x ∉ l := fun h => by rw [(memN_iff x l).2 h] at hb; cases hb
        show (List.rec _ _ a : Bool) = true ↔ _
        rw [ih]
        simp [hn]
def calmPair (before : Array Nat) (i j : Nat) (a b : Rec) : Bool := (apartN a.W b.R && apartN a.W b.W && apartN a.R b.W) || (before.getD j 0).testBit i
def calmRow (before : Array Nat) (i : Nat) (a : Rec) : Nat → List Rec → Bool
  | _, [] => true
  | j, b :: r => calmPair before i j a b && calmRow before i a (j + 1) r
def calmAll (before : Array Nat) : Nat → List Rec → Bool
  | _, [] => true
  | i, a :: r => calmRow before i a (i + 1) r && calmAll before (i + 1) r
/-- The slots that an operation writes or looks at. -/
def usesOf (ops : Array Oper) (o : Oper) : List Nat :=
  o.dst.toList ++ (o.op.operands.toList.filterMap fun x => match x with | .tmp u => some u | _ => none) ++ (match o.guard with | some (j, _) => [gslot ops j] | none => [])
/-- Slots hang on no order. -/
def slotsCalm (ops : Array Oper) : Bool :=
  ops.toList.zipIdx.all (fun q => (usesOf ops q.1).all fun t => ops.toList.zipIdx.all fun p => (match p.1.dst with | some d => !(Nat.beq d t) | none => true) || Nat.beq p.2 q.2 || ((Region.before ops).getD (max p.2 q.2) 0).testBit (min p.2 q.2)) &&
  ops.toList.zipIdx.all (fun q => q.1.after.all fun e => !(Region.binds .any e) || Nat.blt e.on q.2)

def reachFuel : Nat := 60
def writesOf (ro : Bool) (F : List Nat) (lo hi : Nat) : List Nat := (bif ro then [] else F) ++ fromTo lo (hi - lo)
/-- Operations that look at no memory. -/
def footless (o : Op) : Bool :=
  match o with
  | .move _ => true
  | .assign _ => true
  | .fieldAddr .. => true
  | .nilCheck _ => true
  | .pick .. => true
  | .extract .. => true
  | .indexAddr .. => true
  | .binOp .. => true
  | .call { callee := .builtin .len, .. } => true
  | _ => false
def footOf (o : Oper) (L : SL) (st : St) : List Nat :=
  bif footless o.op then [] else
  match o.op with
  | .load _ a => (onlyOf o L a).names
  | .store _ a _ => (onlyOf o L a).names
  | _ => reach st.h reachFuel (AV.names.go (o.op.operands.toList.map (onlyOf o L))) []
/-- An operation, carried out in a part of the heap. -/
def opDoX (P : Program) (T : Tab) (o : Oper) (recs : List Rec) (K : List Rec → SL → St → Prop) (L : SL) (st : St) : Prop :=
  ∃ (F W : List Nat) (v : AV) (st1 : St), operL P T o (onlyOf o L) { h := maskH st.h F, nx := st.nx, rl := [], wl := [] } = some (v, st1) ∧ (∀ q ∈ W, q ∈ F) ∧ (∀ q ∈ F, q ∉ W → (maskH st.h F).get q = st1.h.get q) ∧ (∀ q ∈ F, q < st.nx) ∧ st1.nx ≤ limit ∧
    K (recs ++ [⟨F, W ++ fromTo st.nx (st1.nx - st.nx)⟩]) (putL o.dst v L) { h := mergeH st1.h (F ++ fromTo st.nx (st1.nx - st.nx)) st.h, nx := st1.nx, rl := [], wl := [] }
def allLt (n : Nat) : List Nat → Bool
  | [] => true
  | o :: r => Nat.blt o n && allLt n r
def drawnK (ro : Bool) (F : List Nat) (o : Oper) (recs : List Rec) (K : List Rec → SL → St → Prop) (L : SL) (st : St) (r : Option (AV × St)) : Prop :=
  match r with
  | some (v, st1) => (allLt st.nx F = true ∧ Nat.ble st1.nx limit = true) ∧ same (maskH st.h F) st1.h (bif ro then F else []) ∧
    K (recs ++ [⟨F, (bif ro then [] else F) ++ fromTo st.nx (st1.nx - st.nx)⟩]) (putL o.dst v L) { h := mergeH st1.h (F ++ fromTo st.nx (st1.nx - st.nx)) st.h, nx := st1.nx, rl := [], wl := [] }
  | none => False
def drawnF (P : Program) (T : Tab) (o : Oper) (recs : List Rec) (K : List Rec → SL → St → Prop) (L : SL) (st : St) (F : List Nat) : Prop :=
  drawnK (readsOnly T (onlyOf o L) o) F o recs K L st (operL P T o (onlyOf o L) { h := maskH st.h F, nx := st.nx, rl := [], wl := [] })
def opDoD (P : Program) (T : Tab) (o : Oper) (recs : List Rec) (K : List Rec → SL → St → Prop) (L : SL) (st : St) : Prop := drawnF P T o recs K L st (footOf o L st)
theorem allLt_of {n : Nat} : ∀ {l : List Nat}, allLt n l = true → ∀ q ∈ l, q < n
  | [], _, q, hq => by cases hq
  | o :: r, h, q, hq => by
    simp only [allLt, Bool.and_eq_true] at h
    rcases List.mem_cons.1 hq with rfl | hq
    · simpa using h.1
    · exact allLt_of h.2 q hq
theorem same_of {h h' : Tr AObj} : ∀ {l : List Nat}, same h h' l → ∀ q ∈ l, h.get q = h'.get q
  | [], _, q, hq => by cases hq
  | o :: r, hs, q, hq => by
    rcases List.mem_cons.1 hq with rfl | hq
    · exact hs.1
    · exact same_of hs.2 q hq
theorem opDoD_x {P : Program} {T : Tab} {o : Oper} {recs : List Rec} {K : List Rec → SL → St → Prop} {L : SL} {st : St} (h : opDoD P T o recs K L st) : opDoX P T o recs K L st := by
  unfold opDoD drawnF drawnK at h
  split at h
  · rename_i v st1 he
    obtain ⟨⟨h1, h2⟩, h3, h4⟩ := h
    refine ⟨_, _, v, st1, he, ?_, ?_, allLt_of h1, Nat.le_of_ble_eq_true h2, h4⟩
    · intro q hq
      cases hb : readsOnly T (onlyOf o L) o with
      | true => rw [hb] at hq; cases hq
      | false => rw [hb] at hq; exact hq
    · intro q hq hn
      cases hb : readsOnly T (onlyOf o L) o with
      | true => rw [hb] at h3; exact same_of h3 q hq
      | false => rw [hb] at hn; exact (hn hq).elim
  · exact h.elim
def opEndD (ops : Array Oper) (K : SL → St → Prop) (recs : List Rec) (L : SL) (st : St) : Prop := calmAll (Region.before ops) 0 recs = true ∧ K L st
def opsD (P : Program) (T : Tab) (ops : Array Oper) : List Oper → (SL → St → Prop) → List Rec → SL → St → Prop
  | [], K => opEndD ops K
  | o :: r, K => fun recs => guardedK ops o.guard (opDoD P T o recs (opsD P T ops r K)) (opSkip o.dst (opsD P T ops r K (recs ++ [⟨[], []⟩])))
def opsX (P : Program) (T : Tab) (ops : Array Oper) : List Oper → (SL → St → Prop) → List Rec → SL → St → Prop
  | [], K => opEndD ops K
  | o :: r, K => fun recs => guardedK ops o.guard (opDoX P T o recs (opsX P T ops r K)) (opSkip o.dst (opsX P T ops r K (recs ++ [⟨[], []⟩])))
def regionL (P : Program) (T : Tab) (ops : Array Oper) (draw : Bool) (K : SL → St → Prop) (L : SL) (st : St) : Prop :=
  match draw with
  | true => slotsCalm ops = true ∧ (opsD P T ops ops.toList K [] L st ∨ opsX P T ops ops.toList K [] L st)
  | false => opsL P T ops ops.toList K L st

/-! ### Loops: names are given anew at each head -/
def idx (l : List Nat) (o : Nat) : Nat → Option Nat :=
  List.rec (motive := fun _ => Nat → Option Nat) (fun _ => none) (fun a _ ih i => bif Nat.beq a o then some i else ih (i + 1)) l
def AV.ren (τ : Nat → Option Nat) : AV → AV
  | .agg l => .agg (go τ l)
  | .tup l => .tup (go τ l)
  | .vl loc sz es => .vl loc sz (go τ es)
  | .sl o off len sz => match τ o with | some p => .sl p off len sz | none => .bad
  | .ptr o off => match τ o with | some p => .ptr p off | none => .bad
  | .cptr l => .cptr (go τ l)
  | .fn f a b => .fn f (go τ a) (go τ b)
  | .mp o => match τ o with | some p => .mp p | none => .bad
  | .ifc t v => .ifc t (v.ren τ)
  | .yl _ => .bad
  | a => a
where go (τ : Nat → Option Nat) : List AV → List AV
  | [] => []
  | a :: r => a.ren τ :: go τ r
def AObj.ren (τ : Nat → Option Nat) : AObj → Option AObj
  | .row cells k s e => some (.row (AV.ren.go τ cells) k s e)
  | .map es => some (.map (es.map fun e => (e.1, e.2.ren τ)))
  | .loop .. => none
/-- What objects name. -/
def namesAt (h : Tr AObj) : List Nat → List Nat
  | [] => []
  | o :: r => (match h.get o with | some x => x.names | none => []) ++ namesAt h r
def canonN (pin : Nat) (keep : List Nat) (L : SL) (st : St) : List Nat := reach st.h reachFuel (AV.names.go (keep.map (lk L)) ++ namesAt st.h (fromTo 0 pin)) (fromTo 0 pin)
def canonV (pin : Nat) (keep : List Nat) (L : SL) (st : St) : List AV := AV.ren.go (fun o => idx (canonN pin keep L st) o 0) (keep.map (lk L))
def getObj' (h : Tr AObj) (τ : Nat → Option Nat) : List Nat → List (Option AObj)
  | [] => []
  | o :: r => (h.get o).bind (AObj.ren τ) :: getObj' h τ r
def canonO (pin : Nat) (keep : List Nat) (L : SL) (st : St) : List (Option AObj) := getObj' st.h (fun o => idx (canonN pin keep L st) o 0) (canonN pin keep L st)
def heapK : Nat → List (Option AObj) → Tr AObj
  | _, [] => .nil
  | i, x :: r => Tr.set depth (heapK (i + 1) r) i x
def stK (os : List (Option AObj)) : St := { h := heapK 0 os, nx := os.length, rl := [], wl := [] }
def zipK : List Nat → List AV → SL
  | t :: ts, v :: vs => (t, v) :: zipK ts vs
  | _, _ => []

def headQ (pin : Nat) (keep : List Nat) (X : List AV → List (Option AObj) → Prop) (Q : QL) : QL := fun e L st =>
  match e with
  | .normal => X (canonV pin keep L st) (canonO pin keep L st)
  | e => Q e L st
/-- At the head of a loop less may be known than was: lists may stay from then on, what was the call's own may be anyone's. -/
def WkV (pin : Nat) (vs : List AV) (os : List (Option AObj)) (vs' : List AV) (os' : List (Option AObj)) : Prop :=
  vs'.length = vs.length ∧ (pin ≤ os.length → pin ≤ os'.length) ∧ ∀ (g : Gh) (w : World) (us : List Value), Ok g (stK os).h w → (∀ o, os.length ≤ o → g.inj o = none) → RelL g w vs us → ∃ g', Ok g' (stK os').h w ∧ RelL g' w vs' us ∧ g'.b0 = g.b0 ∧ (∀ o, os'.length ≤ o → g'.inj o = none) ∧ (∀ o, o < pin → g'.inj o = g.inj o) ∧ (∀ b j, g.K b j → g'.K b j) ∧
    (∀ o b base, ((stK os').h.get o).isSome = true → g'.inj o = some (b, base) → ∃ o2 base2, ((stK os).h.get o2).isSome = true ∧ g.inj o2 = some (b, base2)) ∧ (∀ b j, g'.K b j → g.K b j ∨ ∃ o base, ((stK os).h.get o).isSome = true ∧ g.inj o = some (b, base))
theorem WkV.refl (pin vs os) : WkV pin vs os vs os := ⟨rfl, id, fun g _ _ h1 hf h2 => ⟨g, h1, h2, rfl, hf, fun _ _ => rfl, fun _ _ h => h, fun o b base h h' => ⟨o, base, h, h'⟩, fun _ _ h => .inl h⟩⟩
theorem WkV.trans {pin vs os vs' os' vs'' os''} (h : WkV pin vs os vs' os') (k : WkV pin vs' os' vs'' os'') : WkV pin vs os vs'' os'' := by
  refine ⟨k.1.trans h.1, fun q => k.2.1 (h.2.1 q), fun g w us h1 hf h2 => ?_⟩
  obtain ⟨g1, a1, a2, a3, a4, a5, a6, a7, a8⟩ := h.2.2 g w us h1 hf h2
  obtain ⟨g2, b1, b2, b3, b4, b5, b6, b7, b8⟩ := k.2.2 g1 w us a1 a4 a2
  refine ⟨g2, b1, b2, b3.trans a3, b4, fun o ho => (b5 o ho).trans (a5 o ho), fun b j q => b6 b j (a6 b j q), fun o b base q q' => ?_, fun b j q => ?_⟩
  · obtain ⟨o2, base2, c1, c2⟩ := b7 o b base q q'
    exact a7 o2 b base2 c1 c2
  · rcases b8 b j q with c | ⟨o, base, c1, c2⟩
    · exact a8 b j c
    · exact .inr (a7 o b base c1 c2)
def upW (pin : Nat) (X : List AV → List (Option AObj) → Prop) (vs : List AV) (os : List (Option AObj)) : Prop := ∃ vs' os', WkV pin vs os vs' os' ∧ X vs' os'
def LoopL (pin : Nat) (B : QL → SL → St → Prop) (Q : QL) (L : SL) (st : St) : Prop :=
  ∃ keep : List Nat, ∀ X : List AV → List (Option AObj) → Prop, (∀ vs os, B (headQ pin keep (upW pin X) Q) (zipK keep vs) (stK os) → X vs os) → upW pin X (canonV pin keep L st) (canonO pin keep L st)

def seqQ (W : QL → SL → St → Prop) (Q : QL) : QL := fun e L st =>
  match e with
  | .normal => W Q L st
  | e => Q e L st
def blkQ (id : Nat) (Q : QL) : QL := fun e L st =>
  match e with
  | .exit j => bif Nat.beq j id then Q .normal L st else Q (.exit j) L st
  | e => Q e L st

/-- Arguments, in their slots. -/
def argsL : Nat → List AV → SL
  | _, [] => []
  | i, a :: r => (i, a) :: argsL (i + 1) r

/-! ### Ranges over functions: the iterator's code, its yields being rounds -/
/-- How code is left, and the jump that a round has left behind. -/
abbrev QI := Ex → Option Ex → SL → St → Prop
/-- A round: names that stay, what is handed, what follows. -/
abbrev Rnd := Nat → List AV → (Ex → St → Prop) → St → Prop
def isYield (l : Nat) (a : AV) : Bool :=
  match a with
  | .sc v =>
    match v with
    | .func f va vb =>
      match f with
      | .yield k => Nat.beq k l && Nat.beq va.size 0 && Nat.beq vb.size 0
      | _ => false
    | _ => false
  | _ => false
def yieldOf (l : Nat) (o : Oper) (L : SL) : Option (Array Operand) :=
  match o.op with
  | .call { callee := .value f, args, .. } => bif isYield l (evL L f) then some args else none
  | _ => none
def afterY (d : Option Tmp) (L : SL) (K : Option Ex → SL → St → Prop) (e : Ex) (st : St) : Prop :=
  match e with
  | .normal => K none (putL d (.sc (.bool true)) L) st
  | e => K (some e) (putL d (.sc (.bool false)) L) st
def yieldC (R : Rnd) (p : Nat) (args : Array Operand) (d : Option Tmp) (K : Option Ex → SL → St → Prop) (L : SL) (st : St) : Prop :=
  R p (args.toList.map (evL L)) (afterY d L K) st
def opIm (P : Program) (T : Tab) (R : Rnd) (pin : Nat) (o : Oper) (K : Option Ex → SL → St → Prop) (pe : Option Ex) (L : SL) (st : St) (y : Option (Array Operand)) : Prop :=
  match y with
  | none => afterOp (operL P T o (evL L) st) o.dst L (K pe)
  | some args => pe = none ∧ ∃ keep : List Nat, yieldC R (canonO pin keep L st).length args o.dst K (zipK keep (canonV pin keep L st)) (stK (canonO pin keep L st))
def opI (P : Program) (T : Tab) (l : Nat) (R : Rnd) (pin : Nat) (o : Oper) (K : Option Ex → SL → St → Prop) (pe : Option Ex) (L : SL) (st : St) : Prop := opIm P T R pin o K pe L st (yieldOf l o L)
def guardI (a : AV) (c : Bool) (X Y : Option Ex → SL → St → Prop) (pe : Option Ex) (L : SL) (st : St) : Prop := wantP (wantA a c) (X pe L st) (Y pe L st)
def guardedI (ops : Array Oper) (gd : Option (Nat × Bool)) (X Y : Option Ex → SL → St → Prop) (pe : Option Ex) (L : SL) (st : St) : Prop := guarded ops L gd (X pe L st) (Y pe L st)
def boolI (a : AV) (X Y : Option Ex → SL → St → Prop) (pe : Option Ex) (L : SL) (st : St) : Prop := boolAV a (X pe L st) (Y pe L st)
def opSkipI (d : Option Tmp) (K : Option Ex → SL → St → Prop) (pe : Option Ex) (L : SL) (st : St) : Prop := K pe (putL d (.sc undef) L) st
def opsI (P : Program) (T : Tab) (l : Nat) (R : Rnd) (pin : Nat) (ops : Array Oper) : List Oper → (Option Ex → SL → St → Prop) → Option Ex → SL → St → Prop
  | [], K => K
  | o :: r, K => guardedI ops o.guard (opI P T l R pin o (opsI P T l R pin ops r K)) (opSkipI o.dst (opsI P T l R pin ops r K))
def seqI (W : QI → Option Ex → SL → St → Prop) (Q : QI) : QI := fun e pe L st =>
  match e with
  | .normal => W Q pe L st
  | e => Q e pe L st
def blkI (id : Nat) (Q : QI) : QI := fun e pe L st =>
  match e with
  | .exit j => bif Nat.beq j id then Q .normal pe L st else Q (.exit j) pe L st
  | e => Q e pe L st
def headI (Q' : QL) (Q : QI) : QI := fun e pe L st =>
  match e with
  | .normal => pe = none ∧ Q' .normal L st
  | e => Q e pe L st
def wlI (P : Program) (T : Tab) (l : Nat) (R : Rnd) (pin : Nat) : Code → QI → Option Ex → SL → St → Prop
  | .skip, Q, pe, L, st => Q .normal pe L st
  | .label _, Q, pe, L, st => Q .normal pe L st
  | .region _ ops false, Q, pe, L, st => opsI P T l R pin ops ops.toList (Q .normal) pe L st
  | .region _ ops true, Q, pe, L, st => regionL P T ops true (Q .normal pe) L st
  | .seq a b, Q, pe, L, st => wlI P T l R pin a (seqI (wlI P T l R pin b) Q) pe L st
  | .cond c a b, Q, pe, L, st => boolI (evL L c) (wlI P T l R pin a Q) (wlI P T l R pin b Q) pe L st
  | .block id b, Q, pe, L, st => wlI P T l R pin b (blkI id Q) pe L st
  | .loop b, Q, pe, L, st => pe = none ∧ LoopL pin (fun Q' L st => wlI P T l R pin b (headI Q' Q) none L st) (fun _ _ _ => False) L st
  | .exit id, Q, pe, L, st => Q (.exit id) pe L st
  | .ret, Q, pe, L, st => Q .ret pe L st
  | _, _, _, _, _ => False

def guardsIn (nt : Nat) (ops : Array Oper) : Bool := ops.all fun o => match o.guard with
  | none => true
  | some (j, _) => match (ops[j]?).bind (·.dst) with | some d => Nat.blt d nt | none => false
def dstsIn (nt : Nat) (ops : Array Oper) : Bool := ops.all fun o => match o.dst with | none => true | some d => Nat.blt d nt
/-- No range over a function stands in it. -/
def _root_.Go.Code.plainR : Code → Bool
  | .seq a b => a.plainR && b.plainR
  | .cond _ a b => a.plainR && b.plainR
  | .block _ b => b.plainR
  | .loop b => b.plainR
  | .scope b => b.plainR
  | .rangeFunc .. => false
  | _ => true
/-- Slots that are written are slots. -/
def slotsIn (nt : Nat) : Code → Bool
  | .region _ ops _ => dstsIn nt ops && guardsIn nt ops
  | .seq a b => slotsIn nt a && slotsIn nt b
  | .cond _ a b => slotsIn nt a && slotsIn nt b
  | .block _ b => slotsIn nt b
  | .loop b => slotsIn nt b
  | .scope b => slotsIn nt b
  | .rangeFunc _ ps a b => ps.all (fun t => Nat.blt t nt) && slotsIn nt a && slotsIn nt b && a.plainR && b.plainR
  | _ => true

/-- A function that is ranged over: its number, what it has captured. -/
def iterFn (a : AV) : Option (Nat × List AV) :=
  match a with
  | .fn f first captured =>
    match f, first with
    | .func g, [] => some (g, captured)
    | _, _ => none
  | .sc v =>
    match v with
    | .func f first captured =>
      match f, first.toList with
      | .func g, [] => some (g, captured.toList.map .sc)
      | _, _ => none
    | _ => none
  | _ => none
def iterB (P : Program) (g : Nat) : Option (Nat × Code) :=
  match P.funcs[g]? with
  | some fn =>
    match fn.body with
    | some body => bif entered P g && slotsIn fn.ntmps body && fn.results.isEmpty then some (fn.ntmps, body) else none
    | none => none
  | none => none
def putArgs : List Tmp → List AV → SL → SL
  | t :: ts, v :: vs, L => putArgs ts vs ((t, v) :: L)
  | _, _, L => L
def thenR (B : QL → SL → St → Prop) (X : Ex → St → Prop) : QL := fun e L st =>
  match e with
  | .normal => B (fun e _ st => X e st) L st
  | _ => False
def roundC (ps : List Tmp) (A B : Nat → QL → SL → St → Prop) (L0 : SL) : Rnd := fun p args X st =>
  Nat.beq args.length ps.length = true ∧ Nat.ble p 1000 = true ∧ A p (thenR (B p) X) (putArgs ps args L0) st
def endI (Q : QL) (L0 : SL) : QI := fun e pe _ st =>
  match e with
  | .exit _ => False
  | _ =>
    match pe with
    | none => Q .normal L0 st
    | some e => Q e L0 st
def rangeW (P : Program) (T : Tab) (ps : List Tmp) (A B : Nat → QL → SL → St → Prop) (p : Nat) (Q : QL) (L0 : SL) (st0 : St) (caps : List AV) (c : Option (Nat × Code)) : Prop :=
  match c with
  | some (nt, code) => Nat.ble (caps.length + 1) nt = true ∧ ∀ l : Nat, wlI P T l (roundC ps A B L0) p code (endI Q L0) none (argsL 0 (.sc (.func (.yield l) #[] #[]) :: caps)) st0
  | none => False
def rangeV (P : Program) (T : Tab) (ps : List Tmp) (A B : Nat → QL → SL → St → Prop) (p : Nat) (Q : QL) (L0 : SL) (st0 : St) (f : Option (Nat × List AV)) : Prop :=
  match f with
  | some (g, caps) => rangeW P T ps A B p Q L0 st0 caps (iterB P g)
  | none => False
def rangeC (P : Program) (T : Tab) (f : Operand) (ps : List Tmp) (A B : Nat → QL → SL → St → Prop) (p : Nat) (Q : QL) (L0 : SL) (st0 : St) : Prop :=
  Nat.ble p 1000 = true ∧ rangeV P T ps A B p Q L0 st0 (iterFn (evL L0 f))
def RangeL (P : Program) (T : Tab) (f : Operand) (ps : List Tmp) (A B : Nat → QL → SL → St → Prop) (pin : Nat) (Q : QL) (L : SL) (st : St) : Prop :=
  ∃ keep : List Nat, rangeC P T f ps A B (canonO pin keep L st).length Q (zipK keep (canonV pin keep L st)) (stK (canonO pin keep L st))

/-- What is to be shown of a piece of code. -/
def wl (P : Program) (T : Tab) : Nat → Code → QL → SL → St → Prop
  | _, .skip, Q, L, st => Q .normal L st
  | _, .label _, Q, L, st => Q .normal L st
  | _, .region _ ops draw, Q, L, st => regionL P T ops draw (Q .normal) L st
  | pin, .seq a b, Q, L, st => wl P T pin a (seqQ (wl P T pin b) Q) L st
  | pin, .cond c a b, Q, L, st => boolK (evL L c) (wl P T pin a Q) (wl P T pin b Q) L st
  | pin, .block id body, Q, L, st => wl P T pin body (blkQ id Q) L st
  | pin, .loop body, Q, L, st => LoopL pin (wl P T pin body) Q L st
  | pin, .scope body, Q, L, st => wl P T pin body Q L st
  | _, .exit id, Q, L, st => Q (.exit id) L st
  | _, .ret, Q, L, st => Q .ret L st
  | pin, .rangeFunc f ps asg body, Q, L, st => RangeL P T f ps.toList (fun p => wl P T p asg) (fun p => wl P T p body) pin Q L st
  | _, _, _, _, _ => False

/-! ### Results -/
def resL (P : Program) (L : SL) (st : St) : List ResultVar → Option (List AV)
  | [] => some []
  | .tmp t :: r => (resL P L st r).map (lk L t :: ·)
  | .cell a t :: r =>
    match opLoad P t (lk L a) st with
    | some (v, _) => (resL P L st r).map (v :: ·)
    | none => none
def retR (r : Option (List AV)) (R : AV → St → Prop) (st : St) : Prop :=
  match r with
  | some l => R (pack l) st
  | none => False
def retQ (P : Program) (rs : List ResultVar) (R : AV → St → Prop) : QL := fun e L st =>
  match e with
  | .exit _ => False
  | _ => retR (resL P L st rs) R st

/-- Nothing but memory of the call's own. -/
def AV.fresh : AV → Bool
  | .sc _ => true
  | .agg l => go l
  | .tup l => go l
  | .vl loc _ es => loc && go es
  | .fn _ a b => go a && go b
  | .ifc _ v => v.fresh
  | .ez => true
  | _ => false
where go : List AV → Bool
  | [] => true
  | a :: r => a.fresh && go r

end
end Go.Vm
