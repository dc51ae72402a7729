/- Walks on abstract values: what is to be shown of a piece of code, reckoned along its text. Definitions only; no condition. -/
import Derived.Test.YtbkefbehgoojaaaVmX
namespace Go.Vm
noncomputable section

/-- Slots, the last written first. -/
abbrev SL := List (Nat × AV)
def lk : SL → Nat → AV
  | [], _ => .bad
  | (d, v) :: r, t => bif Nat.beq d t then v else lk r t
def evL (L : SL) : Operand → AV
  | .tmp t => lk L t
  | .const v => .sc v
  | .global g => .sc (.pointer (some ⟨g, 0, none⟩))
  | .func f => .sc (.func (.func f) #[] #[])
abbrev QL := Ex → SL → St → Prop
def putL (d : Option Tmp) (v : AV) (L : SL) : SL :=
  match d with
  | none => L
  | some d => (d, v) :: L

/-- What calls compute: a function, whether it leaves memory alone, what it comes to. -/
abbrev Tab := List (Nat × Bool × (List AV → M AV))
def Tab.find : Tab → Nat → Option (Bool × (List AV → M AV))
  | [], _ => none
  | (g, m) :: r, f => bif Nat.beq g f then some m else Tab.find r f
def callT (T : Tab) (f : Nat) (args : List AV) : M AV :=
  match T.find f with
  | some (_, m) => mono (m args)
  | none => .fail
def callFn (T : Tab) (g : Fn) (args : List AV) : M AV :=
  match g with
  | .func g => callT T g args
  | _ => .fail
def callV (T : Tab) (f : AV) (args : List AV) : M AV :=
  match f with
  | .fn g first captured => callFn T g (first ++ args ++ captured)
  | .sc x =>
    match x with
    | .func g first captured => callFn T g (first.toList.map .sc ++ args ++ captured.toList.map .sc)
    | _ => .fail
  | _ => .fail
def operL (P : Program) (T : Tab) (o : Oper) (ρ : Operand → AV) : M AV :=
  match o.op with
  | .call { callee := .value f, args, .. } => callV T (ρ f) (args.toList.map ρ)
  | _ => mono (aop P o ρ)

def afterOp (r : Option (AV × St)) (d : Option Tmp) (L : SL) (K : SL → St → Prop) : Prop :=
  match r with
  | some (v, st) => K (putL d v L) st
  | none => False
def boolAV (a : AV) (x y : Prop) : Prop :=
  match a.bool with
  | some v => (v = true → x) ∧ (v = false → y)
  | none => False
def gslot (ops : Array Oper) (j : Nat) : Nat := ((ops[j]?).bind (·.dst)).getD 0
def guarded (ops : Array Oper) (L : SL) (gd : Option (Nat × Bool)) (x y : Prop) : Prop :=
  match gd with
  | none => x
  | some (j, true) => boolAV (lk L (gslot ops j)) x y
  | some (j, false) => boolAV (lk L (gslot ops j)) y x

/-- The same, with what follows unapplied. -/
def boolK (a : AV) (X Y : SL → St → Prop) (L : SL) (st : St) : Prop := boolAV a (X L st) (Y L st)
def guardedK (ops : Array Oper) (gd : Option (Nat × Bool)) (X Y : SL → St → Prop) (L : SL) (st : St) : Prop := guarded ops L gd (X L st) (Y L st)
def opDo (P : Program) (T : Tab) (o : Oper) (K : SL → St → Prop) (L : SL) (st : St) : Prop := afterOp (operL P T o (evL L) st) o.dst L K
def opSkip (d : Option Tmp) (K : SL → St → Prop) (L : SL) (st : St) : Prop := K (putL d (.sc undef) L) st

/-- Operations in the order of the text. -/
def opsL (P : Program) (T : Tab) (ops : Array Oper) : List Oper → (SL → St → Prop) → SL → St → Prop
  | [], K => K
  | o :: r, K => guardedK ops o.guard (opDo P T o (opsL P T ops r K)) (opSkip o.dst (opsL P T ops r K))

/-! ### Operations whose order is drawn -/
/-- Names of objects. -/
def AV.names : AV → List Nat
  | .agg l => go l
  | .tup l => go l
  | .sl o _ _ _ => [o]
  | .ptr o _ => [o]
  | .fn _ a b => go a ++ go b
  | .mp o => [o]
  | .ifc _ v => v.names
  | .yl o => [o]
  | _ => []
where go : List AV → List Nat
  | [] => []
  | a :: r => a.names ++ go r
def AObj.names : AObj → List Nat
  | .row cells _ _ _ => AV.names.go cells
  | .map es => AV.names.go (es.map (·.2))
  | .loop .. => []
/-- What can be reached. -/
def reach (h : Tr AObj) : Nat → List Nat → List Nat → List Nat
  | 0, _, acc => acc
  | _ + 1, [], acc => acc
  | n + 1, o :: r, acc =>
    bif acc.contains o then reach h n r acc
    else
      match h.get o with
      | some x => reach h n (x.names ++ r) (acc ++ [o])
      | none => reach h n r acc
def maskH (h : Tr AObj) : List Nat → Tr AObj
  | [] => .nil
  | o :: r => Tr.set depth (maskH h r) o (h.get o)
def mergeH (h1 : Tr AObj) : List Nat → Tr AObj → Tr AObj
  | [], h => h
  | o :: r, h => Tr.set depth (mergeH h1 r h) o (h1.get o)
def fromTo (lo : Nat) : Nat → List Nat
  | 0 => []
  | n + 1 => lo :: fromTo (lo + 1) n

/-- What an operation reads; what it writes or makes. -/
structure Rec where
  R : List Nat
  W : List Nat

def readsOnly (T : Tab) (ρ : Operand → AV) (o : Oper) : Bool :=
  match o.op with
  | .store .. | .mapUpdate .. => false
  | .call { callee := .builtin b, .. } =>
    match b with
    | .append | .copy | .delete | .unsafeString => false
    | _ => true
  | .call { callee := .value f, .. } =>
    match ρ f with
    | .fn (.func g) _ _ => match T.find g with | some (b, _) => b | none => false
    | .sc (.func (.func g) _ _) => match T.find g with | some (b, _) => b | none => false
    | _ => false
  | _ => true
/-- The operands that an operation looks at. -/
def onlyOf (o : Oper) (L : SL) : Operand → AV
  | .tmp t => bif o.op.operands.any (fun x => match x with | .tmp u => Nat.beq u t | _ => false) then lk L t else .bad
  | .const v => .sc v
  | .global g => .sc (.pointer (some ⟨g, 0, none⟩))
  | .func f => .sc (.func (.func f) #[] #[])
def same (h h' : Tr AObj) : List Nat → Prop
  | [] => True
  | o :: r => h.get o = h'.get o ∧ same h h' r
def apartN : List Nat → List Nat → Bool
  | [], _ => true
  | a :: r, b => !(b.contains a) && apartN r b
def calmPair (before : Array Nat) (i j : Nat) (a b : Rec) : Bool := (before.getD j 0).testBit i || (apartN a.W b.R && apartN a.W b.W && apartN a.R b.W)
def calmRow (before : Array Nat) (i : Nat) (a : Rec) : Nat → List Rec → Bool
  | _, [] => true
  | j, b :: r => calmPair before i j a b && calmRow before i a (j + 1) r
def calmAll (before : Array Nat) : Nat → List Rec → Bool
  | _, [] => true
  | i, a :: r => calmRow before i a (i + 1) r && calmAll before (i + 1) r
/-- The slots that an operation writes or looks at. -/
def usesOf (ops : Array Oper) (o : Oper) : List Nat :=
  o.dst.toList ++ (o.op.operands.toList.filterMap fun x => match x with | .tmp u => some u | _ => none) ++ (match o.guard with | some (j, _) => [gslot ops j] | none => [])
/-- Slots hang on no order. -/
def slotsCalm (ops : Array Oper) : Bool :=
  ops.toList.zipIdx.all (fun q => (usesOf ops q.1).all fun t => ops.toList.zipIdx.all fun p => (match p.1.dst with | some d => !(Nat.beq d t) | none => true) || Nat.beq p.2 q.2 || ((Region.before ops).getD (max p.2 q.2) 0).testBit (min p.2 q.2)) &&
  ops.toList.zipIdx.all (fun q => q.1.after.all fun e => !(Region.binds .any e) || Nat.blt e.on q.2)

def reachFuel : Nat := 60
def writesOf (ro : Bool) (F : List Nat) (lo hi : Nat) : List Nat := (bif ro then [] else F) ++ fromTo lo (hi - lo)
def afterD (r : Option (AV × St)) (ro : Bool) (F : List Nat) (d : Option Tmp) (L : SL) (st : St) (recs : List Rec) (K : List Rec → SL → St → Prop) : Prop :=
  match r with
  | some (v, st1) => (ro = true → same (maskH st.h F) st1.h F) ∧ (F.all (fun o => Nat.ble o limit) && Nat.ble st1.nx limit) = true ∧
      K (recs ++ [⟨F, writesOf ro F st.nx st1.nx⟩]) (putL d v L) { h := mergeH st1.h (F ++ fromTo st.nx (st1.nx - st.nx)) st.h, nx := st1.nx, rl := [], wl := [] }
  | none => False
def footOf (o : Oper) (L : SL) (st : St) : List Nat := reach st.h reachFuel (AV.names.go (o.op.operands.toList.map (onlyOf o L))) []
def opDoD (P : Program) (T : Tab) (o : Oper) (recs : List Rec) (K : List Rec → SL → St → Prop) (L : SL) (st : St) : Prop :=
  afterD (operL P T o (onlyOf o L) { h := maskH st.h (footOf o L st), nx := st.nx, rl := [], wl := [] }) (readsOnly T (onlyOf o L) o) (footOf o L st) o.dst L st recs K
def opEndD (ops : Array Oper) (K : SL → St → Prop) (recs : List Rec) (L : SL) (st : St) : Prop := calmAll (Region.before ops) 0 recs = true ∧ K L st
def opsD (P : Program) (T : Tab) (ops : Array Oper) : List Oper → (SL → St → Prop) → List Rec → SL → St → Prop
  | [], K => opEndD ops K
  | o :: r, K => fun recs => guardedK ops o.guard (opDoD P T o recs (opsD P T ops r K)) (opSkip o.dst (opsD P T ops r K (recs ++ [⟨[], []⟩])))
def regionL (P : Program) (T : Tab) (ops : Array Oper) (draw : Bool) (K : SL → St → Prop) (L : SL) (st : St) : Prop :=
  match draw with
  | true => slotsCalm ops = true ∧ opsD P T ops ops.toList K [] L st
  | false => opsL P T ops ops.toList K L st

/-! ### Loops: names are given anew at each head -/
def idx (l : List Nat) (o : Nat) : Nat → Option Nat :=
  List.rec (motive := fun _ => Nat → Option Nat) (fun _ => none) (fun a _ ih i => bif Nat.beq a o then some i else ih (i + 1)) l
def AV.ren (τ : Nat → Option Nat) : AV → AV
  | .agg l => .agg (go τ l)
  | .tup l => .tup (go τ l)
  | .vl loc sz es => .vl loc sz (go τ es)
  | .sl o off len sz => match τ o with | some p => .sl p off len sz | none => .bad
  | .ptr o off => match τ o with | some p => .ptr p off | none => .bad
  | .cptr l => .cptr (go τ l)
  | .fn f a b => .fn f (go τ a) (go τ b)
  | .mp o => match τ o with | some p => .mp p | none => .bad
  | .ifc t v => .ifc t (v.ren τ)
  | .yl _ => .bad
  | a => a
where go (τ : Nat → Option Nat) : List AV → List AV
  | [] => []
  | a :: r => a.ren τ :: go τ r
def AObj.ren (τ : Nat → Option Nat) : AObj → Option AObj
  | .row cells k s e => some (.row (AV.ren.go τ cells) k s e)
  | .map es => some (.map (es.map fun e => (e.1, e.2.ren τ)))
  | .loop .. => none
def canonN (pin : Nat) (keep : List Nat) (L : SL) (st : St) : List Nat := reach st.h reachFuel (AV.names.go (keep.map (lk L))) (fromTo 0 pin)
def canonV (pin : Nat) (keep : List Nat) (L : SL) (st : St) : List AV := AV.ren.go (fun o => idx (canonN pin keep L st) o 0) (keep.map (lk L))
def getObj' (h : Tr AObj) (τ : Nat → Option Nat) : List Nat → List (Option AObj)
  | [] => []
  | o :: r => (h.get o).bind (AObj.ren τ) :: getObj' h τ r
def canonO (pin : Nat) (keep : List Nat) (L : SL) (st : St) : List (Option AObj) := getObj' st.h (fun o => idx (canonN pin keep L st) o 0) (canonN pin keep L st)
def heapK : Nat → List (Option AObj) → Tr AObj
  | _, [] => .nil
  | i, x :: r => Tr.set depth (heapK (i + 1) r) i x
def stK (os : List (Option AObj)) : St := { h := heapK 0 os, nx := os.length, rl := [], wl := [] }
def zipK : List Nat → List AV → SL
  | t :: ts, v :: vs => (t, v) :: zipK ts vs
  | _, _ => []

def headQ (pin : Nat) (keep : List Nat) (X : List AV → List (Option AObj) → Prop) (Q : QL) : QL := fun e L st =>
  match e with
  | .normal => X (canonV pin keep L st) (canonO pin keep L st)
  | e => Q e L st
def LoopL (pin : Nat) (B : QL → SL → St → Prop) (Q : QL) (L : SL) (st : St) : Prop :=
  ∃ keep : List Nat, ∀ X : List AV → List (Option AObj) → Prop, (∀ vs os, B (headQ pin keep X Q) (zipK keep vs) (stK os) → X vs os) → X (canonV pin keep L st) (canonO pin keep L st)

def seqQ (W : QL → SL → St → Prop) (Q : QL) : QL := fun e L st =>
  match e with
  | .normal => W Q L st
  | e => Q e L st
def blkQ (id : Nat) (Q : QL) : QL := fun e L st =>
  match e with
  | .exit j => bif Nat.beq j id then Q .normal L st else Q (.exit j) L st
  | e => Q e L st

/-- What is to be shown of a piece of code. -/
def wl (P : Program) (T : Tab) (pin : Nat) : Code → QL → SL → St → Prop
  | .skip, Q, L, st => Q .normal L st
  | .label _, Q, L, st => Q .normal L st
  | .region _ ops draw, Q, L, st => regionL P T ops draw (Q .normal) L st
  | .seq a b, Q, L, st => wl P T pin a (seqQ (wl P T pin b) Q) L st
  | .cond c a b, Q, L, st => boolK (evL L c) (wl P T pin a Q) (wl P T pin b Q) L st
  | .block id body, Q, L, st => wl P T pin body (blkQ id Q) L st
  | .loop body, Q, L, st => LoopL pin (wl P T pin body) Q L st
  | .scope body, Q, L, st => wl P T pin body Q L st
  | .exit id, Q, L, st => Q (.exit id) L st
  | .ret, Q, L, st => Q .ret L st
  | _, _, _, _ => False

def guardsIn (nt : Nat) (ops : Array Oper) : Bool := ops.all fun o => match o.guard with
  | none => true
  | some (j, _) => match (ops[j]?).bind (·.dst) with | some d => Nat.blt d nt | none => false
def dstsIn (nt : Nat) (ops : Array Oper) : Bool := ops.all fun o => match o.dst with | none => true | some d => Nat.blt d nt
/-- Slots that are written are slots. -/
def slotsIn (nt : Nat) : Code → Bool
  | .region _ ops _ => dstsIn nt ops && guardsIn nt ops
  | .seq a b => slotsIn nt a && slotsIn nt b
  | .cond _ a b => slotsIn nt a && slotsIn nt b
  | .block _ b => slotsIn nt b
  | .loop b => slotsIn nt b
  | .scope b => slotsIn nt b
  | _ => true

/-! ### Results -/
def resL (P : Program) (L : SL) (st : St) : List ResultVar → Option (List AV)
  | [] => some []
  | .tmp t :: r => (resL P L st r).map (lk L t :: ·)
  | .cell a t :: r =>
    match opLoad P t (lk L a) st with
    | some (v, _) => (resL P L st r).map (v :: ·)
    | none => none
def retR (r : Option (List AV)) (R : AV → St → Prop) (st : St) : Prop :=
  match r with
  | some l => R (pack l) st
  | none => False
def retQ (P : Program) (rs : List ResultVar) (R : AV → St → Prop) : QL := fun e L st =>
  match e with
  | .exit _ => False
  | _ => retR (resL P L st rs) R st

/-- Arguments, in their slots. -/
def argsL : Nat → List AV → SL
  | _, [] => []
  | i, a :: r => (i, a) :: argsL (i + 1) r

/-- Nothing but memory of the call's own. -/
def AV.fresh : AV → Bool
  | .sc _ => true
  | .agg l => go l
  | .tup l => go l
  | .vl loc _ es => loc && go es
  | .fn _ a b => go a && go b
  | .ifc _ v => v.fresh
  | .ez => true
  | _ => false
where go : List AV → Bool
  | [] => true
  | a :: r => a.fresh && go r

end
end Go.Vm
