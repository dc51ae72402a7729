/- Runs on abstract values: code, calls. No condition. -/
import Derived.Test.YtkjdgfmphjmhmafGreatWxB
namespace Go.Vm
noncomputable section

abbrev XR := Ex × SL × St
structure XC where
  run : Look → Nat → SL → St → Option XR
def prepR (P : Program) (ex : Nat) (ops : Array Oper) (draw : Bool) : XC :=
  match draw with
  | false => ⟨fun look _ L st =>
    match (prepOs P ops ops.toList).run look L st with
    | some p => some (.normal, keepL (keysOf ex ops) p.1 L, p.2)
    | none => none⟩
  | true => ⟨fun look _ L st =>
    bif slotsCalm ops then
      match xdraw P look ops ops.toList [] L st with
      | some r => bif calmAll (Region.before ops) 0 r.1 then some (.normal, keepL (keysOf ex ops) r.2.1 L, r.2.2) else none
      | none => none
    else none⟩
def thenX (B : SL → St → Option XR) (r : Option XR) : Option XR :=
  match r with
  | some p =>
    match p.1 with
    | .normal => B p.2.1 p.2.2
    | e => some (e, p.2.1, p.2.2)
  | none => none
def outX (id : Nat) (e : Ex) : Ex :=
  match e with
  | .exit j => bif Nat.beq j id then .normal else .exit j
  | e => e
def loopX (B : SL → St → Option XR) (n : Nat) : SL → St → Option XR :=
  Nat.rec (motive := fun _ => SL → St → Option XR) (fun _ _ => none) (fun _ ih L st => thenX ih (B (pruneL L 0) st)) n
/-! ### Ranges over functions -/
abbrev XIR := Ex × Option Ex × SL × St
abbrev RX := List AV → St → Option (Ex × St)
def yieldX (y : Nat) (o : Oper) (L : SL) : Option (Array Operand) :=
  match o.op with
  | .call { callee := .value f, args, .. } =>
    match evL L f with
    | .yl k => bif Nat.beq k y then some args else none
    | _ => none
  | _ => none
def xoneI (P : Program) (look : Look) (ops : Array Oper) (y : Nat) (R : RX) (o : Oper) (pe : Option Ex) (L : SL) (st : St) : Option (Option Ex × SL × St) :=
  match gval ops L o with
  | some true =>
    match yieldX y o L with
    | some args =>
      match pe with
      | none =>
        match R (args.toList.map (evL L)) st with
        | some q => some (afterOf q.1, putL o.dst (.sc (.bool (isNormal q.1))) L, q.2)
        | none => none
      | some _ => none
    | none =>
      match (prepA P o).run look (evL L) st with
      | some (v, st') => some (pe, putL o.dst v L, st')
      | none => none
  | some false => some (pe, putL o.dst (.sc undef) L, st)
  | none => none
structure XIO where
  run : Look → Nat → RX → Option Ex → SL → St → Option (Option Ex × SL × St)
def prepIOs (P : Program) (ops : Array Oper) (l : List Oper) : XIO :=
  List.rec (motive := fun _ => XIO) ⟨fun _ _ _ pe L st => some (pe, L, st)⟩ (fun o _ ih => ⟨fun look y R pe L st =>
    match xoneI P look ops y R o pe L st with
    | some p => ih.run look y R p.1 p.2.1 p.2.2
    | none => none⟩) l
structure XIC where
  run : Look → Nat → Nat → RX → Option Ex → SL → St → Option XIR
def prepIR (P : Program) (ex : Nat) (ops : Array Oper) (draw : Bool) : XIC :=
  match draw with
  | false => ⟨fun look _ y R pe L st =>
    match (prepIOs P ops ops.toList).run look y R pe L st with
    | some p => some (.normal, p.1, keepL (keysOf ex ops) p.2.1 L, p.2.2)
    | none => none⟩
  | true => ⟨fun look n _ _ pe L st =>
    match (prepR P ex ops true).run look n L st with
    | some q => some (q.1, pe, q.2.1, q.2.2)
    | none => none⟩
def thenI (B : Option Ex → SL → St → Option XIR) (r : Option XIR) : Option XIR :=
  match r with
  | some p =>
    match p.1 with
    | .normal => B p.2.1 p.2.2.1 p.2.2.2
    | e => some (e, p.2)
  | none => none
def loopI (B : Option Ex → SL → St → Option XIR) (n : Nat) : Option Ex → SL → St → Option XIR :=
  Nat.rec (motive := fun _ => Option Ex → SL → St → Option XIR) (fun _ _ _ => none) (fun _ ih pe L st => thenI ih (B pe (pruneL L 0) st)) n
def prepI (P : Program) (ex : Nat) (c : Code) : XIC :=
  Code.rec (motive := fun _ => XIC)
    ⟨fun _ _ _ _ pe L st => some (.normal, pe, L, st)⟩
    (fun _ ops draw => prepIR P ex ops draw)
    (fun _ _ A B => ⟨fun look n y R pe L st => thenI (B.run look n y R) (A.run look n y R pe L st)⟩)
    (fun c _ _ A B => ⟨fun look n y R pe L st =>
      match (evL L c).bool with
      | some b => bif b then A.run look n y R pe L st else B.run look n y R pe L st
      | none => none⟩)
    (fun id _ B => ⟨fun look n y R pe L st =>
      match B.run look n y R pe L st with
      | some p => some (outX id p.1, p.2)
      | none => none⟩)
    (fun _ B => ⟨fun look n y R pe L st => loopI (B.run look n y R) n pe L st⟩)
    (fun _ _ _ _ _ _ => ⟨fun _ _ _ _ _ _ _ => none⟩)
    (fun id => ⟨fun _ _ _ _ pe L st => some (.exit id, pe, L, st)⟩)
    (fun _ _ => ⟨fun _ _ _ _ _ _ _ => none⟩)
    (fun _ => ⟨fun _ _ _ _ pe L st => some (.normal, pe, L, st)⟩)
    (fun _ => ⟨fun _ _ _ _ _ _ _ => none⟩)
    ⟨fun _ _ _ _ pe L st => some (.ret, pe, L, st)⟩
    (fun _ => ⟨fun _ _ _ _ _ _ _ => none⟩)
    c

/-! ### Slots that are read elsewhere than where they are written -/
def addsB (l : List Nat) (s : Nat) : Nat := List.rec (motive := fun _ => Nat → Nat) (fun s => s) (fun t _ ih s => ih (addB s t)) l s
def readsOf (ops : Array Oper) (o : Oper) : List Nat :=
  (o.op.operands.toList.filterMap fun x => match x with | .tmp u => some u | _ => none) ++ (match o.guard with | some (j, _) => [gslot ops j] | none => [])
def newReads (seen : Nat) (l : List Nat) (s : Nat) : Nat := List.rec (motive := fun _ => Nat → Nat) (fun s => s) (fun t _ ih s => ih (bif hasB seen t then s else addB s t)) l s
def regionEx (ops : Array Oper) (l : List Oper) (seen s : Nat) : Nat :=
  List.rec (motive := fun _ => Nat → Nat → Nat) (fun _ s => s) (fun o _ ih seen s => ih (match o.dst with | some d => addB seen d | none => seen) (newReads seen (readsOf ops o) s)) l seen s
def opEx (c : Operand) (s : Nat) : Nat := match c with | .tmp t => addB s t | _ => s
def codeEx (c : Code) : Nat → Nat :=
  Code.rec (motive := fun _ => Nat → Nat) (fun s => s) (fun _ ops _ s => regionEx ops ops.toList 0 s) (fun _ _ A B s => B (A s))
    (fun c _ _ A B s => B (A (opEx c s))) (fun _ _ B => B) (fun _ B => B) (fun f _ _ _ A B s => B (A (opEx f s))) (fun _ s => s) (fun _ B => B) (fun _ s => s) (fun _ s => s) (fun s => s) (fun _ s => s) c
def resEx (l : List ResultVar) (s : Nat) : Nat := List.rec (motive := fun _ => Nat → Nat) (fun s => s) (fun r _ ih s => ih (addB s (match r with | .tmp t => t | .cell a _ => a))) l s
def argsX (ex : Nat) (L : SL) : SL := List.rec (motive := fun _ => SL) [] (fun p _ ih => bif hasB ex p.1 then p :: ih else ih) L
def putX (ex : Nat) (ps : List Tmp) : List AV → SL → SL :=
  List.rec (motive := fun _ => List AV → SL → SL) (fun _ L => L) (fun t _ ih vs L =>
    match vs with
    | v :: vs => ih vs (bif hasB ex t then (t, v) :: L else L)
    | [] => L) ps

structure XIF where
  ok : Bool
  nt : Nat
  run : Look → Nat → Nat → RX → List AV → St → Option XIR
/-- An iterator, made ready. -/
def iterX (P : Program) (g : Nat) : XIF :=
  match iterB P g with
  | some q => ⟨true, q.1, fun look n y R args st => (prepI P (codeEx q.2 0) q.2).run look n y R none (argsX (codeEx q.2 0) (argsL 0 args)) st⟩
  | none => ⟨false, 0, fun _ _ _ _ _ _ => none⟩
def roundX (ex : Nat) (A B : SL → St → Option XR) (ps : List Tmp) (L : SL) : RX := fun args st =>
  bif Nat.beq args.length ps.length then
    match A (putX ex ps args L) st with
    | some p =>
      match p.1 with
      | .normal =>
        match B p.2.1 p.2.2 with
        | some q => some (q.1, q.2.2)
        | none => none
      | _ => none
    | none => none
  else none
def endX (L : SL) (r : Option XIR) : Option XR :=
  match r with
  | some q =>
    match q.1 with
    | .exit _ => none
    | _ =>
      match q.2.1 with
      | none => some (.normal, L, q.2.2.2)
      | some e => some (e, L, q.2.2.2)
  | none => none
def reserve : M Nat := fun st => some (st.nx, { h := st.h, nx := st.nx + 1, rl := st.rl, wl := st.nx :: st.wl })
def rangeX (P : Program) (ex : Nat) (look : Look) (n : Nat) (f : Operand) (ps : List Tmp) (A B : SL → St → Option XR) (L : SL) (st : St) : Option XR :=
  match iterFn (evL L f) with
  | some q =>
    bif (iterX P q.1).ok && Nat.ble (q.2.length + 1) (iterX P q.1).nt then
      endX L ((iterX P q.1).run look n st.nx (roundX ex A B ps L) (.yl st.nx :: q.2) { h := st.h, nx := st.nx + 1, rl := st.rl, wl := st.nx :: st.wl })
    else none
  | none => none

def prepC (P : Program) (ex : Nat) (c : Code) : XC :=
  Code.rec (motive := fun _ => XC)
    ⟨fun _ _ L st => some (.normal, L, st)⟩
    (fun _ ops draw => prepR P ex ops draw)
    (fun _ _ A B => ⟨fun look n L st => thenX (B.run look n) (A.run look n L st)⟩)
    (fun c _ _ A B => ⟨fun look n L st =>
      match (evL L c).bool with
      | some b => bif b then A.run look n L st else B.run look n L st
      | none => none⟩)
    (fun id _ B => ⟨fun look n L st =>
      match B.run look n L st with
      | some p => some (outX id p.1, p.2.1, p.2.2)
      | none => none⟩)
    (fun _ B => ⟨fun look n L st => loopX (B.run look n) n L st⟩)
    (fun f ps _ _ A B => ⟨fun look n L st => rangeX P ex look n f ps.toList (A.run look n) (B.run look n) L st⟩)
    (fun id => ⟨fun _ _ L st => some (.exit id, L, st)⟩)
    (fun _ B => B)
    (fun _ => ⟨fun _ _ L st => some (.normal, L, st)⟩)
    (fun _ => ⟨fun _ _ _ _ => none⟩)
    ⟨fun _ _ L st => some (.ret, L, st)⟩
    (fun _ => ⟨fun _ _ _ _ => none⟩)
    c

theorem thenX_some {B : SL → St → Option XR} {r : Option XR} {q : XR} (h : thenX B r = some q) : (∃ L st, r = some (.normal, L, st) ∧ B L st = some q) ∨ (r = some q ∧ q.1 ≠ .normal) := by
  unfold thenX at h
  cases r with
  | none => cases h
  | some p =>
    obtain ⟨e, L, st⟩ := p
    simp only at h
    cases e with
    | normal => exact .inl ⟨L, st, rfl, h⟩
    | exit id => cases h; exact .inr ⟨rfl, fun h => by cases h⟩
    | ret => cases h; exact .inr ⟨rfl, fun h => by cases h⟩

/-! ### Frames of code -/
def reX (X : St → Option XR) : M (Ex × SL) := reM X
theorem thenX_framed {X : St → Option XR} {B : SL → St → Option XR} (hX : Framed (reX X)) (hB : ∀ L, Framed (reX (B L))) : Framed (reX fun st => thenX B (X st)) := by
  refine (Framed.bind hX (fun p : Ex × SL => (?_ : Framed (match p.1 with | .normal => reX (B p.2) | e => M.pure (e, p.2))))).congr (fun st => ?_)
  · split
    · exact hB _
    · exact Framed.pure _
  · unfold reX reM M.bind thenX
    dsimp only
    cases X st with
    | none => rfl
    | some q =>
      obtain ⟨e, L, st1⟩ := q
      cases e <;> rfl
theorem prepR_framed {P : Program} {look : Look} (hl : LookFr look) (ex : Nat) (ops : Array Oper) (draw : Bool) (n : Nat) (L : SL) : Framed (reX ((prepR P ex ops draw).run look n L)) := by
  cases draw with
  | false =>
    refine (Framed.bind (prepOs_framed (P := P) hl ops ops.toList L) (fun L' => Framed.pure (Ex.normal, keepL (keysOf ex ops) L' L))).congr (fun st => ?_)
    show reM (fun st => match (prepOs P ops ops.toList).run look L st with
    | some p => some (Ex.normal, keepL (keysOf ex ops) p.1 L, p.2)
    | none => none) st = _
    unfold reM M.bind
    simp only
    cases (prepOs P ops ops.toList).run look L st <;> rfl
  | true =>
    cases h0 : slotsCalm ops with
    | false =>
      refine Framed.fail.congr (fun st => ?_)
      show reM (fun st => bif slotsCalm ops then _ else none) st = _
      unfold reM
      rw [h0]; rfl
    | true =>
      refine (Framed.bind (xdraw_framed (P := P) hl ops ops.toList [] L) (fun p => (?_ : Framed (bif calmAll (Region.before ops) 0 p.1 then M.pure (Ex.normal, keepL (keysOf ex ops) p.2 L) else M.fail)))).congr (fun st => ?_)
      · exact Framed.cond (Framed.pure _) Framed.fail
      · show reM (fun st => bif slotsCalm ops then
          match xdraw P look ops ops.toList [] L st with
          | some r => bif calmAll (Region.before ops) 0 r.1 then some (Ex.normal, keepL (keysOf ex ops) r.2.1 L, r.2.2) else none
          | none => none
        else none) st = _
        unfold reM M.bind
        rw [h0]
        simp only [cond_true]
        cases xdraw P look ops ops.toList [] L st with
        | none => rfl
        | some r =>
          simp only
          cases calmAll (Region.before ops) 0 r.1 <;> rfl
theorem loopX_framed {X : SL → St → Option XR} (h : ∀ L, Framed (reX (X L))) : ∀ (n : Nat) (L : SL), Framed (reX (loopX X n L))
  | 0, _L => Framed.fail.congr (fun _st => rfl)
  | n + 1, L => (thenX_framed (h (pruneL L 0)) (loopX_framed h n)).congr (fun _st => rfl)

/-- A region, carried out: slots, then slots forgotten. -/
theorem prepR_less {P : Program} {ex : Nat} {ops : Array Oper} {draw : Bool} {look : Look} {n : Nat} {L : SL} {st : St} {q : XR} (h : (prepR P ex ops draw).run look n L st = some q) (hw : Within ex L) :
    q.1 = .normal ∧ Within ex q.2.1 ∧ ∃ L1, Less q.2.1 L1 ∧ match draw with
      | false => (prepOs P ops ops.toList).run look L st = some (L1, q.2.2)
      | true => slotsCalm ops = true ∧ ∃ recs, xdraw P look ops ops.toList [] L st = some (recs, L1, q.2.2) ∧ calmAll (Region.before ops) 0 recs = true := by
  cases draw with
  | false =>
    change (match (prepOs P ops ops.toList).run look L st with
    | some p => some (Ex.normal, keepL (keysOf ex ops) p.1 L, p.2)
    | none => none) = some q at h
    cases h1 : (prepOs P ops ops.toList).run look L st with
    | none => rw [h1] at h; cases h
    | some p =>
      rw [h1] at h
      cases h
      have := region_less hw (fun t ht => prepOs_lk (t := t) _ _ _ _ h1 ht)
      exact ⟨rfl, this.2, p.1, this.1, rfl⟩
  | true =>
    change (bif slotsCalm ops then
      match xdraw P look ops ops.toList [] L st with
      | some r => bif calmAll (Region.before ops) 0 r.1 then some (Ex.normal, keepL (keysOf ex ops) r.2.1 L, r.2.2) else none
      | none => none
    else none) = some q at h
    cases h0 : slotsCalm ops with
    | false => rw [h0] at h; cases h
    | true =>
      rw [h0, cond_true] at h
      cases h1 : xdraw P look ops ops.toList [] L st with
      | none => rw [h1] at h; cases h
      | some r =>
        rw [h1] at h
        simp only at h
        cases h2 : calmAll (Region.before ops) 0 r.1 with
        | false => rw [h2] at h; cases h
        | true =>
          rw [h2] at h
          cases h
          have := region_less hw (fun t ht => xdraw_lk (t := t) _ _ _ _ _ h1 ht)
          exact ⟨rfl, this.2, r.2.1, this.1, rfl, r.1, rfl, h2⟩
theorem Cur.eqv {B g st st' w} (h : Cur B g st w) (hh : ∀ o, st'.h.get o = st.h.get o) (hn : st'.nx = st.nx) : Cur B g st' w := by
  refine ⟨h.ok.congr (fun o => (hh o).symm), by rw [hn]; exact h.fresh, ?_, by rw [hn]; exact h.pin⟩
  have b := h.base
  exact ⟨b.b0, b.pins, b.K, b.cell, b.size, b.os, b.tape, b.output, b.frame, fun o c base ho hi => b.own o c base (by rw [← hh]; exact ho) hi, b.Kold, b.blk, b.lp⟩
/-- A region in its activation. -/
theorem prepR_wp {P : Program} {look : Look} (hT : TabOk P (tabX look)) (hl : LookFr look) (hm : P.follows .mixedOrders = true) {ex n id : Nat} {ops : Array Oper} {draw : Bool} {ro : Option Nat} {N : Nat} {B : BaseP} {nt : Nat} (hs : slotsIn nt (.region id ops draw) = true) {L : SL} {st : St} {q : XR} {g : Gh} {w : World} {a : Act} {Q : Exit → Act → World → Prop}
    (h : (prepR P ex ops draw).run look n L st = some q) (hw : Within ex L) (hlo : Low st) (hn : B.Near st.nx q.2.2.nx) (hc : Cur B g st w) (hr : RelSL g w nt L a.tmps) (hd : Marks B.n0 st.h g w a.defers)
    (hQ : ∀ g w a', Cur B g q.2.2 w → RelSL g w nt q.2.1 a'.tmps → Marks B.n0 q.2.2.h g w a'.defers → (draw = true → a'.defers = a.defers) → Q .normal a' w) : (Code.region id ops draw).wpIn (fence ro) N P Q a w := by
  obtain ⟨e1, _, L1, e2, e3⟩ := prepR_less h hw
  simp only [slotsIn, Bool.and_eq_true] at hs
  cases draw with
  | false =>
    simp only at e3
    exact wpIn_region (prepOs_wp hT hl hs.2 hs.1 (p := (L1, q.2.2)) (fun g w a' hc hr hd => hQ g w a' hc (hr.less e2) hd (fun h => by cases h)) ops.toList _ (by simp) (range_ops ops) L st g w a e3 hlo hn hc hr hd)
  | true =>
    obtain ⟨h0, recs, h1, h2⟩ := e3
    have hk : regionL P (tabX look) ops true (fun L2 st2 => L2 = L1 ∧ (∀ o, st2.h.get o = q.2.2.h.get o) ∧ st2.nx = q.2.2.nx) L st :=
      ⟨h0, .inr (xdraw_ok hl _ [] [] _ _ _ _ h1 hlo (fun _ => rfl) rfl rfl (fun k x y hx => by simp at hx) h2 (fun st2 k1 k2 => ⟨rfl, k1, k2⟩))⟩
    refine drawn_ok hT hm hs.2 hs.1 (fun L2 st2 k => by rw [k.2.2]; exact hn) (fun L2 st2 g w a' k hc hr hd hdd => ?_) hk hc hr hd
    obtain ⟨rfl, k1, k2⟩ := k
    exact hQ g w a' (hc.eqv (fun o => (k1 o).symm) k2.symm) (hr.less e2) (Marks.congr hd k1) (fun _ => hdd)

/-- What a run says of a piece of code. -/
structure XOk (P : Program) (ex : Nat) (c : Code) (X : SL → St → Option XR) : Prop where
  within : ∀ (L : SL) (st : St) (q : XR), X L st = some q → Within ex L → Within ex q.2.1
  framed : ∀ L, Framed (reX (X L))
  wp : ∀ (ro : Option Nat) (N : Nat) (B : BaseP) (nt : Nat), B.n0 ≤ B.w.heap.size → (ro = none ∨ c.plainR = true) → slotsIn nt c = true → ∀ (L : SL) (st : St) (q : XR) (g : Gh) (w : World) (a : Act), X L st = some q → Within ex L → Low st → B.Near st.nx q.2.2.nx → Cur B g st w → RelSL g w nt L a.tmps → Marks B.n0 st.h g w a.defers →
    c.wpIn (fence ro) N P (Fin B nt (fun e L st => (e, L, st) = q)) a w

theorem prune_zero (L : SL) (t : Nat) : lk (pruneL L 0) t = lk L t := by
  rw [pruneL_lk, show hasB 0 t = false from by unfold hasB; rw [show Nat.shiftRight 0 t = 0 from Nat.zero_shiftRight t]; rfl]; rfl
theorem XOk.le {P : Program} {ex : Nat} {c : Code} {X : SL → St → Option XR} (h : XOk P ex c X) {L : SL} {st : St} {q : XR} (hx : X L st = some q) (hl : Low st) : st.nx ≤ q.2.2.nx := (h.framed L st _ _ hl (reM_some hx)).1
theorem XOk.low {P : Program} {ex : Nat} {c : Code} {X : SL → St → Option XR} (h : XOk P ex c X) {L : SL} {st : St} {q : XR} (hx : X L st = some q) (hl : Low st) : Low q.2.2 := (h.framed L).low hl (reM_some hx)
theorem loopX_ok {P : Program} {ex : Nat} {c : Code} {X : SL → St → Option XR} (h : XOk P ex c X) (n : Nat) : XOk P ex (.loop c) (loopX X n) := by
  have hw' : ∀ L, Within ex L → Within ex (pruneL L 0) := fun L hw t ht => by rw [prune_zero]; exact hw t ht
  refine ⟨?_, loopX_framed h.framed n, ?_⟩
  · induction n with
    | zero => intro L st q hx; cases hx
    | succ n ih =>
      intro L st q hx hw
      change thenX (loopX X n) (X (pruneL L 0) st) = some q at hx
      rcases thenX_some hx with ⟨L1, st1, h1, h2⟩ | ⟨h1, _⟩
      · exact ih _ _ _ h2 (h.within _ _ _ h1 (hw' L hw))
      · exact h.within _ _ _ h1 (hw' L hw)
  · intro ro N B nt hn0 hpl hs L st q g w a hx hw hlo hnr hc hr hd
    refine wpIn_loop_least fun Y hY => ?_
    induction n generalizing L st g w a with
    | zero => cases hx
    | succ n ih =>
      change thenX (loopX X n) (X (pruneL L 0) st) = some q at hx
      have hr' : RelSL g w nt (pruneL L 0) a.tmps := ⟨hr.1, fun t => by rw [prune_zero]; exact hr.2 t⟩
      rcases thenX_some hx with ⟨L1, st1, h1, h2⟩ | ⟨h1, h2⟩
      · have hlo1 := h.low h1 hlo
        have hle1 := h.le h1 hlo
        have hle2 : st1.nx ≤ q.2.2.nx := (loopX_framed h.framed n L1 st1 _ _ hlo1 (reM_some h2)).1
        refine hY a w (wpIn_mono (h.wp ro N B nt hn0 hpl hs _ _ _ g w a h1 (hw' L hw) hlo (hnr.sub (Nat.le_refl _) hle2) hc hr' hd) ?_)
        rintro exx a1 w1 ⟨e1, L1', st1', g1, rfl, he, hc1, hr1, hd1⟩
        cases he
        exact ih L1 st1 g1 w1 a1 h2 (h.within _ _ _ h1 (hw' L hw)) hlo1 (hnr.sub hle1 (Nat.le_refl _)) hc1 hr1 hd1
      · refine hY a w (wpIn_mono (h.wp ro N B nt hn0 hpl hs _ _ _ g w a h1 (hw' L hw) hlo hnr hc hr' hd) ?_)
        rintro exx a1 w1 ⟨e1, L1, st1, g1, rfl, he, hc1, hr1, hd1⟩
        subst he
        cases e1 with
        | normal => exact (h2 rfl).elim
        | exit id => exact ⟨.exit id, L1, st1, g1, rfl, rfl, hc1, hr1, hd1⟩
        | ret => exact ⟨.ret, L1, st1, g1, rfl, rfl, hc1, hr1, hd1⟩

end
end Go.Vm
