/- Runs on abstract values: code, calls. No condition. -/
import Derived.Test.YtnkjblopaagkoaaWxB
namespace Go.Vm
noncomputable section

abbrev XR := Ex × SL × St
structure XC where
  run : Look → Nat → SL → St → Option XR
def prepR (P : Program) (ex : Nat) (ops : Array Oper) (draw : Bool) : XC :=
  match draw with
  | false => ⟨fun look _ L st =>
    match (prepOs P ops ops.toList).run look L st with
    | some p => some (.normal, keepL (keysOf ex ops) p.1 L, p.2)
    | none => none⟩
  | true => ⟨fun look _ L st =>
    bif slotsCalm ops then
      match xdraw P look ops ops.toList [] L st with
      | some r => bif calmAll (Region.before ops) 0 r.1 then (match litRun P ops r.1 r.2.1 r.2.2 with | some u => some (.normal, keepL (keysOf ex ops) r.2.1 L, u.2) | none => none) else none
      | none => none
    else none⟩
def thenX (B : SL → St → Option XR) (r : Option XR) : Option XR :=
  match r with
  | some p =>
    match p.1 with
    | .normal => B p.2.1 p.2.2
    | e => some (e, p.2.1, p.2.2)
  | none => none
def outX (id : Nat) (e : Ex) : Ex :=
  match e with
  | .exit j => bif Nat.beq j id then .normal else .exit j
  | e => e
def loopX (B : SL → St → Option XR) (n : Nat) : SL → St → Option XR :=
  Nat.rec (motive := fun _ => SL → St → Option XR) (fun _ _ => none) (fun _ ih L st => thenX ih (B (pruneL L 0) st)) n
/-! ### Ranges over functions -/
abbrev XIR := Ex × Option Ex × SL × St
abbrev RX := List AV → St → Option (Ex × St)
def yieldX (y : Nat) (o : Oper) (L : SL) : Option (Array Operand) :=
  match o.op with
  | .call { callee := .value f, args, .. } =>
    match evL L f with
    | .yl k => bif Nat.beq k y then some args else none
    | _ => none
  | _ => none
def xoneI (P : Program) (look : Look) (ops : Array Oper) (y : Nat) (R : RX) (o : Oper) (pe : Option Ex) (L : SL) (st : St) : Option (Option Ex × SL × St) :=
  match gval ops L o with
  | some true =>
    match yieldX y o L with
    | some args =>
      match pe with
      | none =>
        match R (args.toList.map (evL L)) st with
        | some q => some (afterOf q.1, putL o.dst (.sc (.bool (isNormal q.1))) L, q.2)
        | none => none
      | some _ => none
    | none =>
      match (prepA P o).run look (evL L) st with
      | some (v, st') => some (pe, putL o.dst v L, st')
      | none => none
  | some false => some (pe, putL o.dst (.sc undef) L, st)
  | none => none
structure XIO where
  run : Look → Nat → RX → Option Ex → SL → St → Option (Option Ex × SL × St)
def prepIOs (P : Program) (ops : Array Oper) (l : List Oper) : XIO :=
  List.rec (motive := fun _ => XIO) ⟨fun _ _ _ pe L st => some (pe, L, st)⟩ (fun o _ ih => ⟨fun look y R pe L st =>
    match xoneI P look ops y R o pe L st with
    | some p => ih.run look y R p.1 p.2.1 p.2.2
    | none => none⟩) l
structure XIC where
  run : Look → Nat → Nat → RX → Option Ex → SL → St → Option XIR
def prepIR (P : Program) (ex : Nat) (ops : Array Oper) (draw : Bool) : XIC :=
  match draw with
  | false => ⟨fun look _ y R pe L st =>
    match (prepIOs P ops ops.toList).run look y R pe L st with
    | some p => some (.normal, p.1, keepL (keysOf ex ops) p.2.1 L, p.2.2)
    | none => none⟩
  | true => ⟨fun look n _ _ pe L st =>
    match (prepR P ex ops true).run look n L st with
    | some q => some (q.1, pe, q.2.1, q.2.2)
    | none => none⟩
def thenI (B : Option Ex → SL → St → Option XIR) (r : Option XIR) : Option XIR :=
  match r with
  | some p =>
    match p.1 with
    | .normal => B p.2.1 p.2.2.1 p.2.2.2
    | e => some (e, p.2)
  | none => none
def loopI (B : Option Ex → SL → St → Option XIR) (n : Nat) : Option Ex → SL → St → Option XIR :=
  Nat.rec (motive := fun _ => Option Ex → SL → St → Option XIR) (fun _ _ _ => none) (fun _ ih pe L st => thenI ih (B pe (pruneL L 0) st)) n
def prepI (P : Program) (ex : Nat) (c : Code) : XIC :=
  Code.rec (motive := fun _ => XIC)
    ⟨fun _ _ _ _ pe L st => some (.normal, pe, L, st)⟩
    (fun _ ops draw => prepIR P ex ops draw)
    (fun _ _ A B => ⟨fun look n y R pe L st => thenI (B.run look n y R) (A.run look n y R pe L st)⟩)
    (fun c _ _ A B => ⟨fun look n y R pe L st =>
      match (evL L c).bool with
      | some b => bif b then A.run look n y R pe L st else B.run look n y R pe L st
      | none => none⟩)
    (fun id _ B => ⟨fun look n y R pe L st =>
      match B.run look n y R pe L st with
      | some p => some (outX id p.1, p.2)
      | none => none⟩)
    (fun _ B => ⟨fun look n y R pe L st => loopI (B.run look n y R) n pe L st⟩)
    (fun _ _ _ _ _ _ => ⟨fun _ _ _ _ _ _ _ => none⟩)
    (fun id => ⟨fun _ _ _ _ pe L st => some (.exit id, pe, L, st)⟩)
    (fun _ _ => ⟨fun _ _ _ _ _ _ _ => none⟩)
    (fun _ => ⟨fun _ _ _ _ pe L st => some (.normal, pe, L, st)⟩)
    (fun _ => ⟨fun _ _ _ _ _ _ _ => none⟩)
    ⟨fun _ _ _ _ pe L st => some (.ret, pe, L, st)⟩
    (fun _ => ⟨fun _ _ _ _ _ _ _ => none⟩)
    c

/-! ### Slots that are read elsewhere than where they are written -/
def addsB (l : List Nat) (s : Nat) : Nat := List.rec (motive := fun _ => Nat → Nat) (fun s => s) (fun t _ ih s => ih (addB s t)) l s
def readsOf (ops : Array Oper) (o : Oper) : List Nat :=
  (o.op.operands.toList.filterMap fun x => match x with | .tmp u => some u | _ => none) ++ (match o.guard with | some (j, _) => [gslot ops j] | none => [])
def newReads (seen : Nat) (l : List Nat) (s : Nat) : Nat := List.rec (motive := fun _ => Nat → Nat) (fun s => s) (fun t _ ih s => ih (bif hasB seen t then s else addB s t)) l s
def regionEx (ops : Array Oper) (l : List Oper) (seen s : Nat) : Nat :=
  List.rec (motive := fun _ => Nat → Nat → Nat) (fun _ s => s) (fun o _ ih seen s => ih (match o.dst with | some d => addB seen d | none => seen) (newReads seen (readsOf ops o) s)) l seen s
def opEx (c : Operand) (s : Nat) : Nat := match c with | .tmp t => addB s t | _ => s
def codeEx (c : Code) : Nat → Nat :=
  Code.rec (motive := fun _ => Nat → Nat) (fun s => s) (fun _ ops _ s => regionEx ops ops.toList 0 s) (fun _ _ A B s => B (A s))
    (fun c _ _ A B s => B (A (opEx c s))) (fun _ _ B => B) (fun _ B => B) (fun f _ _ _ A B s => B (A (opEx f s))) (fun _ s => s) (fun _ B => B) (fun _ s => s) (fun _ s => s) (fun s => s) (fun _ s => s) c
def resEx (l : List ResultVar) (s : Nat) : Nat := List.rec (motive := fun _ => Nat → Nat) (fun s => s) (fun r _ ih s => ih (addB s (match r with | .tmp t => t | .cell a _ => a))) l s
def argsX (ex : Nat) (L : SL) : SL := List.rec (motive := fun _ => SL) [] (fun p _ ih => bif hasB ex p.1 then p :: ih else ih) L
def putX (ex : Nat) (ps : List Tmp) : List AV → SL → SL :=
  List.rec (motive := fun _ => List AV → SL → SL) (fun _ L => L) (fun t _ ih vs L =>
    match vs with
    | v :: vs => ih vs (bif hasB ex t then (t, v) :: L else L)
    | [] => L) ps

structure XIF where
  ok : Bool
  nt : Nat
  run : Look → Nat → Nat → RX → List AV → St → Option XIR
/-- An iterator, made ready. -/
def iterX (P : Program) (g : Nat) : XIF :=
  match iterB P g with
  | some q => ⟨true, q.1, fun look n y R args st => (prepI P (codeEx q.2 0) q.2).run look n y R none (argsX (codeEx q.2 0) (argsL 0 args)) st⟩
  | none => ⟨false, 0, fun _ _ _ _ _ _ => none⟩
def roundX (ex : Nat) (A B : SL → St → Option XR) (ps : List Tmp) (L : SL) : RX := fun args st =>
  bif Nat.beq args.length ps.length then
    match A (putX ex ps args L) st with
    | some p =>
      match p.1 with
      | .normal =>
        match B p.2.1 p.2.2 with
        | some q => some (q.1, q.2.2)
        | none => none
      | _ => none
    | none => none
  else none
def endX (L : SL) (r : Option XIR) : Option XR :=
  match r with
  | some q =>
    match q.1 with
    | .exit _ => none
    | _ =>
      match q.2.1 with
      | none => some (.normal, L, q.2.2.2)
      | some e => some (e, L, q.2.2.2)
  | none => none
def reserve : M Nat := fun st => some (st.nx, { h := st.h, nx := st.nx + 1, rl := st.rl, wl := st.nx :: st.wl })
def rangeX (P : Program) (ex : Nat) (look : Look) (n : Nat) (f : Operand) (ps : List Tmp) (A B : SL → St → Option XR) (L : SL) (st : St) : Option XR :=
  match iterFn (evL L f) with
  | some q =>
    bif (iterX P q.1).ok && Nat.ble (q.2.length + 1) (iterX P q.1).nt then
      endX L ((iterX P q.1).run look n st.nx (roundX ex A B ps L) (.yl st.nx :: q.2) { h := st.h, nx := st.nx + 1, rl := st.rl, wl := st.nx :: st.wl })
    else none
  | none => none

def prepC (P : Program) (ex : Nat) (c : Code) : XC :=
  Code.rec (motive := fun _ => XC)
    ⟨fun _ _ L st => some (.normal, L, st)⟩
    (fun _ ops draw => prepR P ex ops draw)
    (fun _ _ A B => ⟨fun look n L st => thenX (B.run look n) (A.run look n L st)⟩)
    (fun c _ _ A B => ⟨fun look n L st =>
      match (evL L c).bool with
      | some b => bif b then A.run look n L st else B.run look n L st
      | none => none⟩)
    (fun id _ B => ⟨fun look n L st =>
      match B.run look n L st with
      | some p => some (outX id p.1, p.2.1, p.2.2)
      | none => none⟩)
    (fun _ B => ⟨fun look n L st => loopX (B.run look n) n L st⟩)
    (fun f ps _ _ A B => ⟨fun look n L st => rangeX P ex look n f ps.toList (A.run look n) (B.run look n) L st⟩)
    (fun id => ⟨fun _ _ L st => some (.exit id, L, st)⟩)
    (fun _ B => B)
    (fun _ => ⟨fun _ _ L st => some (.normal, L, st)⟩)
    (fun _ => ⟨fun _ _ _ _ => none⟩)
    ⟨fun _ _ L st => some (.ret, L, st)⟩
    (fun _ => ⟨fun _ _ _ _ => none⟩)
    c

theorem thenX_some {B : SL → St → Option XR} {r : Option XR} {q : XR} (h : thenX B r = some q) : (∃ L st, r = some (.normal, L, st) ∧ B L st = some q) ∨ (r = some q ∧ q.1 ≠ .normal) := by
  unfold thenX at h
  cases r with
  | none => cases h
  | some p =>
    obtain ⟨e, L, st⟩ := p
    simp only at h
    cases e with
    | normal => exact .inl ⟨L, st, rfl, h⟩
    | exit id => cases h; exact .inr ⟨rfl, fun h => by cases h⟩
    | ret => cases h; exact .inr ⟨rfl, fun h => by cases h⟩

/-! ### Frames of code -/
def reX (X : St → Option XR) : M (Ex × SL) := reM X
theorem thenX_framed {X : St → Option XR} {B : SL → St → Option XR} (hX : Framed (reX X)) (hB : ∀ L, Framed (reX (B L))) : Framed (reX fun st => thenX B (X st)) := by
  refine (Framed.bind hX (fun p : Ex × SL => (?_ : Framed (match p.1 with | .normal => reX (B p.2) | e => M.pure (e, p.2))))).congr (fun st => ?_)
  · split
    · exact hB _
    · exact Framed.pure _
  · unfold reX reM M.bind thenX
    dsimp only
    cases X st with
    | none => rfl
    | some q =>
      obtain ⟨e, L, st1⟩ := q
      cases e <;> rfl
theorem litRun_framed {P : Program} (ops : Array Oper) (recs : List Rec) (L : SL) : Framed (litRun P ops recs L) := by
  unfold litRun litMap litPut
  repeat' (first | exact Framed.pure _ | exact Framed.fail | exact Framed.hget _ | exact Framed.hset _ _ | apply Framed.cond | (refine Framed.bind ?_ fun x => ?_) | split)
theorem prepR_framed {P : Program} {look : Look} (hl : LookFr look) (ex : Nat) (ops : Array Oper) (draw : Bool) (n : Nat) (L : SL) : Framed (reX ((prepR P ex ops draw).run look n L)) := by
  cases draw with
  | false =>
    refine (Framed.bind (prepOs_framed (P := P) hl ops ops.toList L) (fun L' => Framed.pure (Ex.normal, keepL (keysOf ex ops) L' L))).congr (fun st => ?_)
    show reM (fun st => match (prepOs P ops ops.toList).run look L st with
    | some p => some (Ex.normal, keepL (keysOf ex ops) p.1 L, p.2)
    | none => none) st = _
    unfold reM M.bind
    simp only
    cases (prepOs P ops ops.toList).run look L st <;> rfl
  | true =>
    cases h0 : slotsCalm ops with
    | false =>
      refine Framed.fail.congr (fun st => ?_)
      show reM (fun st => bif slotsCalm ops then _ else none) st = _
      unfold reM
      rw [h0]; rfl
    | true =>
      refine (Framed.bind (xdraw_framed (P := P) hl ops ops.toList [] L) (fun p => (?_ : Framed (bif calmAll (Region.before ops) 0 p.1 then (litRun P ops p.1 p.2).bind (fun _ => M.pure (Ex.normal, keepL (keysOf ex ops) p.2 L)) else M.fail)))).congr (fun st => ?_)
      · exact Framed.cond (Framed.bind (litRun_framed _ _ _) (fun _ => Framed.pure _)) Framed.fail
      · show reM (fun st => bif slotsCalm ops then
          match xdraw P look ops ops.toList [] L st with
          | some r => bif calmAll (Region.before ops) 0 r.1 then (match litRun P ops r.1 r.2.1 r.2.2 with | some u => some (Ex.normal, keepL (keysOf ex ops) r.2.1 L, u.2) | none => none) else none
          | none => none
        else none) st = _
        unfold reM M.bind
        rw [h0]
        simp only [cond_true]
        cases xdraw P look ops ops.toList [] L st with
        | none => rfl
        | some r =>
          simp only
          cases calmAll (Region.before ops) 0 r.1 with
          | false => rfl
          | true =>
            show _ = M.bind (litRun P ops r.1 r.2.1) (fun _ => M.pure (Ex.normal, keepL (keysOf ex ops) r.2.1 L)) r.2.2
            unfold M.bind
            simp only [cond_true]
            cases litRun P ops r.1 r.2.1 r.2.2 <;> rfl
theorem loopX_framed {X : SL → St → Option XR} (h : ∀ L, Framed (reX (X L))) : ∀ (n : Nat) (L : SL), Framed (reX (loopX X n L))
  | 0, _L => Framed.fail.congr (fun _st => rfl)
  | n + 1, L => (thenX_framed (h (pruneL L 0)) (loopX_framed h n)).congr (fun _st => rfl)

/-- A region, carried out: slots, then slots forgotten. -/
theorem prepR_less {P : Program} {ex : Nat} {ops : Array Oper} {draw : Bool} {look : Look} {n : Nat} {L : SL} {st : St} {q : XR} (h : (prepR P ex ops draw).run look n L st = some q) (hw : Within ex L) :
    q.1 = .normal ∧ Within ex q.2.1 ∧ ∃ L1, Less q.2.1 L1 ∧ match draw with
      | false => (prepOs P ops ops.toList).run look L st = some (L1, q.2.2)
      | true => slotsCalm ops = true ∧ ∃ recs st2 u, xdraw P look ops ops.toList [] L st = some (recs, L1, st2) ∧ litRun P ops recs L1 st2 = some (u, q.2.2) ∧ calmAll (Region.before ops) 0 recs = true := by
  cases draw with
  | false =>
    change (match (prepOs P ops ops.toList).run look L st with
    | some p => some (Ex.normal, keepL (keysOf ex ops) p.1 L, p.2)
    | none => none) = some q at h
    cases h1 : (prepOs P ops ops.toList).run look L st with
    | none => rw [h1] at h; cases h
    | some p =>
      rw [h1] at h
      cases h
      have := region_less hw (fun t ht => prepOs_lk (t := t) _ _ _ _ h1 ht)
      exact ⟨rfl, this.2, p.1, this.1, rfl⟩
  | true =>
    change (bif slotsCalm ops then
      match xdraw P look ops ops.toList [] L st with
      | some r => bif calmAll (Region.before ops) 0 r.1 then (match litRun P ops r.1 r.2.1 r.2.2 with | some u => some (Ex.normal, keepL (keysOf ex ops) r.2.1 L, u.2) | none => none) else none
      | none => none
    else none) = some q at h
    cases h0 : slotsCalm ops with
    | false => rw [h0] at h; cases h
    | true =>
      rw [h0, cond_true] at h
      cases h1 : xdraw P look ops ops.toList [] L st with
      | none => rw [h1] at h; cases h
      | some r =>
        rw [h1] at h
        simp only at h
        cases h2 : calmAll (Region.before ops) 0 r.1 with
        | false => rw [h2] at h; cases h
        | true =>
          rw [h2, cond_true] at h
          cases h3 : litRun P ops r.1 r.2.1 r.2.2 with
          | none => rw [h3] at h; cases h
          | some u =>
          rw [h3] at h
          cases h
          have := region_less hw (fun t ht => xdraw_lk (t := t) _ _ _ _ _ h1 ht)
          exact ⟨rfl, this.2, r.2.1, this.1, rfl, r.1, r.2.2, u.1, rfl, h3, h2⟩
theorem Cur.eqv {B g st st' w} (h : Cur B g st w) (hh : ∀ o, st'.h.get o = st.h.get o) (hn : st'.nx = st.nx) : Cur B g st' w := by
  refine ⟨h.ok.congr (fun o => (hh o).symm), by rw [hn]; exact h.fresh, ?_, by rw [hn]; exact h.pin⟩
  have b := h.base
  exact ⟨b.b0, b.pins, b.K, b.cell, b.size, b.os, b.tape, b.output, b.frame, fun o c base ho hi => b.own o c base (by rw [← hh]; exact ho) hi, b.Kold, b.blk, b.lp⟩
/-! ### Regions that write maps out -/
theorem anyIns_none : ∀ {l : List Oper}, anyIns l = none → ∀ o ∈ l, isIns o = false
  | [], _, o, ho => by cases ho
  | a :: l, h, o, ho => by
    change (bif isIns a then some a else anyIns l) = none at h
    cases ha : isIns a with
    | true => rw [ha] at h; cases h
    | false =>
      rw [ha, cond_false] at h
      rcases List.mem_cons.1 ho with rfl | ho
      · exact ha
      · exact anyIns_none h o ho
theorem litsL_spec {f : Nat → Oper → Option Lit} (hf : ∀ i o q, f i o = some q → q.i = i) : ∀ (l : List Oper) (n : Nat) (lits : List Lit), litsL f l n = some lits →
    (∀ q ∈ lits, ∃ j o, l[j]? = some o ∧ q.i = n + j ∧ f q.i o = some q) ∧ (∀ j o, l[j]? = some o → isIns o = true → ∃ q ∈ lits, q.i = n + j) ∧ (lits.map (·.i)).Nodup
  | [], n, lits, h => by cases h; exact ⟨fun q hq => (by cases hq), fun j o hj => (by simp at hj), List.nodup_nil⟩
  | a :: l, n, lits, h => by
    unfold litsL at h
    cases ha : isIns a with
    | true =>
      rw [ha, cond_true] at h
      split at h
      · rename_i q l' hq hl'
        cases h
        obtain ⟨h1, h2, h3⟩ := litsL_spec hf l (n + 1) l' hl'
        have hqi := hf _ _ _ hq
        refine ⟨fun r hr => ?_, fun j o hj ho => ?_, ?_⟩
        · rcases List.mem_cons.1 hr with rfl | hr
          · exact ⟨0, a, rfl, by omega, by rw [hqi]; exact hq⟩
          · obtain ⟨j, o, q1, q2, q3⟩ := h1 r hr
            exact ⟨j + 1, o, by simpa using q1, by omega, q3⟩
        · cases j with
          | zero => exact ⟨q, by simp, by omega⟩
          | succ j =>
            obtain ⟨r, r1, r2⟩ := h2 j o (by simpa using hj) ho
            exact ⟨r, by simp [r1], by omega⟩
        · rw [List.map_cons, List.nodup_cons]
          refine ⟨fun hm => ?_, h3⟩
          obtain ⟨r, r1, r2⟩ := List.mem_map.1 hm
          obtain ⟨j, o, q1, q2, q3⟩ := h1 r r1
          omega
      · cases h
    | false =>
      rw [ha, cond_false] at h
      obtain ⟨h1, h2, h3⟩ := litsL_spec hf l (n + 1) lits h
      refine ⟨fun r hr => ?_, fun j o hj ho => ?_, h3⟩
      · obtain ⟨j, o, q1, q2, q3⟩ := h1 r hr
        exact ⟨j + 1, o, by simpa using q1, by omega, q3⟩
      · cases j with
        | zero => simp at hj; subst hj; rw [ha] at ho; cases ho
        | succ j =>
          obtain ⟨r, r1, r2⟩ := h2 j o (by simpa using hj) ho
          exact ⟨r, r1, by omega⟩
theorem litAt_some {P : Program} {ops : Array Oper} {L : SL} {p k0 i : Nat} {o : Oper} {q : Lit} (h : litAt P ops L p k0 i o = some q) :
    ∃ t m k x kt et, o.op = .insert t m k x ∧ o.dst = none ∧ o.guard = none ∧ P.underlying t = some (.map kt et) ∧ P.underlying kt = some q.d ∧ evL L m = .mp p ∧ (evL L k).toV = some q.e.1 ∧ ev P (Instr.checkKey false 10000 kt q.e.1) = some () ∧ evL L x = q.e.2 ∧ q.i = i ∧ ((Region.before ops).getD i 0).testBit k0 = true ∧ lateOk ops i o = true := by
  unfold litAt at h
  split at h
  · rename_i t m k x h1 h2 h3
    split at h
    · rename_i kt et h4
      split at h
      · rename_i d key h5 h6
        split at h
        · rename_i u h7
          cases hb : ((isMp p (evL L m) && ((Region.before ops).getD i 0).testBit k0) && lateOk ops i o) with
          | false => rw [hb] at h; cases h
          | true =>
            rw [hb] at h
            cases h
            simp only [Bool.and_eq_true] at hb
            have hmp : evL L m = .mp p := by
              have := hb.1.1
              unfold isMp at this
              split at this
              · rename_i r he; rw [he, Nat.eq_of_beq_eq_true this]
              · cases this
            exact ⟨t, m, k, x, kt, et, h1, h2, h3, h4, h5, hmp, h6, h7, rfl, rfl, hb.1.2, hb.2⟩
        · cases h
      · cases h
    · cases h
  · cases h
theorem valS_keep {ds : List DS} {L0 : SL} {D : Nat → Bool} {i t : Nat} : ∀ m, i ≤ m → (∀ k e, i ≤ k → ds[k]? = some e → e.o.dst ≠ some t) → valS ds L0 D m t = valS ds L0 D i t
  | 0, h, _ => by rw [show i = 0 from by omega]
  | m + 1, h, hn => by
    by_cases e : i = m + 1
    · rw [e]
    · have ih := valS_keep (L0 := L0) (D := D) m (by omega) hn
      rw [valS]
      cases hd : ds[m]? with
      | none => exact ih
      | some d =>
        simp only
        rw [if_neg (fun q => hn m d (by omega) hd q.2), ih]
theorem evL_late {P : Program} {T : Tab} {ops : Array Oper} {ds : List DS} {L0 : SL} {st0 : St} {L' : SL} {st' : St} (R : RunOk P T ops ds L0 st0 L' st') {i : Nat} {d : DS} (hi : ds[i]? = some d) (hl : lateOk ops i d.o = true) {y : Operand} (hy : y ∈ d.o.op.operands) : onlyOf d.o d.L y = evL L' y := by
  cases y with
  | tmp t =>
    have hany : usesTmp d.o t = true := by
      unfold usesTmp
      rw [Array.any_eq_true']
      exact ⟨_, hy, by simp⟩
    show (bif usesTmp d.o t then lk d.L t else .bad) = lk L' t
    rw [hany, cond_true, (R.at' i d hi).1 t, R.fin.1 t, valS_keep (i := i) ds.length (Nat.le_of_lt (List.getElem?_eq_some_iff.1 hi).1) (fun k e hik hk he => ?_)]
    have hz : (e.o, k) ∈ ops.toList.zipIdx := by rw [List.mem_zipIdx_iff_getElem?, ← R.os]; simp [hk]
    have := List.all_eq_true.1 hl _ hz
    simp only [he, hany, Bool.not_true, Bool.or_false, Nat.blt_eq] at this
    omega
  | const v => rfl
  | global g => rfl
  | func f => rfl
theorem whoW_lt {p : Nat} : ∀ {l : List Rec} {i k : Nat}, whoW p l i = some k → i ≤ k ∧ k < i + l.length
  | [], _, _, h => by cases h
  | a :: l, i, k, h => by
    unfold whoW at h
    cases hb : memN p a.W with
    | true => rw [hb] at h; cases h; simp
    | false =>
      rw [hb, cond_false] at h
      have := whoW_lt h
      simp only [List.length_cons]
      omega
theorem litRun_some {P : Program} {ops : Array Oper} {recs : List Rec} {L : SL} {st2 stF : St} {u : Unit} (h : litRun P ops recs L st2 = some (u, stF)) : (anyIns ops.toList = none ∧ stF = st2) ∨
    ∃ p k0 lits, whoW p recs 0 = some k0 ∧ litsL (litAt P ops L p k0) ops.toList 0 = some lits ∧ litsB ops recs p k0 lits = true ∧ st2.h.get p = some (.map []) ∧ stF.h = st2.h.set depth p (some (.map (lits.map (·.e)))) ∧ stF.nx = st2.nx := by
  cases hins : anyIns ops.toList with
  | none =>
    simp only [litRun, hins] at h
    cases h
    exact .inl ⟨rfl, rfl⟩
  | some o =>
    refine .inr ?_
    cases hop : o.op with
    | insert t m k x =>
      cases hmp : evL L m with
      | mp p =>
        simp only [litRun, hins, hop, hmp, litMap] at h
        cases hk : whoW p recs 0 with
        | none => rw [hk] at h; cases h
        | some k0 =>
        rw [hk] at h
        simp only at h
        cases hq : litsL (litAt P ops L p k0) ops.toList 0 with
        | none => rw [hq] at h; cases h
        | some lits =>
        rw [hq] at h
        simp only at h
        cases hb : litsB ops recs p k0 lits with
        | false => rw [hb] at h; cases h
        | true =>
        rw [hb, cond_true] at h
        obtain ⟨x, s1, g1, g2⟩ := bind_some h
        obtain ⟨hx, hs1, hn1⟩ := hget_some g1
        cases x with
        | map es =>
          cases es with
          | nil =>
            change hset p (.map (lits.map (·.e))) s1 = some (u, stF) at g2
            obtain ⟨_, _, hF, hnF⟩ := hset_some g2
            exact ⟨p, k0, lits, hk, hq, hb, hx, by rw [hF, hs1], by rw [hnF, hn1]⟩
          | cons e es => cases g2
        | row cells k st et => cases g2
        | loop => cases g2
      | _ => simp only [litRun, hins, hop, hmp] at h; cases h
    | _ => simp only [litRun, hins, hop] at h; cases h
theorem draw_wp {P : Program} {look : Look} (hT : TabOkF P (tabX look)) (hl : LookFr look) (hm : P.follows .mixedOrders = true) {id : Nat} {ops : Array Oper} {ro : Option Nat} {N : Nat} {B : BaseP} {nt : Nat} (hg : guardsIn nt ops = true) (hdst : dstsIn nt ops = true) (h0 : slotsCalm ops = true) {L L1 : SL} {st st2 stF : St} {u : Unit} {recs : List Rec} {g : Gh} {w : World} {a : Act} {Q : Exit → Act → World → Prop}
    (h1 : xdraw P look ops ops.toList [] L st = some (recs, L1, st2)) (h3 : litRun P ops recs L1 st2 = some (u, stF)) (h2 : calmAll (Region.before ops) 0 recs = true) (hlo : Low st) (hn : B.Near st.nx stF.nx) (hc : Cur B g st w) (hr : RelSL g w nt L a.tmps) (hd : Marks B.D B.n0 st.h g w a.defers)
    (hK : ∀ g w a', Cur B g stF w → RelSL g w nt L1 a'.tmps → Marks B.D B.n0 stF.h g w a'.defers → a'.defers = a.defers → Q .normal a' w) : (Code.region id ops true).wpIn (fence ro) N P Q a w := by
  have hy := xdraw_ok (E := fun l' => calmAll (Region.before ops) 0 l' = true ∧ recs.length = l'.length ∧ ∀ (k : Nat) x y, recs[k]? = some x → l'[k]? = some y → SubRec x y) (K := fun L2 s => L2 = L1 ∧ (∀ o, s.h.get o = st2.h.get o) ∧ s.nx = st2.nx) hl ops.toList [] [] L st st (recs, L1, st2) h1 hlo (fun _ => rfl) rfl rfl (fun k x y hx => by simp at hx) (fun l' hl hs => ⟨calmAll_sub _ _ 0 hl hs h2, hl, hs⟩) (fun s k1 k2 => ⟨rfl, k1, k2⟩)
  obtain ⟨ds, L', st', e1, e2, e3, ⟨e4, e5, e6⟩, rfl, e8, e9⟩ := opsY_run _ _ _ _ hy
  rw [List.nil_append] at e4 e5 e6
  have R := runOk_of h0 e1 (fun d hd => (e2 d hd).1) e3
  have C := calm_of e4
  have hgY : ∀ d ∈ ds, gvalY ops d.L d.o = some d.want := fun d hd => (e2 d hd).2
  have hlo2 : Low st2 := (xdraw_framed (P := P) hl ops ops.toList [] L).low hlo (show reM (xdraw P look ops ops.toList [] L) st = some ((recs, L'), st2) from by unfold reM; rw [h1])
  rcases litRun_some h3 with ⟨hins, rfl⟩ | ⟨p, k0, lits, hk0, hlits, hb, hx, hF, hnF⟩
  · refine drawn_gen hm (H := fun D o => valH ds st.h D ds.length o) (stF := stF) R (fun o => valH_none _) (fun D hD o => by rw [valH_all _ hD, ← R.fin.2.1 o, e8]) e9.symm (fun w0 D a' w' i d K hi hD hrd A hK => ?_) (by rw [e9]; exact hn) hc hr hd hK
    have hmem := List.mem_of_getElem? hi
    have hni : isIns d.o = false := anyIns_none hins d.o (by rw [← e1]; exact List.mem_map_of_mem hmem)
    have hgv := hgY d hmem
    unfold gvalY at hgv
    rw [hni] at hgv
    exact At.step hT R hg hdst hi hgv (calm_obj R C hi hD A.closed hrd).1 (calm_obj R C hi hD A.closed hrd).2 hD hrd A hK
  · obtain ⟨s1', s2', s3'⟩ := litsL_spec (f := litAt P ops L' p k0) (fun i o q h => by
      obtain ⟨_, _, _, _, _, _, _, _, _, _, _, _, _, _, _, h, _⟩ := litAt_some h
      exact h) _ _ _ hlits
    simp only [litsB, Bool.and_eq_true, List.all_eq_true] at hb
    obtain ⟨⟨b1, b2⟩, b3, b4⟩ := hb
    have hplim : p ≤ limit := Nat.le_of_ble_eq_true b2
    have hlen : ds.length = recs.length := by rw [e5]; simp
    have hk0l := whoW_lt hk0
    obtain ⟨d0, hd0⟩ : ∃ d0, ds[k0]? = some d0 := ⟨ds[k0]'(by omega), by simp⟩
    refine drawn_lit hT hm hg hdst R C hgY (p := p) (k0 := k0) (lits := lits) ⟨s3', fun q hq r hr hne => ?_⟩ (fun q hq => ?_) (fun i d hi hins => ?_) hd0 ?_ (fun k e hk hne => ?_) (by rw [e8]; exact hx) (by rw [e9]; exact hlo2 p _ hx) hplim (fun o => ?_) (by rw [hnF, e9]) (by rw [e9, ← hnF]; exact hn) hc hr hd hK
    · have := b1 q hq r hr
      simp only [Bool.or_eq_true, Bool.and_eq_true] at this
      rcases this with h | h
      · exact absurd (Nat.eq_of_beq_eq_true h) hne
      · refine ⟨h.1, ?_⟩
        have := h.2
        unfold isFalse at this
        split at this
        · assumption
        · cases this
    · obtain ⟨j, o, q1, q2, q3⟩ := s1' q hq
      rw [Nat.zero_add] at q2
      subst q2
      obtain ⟨t, m, k, x, kt, et, a1, a2, a3, a4, a5, a6, a7, a8, a9, _, a11, a12⟩ := litAt_some q3
      obtain ⟨d, hd⟩ : ∃ d, ds[q.i]? = some d := ⟨ds[q.i]'(by rw [R.len]; simpa using (List.getElem?_eq_some_iff.1 q1).1), by simp⟩
      have hdo : d.o = o := by
        have := R.get hd
        rw [← Array.getElem?_toList, q1] at this
        cases this; rfl
      subst hdo
      have hin : ∀ y, y = m ∨ y = k ∨ y = x → y ∈ d.o.op.operands := fun y hy => by
        rw [a1]
        rcases hy with rfl | rfl | rfl <;> simp [Op.operands]
      exact ⟨⟨d, hd, t, m, k, x, kt, et, a1, a2, a3, a4, a5, by rw [evL_late R hd a12 (hin m (.inl rfl))]; exact a6, by rw [evL_late R hd a12 (hin k (.inr (.inl rfl)))]; exact a7, a8, by rw [evL_late R hd a12 (hin x (.inr (.inr rfl)))]; exact a9⟩, a11⟩
    · obtain ⟨q, hq, h⟩ := s2' i d.o (by rw [← e1]; simp [hi]) hins
      exact ⟨q, hq, by omega⟩
    · rw [R.get hd0] at b4
      simpa using b4
    · have hrk : ∃ r, recs[k]? = some r := ⟨recs[k]'(by have := (List.getElem?_eq_some_iff.1 hk).1; omega), by simp⟩
      obtain ⟨r, hrk⟩ := hrk
      have h5 := b3 (r, k) (by rw [List.mem_zipIdx_iff_getElem?]; simpa using hrk)
      simp only [Bool.or_eq_true, Bool.and_eq_true, Bool.not_eq_true'] at h5
      rcases h5 with h5 | h5
      · exact absurd (Nat.eq_of_beq_eq_true h5) hne
      · have hsr := e6 k r ⟨e.R, e.W⟩ hrk (by simp [hk])
        have n1 : p ∉ r.R := fun h => by rw [(memN_iff p r.R).2 h] at h5; cases h5.1
        have n2 : p ∉ r.W := fun h => by rw [(memN_iff p r.W).2 h] at h5; cases h5.2
        exact ⟨fun h => (hsr.2 p h).elim n1 n2, fun h => n2 (hsr.1 p h)⟩
    · rw [hF, get_set _ _ _ _ hplim, e8]

/-- A region in its activation. -/
theorem prepR_wp {P : Program} {look : Look} (hT : TabOkF P (tabX look)) (hl : LookFr look) (hm : P.follows .mixedOrders = true) {ex n id : Nat} {ops : Array Oper} {draw : Bool} {ro : Option Nat} {N : Nat} {B : BaseP} {nt : Nat} (hs : slotsIn nt (.region id ops draw) = true) {L : SL} {st : St} {q : XR} {g : Gh} {w : World} {a : Act} {Q : Exit → Act → World → Prop}
    (h : (prepR P ex ops draw).run look n L st = some q) (hw : Within ex L) (hlo : Low st) (hn : B.Near st.nx q.2.2.nx) (hc : Cur B g st w) (hr : RelSL g w nt L a.tmps) (hd : Marks B.D B.n0 st.h g w a.defers)
    (hQ : ∀ g w a', Cur B g q.2.2 w → RelSL g w nt q.2.1 a'.tmps → Marks B.D B.n0 q.2.2.h g w a'.defers → a'.defers = a.defers → Q .normal a' w) : (Code.region id ops draw).wpIn (fence ro) N P Q a w := by
  obtain ⟨e1, _, L1, e2, e3⟩ := prepR_less h hw
  simp only [slotsIn, Bool.and_eq_true] at hs
  cases draw with
  | false =>
    simp only at e3
    exact wpIn_region (prepOs_wp hT hl hs.2 hs.1 (p := (L1, q.2.2)) (fun g w a' hc hr hd hdd => hQ g w a' hc (hr.less e2) hd hdd) ops.toList _ (by simp) (range_ops ops) L st g w a e3 hlo hn hc hr hd rfl)
  | true =>
    obtain ⟨h0, recs, st2, u, h1, h3, h2⟩ := e3
    exact draw_wp hT hl hm hs.2 hs.1 h0 h1 h3 h2 hlo hn hc hr hd (fun g w a' hc hr hd hdd => hQ g w a' hc (hr.less e2) hd hdd)

/-- What a run says of a piece of code. -/
structure XOk (P : Program) (ex : Nat) (c : Code) (X : SL → St → Option XR) : Prop where
  within : ∀ (L : SL) (st : St) (q : XR), X L st = some q → Within ex L → Within ex q.2.1
  framed : ∀ L, Framed (reX (X L))
  wp : ∀ (ro : Option Nat) (N : Nat) (B : BaseP) (nt : Nat), B.n0 ≤ B.w.heap.size → (ro = none ∨ c.plainR = true) → slotsIn nt c = true → ∀ (L : SL) (st : St) (q : XR) (g : Gh) (w : World) (a : Act), X L st = some q → Within ex L → Low st → B.Near st.nx q.2.2.nx → Cur B g st w → RelSL g w nt L a.tmps → Marks B.D B.n0 st.h g w a.defers →
    c.wpIn (fence ro) N P (Fin B nt (fun e L st => (e, L, st) = q)) a w

theorem prune_zero (L : SL) (t : Nat) : lk (pruneL L 0) t = lk L t := by
  rw [pruneL_lk, show hasB 0 t = false from by unfold hasB; rw [show Nat.shiftRight 0 t = 0 from Nat.zero_shiftRight t]; rfl]; rfl
theorem XOk.le {P : Program} {ex : Nat} {c : Code} {X : SL → St → Option XR} (h : XOk P ex c X) {L : SL} {st : St} {q : XR} (hx : X L st = some q) (hl : Low st) : st.nx ≤ q.2.2.nx := (h.framed L st _ _ hl (reM_some hx)).1
theorem XOk.low {P : Program} {ex : Nat} {c : Code} {X : SL → St → Option XR} (h : XOk P ex c X) {L : SL} {st : St} {q : XR} (hx : X L st = some q) (hl : Low st) : Low q.2.2 := (h.framed L).low hl (reM_some hx)
theorem loopX_ok {P : Program} {ex : Nat} {c : Code} {X : SL → St → Option XR} (h : XOk P ex c X) (n : Nat) : XOk P ex (.loop c) (loopX X n) := by
  have hw' : ∀ L, Within ex L → Within ex (pruneL L 0) := fun L hw t ht => by rw [prune_zero]; exact hw t ht
  refine ⟨?_, loopX_framed h.framed n, ?_⟩
  · induction n with
    | zero => intro L st q hx; cases hx
    | succ n ih =>
      intro L st q hx hw
      change thenX (loopX X n) (X (pruneL L 0) st) = some q at hx
      rcases thenX_some hx with ⟨L1, st1, h1, h2⟩ | ⟨h1, _⟩
      · exact ih _ _ _ h2 (h.within _ _ _ h1 (hw' L hw))
      · exact h.within _ _ _ h1 (hw' L hw)
  · intro ro N B nt hn0 hpl hs L st q g w a hx hw hlo hnr hc hr hd
    refine wpIn_loop_least fun Y hY => ?_
    induction n generalizing L st g w a with
    | zero => cases hx
    | succ n ih =>
      change thenX (loopX X n) (X (pruneL L 0) st) = some q at hx
      have hr' : RelSL g w nt (pruneL L 0) a.tmps := ⟨hr.1, fun t => by rw [prune_zero]; exact hr.2 t⟩
      rcases thenX_some hx with ⟨L1, st1, h1, h2⟩ | ⟨h1, h2⟩
      · have hlo1 := h.low h1 hlo
        have hle1 := h.le h1 hlo
        have hle2 : st1.nx ≤ q.2.2.nx := (loopX_framed h.framed n L1 st1 _ _ hlo1 (reM_some h2)).1
        refine hY a w (wpIn_mono (h.wp ro N B nt hn0 hpl hs _ _ _ g w a h1 (hw' L hw) hlo (hnr.sub (Nat.le_refl _) hle2) hc hr' hd) ?_)
        rintro exx a1 w1 ⟨e1, L1', st1', g1, rfl, he, hc1, hr1, hd1⟩
        cases he
        exact ih L1 st1 g1 w1 a1 h2 (h.within _ _ _ h1 (hw' L hw)) hlo1 (hnr.sub hle1 (Nat.le_refl _)) hc1 hr1 hd1
      · refine hY a w (wpIn_mono (h.wp ro N B nt hn0 hpl hs _ _ _ g w a h1 (hw' L hw) hlo hnr hc hr' hd) ?_)
        rintro exx a1 w1 ⟨e1, L1, st1, g1, rfl, he, hc1, hr1, hd1⟩
        subst he
        cases e1 with
        | normal => exact (h2 rfl).elim
        | exit id => exact ⟨.exit id, L1, st1, g1, rfl, rfl, hc1, hr1, hd1⟩
        | ret => exact ⟨.ret, L1, st1, g1, rfl, rfl, hc1, hr1, hd1⟩

end
end Go.Vm
