/- Walks on abstract values: kinds of data. No condition. -/
import Derived.Test.YtnkjblopaagkoaaWlG
namespace Go.Vm
noncomputable section

theorem RelL.one {g w a v} (h : Rel g w a v) : RelL g w [a] [v] := RelL.cons h (RelL.nil _ _)
theorem relL_one {g w a vs} (h : RelL g w [a] vs) : ∃ v, vs = [v] ∧ Rel g w a v := by
  match vs, h with
  | [v], h => exact ⟨v, rfl, h.head⟩
  | [], h => have := h.1; simp at this
  | _ :: _ :: _, h => have := h.1; simp at this

def decX {α : Type} (ofV : Value → Option α) (l : List AV) : Option α :=
  match l with
  | [a] => a.exact.bind ofV
  | _ => none
/-- Cells that hold an exact value of a kind. -/
def codV {α : Type} (toV : α → Value) (ofV : Value → Option α) (h1 : ∀ x, ofV (toV x) = some x) (h2 : ∀ v x, ofV v = some x → v = toV x) (h3 : ∀ x, (toV x).cells = #[toV x]) (h4 : ∀ x, (toV x).oneCell' = true) : Cod α where
  sz := 1
  agg := false
  cells _ x := [.sc (toV x)]
  dec _ _ l := decX ofV l
  len _ _ := rfl
  rt _ _ _ x _ := h1 x
  one _ _ x := ⟨_, rfl, by simp [AV.cells, h3], rfl⟩
  pl _ x c hc := by simp at hc; subst hc; exact ⟨fun τ => by simp [AV.ren], by simp [AV.names], h4 x, rfl⟩
  fr x c hc := by simp at hc; subst hc; rfl
  ok := by
    intro fr g h w K b0 l vs x _ _ _ hr hd
    match l, hd with
    | [a], hd =>
      obtain ⟨u, rfl, hu⟩ := relL_one hr
      cases a with
      | sc v =>
        have := hu.exact rfl
        subst this
        have := h2 _ _ hd
        subst this
        exact RelL.one (.sc _)
      | _ => cases hd

def intV (k : IntKind) (v : Value) : Option Int :=
  match v with
  | .int k' n => bif decide (k' = k) then some n else none
  | _ => none
def codInt (k : IntKind) : Cod Int := codV (fun n => .int k n) (intV k) (fun x => by simp [intV]) (fun v x h => by
  cases v <;> simp [intV] at h
  rename_i k' n
  by_cases e : k' = k
  · subst e; simp at h; rw [h]
  · simp [e] at h) (fun x => rfl) (fun x => rfl)
def codBool : Cod Bool := codV (fun b => .bool b) boolOf (fun x => rfl) (fun v x h => by cases v <;> simp [boolOf] at h; rw [h]) (fun x => rfl) (fun x => rfl)
def codStr : Cod ByteArray := codV (fun s => .string s) strOf (fun x => rfl) (fun v x h => by cases v <;> simp [strOf] at h; rw [h]) (fun x => rfl) (fun x => rfl)
def u8V (v : Value) : Option UInt8 :=
  match v with
  | .int k n => bif decide (k = .u8) && decide (0 ≤ n) && decide (n < 256) then some (UInt8.ofNat n.toNat) else none
  | _ => none
def codU8 : Cod UInt8 := codV (fun n => .int .u8 n.toNat) u8V (fun x => by
  have := x.toNat_lt
  simp [u8V, show (x.toNat : Int) < 256 by omega]) (fun v x h => by
  cases v <;> simp [u8V] at h
  rename_i k n
  cases hb : (decide (k = .u8) && decide (0 ≤ n) && decide (n < 256)) with
  | false => rw [hb] at h; cases h
  | true =>
    rw [hb] at h
    simp at hb h
    obtain ⟨⟨rfl, h0⟩, h1⟩ := hb
    subst h
    congr 1
    rw [UInt8.toNat_ofNat']
    omega) (fun x => rfl) (fun x => rfl)
def u16V (v : Value) : Option UInt16 :=
  match v with
  | .int k n => bif decide (k = .u16) && decide (0 ≤ n) && decide (n < 65536) then some (UInt16.ofNat n.toNat) else none
  | _ => none
def codU16 : Cod UInt16 := codV (fun n => .int .u16 n.toNat) u16V (fun x => by
  have := x.toNat_lt
  simp [u16V, show (x.toNat : Int) < 65536 by omega]) (fun v x h => by
  cases v <;> simp [u16V] at h
  rename_i k n
  cases hb : (decide (k = .u16) && decide (0 ≤ n) && decide (n < 65536)) with
  | false => rw [hb] at h; cases h
  | true =>
    rw [hb] at h
    simp at hb h
    obtain ⟨⟨rfl, h0⟩, h1⟩ := hb
    subst h
    congr 1
    rw [UInt16.toNat_ofNat']
    omega) (fun x => rfl) (fun x => rfl)
def u32V (v : Value) : Option UInt32 :=
  match v with
  | .int k n => bif decide (k = .u32) && decide (0 ≤ n) && decide (n < 4294967296) then some (UInt32.ofNat n.toNat) else none
  | _ => none
def codU32 : Cod UInt32 := codV (fun n => .int .u32 n.toNat) u32V (fun x => by
  have := x.toNat_lt
  simp [u32V, show (x.toNat : Int) < 4294967296 by omega]) (fun v x h => by
  cases v <;> simp [u32V] at h
  rename_i k n
  cases hb : (decide (k = .u32) && decide (0 ≤ n) && decide (n < 4294967296)) with
  | false => rw [hb] at h; cases h
  | true =>
    rw [hb] at h
    simp at hb h
    obtain ⟨⟨rfl, h0⟩, h1⟩ := hb
    subst h
    congr 1
    rw [UInt32.toNat_ofNat']
    omega) (fun x => rfl) (fun x => rfl)

/-- Lists. -/
def codL {α : Type} (C : Cod α) : Cod (List α) where
  sz := 1
  agg := false
  cells l xs := [.vl l C.sz (xs.map (C.val l))]
  dec := decS1 C
  len _ _ := rfl
  rt := by
    intro fr h l x hl
    simp only [decS1, decS]
    cases hb : (Nat.beq C.sz C.sz && (l || !fr)) with
    | false => cases fr <;> simp_all
    | true => rw [cond_true, decAll_map C fr h l hl]
  one _ _ x := ⟨_, rfl, rfl, rfl⟩
  pl l xs c hc := by
    simp at hc; subst hc
    exact ⟨fun τ => by rw [AV.ren, renGo_id (fun c hc => by obtain ⟨x, _, rfl⟩ := List.mem_map.1 hc; exact val_ren C τ l x)], by simp [AV.names], rfl, rfl⟩
  fr xs c hc := by
    simp at hc; subst hc
    simp only [AV.fresh, Bool.true_and]
    exact freshGo_true (fun c hc => by obtain ⟨x, _, rfl⟩ := List.mem_map.1 hc; exact val_fresh C x)
  ok := by
    intro fr g h w K b0 l vs x hok hl hb hr hd
    match l, hd with
    | [a], hd =>
      obtain ⟨u, rfl, hu⟩ := relL_one hr
      exact RelL.one (decS_ok C hok hl hb hu hd)

/-- Two kinds, one behind the other. -/
def codP {α β : Type} (A : Cod α) (B : Cod β) : Cod (α × β) where
  sz := A.sz + B.sz
  agg := true
  cells l p := A.cells l p.1 ++ B.cells l p.2
  dec fr h l := match A.dec fr h (l.take A.sz), B.dec fr h (l.drop A.sz) with
    | some x, some y => some (x, y)
    | _, _ => none
  len l p := by simp [A.len, B.len]
  rt := by
    intro fr h l p hl
    have h1 : (A.cells l p.1 ++ B.cells l p.2).take A.sz = A.cells l p.1 := by rw [← A.len l p.1, List.take_left]
    have h2 : (A.cells l p.1 ++ B.cells l p.2).drop A.sz = B.cells l p.2 := by rw [← A.len l p.1, List.drop_left]
    simp only [h1, h2, A.rt fr h l _ hl, B.rt fr h l _ hl]
  one e := by cases e
  pl l p c hc := by rcases List.mem_append.1 hc with h | h; exact A.pl l _ c h; exact B.pl l _ c h
  fr p c hc := by rcases List.mem_append.1 hc with h | h; exact A.fr _ c h; exact B.fr _ c h
  ok := by
    intro fr g h w K b0 l vs x hok hl hb hr hd
    split at hd
    · rename_i x1 y1 hx hy
      simp at hd; subst hd
      have := (A.ok hok hl hb (hr.take A.sz) hx).append (B.ok hok hl hb (hr.drop A.sz) hy)
      rwa [List.take_append_drop] at this
    · cases hd
/-- The same cells, seen as another type. -/
def codIso {α β : Type} (C : Cod α) (f : β → α) (i : α → β) (h1 : ∀ y, i (f y) = y) (h2 : ∀ x, f (i x) = x) : Cod β where
  sz := C.sz
  agg := C.agg
  cells l y := C.cells l (f y)
  dec fr h l := (C.dec fr h l).map i
  len l y := C.len l (f y)
  rt fr h l y hl := by rw [C.rt fr h l _ hl]; simp [h1]
  one e l y := C.one e l (f y)
  pl l y := C.pl l (f y)
  fr y := C.fr (f y)
  ok := by
    intro fr g h w K b0 l vs x hok hl hb hr hd
    rw [Option.map_eq_some_iff] at hd
    obtain ⟨y, hy, rfl⟩ := hd
    rw [h2]
    exact C.ok hok hl hb hr hy

/-- Arguments. -/
structure AC (α : Type) where
  E : α → List AV
  D : Tr AObj → List AV → Option α
  rt : ∀ h x, D h (E x) = some x
  ok : ∀ {g h w K b0 l vs x}, Ok g h w → Lends g h K → RelL g w l vs → D h l = some x → RelL (gK b0 K) w (E x) vs
/-- The reading, by a name that the kernel does not look through at once. -/
def AC.get {α : Type} (A : AC α) (h : Tr AObj) (l : List AV) : Option α := A.D h l
def a0 : AC Unit where
  E _ := []
  D _ l := match l with
    | [] => some ()
    | _ => none
  rt _ _ := rfl
  ok := by
    intro g h w K b0 l vs x _ _ hr hd
    match l, hd with
    | [], _ =>
      have := hr.1
      simp at this
      subst this
      exact RelL.nil _ _
def aC {α β : Type} (C : Cod α) (R : AC β) : AC (α × β) where
  E p := C.val false p.1 :: R.E p.2
  D h l := match l with
    | [] => none
    | a :: r => match C.decV false h a, R.D h r with
      | some x, some y => some (x, y)
      | _, _ => none
  rt h p := by simp only [C.rtV false h false p.1 (fun e => by cases e), R.rt]
  ok := by
    intro g h w K b0 l vs x hok hl hr hd
    match l, hd with
    | a :: r, hd =>
      simp only at hd
      split at hd
      · rename_i x1 y1 hx hy
        simp at hd; subst hd
        match vs, hr with
        | [], hr => have := hr.1; simp at this
        | v :: vs, hr => exact RelL.cons (C.okV hok hl (fun e => by cases e) hr.head hx) (R.ok hok hl hr.tail hy)
      · cases hd

/-- Results. -/
structure RC (α : Type) where
  E : Bool → α → AV
  D : Bool → Tr AObj → AV → Option α
  ok : ∀ {fr g h w K b0 a v x}, Ok g h w → Lends g h K → (fr = true → b0 ≤ g.b0) → Rel g w a v → D fr h a = some x → Rel (gK b0 K) w (E fr x) v
def RC.get {α : Type} (R : RC α) (fr : Bool) (h : Tr AObj) (a : AV) : Option α := R.D fr h a
def r1 {α : Type} (C : Cod α) : RC α where
  E := C.val
  D := C.decV
  ok hok hl hb hr hd := C.okV hok hl hb hr hd
def tupOf (a : AV) : Option (List AV) :=
  match a with
  | .tup l => some l
  | .sc v => match v with
    | .tuple vs => some (vs.toList.map .sc)
    | _ => none
  | _ => none
theorem tup_rel {g w a v l} (hr : Rel g w a v) (h : tupOf a = some l) : ∃ vs, v = .tuple vs ∧ RelL g w l vs.toList := by
  cases hr with
  | tup l' vs hs hh =>
    simp [tupOf] at h; subst h
    exact ⟨vs, rfl, ⟨by simpa using hs, fun i a v ha hv => hh i a v ha (by simpa using hv)⟩⟩
  | sc v =>
    cases v <;> simp [tupOf] at h
    subst h
    exact ⟨_, rfl, RelL.scs g w _⟩
  | _ => cases h
theorem rel_tup {g w l} {vs : Array Value} (h : RelL g w l vs.toList) : Rel g w (.tup l) (.tuple vs) :=
  .tup l vs (by simpa using h.1) (fun i a v ha hv => h.2 i a v ha (by simpa using hv))
def r2 {α β : Type} (A : Cod α) (B : Cod β) : RC (α × β) where
  E l p := .tup [A.val l p.1, B.val l p.2]
  D fr h a := match tupOf a with
    | some [a, b] => match A.decV fr h a, B.decV fr h b with
      | some x, some y => some (x, y)
      | _, _ => none
    | _ => none
  ok := by
    intro fr g h w K b0 a v x hok hl hb hr hd
    cases ht : tupOf a with
    | none => rw [ht] at hd; cases hd
    | some l =>
      rw [ht] at hd
      obtain ⟨vs, rfl, hrel⟩ := tup_rel hr ht
      match l, hd with
      | [a, b], hd =>
        simp only at hd
        split at hd
        · rename_i x1 y1 hx hy
          simp at hd; subst hd
          obtain ⟨vl⟩ := vs
          match vl, hrel with
          | [u, v], hrel => exact rel_tup (RelL.cons (A.okV hok hl hb hrel.head hx) (RelL.one (B.okV hok hl hb hrel.tail.head hy)))
          | [], hrel => have := hrel.1; simp at this
          | [_], hrel => have := hrel.1; simp at this
          | _ :: _ :: _ :: _, hrel => have := hrel.1; simp at this
        · cases hd
def r3 {α β γ : Type} (A : Cod α) (B : Cod β) (C : Cod γ) : RC (α × β × γ) where
  E l p := .tup [A.val l p.1, B.val l p.2.1, C.val l p.2.2]
  D fr h a := match tupOf a with
    | some [a, b, c] => match A.decV fr h a, B.decV fr h b, C.decV fr h c with
      | some x, some y, some z => some (x, y, z)
      | _, _, _ => none
    | _ => none
  ok := by
    intro fr g h w K b0 a v x hok hl hb hr hd
    cases ht : tupOf a with
    | none => rw [ht] at hd; cases hd
    | some l =>
      rw [ht] at hd
      obtain ⟨vs, rfl, hrel⟩ := tup_rel hr ht
      match l, hd with
      | [a, b, c], hd =>
        simp only at hd
        split at hd
        · rename_i x1 y1 z1 hx hy hz
          simp at hd; subst hd
          obtain ⟨vl⟩ := vs
          match vl, hrel with
          | [u, v, t], hrel => exact rel_tup (RelL.cons (A.okV hok hl hb hrel.head hx) (RelL.cons (B.okV hok hl hb hrel.tail.head hy) (RelL.one (C.okV hok hl hb hrel.tail.tail.head hz))))
          | [], hrel => have := hrel.1; simp at this
          | [_], hrel => have := hrel.1; simp at this
          | [_, _], hrel => have := hrel.1; simp at this
          | _ :: _ :: _ :: _ :: _, hrel => have := hrel.1; simp at this
        · cases hd

end
end Go.Vm
