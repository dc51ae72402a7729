/- Walks on abstract values: data, calls that leave memory alone. No condition. -/
import Derived.Test.YtnkjblopaagkoaaWlN
namespace Go.Vm

/-! ### What is read once more, in the ghost of a call -/
def gK (b0 : Nat) (K : Nat → Nat → Prop) : Gh := { b0, inj := fun _ => none, K }
/-- The cells that a call may lean on: those that stay anyway, and those of the caller's own rows. -/
structure Lends (g : Gh) (h : Tr AObj) (K' : Nat → Nat → Prop) : Prop where
  K : ∀ b j, g.K b j → K' b j
  rows : ∀ o cells k s e, h.get o = some (.row cells k s e) → ∀ b base, g.inj o = some (b, base) → ∀ j, j < cells.length → K' b (base + j)
theorem Lends.nil (g : Gh) (K : Nat → Nat → Prop) (h : ∀ b j, g.K b j → K b j) : Lends g .nil K := ⟨h, fun o cells k s e ho => by rw [Tr.get_nil] at ho; cases ho⟩

/-- Cells that hold no names. -/
structure Plain (c : AV) : Prop where
  ren : ∀ τ, c.ren τ = c
  names : c.names = []
  one : c.one = true
  known : c.known = true
/-- Data: how it lies in cells (l: in memory of the call's own), how it is read (fr: from there alone). -/
structure Cod (α : Type) where
  sz : Nat
  agg : Bool
  cells : Bool → α → List AV
  dec : Bool → Tr AObj → List AV → Option α
  len : ∀ l x, (cells l x).length = sz
  rt : ∀ fr h l x, (fr = true → l = true) → dec fr h (cells l x) = some x
  one : agg = false → ∀ l x, ∃ c, cells l x = [c] ∧ c.cells = [c] ∧ c.known = true
  pl : ∀ l x, ∀ c ∈ cells l x, Plain c
  fr : ∀ x, ∀ c ∈ cells true x, c.fresh = true
  ok : ∀ {fr g h w K b0 l vs x}, Ok g h w → Lends g h K → (fr = true → b0 ≤ g.b0) → RelL g w l vs → dec fr h l = some x → RelL (gK b0 K) w (cells fr x) vs

def Cod.val {α : Type} (C : Cod α) (l : Bool) (x : α) : AV := bif C.agg then .agg (C.cells l x) else (C.cells l x).headD .bad
def AV.isAgg : AV → Bool
  | .agg _ => true
  | .sc v => match v with | .agg _ => true | _ => false
  | _ => false
noncomputable def Cod.decV {α : Type} (C : Cod α) (fr : Bool) (h : Tr AObj) (a : AV) : Option α := bif a.known && (a.isAgg == C.agg) then C.dec fr h a.cells else none
theorem Cod.val_cells {α : Type} (C : Cod α) (l : Bool) (x : α) : (C.val l x).cells = C.cells l x := by
  unfold Cod.val
  cases h : C.agg with
  | true => rfl
  | false =>
    obtain ⟨c, h1, h2, _⟩ := C.one h l x
    rw [cond_false, h1]
    exact h2
theorem notAgg_of_cells {c : AV} (h : c.cells = [c]) : c.isAgg = false := by
  cases c with
  | agg l =>
    simp only [AV.cells] at h
    have := congrArg (SizeOf.sizeOf : List AV → Nat) h
    simp at this
    omega
  | sc v =>
    cases v with
    | agg vs =>
      obtain ⟨l⟩ := vs
      simp only [AV.cells, Value.cells] at h
      match l, h with
      | [x], h =>
        simp only [List.map_cons, List.map_nil, List.cons.injEq, and_true, AV.sc.injEq] at h
        have := congrArg (SizeOf.sizeOf : Value → Nat) h
        simp at this
        omega
      | [], h => simp at h
      | _ :: _ :: _, h => simp at h
    | _ => rfl
  | _ => rfl


theorem val_isAgg {α : Type} (C : Cod α) (l : Bool) (x : α) : (C.val l x).isAgg = C.agg := by
  unfold Cod.val
  cases h : C.agg with
  | true => rfl
  | false =>
    obtain ⟨c, h1, h2, _⟩ := C.one h l x
    rw [cond_false, h1]
    exact notAgg_of_cells h2
theorem RelL.split {g w l l' vs} (h : RelL g w (l ++ l') vs) : ∃ u u', vs = u ++ u' ∧ RelL g w l u ∧ RelL g w l' u' := by
  have h1 := h.take l.length
  have h2 := h.drop l.length
  rw [List.take_left] at h1
  rw [List.drop_left] at h2
  exact ⟨_, _, (List.take_append_drop l.length vs).symm, h1, h2⟩
theorem val_known {α : Type} (C : Cod α) (l : Bool) (x : α) : (C.val l x).known = true := by
  unfold Cod.val
  cases h : C.agg with
  | true => rfl
  | false =>
    obtain ⟨c, h1, _, h2⟩ := C.one h l x
    rw [cond_false, h1]
    exact h2
theorem Cod.rtV {α : Type} (C : Cod α) (fr : Bool) (h : Tr AObj) (l : Bool) (x : α) (hl : fr = true → l = true) : C.decV fr h (C.val l x) = some x := by
  unfold Cod.decV; rw [val_known, val_isAgg, C.val_cells, C.rt _ _ _ _ hl]; simp
theorem dec_none {α : Type} (C : Cod α) {fr : Bool} {h : Tr AObj} {a : AV} {x : α} (hd : C.decV fr h a = some x) : a.known = true ∧ a.isAgg = C.agg ∧ C.dec fr h a.cells = some x := by
  unfold Cod.decV at hd
  cases hk : (a.known && (a.isAgg == C.agg)) with
  | false => rw [hk] at hd; cases hd
  | true => rw [hk] at hd; simp at hk; exact ⟨hk.1, hk.2, hd⟩

/-- A value is read: it is there as data. -/
theorem Cod.okV {α : Type} (C : Cod α) {fr g h w K b0 a v x} (hok : Ok g h w) (hl : Lends g h K) (hb : fr = true → b0 ≤ g.b0) (hr : Rel g w a v) (hd : C.decV fr h a = some x) : Rel (gK b0 K) w (C.val fr x) v := by
  obtain ⟨h1, h2, h3⟩ := dec_none C hd
  have hc := hr.cells h1
  have hx := C.ok (b0 := b0) hok hl hb hc h3
  unfold Cod.val
  cases hg : C.agg with
  | true =>
    rw [hg] at h2
    have : ∃ vs, v = .agg vs := by
      cases hr with
      | agg l vs => exact ⟨vs, rfl⟩
      | sc v => cases v <;> first | exact ⟨_, rfl⟩ | cases h2
      | _ => cases h2
    obtain ⟨vs, rfl⟩ := this
    exact .agg _ vs (by simpa [Value.cells] using hx.1) (fun i a v ha hv => hx.2 i a v ha (by simpa [Value.cells] using hv))
  | false =>
    obtain ⟨c, h4, _⟩ := C.one hg fr x
    rw [cond_false, h4]
    rw [h4] at hx
    have hv : v.cells.toList = [v] := by
      rw [hg] at h2
      have h5 := hx.1
      cases hr with
      | agg => cases h2
      | sc v => cases v <;> first | rfl | cases h2
      | bad => cases h1
      | _ => rfl
    rw [hv] at hx
    exact hx.head

theorem namesGo_nil {l : List AV} (h : ∀ c ∈ l, c.names = []) : AV.names.go l = [] := by
  induction l with
  | nil => rfl
  | cons a l ih => simp [AV.names.go, h a (by simp), ih (fun c hc => h c (by simp [hc]))]
theorem freshGo_true {l : List AV} (h : ∀ c ∈ l, c.fresh = true) : AV.fresh.go l = true := by
  induction l with
  | nil => rfl
  | cons a l ih => simp [AV.fresh.go, h a (by simp), ih (fun c hc => h c (by simp [hc]))]
theorem renGo_id {τ : Nat → Option Nat} {l : List AV} (h : ∀ c ∈ l, c.ren τ = c) : AV.ren.go τ l = l := by
  induction l with
  | nil => rfl
  | cons a l ih => simp [AV.ren.go, h a (by simp), ih (fun c hc => h c (by simp [hc]))]
theorem val_cases {α : Type} (C : Cod α) (l : Bool) (x : α) : (C.agg = true ∧ C.val l x = .agg (C.cells l x)) ∨ (C.agg = false ∧ C.val l x ∈ C.cells l x) := by
  cases h : C.agg with
  | true => exact .inl ⟨rfl, by simp [Cod.val, h]⟩
  | false =>
    obtain ⟨c, h1, _⟩ := C.one h l x
    refine .inr ⟨rfl, ?_⟩
    simp [Cod.val, h, h1]
theorem val_ren {α : Type} (C : Cod α) (τ : Nat → Option Nat) (l : Bool) (x : α) : (C.val l x).ren τ = C.val l x := by
  rcases val_cases C l x with ⟨_, h⟩ | ⟨_, h⟩
  · rw [h, AV.ren, renGo_id (fun c hc => (C.pl l x c hc).ren τ)]
  · exact (C.pl l x _ h).ren τ
theorem val_names {α : Type} (C : Cod α) (l : Bool) (x : α) : (C.val l x).names = [] := by
  rcases val_cases C l x with ⟨_, h⟩ | ⟨_, h⟩
  · rw [h, AV.names]; exact namesGo_nil (fun c hc => (C.pl l x c hc).names)
  · exact (C.pl l x _ h).names
theorem val_fresh {α : Type} (C : Cod α) (x : α) : (C.val true x).fresh = true := by
  rcases val_cases C true x with ⟨_, h⟩ | ⟨_, h⟩
  · rw [h, AV.fresh]; exact freshGo_true (fun c hc => C.fr x c hc)
  · exact C.fr x _ h
theorem cells_one {α : Type} (C : Cod α) (l : Bool) (x : α) : (C.cells l x).all AV.one = true := by
  rw [List.all_eq_true]; exact fun c hc => (C.pl l x c hc).one
theorem cells_known {α : Type} (C : Cod α) (l : Bool) (x : α) : (C.cells l x).all AV.known = true := by
  rw [List.all_eq_true]; exact fun c hc => (C.pl l x c hc).known
theorem cells_ren' {α : Type} (C : Cod α) (τ : Nat → Option Nat) (l : Bool) (x : α) : (C.cells l x).map (AV.ren τ) = C.cells l x := by
  rw [← renGo_map]; exact renGo_id (fun c hc => (C.pl l x c hc).ren τ)
theorem cells_names {α : Type} (C : Cod α) (l : Bool) (x : α) : AV.names.go (C.cells l x) = [] := namesGo_nil (fun c hc => (C.pl l x c hc).names)

/-! ### Lists -/
noncomputable def decAll {α : Type} (C : Cod α) (fr : Bool) (h : Tr AObj) : List AV → Option (List α)
  | [] => some []
  | a :: r => match C.decV fr h a, decAll C fr h r with
    | some x, some xs => some (x :: xs)
    | _, _ => none
noncomputable def decN {α : Type} (C : Cod α) (fr : Bool) (h : Tr AObj) : Nat → List AV → Option (List α)
  | 0, _ => some []
  | n + 1, l => match C.dec fr h (l.take C.sz), decN C fr h n (l.drop C.sz) with
    | some x, some xs => some (x :: xs)
    | _, _ => none
theorem decAll_map {α : Type} (C : Cod α) (fr : Bool) (h : Tr AObj) (l : Bool) (hl : fr = true → l = true) : ∀ xs : List α, decAll C fr h (xs.map (C.val l)) = some xs
  | [] => rfl
  | x :: xs => by simp only [List.map_cons, decAll, C.rtV fr h l x hl, decAll_map C fr h l hl xs]
theorem decN_flat {α : Type} (C : Cod α) (fr : Bool) (h : Tr AObj) (l : Bool) (hl : fr = true → l = true) : ∀ xs : List α, decN C fr h xs.length (xs.flatMap (C.cells l)) = some xs
  | [] => rfl
  | x :: xs => by
    have h1 : (C.cells l x ++ xs.flatMap (C.cells l)).take C.sz = C.cells l x := by rw [← C.len l x, List.take_left]
    have h2 : (C.cells l x ++ xs.flatMap (C.cells l)).drop C.sz = xs.flatMap (C.cells l) := by rw [← C.len l x, List.drop_left]
    simp only [List.flatMap_cons, List.length_cons, decN, h1, h2, C.rt fr h l x hl, decN_flat C fr h l hl xs]
theorem decAll_ok {α : Type} (C : Cod α) {fr g h w K b0} (hok : Ok g h w) (hl : Lends g h K) (hb : fr = true → b0 ≤ g.b0) : ∀ (es : List AV) (vs : List Value) (xs : List α), RelL g w (es.flatMap AV.cells) vs → decAll C fr h es = some xs →
    RelL (gK b0 K) w (xs.flatMap (C.cells fr)) vs ∧ xs.length = es.length := by
  intro es
  induction es with
  | nil => intro vs xs hr hd; simp [decAll] at hd; subst hd; exact ⟨⟨by simpa using hr.1, fun i a v ha => by simp at ha⟩, rfl⟩
  | cons e es ih =>
    intro vs xs hr hd
    rw [List.flatMap_cons] at hr
    obtain ⟨u, u', rfl, h1, h2⟩ := hr.split
    simp only [decAll] at hd
    split at hd
    · rename_i x xs' hx hxs
      simp at hd; subst hd
      obtain ⟨q1, q2⟩ := ih u' xs' h2 hxs
      exact ⟨by rw [List.flatMap_cons]; exact (C.ok hok hl hb h1 (dec_none C hx).2.2).append q1, by simp [q2]⟩
    · cases hd
theorem decN_ok {α : Type} (C : Cod α) {fr g h w K b0} (hok : Ok g h w) (hl : Lends g h K) (hb : fr = true → b0 ≤ g.b0) : ∀ (n : Nat) (l : List AV) (vs : List Value) (xs : List α), RelL g w l vs → l.length = n * C.sz → decN C fr h n l = some xs →
    RelL (gK b0 K) w (xs.flatMap (C.cells fr)) vs ∧ xs.length = n := by
  intro n
  induction n with
  | zero =>
    intro l vs xs hr hlen hd
    simp [decN] at hd; subst hd
    have : l = [] := by apply List.eq_nil_of_length_eq_zero; omega
    subst this
    exact ⟨⟨by simpa using hr.1, fun i a v ha => by simp at ha⟩, rfl⟩
  | succ n ih =>
    intro l vs xs hr hlen hd
    simp only [decN] at hd
    split at hd
    · rename_i x xs' hx hxs
      simp at hd; subst hd
      have h1 := hr.take C.sz
      have h2 := hr.drop C.sz
      obtain ⟨q1, q2⟩ := ih _ _ xs' h2 (by rw [List.length_drop, hlen, Nat.succ_mul]; omega) hxs
      refine ⟨?_, by simp [q2]⟩
      have := (C.ok hok hl hb h1 hx).append q1
      rw [List.flatMap_cons, ← List.take_append_drop C.sz vs]
      exact this
    · cases hd

noncomputable def decRow {α : Type} (C : Cod α) (fr : Bool) (h : Tr AObj) (off len : Nat) (x : AObj) : Option (List α) :=
  match x with
  | .row cells _ _ _ => bif Nat.ble (off + len * C.sz) cells.length then decN C fr h len ((cells.drop off).take (len * C.sz)) else none
  | _ => none
noncomputable def decS {α : Type} (C : Cod α) (fr : Bool) (h : Tr AObj) (a : AV) : Option (List α) :=
  match a with
  | .sc v => match v with
    | .slice none 0 0 => some []
    | _ => none
  | .vl l sz es => bif Nat.beq sz C.sz && (l || !fr) then decAll C fr h es else none
  | .sl o off len sz => bif Nat.beq sz C.sz then (h.get o).bind (decRow C fr h off len) else none
  | _ => none
noncomputable def decS1 {α : Type} (C : Cod α) (fr : Bool) (h : Tr AObj) (l : List AV) : Option (List α) :=
  match l with
  | [a] => decS C fr h a
  | _ => none
def valsOf (off n : Nat) (c : Nat → Value) : List Value := (List.range n).map fun j => c (off + j)

/-- A list, out of its cells. -/
theorem vl_of {α : Type} (C : Cod α) {fr b0 K w} {xs : List α} {vs : List Value} {b off cap : Nat} (hr : RelL (gK b0 K) w (xs.flatMap (C.cells fr)) vs) (hcap : xs.length ≤ cap) (hb : fr = true → b0 ≤ b)
    (hc : ∀ j v, vs[j]? = some v → K b (off + j) ∧ w.cell? ⟨b, off + j, none⟩ = some v) : Rel (gK b0 K) w (.vl fr C.sz (xs.map (C.val fr))) (.slice (some ⟨b, off, none⟩) xs.length cap) := by
  have hfm : (xs.map (C.val fr)).flatMap AV.cells = xs.flatMap (C.cells fr) := by
    rw [List.flatMap_map]; congr 1; funext x; exact C.val_cells fr x
  have := Rel.vl (g := gK b0 K) (w := w) fr C.sz (xs.map (C.val fr)) b off cap (fun j => vs.getD j undef) (fun e he => by
    obtain ⟨x, _, rfl⟩ := List.mem_map.1 he; rw [C.val_cells, C.len]) hb (by simpa using hcap)
    (fun j a ha => by
      rw [hfm] at ha
      obtain ⟨v, hv, _⟩ := hr.get ha
      have := hc j v hv
      exact ⟨this.1, by rw [this.2, List.getD_eq_getElem?_getD, hv]; rfl⟩)
    (fun j a ha => by
      rw [hfm] at ha
      obtain ⟨v, hv, hrel⟩ := hr.get ha
      show Rel _ _ a (vs.getD j undef)
      rw [List.getD_eq_getElem?_getD, hv]; exact hrel)
  simpa using this

theorem decS_ok {α : Type} (C : Cod α) {fr g h w K b0 a v xs} (hok : Ok g h w) (hl : Lends g h K) (hb0 : fr = true → b0 ≤ g.b0) (hr : Rel g w a v) (hd : decS C fr h a = some xs) : Rel (gK b0 K) w (.vl fr C.sz (xs.map (C.val fr))) v := by
  cases hr with
  | sc v =>
    simp only [decS] at hd
    split at hd
    · simp at hd; subst hd; exact .vlnil _ _
    · cases hd
  | vlnil loc sz =>
    simp only [decS] at hd
    cases hb : (Nat.beq sz C.sz && (loc || !fr)) with
    | false => rw [hb] at hd; cases hd
    | true => rw [hb] at hd; simp [decAll] at hd; subst hd; exact .vlnil _ _
  | vlz loc sz a =>
    simp only [decS] at hd
    cases hb : (Nat.beq sz C.sz && (loc || !fr)) with
    | false => rw [hb] at hd; cases hd
    | true => rw [hb] at hd; simp [decAll] at hd; subst hd; exact .vlz _ _ a
  | vl loc sz es b off cap c hsz hloc hcap hc hrel =>
    simp only [decS] at hd
    cases hb : (Nat.beq sz C.sz && (loc || !fr)) with
    | false => rw [hb] at hd; cases hd
    | true =>
      rw [hb, cond_true] at hd
      have hloc' : fr = true → b0 ≤ b := fun e => by
        rw [e] at hb
        simp at hb
        have := hloc hb.2
        have := hb0 e
        omega
      have hlist : RelL g w (es.flatMap AV.cells) (valsOf 0 (es.flatMap AV.cells).length c) := by
        refine ⟨by simp [valsOf], fun i a v ha hv => ?_⟩
        have hi := (List.getElem?_eq_some_iff.1 ha).1
        simp only [valsOf, List.getElem?_map, List.getElem?_range hi, Option.map_some, Option.some.injEq, Nat.zero_add] at hv
        subst hv
        exact hrel i a ha
      obtain ⟨q1, q2⟩ := decAll_ok C (b0 := b0) hok hl hb0 es _ xs hlist hd
      rw [← q2]
      refine vl_of C q1 (by omega) hloc' (fun j v hv => ?_)
      have hj : j < (es.flatMap AV.cells).length := by
        have := (List.getElem?_eq_some_iff.1 hv).1; simpa [valsOf] using this
      simp only [valsOf, List.getElem?_map, List.getElem?_range hj, Option.map_some, Option.some.injEq, Nat.zero_add] at hv
      subst hv
      have := hc j _ (List.getElem?_eq_getElem hj)
      exact ⟨hl.K _ _ this.1, this.2⟩
  | sl o off len sz b base cap hi hcap hm hroom =>
    simp only [decS] at hd
    cases hb : Nat.beq sz C.sz with
    | false => rw [hb] at hd; cases hd
    | true =>
      rw [hb, cond_true, Option.bind_eq_some_iff] at hd
      obtain ⟨x, hx, hd⟩ := hd
      obtain ⟨b', base', hi', hbb, hrow⟩ := hok.obj o x hx
      rw [hi] at hi'; cases hi'
      cases x with
      | map es => cases hd
      | loop => cases hd
      | row cells k st et =>
        simp only [decRow] at hd
        cases hle : Nat.ble (off + len * C.sz) cells.length with
        | false => rw [hle] at hd; cases hd
        | true =>
          rw [hle, cond_true] at hd
          have hle' := Nat.le_of_ble_eq_true hle
          obtain ⟨cs, fz, r1, r2, r3, _⟩ := hrow
          have hpart : RelL g w ((cells.drop off).take (len * C.sz)) (valsOf (base + off) (len * C.sz) (fun j => cs.getD j undef)) := by
            refine ⟨by simp [valsOf]; omega, fun i a v ha hv => ?_⟩
            rw [List.getElem?_take, List.getElem?_drop] at ha
            by_cases hil : i < len * C.sz
            · rw [if_pos hil] at ha
              obtain ⟨u, hu, hrel⟩ := r3 _ a ha
              simp only [valsOf, List.getElem?_map, List.getElem?_range hil, Option.map_some, Option.some.injEq] at hv
              subst hv
              rw [Array.getD_eq_getD_getElem?, Nat.add_assoc, hu]
              exact hrel
            · rw [if_neg hil] at ha; cases ha
          obtain ⟨q1, q2⟩ := decN_ok C (b0 := b0) hok hl hb0 len _ _ xs hpart (by simp; omega) hd
          subst q2
          refine vl_of C q1 hcap (fun e => by have := hb0 e; omega) (fun j v hv => ?_)
          have hj : j < xs.length * C.sz := by
            have := (List.getElem?_eq_some_iff.1 hv).1; simpa [valsOf] using this
          simp only [valsOf, List.getElem?_map, List.getElem?_range hj, Option.map_some, Option.some.injEq] at hv
          obtain ⟨u, hu, _⟩ := r3 (off + j) (cells[off + j]'(by omega)) (by simp)
          have hrows := hl.rows o cells k st et hx b base hi (off + j) (by omega)
          rw [← Nat.add_assoc] at hrows hu
          refine ⟨hrows, ?_⟩
          rw [cell_eq r1, hu, ← hv, Array.getD_eq_getD_getElem?, hu]
          rfl
  | slz o off sz a =>
    simp only [decS] at hd
    cases hb : Nat.beq sz C.sz with
    | false => rw [hb] at hd; cases hd
    | true =>
      rw [hb, cond_true, Option.bind_eq_some_iff] at hd
      obtain ⟨x, hx, hd⟩ := hd
      have hxs : xs = [] := by
        cases x with
        | row cells k st et =>
          simp only [decRow] at hd
          cases hle : Nat.ble (off + 0 * C.sz) cells.length with
          | false => rw [hle] at hd; cases hd
          | true => rw [hle] at hd; simp [decN] at hd; exact hd
        | _ => cases hd
      subst hxs
      exact .vlz _ _ a
  | sln o off sz =>
    simp only [decS] at hd
    cases hb : Nat.beq sz C.sz with
    | false => rw [hb] at hd; cases hd
    | true =>
      rw [hb, cond_true, Option.bind_eq_some_iff] at hd
      obtain ⟨x, hx, hd⟩ := hd
      have hxs : xs = [] := by
        cases x with
        | row cells k st et =>
          simp only [decRow] at hd
          cases hle : Nat.ble (off + 0 * C.sz) cells.length with
          | false => rw [hle] at hd; cases hd
          | true => rw [hle] at hd; simp [decN] at hd; exact hd
        | _ => cases hd
      subst hxs
      exact .vlnil _ _
  | _ => cases hd

end Go.Vm
