/- Walks on abstract values: arguments that are read as data; a law's call. No condition. -/
import Derived.Test.YtnkjblopaagkoaaWlT
import Derived.ProofKit
import Derived.OpenShut
import Derived.ReadAgain
import Derived.Deep.Slices
import Derived.ChangeSame
namespace Go.Vm
noncomputable section
open Go.ChangeShapes Go.WideShapes Go.ChangeAt

/-! ### How much is read -/
mutual
def bulkD {H : Type} : DataW H → Nat
  | .lit (.string bytes) => bytes.length + 1
  | .lit _ => 1
  | .nil => 1
  | .ptr d => bulkD d + 1
  | .slice elems spare => bulkL elems + bulkL spare + 1
  | .agg parts => bulkL parts + 1
  | .iface _ d => bulkD d + 1
  | .map entries => bulkE entries + 1
  | .held _ => 1
def bulkL {H : Type} : List (DataW H) → Nat
  | [] => 0
  | d :: r => bulkD d + bulkL r
def bulkE {H : Type} : List (Lit × DataW H) → Nat
  | [] => 0
  | x :: r => bulkX x + bulkE r
def bulkX {H : Type} : Lit × DataW H → Nat
  | (.string bytes, d) => bytes.length + bulkD d + 1
  | (_, d) => bulkD d + 1
end

def allW (W : World) : Nat → Nat → Prop := fun b _ => b < W.heap.size
/-- A type whose readings are data of a kind; μ: how large the data are. -/
def Rd (P : Program) (t : TypeId) {α : Type} (C : Cod α) (μ : α → Nat) : Prop :=
  ∀ {H : Type} (enc : TypeId × Value → H) (W : World) (b0 fuel : Nat) (cs : List Value) (x : DataW H × List MemPlace), DataW.trod enc P W 0 (fun _ => true) true fuel t cs = some x →
    ∃ y, RelL (gK b0 (allW W)) W (C.cells false y) cs ∧ μ y ≤ bulkD x.1

theorem rd_u8 {P : Program} {t : TypeId} (ht : P.underlying t = some (.int .u8)) : Rd P t codU8 (fun _ => 1) := by
  intro H enc W b0 fuel cs x h
  obtain ⟨n, rfl, rfl, hw⟩ := DataW.trod_int ht h
  have hx : 0 ≤ n ∧ n ≤ 255 := by simpa [Lit.wf, IntKind.min, IntKind.max, IntKind.signed, IntKind.bits] using hw
  refine ⟨UInt8.ofNat n.toNat, ?_, by simp [bulkD]⟩
  have : n = ((UInt8.ofNat n.toNat).toNat : Int) := by rw [UInt8.toNat_ofNat']; omega
  exact RelL.one (by (conv => rhs; rw [this]); exact .sc _)
theorem rd_u16 {P : Program} {t : TypeId} (ht : P.underlying t = some (.int .u16)) : Rd P t codU16 (fun _ => 1) := by
  intro H enc W b0 fuel cs x h
  obtain ⟨n, rfl, rfl, hw⟩ := DataW.trod_int ht h
  have hx : 0 ≤ n ∧ n ≤ 65535 := by simpa [Lit.wf, IntKind.min, IntKind.max, IntKind.signed, IntKind.bits] using hw
  refine ⟨UInt16.ofNat n.toNat, ?_, by simp [bulkD]⟩
  have : n = ((UInt16.ofNat n.toNat).toNat : Int) := by rw [UInt16.toNat_ofNat']; omega
  exact RelL.one (by (conv => rhs; rw [this]); exact .sc _)
theorem rd_u32 {P : Program} {t : TypeId} (ht : P.underlying t = some (.int .u32)) : Rd P t codU32 (fun _ => 1) := by
  intro H enc W b0 fuel cs x h
  obtain ⟨n, rfl, rfl, hw⟩ := DataW.trod_int ht h
  have hx : 0 ≤ n ∧ n ≤ 4294967295 := Go.bounds_u32 hw
  refine ⟨UInt32.ofNat n.toNat, ?_, by simp [bulkD]⟩
  have : n = ((UInt32.ofNat n.toNat).toNat : Int) := by rw [UInt32.toNat_ofNat']; omega
  exact RelL.one (by (conv => rhs; rw [this]); exact .sc _)
theorem rd_bool {P : Program} {t : TypeId} (ht : P.underlying t = some .bool) : Rd P t codBool (fun _ => 1) := by
  intro H enc W b0 fuel cs x h
  obtain ⟨b, rfl, rfl⟩ := DataW.trod_bool ht h
  exact ⟨b, RelL.one (.sc _), by simp [bulkD]⟩
theorem rd_str {P : Program} {t : TypeId} (ht : P.underlying t = some .string) : Rd P t codStr (fun s => s.size + 1) := by
  intro H enc W b0 fuel cs x h
  obtain ⟨s, rfl, rfl, _⟩ := DataW.trod_string ht h
  refine ⟨s, RelL.one (.sc _), ?_⟩
  show s.size + 1 ≤ bulkD (DataW.lit (Lit.string s.data.toList))
  rw [bulkD, Array.length_toList]
  exact Nat.le_refl _

theorem off_aux (ao k s v j : Nat) (h3 : v = k * s) (hge : v ≤ j) : ao + k * s + (j - v) = ao + j := by rw [← h3]; omega
def sumμ {α : Type} (μ : α → Nat) : List α → Nat
  | [] => 0
  | x :: r => μ x + sumμ μ r
theorem sumμ_append {α : Type} (μ : α → Nat) : ∀ a b : List α, sumμ μ (a ++ b) = sumμ μ a + sumμ μ b
  | [], b => by simp [sumμ]
  | x :: a, b => by simp [sumμ, sumμ_append μ a b]; omega
theorem bulkL_append {H : Type} : ∀ a b : List (DataW H), bulkL (a ++ b) = bulkL a + bulkL b
  | [], b => by simp [bulkL]
  | x :: a, b => by simp [bulkL, bulkL_append a b]; omega

theorem rd_list {P : Program} {t e : TypeId} {α : Type} {C : Cod α} {μ : α → Nat} (ht : P.underlying t = some (.slice e)) (hsz : P.cellsOf e = C.sz) (hpos : 0 < C.sz) (he : Rd P e C μ) : Rd P t (codL C) (fun l => sumμ μ l + 1) := by
  intro H enc W b0 fuel cs x h
  rcases Go.Deep.open_slice ht h with ⟨rfl, rfl⟩ | ⟨a, len, cap, m, n, D, Pl, rfl, _, hl, hm, hmm, rfl, hx⟩
  · exact ⟨[], RelL.one (.vlnil _ _), by simp [sumμ, bulkD]⟩
  · simp only [if_true] at hmm
    subst hmm
    have spot : 0 < m → a.spot = none ∧ a.block < W.heap.size := by
      intro h0
      obtain ⟨cs', h1, _⟩ := hx 0 h0
      rw [hsz] at h1
      simp only [World.cells?, Nat.zero_le, if_true] at h1
      have h2 := mapM_some_get h1 0 0 (by simp [hpos])
      have hlen := mapM_some_length h1
      have h3 : ∃ v, cs'[0]? = some v := ⟨cs'[0]'(by rw [hlen]; simpa using hpos), by simp⟩
      obtain ⟨v, hv⟩ := h3
      rw [hv] at h2
      simp only [Nat.zero_mul, Addr.add, if_true] at h2
      simp only [World.cell?] at h2
      split at h2
      · rename_i c _ _ hb
        cases hs : a.spot with
        | none => exact ⟨rfl, lt_of_heap hb⟩
        | some s => simp [hs] at h2
      · cases h2
    have build : ∀ k, k ≤ len → ∃ (xs : List α) (vs : List Value), xs.length = k ∧ RelL (gK b0 (allW W)) W (xs.flatMap (C.cells false)) vs ∧ vs.length = k * C.sz ∧ (∀ j v, vs[j]? = some v → W.cell? ⟨a.block, a.off + j, none⟩ = some v) ∧
        sumμ μ xs ≤ bulkL ((List.range k).map D) := by
      intro k
      induction k with
      | zero => intro _; exact ⟨[], [], rfl, RelL.nil _ _, by simp, (fun j v hj => by simp at hj), by simp [sumμ, bulkL]⟩
      | succ k ih =>
        intro hk
        obtain ⟨xs, vs, h1, h2, h3, h4, h5⟩ := ih (by omega)
        obtain ⟨cs', h6, h7⟩ := hx k (by omega)
        obtain ⟨y, h8, h9⟩ := he enc W b0 n cs' _ h7
        rw [hsz] at h6
        simp only [World.cells?, Nat.zero_le, if_true] at h6
        have hlen := mapM_some_length h6
        simp only [List.length_range] at hlen
        refine ⟨xs ++ [y], vs ++ cs', by simp [h1], ?_, by simp [h3, hlen, Nat.succ_mul], fun j v hj => ?_, ?_⟩
        · rw [List.flatMap_append]; exact h2.append (by simpa using h8)
        · by_cases hj1 : j < vs.length
          · rw [List.getElem?_append_left hj1] at hj; exact h4 j v hj
          · rw [List.getElem?_append_right (by omega)] at hj
            have hj2 := (List.getElem?_eq_some_iff.1 hj).1
            have h10 := mapM_some_get h6 (j - vs.length) (j - vs.length) (List.getElem?_range (by rw [← hlen]; exact hj2))
            rw [hj] at h10
            have hs := (spot (by omega)).1
            have e : (a.add (k * C.sz)).add (j - vs.length) = ⟨a.block, a.off + j, none⟩ := by
              obtain ⟨ab, ao, azs⟩ := a
              simp only at hs
              subst hs
              rw [Addr.add_at, Addr.add_at]
              have hge : vs.length ≤ j := Nat.le_of_not_lt hj1
              rw [off_aux ao k C.sz vs.length j h3 hge]
            rw [e] at h10
            exact h10
        · rw [sumμ_append, List.range_succ, List.map_append, bulkL_append]
          simp only [sumμ, List.map_cons, List.map_nil, bulkL]
          have : μ y ≤ bulkD (D k) := h9
          omega
    obtain ⟨xs, vs, h1, h2, h3, h4, h5⟩ := build len (Nat.le_refl _)
    refine ⟨xs, RelL.one ?_, by
      simp only [bulkD]
      have : sumμ μ xs ≤ bulkL ((List.range len).map D) := h5
      omega⟩
    by_cases h0 : 0 < m
    · obtain ⟨hs, hb⟩ := spot h0
      obtain ⟨ab, ao, azs⟩ := a
      simp only at hs hb h4
      subst hs
      rw [← h1]
      refine vl_of C h2 (by omega) (fun e => by cases e) (fun j v hj => ⟨hb, h4 j v hj⟩)
    · have hl0 : len = 0 := by omega
      have hm0 : m = 0 := by omega
      subst hl0 hm0
      have : xs = [] := List.eq_nil_of_length_eq_zero h1
      subst this
      exact .vlz _ _ _

/-- The fields of a struct, from an offset on. -/
def RdF (P : Program) (fs : List Field) (off : Nat) {α : Type} (C : Cod α) (μ : α → Nat) : Prop :=
  ∀ {H : Type} (enc : TypeId × Value → H) (W : World) (b0 n : Nat) (cs : List Value) (ys : List (DataW H × List MemPlace)), ys.length = fs.length →
    (∀ (i : Nat) f, fs[i]? = some f → DataW.trod enc P W 0 (fun _ => true) true n f.type ((cs.drop f.offset).take (P.cellsOf f.type)) = ys[i]?) →
    ∃ y, RelL (gK b0 (allW W)) W (C.cells false y) ((cs.drop off).take C.sz) ∧ μ y ≤ bulkL (ys.map (·.1))
theorem rdF_one {P : Program} {f : Field} {off : Nat} {α : Type} {C : Cod α} {μ : α → Nat} (ho : f.offset = off) (hs : P.cellsOf f.type = C.sz) (h : Rd P f.type C μ) : RdF P [f] off C μ := by
  intro H enc W b0 n cs ys hl hf
  match ys, hl with
  | [y0], _ =>
    have := hf 0 f rfl
    obtain ⟨y, h1, h2⟩ := h enc W b0 n _ y0 this
    rw [ho, hs] at h1
    exact ⟨y, h1, by simp [bulkL]; exact h2⟩
theorem rdF_cons {P : Program} {f : Field} {fs : List Field} {off : Nat} {α β : Type} {A : Cod α} {B : Cod β} {μ : α → Nat} {ν : β → Nat} (ho : f.offset = off) (hs : P.cellsOf f.type = A.sz) (h : Rd P f.type A μ) (hr : RdF P fs (off + A.sz) B ν) :
    RdF P (f :: fs) off (codP A B) (fun p => μ p.1 + ν p.2) := by
  intro H enc W b0 n cs ys hl hf
  match ys, hl with
  | y0 :: ys, hl =>
    have h0 := hf 0 f rfl
    obtain ⟨y, h1, h2⟩ := h enc W b0 n _ y0 h0
    obtain ⟨z, h3, h4⟩ := hr enc W b0 n cs ys (by simpa using hl) (fun i g hg => by have := hf (i + 1) g (by simpa using hg); simpa using this)
    rw [ho, hs] at h1
    refine ⟨(y, z), ?_, by simp [bulkL]; omega⟩
    have := h1.append h3
    rwa [show (cs.drop off).take A.sz ++ (cs.drop (off + A.sz)).take B.sz = (cs.drop off).take (A.sz + B.sz) from by
      rw [List.take_add, List.drop_drop]] at this
theorem rd_struct {P : Program} {t : TypeId} {fs : Array Field} {α : Type} {C : Cod α} {μ : α → Nat} (ht : P.underlying t = some (.struct fs)) (hc : P.cellsOf t = C.sz) (h : RdF P fs.toList 0 C μ) : Rd P t C (fun x => μ x + 1) := by
  intro H enc W b0 fuel cs x hx
  obtain ⟨xs, n, _, rfl, hl, hlen, hf⟩ := DataW.trod_struct ht hx
  obtain ⟨y, h1, h2⟩ := h enc W b0 n cs xs (by simpa using hlen) (fun i f hi => hf i f (by simpa using hi))
  refine ⟨y, ?_, by simp [bulkD]; exact h2⟩
  rwa [List.drop_zero, List.take_of_length_le (by omega)] at h1
theorem rd_iso {P : Program} {t : TypeId} {α β : Type} {C : Cod α} {μ : α → Nat} {f : β → α} {i : α → β} {h1 : ∀ y, i (f y) = y} {h2 : ∀ x, f (i x) = x} (h : Rd P t C μ) : Rd P t (codIso C f i h1 h2) (fun y => μ (f y)) := by
  intro H enc W b0 fuel cs x hx
  obtain ⟨y, h3, h4⟩ := h enc W b0 fuel cs x hx
  exact ⟨i y, by show RelL _ _ (C.cells false (f (i y))) cs; rw [h2]; exact h3, by show μ (f (i y)) ≤ _; rw [h2]; exact h4⟩

/-! ### Arguments -/
/-- A list of types, read as arguments. -/
def RdA (P : Program) (ts : List TypeId) {α : Type} (A : AC α) (μ : α → Nat) : Prop :=
  ∀ {H : Type} (enc : TypeId × Value → H) (W : World) (b0 b1 : Nat) (vs : List Value) (ds : List (DataW H)) (ps : List MemPlace), (∀ (j : Nat) t v, ts[j]? = some t → vs[j]? = some v → Value.okWide P W .any b1 t v) →
    DataW.TrodAll enc P W 0 (fun _ => true) true ts vs ds ps → ∃ y, RelL (gK b0 (allW W)) W (A.E y) vs ∧ μ y ≤ bulkL ds
theorem rdA_nil (P : Program) : RdA P [] a0 (fun _ => 0) := by
  intro H enc W b0 b1 vs ds ps _ h
  obtain ⟨rfl, rfl, rfl⟩ := trodAll_nil h
  exact ⟨(), RelL.nil _ _, Nat.zero_le _⟩
theorem okWide_agg {P : Program} {W : World} {b : Nat} {t : TypeId} {v : Value} (h : aggT P t = some true) (ho : Value.okWide P W .any b t v) : ∃ cs, v = .agg cs := by
  unfold aggT at h
  unfold Value.okWide at ho
  cases hu : P.underlying t with
  | none => rw [hu] at h; cases h
  | some d =>
    rw [hu] at h ho
    cases d <;> simp_all <;> exact ⟨_, ho.choose_spec.1⟩
theorem rdA_cons {P : Program} {t : TypeId} {ts : List TypeId} {α β : Type} {C : Cod α} {R : AC β} {μ : α → Nat} {ν : β → Nat} (ha : aggT P t = some C.agg) (h : Rd P t C μ) (hr : RdA P ts R ν) : RdA P (t :: ts) (aC C R) (fun p => μ p.1 + ν p.2) := by
  intro H enc W b0 b1 vs ds ps hok hall
  obtain ⟨v, vs1, d, ds1, p, q, rfl, rfl, rfl, h0, h1⟩ := trodAll_cons hall
  obtain ⟨fuel, hf⟩ := h0
  obtain ⟨y, h2, h3⟩ := h enc W b0 fuel _ _ hf
  obtain ⟨z, h4, h5⟩ := hr enc W b0 b1 vs1 ds1 q (fun j t v ht hv => hok (j + 1) t v (by simpa using ht) (by simpa using hv)) h1
  have h3' : μ y ≤ bulkD d := h3
  refine ⟨(y, z), RelL.cons ?_ h4, by simp only [bulkL]; omega⟩
  have hv := hok 0 t v rfl rfl
  show Rel _ _ (C.val false y) v
  unfold Cod.val
  cases hg : C.agg with
  | true =>
    obtain ⟨cs, rfl⟩ := okWide_agg (by rw [ha, hg]) hv
    exact .agg _ cs (by simpa [Value.cells] using h2.1) (fun i a v ha hv => h2.2 i a v ha (by simpa [Value.cells] using hv))
  | false =>
    obtain ⟨c, h6, h7, _⟩ := C.one hg false y
    rw [cond_false, h6]
    rw [h6] at h2
    have hcs : v.cells.toList = [v] := by
      have hl := h2.1
      simp only [List.length_singleton] at hl
      cases v with
      | agg cs =>
        exfalso
        unfold aggT at ha
        unfold Value.okWide at hv
        cases hu : P.underlying t with
        | none => rw [hu] at ha; cases ha
        | some d =>
          rw [hu] at ha hv
          have hcell : Cell.okWide P W .any b1 t (.agg cs) := by
            cases d <;> simp_all
          rw [hg] at ha
          unfold Cell.okWide Cell.ok at hcell
          rw [hu] at hcell
          cases d <;> simp_all
      | _ => rfl
    rw [hcs] at h2
    exact h2.head

/-! ### A law's call -/
theorem sameAt_quiet {W W' : World} (q : Quiet W W') {p : MemPlace} (h : p.block < W.heap.size) : W.sameAt W' p := by
  cases p with
  | cell b off => exact cell_heap (q.heap b h)
  | map b => exact q.heap b h
theorem again {H : Type} {enc : TypeId × Value → H} {P : Program} {W W' : World} {sp : Nat → Bool} (K : Kids P (· < P.types.size)) (hz : ∀ t e, t < P.types.size → P.underlying t = some (.slice e) → 0 < P.cellsOf e) (q : Quiet W W') :
    ∀ {ts : List TypeId} {vs : List Value} {ds : List (DataW H)} {ps : List MemPlace}, (∀ t ∈ ts, t < P.types.size) → DataW.TrodAll enc P W 0 (fun _ => true) true ts vs ds ps → (∀ p ∈ ps, sp p.block = true) → (∀ p ∈ ps, p.block < W.heap.size) →
      DataW.TrodAll enc P W' 0 sp true ts vs ds ps
  | [], [], [], _, _, h, _, _ => h
  | t :: ts, v :: vs, d :: ds, ps, hT, ⟨p, p', h1, h2, e⟩, hs, hl => by
    obtain ⟨n, hn⟩ := h1
    subst e
    have h3 := DataW.trod_respare (spare' := sp) K hz n t _ _ (hT t (by simp)) hn (fun x hx => hs x (by simp only [List.mem_append]; exact .inl hx))
    have h4 := DataW.trod_carry (w' := W') n t _ _ h3 (fun x hx => sameAt_quiet q (hl x (by simp only [List.mem_append]; exact .inl hx)))
    exact ⟨p, p', ⟨n, h4⟩, again K hz q (fun t ht => hT t (by simp [ht])) h2 (fun x hx => hs x (by simp [hx])) (fun x hx => hl x (by simp [hx])), rfl⟩

theorem kept_quiet {W W' : World} (q : Quiet W W') (may : MemPlace → Prop) : W.keptBut W' may := by
  refine ⟨q.os, q.output, fun i hi => ?_⟩
  rw [q.heap i hi]
  split
  · rename_i c t fr c' t' fr' h1 h2
    rw [h1] at h2
    cases h2
    exact ⟨rfl, rfl, rfl, fun _ _ => rfl⟩
  · rename_i es cl es' cl' h1 h2
    rw [h1] at h2
    cases h2
    exact .inr ⟨rfl, rfl⟩
  · rfl

/-- No slice's elements are of no cells. -/
def slicesFull (P : Program) : Bool := (List.range P.types.size).all fun t => match P.underlying t with | some (.slice e) => Nat.blt 0 (P.cellsOf e) | _ => true
theorem slicesFull_at {P : Program} (h : slicesFull P = true) (t e : TypeId) (ht : t < P.types.size) (hu : P.underlying t = some (.slice e)) : 0 < P.cellsOf e := by
  have := List.all_eq_true.1 h t (List.mem_range.2 ht)
  simp only [hu] at this
  exact Nat.le_of_ble_eq_true this
def typesIn (P : Program) (l : List TypeId) : Bool := l.all fun t => Nat.blt t P.types.size
theorem typesIn_at {P : Program} {l : List TypeId} (h : typesIn P l = true) : ∀ t ∈ l, t < P.types.size := fun t ht => Nat.le_of_ble_eq_true (List.all_eq_true.1 h t ht)

/-- What is said of a law, out of its call at data. -/
theorem law_post {P : Program} (hlaid : laidOutB P = true) (hmaps : mapsRowed P = true) (hz : ∀ t e, t < P.types.size → P.underlying t = some (.slice e) → 0 < P.cellsOf e) {f : Nat} {fn : Func} {s : ChangeSpec} {tb : TypeId}
    (he : entered P f = true) (hvars : s.vars = []) (hres : fn.resultTypes = #[tb]) (htb : P.underlying tb = some .bool) (hpar : ∀ t ∈ fn.params.toList, t < P.types.size)
    (hfn : ∀ (H : Type) (ds : List (DataW H)), ds.length = fn.params.toList.length → s.fn H ds = { results := [.lit (.bool true)], args := ds }) {α : Type} {A : AC α} {μ : α → Nat} (hA : RdA P fn.params.toList A μ) {N : Option Nat}
    (hcall : ∀ x, (∀ n, N = some n → μ x ≤ n) → CallPure P f (A.E x) (.sc (.bool true)))
    {H : Type} (enc : TypeId × Value → H) (W : World) (base : Nat) (args : Array Value) (ds gs : List (DataW H)) (before : List MemPlace) (hval : ∀ (j : Nat) t v, fn.params[j]? = some t → args[j]? = some v → Value.okWide P W .any base t v)
    (hW : DataW.Whole enc P fn.params.toList s.vars false W args.toList ds gs before) (hN : ∀ n, N = some n → bulkL (ds ++ gs) ≤ n) :
    Calls P f args W fun e W' => ∃ v, e = .returned v ∧ s.post enc P fn false true false false W args v W' := by
  have hW' := hW
  obtain ⟨p, q, hA0, hV, rfl, hfz, hnd⟩ := hW
  rw [hvars] at hV
  obtain ⟨rfl, rfl⟩ := trodVars_none hV
  obtain ⟨x, hx, hμ⟩ := hA enc W W.heap.size base args.toList ds p (fun j t v ht hv => hval j t v (by simpa using ht) (by simpa using hv)) hA0
  have hp := hcall x (fun n hn => Nat.le_trans hμ (by have := hN n hn; simpa using this)) (allW W) W args.toList (fun _ _ h => h) hx
  have hlen : ds.length = fn.params.toList.length := by
    have : ∀ {ts : List TypeId} {vs : List Value} {ds : List (DataW H)} {ps : List MemPlace}, DataW.TrodAll enc P W 0 (fun _ => true) true ts vs ds ps → ds.length = ts.length := by
      intro ts
      induction ts with
      | nil => intro vs ds ps h; obtain ⟨_, rfl, _⟩ := trodAll_nil h; rfl
      | cons t ts ih => intro vs ds ps h; obtain ⟨v, vs1, d, ds1, p, q, rfl, rfl, rfl, h0, h1⟩ := trodAll_cons h; simp [ih h1]
    exact this hA0
  have hlt : ∀ y ∈ p ++ [], y.block < W.heap.size := fun y hy => hW'.lt y hy
  have hspec := hfn H ds hlen
  rcases hp with ⟨v, hv, _⟩ | ⟨_, hc⟩
  · rw [entered_ok he] at hv; cases hv
  · refine hc.mono ?_
    rintro e W' ⟨v, rfl, hq, hr⟩
    obtain rfl := hr.exact rfl
    refine ⟨_, rfl, ds, [], p ++ [], [], p, [], hW', ?_, ?_, ?_, kept_quiet hq _, fun e => by cases e⟩
    · rw [List.append_nil, hspec, hres]
      exact trodAll_cons_mk (Go.RowKit.shut_bool htb _) trodAll_mk0
    · rw [List.append_nil, hspec]
      exact again (kids_rows hlaid hmaps) hz hq hpar hA0 (fun y hy => by have := hlt y (by simp [hy]); simpa using this) (fun y hy => hlt y (by simp [hy]))
    · rw [List.append_nil, hspec, hvars]
      rfl

end
end Go.Vm
