/- Runs on abstract values: arguments that nothing is known of. No condition. -/
import Derived.Test.YtnkjblopaagkoaaWxE
import Derived.Test.YtnkjblopaagkoaaWlJ
namespace Go.Vm
open Go.ChangeShapes Go.WideShapes Go.ChangeAt
noncomputable section

/-- A value of which nothing is known: of one cell, or a struct or an array of so many. -/
def unk (n : Option Nat) : AV :=
  match n with
  | none => .bad
  | some k => .agg (List.replicate k .bad)
def likeU (n : Option Nat) (a : AV) : Bool :=
  match n with
  | none => true
  | some k => match a with
    | .agg l => Nat.beq l.length k
    | _ => false
def likeUs : List (Option Nat) → List AV → Bool
  | [], [] => true
  | n :: ns, a :: l => likeU n a && likeUs ns l
  | _, _ => false
theorem likeUs_unk : ∀ ns : List (Option Nat), likeUs ns (ns.map unk) = true
  | [] => rfl
  | n :: ns => by
    cases n with
    | none => simp [likeUs, likeU, likeUs_unk ns]
    | some k => simp [likeUs, likeU, unk, likeUs_unk ns]
theorem rel_bads {g w} {vs : Array Value} {k : Nat} (h : vs.size = k) : Rel g w (.agg (List.replicate k .bad)) (.agg vs) :=
  .agg _ _ (by simp [h]) (fun i a v ha _ => by
    rw [List.getElem?_replicate] at ha
    split at ha
    · cases ha; exact .bad v
    · cases ha)
theorem rel_unk {g g' w} {n : Option Nat} {a : AV} {v : Value} (h : Rel g w a v) (hl : likeU n a = true) : Rel g' w (unk n) v := by
  cases n with
  | none => exact .bad v
  | some k =>
    cases a with
    | agg l =>
      simp only [likeU] at hl
      have hk := Nat.eq_of_beq_eq_true hl
      cases h with
      | agg _ vs hs _ => exact rel_bads (by rw [← hk]; exact hs)
    | _ => cases hl
theorem relL_unk {g g' w} : ∀ {ns : List (Option Nat)} {l : List AV} {vs : List Value}, RelL g w l vs → likeUs ns l = true → RelL g' w (ns.map unk) vs
  | [], [], vs, h, _ => by
    have := h.1
    simp at this
    subst this
    exact RelL.nil _ _
  | n :: ns, a :: l, [], h, _ => by have := h.1; simp at this
  | n :: ns, a :: l, v :: vs, h, hl => by
    simp only [likeUs, Bool.and_eq_true] at hl
    exact RelL.cons (rel_unk h.head hl.1) (relL_unk h.tail hl.2)
  | [], _ :: _, _, _, hl => by cases hl
  | _ :: _, [], _, _, hl => by cases hl
def aU (ns : List (Option Nat)) : AC Unit where
  E _ := ns.map unk
  D _ l := bif likeUs ns l then some () else none
  rt h x := by rw [likeUs_unk]; rfl
  ok := by
    intro g h w K b0 l vs x _ _ hr hd
    cases hb : likeUs ns l with
    | false => rw [hb] at hd; cases hd
    | true => exact relL_unk hr hb
/-- What is not known of a type's values. -/
def shapeU (P : Program) (t : TypeId) : Option Nat :=
  match aggT P t with
  | some true => some (P.cellsOf t)
  | _ => none
theorem rdA_unk {P : Program} (ts : List TypeId) : RdA P ts (aU (ts.map (shapeU P))) (fun _ => 0) := by
  induction ts with
  | nil =>
    intro H enc W b0 b1 vs ds ps _ h
    obtain ⟨rfl, rfl, rfl⟩ := trodAll_nil h
    exact ⟨(), RelL.nil _ _, Nat.zero_le _⟩
  | cons t ts ih =>
    intro H enc W b0 b1 vs ds ps hok hall
    obtain ⟨v, vs1, d, ds1, p, q, rfl, rfl, rfl, h0, h1⟩ := trodAll_cons hall
    obtain ⟨z, h4, _⟩ := ih enc W b0 b1 vs1 ds1 q (fun j t v ht hv => hok (j + 1) t v (by simpa using ht) (by simpa using hv)) h1
    refine ⟨(), ?_, Nat.zero_le _⟩
    have hv := hok 0 t v rfl rfl
    refine RelL.cons ?_ h4
    unfold shapeU
    cases ha : aggT P t with
    | none => exact .bad v
    | some b =>
      cases b with
      | false => exact .bad v
      | true =>
        unfold aggT at ha
        unfold Value.okWide at hv
        cases hu : P.underlying t with
        | none => rw [hu] at ha; cases ha
        | some d =>
          rw [hu] at ha hv
          have : ∃ cs, v = .agg cs ∧ cs.size = P.cellsOf t := by
            cases d <;> simp_all <;> exact ⟨_, hv.choose_spec.1, hv.choose_spec.2.1⟩
          obtain ⟨cs, rfl, hs⟩ := this
          exact rel_bads hs

end
end Go.Vm
