/- A piece of the proof. Proved: where the arguments are together of bulk at most 1048576, the law AnswerAdds returns true (what is added are addresses of what was named), and what it was given reads afterwards as it did before. No other conditions. -/
import Derived.WalkKit
import Derived.CallsIn
import Derived.RangeFuncIn
import Derived.RangeFuncLeaves
import Derived.Orders
import Derived.OrdersIn
import Derived.Scope
import Derived.RangeFuncOwn
import Derived.Stop.SameAnswer
import Derived.Laws.Externs
import Derived.Lib.Bytealg
import Derived.ProofKit
import Derived.OpenShut
import Derived.ReadAgain
import Derived.Deep.Slices
import Derived.ChangeSame
import Derived.Test.YtidomogemfchpaaGreatProg
import Derived.KernelRfl
import Derived.Test.YtidomogemfchpaaGreatRows
import Derived.Maps.RangeRun
import Derived.JoinedCond
import Derived.Test.YtidomogemfchpaaGreatA2
set_option linter.unusedSimpArgs false
set_option linter.unusedVariables false
section
set_option linter.unusedSimpArgs false
set_option linter.unusedVariables false
namespace Go.Proofs.YtidomogemfchpaaGreat
open Go.Vm
set_option maxRecDepth 2000000
theorem ag6 {α : Type} {l : List (List α)} {i : Nat} {c : List α} (h : l[i]? = some c) : (l.drop i).flatten = c ++ (l.drop (i + 1)).flatten := by rw [Gw h]; rfl
theorem arp {α : Type} {l : List (List α)} {c : List α} (h : c ∈ l) : c.length ≤ l.flatten.length := by
  induction l with
  | nil => cases h
  | cons a l ih =>
    simp only [List.flatten_cons, List.length_append]
    rcases List.mem_cons.1 h with rfl | h
    · omega
    · have := ih h; omega
theorem al2 (l : List (List UInt8)) (hl : l.length ≤ 16777216) (hf : l.flatten.length ≤ 134217728) : wl PP [] 0 (Tryz.f184.body.getD .skip) (du PP Tryz.f184.results.toList (fun r st => (r1 (ct bz)).get true st.h r = some l.flatten)) (cq 0 [(ct (ct bz)).val false l]) (bm []) := by
  unfold Tryz.f184
  rw [tj]
  simp only [↓wR, RA, simprocAttr, TF]
  refine dy [0, 3, 9, 10, 11] (fun (x : Nat × Nat) => [.vl false 1 (l.map ((ct bz).val false)), .sc (.int .i64 x.2), .vl false 1 (l.map ((ct bz).val false)), .sc (.int .i64 l.length), .sc (.int .i64 x.1)]) (fun _ => []) (fun x => x.1 ≤ l.length ∧ x.2 + (l.drop x.1).flatten.length = l.flatten.length) (fun x => l.length - x.1) (0, 0) ⟨Nat.zero_le _, by simp⟩ (by simp only [↓wR, RA, simprocAttr, TF] <;> rfl) (by simp only [↓wR, RA, simprocAttr, TF] <;> rfl) ?_
  rintro ⟨i, k⟩ ⟨hi, hk⟩
  simp only at hi hk
  simp only [↓wR, RA, simprocAttr, TF]
  rw [b9]; refine ⟨fun h => ?_, fun h => ?_⟩
  · obtain ⟨c, hc, hd1, hlt⟩ := ec (decide_eq_true h)
    rw [ag6 hc, List.length_append] at hk
    simp only [↓wR, RA, simprocAttr, TF, h, hc]; repeat (simp (disch := omega) only [ai, cd, ca, cf, cb]; try simp only [↓wR, RA, simprocAttr, TF, h, hc])
    rw [b9]; refine ⟨fun h1 => ?_, fun h1 => ?_⟩
    · exfalso; omega
    · simp only [↓wR, RA, simprocAttr, TF, h1]; repeat (simp (disch := omega) only [ai, cd, ca, cf, cb]; try simp only [↓wR, RA, simprocAttr, TF, h1])
      exact ⟨(i + 1, k + c.length), ⟨hlt, by show k + c.length + (l.drop (i + 1)).flatten.length = _; omega⟩, by simp; omega, by simp⟩
  · rw [fe (decide_eq_false h)] at hk
    have hk : k = l.flatten.length := by simpa using hk
    subst hk
    simp only [↓wR, RA, simprocAttr, TF, h]
    refine bn (T := []) (aw.nil PP) mixed Tryz.func193 rfl (by kernel_rfl) (by kernel_rfl) (by kernel_rfl) (by kernel_rfl) ?_; unfold Tryz.f193
    simp only [↓wR, RA, simprocAttr, TF]
    rw [b9]; refine ⟨fun h1 => ?_, fun h1 => ?_⟩
    · exfalso; omega
    simp only [↓wR, RA, simprocAttr, TF, h1]; repeat (simp (disch := omega) only [ai, cd, ca, cf, cb]; try simp only [↓wR, RA, simprocAttr, TF, h1])
    rw [b9]; refine ⟨fun h2 => ?_, fun h2 => ?_⟩
    · have hpos : 0 < l.flatten.length := by omega
      simp only [↓wR, RA, simprocAttr, TF, h2, hpos]; repeat (simp (disch := omega) only [ai, cd, ca, cf, cb]; try simp only [↓wR, RA, simprocAttr, TF, h2, hpos])
      refine dy [25, 26, 27, 6] (fun (x : Nat × Nat × List UInt8) => [.vl false 1 (l.map ((ct bz).val false)), .sc (.int .i64 l.length), .sc (.int .i64 x.1), .sl 0 0 x.2.1 1]) (fun x => [some (.row (x.2.2.map (bz.val false)) 0 0 5)]) (fun x => x.1 ≤ l.length ∧ (x.2.1 = x.2.2.length ∨ x.2.1 = 0) ∧ x.2.2.take x.2.1 ++ (l.drop x.1).flatten = l.flatten) (fun x => l.length - x.1) (0, 0, List.replicate l.flatten.length 0) ⟨Nat.zero_le _, .inr rfl, rfl⟩ (by simp only [↓wR, RA, simprocAttr, TF] <;> rfl) (by simp only [↓wR, RA, simprocAttr, TF] <;> rfl) ?_
      rintro ⟨k, m, r⟩ ⟨hk1, hk0, hk3⟩
      simp only at hk1 hk0 hk3
      have hk2 : m ≤ r.length := by omega
      simp only [↓wR, RA, simprocAttr, TF]
      rw [b9]; refine ⟨fun h3 => ?_, fun h3 => ?_⟩
      · obtain ⟨c, hc, hd1, hlt⟩ := ec (decide_eq_true h3)
        rw [ag6 hc] at hk3
        have hm : m + c.length ≤ 134217728 := by
          have := congrArg List.length hk3
          simp only [List.length_append, List.length_take] at this
          omega
        simp only [↓wR, RA, simprocAttr, TF, h3, hc, hk2]; repeat (simp (disch := omega) only [ai, cd, ca, cf, cb]; try simp only [↓wR, RA, simprocAttr, TF, h3, hc, hk2])
        have hl1 : (r.take m ++ c).length = m + c.length := by simp [Nat.min_eq_left hk2]
        refine ⟨(k + 1, m + c.length, r.take m ++ c), ⟨hlt, .inl hl1.symm, ?_⟩, by simp; omega, by simp, by simp⟩
        show (r.take m ++ c).take (m + c.length) ++ _ = _
        rw [List.take_of_length_le (Nat.le_of_eq hl1), List.append_assoc]
        exact hk3
      · rw [fe (decide_eq_false h3)] at hk3
        have hmr : m = r.length := by
          have := congrArg List.length hk3
          simp only [List.length_append, List.length_take, List.flatten_nil, List.length_nil] at this
          omega
        subst hmr
        have hr : r = l.flatten := by simpa using hk3
        subst hr
        simp only [↓wR, RA, simprocAttr, TF, h3, hk2]; repeat (simp (disch := omega) only [ai, cd, ca, cf, cb]; try simp only [↓wR, RA, simprocAttr, TF, h3, hk2])
    · have hnil : l.flatten = [] := List.eq_nil_of_length_eq_zero (by omega)
      simp only [↓wR, RA, simprocAttr, TF, h2]; repeat (simp (disch := omega) only [ai, cd, ca, cf, cb]; try simp only [↓wR, RA, simprocAttr, TF, h2])
      refine dy [25, 26, 27, 6] (fun (x : Nat) => [.vl false 1 (l.map ((ct bz).val false)), .sc (.int .i64 l.length), .sc (.int .i64 x), .sc (.slice none 0 0)]) (fun _ => []) (fun x => x ≤ l.length) (fun x => l.length - x) 0 (Nat.zero_le _) (by simp only [↓wR, RA, simprocAttr, TF] <;> rfl) (by simp only [↓wR, RA, simprocAttr, TF] <;> rfl) ?_
      intro k hk1
      simp only [↓wR, RA, simprocAttr, TF]
      rw [b9]; refine ⟨fun h3 => ?_, fun h3 => ?_⟩
      · obtain ⟨c, hc, hd1, hlt⟩ := ec (decide_eq_true h3)
        have hc0 : c = [] := List.eq_nil_of_length_eq_zero (by have := arp (List.mem_of_getElem? hc); rw [hnil] at this; simpa using this)
        subst hc0
        simp only [↓wR, RA, simprocAttr, TF, h3, hc]; repeat (simp (disch := omega) only [ai, cd, ca, cf, cb]; try simp only [↓wR, RA, simprocAttr, TF, h3, hc])
        refine ⟨k + 1, hlt, ?_⟩
        first | (refine ⟨by simp; omega, ?_⟩; simp) | (simp; omega)
      · simp only [↓wR, RA, simprocAttr, TF, h3]; repeat (simp (disch := omega) only [ai, cd, ca, cf, cb]; try simp only [↓wR, RA, simprocAttr, TF, h3])
        rw [hnil]
noncomputable def zu (x : List (List UInt8) × Unit) : Option AV := if x.1.length ≤ 16777216 ∧ x.1.flatten.length ≤ 134217728 then some ((r1 (ct bz)).E true (x.1.flatten)) else none
set_option maxRecDepth 2000000 in
theorem abb (x : List (List UInt8) × Unit) (r : AV) (h : zu x = some r) : bk PP 184 ((aC (ct (ct bz)) a0).E x) r := by
  by_cases hc : x.1.length ≤ 16777216 ∧ x.1.flatten.length ≤ 134217728
  case neg => simp only [zu, if_neg hc] at h; cases h
  simp only [zu, if_pos hc] at h
  cases h
  exact be (aw.nil PP) Tryz.func184 (by kernel_rfl) (by kernel_rfl) (by kernel_rfl) (Nat.le_of_ble_eq_true (by kernel_rfl)) (r1 (ct bz)) true (x.1.flatten) (al2 x.1 hc.1 hc.2)
noncomputable abbrev ars : Nat × Bool × (List AV → M AV) := (184, true, dm (aC (ct (ct bz)) a0) zu)
end Go.Proofs.YtidomogemfchpaaGreat
end
section
set_option linter.unusedSimpArgs false
set_option linter.unusedVariables false
namespace Go.Proofs.YtidomogemfchpaaGreat
open Go.Vm
set_option maxRecDepth 2000000
theorem amq (n : Name) : (w5 n).length ≤ bj n := by
  unfold w5 nameBytes
  split
  · exact Nat.zero_le _
  · have := I1 n; rw [List.length_append]; simp only [List.length_cons, List.length_nil]; omega
noncomputable def Oy (t : UInt16) (n : UInt32) : List UInt8 := (Ei n).drop (4 - (je t).size).toNat
def vo (t : UInt16) : Nat → List ByteArray → List UInt8
  | _, [] => []
  | i, x :: r => (if (t.toNat : Int) = 16 ∨ i = 0 then [UInt8.ofNat x.size] else []) ++ x.data.toList ++ vo t (i + 1) r
noncomputable def B4 (t : UInt16) (d : c0) : List UInt8 := d.nums.flatMap (Oy t)
def Bj (d : c0) : List UInt8 := d.names.flatMap w5
def yw (t : UInt16) (d : c0) : List UInt8 := vo t 0 d.texts
noncomputable def Gg (t : UInt16) (d : c0) : List UInt8 := if (t.toNat : Int) = 6 then Bj d ++ B4 t d else B4 t d ++ (Bj d ++ (yw t d ++ d.raw))
theorem J9 (n) : (Ei n).length = 4 := rfl
theorem afj {α : Type} (f : α → List UInt8) (μ : α → Nat) (h : ∀ x, (f x).length ≤ μ x) (l : List α) : (l.flatMap f).length ≤ gh μ l := by
  induction l with
  | nil => simp
  | cons a l ih => have := h a; simp only [List.flatMap_cons, List.length_append, gh, List.foldr_cons] at ih ⊢; omega
theorem aia (t : UInt16) (l : List ByteArray) : ∀ i, (vo t i l).length ≤ gh ByteArray.size l := by
  induction l with
  | nil => intro i; simp [vo]
  | cons a l ih =>
    intro i
    have := ih (i + 1)
    have ha : a.data.size = a.size := rfl
    simp only [vo, List.length_append, gh, List.foldr_cons, Array.length_toList] at this ⊢
    split <;> simp <;> omega
theorem amh (t d) : (B4 t d).length ≤ 4 * d.nums.length := by
  unfold B4
  induction d.nums with
  | nil => simp
  | cons a l ih =>
    have : (Oy t a).length ≤ 4 := by unfold Oy; rw [List.length_drop, J9]; omega
    simp only [List.flatMap_cons, List.length_append, List.length_cons]; omega
theorem dq.written {d : c0} (h : dq d) (t) : (B4 t d).length ≤ 67108864 ∧ (Bj d).length ≤ 16777216 ∧ (yw t d).length ≤ 16777216 := by
  have h1 := amh t d
  have h2 : (Bj d).length ≤ gh bj d.names := afj w5 bj amq d.names
  have h3 : (yw t d).length ≤ gh ByteArray.size d.texts := aia t d.texts 0
  unfold dq x5 at h
  omega
theorem Sd {α : Type} {l : List α} {i : Nat} {c : α} (f : α → List UInt8) (h : l.drop i = c :: l.drop (i + 1)) : (l.drop i).flatMap f = f c ++ (l.drop (i + 1)).flatMap f := by rw [h]; rfl
theorem Te (c) : (Ei c).take 4 = Ei c := rfl
theorem aha (t) (c) : (Ei c).drop (4 - (je t).size).toNat = Oy t c := rfl
theorem amw (t : UInt16) {l : List ByteArray} {i : Nat} {c : ByteArray} (h : l.drop i = c :: l.drop (i + 1)) : vo t i (l.drop i) = (if (t.toNat : Int) = 16 ∨ i = 0 then [UInt8.ofNat c.size] else []) ++ c.data.toList ++ vo t (i + 1) (l.drop (i + 1)) := by rw [h]; rfl
theorem apd (t : UInt16) (d : c0) (hd : dq d) : wl PP [Tz, aut, aj9, ars] 0 (Tryz.f161.body.getD .skip) (du PP Tryz.f161.results.toList (fun r st => (r1 (ct bz)).get true st.h r = some (Gg t d))) (cq 0 [cz.val false t, bq.val false d]) (bm []) := by
  have hl := hd.lens
  have hk := hd.written t
  have hs := Si t
  unfold Tryz.f161
  simp only [np, db]
  simp only [↓wR, RA, simprocAttr, TF, Dl, D0]
  refine jo [0, 3, 6, 7, 8, 21, 22, 23, 5] (fun (x : Nat × List UInt8) => [.sc (.int .u16 t.toNat), .ptr 0 0, .sc (.slice none 0 0), .sc (.slice none 0 0), .ptr 1 0, .vl false 1 (d.nums.map (dh.val false)), .sc (.int .i64 (d.nums.length)), .sc (.int .i64 (x.1)), .sl 2 0 x.2.length 1]) (fun x => [some (.row [.vl false 1 (d.names.map (ar.val false)), .vl false 1 (d.nums.map (dh.val false)), .vl false 1 (d.texts.map (ak.val false)), .vl false 1 (d.raw.map (bz.val false))] 0 2 83), some (.row [.sc (.int .i64 (je t).names), .sc (.int .i64 (je t).nums), .sc (.int .i64 (je t).size), .sc (.int .i64 (je t).texts), .sc (.int .i64 (je t).raw)] 0 2 214), some (.row (x.2.map (bz.val false)) 0 0 5)]) (fun x => x.1 ≤ d.nums.length ∧ x.2 ++ (d.nums.drop x.1).flatMap (Oy t) = B4 t d) (fun x => d.nums.length - x.1) (0, []) ⟨Nat.zero_le _, rfl⟩ (by simp only [↓wR, RA, simprocAttr, TF]; (refine l7.lax [] (by first | exact Nat.le_of_ble_eq_true rfl | (simp [bw]; omega)) ?_ ?_ <;> repeat' first | exact iq.nil | exact dc.nil | exact iw.same _ | exact iw.nil _ _ _ | exact iw.uy _ _ | exact dc.refl _ _ | apply iq.cons | apply dc.ghost | apply dc.same | apply dc.row)) ?_
  rintro ⟨i, x⟩ ⟨hi, hx⟩
  simp only at hi hx
  simp only [↓wR, RA, simprocAttr, TF]
  rw [b9]; refine ⟨fun h => ?_, fun h => ?_⟩
  · obtain ⟨c, hc, hd1, hlt⟩ := ec (decide_eq_true h)
    rw [Sd _ hd1] at hx
    have hxl : x.length + (Oy t c).length ≤ (B4 t d).length := by rw [← hx]; simp
    simp only [↓wR, RA, simprocAttr, TF, h, hc, Ly, J9, Te, aha]; repeat (simp (disch := omega) only [ai, cd, ca, cf, cb]; try simp only [↓wR, RA, simprocAttr, TF, h, hc, Ly, J9, Te, aha])
    exact ⟨(i + 1, x ++ Oy t c), ⟨hlt, by rw [List.append_assoc]; exact hx⟩, by simp; omega, by (first | rfl | trivial | omega | ((try (simp (disch := omega) only [ai])); (try (simp only [FB])); first | done | rfl | omega)), by (first | rfl | trivial | omega | ((try (simp (disch := omega) only [ai])); (try (simp only [FB])); first | done | rfl | omega))⟩
  rw [fe (decide_eq_false h)] at hx
  obtain rfl : x = B4 t d := by simpa using hx
  clear hx
  simp only [↓wR, RA, simprocAttr, TF, h]
  obtain ⟨nu, hnu⟩ : ∃ nu, B4 t d = nu := ⟨_, rfl⟩
  rw [hnu] at hk ⊢
  refine jo [0, 3, 7, 38, 39, 40, 5, 6] (fun (x : Nat × List UInt8) => [.sc (.int .u16 t.toNat), .ptr 0 0, .sc (.slice none 0 0), .vl false 1 (d.names.map (ar.val false)), .sc (.int .i64 (d.names.length)), .sc (.int .i64 (x.1)), .sl 1 0 nu.length 1, .sl 2 0 x.2.length 1]) (fun x => [some (.row [.vl false 1 (d.names.map (ar.val false)), .vl false 1 (d.nums.map (dh.val false)), .vl false 1 (d.texts.map (ak.val false)), .vl false 1 (d.raw.map (bz.val false))] 0 2 83), some (.row (nu.map (bz.val false)) 0 0 5), some (.row (x.2.map (bz.val false)) 0 0 5)]) (fun x => x.1 ≤ d.names.length ∧ x.2 ++ (d.names.drop x.1).flatMap w5 = Bj d) (fun x => d.names.length - x.1) (0, []) ⟨Nat.zero_le _, rfl⟩ (by simp only [↓wR, RA, simprocAttr, TF]; (refine l7.lax [] (by first | exact Nat.le_of_ble_eq_true rfl | (simp [bw]; omega)) ?_ ?_ <;> repeat' first | exact iq.nil | exact dc.nil | exact iw.same _ | exact iw.nil _ _ _ | exact iw.uy _ _ | exact dc.refl _ _ | apply iq.cons | apply dc.ghost | apply dc.same | apply dc.row)) ?_
  clear h
  rintro ⟨i, x⟩ ⟨hi, hx⟩
  simp only at hi hx
  simp only [↓wR, RA, simprocAttr, TF]
  rw [b9]; refine ⟨fun h => ?_, fun h => ?_⟩
  · obtain ⟨c, hc, hd1, hlt⟩ := ec (decide_eq_true h)
    rw [Sd _ hd1] at hx
    have hxl : x.length + (w5 c).length ≤ (Bj d).length := by rw [← hx]; simp
    simp only [↓wR, RA, simprocAttr, TF, h, hc, ur, hd.name c (List.mem_of_getElem? hc)]; repeat (simp (disch := omega) only [ai, cd, ca, cf, cb]; try simp only [↓wR, RA, simprocAttr, TF, h, hc, ur, hd.name c (List.mem_of_getElem? hc)])
    exact ⟨(i + 1, x ++ w5 c), ⟨hlt, by rw [List.append_assoc]; exact hx⟩, by simp; omega, by (first | rfl | trivial | omega | ((try (simp (disch := omega) only [ai])); (try (simp only [FB])); first | done | rfl | omega)), by (first | rfl | trivial | omega | ((try (simp (disch := omega) only [ai])); (try (simp only [FB])); first | done | rfl | omega))⟩
  rw [fe (decide_eq_false h)] at hx
  obtain rfl : x = Bj d := by simpa using hx
  clear hx
  simp only [↓wR, RA, simprocAttr, TF, h]
  obtain ⟨na, hna⟩ : ∃ na, Bj d = na := ⟨_, rfl⟩
  rw [hna] at hk ⊢
  refine jo [0, 3, 54, 55, 56, 5, 6, 7] (fun (x : Nat × List UInt8) => [.sc (.int .u16 t.toNat), .ptr 0 0, .vl false 1 (d.texts.map (ak.val false)), .sc (.int .i64 (d.texts.length)), .sc (.int .i64 (x.1)), .sl 1 0 nu.length 1, .sl 2 0 na.length 1, .sl 3 0 x.2.length 1]) (fun x => [some (.row [.vl false 1 (d.names.map (ar.val false)), .vl false 1 (d.nums.map (dh.val false)), .vl false 1 (d.texts.map (ak.val false)), .vl false 1 (d.raw.map (bz.val false))] 0 2 83), some (.row (nu.map (bz.val false)) 0 0 5), some (.row (na.map (bz.val false)) 0 0 5), some (.row (x.2.map (bz.val false)) 0 0 5)]) (fun x => x.1 ≤ d.texts.length ∧ x.2 ++ vo t x.1 (d.texts.drop x.1) = yw t d) (fun x => d.texts.length - x.1) (0, []) ⟨Nat.zero_le _, rfl⟩ (by simp only [↓wR, RA, simprocAttr, TF]; (refine l7.lax [] (by first | exact Nat.le_of_ble_eq_true rfl | (simp [bw]; omega)) ?_ ?_ <;> repeat' first | exact iq.nil | exact dc.nil | exact iw.same _ | exact iw.nil _ _ _ | exact iw.uy _ _ | exact dc.refl _ _ | apply iq.cons | apply dc.ghost | apply dc.same | apply dc.row)) ?_
  clear h
  rintro ⟨i, x⟩ ⟨hi, hx⟩
  simp only at hi hx
  simp only [↓wR, RA, simprocAttr, TF]
  rw [b9]; refine ⟨fun h => ?_, fun h => ?_⟩
  · obtain ⟨c, hc, hd1, hlt⟩ := ec (decide_eq_true h)
    rw [amw _ hd1] at hx
    have hxl : x.length + ((if (t.toNat : Int) = 16 ∨ i = 0 then [UInt8.ofNat c.size] else []).length + c.size) ≤ (yw t d).length := by rw [← hx]; simp
    have hcs : c.data.toList.length = c.size := by simp
    simp only [↓wR, RA, simprocAttr, TF, h, hc]; repeat (simp (disch := omega) only [ai, cd, ca, cf, cb]; try simp only [↓wR, RA, simprocAttr, TF, h, hc])
    have fin : ∀ b : List UInt8, x ++ (b ++ c.data.toList ++ vo t (i + 1) (d.texts.drop (i + 1))) = yw t d → x ++ b ++ c.data.toList ++ vo t (i + 1) (d.texts.drop (i + 1)) = yw t d := fun b hb => by rw [← hb]; simp
    rw [c7]; refine ⟨fun ⟨h16, e16⟩ => ?_, fun ⟨h16, e16⟩ => ?_⟩
    · rw [if_pos (.inl e16)] at hx hxl
      simp only [List.length_cons, List.length_nil] at hxl
      simp only [↓wR, RA, simprocAttr, TF, h16]; repeat (simp (disch := omega) only [ai, cd, ca, cf, cb]; try simp only [↓wR, RA, simprocAttr, TF, h16])
      exact ⟨(i + 1, x ++ [UInt8.ofNat c.size] ++ c.data.toList), ⟨hlt, fin _ hx⟩, by simp; omega, by (first | rfl | trivial | omega | ((try (simp (disch := omega) only [ai])); (try (simp only [FB])); first | done | rfl | omega)), by (first | rfl | trivial | omega | ((try (simp (disch := omega) only [ai])); (try (simp only [FB])); first | done | rfl | omega))⟩
    · simp only [↓wR, RA, simprocAttr, TF, h16]; repeat (simp (disch := omega) only [ai, cd, ca, cf, cb]; try simp only [↓wR, RA, simprocAttr, TF, h16])
      rw [c7]; refine ⟨fun ⟨h0, e0⟩ => ?_, fun ⟨h0, e0⟩ => ?_⟩
      · rw [if_pos (.inr (by omega))] at hx hxl
        simp only [List.length_cons, List.length_nil] at hxl
        simp only [↓wR, RA, simprocAttr, TF, h0]; repeat (simp (disch := omega) only [ai, cd, ca, cf, cb]; try simp only [↓wR, RA, simprocAttr, TF, h0])
        exact ⟨(i + 1, x ++ [UInt8.ofNat c.size] ++ c.data.toList), ⟨hlt, fin _ hx⟩, by simp; omega, by (first | rfl | trivial | omega | ((try (simp (disch := omega) only [ai])); (try (simp only [FB])); first | done | rfl | omega)), by (first | rfl | trivial | omega | ((try (simp (disch := omega) only [ai])); (try (simp only [FB])); first | done | rfl | omega))⟩
      · rw [if_neg (by omega)] at hx hxl
        simp only [List.length_nil] at hxl
        simp only [↓wR, RA, simprocAttr, TF, h0]; repeat (simp (disch := omega) only [ai, cd, ca, cf, cb]; try simp only [↓wR, RA, simprocAttr, TF, h0])
        exact ⟨(i + 1, x ++ c.data.toList), ⟨hlt, by have := fin _ hx; simpa using this⟩, by simp; omega, by (first | rfl | trivial | omega | ((try (simp (disch := omega) only [ai])); (try (simp only [FB])); first | done | rfl | omega)), by (first | rfl | trivial | omega | ((try (simp (disch := omega) only [ai])); (try (simp only [FB])); first | done | rfl | omega))⟩
  rw [fe (decide_eq_false h)] at hx
  obtain rfl : x = yw t d := by simpa [vo] using hx
  clear hx
  simp only [↓wR, RA, simprocAttr, TF, h]; repeat (simp (disch := omega) only [ai, cd, ca, cf, cb]; try simp only [↓wR, RA, simprocAttr, TF, h])
  unfold Gg
  rw [hnu, hna]
  rw [c7]; refine ⟨fun ⟨h6, e6⟩ => ?_, fun ⟨h6, e6⟩ => ?_⟩
  · rw [if_pos e6]
    simp only [↓wR, RA, simprocAttr, TF, h6]; repeat (simp (disch := omega) only [ai, cd, ca, cf, cb]; try simp only [↓wR, RA, simprocAttr, TF, h6])
  · rw [if_neg e6]
    have hcat : nu.length + (na.length + ((yw t d).length + d.raw.length)) ≤ 134217728 := by omega
    simp only [↓wR, RA, simprocAttr, TF, h6, zu, hcat]; repeat (simp (disch := omega) only [ai, cd, ca, cf, cb]; try simp only [↓wR, RA, simprocAttr, TF, h6, zu, hcat])
    rw [← List.map_append, ← List.map_append, ← List.map_append]
    exact rtT (ct bz) _ _
noncomputable def uq (x : UInt16 × c0 × Unit) : Option AV := if dq x.2.1 then some ((r1 (ct bz)).E true (Gg x.1 x.2.1)) else none
set_option maxRecDepth 2000000 in
theorem E1 (x : UInt16 × c0 × Unit) (r : AV) (h : uq x = some r) : bk PP 161 ((aC cz (aC bq a0)).E x) r := by
  by_cases hc : dq x.2.1
  case neg => simp only [uq, if_neg hc] at h; cases h
  simp only [uq, if_pos hc] at h
  cases h
  exact be (aw.cons (aq C7) (aw.cons (aq ad8) (aw.cons (aq Rg) (aw.cons (aq abb) (aw.nil PP))))) Tryz.func161 (by kernel_rfl) (by kernel_rfl) (by kernel_rfl) (Nat.le_of_ble_eq_true (by kernel_rfl)) (r1 (ct bz)) true (Gg x.1 x.2.1) (apd x.1 x.2.1 hc)
noncomputable abbrev Rp : Nat × Bool × (List AV → M AV) := (161, true, dm (aC cz (aC bq a0)) uq)
end Go.Proofs.YtidomogemfchpaaGreat
end
section
set_option linter.unusedSimpArgs false
set_option linter.unusedVariables false
namespace Go.Proofs.YtidomogemfchpaaGreat
open Go.Vm
set_option maxRecDepth 2000000
theorem ae5 (d : c0) (hd : dq d) : wl PP [Y1, aaa, ag7, p0] 0 (Tryz.f76.body.getD .skip) (du PP Tryz.f76.results.toList (fun r st => (r1 bq).get true st.h r = some d)) (cq 0 [bq.val false d]) (bm []) := by
  have hl := hd.lens
  have l2 := hl.2.1
  have l3 := hl.2.2.1
  have l4 := hl.2.2.2
  unfold Tryz.f76
  simp only [np, db]
  simp only [↓wR, RA, simprocAttr, TF]
  refine ⟨by kernel_rfl, .inl ?_⟩
  simp only [↓wR, RA, simprocAttr, TF, xt, xu, z3, l2, l3, l4]
  refine ⟨by kernel_rfl, ?_⟩
  refine jo [2, 17, 18, 19, 3] (fun (x : List Name) => [.ptr 0 0, .vl false 1 (d.names.map (ar.val false)), .sc (.int .i64 (d.names.length)), .sc (.int .i64 (x.length)), .ptr 1 0]) (fun x => [some (.row [.sc (.slice none 0 0), .sc (.slice none 0 0), .sc (.slice none 0 0), .sc (.slice none 0 0)] 0 2 83), some (.row [.sl 2 0 x.length 1, .vl true 1 (d.nums.map (dh.val false)), .vl true 1 (d.texts.map (ak.val false)), .vl true 1 (d.raw.map (bz.val false))] 0 2 83), some (.row (x.map (ar.val true)) 0 0 23)]) (fun x => x.length ≤ d.names.length ∧ x ++ d.names.drop x.length = d.names) (fun x => d.names.length - x.length) [] ⟨Nat.zero_le _, rfl⟩ (by simp only [↓wR, RA, simprocAttr, TF]; (refine l7.lax [] (by first | exact Nat.le_of_ble_eq_true rfl | (simp [bw]; omega)) ?_ ?_ <;> repeat' first | exact iq.nil | exact dc.nil | exact iw.same _ | exact iw.nil _ _ _ | exact iw.uy _ _ | exact dc.refl _ _ | apply iq.cons | apply dc.ghost | apply dc.same | apply dc.row)) ?_
  rintro x ⟨hi, hx⟩
  simp only [↓wR, RA, simprocAttr, TF]
  rw [b9]; refine ⟨fun h => ?_, fun h => ?_⟩
  · obtain ⟨c, hc, hd1, hlt⟩ := ec (decide_eq_true h)
    rw [hd1] at hx
    have hlim : (x.length + 1) * 24 ≤ 140737488355328 := by omega
    simp only [↓wR, RA, simprocAttr, TF, h, hc]
    refine ⟨by kernel_rfl, .inl ?_⟩
    simp only [↓wR, RA, simprocAttr, TF, kn, hd.name c (List.mem_of_getElem? hc), hlim]
    refine ⟨by kernel_rfl, ?_⟩
    exact ⟨x ++ [c], ⟨by simp; omega, by simpa using hx⟩, by simp; omega, by (first | rfl | trivial | omega | ((try (simp (disch := omega) only [ai])); (try (simp only [FB])); first | done | rfl | omega)), by (first | rfl | trivial | omega | ((try (simp (disch := omega) only [ai])); (try (simp only [FB])); first | done | rfl | omega))⟩
  · rw [fe (decide_eq_false h)] at hx
    rw [List.append_nil] at hx
    subst hx
    simp only [↓wR, RA, simprocAttr, TF, h]
noncomputable def Ba (x : c0 × Unit) : Option AV := if dq x.1 then some ((r1 bq).E true (x.1)) else none
set_option maxRecDepth 2000000 in
theorem Xp (x : c0 × Unit) (r : AV) (h : Ba x = some r) : bk PP 76 ((aC bq a0).E x) r := by
  by_cases hc : dq x.1
  case neg => simp only [Ba, if_neg hc] at h; cases h
  simp only [Ba, if_pos hc] at h
  cases h
  exact be (aw.cons (aq Ij) (aw.cons (aq Is) (aw.cons (aq K8) (aw.cons (aq mq) (aw.nil PP))))) Tryz.func76 (by kernel_rfl) (by kernel_rfl) (by kernel_rfl) (Nat.le_of_ble_eq_true (by kernel_rfl)) (r1 bq) true (x.1) (ae5 x.1 hc)
noncomputable abbrev an9 : Nat × Bool × (List AV → M AV) := (76, true, dm (aC bq a0) Ba)
end Go.Proofs.YtidomogemfchpaaGreat
end
section
set_option linter.unusedSimpArgs false
set_option linter.unusedVariables false
namespace Go.Proofs.YtidomogemfchpaaGreat
open Go.Vm
set_option maxRecDepth 2000000
def pv {α : Type} (f : α → α) (l : List α) (i : Nat) : List α := (l.take i).map f ++ l.drop i
theorem ajq {α : Type} (f : α → α) (l : List α) (i : Nat) : (pv f l i).length = l.length := by simp [pv]; omega
theorem aj1 {α : Type} (f : α → α) {l : List α} {i : Nat} {c : α} (h : l[i]? = some c) : (pv f l i)[i]? = some c := by
  obtain ⟨hi, rfl⟩ := List.getElem?_eq_some_iff.1 h
  have hl : ((l.take i).map f).length = i := by simp; omega
  rw [pv, List.getElem?_append_right (by omega), hl, Nat.sub_self, List.getElem?_drop]; simp [h]
theorem ajr {α : Type} (f : α → α) {l : List α} {i : Nat} {c : α} (h : l[i]? = some c) : (pv f l i).take i ++ [f c] ++ (pv f l i).drop (i + 1) = pv f l (i + 1) := by
  obtain ⟨hi, rfl⟩ := List.getElem?_eq_some_iff.1 h
  have h1 : ((l.take i).map f).length = i := by simp; omega
  have h2 : (pv f l i).take i = (l.take i).map f := by rw [pv, List.take_append_of_le_length (by omega), List.take_of_length_le (by omega)]
  have h3 : (pv f l i).drop (i + 1) = l.drop (i + 1) := by
    rw [pv, List.drop_append, List.drop_eq_nil_of_le (by omega), h1]
    simp
  rw [h2, h3, pv, List.take_succ_eq_append_getElem hi, List.map_append]
  rfl
theorem ah1 {α : Type} (f : α → α) (l : List α) : pv f l l.length = l.map f := by simp [pv]
noncomputable def u7 (t : UInt16) (d : c0) : c0 := if 0 < (je t).names then { d with names := d.names.map gm } else d
theorem ad7 (t : UInt16) (d : c0) (hd : dq d) : wl PP [Tz, aov] 0 (Tryz.f176.body.getD .skip) (du PP Tryz.f176.results.toList (fun r st => (r1 bq).get true st.h r = some (u7 t d))) (cq 0 [cz.val false t, bq.val false d]) (bm []) := by
  have hl := hd.lens
  have l2 := hl.2.1
  have l3 := hl.2.2.1
  have l4 := hl.2.2.2
  unfold Tryz.f176
  simp only [np, db]
  simp only [↓wR, RA, simprocAttr, TF]
  refine bn (T := [Y1, aaa, ag7, p0]) (aw.cons (aq Ij) (aw.cons (aq Is) (aw.cons (aq K8) (aw.cons (aq mq) (aw.nil PP))))) mixed Tryz.func76 rfl (by kernel_rfl) (by kernel_rfl) (by kernel_rfl) (by kernel_rfl) ?_; unfold Tryz.f76
  simp only [↓wR, RA, simprocAttr, TF]
  refine ⟨by kernel_rfl, .inl ?_⟩
  simp only [↓wR, RA, simprocAttr, TF, xt, xu, z3, l2, l3, l4]
  refine ⟨by kernel_rfl, ?_⟩
  refine jo [2, 17, 18, 19, 3] (fun (x : List Name) => [.ptr 2 0, .vl false 1 (d.names.map (ar.val false)), .sc (.int .i64 (d.names.length)), .sc (.int .i64 (x.length)), .ptr 3 0]) (fun x => [some (.row [.vl false 1 (d.names.map (ar.val false)), .vl false 1 (d.nums.map (dh.val false)), .vl false 1 (d.texts.map (ak.val false)), .vl false 1 (d.raw.map (bz.val false))] 0 2 83), some (.row [.sc (.slice none 0 0), .sc (.slice none 0 0), .sc (.slice none 0 0), .sc (.slice none 0 0)] 0 2 83), some (.row [.sc (.slice none 0 0), .sc (.slice none 0 0), .sc (.slice none 0 0), .sc (.slice none 0 0)] 0 2 83), some (.row [.sl 4 0 x.length 1, .vl true 1 (d.nums.map (dh.val false)), .vl true 1 (d.texts.map (ak.val false)), .vl true 1 (d.raw.map (bz.val false))] 0 2 83), some (.row (x.map (ar.val true)) 0 0 23)]) (fun x => x.length ≤ d.names.length ∧ x ++ d.names.drop x.length = d.names) (fun x => d.names.length - x.length) [] ⟨Nat.zero_le _, rfl⟩ (by simp only [↓wR, RA, simprocAttr, TF]; (refine l7.lax [] (by first | exact Nat.le_of_ble_eq_true rfl | (simp [bw]; omega)) ?_ ?_ <;> repeat' first | exact iq.nil | exact dc.nil | exact iw.same _ | exact iw.nil _ _ _ | exact iw.uy _ _ | exact dc.refl _ _ | apply iq.cons | apply dc.ghost | apply dc.same | apply dc.row)) ?_
  rintro x ⟨hi, hx⟩
  simp only [↓wR, RA, simprocAttr, TF]
  rw [b9]; refine ⟨fun h => ?_, fun h => ?_⟩
  · obtain ⟨c, hc, hd1, hlt⟩ := ec (decide_eq_true h)
    rw [hd1] at hx
    have hlim : (x.length + 1) * 24 ≤ 140737488355328 := by omega
    simp only [↓wR, RA, simprocAttr, TF, h, hc]
    refine ⟨by kernel_rfl, .inl ?_⟩
    simp only [↓wR, RA, simprocAttr, TF, kn, hd.name c (List.mem_of_getElem? hc), hlim]
    refine ⟨by kernel_rfl, ?_⟩
    exact ⟨x ++ [c], ⟨by simp; omega, by simpa using hx⟩, by simp; omega, by (first | rfl | trivial | omega | ((try (simp (disch := omega) only [ai])); (try (simp only [FB])); first | done | rfl | omega)), by (first | rfl | trivial | omega | ((try (simp (disch := omega) only [ai])); (try (simp only [FB])); first | done | rfl | omega))⟩
  rw [fe (decide_eq_false h)] at hx
  rw [List.append_nil] at hx
  subst hx
  simp only [↓wR, RA, simprocAttr, TF, h, Dl, D0]
  unfold u7
  clear hi h
  rw [b9]; refine ⟨fun h0 => ?_, fun h0 => ?_⟩
  · rw [if_pos h0]
    simp only [↓wR, RA, simprocAttr, TF, h0]
    refine dy [4, 5, 15, 16, 17] (fun (i : Nat) => [.ptr 0 0, .ptr 1 0, .sl 2 0 d.names.length 1, .sc (.int .i64 (d.names.length)), .sc (.int .i64 (i))]) (fun i => [some (.row [.sc (.slice none 0 0), .sc (.slice none 0 0), .sc (.slice none 0 0), .sc (.slice none 0 0)] 0 2 83), some (.row [.sl 2 0 d.names.length 1, .vl true 1 (d.nums.map (dh.val false)), .vl true 1 (d.texts.map (ak.val false)), .vl true 1 (d.raw.map (bz.val false))] 0 2 83), some (.row ((pv gm d.names i).map (ar.val true)) 0 0 23)]) (fun i => i ≤ d.names.length) (fun i => d.names.length - i) 0 (Nat.zero_le _) (by simp only [↓wR, RA, simprocAttr, TF] <;> rfl) (by simp only [↓wR, RA, simprocAttr, TF] <;> rfl) ?_
    intro i hi
    simp only [↓wR, RA, simprocAttr, TF]
    rw [b9]; refine ⟨fun h => ?_, fun h => ?_⟩
    · obtain ⟨c, hc, hd1, hlt⟩ := ec (decide_eq_true h)
      have hs := aj1 gm hc
      have hlen := ajq gm d.names i
      have hlt' : i + 1 ≤ d.names.length := hlt
      simp only [↓wR, RA, simprocAttr, TF, h, hs, hlt]
      refine ⟨by kernel_rfl, .inl ?_⟩
      simp only [↓wR, RA, simprocAttr, TF, h, hlt, hlt', hlen, Bh, hd.name c (List.mem_of_getElem? hc)]
      refine ⟨by kernel_rfl, i + 1, hlt, by omega, by (first | rfl | trivial | omega | ((try (simp (disch := omega) only [ai])); (try (simp only [FB])); first | done | rfl | omega)), ?_⟩
      rw [← ajr gm hc]; simp only [List.map_append, List.map_cons, List.map_nil]
    · have hin : i = d.names.length := by omega
      subst hin
      rw [ah1]
      have hml : (d.names.map gm).length = d.names.length := List.length_map _
      generalize d.names.map gm = m at hml ⊢
      simp only [↓wR, RA, simprocAttr, TF, h, hml]
      rfl
  · rw [if_neg h0]
    simp only [↓wR, RA, simprocAttr, TF, h0]
noncomputable def Bf (x : UInt16 × c0 × Unit) : Option AV := if dq x.2.1 then some ((r1 bq).E true (u7 x.1 x.2.1)) else none
set_option maxRecDepth 2000000 in
theorem X4 (x : UInt16 × c0 × Unit) (r : AV) (h : Bf x = some r) : bk PP 176 ((aC cz (aC bq a0)).E x) r := by
  by_cases hc : dq x.2.1
  case neg => simp only [Bf, if_neg hc] at h; cases h
  simp only [Bf, if_pos hc] at h
  cases h
  exact be (aw.cons (aq C7) (aw.cons (aq X9) (aw.nil PP))) Tryz.func176 (by kernel_rfl) (by kernel_rfl) (by kernel_rfl) (Nat.le_of_ble_eq_true (by kernel_rfl)) (r1 bq) true (u7 x.1 x.2.1) (ad7 x.1 x.2.1 hc)
noncomputable abbrev aph : Nat × Bool × (List AV → M AV) := (176, true, dm (aC cz (aC bq a0)) Bf)
end Go.Proofs.YtidomogemfchpaaGreat
end
section
set_option linter.unusedSimpArgs false
set_option linter.unusedVariables false
namespace Go.Proofs.YtidomogemfchpaaGreat
open Go.Vm
set_option maxRecDepth 2000000
def tk : List Name → Int
  | [] => 0
  | n :: r => if dn n ≠ 0 then dn n else tk r
noncomputable def eu (t : UInt16) (d : c0) : Int :=
  if Gl t = true then 6 else if zi (je t) t d = false then 7 else if tk d.names ≠ 0 then tk d.names else if 65535 < (Gg t d).length then 3 else 0
theorem afe {l : List Name} {i : Nat} {c : Name} (h : l.drop i = c :: l.drop (i + 1)) : tk (l.drop i) = if dn c ≠ 0 then dn c else tk (l.drop (i + 1)) := by rw [h]; rfl
theorem Ze (t : UInt16) (d : c0) (hd : dq d) : wl PP [auu, Tz, avh, dz, Rp] 0 (Tryz.f141.body.getD .skip) (du PP Tryz.f141.results.toList (fun r st => (r1 (bg .i64)).get true st.h r = some (eu t d))) (cq 0 [cz.val false t, bq.val false d]) (bm []) := by
  have hs := Si t
  have hl := hd.lens
  unfold Tryz.f141
  simp only [np, db]
  simp only [↓wR, RA, simprocAttr, TF, U4]
  unfold eu
  rw [cp]; refine ⟨fun hb => ?_, fun hb => ?_⟩
  · rw [if_pos hb]
    simp only [↓wR, RA, simprocAttr, TF, hb]
  rw [if_neg (by rw [hb]; decide)]
  simp only [↓wR, RA, simprocAttr, TF, hb]
  refine ⟨by kernel_rfl, .inl ?_⟩
  simp only [↓wR, RA, simprocAttr, TF, Dl, Kc, hs, hd]
  refine ⟨by kernel_rfl, ?_⟩
  rw [cp]; refine ⟨fun hf => ?_, fun hf => ?_⟩
  · rw [if_pos (by simpa using hf)]
    simp only [↓wR, RA, simprocAttr, TF, hf]
  have hf' : zi (je t) t d = true := by simpa using hf
  rw [if_neg (by rw [hf']; decide)]
  simp only [↓wR, RA, simprocAttr, TF, hf]
  refine dy [0, 3, 17, 18, 19] (fun (i : Nat) => [.sc (.int .u16 t.toNat), .ptr 0 0, .vl false 1 (d.names.map (ar.val false)), .sc (.int .i64 (d.names.length)), .sc (.int .i64 (i))]) (fun _ => [some (.row [.vl false 1 (d.names.map (ar.val false)), .vl false 1 (d.nums.map (dh.val false)), .vl false 1 (d.texts.map (ak.val false)), .vl false 1 (d.raw.map (bz.val false))] 0 2 83)]) (fun i => i ≤ d.names.length ∧ tk d.names = tk (d.names.drop i)) (fun i => d.names.length - i) 0 ⟨Nat.zero_le _, rfl⟩ (by simp only [↓wR, RA, simprocAttr, TF] <;> rfl) (by simp only [↓wR, RA, simprocAttr, TF] <;> rfl) ?_
  rintro i ⟨hi, hx⟩
  simp only [↓wR, RA, simprocAttr, TF]
  rw [b9]; refine ⟨fun h => ?_, fun h => ?_⟩
  · obtain ⟨c, hc, hd1, hlt⟩ := ec (decide_eq_true h)
    rw [afe hd1] at hx
    simp only [↓wR, RA, simprocAttr, TF, h, hc, nv, (hd.name c (List.mem_of_getElem? hc)).fit]
    rw [cp]; refine ⟨fun h1 => ?_, fun h1 => ?_⟩
    · have he : dn c ≠ 0 := by simpa using h1
      rw [if_pos he] at hx
      rw [if_pos (by rw [hx]; exact he), hx]
      simp only [↓wR, RA, simprocAttr, TF, h1]
    · have he : dn c = 0 := by simpa using h1
      rw [if_neg (by omega)] at hx
      simp only [↓wR, RA, simprocAttr, TF, h1]; repeat (simp (disch := omega) only [ai, cd, ca, cf, cb]; try simp only [↓wR, RA, simprocAttr, TF, h1])
      exact ⟨i + 1, ⟨hlt, hx⟩, by omega, by (first | rfl | trivial | omega | ((try (simp (disch := omega) only [ai])); (try (simp only [FB])); first | done | rfl | omega))⟩
  rw [fe (decide_eq_false h)] at hx
  rw [if_neg (by rw [hx]; decide)]
  simp only [↓wR, RA, simprocAttr, TF, h, uq, hd]
  rw [b9]; refine ⟨fun h2 => ?_, fun h2 => ?_⟩
  · rw [if_pos (by omega)]
    simp only [↓wR, RA, simprocAttr, TF, h2]
  · rw [if_neg (by omega)]
    simp only [↓wR, RA, simprocAttr, TF, h2]
noncomputable def qx (x : UInt16 × c0 × Unit) : Option AV := if dq x.2.1 then some ((r1 (bg .i64)).E true (eu x.1 x.2.1)) else none
set_option maxRecDepth 2000000 in
theorem z6 (x : UInt16 × c0 × Unit) (r : AV) (h : qx x = some r) : bk PP 141 ((aC cz (aC bq a0)).E x) r := by
  by_cases hc : dq x.2.1
  case neg => simp only [qx, if_neg hc] at h; cases h
  simp only [qx, if_pos hc] at h
  cases h
  exact be (aw.cons (aq afb) (aw.cons (aq C7) (aw.cons (aq ahq) (aw.cons (aq pn) (aw.cons (aq E1) (aw.nil PP)))))) Tryz.func141 (by kernel_rfl) (by kernel_rfl) (by kernel_rfl) (Nat.le_of_ble_eq_true (by kernel_rfl)) (r1 (bg .i64)) true (eu x.1 x.2.1) (Ze x.1 x.2.1 hc)
noncomputable abbrev Jc : Nat × Bool × (List AV → M AV) := (141, true, dm (aC cz (aC bq a0)) qx)
noncomputable def G1 (t : UInt16) (d : c0) : List UInt8 := if eu t d ≠ 0 then [] else Gg t d
theorem aco (t : UInt16) (d : c0) (hd : dq d) : wl PP [Jc, Rp] 0 (Tryz.f175.body.getD .skip) (du PP Tryz.f175.results.toList (fun r st => (r2 (ct bz) (bg .i64)).get true st.h r = some (G1 t d, eu t d))) (cq 0 [cz.val false t, bq.val false d]) (bm []) := by
  unfold Tryz.f175
  simp only [np, db]
  simp only [↓wR, RA, simprocAttr, TF, qx, hd]
  unfold G1
  rw [cp]; refine ⟨fun h => ?_, fun h => ?_⟩
  · have he : eu t d ≠ 0 := by simpa using h
    rw [if_pos he]
    simp only [↓wR, RA, simprocAttr, TF, h]
  · have he : eu t d = 0 := by simpa using h
    rw [if_neg (by omega)]
    simp only [↓wR, RA, simprocAttr, TF, h, uq, hd, he]
noncomputable def zj (x : UInt16 × c0 × Unit) : Option AV := if dq x.2.1 then some ((r2 (ct bz) (bg .i64)).E true ((G1 x.1 x.2.1, eu x.1 x.2.1))) else none
set_option maxRecDepth 2000000 in
theorem Ua (x : UInt16 × c0 × Unit) (r : AV) (h : zj x = some r) : bk PP 175 ((aC cz (aC bq a0)).E x) r := by
  by_cases hc : dq x.2.1
  case neg => simp only [zj, if_neg hc] at h; cases h
  simp only [zj, if_pos hc] at h
  cases h
  exact be (aw.cons (aq z6) (aw.cons (aq E1) (aw.nil PP))) Tryz.func175 (by kernel_rfl) (by kernel_rfl) (by kernel_rfl) (Nat.le_of_ble_eq_true (by kernel_rfl)) (r2 (ct bz) (bg .i64)) true ((G1 x.1 x.2.1, eu x.1 x.2.1)) (aco x.1 x.2.1 hc)
noncomputable abbrev amj : Nat × Bool × (List AV → M AV) := (175, true, dm (aC cz (aC bq a0)) zj)
end Go.Proofs.YtidomogemfchpaaGreat
end
section
set_option linter.unusedSimpArgs false
set_option linter.unusedVariables false
namespace Go.Proofs.YtidomogemfchpaaGreat
open Go.Vm
set_option maxRecDepth 2000000
theorem akx (args : List AV) : Aw PP 191 args (Cx.il args) :=
  Cx.sm (fn := (PP.funcs[191]?).getD default) (by kernel_rfl) (by kernel_rfl) (by kernel_rfl) (by kernel_rfl) (by kernel_rfl) args
noncomputable abbrev atg : Nat × Bool × (List AV → M AV) := (191, true, Cx.il)
theorem ary : aw PP [atg] := aw.cons akx (aw.nil PP)
noncomputable def Oz (a b : List UInt8) : Int := Lib.compareBytes a b
theorem P3 (a b : List UInt8) : wl PP [atg] 0 (Tryz.f177.body.getD .skip) (du PP Tryz.f177.results.toList (fun r st => (r1 (bg .i64)).get true st.h r = some (Oz a b))) (cq 0 [(ct bz).val false a, (ct bz).val false b]) (bm []) := by
  unfold Tryz.f177
  simp only [tj]
  simp only [↓wR, RA, simprocAttr, TF, Oz]
noncomputable def w7 (x : List UInt8 × List UInt8 × Unit) : Option AV := some ((r1 (bg .i64)).E true (Oz x.1 x.2.1))
theorem Mq (x : List UInt8 × List UInt8 × Unit) (r : AV) (h : w7 x = some r) : bk PP 177 ((aC (ct bz) (aC (ct bz) a0)).E x) r := by
  cases h
  exact be ary Tryz.func177 (by kernel_rfl) (by kernel_rfl) (by kernel_rfl) (Nat.le_of_ble_eq_true (by kernel_rfl)) (r1 (bg .i64)) true (Oz x.1 x.2.1) (P3 x.1 x.2.1)
noncomputable abbrev ab6 : Nat × Bool × (List AV → M AV) := (177, true, dm (aC (ct bz) (aC (ct bz) a0)) w7)
theorem akk (s : ByteArray) : (fold s).size = s.size := by
  show (s.data.toList.map low).toArray.size = s.data.size
  simp
theorem Ub (n : Name) : bj (gm n) = bj n := by
  unfold bj gm
  rw [List.foldl_map]
  simp only [akk]
theorem amg (l : List Name) : gh bj (l.map gm) = gh bj l := by
  induction l with
  | nil => rfl
  | cons a l ih => simp only [gh, List.map_cons, List.foldr_cons, Ub] at ih ⊢; rw [ih]
theorem dq.fold {d : c0} (h : dq d) (t : UInt16) : dq (u7 t d) := by
  unfold u7
  split
  · unfold dq x5 at *
    simp only [amg]; exact h
  · exact h
noncomputable def Jh (t : UInt16) (a b : c0) : Int := if eu t (u7 t a) ≠ 0 ∨ eu t (u7 t b) ≠ 0 then 0 else Oz (G1 t (u7 t a)) (G1 t (u7 t b))
noncomputable def D3 (t : UInt16) (a b : c0) : Bool := decide (eu t a = 0) && decide (eu t b = 0) && decide (Jh t a b = 0)
theorem Us (t : UInt16) (a b : c0) (ha : dq a) (hb : dq b) : wl PP [aph, amj, ab6] 0 (Tryz.f153.body.getD .skip) (du PP Tryz.f153.results.toList (fun r st => (r1 (bg .i64)).get true st.h r = some (Jh t a b))) (cq 0 [cz.val false t, bq.val false a, bq.val false b]) (bm []) := by
  have fa := ha.fold t
  have fb := hb.fold t
  unfold Tryz.f153
  simp only [np, db]
  simp only [↓wR, RA, simprocAttr, TF, Bf, zj, w7, ha, hb, fa, fb]
  unfold Jh
  rw [cp]; refine ⟨fun h => ?_, fun h => ?_⟩
  · have he : eu t (u7 t a) ≠ 0 := by simpa using h
    rw [if_pos (.inl he)]
    simp only [↓wR, RA, simprocAttr, TF, h]
  have he : eu t (u7 t a) = 0 := by simpa using h
  simp only [↓wR, RA, simprocAttr, TF, h]
  rw [cp]; refine ⟨fun h2 => ?_, fun h2 => ?_⟩
  · have he2 : eu t (u7 t b) ≠ 0 := by simpa using h2
    rw [if_pos (.inr he2)]
    simp only [↓wR, RA, simprocAttr, TF, h2]
  · have he2 : eu t (u7 t b) = 0 := by simpa using h2
    rw [if_neg (by omega)]
    simp only [↓wR, RA, simprocAttr, TF, h2, w7]
noncomputable def mb (x : UInt16 × c0 × c0 × Unit) : Option AV := if dq x.2.1 ∧ dq x.2.2.1 then some ((r1 (bg .i64)).E true (Jh x.1 x.2.1 x.2.2.1)) else none
set_option maxRecDepth 2000000 in
theorem Dm (x : UInt16 × c0 × c0 × Unit) (r : AV) (h : mb x = some r) : bk PP 153 ((aC cz (aC bq (aC bq a0))).E x) r := by
  by_cases hc : dq x.2.1 ∧ dq x.2.2.1
  case neg => simp only [mb, if_neg hc] at h; cases h
  simp only [mb, if_pos hc] at h
  cases h
  exact be (aw.cons (aq X4) (aw.cons (aq Ua) (aw.cons (aq Mq) (aw.nil PP)))) Tryz.func153 (by kernel_rfl) (by kernel_rfl) (by kernel_rfl) (Nat.le_of_ble_eq_true (by kernel_rfl)) (r1 (bg .i64)) true (Jh x.1 x.2.1 x.2.2.1) (Us x.1 x.2.1 x.2.2.1 hc.1 hc.2)
noncomputable abbrev E9 : Nat × Bool × (List AV → M AV) := (153, true, dm (aC cz (aC bq (aC bq a0))) mb)
theorem afc (t : UInt16) (a b : c0) (ha : dq a) (hb : dq b) : wl PP [Jc, E9] 0 (Tryz.f150.body.getD .skip) (du PP Tryz.f150.results.toList (fun r st => (r1 bo).get true st.h r = some (D3 t a b))) (cq 0 [cz.val false t, bq.val false a, bq.val false b]) (bm []) := by
  unfold Tryz.f150
  simp only [np, db]
  simp only [↓wR, RA, simprocAttr, TF, qx, ha, hb]
  unfold D3
  rw [c7]; refine ⟨fun ⟨h, e⟩ => ?_, fun ⟨h, e⟩ => ?_⟩
  · rw [decide_eq_true e]
    simp only [↓wR, RA, simprocAttr, TF, h, qx, ha, hb]
    rw [c7]; refine ⟨fun ⟨h2, e2⟩ => ?_, fun ⟨h2, e2⟩ => ?_⟩
    · rw [decide_eq_true e2]
      simp only [↓wR, RA, simprocAttr, TF, h2, mb, ha, hb]
      rfl
    · rw [decide_eq_false e2]
      simp only [↓wR, RA, simprocAttr, TF, h2]
      rfl
  · rw [decide_eq_false e]
    simp only [↓wR, RA, simprocAttr, TF, h]
    rfl
noncomputable def Bg (x : UInt16 × c0 × c0 × Unit) : Option AV := if dq x.2.1 ∧ dq x.2.2.1 then some ((r1 bo).E true (D3 x.1 x.2.1 x.2.2.1)) else none
set_option maxRecDepth 2000000 in
theorem X7 (x : UInt16 × c0 × c0 × Unit) (r : AV) (h : Bg x = some r) : bk PP 150 ((aC cz (aC bq (aC bq a0))).E x) r := by
  by_cases hc : dq x.2.1 ∧ dq x.2.2.1
  case neg => simp only [Bg, if_neg hc] at h; cases h
  simp only [Bg, if_pos hc] at h
  cases h
  exact be (aw.cons (aq z6) (aw.cons (aq Dm) (aw.nil PP))) Tryz.func150 (by kernel_rfl) (by kernel_rfl) (by kernel_rfl) (Nat.le_of_ble_eq_true (by kernel_rfl)) (r1 bo) true (D3 x.1 x.2.1 x.2.2.1) (afc x.1 x.2.1 x.2.2.1 hc.1 hc.2)
noncomputable abbrev apw : Nat × Bool × (List AV → M AV) := (150, true, dm (aC cz (aC bq (aC bq a0))) Bg)
end Go.Proofs.YtidomogemfchpaaGreat
end
section
set_option linter.unusedSimpArgs false
set_option linter.unusedVariables false
set_option maxRecDepth 100000
namespace Go.Vm
noncomputable section
theorem Cl {α : Type} (C : da α) (fr : Bool) (h : Tr ba) (l : List AV) (ha : C.agg = true) : C.dec fr h l = C.ew fr h (.agg l) := by
  rw [rn _ _ _ _ rfl (by rw [ha]; rfl)]; rfl
theorem Ph {α β : Type} (A : da α) (B : da β) (fr : Bool) (h : Tr ba) (l : List AV) : (ig A B).dec fr h l = match A.dec fr h (l.take A.sz), B.dec fr h (l.drop A.sz) with | some x, some y => some (x, y) | _, _ => none := rfl
theorem Hd {α : Type} (C : da α) (fr h) (x : AV) : (ct C).dec fr h [x] = ek C fr h x := rfl
theorem Hx (fr h) (x : AV) : ar.dec fr h [x] = ek ak fr h x := rfl
theorem ajt {P : Program} {T : dw} {l : Nat} {az : Nat} {L : SL} {st : St} {Q : QI} {ps : List Tmp} {ra rb : Code} {L0 : SL} {α : Type} {b : Code} (keep : List Nat) (V : α → List AV) (O : α → List (Option ba)) (I : α → Prop) (μ : α → Nat) (x : α) (hx : I x)
    (hv : l7 az (j6 az keep L st) (gb az keep L st) (V x) (O x))
    (step : ∀ x, I x → ou P T l (nb ps (fun p => wl P T p ra) (fun p => wl P T p rb) L0) az b (yk (w6 az keep (fun vs os => ∃ y, I y ∧ μ y < μ x ∧ vs = V y ∧ os = O y) (fun _ _ _ => False)) Q) none (ma keep (V x)) (bm (O x))) : ou P T l (nb ps (fun p => wl P T p ra) (fun p => wl P T p rb) L0) az (.loop b) Q none L st := by
  have mono : ∀ (Q1 Q2 : QL), (∀ e L st, Q1 e L st → Q2 e L st) → ∀ L st, ou P T l (nb ps (fun p => wl P T p ra) (fun p => wl P T p rb) L0) az b (yk Q1 Q) none L st → ou P T l (nb ps (fun p => wl P T p ra) (fun p => wl P T p rb) L0) az b (yk Q2 Q) none L st := fun Q1 Q2 h L st hh => Py (M9 P T) b _ _ (fun e pe L st q => by
    cases e with
    | normal => exact ⟨q.1, h _ _ _ q.2⟩
    | ret => exact q
    | exit i => exact q) none L st hh
  refine ⟨rfl, ry.aon (B := fun Q' L st => ou P T l _ az b (yk Q' Q) none L st) keep V O I μ x hx hv mono (fun x hi => mono _ _ (fun e L' st' hq => ?_) _ _ (step x hi))⟩
  cases e with
  | normal =>
    obtain ⟨y, h1, h2, h3, h4⟩ := hq
    refine ⟨y, h1, h2, ?_⟩
    rw [h3, h4]; exact .refl _ _ _
  | exit i => exact hq.elim
  | ret => exact hq.elim
theorem Ii (k fr h n cells kk st et) (hn : n = cells.length) : lj (bg k) fr h 0 n (.row cells kk st et) = qa (bg k) fr h cells := wc (bg k) rfl fr h n cells kk st et hn
def gz (n : Nat) (r : AV) (st : St) : List Nat := reach st.h eh (r.names ++ ng st.h (di 0 n)) (di 0 n)
def ik (n : Nat) (r : AV) (st : St) : AV := r.c9 (fun o => idx (gz n r st) o 0)
def g8 (n : Nat) (r : AV) (st : St) : St := bm (g6 st.h (fun o => idx (gz n r st) o 0) (gz n r st))
theorem agt {g g' : Gh} {st st' : St} {w w' : World} {r : AV} {v : Value} (hn : st.nx ≤ 1000) (hfr : ∀ o, st.nx ≤ o → g.inj o = none) (hs : Step g st.h w st.nx st'.nx g' st'.h w') (hok : Ok g' st'.h w') (hr : Rel g' w' r v) :
    ∃ g'', st.nx ≤ (g8 st.nx r st').nx ∧ Step g st.h w st.nx (g8 st.nx r st').nx g'' (g8 st.nx r st').h w' ∧ Ok g'' (g8 st.nx r st').h w' ∧ Rel g'' w' (ik st.nx r st') v := by
  have hN := xw st'.h eh (r.names ++ ng st'.h (di 0 st.nx)) (di 0 st.nx) (pz _ _)
  change (gz st.nx r st').Nodup ∧ (∃ q, gz st.nx r st' = di 0 st.nx ++ q) ∧ (gz st.nx r st').length ≤ _ at hN
  have hτ : ∀ o p, (fun o => idx (gz st.nx r st') o 0) o = some p → (gz st.nx r st')[p]? = some o := fun o p h => Ci _ o p h
  unfold g8 ik
  generalize gz st.nx r st' = N at hN hτ
  obtain ⟨hnd, ⟨rest, hpre⟩, hlen⟩ := hN
  rw [iu] at hlen
  have hlim : N.length ≤ bw := by simp only [eh, bw] at *; omega
  have cj : ∀ i x, (bm (g6 st'.h (fun o => idx N o 0) N)).h.get i = some x → ∃ o y, N[i]? = some o ∧ st'.h.get o = some y ∧ y.c9 (fun o => idx N o 0) = some x := by
    intro i x hx
    simp only [bm] at hx
    rw [sv _ _ _ (by rw [gu]; omega), if_pos (Nat.zero_le _), Nat.sub_zero, tm] at hx
    cases hi : N[i]? with
    | none => rw [hi] at hx; cases hx
    | some o =>
      rw [hi] at hx
      simp only [Option.map_some, Option.join_some] at hx
      cases hy : st'.h.get o with
      | none => rw [hy] at hx; cases hx
      | some y => rw [hy] at hx; exact ⟨o, y, rfl, hy, hx⟩
  have hinj : ∀ i o, N[i]? = some o → (g'.c9 N).inj i = g'.inj o := fun i o h => by simp [Gh.c9, h]
  have hlow : ∀ o, o < st.nx → N[o]? = some o := fun o ho => by rw [hpre, List.getElem?_append_left (by rw [iu]; exact ho), B3 _ _ _ ho, Nat.zero_add]
  have hnx : (bm (g6 st'.h (fun o => idx N o 0) N)).nx = N.length := by simp only [bm, gu]
  have hle : st.nx ≤ N.length := by rw [hpre, List.length_append, iu]; omega
  rw [hnx]
  refine ⟨g'.c9 N, hle, ⟨⟨hs.ext.b0, fun o p ho => ?_, hs.ext.K, hs.ext.cell, hs.ext.zo, hs.ext.lp⟩, hs.size, hs.os, hs.tape, hs.output, hs.frame, fun o ho hr => ?_, fun i b base hi hj => ?_, hs.n8⟩, ⟨hok.size, fun i x hx => ?_, fun i j x y b base base' hij hx hy hb hb' => ?_, hok.K⟩, hr.c9 hτ⟩
  · have hlt : o < st.nx := by
      rcases Nat.lt_or_ge o st.nx with h | h
      · exact h
      · rw [hfr o h] at ho; cases ho
    rw [hinj o o (hlow o hlt)]; exact hs.ext.inj o p ho
  · rcases Nat.lt_or_ge o st.nx with h | h
    · rw [hinj o o (hlow o h)]; exact hs.fresh o ho (by omega)
    · simp [Gh.c9, List.getElem?_eq_none (show N.length ≤ o by omega)]
  · obtain ⟨x, hx⟩ := Option.isSome_iff_exists.1 hi
    obtain ⟨o, y, h1, h2, _⟩ := cj i x hx
    rw [hinj i o h1] at hj
    exact hs.own o b base (by rw [h2]; rfl) hj
  · obtain ⟨o, y, h1, h2, h3⟩ := cj i x hx
    refine (hok.l6 o y h2).imp (fun q => ⟨by rw [hinj i o h1]; exact q.1, by obtain ⟨s0, e0, rfl⟩ := q.2; simp only [ba.c9, AV.c9.go, Option.some.injEq] at h3; exact ⟨s0, e0, h3.symm⟩⟩) ?_
    rintro ⟨b, base, q1, q2, q3⟩
    exact ⟨b, base, by rw [hinj i o h1]; exact q1, q2, q3.c9 hτ h3⟩
  · obtain ⟨o, y1, h1, h2, _⟩ := cj i x hx
    obtain ⟨o', y2, h1', h2', _⟩ := cj j y hy
    rw [hinj i o h1] at hb
    rw [hinj j o' h1'] at hb'
    have hne : o ≠ o' := by
      intro e
      subst e
      obtain ⟨hi, ei⟩ := List.getElem?_eq_some_iff.1 h1
      obtain ⟨hj, ej⟩ := List.getElem?_eq_some_iff.1 h1'
      exact hij ((List.getElem_inj hnd).1 (ei.trans ej.symm))
    exact hok.sep o o' _ _ b base base' hne h2 h2' hb hb'
theorem dr {P : Program} {f : Nat} {args : List AV} {st : St} {R : AV → St → Prop} (R0 : AV → St → Prop) (hn : Nat.ble st.nx 1000 = true) (h1 : qq P f args st (fun r st' => R0 (ik st.nx r st') (g8 st.nx r st'))) (h2 : ∀ r st', R0 r st' → R r st') : qq P f args st R := by
  intro g w vs hok hfr hrel
  rcases h1 g w vs hok hfr hrel with ⟨v, w', g', r, st', q1, q2, q3, q4, q5, q6⟩ | ⟨q1, q2⟩
  · obtain ⟨g'', p1, p2, p3, p4⟩ := agt (Nat.le_of_ble_eq_true hn) hfr q4 q5 q6
    exact .inl ⟨v, w', g'', _, _, q1, h2 _ _ q2, p1, p2, p3, p4⟩
  · refine .inr ⟨q1, q2.mono ?_⟩
    rintro e w' ⟨v, g', r, st', rfl, q2, q3, q4, q5, q6⟩
    obtain ⟨g'', p1, p2, p3, p4⟩ := agt (Nat.le_of_ble_eq_true hn) hfr q4 q5 q6
    exact ⟨v, g'', _, _, rfl, h2 _ _ q2, p1, p2, p3, p4⟩
theorem Io (l) (n : Name) : jk (ar.val l n) = some n.length := by
  rw [db]; show some (List.map (ak.val l) n).length = _; rw [List.length_map]
theorem agx (a b : Operand) : (#[a] ++ (none : Option Operand).toArray ++ (some b).toArray ++ (none : Option Operand).toArray).toList = [a, b] := id rfl
theorem md5 (a : Nat) : a * 5 / 5 = a := by omega
theorem dv4 : 4 / 4 = 1 := rfl
theorem dv5 : 5 / 5 = 1 := rfl
theorem abc (fr h) : cz.dec fr h [.sc (.int .u16 0)] = some 0 := rfl
theorem ac2 (fr h) : dh.dec fr h [.sc (.int .u32 0)] = some 0 := rfl
theorem age (k fr h n) : (bg k).dec fr h [.sc (.int k n)] = some n := (bg k).rt fr h true n (fun _ => rfl)
theorem Ie (l : Bool) (d : c0) : (bq.val l d).cells = [.vl l 1 (d.names.map (ar.val l)), .vl l 1 (d.nums.map (dh.val l)), .vl l 1 (d.texts.map (ak.val l)), .vl l 1 (d.raw.map (bz.val l))] := id rfl
theorem Jm (fr h l) (n : Name) (hl : (l || !fr) = true) : ek ak fr h (ar.val l n) = some n := um ak fr h l n 1 rfl hl
def acr {α : Type} (C : da α) (h : Tr ba) (off : Nat) (x : ba) : Option α :=
  match x with
  | .row cells _ _ _ => bif Nat.ble (off + C.sz) cells.length then C.dec false h ((cells.drop off).take C.sz) else none
  | _ => none
def Uv {α : Type} (C : da α) (h : Tr ba) (a : AV) : Option α :=
  match a with
  | .gn l => bif Nat.ble C.sz l.length then C.dec false h (l.take C.sz) else none
  | .ptr o off => (h.get o).bind (acr C h off)
  | _ => none
theorem P1 {α : Type} (C : da α) (h o off) : Uv C h (.ptr o off) = (h.get o).bind (acr C h off) := id rfl
theorem V8 {α : Type} (C : da α) (h l) : Uv C h (.gn l) = bif Nat.ble C.sz l.length then C.dec false h (l.take C.sz) else none := id rfl
theorem Pf {α : Type} (C : da α) (h off cells k s e) : acr C h off (.row cells k s e) = bif Nat.ble (off + C.sz) cells.length then C.dec false h ((cells.drop off).take C.sz) else none := id rfl
theorem ase {α : Type} (C : da α) {g h w K b0 a v x} (hok : Ok g h w) (hl : rh g h K) (hr : Rel g w a v) (hd : Uv C h a = some x) : Rel (gK b0 K) w (.gn (C.cells false x)) v := by
  have fin : ∀ (b off : Nat) (vs : List Value), bh g w ((C.cells false x).map fun _ => AV.bad) vs → bh (gK b0 K) w (C.cells false x) vs → (∀ j u, vs[j]? = some u → K b (off + j) ∧ w.cell? ⟨b, off + j, none⟩ = some u) → Rel (gK b0 K) w (.gn (C.cells false x)) (.pointer (some ⟨b, off, none⟩)) := by
    intro b off vs _ hrl hc
    refine .gn _ b off (fun j => vs.getD j undef) (fun j a hj => ?_) (fun j a hj => ?_)
    · obtain ⟨u, hu, _⟩ := hrl.get hj
      have := hc j u hu
      exact ⟨this.1, by rw [this.2, List.getD_eq_getElem?_getD, hu]; rfl⟩
    · obtain ⟨u, hu, hrel⟩ := hrl.get hj
      show Rel _ _ a (vs.getD j undef)
      rw [List.getD_eq_getElem?_getD, hu]; exact hrel
  have bads : ∀ vs : List Value, bh (gK b0 K) w (C.cells false x) vs → bh g w ((C.cells false x).map fun _ => AV.bad) vs := fun vs h => ⟨by simpa using h.1, fun i a v ha _ => by
    rw [List.getElem?_map, Option.map_eq_some_iff] at ha
    obtain ⟨_, _, rfl⟩ := ha
    exact .bad _⟩
  cases hr with
  | gn l b off c h1 h2 =>
    rw [V8] at hd
    cases hb : Nat.ble C.sz l.length with
    | false => rw [hb] at hd; cases hd
    | true =>
      rw [hb, cond_true] at hd
      have hle := Nat.le_of_ble_eq_true hb
      have hlist : bh g w (l.take C.sz) (ij 0 C.sz c) := by
        refine ⟨by simp [ij]; omega, fun i a v ha hv => ?_⟩
        rw [List.getElem?_take] at ha
        by_cases hi : i < C.sz
        · rw [if_pos hi] at ha
          simp only [ij, List.getElem?_map, List.getElem?_range hi, Option.map_some, Option.some.injEq, Nat.zero_add] at hv
          subst hv
          exact h2 i a ha
        · rw [if_neg hi] at ha; cases ha
      have q := C.ok (b0 := b0) hok hl (fun e => by cases e) hlist hd
      refine fin b off _ (bads _ q) q (fun j u hu => ?_)
      have hj : j < C.sz := by have := (List.getElem?_eq_some_iff.1 hu).1; simpa [ij] using this
      simp only [ij, List.getElem?_map, List.getElem?_range hj, Option.map_some, Option.some.injEq, Nat.zero_add] at hu
      subst hu
      have := h1 j _ (List.getElem?_eq_getElem (by omega))
      exact ⟨hl.K _ _ this.1, this.2⟩
  | ptr o off b base hi =>
    rw [P1, Option.bind_eq_some_iff] at hd
    obtain ⟨y, hy, hd⟩ := hd
    obtain ⟨b', base', hi', hbb, hrow⟩ := hok.obj o y hy
    rw [hi] at hi'; cases hi'
    cases y with
    | map es => cases hd
    | loop => cases hd
    | row cells k st et =>
      rw [Pf] at hd
      cases hle : Nat.ble (off + C.sz) cells.length with
      | false => rw [hle] at hd; cases hd
      | true =>
        rw [hle, cond_true] at hd
        have hle' := Nat.le_of_ble_eq_true hle
        obtain ⟨cs, fz, r1, r2, r3, _⟩ := hrow
        have hpart : bh g w ((cells.drop off).take C.sz) (ij (base + off) C.sz (fun j => cs.getD j undef)) := by
          refine ⟨by simp [ij]; omega, fun i a v ha hv => ?_⟩
          rw [List.getElem?_take, List.getElem?_drop] at ha
          by_cases hil : i < C.sz
          · rw [if_pos hil] at ha
            obtain ⟨u, hu, hrel⟩ := r3 _ a ha
            simp only [ij, List.getElem?_map, List.getElem?_range hil, Option.map_some, Option.some.injEq] at hv
            subst hv
            rw [Array.getD_eq_getD_getElem?, Nat.add_assoc, hu]
            exact hrel
          · rw [if_neg hil] at ha; cases ha
        have q := C.ok (b0 := b0) hok hl (fun e => by cases e) hpart hd
        refine fin b (base + off) _ (bads _ q) q (fun j u hv => ?_)
        have hj : j < C.sz := by have := (List.getElem?_eq_some_iff.1 hv).1; simpa [ij] using this
        simp only [ij, List.getElem?_map, List.getElem?_range hj, Option.map_some, Option.some.injEq] at hv
        obtain ⟨u, hu, _⟩ := r3 (off + j) (cells[off + j]'(by omega)) (by simp)
        have hrows := hl.rows o cells k st et hy b base hi (off + j) (by omega)
        rw [← Nat.add_assoc] at hrows hu
        refine ⟨hrows, ?_⟩
        rw [l0 r1, hu, ← hv, Array.getD_eq_getD_getElem?, hu]
        rfl
  | _ => cases hd
def aP {α β : Type} (C : da α) (R : AC β) : AC (α × β) where
  E p := .gn (C.cells false p.1) :: R.E p.2
  D h l := match l with
    | [] => none
    | a :: r => match Uv C h a, R.D h r with
      | some x, some y => some (x, y)
      | _, _ => none
  rt h p := by
    have : Uv C h (.gn (C.cells false p.1)) = some p.1 := by
      rw [V8, C.len, Nat.ble_self_eq_true, cond_true, List.take_of_length_le (by rw [C.len]; exact Nat.le_refl _)]
      exact C.rt false h false p.1 (fun e => by cases e)
    simp only [this, R.rt]
  ok := by
    intro g h w K b0 l vs x hok hl hr hd
    match l, hd with
    | a :: r, hd =>
      simp only at hd
      split at hd
      · rename_i x1 y1 hx hy
        simp at hd; subst hd
        match vs, hr with
        | [], hr => have := hr.1; simp at this
        | v :: vs, hr => exact bh.cons (ase C hok hl hr.head hx) (R.ok hok hl hr.tail hy)
      · cases hd
theorem att {α β : Type} (C : da α) (R : AC β) (h : Tr ba) (a : AV) (r : List AV) : (aP C R).get h (a :: r) = match Uv C h a, R.get h r with | some x, some y => some (x, y) | _, _ => none := id rfl
theorem X8 (f) (l : List c0) (d : c0) : cellsOf bq f (l ++ [d]) = cellsOf bq f l ++ [.vl f 1 (d.names.map (ar.val f)), .vl f 1 (d.nums.map (dh.val false)), .vl f 1 (d.texts.map (ak.val false)), .vl f 1 (d.raw.map (bz.val false))] := by rw [w4, Nr]; rfl
structure bb where
  owner : Name
  type : UInt16
  cls : UInt16
  n9 : UInt32
  data : List c0
def mkS (owner : Name) (type : UInt16) (cls : UInt16) (n9 : UInt32) (data : List c0) : bb := ⟨owner, type, cls, n9, data⟩
theorem afw (x : bb) : mkS x.owner x.type x.cls x.n9 x.data = x := id rfl
def ah : da bb := vi (ig ar (ig cz (ig cz (ig dh (ct bq))))) (fun x => (x.owner, x.type, x.cls, x.n9, x.data)) (fun p => ⟨p.1, p.2.1, p.2.2.1, p.2.2.2.1, p.2.2.2.2⟩) (fun _ => rfl) (fun _ => rfl)
theorem jq (l : Bool) (x : bb) : ah.val l x = .agg [.vl l 1 (x.owner.map (ak.val l)), .sc (.int .u16 x.type.toNat), .sc (.int .u16 x.cls.toNat), .sc (.int .u32 x.n9.toNat), .vl l 4 (x.data.map (bq.val l))] := id rfl
theorem Vl : ah.sz = 5 := id rfl
theorem Qm (fr : Bool) (h : Tr ba) (y0 y1 y2 y3 y4 : AV) : ah.ew fr h (.agg [y0, y1, y2, y3, y4]) = match ek ak fr h y0, cz.dec fr h [y1], cz.dec fr h [y2], dh.dec fr h [y3], ek bq fr h y4 with
    | some v0, some v1, some v2, some v3, some v4 => some (mkS v0 v1 v2 v3 v4)
    | _, _, _, _, _ => none := by
  rw [rn _ _ _ _ rfl rfl]
  have h1 : ah.dec fr h (AV.agg [y0, y1, y2, y3, y4]).cells = Option.map (fun p => (⟨p.1, p.2.1, p.2.2.1, p.2.2.2.1, p.2.2.2.2⟩ : bb)) ((ig ar (ig cz (ig cz (ig dh (ct bq))))).dec fr h [y0, y1, y2, y3, y4]) := rfl
  rw [h1]
  simp only [Ph, uu, nm, ve, qy, s8, qv, List.take_succ_cons, List.take_zero, List.drop_succ_cons, List.drop_zero, Hd, Hx]
  cases (ek ak fr h y0) <;> cases (cz.dec fr h [y1]) <;> cases (cz.dec fr h [y2]) <;> cases (dh.dec fr h [y3]) <;> cases (ek bq fr h y4) <;> rfl
theorem Np (f) (l : List bb) : (l.map (ah.val f)).flatMap AV.cells = cellsOf ah f l := Dh ah f l
theorem sf (l) (xs : List bb) (x : bb) : cellsOf ah l (xs ++ [x]) = cellsOf ah l xs ++ [.vl l 1 (x.owner.map (ak.val false)), .sc (.int .u16 x.type.toNat), .sc (.int .u16 x.cls.toNat), .sc (.int .u32 x.n9.toNat), .vl l 4 (x.data.map (bq.val l))] := by rw [w4, Nr]; rfl
structure bf where
  origin : Name
  aj : List bb
def mkZ (origin : Name) (aj : List bb) : bf := ⟨origin, aj⟩
theorem afr (x : bf) : mkZ x.origin x.aj = x := id rfl
def cy : da bf := vi (ig ar (ct ah)) (fun x => (x.origin, x.aj)) (fun p => ⟨p.1, p.2⟩) (fun _ => rfl) (fun _ => rfl)
theorem iz (l : Bool) (x : bf) : cy.val l x = .agg [.vl l 1 (x.origin.map (ak.val l)), .vl l 5 (x.aj.map (ah.val l))] := id rfl
theorem Ap (l : Bool) (x : bf) : cy.cells l x = [.vl l 1 (x.origin.map (ak.val l)), .vl l 5 (x.aj.map (ah.val l))] := id rfl
theorem B9 : cy.sz = 2 := id rfl
theorem Fj (fr : Bool) (h : Tr ba) (y0 y1 : AV) : cy.ew fr h (.agg [y0, y1]) = match ek ak fr h y0, ek ah fr h y1 with
    | some v0, some v1 => some (mkZ v0 v1)
    | _, _ => none := by
  rw [rn _ _ _ _ rfl rfl]
  have h1 : cy.dec fr h (AV.agg [y0, y1]).cells = Option.map (fun p => (⟨p.1, p.2⟩ : bf)) ((ig ar (ct ah)).dec fr h [y0, y1]) := rfl
  rw [h1]
  simp only [Ph, uu, nm, ve, qy, s8, qv, List.take_succ_cons, List.take_zero, List.drop_succ_cons, List.drop_zero, Hd, Hx]
  cases (ek ak fr h y0) <;> cases (ek ah fr h y1) <;> rfl
theorem Kf (fr : Bool) (h : Tr ba) (y0 y1 : AV) : cy.dec fr h [y0, y1] = match ek ak fr h y0, ek ah fr h y1 with
    | some v0, some v1 => some (mkZ v0 v1)
    | _, _ => none := (Cl cy fr h _ rfl).trans (Fj fr h y0 y1)
structure Au where
  kind : Int
  node : Name
  uw : Name
def ud (kind : Int) (node : Name) (uw : Name) : Au := ⟨kind, node, uw⟩
theorem ab3 (kind node uw) : (ud kind node uw).node = node := id rfl
def qn : da Au := vi (ig (bg .u8) (ig ar ar)) (fun x => (x.kind, x.node, x.uw)) (fun p => ⟨p.1, p.2.1, p.2.2⟩) (fun _ => rfl) (fun _ => rfl)
theorem Fk (l : Bool) (x : Au) : qn.val l x = .agg [.sc (.int .u8 x.kind), .vl l 1 (x.node.map (ak.val l)), .vl l 1 (x.uw.map (ak.val l))] := id rfl
theorem Mt (fr : Bool) (h : Tr ba) (y0 y1 y2 : AV) : qn.ew fr h (.agg [y0, y1, y2]) = match (bg .u8).dec fr h [y0], ek ak fr h y1, ek ak fr h y2 with
    | some v0, some v1, some v2 => some (ud v0 v1 v2)
    | _, _, _ => none := by
  rw [rn _ _ _ _ rfl rfl]
  have h1 : qn.dec fr h (AV.agg [y0, y1, y2]).cells = Option.map (fun p => (⟨p.1, p.2.1, p.2.2⟩ : Au)) ((ig (bg .u8) (ig ar ar)).dec fr h [y0, y1, y2]) := rfl
  rw [h1]
  simp only [Ph, uu, nm, ve, qy, s8, qv, List.take_succ_cons, List.take_zero, List.drop_succ_cons, List.drop_zero, Hd, Hx]
  cases ((bg .u8).dec fr h [y0]) <;> cases (ek ak fr h y1) <;> cases (ek ak fr h y2) <;> rfl
structure Hk where
  turn : Int
  aj : List bb
  to : Name
def pd (turn : Int) (aj : List bb) (to : Name) : Hk := ⟨turn, aj, to⟩
theorem ac9 (turn aj to) : (pd turn aj to).turn = turn := id rfl
theorem Yz (turn aj to) : (pd turn aj to).aj = aj := id rfl
theorem an2 (turn aj to) : (pd turn aj to).to = to := id rfl
def zx : da Hk := vi (ig (bg .u8) (ig (ct ah) ar)) (fun x => (x.turn, x.aj, x.to)) (fun p => ⟨p.1, p.2.1, p.2.2⟩) (fun _ => rfl) (fun _ => rfl)
theorem Ng (l : Bool) (x : Hk) : zx.val l x = .agg [.sc (.int .u8 x.turn), .vl l 5 (x.aj.map (ah.val l)), .vl l 1 (x.to.map (ak.val l))] := id rfl
theorem Ol (fr : Bool) (h : Tr ba) (y0 y1 y2 : AV) : zx.ew fr h (.agg [y0, y1, y2]) = match (bg .u8).dec fr h [y0], ek ah fr h y1, ek ak fr h y2 with
    | some v0, some v1, some v2 => some (pd v0 v1 v2)
    | _, _, _ => none := by
  rw [rn _ _ _ _ rfl rfl]
  have h1 : zx.dec fr h (AV.agg [y0, y1, y2]).cells = Option.map (fun p => (⟨p.1, p.2.1, p.2.2⟩ : Hk)) ((ig (bg .u8) (ig (ct ah) ar)).dec fr h [y0, y1, y2]) := rfl
  rw [h1]
  simp only [Ph, uu, nm, ve, qy, s8, qv, List.take_succ_cons, List.take_zero, List.drop_succ_cons, List.drop_zero, Hd, Hx]
  cases ((bg .u8).dec fr h [y0]) <;> cases (ek ah fr h y1) <;> cases (ek ak fr h y2) <;> rfl
structure tc where
  z : bf
  e : Int
def mkL (z : bf) (e : Int) : tc := ⟨z, e⟩
theorem aqo (z e) : (mkL z e).z = z := id rfl
def lz : da tc := vi (ig cy (bg .i64)) (fun x => (x.z, x.e)) (fun p => ⟨p.1, p.2⟩) (fun _ => rfl) (fun _ => rfl)
theorem Ah (l : Bool) (x : tc) : lz.cells l x = [.vl l 1 (x.z.origin.map (ak.val l)), .vl l 5 (x.z.aj.map (ah.val l)), .sc (.int .i64 x.e)] := id rfl
theorem Qz : lz.sz = 3 := id rfl
theorem aeb (fr : Bool) (h : Tr ba) (y00 y01 y1 : AV) : lz.ew fr h (.agg [y00, y01, y1]) = match cy.ew fr h (.agg [y00, y01]), (bg .i64).dec fr h [y1] with
    | some v0, some v1 => some (mkL v0 v1)
    | _, _ => none := by
  rw [rn _ _ _ _ rfl rfl]
  have h1 : lz.dec fr h (AV.agg [y00, y01, y1]).cells = Option.map (fun p => (⟨p.1, p.2⟩ : tc)) ((ig cy (bg .i64)).dec fr h [y00, y01, y1]) := rfl
  rw [h1]
  simp only [Ph, uu, nm, ve, qy, s8, qv, List.take_succ_cons, List.take_zero, List.drop_succ_cons, List.drop_zero, Hd, Hx, B9, Cl cy fr h _ rfl]
  cases (cy.ew fr h (.agg [y00, y01])) <;> cases ((bg .i64).dec fr h [y1]) <;> rfl
theorem Jk (fr : Bool) (h : Tr ba) (y00 y01 y1 : AV) : lz.dec fr h [y00, y01, y1] = match cy.ew fr h (.agg [y00, y01]), (bg .i64).dec fr h [y1] with
    | some v0, some v1 => some (mkL v0 v1)
    | _, _ => none := (Cl lz fr h _ rfl).trans (aeb fr h y00 y01 y1)
structure vm where
  mw : Int
  aa : Bool
  answer : List bb
  authority : List bb
  ef : List bb
def pk (mw : Int) (aa : Bool) (answer : List bb) (authority : List bb) (ef : List bb) : vm := ⟨mw, aa, answer, authority, ef⟩
theorem Xm (mw aa answer authority ef) : (pk mw aa answer authority ef).mw = mw := id rfl
theorem al4 (mw aa answer authority ef) : (pk mw aa answer authority ef).aa = aa := id rfl
theorem P9 (mw aa answer authority ef) : (pk mw aa answer authority ef).answer = answer := id rfl
theorem Ih (mw aa answer authority ef) : (pk mw aa answer authority ef).authority = authority := id rfl
theorem Ga (mw aa answer authority ef) : (pk mw aa answer authority ef).ef = ef := id rfl
def nj : da vm := vi (ig (bg .i64) (ig bo (ig (ct ah) (ig (ct ah) (ct ah))))) (fun x => (x.mw, x.aa, x.answer, x.authority, x.ef)) (fun p => ⟨p.1, p.2.1, p.2.2.1, p.2.2.2.1, p.2.2.2.2⟩) (fun _ => rfl) (fun _ => rfl)
theorem Le (l : Bool) (x : vm) : nj.val l x = .agg [.sc (.int .i64 x.mw), .sc (.bool x.aa), .vl l 5 (x.answer.map (ah.val l)), .vl l 5 (x.authority.map (ah.val l)), .vl l 5 (x.ef.map (ah.val l))] := id rfl
theorem ady : nj.sz = 5 := id rfl
theorem Kg (fr : Bool) (h : Tr ba) (y0 y1 y2 y3 y4 : AV) : nj.ew fr h (.agg [y0, y1, y2, y3, y4]) = match (bg .i64).dec fr h [y0], bo.dec fr h [y1], ek ah fr h y2, ek ah fr h y3, ek ah fr h y4 with
    | some v0, some v1, some v2, some v3, some v4 => some (pk v0 v1 v2 v3 v4)
    | _, _, _, _, _ => none := by
  rw [rn _ _ _ _ rfl rfl]
  have h1 : nj.dec fr h (AV.agg [y0, y1, y2, y3, y4]).cells = Option.map (fun p => (⟨p.1, p.2.1, p.2.2.1, p.2.2.2.1, p.2.2.2.2⟩ : vm)) ((ig (bg .i64) (ig bo (ig (ct ah) (ig (ct ah) (ct ah))))).dec fr h [y0, y1, y2, y3, y4]) := rfl
  rw [h1]
  simp only [Ph, uu, nm, ve, qy, s8, qv, List.take_succ_cons, List.take_zero, List.drop_succ_cons, List.drop_zero, Hd, Hx]
  cases ((bg .i64).dec fr h [y0]) <;> cases (bo.dec fr h [y1]) <;> cases (ek ah fr h y2) <;> cases (ek ah fr h y3) <;> cases (ek ah fr h y4) <;> rfl
structure Du where
  z : bf
  r : vm
  seen : List Name
def mkB (z : bf) (r : vm) (seen : List Name) : Du := ⟨z, r, seen⟩
theorem Zu (z r seen) : (mkB z r seen).seen = seen := id rfl
def ta : da Du := vi (ig cy (ig nj (ct ar))) (fun x => (x.z, x.r, x.seen)) (fun p => ⟨p.1, p.2.1, p.2.2⟩) (fun _ => rfl) (fun _ => rfl)
theorem Qu (l : Bool) (x : Du) : ta.cells l x = [.vl l 1 (x.z.origin.map (ak.val l)), .vl l 5 (x.z.aj.map (ah.val l)), .sc (.int .i64 x.r.mw), .sc (.bool x.r.aa), .vl l 5 (x.r.answer.map (ah.val l)), .vl l 5 (x.r.authority.map (ah.val l)), .vl l 5 (x.r.ef.map (ah.val l)), .vl l 1 (x.seen.map (ar.val l))] := id rfl
theorem M4 : ta.sz = 8 := id rfl
theorem Zz (fr : Bool) (h : Tr ba) (y00 y01 y10 y11 y12 y13 y14 y2 : AV) : ta.ew fr h (.agg [y00, y01, y10, y11, y12, y13, y14, y2]) = match cy.ew fr h (.agg [y00, y01]), nj.ew fr h (.agg [y10, y11, y12, y13, y14]), ek ar fr h y2 with
    | some v0, some v1, some v2 => some (mkB v0 v1 v2)
    | _, _, _ => none := by
  rw [rn _ _ _ _ rfl rfl]
  have h1 : ta.dec fr h (AV.agg [y00, y01, y10, y11, y12, y13, y14, y2]).cells = Option.map (fun p => (⟨p.1, p.2.1, p.2.2⟩ : Du)) ((ig cy (ig nj (ct ar))).dec fr h [y00, y01, y10, y11, y12, y13, y14, y2]) := rfl
  rw [h1]
  simp only [Ph, uu, nm, ve, qy, s8, qv, List.take_succ_cons, List.take_zero, List.drop_succ_cons, List.drop_zero, Hd, Hx, B9, Cl cy fr h _ rfl, ady, Cl nj fr h _ rfl]
  cases (cy.ew fr h (.agg [y00, y01])) <;> cases (nj.ew fr h (.agg [y10, y11, y12, y13, y14])) <;> cases (ek ar fr h y2) <;> rfl
theorem Iq (fr : Bool) (h : Tr ba) (y00 y01 y10 y11 y12 y13 y14 y2 : AV) : ta.dec fr h [y00, y01, y10, y11, y12, y13, y14, y2] = match cy.ew fr h (.agg [y00, y01]), nj.ew fr h (.agg [y10, y11, y12, y13, y14]), ek ar fr h y2 with
    | some v0, some v1, some v2 => some (mkB v0 v1 v2)
    | _, _, _ => none := (Cl ta fr h _ rfl).trans (Zz fr h y00 y01 y10 y11 y12 y13 y14 y2)
theorem ag : type_of% @Io ∧ type_of% @Ii ∧ type_of% @agx ∧ type_of% @md5 ∧ type_of% @dv4 ∧ type_of% @dv5 ∧ type_of% @abc ∧ type_of% @ac2 ∧ type_of% @age ∧ type_of% @P1 ∧ type_of% @Pf ∧ type_of% @att ∧ type_of% @Jm ∧ type_of% @Ie ∧ type_of% @Ni ∧ type_of% @wz ∧ type_of% @vk ∧ type_of% @afw ∧ type_of% @jq ∧ type_of% @Vl ∧ type_of% @Qm ∧ type_of% @Np ∧ type_of% @afr ∧ type_of% @Kf ∧ type_of% @B9 ∧ type_of% @Fj ∧ type_of% @ab3 ∧ type_of% @Fk ∧ type_of% @Mt ∧ type_of% @ac9 ∧ type_of% @Yz ∧ type_of% @an2 ∧ type_of% @Ng ∧ type_of% @Ol ∧ type_of% @aqo ∧ type_of% @Jk ∧ type_of% @Qz ∧ type_of% @Xm ∧ type_of% @al4 ∧ type_of% @P9 ∧ type_of% @Ih ∧ type_of% @Ga ∧ type_of% @Le ∧ type_of% @Kg ∧ type_of% @Zu ∧ type_of% @Iq ∧ type_of% @M4 :=
  ⟨@Io, @Ii, @agx, @md5, @dv4, @dv5, @abc, @ac2, @age, @P1, @Pf, @att, @Jm, @Ie, @Ni, @wz, @vk, @afw, @jq, @Vl, @Qm, @Np, @afr, @Kf, @B9, @Fj, @ab3, @Fk, @Mt, @ac9, @Yz, @an2, @Ng, @Ol, @aqo, @Jk, @Qz, @Xm, @al4, @P9, @Ih, @Ga, @Le, @Kg, @Zu, @Iq, @M4⟩
end
end Go.Vm
end
section
set_option linter.unusedSimpArgs false
set_option linter.unusedVariables false
namespace Go.Proofs.YtidomogemfchpaaGreat
open Go.Vm
set_option maxRecDepth 2000000
noncomputable def zz (t : UInt16) (l : List c0) (d : c0) : Bool := l.any fun x => D3 t x d
theorem at0 (t : UInt16) (l : List c0) (d : c0) (hl : ∀ x ∈ l, dq x) (hn : l.length ≤ 16777216) (hd : dq d) : wl PP [] 0 (Tryz.f118.body.getD .skip) (du PP Tryz.f118.results.toList (fun r st => (r1 bo).get true st.h r = some (zz t l d))) (cq 0 [cz.val false t, (ct bq).val false l, bq.val false d]) (bm []) := by
  unfold Tryz.f118
  simp only [tj, np]
  simp only [↓wR, RA, simprocAttr, TF, ag]
  refine bn (T := []) (aw.nil PP) mixed Tryz.func148 rfl (by kernel_rfl) (by kernel_rfl) (by kernel_rfl) (by kernel_rfl) ?_; unfold Tryz.f148
  simp only [↓wR, RA, simprocAttr, TF, ag]
  refine bn (T := []) (aw.nil PP) mixed Tryz.func174 rfl (by kernel_rfl) (by kernel_rfl) (by kernel_rfl) (by kernel_rfl) ?_; unfold Tryz.f174
  simp only [↓wR, RA, simprocAttr, TF, ag]
  refine dy [0, 1, 7, 8] (fun (i : Nat) => [.vl false 4 (l.map (bq.val false)), .fn (.func 149) [] [.ptr 0 0, .ptr 1 0], .sc (.int .i64 (l.length)), .sc (.int .i64 (i))]) (fun _ => [some (.row [.sc (.int .u16 t.toNat)] 0 2 28), some (.row [.vl false 1 (d.names.map (ar.val false)), .vl false 1 (d.nums.map (dh.val false)), .vl false 1 (d.texts.map (ak.val false)), .vl false 1 (d.raw.map (bz.val false))] 0 2 83)]) (fun i => i ≤ l.length ∧ zz t l d = zz t (l.drop i) d) (fun i => l.length - i) 0 ⟨Nat.zero_le _, rfl⟩ (by simp only [↓wR, RA, simprocAttr, TF, ag] <;> rfl) (by simp only [↓wR, RA, simprocAttr, TF, ag] <;> rfl) ?_
  rintro i ⟨hi, hx⟩
  simp only [↓wR, RA, simprocAttr, TF, ag]
  rw [b9]; refine ⟨fun h => ?_, fun h => ?_⟩
  · obtain ⟨c, hc, hd1, hlt⟩ := ec (decide_eq_true h)
    have hx' : zz t l d = (D3 t c d || zz t (l.drop (i + 1)) d) := by rw [hx, hd1]; rfl
    simp only [↓wR, RA, simprocAttr, TF, ag, h, hc]; repeat (simp (disch := omega) only [ai, cd, ca, cf, cb]; try simp only [↓wR, RA, simprocAttr, TF, ag, h, hc])
    refine bn (T := [apw]) (aw.cons (aq X7) (aw.nil PP)) mixed Tryz.func149 rfl (by kernel_rfl) (by kernel_rfl) (by kernel_rfl) (by kernel_rfl) ?_; unfold Tryz.f149
    simp only [↓wR, RA, simprocAttr, TF, ag, Bg, hl c (List.mem_of_getElem? hc), hd]
    rw [cp]; refine ⟨fun h1 => ?_, fun h1 => ?_⟩
    · rw [h1, Bool.true_or] at hx'
      simp only [↓wR, RA, simprocAttr, TF, ag, h1]
      rw [hx']
      done
    · rw [h1, Bool.false_or] at hx'
      simp only [↓wR, RA, simprocAttr, TF, ag, h1]; repeat (simp (disch := omega) only [ai, cd, ca, cf, cb]; try simp only [↓wR, RA, simprocAttr, TF, ag, h1])
      exact ⟨i + 1, ⟨hlt, hx'⟩, by omega, by (first | rfl | trivial | omega | ((try (simp (disch := omega) only [ai])); (try (simp only [FB])); first | done | rfl | omega))⟩
  · rw [fe (decide_eq_false h)] at hx
    simp only [↓wR, RA, simprocAttr, TF, ag, h]
    rw [hx]; rfl
def po (l : List c0) : Prop := gh x5 l ≤ 16777216
instance (l : List c0) : Decidable (po l) := inferInstanceAs (Decidable (_ ≤ _))
theorem po.mem {l : List c0} (h : po l) : ∀ x ∈ l, dq x := fun x hx => by
  have h1 : x5 x < gh x5 l := Ak hx
  unfold po at h; unfold dq; omega
theorem po.len {l : List c0} (h : po l) : l.length ≤ 16777216 := Nat.le_trans (wi x5 l) h
theorem acs {α : Type} (f : α → Nat) (l : List α) (i : Nat) : gh f (l.take i) ≤ gh f l := by
  induction l generalizing i with
  | nil => simp
  | cons a l ih =>
    cases i with
    | zero => exact Nat.zero_le _
    | succ i => have := ih i; simp only [gh, List.take_succ_cons, List.foldr_cons] at this ⊢; omega
theorem po.take {l : List c0} (h : po l) (i : Nat) : po (l.take i) := Nat.le_trans (acs x5 l i) h
noncomputable def Md (x : UInt16 × List c0 × c0 × Unit) : Option AV := if po x.2.1 ∧ dq x.2.2.1 then some ((r1 bo).E true (zz x.1 x.2.1 x.2.2.1)) else none
set_option maxRecDepth 2000000 in
theorem Vs (x : UInt16 × List c0 × c0 × Unit) (r : AV) (h : Md x = some r) : bk PP 118 ((aC cz (aC (ct bq) (aC bq a0))).E x) r := by
  by_cases hc : po x.2.1 ∧ dq x.2.2.1
  case neg => simp only [Md, if_neg hc] at h; cases h
  simp only [Md, if_pos hc] at h
  cases h
  exact be (aw.nil PP) Tryz.func118 (by kernel_rfl) (by kernel_rfl) (by kernel_rfl) (Nat.le_of_ble_eq_true (by kernel_rfl)) (r1 bo) true (zz x.1 x.2.1 x.2.2.1) (at0 x.1 x.2.1 x.2.2.1 hc.1.mem hc.1.len hc.2)
noncomputable abbrev as0 : Nat × Bool × (List AV → M AV) := (118, true, dm (aC cz (aC (ct bq) (aC bq a0))) Md)
def nk (s : bb) : Nat := bj s.owner + gh x5 s.data
def c8 (s : bb) : Prop := nk s ≤ 16777216
instance (s : bb) : Decidable (c8 s) := inferInstanceAs (Decidable (_ ≤ _))
theorem c8.owner {s : bb} (h : c8 s) : bd s.owner := by unfold c8 nk at h; unfold bd; omega
theorem c8.data {s : bb} (h : c8 s) : po s.data := by unfold c8 nk at h; unfold po; omega
noncomputable def rk (t : UInt16) : List c0 → List c0 → Int
  | _, [] => 0
  | pre, d :: r => if eu t d ≠ 0 then eu t d else if zz t pre d = true then 10 else rk t (pre ++ [d]) r
noncomputable def oo (s : bb) : Int :=
  if dn s.owner ≠ 0 then dn s.owner else if s.data.length = 0 then 9 else if 512 < s.data.length then 3 else rk s.type [] s.data
theorem ad3 (t : UInt16) {l : List c0} {i : Nat} {c : c0} (hc : l[i]? = some c) : rk t (l.take i) (l.drop i) = if eu t c ≠ 0 then eu t c else if zz t (l.take i) c = true then 10 else rk t (l.take (i + 1)) (l.drop (i + 1)) := by
  obtain ⟨hi, rfl⟩ := List.getElem?_eq_some_iff.1 hc
  rw [List.drop_eq_getElem_cons hi, rk, List.take_succ_eq_append_getElem hi]
theorem aeh (s : bb) (hs : c8 s) : wl PP [dz, Jc, as0] 0 (Tryz.f151.body.getD .skip) (du PP Tryz.f151.results.toList (fun r st => (r1 (bg .i64)).get true st.h r = some (oo s))) (cq 0 [ah.val false s]) (bm []) := by
  have ho := hs.owner
  have hd := hs.data
  have hn := hd.len
  unfold Tryz.f151
  simp only [jq]
  simp only [↓wR, RA, simprocAttr, TF, ag, nv, ho.fit]
  unfold oo
  rw [cp]; refine ⟨fun h => ?_, fun h => ?_⟩
  · have he : dn s.owner ≠ 0 := by simpa using h
    rw [if_pos he]
    simp only [↓wR, RA, simprocAttr, TF, ag, h]
  have he : dn s.owner = 0 := by simpa using h
  rw [if_neg (by omega)]
  simp only [↓wR, RA, simprocAttr, TF, ag, h]
  rw [c7]; refine ⟨fun ⟨h1, e1⟩ => ?_, fun ⟨h1, e1⟩ => ?_⟩
  · rw [if_pos (by omega)]
    simp only [↓wR, RA, simprocAttr, TF, ag, h1]
  rw [if_neg (by omega)]
  simp only [↓wR, RA, simprocAttr, TF, ag, h1]
  rw [b9]; refine ⟨fun h2 => ?_, fun h2 => ?_⟩
  · rw [if_pos (by omega)]
    simp only [↓wR, RA, simprocAttr, TF, ag, h2]
  rw [if_neg (by omega)]
  simp only [↓wR, RA, simprocAttr, TF, ag, h2]
  refine dy [1, 24, 25, 26] (fun (i : Nat) => [.ptr 0 0, .vl false 4 (s.data.map (bq.val false)), .sc (.int .i64 (s.data.length)), .sc (.int .i64 (i))]) (fun _ => [some (.row [.vl false 1 (s.owner.map (ak.val false)), .sc (.int .u16 s.type.toNat), .sc (.int .u16 s.cls.toNat), .sc (.int .u32 s.n9.toNat), .vl false 4 (s.data.map (bq.val false))] 0 2 40)]) (fun i => i ≤ s.data.length ∧ rk s.type [] s.data = rk s.type (s.data.take i) (s.data.drop i)) (fun i => s.data.length - i) 0 ⟨Nat.zero_le _, rfl⟩ (by simp only [↓wR, RA, simprocAttr, TF, ag] <;> rfl) (by simp only [↓wR, RA, simprocAttr, TF, ag] <;> rfl) ?_
  rintro i ⟨hi, hx⟩
  simp only [↓wR, RA, simprocAttr, TF, ag]
  rw [b9]; refine ⟨fun h3 => ?_, fun h3 => ?_⟩
  · obtain ⟨c, hc, hd1, hlt⟩ := ec (decide_eq_true h3)
    rw [ad3 _ hc] at hx
    have hcs := hd.mem c (List.mem_of_getElem? hc)
    simp only [↓wR, RA, simprocAttr, TF, ag, h3, hc, qx, hcs]
    rw [cp]; refine ⟨fun h4 => ?_, fun h4 => ?_⟩
    · have he4 : eu s.type c ≠ 0 := by simpa using h4
      rw [if_pos he4] at hx
      simp only [↓wR, RA, simprocAttr, TF, ag, h4]
      rw [hx]
    · have he4 : eu s.type c = 0 := by simpa using h4
      rw [if_neg (by omega)] at hx
      simp only [↓wR, RA, simprocAttr, TF, ag, h4]
      refine ⟨by kernel_rfl, .inl ?_⟩
      simp only [↓wR, RA, simprocAttr, TF, ag, hi, Md, hd.take i, hcs]
      refine ⟨by kernel_rfl, ?_⟩
      rw [cp]; refine ⟨fun h5 => ?_, fun h5 => ?_⟩
      · rw [if_pos h5] at hx
        simp only [↓wR, RA, simprocAttr, TF, ag, h5]
        rw [hx]
      · rw [if_neg (by rw [h5]; decide)] at hx
        simp only [↓wR, RA, simprocAttr, TF, ag, h5]; repeat (simp (disch := omega) only [ai, cd, ca, cf, cb]; try simp only [↓wR, RA, simprocAttr, TF, ag, h5])
        exact ⟨i + 1, ⟨hlt, hx⟩, by omega, by (first | rfl | trivial | omega | ((try (simp (disch := omega) only [ai])); (try (simp only [FB])); first | done | rfl | omega))⟩
  · rw [fe (decide_eq_false h3)] at hx
    simp only [↓wR, RA, simprocAttr, TF, ag, h3]
    rw [hx]; rfl
noncomputable def xq (x : bb × Unit) : Option AV := if c8 x.1 then some ((r1 (bg .i64)).E true (oo x.1)) else none
set_option maxRecDepth 2000000 in
theorem Il (x : bb × Unit) (r : AV) (h : xq x = some r) : bk PP 151 ((aC ah a0).E x) r := by
  by_cases hc : c8 x.1
  case neg => simp only [xq, if_neg hc] at h; cases h
  simp only [xq, if_pos hc] at h
  cases h
  exact be (aw.cons (aq pn) (aw.cons (aq z6) (aw.cons (aq Vs) (aw.nil PP)))) Tryz.func151 (by kernel_rfl) (by kernel_rfl) (by kernel_rfl) (Nat.le_of_ble_eq_true (by kernel_rfl)) (r1 (bg .i64)) true (oo x.1) (aeh x.1 hc)
noncomputable abbrev gj : Nat × Bool × (List AV → M AV) := (151, true, dm (aC ah a0) xq)
end Go.Proofs.YtidomogemfchpaaGreat
end
section
set_option linter.unusedSimpArgs false
set_option linter.unusedVariables false
namespace Go.Proofs.YtidomogemfchpaaGreat
open Go.Vm
set_option maxRecDepth 2000000
theorem aii (s : bb) (hs : c8 s) : wl PP [p0, an9] 0 (Tryz.f37.body.getD .skip) (du PP Tryz.f37.results.toList (fun r st => (r1 ah).get true st.h r = some s)) (cq 0 [ah.val false s]) (bm []) := by
  have ho := hs.owner
  have hd := hs.data
  have hn := hd.len
  unfold Tryz.f37
  simp only [jq]
  simp only [↓wR, RA, simprocAttr, TF, ag, kn, ho]
  refine jo [2, 13, 14, 15, 3] (fun (x : List c0) => [.ptr 0 0, .vl false 4 (s.data.map (bq.val false)), .sc (.int .i64 (s.data.length)), .sc (.int .i64 (x.length)), .ptr 1 0]) (fun x => [some (.row [.sc (.slice none 0 0), .sc (.int .u16 0), .sc (.int .u16 0), .sc (.int .u32 0), .sc (.slice none 0 0)] 0 2 40), some (.row [ar.val true s.owner, .sc (.int .u16 s.type.toNat), .sc (.int .u16 s.cls.toNat), .sc (.int .u32 s.n9.toNat), .sl 2 0 x.length 4] 0 2 40), some (.row (cellsOf bq true x) 0 0 83)]) (fun x => x.length ≤ s.data.length ∧ x ++ s.data.drop x.length = s.data) (fun x => s.data.length - x.length) [] ⟨Nat.zero_le _, rfl⟩ (by simp only [↓wR, RA, simprocAttr, TF, ag]; (refine l7.lax [] (by first | exact Nat.le_of_ble_eq_true rfl | (simp [bw]; omega)) ?_ ?_ <;> repeat' first | exact iq.nil | exact dc.nil | exact iw.same _ | exact iw.nil _ _ _ | exact iw.uy _ _ | exact dc.refl _ _ | apply iq.cons | apply dc.ghost | apply dc.same | apply dc.row)) ?_
  rintro x ⟨hi, hx⟩
  simp only [↓wR, RA, simprocAttr, TF, ag]
  rw [b9]; refine ⟨fun h => ?_, fun h => ?_⟩
  · obtain ⟨c, hc, hd1, hlt⟩ := ec (decide_eq_true h)
    rw [hd1] at hx
    have hcs := hd.mem c (List.mem_of_getElem? hc)
    simp only [↓wR, RA, simprocAttr, TF, ag, h, hc]
    refine ⟨by kernel_rfl, .inl ?_⟩
    have hlim : (x.length * 4 + 4) * 96 ≤ 140737488355328 := by omega
    simp only [↓wR, RA, simprocAttr, TF, ag, Ba, hcs, hlim]
    refine ⟨by kernel_rfl, x ++ [c], ⟨by simp; omega, by simpa using hx⟩, by simp; omega, by (first | rfl | trivial | omega | ((try (simp (disch := omega) only [ai])); (try (simp only [FB])); first | done | rfl | omega)), ?_⟩
    rw [X8, List.length_append]; rfl
  · rw [fe (decide_eq_false h)] at hx
    rw [List.append_nil] at hx
    subst hx
    simp only [↓wR, RA, simprocAttr, TF, ag, h]
noncomputable def om (x : bb × Unit) : Option AV := if c8 x.1 then some ((r1 ah).E true (x.1)) else none
set_option maxRecDepth 2000000 in
theorem sj (x : bb × Unit) (r : AV) (h : om x = some r) : bk PP 37 ((aC ah a0).E x) r := by
  by_cases hc : c8 x.1
  case neg => simp only [om, if_neg hc] at h; cases h
  simp only [om, if_pos hc] at h
  cases h
  exact be (aw.cons (aq mq) (aw.cons (aq Xp) (aw.nil PP))) Tryz.func37 (by kernel_rfl) (by kernel_rfl) (by kernel_rfl) (Nat.le_of_ble_eq_true (by kernel_rfl)) (r1 ah) true (x.1) (aii x.1 hc)
noncomputable abbrev wk : Nat × Bool × (List AV → M AV) := (37, true, dm (aC ah a0) om)
end Go.Proofs.YtidomogemfchpaaGreat
end
section
set_option linter.unusedSimpArgs false
set_option linter.unusedVariables false
namespace Go.Proofs.YtidomogemfchpaaGreat
open Go.Vm
set_option maxRecDepth 2000000
def Nu (z : bf) : Nat := bj z.origin + gh nk z.aj
def cx (z : bf) : Prop := Nu z ≤ 16777216
instance (z : bf) : Decidable (cx z) := inferInstanceAs (Decidable (_ ≤ _))
theorem cx.origin {z : bf} (h : cx z) : bd z.origin := by unfold cx Nu at h; unfold bd; omega
theorem cx.set {z : bf} (h : cx z) : ∀ s ∈ z.aj, c8 s := fun s hs => by
  have h1 : nk s < gh nk z.aj := Ak hs
  unfold cx Nu at h; unfold c8; omega
theorem cx.len {z : bf} (h : cx z) : z.aj.length ≤ 16777216 := by have := wi nk z.aj; unfold cx Nu at h; omega
def Gi (n top : Name) : Bool := decide (top.length < n.length) && dj n top
theorem aom (n top : Name) (hn : bd n) (ht : bd top) : wl PP [ri] 0 (Tryz.f131.body.getD .skip) (du PP Tryz.f131.results.toList (fun r st => (r1 bo).get true st.h r = some (Gi n top))) (cq 0 [ar.val false n, ar.val false top]) (bm []) := by
  unfold Tryz.f131
  simp only [db]
  simp only [↓wR, RA, simprocAttr, TF, ag]
  unfold Gi
  rw [b9]; refine ⟨fun h => ?_, fun h => ?_⟩
  · rw [decide_eq_true (show top.length < n.length by omega)]
    simp only [↓wR, RA, simprocAttr, TF, ag, h, i9, hn, ht]
  · rw [decide_eq_false (show ¬ top.length < n.length by omega)]
    simp only [↓wR, RA, simprocAttr, TF, ag, h]
    rfl
noncomputable def Gf (x : Name × Name × Unit) : Option AV := if bd x.1 ∧ bd x.2.1 then some ((r1 bo).E true (Gi x.1 x.2.1)) else none
set_option maxRecDepth 2000000 in
theorem afa (x : Name × Name × Unit) (r : AV) (h : Gf x = some r) : bk PP 131 ((aC ar (aC ar a0)).E x) r := by
  by_cases hc : bd x.1 ∧ bd x.2.1
  case neg => simp only [Gf, if_neg hc] at h; cases h
  simp only [Gf, if_pos hc] at h
  cases h
  exact be (aw.cons (aq lu) (aw.nil PP)) Tryz.func131 (by kernel_rfl) (by kernel_rfl) (by kernel_rfl) (Nat.le_of_ble_eq_true (by kernel_rfl)) (r1 bo) true (Gi x.1 x.2.1) (aom x.1 x.2.1 hc.1 hc.2)
noncomputable abbrev atc : Nat × Bool × (List AV → M AV) := (131, true, dm (aC ar (aC ar a0)) Gf)
def ju (z : bf) (n : Name) : List bb := z.aj.filter fun s => dk s.owner n
theorem Ke {l : List bb} {p : bb → Bool} {i : Nat} {c : bb} (h : l.drop i = c :: l.drop (i + 1)) : (l.drop i).filter p = (if p c = true then [c] else []) ++ (l.drop (i + 1)).filter p := by
  rw [h, List.filter_cons]; split <;> rfl
theorem tf {l : List bb} (p : bb → Bool) : (l.filter p).length ≤ l.length := List.length_filter_le _ _
theorem au2 (z : bf) (n : Name) (hz : cx z) (hn : bd n) : wl PP [dg, wk] 0 (Tryz.f96.body.getD .skip) (du PP Tryz.f96.results.toList (fun r st => (r1 (ct ah)).get true st.h r = some (ju z n))) (cq 0 [cy.val false z, ar.val false n]) (bm []) := by
  have hl := hz.len
  unfold Tryz.f96
  simp only [iz, db]
  simp only [↓wR, RA, simprocAttr, TF, ag]
  refine jo [1, 9, 10, 11, 5] (fun (x : Nat × List bb) => [.vl false 1 (n.map (ak.val false)), .vl false 5 (z.aj.map (ah.val false)), .sc (.int .i64 (z.aj.length)), .sc (.int .i64 (x.1)), .sl 0 0 x.2.length 5]) (fun x => [some (.row (cellsOf ah true x.2) 0 0 40)]) (fun x => x.1 ≤ z.aj.length ∧ x.2 ++ (z.aj.drop x.1).filter (fun s => dk s.owner n) = ju z n) (fun x => z.aj.length - x.1) (0, []) ⟨Nat.zero_le _, rfl⟩ (by simp only [↓wR, RA, simprocAttr, TF, ag]; (refine l7.lax [] (by first | exact Nat.le_of_ble_eq_true rfl | (simp [bw]; omega)) ?_ ?_ <;> repeat' first | exact iq.nil | exact dc.nil | exact iw.same _ | exact iw.nil _ _ _ | exact iw.uy _ _ | exact dc.refl _ _ | apply iq.cons | apply dc.ghost | apply dc.same | apply dc.row)) ?_
  rintro ⟨i, x⟩ ⟨hi, hx⟩
  simp only at hi hx
  have hxl : x.length ≤ z.aj.length := by
    have h1 := tf (l := z.aj) (fun s => dk s.owner n)
    have h2 := congrArg List.length hx
    simp only [List.length_append, ju] at h2
    omega
  simp only [↓wR, RA, simprocAttr, TF, ag]
  rw [b9]; refine ⟨fun h => ?_, fun h => ?_⟩
  · obtain ⟨c, hc, hd1, hlt⟩ := ec (decide_eq_true h)
    rw [Ke hd1] at hx
    have hcs := hz.set c (List.mem_of_getElem? hc)
    simp only [↓wR, RA, simprocAttr, TF, ag, h, hc, gi, hcs.owner, hn]
    rw [cp]; refine ⟨fun h1 => ?_, fun h1 => ?_⟩
    · rw [if_pos h1] at hx
      have hlim : (x.length * 5 + 5) * 64 ≤ 140737488355328 := by omega
      simp only [↓wR, RA, simprocAttr, TF, ag, h1, om, hcs, hlim]; repeat (simp (disch := omega) only [ai, cd, ca, cf, cb]; try simp only [↓wR, RA, simprocAttr, TF, ag, h1, om, hcs, hlim])
      refine ⟨(i + 1, x ++ [c]), ⟨hlt, by rw [← hx]; simp⟩, by simp; omega, by (first | rfl | trivial | omega | ((try (simp (disch := omega) only [ai])); (try (simp only [FB])); first | done | rfl | omega)), ?_⟩
      rw [sf]
    · rw [if_neg (by rw [h1]; decide)] at hx
      simp only [↓wR, RA, simprocAttr, TF, ag, h1]; repeat (simp (disch := omega) only [ai, cd, ca, cf, cb]; try simp only [↓wR, RA, simprocAttr, TF, ag, h1])
      exact ⟨(i + 1, x), ⟨hlt, hx⟩, by simp; omega, by (first | rfl | trivial | omega | ((try (simp (disch := omega) only [ai])); (try (simp only [FB])); first | done | rfl | omega)), by (first | rfl | trivial | omega | ((try (simp (disch := omega) only [ai])); (try (simp only [FB])); first | done | rfl | omega))⟩
  · rw [fe (decide_eq_false h)] at hx
    rw [List.filter_nil, List.append_nil] at hx
    subst hx
    simp only [↓wR, RA, simprocAttr, TF, ag, h]
noncomputable def Z8 (x : bf × Name × Unit) : Option AV := if cx x.1 ∧ bd x.2.1 then some ((r1 (ct ah)).E true (ju x.1 x.2.1)) else none
set_option maxRecDepth 2000000 in
theorem aoa (x : bf × Name × Unit) (r : AV) (h : Z8 x = some r) : bk PP 96 ((aC cy (aC ar a0)).E x) r := by
  by_cases hc : cx x.1 ∧ bd x.2.1
  case neg => simp only [Z8, if_neg hc] at h; cases h
  simp only [Z8, if_pos hc] at h
  cases h
  exact be (aw.cons (aq ee) (aw.cons (aq sj) (aw.nil PP))) Tryz.func96 (by kernel_rfl) (by kernel_rfl) (by kernel_rfl) (Nat.le_of_ble_eq_true (by kernel_rfl)) (r1 (ct ah)) true (ju x.1 x.2.1) (au2 x.1 x.2.1 hc.1 hc.2)
noncomputable abbrev zAt : Nat × Bool × (List AV → M AV) := (96, true, dm (aC cy (aC ar a0)) Z8)
def Mc (n : Name) (b : Option Name) : Bool := match b with | none => true | some m => decide (n.length < m.length)
def jm (z : bf) (n : Name) (best : Option Name) (s : bb) : Option Name :=
  if (decide ((s.type.toNat : Int) = 2) && (Gi s.owner z.origin && (dj n s.owner && Mc s.owner best))) = true then some s.owner else best
def lg (z : bf) (n : Name) : Option Name := z.aj.foldl (jm z n) none
theorem Xl {z : bf} {n : Name} (hz : cx z) : ∀ (l : List bb) (b : Option Name), (∀ s ∈ l, s ∈ z.aj) → (∀ m, b = some m → bd m) → ∀ m, l.foldl (jm z n) b = some m → bd m := by
  intro l
  induction l with
  | nil => intro b _ hb m hm; exact hb m hm
  | cons s l ih =>
    intro b hl hb m hm
    refine ih (jm z n b s) (fun x hx => hl x (by simp [hx])) (fun q hq => ?_) m hm
    unfold jm at hq
    split at hq
    · cases hq; exact (hz.set s (hl s (by simp))).owner
    · exact hb q hq
theorem auh (z : bf) (n : Name) (hz : cx z) (hn : bd n) : wl PP [ri, atc, p0] 0 (Tryz.f86.body.getD .skip) (du PP Tryz.f86.results.toList (fun r st => (r2 ar bo).get true st.h r = some ((lg z n).getD [], (lg z n).isSome))) (cq 0 [cy.val false z, ar.val false n]) (bm []) := by
  have hl := hz.len
  unfold Tryz.f86
  simp only [iz, db]
  simp only [↓wR, RA, simprocAttr, TF, ag]
  refine bn (T := []) (aw.nil PP) mixed Tryz.func127 rfl (by kernel_rfl) (by kernel_rfl) (by kernel_rfl) (by kernel_rfl) ?_; unfold Tryz.f127
  simp only [↓wR, RA, simprocAttr, TF, ag]
  refine ⟨[2, 3, 6, 7, 10], ?_⟩
  have hib : vc PP 154 = some (Tryz.f154.ntmps, Tryz.f154.body.getD .skip) := by kernel_rfl
  simp only [↓wR, RA, simprocAttr, TF, ag, hib]
  refine ⟨by kernel_rfl, fun l => ?_⟩
  unfold Tryz.f154
  simp only [↓wR, RA, simprocAttr, TF, ag]
  refine ajt [0, 2, 7, 8, 9] (fun (x : Nat × Option Name) => [.sc (.func (.yield l) #[] #[]), .ptr 5 0, .vl false 5 (z.aj.map (ah.val false)), .sc (.int .i64 (z.aj.length)), .sc (.int .i64 (x.1))]) (fun x => [some (.row [.vl false 1 (z.origin.map (ak.val false)), .vl false 5 (z.aj.map (ah.val false))] 0 2 26), some (.row [.vl false 1 (n.map (ak.val false))] 0 2 23), some (.row [.vl false 1 ((x.2.getD []).map (ak.val false))] 0 2 23), some (.row [.sc (.bool (x.2.isSome))] 0 2 4), some (.row [.vl false 1 (z.origin.map (ak.val false)), .vl false 5 (z.aj.map (ah.val false))] 0 2 26), some (.row [.sc (.int .u16 2)] 0 2 28)]) (fun x => x.1 ≤ z.aj.length ∧ lg z n = (z.aj.drop x.1).foldl (jm z n) x.2 ∧ ∀ m, x.2 = some m → bd m) (fun x => z.aj.length - x.1) (0, none) ⟨Nat.zero_le _, rfl, fun m hm => by cases hm⟩ (by simp only [↓wR, RA, simprocAttr, TF, ag]; (refine l7.lax [] (by first | exact Nat.le_of_ble_eq_true rfl | (simp [bw]; omega)) ?_ ?_ <;> repeat' first | exact iq.nil | exact dc.nil | exact iw.same _ | exact iw.nil _ _ _ | exact iw.uy _ _ | exact dc.refl _ _ | apply iq.cons | apply dc.ghost | apply dc.same | apply dc.row)) ?_
  rintro ⟨i, b⟩ ⟨hi, hx, hb⟩
  simp only at hi hx hb
  simp only [↓wR, RA, simprocAttr, TF, ag]
  rw [wh]; refine ⟨fun h => ?_, fun h => ?_⟩
  · obtain ⟨c, hc, hd1, hlt⟩ := ec h
    have hcs := hz.set c (List.mem_of_getElem? hc)
    have hstep : lg z n = (z.aj.drop (i + 1)).foldl (jm z n) (jm z n b c) := by rw [hx, hd1]; rfl
    simp only [↓wR, RA, simprocAttr, TF, ag, h, hc]
    rw [wh]; refine ⟨fun h2 => ?_, fun h2 => ?_⟩
    · have e2 : (c.type.toNat : Int) = 2 := by simpa using h2
      simp only [↓wR, RA, simprocAttr, TF, ag, h2]
      refine yj [0, 2, 7, 8, 9, 17, 19] ?_
      simp only [↓wR, RA, simprocAttr, TF, ag, zc, nb, Gf, hcs.owner, hz.origin]
      rw [cp]; refine ⟨fun h3 => ?_, fun h3 => ?_⟩
      · simp only [↓wR, RA, simprocAttr, TF, ag, h3, i9, hcs.owner, hn]
        rw [cp]; refine ⟨fun h4 => ?_, fun h4 => ?_⟩
        · cases b with
          | none =>
            have hb2 : jm z n none c = some c.owner := by simp [jm, e2, h3, h4, Mc]
            rw [hb2] at hstep
            simp only [↓wR, RA, simprocAttr, TF, ag, h4, Option.isSome_none]; repeat (simp (disch := omega) only [ai, cd, ca, cf, cb]; try simp only [↓wR, RA, simprocAttr, TF, ag, h4, Option.isSome_none])
            exact ⟨(i + 1, some c.owner), ⟨hlt, hstep, fun m hm => by cases hm; exact hcs.owner⟩, by simp; omega, by (first | rfl | trivial | omega | ((try (simp (disch := omega) only [ai])); (try (simp only [FB])); first | done | rfl | omega)), by (first | rfl | trivial | omega | ((try (simp (disch := omega) only [ai])); (try (simp only [FB])); first | done | rfl | omega))⟩
          | some m =>
            simp only [↓wR, RA, simprocAttr, TF, ag, h4]
            rw [b9]; refine ⟨fun h5 => ?_, fun h5 => ?_⟩
            · have hb2 : jm z n (some m) c = some c.owner := by simp [jm, e2, h3, h4, Mc]; omega
              rw [hb2] at hstep
              simp only [↓wR, RA, simprocAttr, TF, ag, h5]; repeat (simp (disch := omega) only [ai, cd, ca, cf, cb]; try simp only [↓wR, RA, simprocAttr, TF, ag, h5])
              exact ⟨(i + 1, some c.owner), ⟨hlt, hstep, fun m hm => by cases hm; exact hcs.owner⟩, by simp; omega, by (first | rfl | trivial | omega | ((try (simp (disch := omega) only [ai])); (try (simp only [FB])); first | done | rfl | omega)), by (first | rfl | trivial | omega | ((try (simp (disch := omega) only [ai])); (try (simp only [FB])); first | done | rfl | omega))⟩
            · have hb2 : jm z n (some m) c = some m := by simp [jm, e2, h3, h4, Mc]; omega
              rw [hb2] at hstep
              simp only [↓wR, RA, simprocAttr, TF, ag, h5]; repeat (simp (disch := omega) only [ai, cd, ca, cf, cb]; try simp only [↓wR, RA, simprocAttr, TF, ag, h5])
              exact ⟨(i + 1, some m), ⟨hlt, hstep, hb⟩, by simp; omega, by (first | rfl | trivial | omega | ((try (simp (disch := omega) only [ai])); (try (simp only [FB])); first | done | rfl | omega)), by (first | rfl | trivial | omega | ((try (simp (disch := omega) only [ai])); (try (simp only [FB])); first | done | rfl | omega))⟩
        · have hb2 : jm z n b c = b := by simp [jm, h4]
          rw [hb2] at hstep
          simp only [↓wR, RA, simprocAttr, TF, ag, h4]; repeat (simp (disch := omega) only [ai, cd, ca, cf, cb]; try simp only [↓wR, RA, simprocAttr, TF, ag, h4])
          exact ⟨(i + 1, b), ⟨hlt, hstep, hb⟩, by simp; omega, by (first | rfl | trivial | omega | ((try (simp (disch := omega) only [ai])); (try (simp only [FB])); first | done | rfl | omega)), by (first | rfl | trivial | omega | ((try (simp (disch := omega) only [ai])); (try (simp only [FB])); first | done | rfl | omega))⟩
      · have hb2 : jm z n b c = b := by simp [jm, h3]
        rw [hb2] at hstep
        simp only [↓wR, RA, simprocAttr, TF, ag, h3]; repeat (simp (disch := omega) only [ai, cd, ca, cf, cb]; try simp only [↓wR, RA, simprocAttr, TF, ag, h3])
        exact ⟨(i + 1, b), ⟨hlt, hstep, hb⟩, by simp; omega, by (first | rfl | trivial | omega | ((try (simp (disch := omega) only [ai])); (try (simp only [FB])); first | done | rfl | omega)), by (first | rfl | trivial | omega | ((try (simp (disch := omega) only [ai])); (try (simp only [FB])); first | done | rfl | omega))⟩
    · have e2 : ¬ (c.type.toNat : Int) = 2 := by simpa using h2
      have hb2 : jm z n b c = b := by simp [jm, e2]
      rw [hb2] at hstep
      simp only [↓wR, RA, simprocAttr, TF, ag, h2]; repeat (simp (disch := omega) only [ai, cd, ca, cf, cb]; try simp only [↓wR, RA, simprocAttr, TF, ag, h2])
      exact ⟨(i + 1, b), ⟨hlt, hstep, hb⟩, by simp; omega, by (first | rfl | trivial | omega | ((try (simp (disch := omega) only [ai])); (try (simp only [FB])); first | done | rfl | omega)), by (first | rfl | trivial | omega | ((try (simp (disch := omega) only [ai])); (try (simp only [FB])); first | done | rfl | omega))⟩
  · rw [fe h] at hx
    simp only [↓wR, RA, simprocAttr, TF, ag, h]
    cases b with
    | none =>
      have hc0 : lg z n = none := hx
      simp only [↓wR, RA, simprocAttr, TF, ag, Option.isSome_none]
      rw [hc0]
      rfl
    | some m =>
      have hc0 : lg z n = some m := hx
      simp only [↓wR, RA, simprocAttr, TF, ag, kn, hb m rfl]
      rw [hc0]
      rfl
noncomputable def E0 (x : bf × Name × Unit) : Option AV := if cx x.1 ∧ bd x.2.1 then some ((r2 ar bo).E true (((lg x.1 x.2.1).getD [], (lg x.1 x.2.1).isSome))) else none
set_option maxRecDepth 2000000 in
theorem Wc (x : bf × Name × Unit) (r : AV) (h : E0 x = some r) : bk PP 86 ((aC cy (aC ar a0)).E x) r := by
  by_cases hc : cx x.1 ∧ bd x.2.1
  case neg => simp only [E0, if_neg hc] at h; cases h
  simp only [E0, if_pos hc] at h
  cases h
  exact be (aw.cons (aq lu) (aw.cons (aq afa) (aw.cons (aq mq) (aw.nil PP)))) Tryz.func86 (by kernel_rfl) (by kernel_rfl) (by kernel_rfl) (Nat.le_of_ble_eq_true (by kernel_rfl)) (r2 ar bo) true (((lg x.1 x.2.1).getD [], (lg x.1 x.2.1).isSome)) (auh x.1 x.2.1 hc.1 hc.2)
noncomputable abbrev auq : Nat × Bool × (List AV → M AV) := (86, true, dm (aC cy (aC ar a0)) E0)
end Go.Proofs.YtidomogemfchpaaGreat
end
section
set_option linter.unusedSimpArgs false
set_option linter.unusedVariables false
namespace Go.Proofs.YtidomogemfchpaaGreat
open Go.Vm
set_option maxRecDepth 2000000
def py (z : bf) (n : Name) : Bool := dj n z.origin && (dk n z.origin || z.aj.any fun s => dj s.owner n)
theorem asu (z : bf) (n : Name) (hz : cx z) (hn : bd n) : wl PP [ri, dg] 0 (Tryz.f109.body.getD .skip) (du PP Tryz.f109.results.toList (fun r st => (r1 bo).get true st.h r = some (py z n))) (cq 0 [cy.val false z, ar.val false n]) (bm []) := by
  have hl := hz.len
  unfold Tryz.f109
  simp only [iz, db]
  simp only [↓wR, RA, simprocAttr, TF, ag, i9, hn, hz.origin]
  unfold py
  rw [cp]; refine ⟨fun h => ?_, fun h => ?_⟩
  · have h' : dj n z.origin = false := by simpa using h
    simp only [↓wR, RA, simprocAttr, TF, ag, h, h']
    rfl
  have h' : dj n z.origin = true := by simpa using h
  simp only [↓wR, RA, simprocAttr, TF, ag, h, h', gi, hn, hz.origin]
  rw [cp]; refine ⟨fun h2 => ?_, fun h2 => ?_⟩
  · simp only [↓wR, RA, simprocAttr, TF, ag, h2]
  simp only [↓wR, RA, simprocAttr, TF, ag, h2]
  refine bn (T := []) (aw.nil PP) mixed Tryz.func112 rfl (by kernel_rfl) (by kernel_rfl) (by kernel_rfl) (by kernel_rfl) ?_; unfold Tryz.f112
  simp only [↓wR, RA, simprocAttr, TF, ag]
  refine bn (T := []) (aw.nil PP) mixed Tryz.func147 rfl (by kernel_rfl) (by kernel_rfl) (by kernel_rfl) (by kernel_rfl) ?_; unfold Tryz.f147
  simp only [↓wR, RA, simprocAttr, TF, ag]
  refine dy [0, 1, 7, 8] (fun (i : Nat) => [.vl false 5 (z.aj.map (ah.val false)), .fn (.func 145) [] [.ptr 1 0], .sc (.int .i64 (z.aj.length)), .sc (.int .i64 (i))]) (fun _ => [some (.row [.vl false 1 (z.origin.map (ak.val false)), .vl false 5 (z.aj.map (ah.val false))] 0 2 26), some (.row [.vl false 1 (n.map (ak.val false))] 0 2 23)]) (fun i => i ≤ z.aj.length ∧ (z.aj.any fun s => dj s.owner n) = ((z.aj.drop i).any fun s => dj s.owner n)) (fun i => z.aj.length - i) 0 ⟨Nat.zero_le _, rfl⟩ (by simp only [↓wR, RA, simprocAttr, TF, ag] <;> rfl) (by simp only [↓wR, RA, simprocAttr, TF, ag] <;> rfl) ?_
  rintro i ⟨hi, hx⟩
  simp only [↓wR, RA, simprocAttr, TF, ag]
  rw [b9]; refine ⟨fun h3 => ?_, fun h3 => ?_⟩
  · obtain ⟨c, hc, hd1, hlt⟩ := ec (decide_eq_true h3)
    rw [hd1, List.any_cons] at hx
    have hcs := hz.set c (List.mem_of_getElem? hc)
    simp only [↓wR, RA, simprocAttr, TF, ag, h3, hc]; repeat (simp (disch := omega) only [ai, cd, ca, cf, cb]; try simp only [↓wR, RA, simprocAttr, TF, ag, h3, hc])
    refine bn (T := [ri]) (aw.cons (aq lu) (aw.nil PP)) mixed Tryz.func145 rfl (by kernel_rfl) (by kernel_rfl) (by kernel_rfl) (by kernel_rfl) ?_; unfold Tryz.f145
    simp only [↓wR, RA, simprocAttr, TF, ag, i9, hcs.owner, hn]
    rw [cp]; refine ⟨fun h4 => ?_, fun h4 => ?_⟩
    · rw [h4, Bool.true_or] at hx
      simp only [↓wR, RA, simprocAttr, TF, ag, h4]
      rw [hx]
    · rw [h4, Bool.false_or] at hx
      simp only [↓wR, RA, simprocAttr, TF, ag, h4]; repeat (simp (disch := omega) only [ai, cd, ca, cf, cb]; try simp only [↓wR, RA, simprocAttr, TF, ag, h4])
      exact ⟨i + 1, ⟨hlt, hx⟩, by omega, by (first | rfl | trivial | omega | ((try (simp (disch := omega) only [ai])); (try (simp only [FB])); first | done | rfl | omega))⟩
  · rw [fe (decide_eq_false h3), List.any_nil] at hx
    simp only [↓wR, RA, simprocAttr, TF, ag, h3]
    rw [hx] <;> rfl
noncomputable def Mb (x : bf × Name × Unit) : Option AV := if cx x.1 ∧ bd x.2.1 then some ((r1 bo).E true (py x.1 x.2.1)) else none
set_option maxRecDepth 2000000 in
theorem Ve (x : bf × Name × Unit) (r : AV) (h : Mb x = some r) : bk PP 109 ((aC cy (aC ar a0)).E x) r := by
  by_cases hc : cx x.1 ∧ bd x.2.1
  case neg => simp only [Mb, if_neg hc] at h; cases h
  simp only [Mb, if_pos hc] at h
  cases h
  exact be (aw.cons (aq lu) (aw.cons (aq ee) (aw.nil PP))) Tryz.func109 (by kernel_rfl) (by kernel_rfl) (by kernel_rfl) (Nat.le_of_ble_eq_true (by kernel_rfl)) (r1 bo) true (py x.1 x.2.1) (asu x.1 x.2.1 hc.1 hc.2)
noncomputable abbrev ata : Nat × Bool × (List AV → M AV) := (109, true, dm (aC cy (aC ar a0)) Mb)
theorem anz (t : UInt16) : wl PP [] 0 (Tryz.f188.body.getD .skip) (du PP Tryz.f188.results.toList (fun r st => (r1 bo).get true st.h r = some false)) (cq 0 [cz.val false t]) (bm []) := by
  unfold Tryz.f188
  simp only [↓wR, RA, simprocAttr, TF, ag, bne_self_eq_false]
noncomputable def Uz (x : UInt16 × Unit) : Option AV := some ((r1 bo).E true (false))
set_option maxRecDepth 2000000 in
theorem ad5 (x : UInt16 × Unit) (r : AV) (h : Uz x = some r) : bk PP 188 ((aC cz a0).E x) r := by
  cases h
  exact be (aw.nil PP) Tryz.func188 (by kernel_rfl) (by kernel_rfl) (by kernel_rfl) (Nat.le_of_ble_eq_true (by kernel_rfl)) (r1 bo) true (false) (anz x.1)
noncomputable abbrev auj : Nat × Bool × (List AV → M AV) := (188, true, dm (aC cz a0) Uz)
def Kv (a b : UInt16) : Int := if (a.toNat : Int) < b.toNat then -1 else if (b.toNat : Int) < a.toNat then 1 else 0
theorem asq (a b : UInt16) : wl PP [auj] 0 (Tryz.f170.body.getD .skip) (du PP Tryz.f170.results.toList (fun r st => (r1 (bg .i64)).get true st.h r = some (Kv a b))) (cq 0 [cz.val false a, cz.val false b]) (bm []) := by
  unfold Tryz.f170
  unfold Kv
  simp only [↓wR, RA, simprocAttr, TF, ag, Uz]
  rw [b9]; refine ⟨fun h => ?_, fun h => ?_⟩
  · rw [if_pos h]
    simp only [↓wR, RA, simprocAttr, TF, ag, h]
  · rw [if_neg h]
    simp only [↓wR, RA, simprocAttr, TF, ag, h]
    rw [b9]; refine ⟨fun h2 => ?_, fun h2 => ?_⟩
    · rw [if_pos h2]
      simp only [↓wR, RA, simprocAttr, TF, ag, h2]
    · rw [if_neg h2]
      simp only [↓wR, RA, simprocAttr, TF, ag, h2]
noncomputable def ach (x : UInt16 × UInt16 × Unit) : Option AV := some ((r1 (bg .i64)).E true (Kv x.1 x.2.1))
set_option maxRecDepth 2000000 in
theorem aj5 (x : UInt16 × UInt16 × Unit) (r : AV) (h : ach x = some r) : bk PP 170 ((aC cz (aC cz a0)).E x) r := by
  cases h
  exact be (aw.cons (aq ad5) (aw.nil PP)) Tryz.func170 (by kernel_rfl) (by kernel_rfl) (by kernel_rfl) (Nat.le_of_ble_eq_true (by kernel_rfl)) (r1 (bg .i64)) true (Kv x.1 x.2.1) (asq x.1 x.2.1)
noncomputable abbrev avg : Nat × Bool × (List AV → M AV) := (170, true, dm (aC cz (aC cz a0)) ach)
def Kj : List Int → Int
  | [] => 0
  | a :: r => if a ≠ 0 then a else Kj r
theorem auw (l : List Int) (hl : l.length ≤ 16777216) : wl PP [] 0 (Tryz.f168.body.getD .skip) (du PP Tryz.f168.results.toList (fun r st => (r1 (bg .i64)).get true st.h r = some (Kj l))) (cq 0 [(ct (bg .i64)).val false l]) (bm []) := by
  unfold Tryz.f168
  rw [tj]
  simp only [↓wR, RA, simprocAttr, TF, ag]
  refine dy [3, 6, 7, 8] (fun (i : Nat) => [.sc (.int .i64 (0)), .vl false 1 (l.map ((bg .i64).val false)), .sc (.int .i64 (l.length)), .sc (.int .i64 (i))]) (fun _ => []) (fun i => i ≤ l.length ∧ Kj l = Kj (l.drop i)) (fun i => l.length - i) 0 ⟨Nat.zero_le _, rfl⟩ (by simp only [↓wR, RA, simprocAttr, TF, ag] <;> rfl) (by simp only [↓wR, RA, simprocAttr, TF, ag] <;> rfl) ?_
  rintro i ⟨hi, hx⟩
  simp only [↓wR, RA, simprocAttr, TF, ag]
  rw [b9]; refine ⟨fun h => ?_, fun h => ?_⟩
  · obtain ⟨c, hc, hd1, hlt⟩ := ec (decide_eq_true h)
    rw [hd1, Kj] at hx
    simp only [↓wR, RA, simprocAttr, TF, ag, h, hc]
    rw [gv]; refine ⟨fun ⟨h2, e2⟩ => ?_, fun ⟨h2, e2⟩ => ?_⟩
    · rw [if_pos e2] at hx
      simp only [↓wR, RA, simprocAttr, TF, ag, h2]
      rw [hx]
    · rw [if_neg (by omega)] at hx
      simp only [↓wR, RA, simprocAttr, TF, ag, h2]; repeat (simp (disch := omega) only [ai, cd, ca, cf, cb]; try simp only [↓wR, RA, simprocAttr, TF, ag, h2])
      exact ⟨i + 1, ⟨hlt, hx⟩, by omega, by (first | rfl | trivial | omega | ((try (simp (disch := omega) only [ai])); (try (simp only [FB])); first | done | rfl | omega))⟩
  · rw [fe (decide_eq_false h)] at hx
    simp only [↓wR, RA, simprocAttr, TF, ag, h]
    rw [hx]; rfl
noncomputable def Zo (x : List Int × Unit) : Option AV := if x.1.length ≤ 16777216 then some ((r1 (bg .i64)).E true (Kj x.1)) else none
set_option maxRecDepth 2000000 in
theorem apu (x : List Int × Unit) (r : AV) (h : Zo x = some r) : bk PP 168 ((aC (ct (bg .i64)) a0).E x) r := by
  by_cases hc : x.1.length ≤ 16777216
  case neg => simp only [Zo, if_neg hc] at h; cases h
  simp only [Zo, if_pos hc] at h
  cases h
  exact be (aw.nil PP) Tryz.func168 (by kernel_rfl) (by kernel_rfl) (by kernel_rfl) (Nat.le_of_ble_eq_true (by kernel_rfl)) (r1 (bg .i64)) true (Kj x.1) (auw x.1 hc)
noncomputable abbrev orC : Nat × Bool × (List AV → M AV) := (168, true, dm (aC (ct (bg .i64)) a0) Zo)
noncomputable def qh (a b : bb) : Int := Kj [vy a.owner b.owner, Kv a.type b.type]
theorem ah8 (a b : bb) (ha : c8 a) (hb : c8 b) : wl PP [aef, avg, orC] 0 (Tryz.f152.body.getD .skip) (du PP Tryz.f152.results.toList (fun r st => (r1 (bg .i64)).get true st.h r = some (qh a b))) (cq 0 [ah.val false a, ah.val false b]) (bm []) := by
  unfold Tryz.f152
  simp only [jq]
  simp only [↓wR, RA, simprocAttr, TF, ag]
  refine ⟨by kernel_rfl, .inl ?_⟩
  simp only [↓wR, RA, simprocAttr, TF, ag, vz, ach, Zo, ha.owner, hb.owner]
  exact ⟨by kernel_rfl, rfl⟩
noncomputable def x6 (x : bb × bb × Unit) : Option AV := if c8 x.1 ∧ c8 x.2.1 then some ((r1 (bg .i64)).E true (qh x.1 x.2.1)) else none
set_option maxRecDepth 2000000 in
theorem Xq (x : bb × bb × Unit) (r : AV) (h : x6 x = some r) : bk PP 152 ((aC ah (aC ah a0)).E x) r := by
  by_cases hc : c8 x.1 ∧ c8 x.2.1
  case neg => simp only [x6, if_neg hc] at h; cases h
  simp only [x6, if_pos hc] at h
  cases h
  exact be (aw.cons (aq Pj) (aw.cons (aq aj5) (aw.cons (aq apu) (aw.nil PP)))) Tryz.func152 (by kernel_rfl) (by kernel_rfl) (by kernel_rfl) (Nat.le_of_ble_eq_true (by kernel_rfl)) (r1 (bg .i64)) true (qh x.1 x.2.1) (ah8 x.1 x.2.1 hc.1 hc.2)
noncomputable abbrev Zr : Nat × Bool × (List AV → M AV) := (152, true, dm (aC ah (aC ah a0)) x6)
end Go.Proofs.YtidomogemfchpaaGreat
end
section
set_option linter.unusedSimpArgs false
set_option linter.unusedVariables false
namespace Go.Proofs.YtidomogemfchpaaGreat
open Go.Vm
set_option maxRecDepth 2000000
noncomputable def v9 (t : UInt16) : List c0 → Bool
  | a :: b :: r => if 0 ≤ Jh t a b then false else v9 t (b :: r)
  | _ => true
noncomputable def j3 (z : bf) (i : Nat) (s : bb) : Bool :=
  (match i with | 0 => true | k + 1 => match z.aj[k]? with | some a => decide (¬ (qh a s ≥ 0)) | none => true) && v9 s.type s.data
theorem Bz (k : Nat) : ((k : Int) + 1).toNat = k + 1 := by omega
theorem L7 (k : Nat) : (0 : Int) ≤ (k : Int) + 1 := by omega
theorem V2 (t : UInt16) {l : List c0} {k : Nat} {a b : c0} (ha : l[k]? = some a) (hb : l[k + 1]? = some b) : v9 t (l.drop k) = if 0 ≤ Jh t a b then false else v9 t (l.drop (k + 1)) := by
  rw [Gw ha, Gw hb]; rfl
theorem Sg (t : UInt16) {l : List c0} {k : Nat} (h : l.length ≤ k + 1) : v9 t (l.drop k) = true := by
  have : (l.drop k).length ≤ 1 := by rw [List.length_drop]; omega
  match hd : l.drop k with
  | [] => rfl
  | [a] => rfl
  | a :: b :: r => rw [hd] at this; simp at this
theorem ap0 (l : tc) (i : Nat) (s : bb) (hz : cx l.z) (hs : c8 s) (hi : i ≤ l.z.aj.length) : wl PP [Zr, E9] 0 (Tryz.f122.body.getD .skip) (du PP Tryz.f122.results.toList (fun r st => (r1 bo).get true st.h r = some (j3 l.z i s))) (cq 0 [.gn (lz.cells false l), (bg .i64).val false i, ah.val false s]) (bm []) := by
  have hd := hs.data
  have hn := hd.len
  have hl := hz.len
  unfold Tryz.f122
  simp only [jq]
  simp only [↓wR, RA, simprocAttr, TF, ag, Ah]
  refine ⟨by kernel_rfl, .inl ?_⟩
  rw [b9]; refine ⟨fun h => ?_, fun h => ?_⟩
  · cases i with
    | zero => omega
    | succ k =>
    obtain ⟨a, ha⟩ : ∃ a, l.z.aj[k]? = some a := ⟨_, List.getElem?_eq_getElem (by omega)⟩
    have has := hz.set a (List.mem_of_getElem? ha)
    simp only [↓wR, RA, simprocAttr, TF, ag, h, ha, Int.natCast_add, Int.add_sub_cancel, x6, has, hs]; repeat (simp (disch := omega) only [ai, cd, ca, cf, cb]; try simp only [↓wR, RA, simprocAttr, TF, ag, h, ha, Int.natCast_add, Int.add_sub_cancel, x6, has, hs])
    refine ⟨by kernel_rfl, ?_⟩
    rw [b9]; refine ⟨fun h2 => ?_, fun h2 => ?_⟩
    · have hv : j3 l.z (k + 1) s = false := by simp only [j3, ha]; simp [h2]
      simp only [↓wR, RA, simprocAttr, TF, ag, h2]
      rw [hv]
    have hv : j3 l.z (k + 1) s = v9 s.type s.data := by simp only [j3, ha]; simp [h2]
    clear ha
    simp only [↓wR, RA, simprocAttr, TF, ag, h2]
    refine dy [5, 7] (fun (k : Nat) => [.ptr 0 0, .sc (.int .i64 ((k : Int) + 1))]) (fun _ => [some (.row [.vl false 1 (s.owner.map (ak.val false)), .sc (.int .u16 s.type.toNat), .sc (.int .u16 s.cls.toNat), .sc (.int .u32 s.n9.toNat), .vl false 4 (s.data.map (bq.val false))] 0 2 40)]) (fun k => (k = 0 ∨ k + 1 ≤ s.data.length) ∧ v9 s.type s.data = v9 s.type (s.data.drop k)) (fun k => s.data.length - k) 0 ⟨.inl rfl, rfl⟩ (by simp only [↓wR, RA, simprocAttr, TF, ag] <;> rfl) (by simp only [↓wR, RA, simprocAttr, TF, ag] <;> rfl) ?_
    rintro k ⟨hk, hx⟩
    simp only [↓wR, RA, simprocAttr, TF, ag]
    rw [b9]; refine ⟨fun h5 => ?_, fun h5 => ?_⟩
    · obtain ⟨a, ha⟩ : ∃ a, s.data[k]? = some a := ⟨_, List.getElem?_eq_getElem (by omega)⟩
      obtain ⟨b, hb⟩ : ∃ b, s.data[k + 1]? = some b := ⟨_, List.getElem?_eq_getElem (by omega)⟩
      rw [V2 _ ha hb] at hx
      have has := hd.mem a (List.mem_of_getElem? ha)
      have hbs := hd.mem b (List.mem_of_getElem? hb)
      simp only [↓wR, RA, simprocAttr, TF, ag, h5]
      refine ⟨by kernel_rfl, .inl ?_⟩
      simp only [↓wR, RA, simprocAttr, TF, ag, ha, hb, Int.add_sub_cancel, Bz, L7, mb, has, hbs]; repeat (simp (disch := omega) only [ai, cd, ca, cf, cb]; try simp only [↓wR, RA, simprocAttr, TF, ag, ha, hb, Int.add_sub_cancel, Bz, L7, mb, has, hbs])
      refine ⟨by kernel_rfl, ?_⟩
      rw [b9]; refine ⟨fun h6 => ?_, fun h6 => ?_⟩
      · rw [if_pos h6] at hx
        simp only [↓wR, RA, simprocAttr, TF, ag, h6]
        rw [hv, hx]
      · rw [if_neg h6] at hx
        simp only [↓wR, RA, simprocAttr, TF, ag, h6]; repeat (simp (disch := omega) only [ai, cd, ca, cf, cb]; try simp only [↓wR, RA, simprocAttr, TF, ag, h6])
        exact ⟨k + 1, ⟨.inr (by omega), hx⟩, by omega, by (first | rfl | trivial | omega | ((try (simp (disch := omega) only [ai])); (try (simp only [FB])); first | done | rfl | omega))⟩
    · rw [Sg _ (by omega)] at hx
      simp only [↓wR, RA, simprocAttr, TF, ag, h5]
      rw [hv, hx]
  · simp only [↓wR, RA, simprocAttr, TF, ag, h]
    have hi0 : i = 0 := by omega
    have hv : j3 l.z i s = v9 s.type s.data := by rw [hi0]; simp [j3]
    refine ⟨by kernel_rfl, ?_⟩
    refine dy [5, 7] (fun (k : Nat) => [.ptr 0 0, .sc (.int .i64 ((k : Int) + 1))]) (fun _ => [some (.row [.vl false 1 (s.owner.map (ak.val false)), .sc (.int .u16 s.type.toNat), .sc (.int .u16 s.cls.toNat), .sc (.int .u32 s.n9.toNat), .vl false 4 (s.data.map (bq.val false))] 0 2 40)]) (fun k => (k = 0 ∨ k + 1 ≤ s.data.length) ∧ v9 s.type s.data = v9 s.type (s.data.drop k)) (fun k => s.data.length - k) 0 ⟨.inl rfl, rfl⟩ (by simp only [↓wR, RA, simprocAttr, TF, ag] <;> rfl) (by simp only [↓wR, RA, simprocAttr, TF, ag] <;> rfl) ?_
    rintro k ⟨hk, hx⟩
    simp only [↓wR, RA, simprocAttr, TF, ag]
    rw [b9]; refine ⟨fun h5 => ?_, fun h5 => ?_⟩
    · obtain ⟨a, ha⟩ : ∃ a, s.data[k]? = some a := ⟨_, List.getElem?_eq_getElem (by omega)⟩
      obtain ⟨b, hb⟩ : ∃ b, s.data[k + 1]? = some b := ⟨_, List.getElem?_eq_getElem (by omega)⟩
      rw [V2 _ ha hb] at hx
      have has := hd.mem a (List.mem_of_getElem? ha)
      have hbs := hd.mem b (List.mem_of_getElem? hb)
      simp only [↓wR, RA, simprocAttr, TF, ag, h5]
      refine ⟨by kernel_rfl, .inl ?_⟩
      simp only [↓wR, RA, simprocAttr, TF, ag, ha, hb, Int.add_sub_cancel, Bz, L7, mb, has, hbs]; repeat (simp (disch := omega) only [ai, cd, ca, cf, cb]; try simp only [↓wR, RA, simprocAttr, TF, ag, ha, hb, Int.add_sub_cancel, Bz, L7, mb, has, hbs])
      refine ⟨by kernel_rfl, ?_⟩
      rw [b9]; refine ⟨fun h6 => ?_, fun h6 => ?_⟩
      · rw [if_pos h6] at hx
        simp only [↓wR, RA, simprocAttr, TF, ag, h6]
        rw [hv, hx]
      · rw [if_neg h6] at hx
        simp only [↓wR, RA, simprocAttr, TF, ag, h6]; repeat (simp (disch := omega) only [ai, cd, ca, cf, cb]; try simp only [↓wR, RA, simprocAttr, TF, ag, h6])
        exact ⟨k + 1, ⟨.inr (by omega), hx⟩, by omega, by (first | rfl | trivial | omega | ((try (simp (disch := omega) only [ai])); (try (simp only [FB])); first | done | rfl | omega))⟩
    · rw [Sg _ (by omega)] at hx
      simp only [↓wR, RA, simprocAttr, TF, ag, h5]
      rw [hv, hx]
theorem alu (l : tc) (i : Int) (s : bb) (hz : cx l.z) (hs : c8 s) (hi : 0 ≤ i ∧ i ≤ l.z.aj.length) : wl PP [Zr, E9] 0 (Tryz.f122.body.getD .skip) (du PP Tryz.f122.results.toList (fun r st => (r1 bo).get true st.h r = some (j3 l.z i.toNat s))) (cq 0 [.gn (lz.cells false l), (bg .i64).val false i, ah.val false s]) (bm []) := by
  have := ap0 l i.toNat s hz hs (by omega)
  rwa [Int.toNat_of_nonneg hi.1] at this
noncomputable def Gy (x : tc × Int × bb × Unit) : Option AV := if (cx x.1.z ∧ c8 x.2.2.1) ∧ 0 ≤ x.2.1 ∧ x.2.1 ≤ x.1.z.aj.length then some ((r1 bo).E true (j3 x.1.z x.2.1.toNat x.2.2.1)) else none
set_option maxRecDepth 2000000 in
theorem Mw (x : tc × Int × bb × Unit) (r : AV) (h : Gy x = some r) : bk PP 122 ((aP lz (aC (bg .i64) (aC ah a0))).E x) r := by
  by_cases hc : (cx x.1.z ∧ c8 x.2.2.1) ∧ 0 ≤ x.2.1 ∧ x.2.1 ≤ x.1.z.aj.length
  case neg => simp only [Gy, if_neg hc] at h; cases h
  simp only [Gy, if_pos hc] at h
  cases h
  exact be (aw.cons (aq Xq) (aw.cons (aq Dm) (aw.nil PP))) Tryz.func122 (by kernel_rfl) (by kernel_rfl) (by kernel_rfl) (Nat.le_of_ble_eq_true (by kernel_rfl)) (r1 bo) true (j3 x.1.z x.2.1.toNat x.2.2.1) (alu x.1 x.2.1 x.2.2.1 hc.1.1 hc.1.2 hc.2)
noncomputable abbrev ji : Nat × Bool × (List AV → M AV) := (122, true, dm (aP lz (aC (bg .i64) (aC ah a0))) Gy)
end Go.Proofs.YtidomogemfchpaaGreat
end
section
set_option linter.unusedSimpArgs false
set_option linter.unusedVariables false
namespace Go.Proofs.YtidomogemfchpaaGreat
open Go.Vm
set_option maxRecDepth 2000000
def Cn (i : Nat) (n : Name) : Nat → List bb → Bool
  | _, [] => false
  | k, o :: r => (decide (¬ (k : Int) = i) && dk o.owner n) || Cn i n (k + 1) r
def i6 (z : bf) (i : Nat) (s : bb) : Bool :=
  if ¬ (s.type.toNat : Int) = 5 then true else if ¬ (s.data.length : Int) = 1 then false else if dk s.owner z.origin = true then false else !Cn i s.owner 0 z.aj
theorem aoe (l : tc) (i : Nat) (s : bb) (hz : cx l.z) (hs : c8 s) : wl PP [dg] 0 (Tryz.f128.body.getD .skip) (du PP Tryz.f128.results.toList (fun r st => (r1 bo).get true st.h r = some (i6 l.z i s))) (cq 0 [.gn (lz.cells false l), (bg .i64).val false i, ah.val false s]) (bm []) := by
  have hl := hz.len
  unfold Tryz.f128
  simp only [jq]
  simp only [↓wR, RA, simprocAttr, TF, ag, Ah]
  unfold i6
  rw [gv]; refine ⟨fun ⟨h, e⟩ => ?_, fun ⟨h, e⟩ => ?_⟩
  · rw [if_pos e]
    simp only [↓wR, RA, simprocAttr, TF, ag, h]
  rw [if_neg (by omega)]
  simp only [↓wR, RA, simprocAttr, TF, ag, h]
  refine ⟨by kernel_rfl, .inl ?_⟩
  rw [gv]; refine ⟨fun ⟨h2, e2⟩ => ?_, fun ⟨h2, e2⟩ => ?_⟩
  · rw [if_pos e2]
    simp only [↓wR, RA, simprocAttr, TF, ag, h2]
    exact by kernel_rfl
  rw [if_neg (by omega)]
  simp only [↓wR, RA, simprocAttr, TF, ag, h2, gi, hs.owner, hz.origin]
  refine ⟨by kernel_rfl, ?_⟩
  rw [cp]; refine ⟨fun h3 => ?_, fun h3 => ?_⟩
  · rw [if_pos h3]
    simp only [↓wR, RA, simprocAttr, TF, ag, h3]
  rw [if_neg (by rw [h3]; decide)]
  simp only [↓wR, RA, simprocAttr, TF, ag, h3]
  refine dy [1, 5, 30, 31, 32] (fun (k : Nat) => [.sc (.int .i64 (i)), .ptr 0 0, .vl false 5 (l.z.aj.map (ah.val false)), .sc (.int .i64 (l.z.aj.length)), .sc (.int .i64 (k))]) (fun _ => [some (.row [.vl false 1 (s.owner.map (ak.val false)), .sc (.int .u16 s.type.toNat), .sc (.int .u16 s.cls.toNat), .sc (.int .u32 s.n9.toNat), .vl false 4 (s.data.map (bq.val false))] 0 2 40)]) (fun k => k ≤ l.z.aj.length ∧ Cn i s.owner 0 l.z.aj = Cn i s.owner k (l.z.aj.drop k)) (fun k => l.z.aj.length - k) 0 ⟨Nat.zero_le _, rfl⟩ (by simp only [↓wR, RA, simprocAttr, TF, ag] <;> rfl) (by simp only [↓wR, RA, simprocAttr, TF, ag] <;> rfl) ?_
  rintro k ⟨hk, hx⟩
  simp only [↓wR, RA, simprocAttr, TF, ag]
  rw [b9]; refine ⟨fun h4 => ?_, fun h4 => ?_⟩
  · obtain ⟨c, hc, hd1, hlt⟩ := ec (decide_eq_true h4)
    rw [hd1, Cn] at hx
    have hcs := hz.set c (List.mem_of_getElem? hc)
    simp only [↓wR, RA, simprocAttr, TF, ag, h4, hc]
    rw [gv]; refine ⟨fun ⟨h5, e5⟩ => ?_, fun ⟨h5, e5⟩ => ?_⟩
    · rw [decide_eq_true e5, Bool.true_and] at hx
      simp only [↓wR, RA, simprocAttr, TF, ag, h5, gi, hcs.owner, hs.owner]
      rw [cp]; refine ⟨fun h6 => ?_, fun h6 => ?_⟩
      · rw [h6, Bool.true_or] at hx
        simp only [↓wR, RA, simprocAttr, TF, ag, h6]
        rw [hx]; rfl
      · rw [h6, Bool.false_or] at hx
        simp only [↓wR, RA, simprocAttr, TF, ag, h6]; repeat (simp (disch := omega) only [ai, cd, ca, cf, cb]; try simp only [↓wR, RA, simprocAttr, TF, ag, h6])
        exact ⟨k + 1, ⟨hlt, hx⟩, by omega, by (first | rfl | trivial | omega | ((try (simp (disch := omega) only [ai])); (try (simp only [FB])); first | done | rfl | omega))⟩
    · rw [decide_eq_false (by omega), Bool.false_and, Bool.false_or] at hx
      simp only [↓wR, RA, simprocAttr, TF, ag, h5]; repeat (simp (disch := omega) only [ai, cd, ca, cf, cb]; try simp only [↓wR, RA, simprocAttr, TF, ag, h5])
      exact ⟨k + 1, ⟨hlt, hx⟩, by omega, by (first | rfl | trivial | omega | ((try (simp (disch := omega) only [ai])); (try (simp only [FB])); first | done | rfl | omega))⟩
  · rw [fe (decide_eq_false h4), Cn] at hx
    simp only [↓wR, RA, simprocAttr, TF, ag, h4]
    rw [hx]; rfl
theorem ako (l : tc) (i : Int) (s : bb) (hz : cx l.z) (hs : c8 s) (hi : 0 ≤ i) : wl PP [dg] 0 (Tryz.f128.body.getD .skip) (du PP Tryz.f128.results.toList (fun r st => (r1 bo).get true st.h r = some (i6 l.z i.toNat s))) (cq 0 [.gn (lz.cells false l), (bg .i64).val false i, ah.val false s]) (bm []) := by
  have := aoe l i.toNat s hz hs
  rwa [Int.toNat_of_nonneg hi] at this
noncomputable def Cq (x : tc × Int × bb × Unit) : Option AV := if (cx x.1.z ∧ c8 x.2.2.1) ∧ 0 ≤ x.2.1 then some ((r1 bo).E true (i6 x.1.z x.2.1.toNat x.2.2.1)) else none
set_option maxRecDepth 2000000 in
theorem Ny (x : tc × Int × bb × Unit) (r : AV) (h : Cq x = some r) : bk PP 128 ((aP lz (aC (bg .i64) (aC ah a0))).E x) r := by
  by_cases hc : (cx x.1.z ∧ c8 x.2.2.1) ∧ 0 ≤ x.2.1
  case neg => simp only [Cq, if_neg hc] at h; cases h
  simp only [Cq, if_pos hc] at h
  cases h
  exact be (aw.cons (aq ee) (aw.nil PP)) Tryz.func128 (by kernel_rfl) (by kernel_rfl) (by kernel_rfl) (Nat.le_of_ble_eq_true (by kernel_rfl)) (r1 bo) true (i6 x.1.z x.2.1.toNat x.2.2.1) (ako x.1 x.2.1 x.2.2.1 hc.1.1 hc.1.2 hc.2)
noncomputable abbrev jg : Nat × Bool × (List AV → M AV) := (128, true, dm (aP lz (aC (bg .i64) (aC ah a0))) Cq)
def mz (s : bb) : Bool := if ¬ (s.cls.toNat : Int) = 1 then false else if (s.type.toNat : Int) = 0 then false else if (s.type.toNat : Int) = 41 then false else !decide ((s.type.toNat : Int) = 255)
theorem apx (i : Int) (s : bb) : wl PP [] 0 (Tryz.f123.body.getD .skip) (du PP Tryz.f123.results.toList (fun r st => (r1 bo).get true st.h r = some (mz s))) (cq 0 [(bg .i64).val false i, ah.val false s]) (bm []) := by
  unfold Tryz.f123
  simp only [jq]
  simp only [↓wR, RA, simprocAttr, TF, ag]
  unfold mz
  rw [c7]; refine ⟨fun ⟨h, e⟩ => ?_, fun ⟨h, e⟩ => ?_⟩
  · rw [if_neg (by omega)]
    simp only [↓wR, RA, simprocAttr, TF, ag, h]
    rw [gv]; refine ⟨fun ⟨h2, e2⟩ => ?_, fun ⟨h2, e2⟩ => ?_⟩
    · rw [if_neg e2]
      simp only [↓wR, RA, simprocAttr, TF, ag, h2]
      rw [gv]; refine ⟨fun ⟨h3, e3⟩ => ?_, fun ⟨h3, e3⟩ => ?_⟩
      · rw [if_neg e3]
        simp only [↓wR, RA, simprocAttr, TF, ag, h3]
        rfl
      · rw [if_pos e3]
        simp only [↓wR, RA, simprocAttr, TF, ag, h3]
    · rw [if_pos e2]
      simp only [↓wR, RA, simprocAttr, TF, ag, h2]
  · rw [if_pos e]
    simp only [↓wR, RA, simprocAttr, TF, ag, h]
noncomputable def Uo (x : Int × bb × Unit) : Option AV := some ((r1 bo).E true (mz x.2.1))
set_option maxRecDepth 2000000 in
theorem Oi (x : Int × bb × Unit) (r : AV) (h : Uo x = some r) : bk PP 123 ((aC (bg .i64) (aC ah a0)).E x) r := by
  cases h
  exact be (aw.nil PP) Tryz.func123 (by kernel_rfl) (by kernel_rfl) (by kernel_rfl) (Nat.le_of_ble_eq_true (by kernel_rfl)) (r1 bo) true (mz x.2.1) (apx x.1 x.2.1)
noncomputable abbrev jh : Nat × Bool × (List AV → M AV) := (123, true, dm (aC (bg .i64) (aC ah a0)) Uo)
theorem ano (i : Int) (s : bb) (z : bf) (hs : c8 s) (hz : cx z) : wl PP [ri] 0 (Tryz.f124.body.getD .skip) (du PP Tryz.f124.results.toList (fun r st => (r1 bo).get true st.h r = some (dj s.owner z.origin))) (cq 0 [(bg .i64).val false i, ah.val false s, .gn (cy.cells false z)]) (bm []) := by
  unfold Tryz.f124
  simp only [jq]
  simp only [↓wR, RA, simprocAttr, TF, ag, Ap, i9, hs.owner, hz.origin]
noncomputable def C1 (x : Int × bb × bf × Unit) : Option AV := if c8 x.2.1 ∧ cx x.2.2.1 then some ((r1 bo).E true (dj x.2.1.owner x.2.2.1.origin)) else none
set_option maxRecDepth 2000000 in
theorem J1 (x : Int × bb × bf × Unit) (r : AV) (h : C1 x = some r) : bk PP 124 ((aC (bg .i64) (aC ah (aP cy a0))).E x) r := by
  by_cases hc : c8 x.2.1 ∧ cx x.2.2.1
  case neg => simp only [C1, if_neg hc] at h; cases h
  simp only [C1, if_pos hc] at h
  cases h
  exact be (aw.cons (aq lu) (aw.nil PP)) Tryz.func124 (by kernel_rfl) (by kernel_rfl) (by kernel_rfl) (Nat.le_of_ble_eq_true (by kernel_rfl)) (r1 bo) true (dj x.2.1.owner x.2.2.1.origin) (ano x.1 x.2.1 x.2.2.1 hc.1 hc.2)
noncomputable abbrev ic : Nat × Bool × (List AV → M AV) := (124, true, dm (aC (bg .i64) (aC ah (aP cy a0))) C1)
end Go.Proofs.YtidomogemfchpaaGreat
end
section
set_option linter.unusedSimpArgs false
set_option linter.unusedVariables false
namespace Go.Proofs.YtidomogemfchpaaGreat
open Go.Vm
set_option maxRecDepth 2000000
def kh (s : bb) : Bool := if ¬ (s.type.toNat : Int) = 2 then true else match s.owner[0]? with | none => true | some a => !decide (a = s5)
theorem asj (i : Int) (s : bb) (hs : c8 s) : wl PP [] 0 (Tryz.f129.body.getD .skip) (du PP Tryz.f129.results.toList (fun r st => (r1 bo).get true st.h r = some (kh s))) (cq 0 [(bg .i64).val false i, ah.val false s]) (bm []) := by
  have hn := hs.owner.lt
  unfold Tryz.f129
  simp only [jq]
  simp only [↓wR, RA, simprocAttr, TF, ag]
  unfold kh
  rw [gv]; refine ⟨fun ⟨h, e⟩ => ?_, fun ⟨h, e⟩ => ?_⟩
  · rw [if_pos e]
    simp only [↓wR, RA, simprocAttr, TF, ag, h]
  rw [if_neg (by omega)]
  simp only [↓wR, RA, simprocAttr, TF, ag, h]
  rw [c7]; refine ⟨fun ⟨h2, e2⟩ => ?_, fun ⟨h2, e2⟩ => ?_⟩
  · have hnil : s.owner = [] := List.eq_nil_of_length_eq_zero (by omega)
    have h0 : s.owner[0]? = none := by rw [hnil]; rfl
    rw [h0]
    simp only [↓wR, RA, simprocAttr, TF, ag, h2]
  · obtain ⟨a, ha⟩ : ∃ a, s.owner[0]? = some a := ⟨_, List.getElem?_eq_getElem (by omega)⟩
    have h0 : 0 < s.owner.length := by omega
    rw [ha]
    simp only [↓wR, RA, simprocAttr, TF, ag, h2, ha, h0]
    rfl
noncomputable def F5 (x : Int × bb × Unit) : Option AV := if c8 x.2.1 then some ((r1 bo).E true (kh x.2.1)) else none
set_option maxRecDepth 2000000 in
theorem Q7 (x : Int × bb × Unit) (r : AV) (h : F5 x = some r) : bk PP 129 ((aC (bg .i64) (aC ah a0)).E x) r := by
  by_cases hc : c8 x.2.1
  case neg => simp only [F5, if_neg hc] at h; cases h
  simp only [F5, if_pos hc] at h
  cases h
  exact be (aw.nil PP) Tryz.func129 (by kernel_rfl) (by kernel_rfl) (by kernel_rfl) (Nat.le_of_ble_eq_true (by kernel_rfl)) (r1 bo) true (kh x.2.1) (asj x.1 x.2.1 hc)
noncomputable abbrev ki : Nat × Bool × (List AV → M AV) := (129, true, dm (aC (bg .i64) (aC ah a0)) F5)
def pa (z : bf) (s : bb) : Bool :=
  match lg z s.owner with
  | none => true
  | some c => if (s.type.toNat : Int) = 1 then true else if (s.type.toNat : Int) = 28 then true else if (s.type.toNat : Int) = 2 then dk c s.owner else false
theorem aus (i : Int) (s : bb) (z : bf) (hs : c8 s) (hz : cx z) : wl PP [auq, dg] 0 (Tryz.f130.body.getD .skip) (du PP Tryz.f130.results.toList (fun r st => (r1 bo).get true st.h r = some (pa z s))) (cq 0 [(bg .i64).val false i, ah.val false s, .gn (cy.cells false z)]) (bm []) := by
  have hsm := Xl (n := s.owner) hz z.aj none (fun _ h => h) (fun m hm => by cases hm)
  change ∀ m, lg z s.owner = some m → bd m at hsm
  unfold Tryz.f130
  simp only [jq]
  unfold pa
  cases hc : lg z s.owner with
  | none =>
    simp only [↓wR, RA, simprocAttr, TF, ag, Ap, E0, hs.owner, hz, hc, Option.isSome_none]
    done
  | some c =>
    simp only [↓wR, RA, simprocAttr, TF, ag, Ap, E0, hs.owner, hz, hc]
    rw [c7]; refine ⟨fun ⟨h, e⟩ => ?_, fun ⟨h, e⟩ => ?_⟩
    · rw [if_pos e]
      simp only [↓wR, RA, simprocAttr, TF, ag, h]
    rw [if_neg e]
    simp only [↓wR, RA, simprocAttr, TF, ag, h]
    rw [c7]; refine ⟨fun ⟨h2, e2⟩ => ?_, fun ⟨h2, e2⟩ => ?_⟩
    · rw [if_pos e2]
      simp only [↓wR, RA, simprocAttr, TF, ag, h2]
    rw [if_neg e2]
    simp only [↓wR, RA, simprocAttr, TF, ag, h2]
    rw [c7]; refine ⟨fun ⟨h3, e3⟩ => ?_, fun ⟨h3, e3⟩ => ?_⟩
    · rw [if_pos e3]
      simp only [↓wR, RA, simprocAttr, TF, ag, h3, gi, hs.owner, hsm c hc]
    · rw [if_neg e3]
      simp only [↓wR, RA, simprocAttr, TF, ag, h3]
noncomputable def Lu (x : Int × bb × bf × Unit) : Option AV := if c8 x.2.1 ∧ cx x.2.2.1 then some ((r1 bo).E true (pa x.2.2.1 x.2.1)) else none
set_option maxRecDepth 2000000 in
theorem Wn (x : Int × bb × bf × Unit) (r : AV) (h : Lu x = some r) : bk PP 130 ((aC (bg .i64) (aC ah (aP cy a0))).E x) r := by
  by_cases hc : c8 x.2.1 ∧ cx x.2.2.1
  case neg => simp only [Lu, if_neg hc] at h; cases h
  simp only [Lu, if_pos hc] at h
  cases h
  exact be (aw.cons (aq Wc) (aw.cons (aq ee) (aw.nil PP))) Tryz.func130 (by kernel_rfl) (by kernel_rfl) (by kernel_rfl) (Nat.le_of_ble_eq_true (by kernel_rfl)) (r1 bo) true (pa x.2.2.1 x.2.1) (aus x.1 x.2.1 x.2.2.1 hc.1 hc.2)
noncomputable abbrev n6 : Nat × Bool × (List AV → M AV) := (130, true, dm (aC (bg .i64) (aC ah (aP cy a0))) Lu)
def jv (z : bf) (p : Nat × Nat) (s : bb) : Nat × Nat :=
  if (s.type.toNat : Int) = 6 then (p.1 + 1, if (dk s.owner z.origin && decide ((s.data.length : Int) = 1)) = true then p.2 + 1 else p.2) else p
def fy (z : bf) : Nat × Nat := z.aj.foldl (jv z) (0, 0)
theorem asw (k : tc) (hz : cx k.z) : wl PP [dg] 0 (Tryz.f125.body.getD .skip) (du PP Tryz.f125.results.toList (fun r st => (r2 (bg .i64) (bg .i64)).get true st.h r = some (((fy k.z).1 : Int), ((fy k.z).2 : Int)))) (cq 0 [.gn (lz.cells false k)]) (bm []) := by
  have hl := hz.len
  unfold Tryz.f125
  simp only [↓wR, RA, simprocAttr, TF, ag, Ah]
  refine bn (T := []) (aw.nil PP) mixed Tryz.func127 rfl (by kernel_rfl) (by kernel_rfl) (by kernel_rfl) (by kernel_rfl) ?_; unfold Tryz.f127
  simp only [↓wR, RA, simprocAttr, TF, ag]
  refine ⟨[1, 4, 5, 11], ?_⟩
  have hib : vc PP 154 = some (Tryz.f154.ntmps, Tryz.f154.body.getD .skip) := by kernel_rfl
  simp only [↓wR, RA, simprocAttr, TF, ag, hib]
  refine ⟨by kernel_rfl, fun l => ?_⟩
  unfold Tryz.f154
  simp only [↓wR, RA, simprocAttr, TF, ag]
  refine D4 [0, 2, 7, 8, 9] (fun (x : Nat × Nat × Nat) => [.sc (.func (.yield l) #[] #[]), .ptr 4 0, .vl false 5 (k.z.aj.map (ah.val false)), .sc (.int .i64 (k.z.aj.length)), .sc (.int .i64 (x.1))]) (fun x => [some (.row [.gn [.vl false 1 (k.z.origin.map (ak.val false)), .vl false 5 (k.z.aj.map (ah.val false)), .sc (.int .i64 (k.e))]] 0 2 178), some (.row [.sc (.int .i64 (x.2.1 : Int))] 0 2 3), some (.row [.sc (.int .i64 (x.2.2 : Int))] 0 2 3), some (.row [.vl false 1 (k.z.origin.map (ak.val false)), .vl false 5 (k.z.aj.map (ah.val false))] 0 2 26), some (.row [.sc (.int .u16 6)] 0 2 28)]) (fun x => x.1 ≤ k.z.aj.length ∧ x.2.1 ≤ x.1 ∧ x.2.2 ≤ x.1 ∧ fy k.z = (k.z.aj.drop x.1).foldl (jv k.z) x.2) (fun x => k.z.aj.length - x.1) (0, 0, 0) ⟨Nat.zero_le _, Nat.le_refl _, Nat.le_refl _, rfl⟩ (by simp only [↓wR, RA, simprocAttr, TF, ag] <;> rfl) (by simp only [↓wR, RA, simprocAttr, TF, ag] <;> rfl) ?_
  rintro ⟨i, n, m⟩ ⟨hi, hn, hm, hx⟩
  simp only at hi hn hm hx
  simp only [↓wR, RA, simprocAttr, TF, ag]
  rw [wh]; refine ⟨fun h => ?_, fun h => ?_⟩
  · obtain ⟨c, hc, hd1, hlt⟩ := ec h
    have hcs := hz.set c (List.mem_of_getElem? hc)
    have hstep : fy k.z = (k.z.aj.drop (i + 1)).foldl (jv k.z) (jv k.z (n, m) c) := by rw [hx, hd1]; rfl
    simp only [↓wR, RA, simprocAttr, TF, ag, h, hc]
    rw [wh]; refine ⟨fun h2 => ?_, fun h2 => ?_⟩
    · have e2 : (c.type.toNat : Int) = 6 := by simpa using h2
      simp only [↓wR, RA, simprocAttr, TF, ag, h2]
      refine yj [0, 2, 7, 8, 9, 17, 19] ?_
      simp only [↓wR, RA, simprocAttr, TF, ag, zc, nb]; repeat (simp (disch := omega) only [ai, cd, ca, cf, cb]; try simp only [↓wR, RA, simprocAttr, TF, ag, zc, nb])
      refine ⟨by kernel_rfl, .inl ?_⟩
      simp only [↓wR, RA, simprocAttr, TF, ag, gi, hcs.owner, hz.origin]
      have fin : ∀ q, jv k.z (n, m) c = (n + 1, q) → q ≤ i + 1 → fy k.z = (k.z.aj.drop (i + 1)).foldl (jv k.z) (n + 1, q) := fun q hq _ => by rw [hstep, hq]
      rw [cp]; refine ⟨fun h3 => ?_, fun h3 => ?_⟩
      · simp only [↓wR, RA, simprocAttr, TF, ag, h3]
        refine ⟨by kernel_rfl, ?_⟩
        rw [c7]; refine ⟨fun ⟨h4, e4⟩ => ?_, fun ⟨h4, e4⟩ => ?_⟩
        · have hq : jv k.z (n, m) c = (n + 1, m + 1) := by simp [jv, e2, h3, e4]
          simp only [↓wR, RA, simprocAttr, TF, ag, h4]; repeat (simp (disch := omega) only [ai, cd, ca, cf, cb]; try simp only [↓wR, RA, simprocAttr, TF, ag, h4])
          exact ⟨(i + 1, n + 1, m + 1), ⟨hlt, by simp; omega, by simp; omega, fin _ hq (by omega)⟩, by simp; omega, by (first | rfl | trivial | omega | ((try (simp (disch := omega) only [ai])); (try (simp only [FB])); first | done | rfl | omega)), by (first | rfl | trivial | omega | ((try (simp (disch := omega) only [ai])); (try (simp only [FB])); first | done | rfl | omega))⟩
        · have hq : jv k.z (n, m) c = (n + 1, m) := by simp [jv, e2, h3, e4]
          simp only [↓wR, RA, simprocAttr, TF, ag, h4]; repeat (simp (disch := omega) only [ai, cd, ca, cf, cb]; try simp only [↓wR, RA, simprocAttr, TF, ag, h4])
          exact ⟨(i + 1, n + 1, m), ⟨hlt, by simp; omega, by simp; omega, fin _ hq (by omega)⟩, by simp; omega, by (first | rfl | trivial | omega | ((try (simp (disch := omega) only [ai])); (try (simp only [FB])); first | done | rfl | omega)), by (first | rfl | trivial | omega | ((try (simp (disch := omega) only [ai])); (try (simp only [FB])); first | done | rfl | omega))⟩
      · have hq : jv k.z (n, m) c = (n + 1, m) := by simp [jv, e2, h3]
        simp only [↓wR, RA, simprocAttr, TF, ag, h3]
        refine ⟨by kernel_rfl, ?_⟩
        exact ⟨(i + 1, n + 1, m), ⟨hlt, by simp; omega, by simp; omega, fin _ hq (by omega)⟩, by simp; omega, by (first | rfl | trivial | omega | ((try (simp (disch := omega) only [ai])); (try (simp only [FB])); first | done | rfl | omega)), by (first | rfl | trivial | omega | ((try (simp (disch := omega) only [ai])); (try (simp only [FB])); first | done | rfl | omega))⟩
    · have e2 : ¬ (c.type.toNat : Int) = 6 := by simpa using h2
      have hb2 : jv k.z (n, m) c = (n, m) := by simp [jv, e2]
      rw [hb2] at hstep
      simp only [↓wR, RA, simprocAttr, TF, ag, h2]; repeat (simp (disch := omega) only [ai, cd, ca, cf, cb]; try simp only [↓wR, RA, simprocAttr, TF, ag, h2])
      exact ⟨(i + 1, n, m), ⟨hlt, by simp; omega, by simp; omega, hstep⟩, by simp; omega, by (first | rfl | trivial | omega | ((try (simp (disch := omega) only [ai])); (try (simp only [FB])); first | done | rfl | omega)), by (first | rfl | trivial | omega | ((try (simp (disch := omega) only [ai])); (try (simp only [FB])); first | done | rfl | omega))⟩
  · rw [fe h] at hx
    simp only [↓wR, RA, simprocAttr, TF, ag, h]
    refine ⟨by kernel_rfl, .inl ?_⟩
    refine ⟨by kernel_rfl, ?_⟩
    rw [hx]; rfl
noncomputable def Ku (x : tc × Unit) : Option AV := if cx x.1.z then some ((r2 (bg .i64) (bg .i64)).E true ((((fy x.1.z).1 : Int), ((fy x.1.z).2 : Int)))) else none
set_option maxRecDepth 2000000 in
theorem Tu (x : tc × Unit) (r : AV) (h : Ku x = some r) : bk PP 125 ((aP lz a0).E x) r := by
  by_cases hc : cx x.1.z
  case neg => simp only [Ku, if_neg hc] at h; cases h
  simp only [Ku, if_pos hc] at h
  cases h
  exact be (aw.cons (aq ee) (aw.nil PP)) Tryz.func125 (by kernel_rfl) (by kernel_rfl) (by kernel_rfl) (Nat.le_of_ble_eq_true (by kernel_rfl)) (r2 (bg .i64) (bg .i64)) true ((((fy x.1.z).1 : Int), ((fy x.1.z).2 : Int))) (asw x.1 hc)
noncomputable abbrev ko : Nat × Bool × (List AV → M AV) := (125, true, dm (aP lz a0) Ku)
end Go.Proofs.YtidomogemfchpaaGreat
end
section
set_option linter.unusedSimpArgs false
set_option linter.unusedVariables false
namespace Go.Proofs.YtidomogemfchpaaGreat
open Go.Vm
set_option maxRecDepth 2000000
def cw (b : Bool) (err e : Int) : Int := if e = 0 ∧ b = false then err else e
def fp (err : Int) (p : Nat → bb → Bool) : Nat → List bb → Int → Int
  | _, [], e => e
  | i, s :: r, e => if e ≠ 0 then e else fp err p (i + 1) r (cw (p i s) err e)
def ka (l : List bb) : Nat := l.foldl (fun n s => n + s.data.length) 0
noncomputable def A2 : List bb → Int → Int
  | [], e => e
  | s :: r, e => A2 r (if e = 0 then oo s else e)
noncomputable def ub (z : bf) : Int := if dn z.origin ≠ 0 then dn z.origin else A2 z.aj (cw (decide (ka z.aj ≤ 2048)) 3 0)
def Hl (z : bf) (l : List bb) : Bool := l.any fun s => decide ((s.type.toNat : Int) = 2) && dk s.owner z.origin
def gw (z : bf) : Bool := Hl z z.aj
theorem acj {z : bf} {l : List bb} {i : Nat} {c : bb} (h : l.drop i = c :: l.drop (i + 1)) : Hl z (l.drop i) = ((decide ((c.type.toNat : Int) = 2) && dk c.owner z.origin) || Hl z (l.drop (i + 1))) := by rw [h]; rfl
noncomputable def Sa (z : bf) : Int := fp 260 (j3 z) 0 z.aj (ub z)
noncomputable def Q3 (z : bf) : Int := fp 261 (fun _ s => mz s) 0 z.aj (Sa z)
noncomputable def qu (z : bf) : Int := fp 262 (fun _ s => dj s.owner z.origin) 0 z.aj (Q3 z)
noncomputable def l9 (z : bf) : Int := cw (decide ((fy z).1 = 1) && decide ((fy z).2 = 1)) 263 (qu z)
noncomputable def De (z : bf) : Int := cw (gw z) 264 (l9 z)
noncomputable def Ds (z : bf) : Int := fp 265 (i6 z) 0 z.aj (De z)
noncomputable def Lq (z : bf) : Int := fp 266 (fun _ s => kh s) 0 z.aj (Ds z)
noncomputable def asy (z : bf) : Int := fp 267 (fun _ s => pa z s) 0 z.aj (Lq z)
noncomputable def ib (z : bf) : Int := if ub z ≠ 0 then ub z else asy z
theorem abn (l : List bb) (i : Nat) (c : bb) (h : l[i]? = some c) : ka (l.take (i + 1)) = ka (l.take i) + c.data.length := by
  obtain ⟨hk, rfl⟩ := List.getElem?_eq_some_iff.1 h
  rw [List.take_succ_eq_append_getElem hk]; simp only [ka, List.foldl_append, List.foldl_cons, List.foldl_nil]
theorem Z0 (l : List bb) : ∀ k, l.foldl (fun n s => n + s.data.length) k ≤ k + gh nk l := by
  induction l with
  | nil => intro k; exact Nat.le_refl _
  | cons a l ih =>
    intro k
    have h1 := ih (k + a.data.length)
    have h2 := wi x5 a.data
    simp only [gh, List.foldr_cons, List.foldl_cons, nk] at h1 ⊢
    unfold gh at h2
    omega
theorem ahv (l : List bb) : ka l ≤ gh nk l := by have := Z0 l 0; unfold ka; omega
theorem ao8 {l : List bb} {i : Nat} {c : bb} (h : l.drop i = c :: l.drop (i + 1)) (e : Int) : A2 (l.drop i) e = A2 (l.drop (i + 1)) (if e = 0 then oo c else e) := by rw [h]; rfl
theorem s9 {l : List bb} {i : Nat} {c : bb} (h : l.drop i = c :: l.drop (i + 1)) (err : Int) (p : Nat → bb → Bool) (e : Int) : fp err p i (l.drop i) e = if e ≠ 0 then e else fp err p (i + 1) (l.drop (i + 1)) (cw (p i c) err e) := by rw [h]; rfl
set_option maxHeartbeats 4000000 in
theorem Zn (z : bf) (hz : cx z) : wl PP [dz, dg, gj, ji, jg, jh, ic, ki, n6, ko] 0 (Tryz.f82.body.getD .skip) (du PP Tryz.f82.results.toList (fun r st => (r1 (bg .i64)).get true st.h r = some (ib z))) (cq 0 [cy.val false z]) (bm []) := by
  have hl := hz.len
  have ok : aw PP [dz, dg, gj, ji, jg, jh, ic, ki, n6, ko] := aw.cons (aq pn) (aw.cons (aq ee) (aw.cons (aq Il) (aw.cons (aq Mw) (aw.cons (aq Ny) (aw.cons (aq Oi) (aw.cons (aq J1) (aw.cons (aq Q7) (aw.cons (aq Wn) (aw.cons (aq Tu) (aw.nil PP))))))))))
  unfold Tryz.f82
  simp only [iz]
  simp only [↓wR, RA, simprocAttr, TF, ag]
  refine dr (fun r st' => r = .fg [] ∧ st' = bm [some (.row [.vl false 1 (z.origin.map (ak.val false)), .vl false 5 (z.aj.map (ah.val false))] 0 2 26), some (.row [.vl false 1 (z.origin.map (ak.val false)), .vl false 5 (z.aj.map (ah.val false)), .sc (.int .i64 (ub z))] 0 2 180)]) rfl ?_ ?_
  · refine bn (T := [dz, dg, gj, ji, jg, jh, ic, ki, n6, ko]) ok mixed Tryz.func120 rfl (by kernel_rfl) (by kernel_rfl) (by kernel_rfl) (by kernel_rfl) ?_; unfold Tryz.f120
    simp only [↓wR, RA, simprocAttr, TF, ag, nv, hz.origin.fit]
    unfold ub
    rw [cp]; refine ⟨fun h => ?_, fun h => ?_⟩
    · have he : dn z.origin ≠ 0 := by simpa using h
      rw [if_pos he]
      simp only [↓wR, RA, simprocAttr, TF, ag, h, ik, g8, gz]
    have he : dn z.origin = 0 := by simpa using h
    rw [if_neg (by omega)]
    simp only [↓wR, RA, simprocAttr, TF, ag, h, he]
    refine dy [0, 2, 25, 26, 27] (fun (i : Nat) => [.ptr 1 0, .sc (.int .i64 (ka (z.aj.take i))), .vl false 5 (z.aj.map (ah.val false)), .sc (.int .i64 (z.aj.length)), .sc (.int .i64 (i))]) (fun _ => [some (.row [.vl false 1 (z.origin.map (ak.val false)), .vl false 5 (z.aj.map (ah.val false))] 0 2 26), some (.row [.vl false 1 (z.origin.map (ak.val false)), .vl false 5 (z.aj.map (ah.val false)), .sc (.int .i64 (0))] 0 2 180)]) (fun i => i ≤ z.aj.length) (fun i => z.aj.length - i) 0 (Nat.zero_le _) (by simp only [↓wR, RA, simprocAttr, TF, ag] <;> rfl) (by simp only [↓wR, RA, simprocAttr, TF, ag] <;> rfl) ?_
    clear h
    intro i hi
    have hsum := ahv (z.aj.take i)
    have hsum2 := acs nk z.aj i
    have hzz : gh nk z.aj ≤ 16777216 := by unfold cx Nu at hz; omega
    simp only [↓wR, RA, simprocAttr, TF, ag]
    rw [b9]; refine ⟨fun h => ?_, fun h => ?_⟩
    · obtain ⟨c, hc, hd1, hlt⟩ := ec (decide_eq_true h)
      have hst := abn z.aj i c hc
      have hcl := (hz.set c (List.mem_of_getElem? hc)).data.len
      simp only [↓wR, RA, simprocAttr, TF, ag, h, hc]; repeat (simp (disch := omega) only [ai, cd, ca, cf, cb]; try simp only [↓wR, RA, simprocAttr, TF, ag, h, hc])
      exact ⟨i + 1, hlt, by omega, by rw [hst]; (first | rfl | trivial | omega | ((try (simp (disch := omega) only [ai])); (try (simp only [FB])); first | done | rfl | omega))⟩
    have hin : i = z.aj.length := by omega
    rw [hin, List.take_length] at hsum ⊢
    simp only [↓wR, RA, simprocAttr, TF, ag, h]
    have hd : decide ((ka z.aj : Int) ≤ 2048) = decide (ka z.aj ≤ 2048) := by rw [decide_eq_decide]; omega
    rw [hd]
    refine dr (fun r st' => r = .fg [] ∧ st' = bm [some (.row [.vl false 1 (z.origin.map (ak.val false)), .vl false 5 (z.aj.map (ah.val false))] 0 2 26), some (.row [.vl false 1 (z.origin.map (ak.val false)), .vl false 5 (z.aj.map (ah.val false)), .sc (.int .i64 (cw (decide (ka z.aj ≤ 2048)) 3 (0)))] 0 2 180)]) rfl ?_ ?_
    · refine bn (T := [dz, dg, gj, ji, jg, jh, ic, ki, n6, ko]) ok mixed Tryz.func126 rfl (by kernel_rfl) (by kernel_rfl) (by kernel_rfl) (by kernel_rfl) ?_; unfold Tryz.f126
      simp only [↓wR, RA, simprocAttr, TF, ag]
      rw [cp]; refine ⟨fun hn2 => ?_, fun hn2 => ?_⟩
      · have hb : (decide (ka z.aj ≤ 2048)) = false := by simpa only [Bool.not_eq_true'] using hn2
        have hv : cw (decide (ka z.aj ≤ 2048)) 3 (0) = 3 := by unfold cw; rw [if_pos ⟨rfl, hb⟩]
        simp only [↓wR, RA, simprocAttr, TF, ag, hn2, ik, g8, gz]
        try rw [hv]
      · have hb : (decide (ka z.aj ≤ 2048)) = true := by simpa only [Bool.not_eq_false'] using hn2
        have hv : cw (decide (ka z.aj ≤ 2048)) 3 (0) = 0 := by unfold cw; rw [if_neg (fun q => by rw [hb] at q; cases q.2)]
        simp only [↓wR, RA, simprocAttr, TF, ag, hn2, ik, g8, gz]
        try rw [hv]
    rintro _ _ ⟨rfl, rfl⟩
    simp only [↓wR, RA, simprocAttr, TF, ag, gk]
    refine dy [0, 45, 46, 47] (fun (x : Nat × Int) => [.ptr 1 0, .vl false 5 (z.aj.map (ah.val false)), .sc (.int .i64 (z.aj.length)), .sc (.int .i64 (x.1))]) (fun x => [some (.row [.vl false 1 (z.origin.map (ak.val false)), .vl false 5 (z.aj.map (ah.val false))] 0 2 26), some (.row [.vl false 1 (z.origin.map (ak.val false)), .vl false 5 (z.aj.map (ah.val false)), .sc (.int .i64 (x.2))] 0 2 180)]) (fun x => x.1 ≤ z.aj.length ∧ A2 z.aj (cw (decide (ka z.aj ≤ 2048)) 3 0) = A2 (z.aj.drop x.1) x.2) (fun x => z.aj.length - x.1) (0, cw (decide (ka z.aj ≤ 2048)) 3 0) ⟨Nat.zero_le _, rfl⟩ (by simp only [↓wR, RA, simprocAttr, TF, ag] <;> rfl) (by simp only [↓wR, RA, simprocAttr, TF, ag] <;> rfl) ?_
    clear h hi hin hd
    rintro ⟨i, e⟩ ⟨hi, hx⟩
    simp only at hi hx
    simp only [↓wR, RA, simprocAttr, TF, ag]
    rw [b9]; refine ⟨fun h => ?_, fun h => ?_⟩
    · obtain ⟨c, hc, hd1, hlt⟩ := ec (decide_eq_true h)
      rw [ao8 hd1] at hx
      have hcs := hz.set c (List.mem_of_getElem? hc)
      simp only [↓wR, RA, simprocAttr, TF, ag, h, hc]
      rw [c7]; refine ⟨fun ⟨h1, e1⟩ => ?_, fun ⟨h1, e1⟩ => ?_⟩
      · rw [if_pos e1] at hx
        simp only [↓wR, RA, simprocAttr, TF, ag, h1, xq, hcs]; repeat (simp (disch := omega) only [ai, cd, ca, cf, cb]; try simp only [↓wR, RA, simprocAttr, TF, ag, h1, xq, hcs])
        exact ⟨(i + 1, oo c), ⟨hlt, hx⟩, by simp; omega, by (first | rfl | trivial | omega | ((try (simp (disch := omega) only [ai])); (try (simp only [FB])); first | done | rfl | omega)), by (first | rfl | trivial | omega | ((try (simp (disch := omega) only [ai])); (try (simp only [FB])); first | done | rfl | omega))⟩
      · rw [if_neg e1] at hx
        simp only [↓wR, RA, simprocAttr, TF, ag, h1]; repeat (simp (disch := omega) only [ai, cd, ca, cf, cb]; try simp only [↓wR, RA, simprocAttr, TF, ag, h1])
        exact ⟨(i + 1, e), ⟨hlt, hx⟩, by simp; omega, by (first | rfl | trivial | omega | ((try (simp (disch := omega) only [ai])); (try (simp only [FB])); first | done | rfl | omega)), by (first | rfl | trivial | omega | ((try (simp (disch := omega) only [ai])); (try (simp only [FB])); first | done | rfl | omega))⟩
    · rw [fe (decide_eq_false h)] at hx
      simp only [↓wR, RA, simprocAttr, TF, ag, h, ik, g8, gz]
      rw [hx]; rfl
  rintro _ _ ⟨rfl, rfl⟩
  simp only [↓wR, RA, simprocAttr, TF, ag, gk]
  unfold ib
  rw [cp]; refine ⟨fun h => ?_, fun h => ?_⟩
  · have he : ub z ≠ 0 := by simpa using h
    rw [if_pos he]
    simp only [↓wR, RA, simprocAttr, TF, ag, h]
  have he : ub z = 0 := by simpa using h
  rw [if_neg (by omega)]
  simp only [↓wR, RA, simprocAttr, TF, ag, h]
  clear h he
  obtain ⟨e0, he0⟩ : ∃ e0, ub z = e0 := ⟨_, rfl⟩
  rw [he0]
  refine dr (fun r st' => r = .fg [] ∧ st' = bm [some (.row [.vl false 1 (z.origin.map (ak.val false)), .vl false 5 (z.aj.map (ah.val false))] 0 2 26), some (.row [.vl false 1 (z.origin.map (ak.val false)), .vl false 5 (z.aj.map (ah.val false)), .sc (.int .i64 (fp 260 (j3 z) 0 z.aj e0))] 0 2 180)]) rfl ?_ ?_
  · refine bn (T := [dz, dg, gj, ji, jg, jh, ic, ki, n6, ko]) ok mixed Tryz.func121 rfl (by kernel_rfl) (by kernel_rfl) (by kernel_rfl) (by kernel_rfl) ?_; unfold Tryz.f121
    simp only [↓wR, RA, simprocAttr, TF, ag]
    refine dy [0, 1, 2, 12, 13, 14] (fun (x : Nat × Int) => [.ptr 1 0, .sc (.int .i64 (260)), .fn (.func 122) [.ptr 1 0] [], .vl false 5 (z.aj.map (ah.val false)), .sc (.int .i64 (z.aj.length)), .sc (.int .i64 (x.1))]) (fun x => [some (.row [.vl false 1 (z.origin.map (ak.val false)), .vl false 5 (z.aj.map (ah.val false))] 0 2 26), some (.row [.vl false 1 (z.origin.map (ak.val false)), .vl false 5 (z.aj.map (ah.val false)), .sc (.int .i64 (x.2))] 0 2 180)]) (fun x => x.1 ≤ z.aj.length ∧ fp 260 (j3 z) 0 z.aj e0 = fp 260 (j3 z) x.1 (z.aj.drop x.1) x.2) (fun x => z.aj.length - x.1) (0, e0) ⟨Nat.zero_le _, rfl⟩ (by simp only [↓wR, RA, simprocAttr, TF, ag] <;> rfl) (by simp only [↓wR, RA, simprocAttr, TF, ag] <;> rfl) ?_
    rintro ⟨i, e⟩ ⟨hi, hx⟩
    simp only at hi hx
    simp only [↓wR, RA, simprocAttr, TF, ag]
    rw [b9]; refine ⟨fun h => ?_, fun h => ?_⟩
    · obtain ⟨c, hc, hd1, hlt⟩ := ec (decide_eq_true h)
      rw [s9 hd1] at hx
      have hcs := hz.set c (List.mem_of_getElem? hc)
      have hi2 : (0 : Int) ≤ i ∧ (i : Int) ≤ z.aj.length := by omega
      simp only [↓wR, RA, simprocAttr, TF, ag, h, hc]
      rw [gv]; refine ⟨fun ⟨h1, e1⟩ => ?_, fun ⟨h1, e1⟩ => ?_⟩
      · rw [if_pos e1] at hx
        simp only [↓wR, RA, simprocAttr, TF, ag, h1, ik, g8, gz]
        rw [hx]
      · rw [if_neg (by omega)] at hx
        simp only [↓wR, RA, simprocAttr, TF, ag, h1, hcs, hz, hi2, Gy]
        refine dr (fun r st' => r = .fg [] ∧ st' = bm [some (.row [.vl false 1 (z.origin.map (ak.val false)), .vl false 5 (z.aj.map (ah.val false))] 0 2 26), some (.row [.vl false 1 (z.origin.map (ak.val false)), .vl false 5 (z.aj.map (ah.val false)), .sc (.int .i64 (cw ((j3 z) i c) 260 e))] 0 2 180), some (.row [.vl false 1 (c.owner.map (ak.val false)), .sc (.int .u16 c.type.toNat), .sc (.int .u16 c.cls.toNat), .sc (.int .u32 c.n9.toNat), .vl false 4 (c.data.map (bq.val false))] 0 2 40)]) rfl ?_ ?_
        · refine bn (T := [dz, dg, gj, ji, jg, jh, ic, ki, n6, ko]) ok mixed Tryz.func126 rfl (by kernel_rfl) (by kernel_rfl) (by kernel_rfl) (by kernel_rfl) ?_; unfold Tryz.f126
          simp only [↓wR, RA, simprocAttr, TF, ag, e1]
          rw [cp]; refine ⟨fun hn2 => ?_, fun hn2 => ?_⟩
          · have hb : ((j3 z) i c) = false := by simpa only [Bool.not_eq_true'] using hn2
            have hv : cw ((j3 z) i c) 260 0 = 260 := by unfold cw; rw [if_pos ⟨rfl, hb⟩]
            simp only [↓wR, RA, simprocAttr, TF, ag, hn2, ik, g8, gz]
            try rw [hv]
          · have hb : ((j3 z) i c) = true := by simpa only [Bool.not_eq_false'] using hn2
            have hv : cw ((j3 z) i c) 260 0 = 0 := by unfold cw; rw [if_neg (fun q => by rw [hb] at q; cases q.2)]
            simp only [↓wR, RA, simprocAttr, TF, ag, hn2, ik, g8, gz]
            try rw [hv]
        rintro _ _ ⟨rfl, rfl⟩
        simp only [↓wR, RA, simprocAttr, TF, ag, gk]; repeat (simp (disch := omega) only [ai, cd, ca, cf, cb]; try simp only [↓wR, RA, simprocAttr, TF, ag, gk])
        exact ⟨(i + 1, cw ((j3 z) i c) 260 e), ⟨hlt, hx⟩, by simp; omega, by (first | rfl | trivial | omega | ((try (simp (disch := omega) only [ai])); (try (simp only [FB])); first | done | rfl | omega)), by (first | rfl | trivial | omega | ((try (simp (disch := omega) only [ai])); (try (simp only [FB])); first | done | rfl | omega))⟩
    · rw [fe (decide_eq_false h)] at hx
      simp only [↓wR, RA, simprocAttr, TF, ag, h, ik, g8, gz]
      rw [hx]; rfl
  rintro _ _ ⟨rfl, rfl⟩
  rw [← he0]
  clear he0
  simp only [↓wR, RA, simprocAttr, TF, ag, gk]
  rw [show fp 260 (j3 z) 0 z.aj (ub z) = Sa z from rfl]
  obtain ⟨e0, he0⟩ : ∃ e0, Sa z = e0 := ⟨_, rfl⟩
  rw [he0]
  refine dr (fun r st' => r = .fg [] ∧ st' = bm [some (.row [.vl false 1 (z.origin.map (ak.val false)), .vl false 5 (z.aj.map (ah.val false))] 0 2 26), some (.row [.vl false 1 (z.origin.map (ak.val false)), .vl false 5 (z.aj.map (ah.val false)), .sc (.int .i64 (fp 261 (fun _ s => mz s) 0 z.aj e0))] 0 2 180)]) rfl ?_ ?_
  · refine bn (T := [dz, dg, gj, ji, jg, jh, ic, ki, n6, ko]) ok mixed Tryz.func121 rfl (by kernel_rfl) (by kernel_rfl) (by kernel_rfl) (by kernel_rfl) ?_; unfold Tryz.f121
    simp only [↓wR, RA, simprocAttr, TF, ag]
    refine dy [0, 1, 2, 12, 13, 14] (fun (x : Nat × Int) => [.ptr 1 0, .sc (.int .i64 (261)), .sc (.func (.func 123) #[] #[]), .vl false 5 (z.aj.map (ah.val false)), .sc (.int .i64 (z.aj.length)), .sc (.int .i64 (x.1))]) (fun x => [some (.row [.vl false 1 (z.origin.map (ak.val false)), .vl false 5 (z.aj.map (ah.val false))] 0 2 26), some (.row [.vl false 1 (z.origin.map (ak.val false)), .vl false 5 (z.aj.map (ah.val false)), .sc (.int .i64 (x.2))] 0 2 180)]) (fun x => x.1 ≤ z.aj.length ∧ fp 261 (fun _ s => mz s) 0 z.aj e0 = fp 261 (fun _ s => mz s) x.1 (z.aj.drop x.1) x.2) (fun x => z.aj.length - x.1) (0, e0) ⟨Nat.zero_le _, rfl⟩ (by simp only [↓wR, RA, simprocAttr, TF, ag] <;> rfl) (by simp only [↓wR, RA, simprocAttr, TF, ag] <;> rfl) ?_
    rintro ⟨i, e⟩ ⟨hi, hx⟩
    simp only at hi hx
    simp only [↓wR, RA, simprocAttr, TF, ag]
    rw [b9]; refine ⟨fun h => ?_, fun h => ?_⟩
    · obtain ⟨c, hc, hd1, hlt⟩ := ec (decide_eq_true h)
      rw [s9 hd1] at hx
      have hcs := hz.set c (List.mem_of_getElem? hc)
      have hi2 : (0 : Int) ≤ i ∧ (i : Int) ≤ z.aj.length := by omega
      simp only [↓wR, RA, simprocAttr, TF, ag, h, hc]
      rw [gv]; refine ⟨fun ⟨h1, e1⟩ => ?_, fun ⟨h1, e1⟩ => ?_⟩
      · rw [if_pos e1] at hx
        simp only [↓wR, RA, simprocAttr, TF, ag, h1, ik, g8, gz]
        rw [hx]
      · rw [if_neg (by omega)] at hx
        simp only [↓wR, RA, simprocAttr, TF, ag, h1, hcs, hz, hi2, Uo]
        refine dr (fun r st' => r = .fg [] ∧ st' = bm [some (.row [.vl false 1 (z.origin.map (ak.val false)), .vl false 5 (z.aj.map (ah.val false))] 0 2 26), some (.row [.vl false 1 (z.origin.map (ak.val false)), .vl false 5 (z.aj.map (ah.val false)), .sc (.int .i64 (cw ((fun _ s => mz s) i c) 261 e))] 0 2 180), some (.row [.vl false 1 (c.owner.map (ak.val false)), .sc (.int .u16 c.type.toNat), .sc (.int .u16 c.cls.toNat), .sc (.int .u32 c.n9.toNat), .vl false 4 (c.data.map (bq.val false))] 0 2 40)]) rfl ?_ ?_
        · refine bn (T := [dz, dg, gj, ji, jg, jh, ic, ki, n6, ko]) ok mixed Tryz.func126 rfl (by kernel_rfl) (by kernel_rfl) (by kernel_rfl) (by kernel_rfl) ?_; unfold Tryz.f126
          simp only [↓wR, RA, simprocAttr, TF, ag, e1]
          rw [cp]; refine ⟨fun hn2 => ?_, fun hn2 => ?_⟩
          · have hb : ((fun _ s => mz s) i c) = false := by simpa only [Bool.not_eq_true'] using hn2
            have hv : cw ((fun _ s => mz s) i c) 261 0 = 261 := by unfold cw; rw [if_pos ⟨rfl, hb⟩]
            simp only [↓wR, RA, simprocAttr, TF, ag, hn2, ik, g8, gz]
            try rw [hv]
          · have hb : ((fun _ s => mz s) i c) = true := by simpa only [Bool.not_eq_false'] using hn2
            have hv : cw ((fun _ s => mz s) i c) 261 0 = 0 := by unfold cw; rw [if_neg (fun q => by rw [hb] at q; cases q.2)]
            simp only [↓wR, RA, simprocAttr, TF, ag, hn2, ik, g8, gz]
            try rw [hv]
        rintro _ _ ⟨rfl, rfl⟩
        simp only [↓wR, RA, simprocAttr, TF, ag, gk]; repeat (simp (disch := omega) only [ai, cd, ca, cf, cb]; try simp only [↓wR, RA, simprocAttr, TF, ag, gk])
        exact ⟨(i + 1, cw ((fun _ s => mz s) i c) 261 e), ⟨hlt, hx⟩, by simp; omega, by (first | rfl | trivial | omega | ((try (simp (disch := omega) only [ai])); (try (simp only [FB])); first | done | rfl | omega)), by (first | rfl | trivial | omega | ((try (simp (disch := omega) only [ai])); (try (simp only [FB])); first | done | rfl | omega))⟩
    · rw [fe (decide_eq_false h)] at hx
      simp only [↓wR, RA, simprocAttr, TF, ag, h, ik, g8, gz]
      rw [hx]; rfl
  rintro _ _ ⟨rfl, rfl⟩
  rw [← he0]
  clear he0
  simp only [↓wR, RA, simprocAttr, TF, ag, gk]
  rw [show fp 261 (fun _ s => mz s) 0 z.aj (Sa z) = Q3 z from rfl]
  obtain ⟨e0, he0⟩ : ∃ e0, Q3 z = e0 := ⟨_, rfl⟩
  rw [he0]
  refine dr (fun r st' => r = .fg [] ∧ st' = bm [some (.row [.vl false 1 (z.origin.map (ak.val false)), .vl false 5 (z.aj.map (ah.val false))] 0 2 26), some (.row [.vl false 1 (z.origin.map (ak.val false)), .vl false 5 (z.aj.map (ah.val false)), .sc (.int .i64 (fp 262 (fun _ s => dj s.owner z.origin) 0 z.aj e0))] 0 2 180)]) rfl ?_ ?_
  · refine bn (T := [dz, dg, gj, ji, jg, jh, ic, ki, n6, ko]) ok mixed Tryz.func121 rfl (by kernel_rfl) (by kernel_rfl) (by kernel_rfl) (by kernel_rfl) ?_; unfold Tryz.f121
    simp only [↓wR, RA, simprocAttr, TF, ag]
    refine dy [0, 1, 2, 12, 13, 14] (fun (x : Nat × Int) => [.ptr 1 0, .sc (.int .i64 (262)), .fn (.func 124) [] [.ptr 0 0], .vl false 5 (z.aj.map (ah.val false)), .sc (.int .i64 (z.aj.length)), .sc (.int .i64 (x.1))]) (fun x => [some (.row [.vl false 1 (z.origin.map (ak.val false)), .vl false 5 (z.aj.map (ah.val false))] 0 2 26), some (.row [.vl false 1 (z.origin.map (ak.val false)), .vl false 5 (z.aj.map (ah.val false)), .sc (.int .i64 (x.2))] 0 2 180)]) (fun x => x.1 ≤ z.aj.length ∧ fp 262 (fun _ s => dj s.owner z.origin) 0 z.aj e0 = fp 262 (fun _ s => dj s.owner z.origin) x.1 (z.aj.drop x.1) x.2) (fun x => z.aj.length - x.1) (0, e0) ⟨Nat.zero_le _, rfl⟩ (by simp only [↓wR, RA, simprocAttr, TF, ag] <;> rfl) (by simp only [↓wR, RA, simprocAttr, TF, ag] <;> rfl) ?_
    rintro ⟨i, e⟩ ⟨hi, hx⟩
    simp only at hi hx
    simp only [↓wR, RA, simprocAttr, TF, ag]
    rw [b9]; refine ⟨fun h => ?_, fun h => ?_⟩
    · obtain ⟨c, hc, hd1, hlt⟩ := ec (decide_eq_true h)
      rw [s9 hd1] at hx
      have hcs := hz.set c (List.mem_of_getElem? hc)
      have hi2 : (0 : Int) ≤ i ∧ (i : Int) ≤ z.aj.length := by omega
      simp only [↓wR, RA, simprocAttr, TF, ag, h, hc]
      rw [gv]; refine ⟨fun ⟨h1, e1⟩ => ?_, fun ⟨h1, e1⟩ => ?_⟩
      · rw [if_pos e1] at hx
        simp only [↓wR, RA, simprocAttr, TF, ag, h1, ik, g8, gz]
        rw [hx]
      · rw [if_neg (by omega)] at hx
        simp only [↓wR, RA, simprocAttr, TF, ag, h1, hcs, hz, hi2, C1]
        refine dr (fun r st' => r = .fg [] ∧ st' = bm [some (.row [.vl false 1 (z.origin.map (ak.val false)), .vl false 5 (z.aj.map (ah.val false))] 0 2 26), some (.row [.vl false 1 (z.origin.map (ak.val false)), .vl false 5 (z.aj.map (ah.val false)), .sc (.int .i64 (cw ((fun _ s => dj s.owner z.origin) i c) 262 e))] 0 2 180), some (.row [.vl false 1 (c.owner.map (ak.val false)), .sc (.int .u16 c.type.toNat), .sc (.int .u16 c.cls.toNat), .sc (.int .u32 c.n9.toNat), .vl false 4 (c.data.map (bq.val false))] 0 2 40)]) rfl ?_ ?_
        · refine bn (T := [dz, dg, gj, ji, jg, jh, ic, ki, n6, ko]) ok mixed Tryz.func126 rfl (by kernel_rfl) (by kernel_rfl) (by kernel_rfl) (by kernel_rfl) ?_; unfold Tryz.f126
          simp only [↓wR, RA, simprocAttr, TF, ag, e1]
          rw [cp]; refine ⟨fun hn2 => ?_, fun hn2 => ?_⟩
          · have hb : ((fun _ s => dj s.owner z.origin) i c) = false := by simpa only [Bool.not_eq_true'] using hn2
            have hv : cw ((fun _ s => dj s.owner z.origin) i c) 262 0 = 262 := by unfold cw; rw [if_pos ⟨rfl, hb⟩]
            simp only [↓wR, RA, simprocAttr, TF, ag, hn2, ik, g8, gz]
            try rw [hv]
          · have hb : ((fun _ s => dj s.owner z.origin) i c) = true := by simpa only [Bool.not_eq_false'] using hn2
            have hv : cw ((fun _ s => dj s.owner z.origin) i c) 262 0 = 0 := by unfold cw; rw [if_neg (fun q => by rw [hb] at q; cases q.2)]
            simp only [↓wR, RA, simprocAttr, TF, ag, hn2, ik, g8, gz]
            try rw [hv]
        rintro _ _ ⟨rfl, rfl⟩
        simp only [↓wR, RA, simprocAttr, TF, ag, gk]; repeat (simp (disch := omega) only [ai, cd, ca, cf, cb]; try simp only [↓wR, RA, simprocAttr, TF, ag, gk])
        exact ⟨(i + 1, cw ((fun _ s => dj s.owner z.origin) i c) 262 e), ⟨hlt, hx⟩, by simp; omega, by (first | rfl | trivial | omega | ((try (simp (disch := omega) only [ai])); (try (simp only [FB])); first | done | rfl | omega)), by (first | rfl | trivial | omega | ((try (simp (disch := omega) only [ai])); (try (simp only [FB])); first | done | rfl | omega))⟩
    · rw [fe (decide_eq_false h)] at hx
      simp only [↓wR, RA, simprocAttr, TF, ag, h, ik, g8, gz]
      rw [hx]; rfl
  rintro _ _ ⟨rfl, rfl⟩
  rw [← he0]
  clear he0
  simp only [↓wR, RA, simprocAttr, TF, ag, gk, Ku, hz]
  rw [show fp 262 (fun _ s => dj s.owner z.origin) 0 z.aj (Q3 z) = qu z from rfl]
  rw [c7]; refine ⟨fun ⟨hs1, es1⟩ => ?_, fun ⟨hs1, es1⟩ => ?_⟩
  · simp only [↓wR, RA, simprocAttr, TF, ag, hs1]
    rw [show (((fy z).2 : Int) == 1) = (decide ((fy z).1 = 1) && decide ((fy z).2 = 1)) from by rw [decide_eq_true (show (fy z).1 = 1 by omega), Bool.true_and, Bool.eq_iff_iff]; simp; omega]
    refine dr (fun r st' => r = .fg [] ∧ st' = bm [some (.row [.vl false 1 (z.origin.map (ak.val false)), .vl false 5 (z.aj.map (ah.val false))] 0 2 26), some (.row [.vl false 1 (z.origin.map (ak.val false)), .vl false 5 (z.aj.map (ah.val false)), .sc (.int .i64 (cw (decide ((fy z).1 = 1) && decide ((fy z).2 = 1)) 263 (qu z)))] 0 2 180)]) rfl ?_ ?_
    · refine bn (T := [dz, dg, gj, ji, jg, jh, ic, ki, n6, ko]) ok mixed Tryz.func126 rfl (by kernel_rfl) (by kernel_rfl) (by kernel_rfl) (by kernel_rfl) ?_; unfold Tryz.f126
      simp only [↓wR, RA, simprocAttr, TF, ag]
      rw [c7]; refine ⟨fun ⟨hn1, en1⟩ => ?_, fun ⟨hn1, en1⟩ => ?_⟩
      · simp only [↓wR, RA, simprocAttr, TF, ag, hn1]
        rw [cp]; refine ⟨fun hn2 => ?_, fun hn2 => ?_⟩
        · have hb : (decide ((fy z).1 = 1) && decide ((fy z).2 = 1)) = false := by simpa only [Bool.not_eq_true'] using hn2
          have hv : cw (decide ((fy z).1 = 1) && decide ((fy z).2 = 1)) 263 (qu z) = 263 := by unfold cw; rw [if_pos ⟨en1, hb⟩]
          simp only [↓wR, RA, simprocAttr, TF, ag, hn1, hn2, ik, g8, gz]
          try rw [hv]
        · have hb : (decide ((fy z).1 = 1) && decide ((fy z).2 = 1)) = true := by simpa only [Bool.not_eq_false'] using hn2
          have hv : cw (decide ((fy z).1 = 1) && decide ((fy z).2 = 1)) 263 (qu z) = qu z := by unfold cw; rw [if_neg (fun q => by rw [hb] at q; cases q.2)]
          simp only [↓wR, RA, simprocAttr, TF, ag, hn1, hn2, ik, g8, gz]
          try rw [hv]
      · have hv : cw (decide ((fy z).1 = 1) && decide ((fy z).2 = 1)) 263 (qu z) = qu z := by unfold cw; rw [if_neg (fun q => en1 q.1)]
        simp only [↓wR, RA, simprocAttr, TF, ag, hn1, ik, g8, gz]
        try rw [hv]
    rintro _ _ ⟨rfl, rfl⟩
    rw [show cw (decide ((fy z).1 = 1) && decide ((fy z).2 = 1)) 263 (qu z) = l9 z from rfl]
    simp only [↓wR, RA, simprocAttr, TF, ag, gk]
    refine bn (T := []) (aw.nil PP) mixed Tryz.func127 rfl (by kernel_rfl) (by kernel_rfl) (by kernel_rfl) (by kernel_rfl) ?_; unfold Tryz.f127
    simp only [↓wR, RA, simprocAttr, TF, ag]
    refine ⟨[1, 3, 6, 45], ?_⟩
    have hib : vc PP 154 = some (Tryz.f154.ntmps, Tryz.f154.body.getD .skip) := by kernel_rfl
    simp only [↓wR, RA, simprocAttr, TF, ag, hib]
    refine ⟨by kernel_rfl, fun l => ?_⟩
    unfold Tryz.f154
    simp only [↓wR, RA, simprocAttr, TF, ag]
    refine D4 [0, 2, 7, 8, 9] (fun (x : Nat × Bool) => [.sc (.func (.yield l) #[] #[]), .ptr 4 0, .vl false 5 (z.aj.map (ah.val false)), .sc (.int .i64 (z.aj.length)), .sc (.int .i64 (x.1))]) (fun x => [some (.row [.vl false 1 (z.origin.map (ak.val false)), .vl false 5 (z.aj.map (ah.val false))] 0 2 26), some (.row [.vl false 1 (z.origin.map (ak.val false)), .vl false 5 (z.aj.map (ah.val false)), .sc (.int .i64 (l9 z))] 0 2 180), some (.row [.sc (.bool (x.2))] 0 2 4), some (.row [.vl false 1 (z.origin.map (ak.val false)), .vl false 5 (z.aj.map (ah.val false))] 0 2 26), some (.row [.sc (.int .u16 2)] 0 2 28)]) (fun x => x.1 ≤ z.aj.length ∧ gw z = (x.2 || Hl z (z.aj.drop x.1))) (fun x => z.aj.length - x.1) (0, false) ⟨Nat.zero_le _, by rw [Bool.false_or]; rfl⟩ (by simp only [↓wR, RA, simprocAttr, TF, ag] <;> rfl) (by simp only [↓wR, RA, simprocAttr, TF, ag] <;> rfl) ?_
    rintro ⟨i, b⟩ ⟨hi, hx⟩
    simp only at hi hx
    simp only [↓wR, RA, simprocAttr, TF, ag]
    rw [wh]; refine ⟨fun h => ?_, fun h => ?_⟩
    · obtain ⟨c, hc, hd1, hlt⟩ := ec h
      have hcs := hz.set c (List.mem_of_getElem? hc)
      rw [acj hd1] at hx
      simp only [↓wR, RA, simprocAttr, TF, ag, h, hc]
      rw [wh]; refine ⟨fun h2 => ?_, fun h2 => ?_⟩
      · have e2 : (c.type.toNat : Int) = 2 := by simpa using h2
        rw [decide_eq_true e2, Bool.true_and] at hx
        simp only [↓wR, RA, simprocAttr, TF, ag, h2]
        refine yj [0, 2, 7, 8, 9, 17, 19] ?_
        simp only [↓wR, RA, simprocAttr, TF, ag, zc, nb]
        cases b with
        | true =>
          simp only [↓wR, RA, simprocAttr, TF, ag]; repeat (simp (disch := omega) only [ai, cd, ca, cf, cb]; try simp only [↓wR, RA, simprocAttr, TF, ag])
          exact ⟨(i + 1, true), ⟨hlt, by rw [hx]; rfl⟩, by simp; omega, by (first | rfl | trivial | omega | ((try (simp (disch := omega) only [ai])); (try (simp only [FB])); first | done | rfl | omega)), by (first | rfl | trivial | omega | ((try (simp (disch := omega) only [ai])); (try (simp only [FB])); first | done | rfl | omega))⟩
        | false =>
          simp only [↓wR, RA, simprocAttr, TF, ag, gi, hcs.owner, hz.origin]; repeat (simp (disch := omega) only [ai, cd, ca, cf, cb]; try simp only [↓wR, RA, simprocAttr, TF, ag, gi, hcs.owner, hz.origin])
          exact ⟨(i + 1, dk c.owner z.origin), ⟨hlt, by rw [hx, Bool.false_or]⟩, by simp; omega, by (first | rfl | trivial | omega | ((try (simp (disch := omega) only [ai])); (try (simp only [FB])); first | done | rfl | omega)), by (first | rfl | trivial | omega | ((try (simp (disch := omega) only [ai])); (try (simp only [FB])); first | done | rfl | omega))⟩
      · have e2 : ¬ (c.type.toNat : Int) = 2 := by simpa using h2
        rw [decide_eq_false e2, Bool.false_and, Bool.false_or] at hx
        simp only [↓wR, RA, simprocAttr, TF, ag, h2]; repeat (simp (disch := omega) only [ai, cd, ca, cf, cb]; try simp only [↓wR, RA, simprocAttr, TF, ag, h2])
        exact ⟨(i + 1, b), ⟨hlt, hx⟩, by simp; omega, by (first | rfl | trivial | omega | ((try (simp (disch := omega) only [ai])); (try (simp only [FB])); first | done | rfl | omega)), by (first | rfl | trivial | omega | ((try (simp (disch := omega) only [ai])); (try (simp only [FB])); first | done | rfl | omega))⟩
    rw [fe h] at hx
    have hb : b = gw z := by rw [hx]; simp [Hl]
    simp only [↓wR, RA, simprocAttr, TF, ag, h]
    rw [hb]
    clear h hx hb
    refine dr (fun r st' => r = .fg [] ∧ st' = bm [some (.row [.vl false 1 (z.origin.map (ak.val false)), .vl false 5 (z.aj.map (ah.val false))] 0 2 26), some (.row [.vl false 1 (z.origin.map (ak.val false)), .vl false 5 (z.aj.map (ah.val false)), .sc (.int .i64 (cw (gw z) 264 (l9 z)))] 0 2 180), some (.row [.sc (.bool (gw z))] 0 2 4), some (.row [.vl false 1 (z.origin.map (ak.val false)), .vl false 5 (z.aj.map (ah.val false))] 0 2 26), some (.row [.sc (.int .u16 2)] 0 2 28)]) rfl ?_ ?_
    · refine bn (T := [dz, dg, gj, ji, jg, jh, ic, ki, n6, ko]) ok mixed Tryz.func126 rfl (by kernel_rfl) (by kernel_rfl) (by kernel_rfl) (by kernel_rfl) ?_; unfold Tryz.f126
      simp only [↓wR, RA, simprocAttr, TF, ag]
      rw [c7]; refine ⟨fun ⟨hn1, en1⟩ => ?_, fun ⟨hn1, en1⟩ => ?_⟩
      · simp only [↓wR, RA, simprocAttr, TF, ag, hn1]
        rw [cp]; refine ⟨fun hn2 => ?_, fun hn2 => ?_⟩
        · have hb : (gw z) = false := by simpa only [Bool.not_eq_true'] using hn2
          have hv : cw (gw z) 264 (l9 z) = 264 := by unfold cw; rw [if_pos ⟨en1, hb⟩]
          simp only [↓wR, RA, simprocAttr, TF, ag, hn1, hn2, ik, g8, gz]
          try rw [hv]
        · have hb : (gw z) = true := by simpa only [Bool.not_eq_false'] using hn2
          have hv : cw (gw z) 264 (l9 z) = l9 z := by unfold cw; rw [if_neg (fun q => by rw [hb] at q; cases q.2)]
          simp only [↓wR, RA, simprocAttr, TF, ag, hn1, hn2, ik, g8, gz]
          try rw [hv]
      · have hv : cw (gw z) 264 (l9 z) = l9 z := by unfold cw; rw [if_neg (fun q => en1 q.1)]
        simp only [↓wR, RA, simprocAttr, TF, ag, hn1, ik, g8, gz]
        try rw [hv]
    rintro _ _ ⟨rfl, rfl⟩
    rw [show cw (gw z) 264 (l9 z) = De z from rfl]
    simp only [↓wR, RA, simprocAttr, TF, ag, gk]
    obtain ⟨e0, he0⟩ : ∃ e0, De z = e0 := ⟨_, rfl⟩
    rw [he0]
    refine dr (fun r st' => r = .fg [] ∧ st' = bm [some (.row [.vl false 1 (z.origin.map (ak.val false)), .vl false 5 (z.aj.map (ah.val false))] 0 2 26), some (.row [.vl false 1 (z.origin.map (ak.val false)), .vl false 5 (z.aj.map (ah.val false)), .sc (.int .i64 (fp 265 (i6 z) 0 z.aj e0))] 0 2 180), some (.row [.sc (.bool (gw z))] 0 2 4), some (.row [.vl false 1 (z.origin.map (ak.val false)), .vl false 5 (z.aj.map (ah.val false))] 0 2 26), some (.row [.sc (.int .u16 2)] 0 2 28)]) rfl ?_ ?_
    · refine bn (T := [dz, dg, gj, ji, jg, jh, ic, ki, n6, ko]) ok mixed Tryz.func121 rfl (by kernel_rfl) (by kernel_rfl) (by kernel_rfl) (by kernel_rfl) ?_; unfold Tryz.f121
      simp only [↓wR, RA, simprocAttr, TF, ag]
      refine dy [0, 1, 2, 12, 13, 14] (fun (x : Nat × Int) => [.ptr 1 0, .sc (.int .i64 (265)), .fn (.func 128) [.ptr 1 0] [], .vl false 5 (z.aj.map (ah.val false)), .sc (.int .i64 (z.aj.length)), .sc (.int .i64 (x.1))]) (fun x => [some (.row [.vl false 1 (z.origin.map (ak.val false)), .vl false 5 (z.aj.map (ah.val false))] 0 2 26), some (.row [.vl false 1 (z.origin.map (ak.val false)), .vl false 5 (z.aj.map (ah.val false)), .sc (.int .i64 (x.2))] 0 2 180), some (.row [.sc (.bool (gw z))] 0 2 4), some (.row [.vl false 1 (z.origin.map (ak.val false)), .vl false 5 (z.aj.map (ah.val false))] 0 2 26), some (.row [.sc (.int .u16 2)] 0 2 28)]) (fun x => x.1 ≤ z.aj.length ∧ fp 265 (i6 z) 0 z.aj e0 = fp 265 (i6 z) x.1 (z.aj.drop x.1) x.2) (fun x => z.aj.length - x.1) (0, e0) ⟨Nat.zero_le _, rfl⟩ (by simp only [↓wR, RA, simprocAttr, TF, ag] <;> rfl) (by simp only [↓wR, RA, simprocAttr, TF, ag] <;> rfl) ?_
      rintro ⟨i, e⟩ ⟨hi, hx⟩
      simp only at hi hx
      simp only [↓wR, RA, simprocAttr, TF, ag]
      rw [b9]; refine ⟨fun h => ?_, fun h => ?_⟩
      · obtain ⟨c, hc, hd1, hlt⟩ := ec (decide_eq_true h)
        rw [s9 hd1] at hx
        have hcs := hz.set c (List.mem_of_getElem? hc)
        have hi2 : (0 : Int) ≤ i ∧ (i : Int) ≤ z.aj.length := by omega
        simp only [↓wR, RA, simprocAttr, TF, ag, h, hc]
        rw [gv]; refine ⟨fun ⟨h1, e1⟩ => ?_, fun ⟨h1, e1⟩ => ?_⟩
        · rw [if_pos e1] at hx
          simp only [↓wR, RA, simprocAttr, TF, ag, h1, ik, g8, gz]
          rw [hx]
        · rw [if_neg (by omega)] at hx
          simp only [↓wR, RA, simprocAttr, TF, ag, h1, hcs, hz, hi2, Cq]
          refine dr (fun r st' => r = .fg [] ∧ st' = bm [some (.row [.vl false 1 (z.origin.map (ak.val false)), .vl false 5 (z.aj.map (ah.val false))] 0 2 26), some (.row [.vl false 1 (z.origin.map (ak.val false)), .vl false 5 (z.aj.map (ah.val false)), .sc (.int .i64 (cw ((i6 z) i c) 265 e))] 0 2 180), some (.row [.sc (.bool (gw z))] 0 2 4), some (.row [.vl false 1 (z.origin.map (ak.val false)), .vl false 5 (z.aj.map (ah.val false))] 0 2 26), some (.row [.sc (.int .u16 2)] 0 2 28), some (.row [.vl false 1 (c.owner.map (ak.val false)), .sc (.int .u16 c.type.toNat), .sc (.int .u16 c.cls.toNat), .sc (.int .u32 c.n9.toNat), .vl false 4 (c.data.map (bq.val false))] 0 2 40)]) rfl ?_ ?_
          · refine bn (T := [dz, dg, gj, ji, jg, jh, ic, ki, n6, ko]) ok mixed Tryz.func126 rfl (by kernel_rfl) (by kernel_rfl) (by kernel_rfl) (by kernel_rfl) ?_; unfold Tryz.f126
            simp only [↓wR, RA, simprocAttr, TF, ag, e1]
            rw [cp]; refine ⟨fun hn2 => ?_, fun hn2 => ?_⟩
            · have hb : ((i6 z) i c) = false := by simpa only [Bool.not_eq_true'] using hn2
              have hv : cw ((i6 z) i c) 265 0 = 265 := by unfold cw; rw [if_pos ⟨rfl, hb⟩]
              simp only [↓wR, RA, simprocAttr, TF, ag, hn2, ik, g8, gz]
              try rw [hv]
            · have hb : ((i6 z) i c) = true := by simpa only [Bool.not_eq_false'] using hn2
              have hv : cw ((i6 z) i c) 265 0 = 0 := by unfold cw; rw [if_neg (fun q => by rw [hb] at q; cases q.2)]
              simp only [↓wR, RA, simprocAttr, TF, ag, hn2, ik, g8, gz]
              try rw [hv]
          rintro _ _ ⟨rfl, rfl⟩
          simp only [↓wR, RA, simprocAttr, TF, ag, gk]; repeat (simp (disch := omega) only [ai, cd, ca, cf, cb]; try simp only [↓wR, RA, simprocAttr, TF, ag, gk])
          exact ⟨(i + 1, cw ((i6 z) i c) 265 e), ⟨hlt, hx⟩, by simp; omega, by (first | rfl | trivial | omega | ((try (simp (disch := omega) only [ai])); (try (simp only [FB])); first | done | rfl | omega)), by (first | rfl | trivial | omega | ((try (simp (disch := omega) only [ai])); (try (simp only [FB])); first | done | rfl | omega))⟩
      · rw [fe (decide_eq_false h)] at hx
        simp only [↓wR, RA, simprocAttr, TF, ag, h, ik, g8, gz]
        rw [hx]; rfl
    rintro _ _ ⟨rfl, rfl⟩
    rw [← he0]
    clear he0
    simp only [↓wR, RA, simprocAttr, TF, ag, gk]
    rw [show fp 265 (i6 z) 0 z.aj (De z) = Ds z from rfl]
    obtain ⟨e0, he0⟩ : ∃ e0, Ds z = e0 := ⟨_, rfl⟩
    rw [he0]
    refine dr (fun r st' => r = .fg [] ∧ st' = bm [some (.row [.vl false 1 (z.origin.map (ak.val false)), .vl false 5 (z.aj.map (ah.val false))] 0 2 26), some (.row [.vl false 1 (z.origin.map (ak.val false)), .vl false 5 (z.aj.map (ah.val false)), .sc (.int .i64 (fp 266 (fun _ s => kh s) 0 z.aj e0))] 0 2 180), some (.row [.sc (.bool (gw z))] 0 2 4), some (.row [.vl false 1 (z.origin.map (ak.val false)), .vl false 5 (z.aj.map (ah.val false))] 0 2 26), some (.row [.sc (.int .u16 2)] 0 2 28)]) rfl ?_ ?_
    · refine bn (T := [dz, dg, gj, ji, jg, jh, ic, ki, n6, ko]) ok mixed Tryz.func121 rfl (by kernel_rfl) (by kernel_rfl) (by kernel_rfl) (by kernel_rfl) ?_; unfold Tryz.f121
      simp only [↓wR, RA, simprocAttr, TF, ag]
      refine dy [0, 1, 2, 12, 13, 14] (fun (x : Nat × Int) => [.ptr 1 0, .sc (.int .i64 (266)), .sc (.func (.func 129) #[] #[]), .vl false 5 (z.aj.map (ah.val false)), .sc (.int .i64 (z.aj.length)), .sc (.int .i64 (x.1))]) (fun x => [some (.row [.vl false 1 (z.origin.map (ak.val false)), .vl false 5 (z.aj.map (ah.val false))] 0 2 26), some (.row [.vl false 1 (z.origin.map (ak.val false)), .vl false 5 (z.aj.map (ah.val false)), .sc (.int .i64 (x.2))] 0 2 180), some (.row [.sc (.bool (gw z))] 0 2 4), some (.row [.vl false 1 (z.origin.map (ak.val false)), .vl false 5 (z.aj.map (ah.val false))] 0 2 26), some (.row [.sc (.int .u16 2)] 0 2 28)]) (fun x => x.1 ≤ z.aj.length ∧ fp 266 (fun _ s => kh s) 0 z.aj e0 = fp 266 (fun _ s => kh s) x.1 (z.aj.drop x.1) x.2) (fun x => z.aj.length - x.1) (0, e0) ⟨Nat.zero_le _, rfl⟩ (by simp only [↓wR, RA, simprocAttr, TF, ag] <;> rfl) (by simp only [↓wR, RA, simprocAttr, TF, ag] <;> rfl) ?_
      rintro ⟨i, e⟩ ⟨hi, hx⟩
      simp only at hi hx
      simp only [↓wR, RA, simprocAttr, TF, ag]
      rw [b9]; refine ⟨fun h => ?_, fun h => ?_⟩
      · obtain ⟨c, hc, hd1, hlt⟩ := ec (decide_eq_true h)
        rw [s9 hd1] at hx
        have hcs := hz.set c (List.mem_of_getElem? hc)
        have hi2 : (0 : Int) ≤ i ∧ (i : Int) ≤ z.aj.length := by omega
        simp only [↓wR, RA, simprocAttr, TF, ag, h, hc]
        rw [gv]; refine ⟨fun ⟨h1, e1⟩ => ?_, fun ⟨h1, e1⟩ => ?_⟩
        · rw [if_pos e1] at hx
          simp only [↓wR, RA, simprocAttr, TF, ag, h1, ik, g8, gz]
          rw [hx]
        · rw [if_neg (by omega)] at hx
          simp only [↓wR, RA, simprocAttr, TF, ag, h1, hcs, hz, hi2, F5]
          refine dr (fun r st' => r = .fg [] ∧ st' = bm [some (.row [.vl false 1 (z.origin.map (ak.val false)), .vl false 5 (z.aj.map (ah.val false))] 0 2 26), some (.row [.vl false 1 (z.origin.map (ak.val false)), .vl false 5 (z.aj.map (ah.val false)), .sc (.int .i64 (cw ((fun _ s => kh s) i c) 266 e))] 0 2 180), some (.row [.sc (.bool (gw z))] 0 2 4), some (.row [.vl false 1 (z.origin.map (ak.val false)), .vl false 5 (z.aj.map (ah.val false))] 0 2 26), some (.row [.sc (.int .u16 2)] 0 2 28), some (.row [.vl false 1 (c.owner.map (ak.val false)), .sc (.int .u16 c.type.toNat), .sc (.int .u16 c.cls.toNat), .sc (.int .u32 c.n9.toNat), .vl false 4 (c.data.map (bq.val false))] 0 2 40)]) rfl ?_ ?_
          · refine bn (T := [dz, dg, gj, ji, jg, jh, ic, ki, n6, ko]) ok mixed Tryz.func126 rfl (by kernel_rfl) (by kernel_rfl) (by kernel_rfl) (by kernel_rfl) ?_; unfold Tryz.f126
            simp only [↓wR, RA, simprocAttr, TF, ag, e1]
            rw [cp]; refine ⟨fun hn2 => ?_, fun hn2 => ?_⟩
            · have hb : ((fun _ s => kh s) i c) = false := by simpa only [Bool.not_eq_true'] using hn2
              have hv : cw ((fun _ s => kh s) i c) 266 0 = 266 := by unfold cw; rw [if_pos ⟨rfl, hb⟩]
              simp only [↓wR, RA, simprocAttr, TF, ag, hn2, ik, g8, gz]
              try rw [hv]
            · have hb : ((fun _ s => kh s) i c) = true := by simpa only [Bool.not_eq_false'] using hn2
              have hv : cw ((fun _ s => kh s) i c) 266 0 = 0 := by unfold cw; rw [if_neg (fun q => by rw [hb] at q; cases q.2)]
              simp only [↓wR, RA, simprocAttr, TF, ag, hn2, ik, g8, gz]
              try rw [hv]
          rintro _ _ ⟨rfl, rfl⟩
          simp only [↓wR, RA, simprocAttr, TF, ag, gk]; repeat (simp (disch := omega) only [ai, cd, ca, cf, cb]; try simp only [↓wR, RA, simprocAttr, TF, ag, gk])
          exact ⟨(i + 1, cw ((fun _ s => kh s) i c) 266 e), ⟨hlt, hx⟩, by simp; omega, by (first | rfl | trivial | omega | ((try (simp (disch := omega) only [ai])); (try (simp only [FB])); first | done | rfl | omega)), by (first | rfl | trivial | omega | ((try (simp (disch := omega) only [ai])); (try (simp only [FB])); first | done | rfl | omega))⟩
      · rw [fe (decide_eq_false h)] at hx
        simp only [↓wR, RA, simprocAttr, TF, ag, h, ik, g8, gz]
        rw [hx]; rfl
    rintro _ _ ⟨rfl, rfl⟩
    rw [← he0]
    clear he0
    simp only [↓wR, RA, simprocAttr, TF, ag, gk]
    rw [show fp 266 (fun _ s => kh s) 0 z.aj (Ds z) = Lq z from rfl]
    obtain ⟨e0, he0⟩ : ∃ e0, Lq z = e0 := ⟨_, rfl⟩
    rw [he0]
    refine dr (fun r st' => r = .fg [] ∧ st' = bm [some (.row [.vl false 1 (z.origin.map (ak.val false)), .vl false 5 (z.aj.map (ah.val false))] 0 2 26), some (.row [.vl false 1 (z.origin.map (ak.val false)), .vl false 5 (z.aj.map (ah.val false)), .sc (.int .i64 (fp 267 (fun _ s => pa z s) 0 z.aj e0))] 0 2 180), some (.row [.sc (.bool (gw z))] 0 2 4), some (.row [.vl false 1 (z.origin.map (ak.val false)), .vl false 5 (z.aj.map (ah.val false))] 0 2 26), some (.row [.sc (.int .u16 2)] 0 2 28)]) rfl ?_ ?_
    · refine bn (T := [dz, dg, gj, ji, jg, jh, ic, ki, n6, ko]) ok mixed Tryz.func121 rfl (by kernel_rfl) (by kernel_rfl) (by kernel_rfl) (by kernel_rfl) ?_; unfold Tryz.f121
      simp only [↓wR, RA, simprocAttr, TF, ag]
      refine dy [0, 1, 2, 12, 13, 14] (fun (x : Nat × Int) => [.ptr 1 0, .sc (.int .i64 (267)), .fn (.func 130) [] [.ptr 0 0], .vl false 5 (z.aj.map (ah.val false)), .sc (.int .i64 (z.aj.length)), .sc (.int .i64 (x.1))]) (fun x => [some (.row [.vl false 1 (z.origin.map (ak.val false)), .vl false 5 (z.aj.map (ah.val false))] 0 2 26), some (.row [.vl false 1 (z.origin.map (ak.val false)), .vl false 5 (z.aj.map (ah.val false)), .sc (.int .i64 (x.2))] 0 2 180), some (.row [.sc (.bool (gw z))] 0 2 4), some (.row [.vl false 1 (z.origin.map (ak.val false)), .vl false 5 (z.aj.map (ah.val false))] 0 2 26), some (.row [.sc (.int .u16 2)] 0 2 28)]) (fun x => x.1 ≤ z.aj.length ∧ fp 267 (fun _ s => pa z s) 0 z.aj e0 = fp 267 (fun _ s => pa z s) x.1 (z.aj.drop x.1) x.2) (fun x => z.aj.length - x.1) (0, e0) ⟨Nat.zero_le _, rfl⟩ (by simp only [↓wR, RA, simprocAttr, TF, ag] <;> rfl) (by simp only [↓wR, RA, simprocAttr, TF, ag] <;> rfl) ?_
      rintro ⟨i, e⟩ ⟨hi, hx⟩
      simp only at hi hx
      simp only [↓wR, RA, simprocAttr, TF, ag]
      rw [b9]; refine ⟨fun h => ?_, fun h => ?_⟩
      · obtain ⟨c, hc, hd1, hlt⟩ := ec (decide_eq_true h)
        rw [s9 hd1] at hx
        have hcs := hz.set c (List.mem_of_getElem? hc)
        have hi2 : (0 : Int) ≤ i ∧ (i : Int) ≤ z.aj.length := by omega
        simp only [↓wR, RA, simprocAttr, TF, ag, h, hc]
        rw [gv]; refine ⟨fun ⟨h1, e1⟩ => ?_, fun ⟨h1, e1⟩ => ?_⟩
        · rw [if_pos e1] at hx
          simp only [↓wR, RA, simprocAttr, TF, ag, h1, ik, g8, gz]
          rw [hx]
        · rw [if_neg (by omega)] at hx
          simp only [↓wR, RA, simprocAttr, TF, ag, h1, hcs, hz, hi2, Lu]
          refine dr (fun r st' => r = .fg [] ∧ st' = bm [some (.row [.vl false 1 (z.origin.map (ak.val false)), .vl false 5 (z.aj.map (ah.val false))] 0 2 26), some (.row [.vl false 1 (z.origin.map (ak.val false)), .vl false 5 (z.aj.map (ah.val false)), .sc (.int .i64 (cw ((fun _ s => pa z s) i c) 267 e))] 0 2 180), some (.row [.sc (.bool (gw z))] 0 2 4), some (.row [.vl false 1 (z.origin.map (ak.val false)), .vl false 5 (z.aj.map (ah.val false))] 0 2 26), some (.row [.sc (.int .u16 2)] 0 2 28), some (.row [.vl false 1 (c.owner.map (ak.val false)), .sc (.int .u16 c.type.toNat), .sc (.int .u16 c.cls.toNat), .sc (.int .u32 c.n9.toNat), .vl false 4 (c.data.map (bq.val false))] 0 2 40)]) rfl ?_ ?_
          · refine bn (T := [dz, dg, gj, ji, jg, jh, ic, ki, n6, ko]) ok mixed Tryz.func126 rfl (by kernel_rfl) (by kernel_rfl) (by kernel_rfl) (by kernel_rfl) ?_; unfold Tryz.f126
            simp only [↓wR, RA, simprocAttr, TF, ag, e1]
            rw [cp]; refine ⟨fun hn2 => ?_, fun hn2 => ?_⟩
            · have hb : ((fun _ s => pa z s) i c) = false := by simpa only [Bool.not_eq_true'] using hn2
              have hv : cw ((fun _ s => pa z s) i c) 267 0 = 267 := by unfold cw; rw [if_pos ⟨rfl, hb⟩]
              simp only [↓wR, RA, simprocAttr, TF, ag, hn2, ik, g8, gz]
              try rw [hv]
            · have hb : ((fun _ s => pa z s) i c) = true := by simpa only [Bool.not_eq_false'] using hn2
              have hv : cw ((fun _ s => pa z s) i c) 267 0 = 0 := by unfold cw; rw [if_neg (fun q => by rw [hb] at q; cases q.2)]
              simp only [↓wR, RA, simprocAttr, TF, ag, hn2, ik, g8, gz]
              try rw [hv]
          rintro _ _ ⟨rfl, rfl⟩
          simp only [↓wR, RA, simprocAttr, TF, ag, gk]; repeat (simp (disch := omega) only [ai, cd, ca, cf, cb]; try simp only [↓wR, RA, simprocAttr, TF, ag, gk])
          exact ⟨(i + 1, cw ((fun _ s => pa z s) i c) 267 e), ⟨hlt, hx⟩, by simp; omega, by (first | rfl | trivial | omega | ((try (simp (disch := omega) only [ai])); (try (simp only [FB])); first | done | rfl | omega)), by (first | rfl | trivial | omega | ((try (simp (disch := omega) only [ai])); (try (simp only [FB])); first | done | rfl | omega))⟩
      · rw [fe (decide_eq_false h)] at hx
        simp only [↓wR, RA, simprocAttr, TF, ag, h, ik, g8, gz]
        rw [hx]; rfl
    rintro _ _ ⟨rfl, rfl⟩
    rw [← he0]
    clear he0
    simp only [↓wR, RA, simprocAttr, TF, ag, gk]
    rfl
  · simp only [↓wR, RA, simprocAttr, TF, ag, hs1]
    have hbf : (decide ((fy z).1 = 1) && decide ((fy z).2 = 1)) = false := by rw [decide_eq_false (show ¬ (fy z).1 = 1 by omega), Bool.false_and]
    refine dr (fun r st' => r = .fg [] ∧ st' = bm [some (.row [.vl false 1 (z.origin.map (ak.val false)), .vl false 5 (z.aj.map (ah.val false))] 0 2 26), some (.row [.vl false 1 (z.origin.map (ak.val false)), .vl false 5 (z.aj.map (ah.val false)), .sc (.int .i64 (cw (decide ((fy z).1 = 1) && decide ((fy z).2 = 1)) 263 (qu z)))] 0 2 180)]) rfl ?_ ?_
    · refine bn (T := [dz, dg, gj, ji, jg, jh, ic, ki, n6, ko]) ok mixed Tryz.func126 rfl (by kernel_rfl) (by kernel_rfl) (by kernel_rfl) (by kernel_rfl) ?_; unfold Tryz.f126
      simp only [↓wR, RA, simprocAttr, TF, ag]
      rw [c7]; refine ⟨fun ⟨hn1, en1⟩ => ?_, fun ⟨hn1, en1⟩ => ?_⟩
      · have hv : cw (decide ((fy z).1 = 1) && decide ((fy z).2 = 1)) 263 (qu z) = 263 := by unfold cw; rw [if_pos ⟨en1, hbf⟩]
        simp only [↓wR, RA, simprocAttr, TF, ag, hn1, ik, g8, gz]
        try rw [hv]
      · have hv : cw (decide ((fy z).1 = 1) && decide ((fy z).2 = 1)) 263 (qu z) = qu z := by unfold cw; rw [if_neg (fun q => en1 q.1)]
        simp only [↓wR, RA, simprocAttr, TF, ag, hn1, ik, g8, gz]
        try rw [hv]
    rintro _ _ ⟨rfl, rfl⟩
    rw [show cw (decide ((fy z).1 = 1) && decide ((fy z).2 = 1)) 263 (qu z) = l9 z from rfl]
    simp only [↓wR, RA, simprocAttr, TF, ag, gk]
    refine bn (T := []) (aw.nil PP) mixed Tryz.func127 rfl (by kernel_rfl) (by kernel_rfl) (by kernel_rfl) (by kernel_rfl) ?_; unfold Tryz.f127
    simp only [↓wR, RA, simprocAttr, TF, ag]
    refine ⟨[1, 3, 6, 45], ?_⟩
    have hib : vc PP 154 = some (Tryz.f154.ntmps, Tryz.f154.body.getD .skip) := by kernel_rfl
    simp only [↓wR, RA, simprocAttr, TF, ag, hib]
    refine ⟨by kernel_rfl, fun l => ?_⟩
    unfold Tryz.f154
    simp only [↓wR, RA, simprocAttr, TF, ag]
    refine D4 [0, 2, 7, 8, 9] (fun (x : Nat × Bool) => [.sc (.func (.yield l) #[] #[]), .ptr 4 0, .vl false 5 (z.aj.map (ah.val false)), .sc (.int .i64 (z.aj.length)), .sc (.int .i64 (x.1))]) (fun x => [some (.row [.vl false 1 (z.origin.map (ak.val false)), .vl false 5 (z.aj.map (ah.val false))] 0 2 26), some (.row [.vl false 1 (z.origin.map (ak.val false)), .vl false 5 (z.aj.map (ah.val false)), .sc (.int .i64 (l9 z))] 0 2 180), some (.row [.sc (.bool (x.2))] 0 2 4), some (.row [.vl false 1 (z.origin.map (ak.val false)), .vl false 5 (z.aj.map (ah.val false))] 0 2 26), some (.row [.sc (.int .u16 2)] 0 2 28)]) (fun x => x.1 ≤ z.aj.length ∧ gw z = (x.2 || Hl z (z.aj.drop x.1))) (fun x => z.aj.length - x.1) (0, false) ⟨Nat.zero_le _, by rw [Bool.false_or]; rfl⟩ (by simp only [↓wR, RA, simprocAttr, TF, ag] <;> rfl) (by simp only [↓wR, RA, simprocAttr, TF, ag] <;> rfl) ?_
    rintro ⟨i, b⟩ ⟨hi, hx⟩
    simp only at hi hx
    simp only [↓wR, RA, simprocAttr, TF, ag]
    rw [wh]; refine ⟨fun h => ?_, fun h => ?_⟩
    · obtain ⟨c, hc, hd1, hlt⟩ := ec h
      have hcs := hz.set c (List.mem_of_getElem? hc)
      rw [acj hd1] at hx
      simp only [↓wR, RA, simprocAttr, TF, ag, h, hc]
      rw [wh]; refine ⟨fun h2 => ?_, fun h2 => ?_⟩
      · have e2 : (c.type.toNat : Int) = 2 := by simpa using h2
        rw [decide_eq_true e2, Bool.true_and] at hx
        simp only [↓wR, RA, simprocAttr, TF, ag, h2]
        refine yj [0, 2, 7, 8, 9, 17, 19] ?_
        simp only [↓wR, RA, simprocAttr, TF, ag, zc, nb]
        cases b with
        | true =>
          simp only [↓wR, RA, simprocAttr, TF, ag]; repeat (simp (disch := omega) only [ai, cd, ca, cf, cb]; try simp only [↓wR, RA, simprocAttr, TF, ag])
          exact ⟨(i + 1, true), ⟨hlt, by rw [hx]; rfl⟩, by simp; omega, by (first | rfl | trivial | omega | ((try (simp (disch := omega) only [ai])); (try (simp only [FB])); first | done | rfl | omega)), by (first | rfl | trivial | omega | ((try (simp (disch := omega) only [ai])); (try (simp only [FB])); first | done | rfl | omega))⟩
        | false =>
          simp only [↓wR, RA, simprocAttr, TF, ag, gi, hcs.owner, hz.origin]; repeat (simp (disch := omega) only [ai, cd, ca, cf, cb]; try simp only [↓wR, RA, simprocAttr, TF, ag, gi, hcs.owner, hz.origin])
          exact ⟨(i + 1, dk c.owner z.origin), ⟨hlt, by rw [hx, Bool.false_or]⟩, by simp; omega, by (first | rfl | trivial | omega | ((try (simp (disch := omega) only [ai])); (try (simp only [FB])); first | done | rfl | omega)), by (first | rfl | trivial | omega | ((try (simp (disch := omega) only [ai])); (try (simp only [FB])); first | done | rfl | omega))⟩
      · have e2 : ¬ (c.type.toNat : Int) = 2 := by simpa using h2
        rw [decide_eq_false e2, Bool.false_and, Bool.false_or] at hx
        simp only [↓wR, RA, simprocAttr, TF, ag, h2]; repeat (simp (disch := omega) only [ai, cd, ca, cf, cb]; try simp only [↓wR, RA, simprocAttr, TF, ag, h2])
        exact ⟨(i + 1, b), ⟨hlt, hx⟩, by simp; omega, by (first | rfl | trivial | omega | ((try (simp (disch := omega) only [ai])); (try (simp only [FB])); first | done | rfl | omega)), by (first | rfl | trivial | omega | ((try (simp (disch := omega) only [ai])); (try (simp only [FB])); first | done | rfl | omega))⟩
    rw [fe h] at hx
    have hb : b = gw z := by rw [hx]; simp [Hl]
    simp only [↓wR, RA, simprocAttr, TF, ag, h]
    rw [hb]
    clear h hx hb
    refine dr (fun r st' => r = .fg [] ∧ st' = bm [some (.row [.vl false 1 (z.origin.map (ak.val false)), .vl false 5 (z.aj.map (ah.val false))] 0 2 26), some (.row [.vl false 1 (z.origin.map (ak.val false)), .vl false 5 (z.aj.map (ah.val false)), .sc (.int .i64 (cw (gw z) 264 (l9 z)))] 0 2 180), some (.row [.sc (.bool (gw z))] 0 2 4), some (.row [.vl false 1 (z.origin.map (ak.val false)), .vl false 5 (z.aj.map (ah.val false))] 0 2 26), some (.row [.sc (.int .u16 2)] 0 2 28)]) rfl ?_ ?_
    · refine bn (T := [dz, dg, gj, ji, jg, jh, ic, ki, n6, ko]) ok mixed Tryz.func126 rfl (by kernel_rfl) (by kernel_rfl) (by kernel_rfl) (by kernel_rfl) ?_; unfold Tryz.f126
      simp only [↓wR, RA, simprocAttr, TF, ag]
      rw [c7]; refine ⟨fun ⟨hn1, en1⟩ => ?_, fun ⟨hn1, en1⟩ => ?_⟩
      · simp only [↓wR, RA, simprocAttr, TF, ag, hn1]
        rw [cp]; refine ⟨fun hn2 => ?_, fun hn2 => ?_⟩
        · have hb : (gw z) = false := by simpa only [Bool.not_eq_true'] using hn2
          have hv : cw (gw z) 264 (l9 z) = 264 := by unfold cw; rw [if_pos ⟨en1, hb⟩]
          simp only [↓wR, RA, simprocAttr, TF, ag, hn1, hn2, ik, g8, gz]
          try rw [hv]
        · have hb : (gw z) = true := by simpa only [Bool.not_eq_false'] using hn2
          have hv : cw (gw z) 264 (l9 z) = l9 z := by unfold cw; rw [if_neg (fun q => by rw [hb] at q; cases q.2)]
          simp only [↓wR, RA, simprocAttr, TF, ag, hn1, hn2, ik, g8, gz]
          try rw [hv]
      · have hv : cw (gw z) 264 (l9 z) = l9 z := by unfold cw; rw [if_neg (fun q => en1 q.1)]
        simp only [↓wR, RA, simprocAttr, TF, ag, hn1, ik, g8, gz]
        try rw [hv]
    rintro _ _ ⟨rfl, rfl⟩
    rw [show cw (gw z) 264 (l9 z) = De z from rfl]
    simp only [↓wR, RA, simprocAttr, TF, ag, gk]
    obtain ⟨e0, he0⟩ : ∃ e0, De z = e0 := ⟨_, rfl⟩
    rw [he0]
    refine dr (fun r st' => r = .fg [] ∧ st' = bm [some (.row [.vl false 1 (z.origin.map (ak.val false)), .vl false 5 (z.aj.map (ah.val false))] 0 2 26), some (.row [.vl false 1 (z.origin.map (ak.val false)), .vl false 5 (z.aj.map (ah.val false)), .sc (.int .i64 (fp 265 (i6 z) 0 z.aj e0))] 0 2 180), some (.row [.sc (.bool (gw z))] 0 2 4), some (.row [.vl false 1 (z.origin.map (ak.val false)), .vl false 5 (z.aj.map (ah.val false))] 0 2 26), some (.row [.sc (.int .u16 2)] 0 2 28)]) rfl ?_ ?_
    · refine bn (T := [dz, dg, gj, ji, jg, jh, ic, ki, n6, ko]) ok mixed Tryz.func121 rfl (by kernel_rfl) (by kernel_rfl) (by kernel_rfl) (by kernel_rfl) ?_; unfold Tryz.f121
      simp only [↓wR, RA, simprocAttr, TF, ag]
      refine dy [0, 1, 2, 12, 13, 14] (fun (x : Nat × Int) => [.ptr 1 0, .sc (.int .i64 (265)), .fn (.func 128) [.ptr 1 0] [], .vl false 5 (z.aj.map (ah.val false)), .sc (.int .i64 (z.aj.length)), .sc (.int .i64 (x.1))]) (fun x => [some (.row [.vl false 1 (z.origin.map (ak.val false)), .vl false 5 (z.aj.map (ah.val false))] 0 2 26), some (.row [.vl false 1 (z.origin.map (ak.val false)), .vl false 5 (z.aj.map (ah.val false)), .sc (.int .i64 (x.2))] 0 2 180), some (.row [.sc (.bool (gw z))] 0 2 4), some (.row [.vl false 1 (z.origin.map (ak.val false)), .vl false 5 (z.aj.map (ah.val false))] 0 2 26), some (.row [.sc (.int .u16 2)] 0 2 28)]) (fun x => x.1 ≤ z.aj.length ∧ fp 265 (i6 z) 0 z.aj e0 = fp 265 (i6 z) x.1 (z.aj.drop x.1) x.2) (fun x => z.aj.length - x.1) (0, e0) ⟨Nat.zero_le _, rfl⟩ (by simp only [↓wR, RA, simprocAttr, TF, ag] <;> rfl) (by simp only [↓wR, RA, simprocAttr, TF, ag] <;> rfl) ?_
      rintro ⟨i, e⟩ ⟨hi, hx⟩
      simp only at hi hx
      simp only [↓wR, RA, simprocAttr, TF, ag]
      rw [b9]; refine ⟨fun h => ?_, fun h => ?_⟩
      · obtain ⟨c, hc, hd1, hlt⟩ := ec (decide_eq_true h)
        rw [s9 hd1] at hx
        have hcs := hz.set c (List.mem_of_getElem? hc)
        have hi2 : (0 : Int) ≤ i ∧ (i : Int) ≤ z.aj.length := by omega
        simp only [↓wR, RA, simprocAttr, TF, ag, h, hc]
        rw [gv]; refine ⟨fun ⟨h1, e1⟩ => ?_, fun ⟨h1, e1⟩ => ?_⟩
        · rw [if_pos e1] at hx
          simp only [↓wR, RA, simprocAttr, TF, ag, h1, ik, g8, gz]
          rw [hx]
        · rw [if_neg (by omega)] at hx
          simp only [↓wR, RA, simprocAttr, TF, ag, h1, hcs, hz, hi2, Cq]
          refine dr (fun r st' => r = .fg [] ∧ st' = bm [some (.row [.vl false 1 (z.origin.map (ak.val false)), .vl false 5 (z.aj.map (ah.val false))] 0 2 26), some (.row [.vl false 1 (z.origin.map (ak.val false)), .vl false 5 (z.aj.map (ah.val false)), .sc (.int .i64 (cw ((i6 z) i c) 265 e))] 0 2 180), some (.row [.sc (.bool (gw z))] 0 2 4), some (.row [.vl false 1 (z.origin.map (ak.val false)), .vl false 5 (z.aj.map (ah.val false))] 0 2 26), some (.row [.sc (.int .u16 2)] 0 2 28), some (.row [.vl false 1 (c.owner.map (ak.val false)), .sc (.int .u16 c.type.toNat), .sc (.int .u16 c.cls.toNat), .sc (.int .u32 c.n9.toNat), .vl false 4 (c.data.map (bq.val false))] 0 2 40)]) rfl ?_ ?_
          · refine bn (T := [dz, dg, gj, ji, jg, jh, ic, ki, n6, ko]) ok mixed Tryz.func126 rfl (by kernel_rfl) (by kernel_rfl) (by kernel_rfl) (by kernel_rfl) ?_; unfold Tryz.f126
            simp only [↓wR, RA, simprocAttr, TF, ag, e1]
            rw [cp]; refine ⟨fun hn2 => ?_, fun hn2 => ?_⟩
            · have hb : ((i6 z) i c) = false := by simpa only [Bool.not_eq_true'] using hn2
              have hv : cw ((i6 z) i c) 265 0 = 265 := by unfold cw; rw [if_pos ⟨rfl, hb⟩]
              simp only [↓wR, RA, simprocAttr, TF, ag, hn2, ik, g8, gz]
              try rw [hv]
            · have hb : ((i6 z) i c) = true := by simpa only [Bool.not_eq_false'] using hn2
              have hv : cw ((i6 z) i c) 265 0 = 0 := by unfold cw; rw [if_neg (fun q => by rw [hb] at q; cases q.2)]
              simp only [↓wR, RA, simprocAttr, TF, ag, hn2, ik, g8, gz]
              try rw [hv]
          rintro _ _ ⟨rfl, rfl⟩
          simp only [↓wR, RA, simprocAttr, TF, ag, gk]; repeat (simp (disch := omega) only [ai, cd, ca, cf, cb]; try simp only [↓wR, RA, simprocAttr, TF, ag, gk])
          exact ⟨(i + 1, cw ((i6 z) i c) 265 e), ⟨hlt, hx⟩, by simp; omega, by (first | rfl | trivial | omega | ((try (simp (disch := omega) only [ai])); (try (simp only [FB])); first | done | rfl | omega)), by (first | rfl | trivial | omega | ((try (simp (disch := omega) only [ai])); (try (simp only [FB])); first | done | rfl | omega))⟩
      · rw [fe (decide_eq_false h)] at hx
        simp only [↓wR, RA, simprocAttr, TF, ag, h, ik, g8, gz]
        rw [hx]; rfl
    rintro _ _ ⟨rfl, rfl⟩
    rw [← he0]
    clear he0
    simp only [↓wR, RA, simprocAttr, TF, ag, gk]
    rw [show fp 265 (i6 z) 0 z.aj (De z) = Ds z from rfl]
    obtain ⟨e0, he0⟩ : ∃ e0, Ds z = e0 := ⟨_, rfl⟩
    rw [he0]
    refine dr (fun r st' => r = .fg [] ∧ st' = bm [some (.row [.vl false 1 (z.origin.map (ak.val false)), .vl false 5 (z.aj.map (ah.val false))] 0 2 26), some (.row [.vl false 1 (z.origin.map (ak.val false)), .vl false 5 (z.aj.map (ah.val false)), .sc (.int .i64 (fp 266 (fun _ s => kh s) 0 z.aj e0))] 0 2 180), some (.row [.sc (.bool (gw z))] 0 2 4), some (.row [.vl false 1 (z.origin.map (ak.val false)), .vl false 5 (z.aj.map (ah.val false))] 0 2 26), some (.row [.sc (.int .u16 2)] 0 2 28)]) rfl ?_ ?_
    · refine bn (T := [dz, dg, gj, ji, jg, jh, ic, ki, n6, ko]) ok mixed Tryz.func121 rfl (by kernel_rfl) (by kernel_rfl) (by kernel_rfl) (by kernel_rfl) ?_; unfold Tryz.f121
      simp only [↓wR, RA, simprocAttr, TF, ag]
      refine dy [0, 1, 2, 12, 13, 14] (fun (x : Nat × Int) => [.ptr 1 0, .sc (.int .i64 (266)), .sc (.func (.func 129) #[] #[]), .vl false 5 (z.aj.map (ah.val false)), .sc (.int .i64 (z.aj.length)), .sc (.int .i64 (x.1))]) (fun x => [some (.row [.vl false 1 (z.origin.map (ak.val false)), .vl false 5 (z.aj.map (ah.val false))] 0 2 26), some (.row [.vl false 1 (z.origin.map (ak.val false)), .vl false 5 (z.aj.map (ah.val false)), .sc (.int .i64 (x.2))] 0 2 180), some (.row [.sc (.bool (gw z))] 0 2 4), some (.row [.vl false 1 (z.origin.map (ak.val false)), .vl false 5 (z.aj.map (ah.val false))] 0 2 26), some (.row [.sc (.int .u16 2)] 0 2 28)]) (fun x => x.1 ≤ z.aj.length ∧ fp 266 (fun _ s => kh s) 0 z.aj e0 = fp 266 (fun _ s => kh s) x.1 (z.aj.drop x.1) x.2) (fun x => z.aj.length - x.1) (0, e0) ⟨Nat.zero_le _, rfl⟩ (by simp only [↓wR, RA, simprocAttr, TF, ag] <;> rfl) (by simp only [↓wR, RA, simprocAttr, TF, ag] <;> rfl) ?_
      rintro ⟨i, e⟩ ⟨hi, hx⟩
      simp only at hi hx
      simp only [↓wR, RA, simprocAttr, TF, ag]
      rw [b9]; refine ⟨fun h => ?_, fun h => ?_⟩
      · obtain ⟨c, hc, hd1, hlt⟩ := ec (decide_eq_true h)
        rw [s9 hd1] at hx
        have hcs := hz.set c (List.mem_of_getElem? hc)
        have hi2 : (0 : Int) ≤ i ∧ (i : Int) ≤ z.aj.length := by omega
        simp only [↓wR, RA, simprocAttr, TF, ag, h, hc]
        rw [gv]; refine ⟨fun ⟨h1, e1⟩ => ?_, fun ⟨h1, e1⟩ => ?_⟩
        · rw [if_pos e1] at hx
          simp only [↓wR, RA, simprocAttr, TF, ag, h1, ik, g8, gz]
          rw [hx]
        · rw [if_neg (by omega)] at hx
          simp only [↓wR, RA, simprocAttr, TF, ag, h1, hcs, hz, hi2, F5]
          refine dr (fun r st' => r = .fg [] ∧ st' = bm [some (.row [.vl false 1 (z.origin.map (ak.val false)), .vl false 5 (z.aj.map (ah.val false))] 0 2 26), some (.row [.vl false 1 (z.origin.map (ak.val false)), .vl false 5 (z.aj.map (ah.val false)), .sc (.int .i64 (cw ((fun _ s => kh s) i c) 266 e))] 0 2 180), some (.row [.sc (.bool (gw z))] 0 2 4), some (.row [.vl false 1 (z.origin.map (ak.val false)), .vl false 5 (z.aj.map (ah.val false))] 0 2 26), some (.row [.sc (.int .u16 2)] 0 2 28), some (.row [.vl false 1 (c.owner.map (ak.val false)), .sc (.int .u16 c.type.toNat), .sc (.int .u16 c.cls.toNat), .sc (.int .u32 c.n9.toNat), .vl false 4 (c.data.map (bq.val false))] 0 2 40)]) rfl ?_ ?_
          · refine bn (T := [dz, dg, gj, ji, jg, jh, ic, ki, n6, ko]) ok mixed Tryz.func126 rfl (by kernel_rfl) (by kernel_rfl) (by kernel_rfl) (by kernel_rfl) ?_; unfold Tryz.f126
            simp only [↓wR, RA, simprocAttr, TF, ag, e1]
            rw [cp]; refine ⟨fun hn2 => ?_, fun hn2 => ?_⟩
            · have hb : ((fun _ s => kh s) i c) = false := by simpa only [Bool.not_eq_true'] using hn2
              have hv : cw ((fun _ s => kh s) i c) 266 0 = 266 := by unfold cw; rw [if_pos ⟨rfl, hb⟩]
              simp only [↓wR, RA, simprocAttr, TF, ag, hn2, ik, g8, gz]
              try rw [hv]
            · have hb : ((fun _ s => kh s) i c) = true := by simpa only [Bool.not_eq_false'] using hn2
              have hv : cw ((fun _ s => kh s) i c) 266 0 = 0 := by unfold cw; rw [if_neg (fun q => by rw [hb] at q; cases q.2)]
              simp only [↓wR, RA, simprocAttr, TF, ag, hn2, ik, g8, gz]
              try rw [hv]
          rintro _ _ ⟨rfl, rfl⟩
          simp only [↓wR, RA, simprocAttr, TF, ag, gk]; repeat (simp (disch := omega) only [ai, cd, ca, cf, cb]; try simp only [↓wR, RA, simprocAttr, TF, ag, gk])
          exact ⟨(i + 1, cw ((fun _ s => kh s) i c) 266 e), ⟨hlt, hx⟩, by simp; omega, by (first | rfl | trivial | omega | ((try (simp (disch := omega) only [ai])); (try (simp only [FB])); first | done | rfl | omega)), by (first | rfl | trivial | omega | ((try (simp (disch := omega) only [ai])); (try (simp only [FB])); first | done | rfl | omega))⟩
      · rw [fe (decide_eq_false h)] at hx
        simp only [↓wR, RA, simprocAttr, TF, ag, h, ik, g8, gz]
        rw [hx]; rfl
    rintro _ _ ⟨rfl, rfl⟩
    rw [← he0]
    clear he0
    simp only [↓wR, RA, simprocAttr, TF, ag, gk]
    rw [show fp 266 (fun _ s => kh s) 0 z.aj (Ds z) = Lq z from rfl]
    obtain ⟨e0, he0⟩ : ∃ e0, Lq z = e0 := ⟨_, rfl⟩
    rw [he0]
    refine dr (fun r st' => r = .fg [] ∧ st' = bm [some (.row [.vl false 1 (z.origin.map (ak.val false)), .vl false 5 (z.aj.map (ah.val false))] 0 2 26), some (.row [.vl false 1 (z.origin.map (ak.val false)), .vl false 5 (z.aj.map (ah.val false)), .sc (.int .i64 (fp 267 (fun _ s => pa z s) 0 z.aj e0))] 0 2 180), some (.row [.sc (.bool (gw z))] 0 2 4), some (.row [.vl false 1 (z.origin.map (ak.val false)), .vl false 5 (z.aj.map (ah.val false))] 0 2 26), some (.row [.sc (.int .u16 2)] 0 2 28)]) rfl ?_ ?_
    · refine bn (T := [dz, dg, gj, ji, jg, jh, ic, ki, n6, ko]) ok mixed Tryz.func121 rfl (by kernel_rfl) (by kernel_rfl) (by kernel_rfl) (by kernel_rfl) ?_; unfold Tryz.f121
      simp only [↓wR, RA, simprocAttr, TF, ag]
      refine dy [0, 1, 2, 12, 13, 14] (fun (x : Nat × Int) => [.ptr 1 0, .sc (.int .i64 (267)), .fn (.func 130) [] [.ptr 0 0], .vl false 5 (z.aj.map (ah.val false)), .sc (.int .i64 (z.aj.length)), .sc (.int .i64 (x.1))]) (fun x => [some (.row [.vl false 1 (z.origin.map (ak.val false)), .vl false 5 (z.aj.map (ah.val false))] 0 2 26), some (.row [.vl false 1 (z.origin.map (ak.val false)), .vl false 5 (z.aj.map (ah.val false)), .sc (.int .i64 (x.2))] 0 2 180), some (.row [.sc (.bool (gw z))] 0 2 4), some (.row [.vl false 1 (z.origin.map (ak.val false)), .vl false 5 (z.aj.map (ah.val false))] 0 2 26), some (.row [.sc (.int .u16 2)] 0 2 28)]) (fun x => x.1 ≤ z.aj.length ∧ fp 267 (fun _ s => pa z s) 0 z.aj e0 = fp 267 (fun _ s => pa z s) x.1 (z.aj.drop x.1) x.2) (fun x => z.aj.length - x.1) (0, e0) ⟨Nat.zero_le _, rfl⟩ (by simp only [↓wR, RA, simprocAttr, TF, ag] <;> rfl) (by simp only [↓wR, RA, simprocAttr, TF, ag] <;> rfl) ?_
      rintro ⟨i, e⟩ ⟨hi, hx⟩
      simp only at hi hx
      simp only [↓wR, RA, simprocAttr, TF, ag]
      rw [b9]; refine ⟨fun h => ?_, fun h => ?_⟩
      · obtain ⟨c, hc, hd1, hlt⟩ := ec (decide_eq_true h)
        rw [s9 hd1] at hx
        have hcs := hz.set c (List.mem_of_getElem? hc)
        have hi2 : (0 : Int) ≤ i ∧ (i : Int) ≤ z.aj.length := by omega
        simp only [↓wR, RA, simprocAttr, TF, ag, h, hc]
        rw [gv]; refine ⟨fun ⟨h1, e1⟩ => ?_, fun ⟨h1, e1⟩ => ?_⟩
        · rw [if_pos e1] at hx
          simp only [↓wR, RA, simprocAttr, TF, ag, h1, ik, g8, gz]
          rw [hx]
        · rw [if_neg (by omega)] at hx
          simp only [↓wR, RA, simprocAttr, TF, ag, h1, hcs, hz, hi2, Lu]
          refine dr (fun r st' => r = .fg [] ∧ st' = bm [some (.row [.vl false 1 (z.origin.map (ak.val false)), .vl false 5 (z.aj.map (ah.val false))] 0 2 26), some (.row [.vl false 1 (z.origin.map (ak.val false)), .vl false 5 (z.aj.map (ah.val false)), .sc (.int .i64 (cw ((fun _ s => pa z s) i c) 267 e))] 0 2 180), some (.row [.sc (.bool (gw z))] 0 2 4), some (.row [.vl false 1 (z.origin.map (ak.val false)), .vl false 5 (z.aj.map (ah.val false))] 0 2 26), some (.row [.sc (.int .u16 2)] 0 2 28), some (.row [.vl false 1 (c.owner.map (ak.val false)), .sc (.int .u16 c.type.toNat), .sc (.int .u16 c.cls.toNat), .sc (.int .u32 c.n9.toNat), .vl false 4 (c.data.map (bq.val false))] 0 2 40)]) rfl ?_ ?_
          · refine bn (T := [dz, dg, gj, ji, jg, jh, ic, ki, n6, ko]) ok mixed Tryz.func126 rfl (by kernel_rfl) (by kernel_rfl) (by kernel_rfl) (by kernel_rfl) ?_; unfold Tryz.f126
            simp only [↓wR, RA, simprocAttr, TF, ag, e1]
            rw [cp]; refine ⟨fun hn2 => ?_, fun hn2 => ?_⟩
            · have hb : ((fun _ s => pa z s) i c) = false := by simpa only [Bool.not_eq_true'] using hn2
              have hv : cw ((fun _ s => pa z s) i c) 267 0 = 267 := by unfold cw; rw [if_pos ⟨rfl, hb⟩]
              simp only [↓wR, RA, simprocAttr, TF, ag, hn2, ik, g8, gz]
              try rw [hv]
            · have hb : ((fun _ s => pa z s) i c) = true := by simpa only [Bool.not_eq_false'] using hn2
              have hv : cw ((fun _ s => pa z s) i c) 267 0 = 0 := by unfold cw; rw [if_neg (fun q => by rw [hb] at q; cases q.2)]
              simp only [↓wR, RA, simprocAttr, TF, ag, hn2, ik, g8, gz]
              try rw [hv]
          rintro _ _ ⟨rfl, rfl⟩
          simp only [↓wR, RA, simprocAttr, TF, ag, gk]; repeat (simp (disch := omega) only [ai, cd, ca, cf, cb]; try simp only [↓wR, RA, simprocAttr, TF, ag, gk])
          exact ⟨(i + 1, cw ((fun _ s => pa z s) i c) 267 e), ⟨hlt, hx⟩, by simp; omega, by (first | rfl | trivial | omega | ((try (simp (disch := omega) only [ai])); (try (simp only [FB])); first | done | rfl | omega)), by (first | rfl | trivial | omega | ((try (simp (disch := omega) only [ai])); (try (simp only [FB])); first | done | rfl | omega))⟩
      · rw [fe (decide_eq_false h)] at hx
        simp only [↓wR, RA, simprocAttr, TF, ag, h, ik, g8, gz]
        rw [hx]; rfl
    rintro _ _ ⟨rfl, rfl⟩
    rw [← he0]
    clear he0
    simp only [↓wR, RA, simprocAttr, TF, ag, gk]
    rfl
noncomputable def Gd (x : bf × Unit) : Option AV := if cx x.1 then some ((r1 (bg .i64)).E true (ib x.1)) else none
set_option maxRecDepth 2000000 in
theorem ae0 (x : bf × Unit) (r : AV) (h : Gd x = some r) : bk PP 82 ((aC cy a0).E x) r := by
  by_cases hc : cx x.1
  case neg => simp only [Gd, if_neg hc] at h; cases h
  simp only [Gd, if_pos hc] at h
  cases h
  exact be (aw.cons (aq pn) (aw.cons (aq ee) (aw.cons (aq Il) (aw.cons (aq Mw) (aw.cons (aq Ny) (aw.cons (aq Oi) (aw.cons (aq J1) (aw.cons (aq Q7) (aw.cons (aq Wn) (aw.cons (aq Tu) (aw.nil PP))))))))))) Tryz.func82 (by kernel_rfl) (by kernel_rfl) (by kernel_rfl) (Nat.le_of_ble_eq_true (by kernel_rfl)) (r1 (bg .i64)) true (ib x.1) (Zn x.1 hc)
noncomputable abbrev ats : Nat × Bool × (List AV → M AV) := (82, true, dm (aC cy a0) Gd)
end Go.Proofs.YtidomogemfchpaaGreat
end
section
set_option linter.unusedSimpArgs false
set_option linter.unusedVariables false
namespace Go.Proofs.YtidomogemfchpaaGreat
open Go.Vm
set_option maxRecDepth 2000000
def ads (l : List bb) : Bool := l.all fun s => !decide ((20 : Int) < s.data.length)
def Ox (z : bf) : Bool := ads z.aj && decide ((z.aj.length : Int) ≤ 40)
theorem aup (z : bf) (hz : cx z) : wl PP [] 0 (Tryz.f9.body.getD .skip) (du PP Tryz.f9.results.toList (fun r st => (r1 bo).get true st.h r = some (Ox z))) (cq 0 [cy.val false z]) (bm []) := by
  have hl := hz.len
  unfold Tryz.f9
  simp only [iz]
  simp only [↓wR, RA, simprocAttr, TF, ag]
  refine dy [1, 3] (fun (i : Nat) => [.ptr 0 0, .sc (.int .i64 (i))]) (fun _ => [some (.row [.vl false 1 (z.origin.map (ak.val false)), .vl false 5 (z.aj.map (ah.val false))] 0 2 26)]) (fun i => i ≤ z.aj.length ∧ ads z.aj = ads (z.aj.drop i)) (fun i => z.aj.length - i) 0 ⟨Nat.zero_le _, rfl⟩ (by simp only [↓wR, RA, simprocAttr, TF, ag] <;> rfl) (by simp only [↓wR, RA, simprocAttr, TF, ag] <;> rfl) ?_
  rintro i ⟨hi, hx⟩
  simp only [↓wR, RA, simprocAttr, TF, ag]
  rw [b9]; refine ⟨fun h => ?_, fun h => ?_⟩
  · obtain ⟨c, hc, hd1, hlt⟩ := ec (decide_eq_true h)
    have hx' : ads z.aj = (!decide ((20 : Int) < c.data.length) && ads (z.aj.drop (i + 1))) := by rw [hx, hd1]; rfl
    simp only [↓wR, RA, simprocAttr, TF, ag, h, hc]; repeat (simp (disch := omega) only [ai, cd, ca, cf, cb]; try simp only [↓wR, RA, simprocAttr, TF, ag, h, hc])
    rw [b9]; refine ⟨fun h2 => ?_, fun h2 => ?_⟩
    · rw [decide_eq_true h2, Bool.not_true, Bool.false_and] at hx'
      simp only [↓wR, RA, simprocAttr, TF, ag, h2]; repeat (simp (disch := omega) only [ai, cd, ca, cf, cb]; try simp only [↓wR, RA, simprocAttr, TF, ag, h2])
      rw [Ox, hx']; rfl
    · rw [decide_eq_false h2, Bool.not_false, Bool.true_and] at hx'
      simp only [↓wR, RA, simprocAttr, TF, ag, h2]; repeat (simp (disch := omega) only [ai, cd, ca, cf, cb]; try simp only [↓wR, RA, simprocAttr, TF, ag, h2])
      exact ⟨i + 1, ⟨hlt, hx'⟩, by omega, by (first | rfl | trivial | omega | ((try (simp (disch := omega) only [ai])); (try (simp only [FB])); first | done | rfl | omega))⟩
  · rw [fe (decide_eq_false h)] at hx
    simp only [↓wR, RA, simprocAttr, TF, ag, h]
    rw [Ox, hx]; rfl
noncomputable def Th (x : bf × Unit) : Option AV := if cx x.1 then some ((r1 bo).E true (Ox x.1)) else none
set_option maxRecDepth 2000000 in
theorem ani (x : bf × Unit) (r : AV) (h : Th x = some r) : bk PP 9 ((aC cy a0).E x) r := by
  by_cases hc : cx x.1
  case neg => simp only [Th, if_neg hc] at h; cases h
  simp only [Th, if_pos hc] at h
  cases h
  exact be (aw.nil PP) Tryz.func9 (by kernel_rfl) (by kernel_rfl) (by kernel_rfl) (Nat.le_of_ble_eq_true (by kernel_rfl)) (r1 bo) true (Ox x.1) (aup x.1 hc)
noncomputable abbrev aur : Nat × Bool × (List AV → M AV) := (9, true, dm (aC cy a0) Th)
end Go.Proofs.YtidomogemfchpaaGreat
end
section
set_option linter.unusedSimpArgs false
set_option linter.unusedVariables false
namespace Go.Proofs.YtidomogemfchpaaGreat
open Go.Vm
set_option maxRecDepth 2000000
noncomputable def fv (z : bf) (n : Name) : Int := if ib z ≠ 0 then ib z else if dn n ≠ 0 then dn n else if dj n z.origin = false then 2 else 0
theorem aoc (z : bf) (n : Name) (hz : cx z) (hn : bd n) : wl PP [ats, dz, ri] 0 (Tryz.f107.body.getD .skip) (du PP Tryz.f107.results.toList (fun r st => (r1 (bg .i64)).get true st.h r = some (fv z n))) (cq 0 [cy.val false z, ar.val false n]) (bm []) := by
  unfold Tryz.f107
  simp only [iz, db]
  simp only [↓wR, RA, simprocAttr, TF, ag, Gd, hz]
  unfold fv
  rw [cp]; refine ⟨fun h => ?_, fun h => ?_⟩
  · have he : ib z ≠ 0 := by simpa using h
    rw [if_pos he]
    simp only [↓wR, RA, simprocAttr, TF, ag, h]
  have he : ib z = 0 := by simpa using h
  rw [if_neg (by omega)]
  simp only [↓wR, RA, simprocAttr, TF, ag, h, nv, hn.fit]
  rw [cp]; refine ⟨fun h2 => ?_, fun h2 => ?_⟩
  · have he : dn n ≠ 0 := by simpa using h2
    rw [if_pos he]
    simp only [↓wR, RA, simprocAttr, TF, ag, h2]
  have he2 : dn n = 0 := by simpa using h2
  rw [if_neg (by omega)]
  simp only [↓wR, RA, simprocAttr, TF, ag, h2, i9, hn, hz.origin]
  rw [cp]; refine ⟨fun h3 => ?_, fun h3 => ?_⟩
  · have h3' : dj n z.origin = false := by simpa only [Bool.not_eq_true'] using h3
    rw [if_pos h3']
    simp only [↓wR, RA, simprocAttr, TF, ag, h3]
  · have h3' : dj n z.origin = true := by simpa only [Bool.not_eq_false'] using h3
    rw [if_neg (by rw [h3']; decide)]
    simp only [↓wR, RA, simprocAttr, TF, ag, h3]
noncomputable def F4 (x : bf × Name × Unit) : Option AV := if cx x.1 ∧ bd x.2.1 then some ((r1 (bg .i64)).E true (fv x.1 x.2.1)) else none
set_option maxRecDepth 2000000 in
theorem aed (x : bf × Name × Unit) (r : AV) (h : F4 x = some r) : bk PP 107 ((aC cy (aC ar a0)).E x) r := by
  by_cases hc : cx x.1 ∧ bd x.2.1
  case neg => simp only [F4, if_neg hc] at h; cases h
  simp only [F4, if_pos hc] at h
  cases h
  exact be (aw.cons (aq ae0) (aw.cons (aq pn) (aw.cons (aq lu) (aw.nil PP)))) Tryz.func107 (by kernel_rfl) (by kernel_rfl) (by kernel_rfl) (Nat.le_of_ble_eq_true (by kernel_rfl)) (r1 (bg .i64)) true (fv x.1 x.2.1) (aoc x.1 x.2.1 hc.1 hc.2)
noncomputable abbrev atr : Nat × Bool × (List AV → M AV) := (107, true, dm (aC cy (aC ar a0)) F4)
def dp (z : bf) : Name → Name
  | [] => []
  | a :: r => if py z (a :: r) = true then a :: r else dp z r
theorem Hu {z : bf} {m : Name} (hu : dj m z.origin = true) (hh : py z m = false) : ∃ a r, m = a :: r ∧ dj r z.origin = true ∧ dp z m = dp z r := by
  have hs : dk m z.origin = false := by
    unfold py at hh
    rw [hu, Bool.true_and] at hh
    cases h : dk m z.origin with
    | false => rfl
    | true => rw [h] at hh; cases hh
  have hu' : gm z.origin <:+ gm m := by simpa [dj] using hu
  have hs' : gm m ≠ gm z.origin := by simpa [dk] using hs
  cases m with
  | nil => exact (hs' (List.suffix_nil.1 (by simpa only [gm, List.map_nil] using hu')).symm).elim
  | cons a r =>
    refine ⟨a, r, rfl, ?_, by rw [dp, if_neg (by rw [hh]; decide)]⟩
    have h2 : gm z.origin <:+ fold a :: gm r := hu'
    rcases List.suffix_cons_iff.1 h2 with h3 | h3
    · exact (hs' h3.symm).elim
    · simpa [dj] using h3
theorem A5 {z : bf} {m : Name} (hh : py z m = true) : dp z m = m := by
  cases m with
  | nil => rfl
  | cons a r => rw [dp, if_pos hh]
theorem aic (z : bf) (n : Name) (hz : cx z) (hn : bd n) (hu : dj n z.origin = true) : wl PP [ata, p0] 0 (Tryz.f108.body.getD .skip) (du PP Tryz.f108.results.toList (fun r st => (r1 ar).get true st.h r = some (dp z n))) (cq 0 [cy.val false z, ar.val false n]) (bm []) := by
  unfold Tryz.f108
  simp only [iz, db]
  simp only [↓wR, RA, simprocAttr, TF, ag]
  refine dy [1, 2] (fun (m : Name) => [.vl false 1 (m.map (ak.val false)), .ptr 0 0]) (fun _ => [some (.row [.vl false 1 (z.origin.map (ak.val false)), .vl false 5 (z.aj.map (ah.val false))] 0 2 26)]) (fun m => bd m ∧ dj m z.origin = true ∧ dp z n = dp z m) (fun m => m.length) n ⟨hn, hu, rfl⟩ (by simp only [↓wR, RA, simprocAttr, TF, ag] <;> rfl) (by simp only [↓wR, RA, simprocAttr, TF, ag] <;> rfl) ?_
  rintro m ⟨hm, hmu, hx⟩
  simp only [↓wR, RA, simprocAttr, TF, ag, Mb, hz, hm]
  rw [cp]; refine ⟨fun h => ?_, fun h => ?_⟩
  · simp only [↓wR, RA, simprocAttr, TF, ag, h, kn, hm]
    rw [hx, A5 h]
  · obtain ⟨a, r, rfl, hru, hcr⟩ := Hu hmu h
    have hr : bd r := hm.drop 1
    rw [hcr] at hx
    simp only [↓wR, RA, simprocAttr, TF, ag, h]
    exact ⟨r, ⟨hr, hru, hx⟩, by simp, rfl⟩
noncomputable def Bn (x : bf × Name × Unit) : Option AV := if (cx x.1 ∧ bd x.2.1) ∧ dj x.2.1 x.1.origin = true then some ((r1 ar).E true (dp x.1 x.2.1)) else none
set_option maxRecDepth 2000000 in
theorem Xz (x : bf × Name × Unit) (r : AV) (h : Bn x = some r) : bk PP 108 ((aC cy (aC ar a0)).E x) r := by
  by_cases hc : (cx x.1 ∧ bd x.2.1) ∧ dj x.2.1 x.1.origin = true
  case neg => simp only [Bn, if_neg hc] at h; cases h
  simp only [Bn, if_pos hc] at h
  cases h
  exact be (aw.cons (aq Ve) (aw.cons (aq mq) (aw.nil PP))) Tryz.func108 (by kernel_rfl) (by kernel_rfl) (by kernel_rfl) (Nat.le_of_ble_eq_true (by kernel_rfl)) (r1 ar) true (dp x.1 x.2.1) (aic x.1 x.2.1 hc.1.1 hc.1.2 hc.2)
noncomputable abbrev apl : Nat × Bool × (List AV → M AV) := (108, true, dm (aC cy (aC ar a0)) Bn)
theorem z9 (z : bf) (n : Name) : ∃ k, dp z n = n.drop k := by
  induction n with
  | nil => exact ⟨0, rfl⟩
  | cons a r ih =>
    unfold dp
    split
    · exact ⟨0, rfl⟩
    · obtain ⟨k, hk⟩ := ih; exact ⟨k + 1, by rw [hk]; rfl⟩
theorem Yc {z : bf} {n : Name} (hn : bd n) : bd (dp z n) := by
  obtain ⟨k, hk⟩ := z9 z n
  rw [hk]; exact hn.drop k
theorem ao5 (n : Name) (hn : bd n) : wl PP [] 0 (Tryz.f110.body.getD .skip) (du PP Tryz.f110.results.toList (fun r st => (r1 ar).get true st.h r = some (s5 :: n))) (cq 0 [ar.val false n]) (bm []) := by
  have hl := hn.lt
  have hlim : (n.length + 1) * 16 ≤ 140737488355328 := by omega
  unfold Tryz.f110
  simp only [db]
  simp only [↓wR, RA, simprocAttr, TF, ag, hlim, Nat.add_comm 1 n.length]
  rfl
noncomputable def Fz (x : Name × Unit) : Option AV := if bd x.1 then some ((r1 ar).E true (s5 :: x.1)) else none
set_option maxRecDepth 2000000 in
theorem ai4 (x : Name × Unit) (r : AV) (h : Fz x = some r) : bk PP 110 ((aC ar a0).E x) r := by
  by_cases hc : bd x.1
  case neg => simp only [Fz, if_neg hc] at h; cases h
  simp only [Fz, if_pos hc] at h
  cases h
  exact be (aw.nil PP) Tryz.func110 (by kernel_rfl) (by kernel_rfl) (by kernel_rfl) (Nat.le_of_ble_eq_true (by kernel_rfl)) (r1 ar) true (s5 :: x.1) (ao5 x.1 hc)
noncomputable abbrev avk : Nat × Bool × (List AV → M AV) := (110, true, dm (aC ar a0) Fz)
theorem Ya (n : Name) (k : Nat) : bj (n.drop k) ≤ bj n := by
  have := kg (n.take k) (n.drop k)
  rw [List.take_append_drop] at this
  have h1 := (pc (n.take k) 0).2
  omega
theorem Qt {z : bf} {n : Name} (h : dn n = 0) : bd (s5 :: dp z n) := by
  obtain ⟨k, hk⟩ := z9 z n
  have h1 := Ya n k
  have h2 := qm h
  have h3 := kg [s5] (dp z n)
  have h4 : bj [s5] = 3 := rfl
  rw [hk] at h3 ⊢
  simp only [List.singleton_append] at h3
  unfold bd
  omega
theorem px {z : bf} {n : Name} (h : fv z n = 0) : ib z = 0 ∧ dn n = 0 ∧ dj n z.origin = true := by
  unfold fv at h
  split at h
  · contradiction
  split at h
  · contradiction
  split at h
  · cases h
  · rename_i h1 h2 h3
    exact ⟨by omega, by omega, by simpa using h3⟩
noncomputable def i5 (z : bf) (n : Name) : Au × Int :=
  if fv z n ≠ 0 then (ud 0 [] [], fv z n)
  else match lg z n with
    | some c => (ud 4 c [], 0)
    | none =>
      if 0 < (ju z n).length then (ud 1 n (dp z n), 0)
      else if (dp z n).length = n.length then (ud 2 [] (dp z n), 0)
      else if py z (s5 :: dp z n) = true then (ud 3 (s5 :: dp z n) (dp z n), 0)
      else (ud 0 [] (dp z n), 0)
theorem arz (z : bf) (n : Name) (hz : cx z) (hn : bd n) : wl PP [atr, auq, apl, zAt, p0, avk, ata] 0 (Tryz.f72.body.getD .skip) (du PP Tryz.f72.results.toList (fun r st => (r2 qn (bg .i64)).get true st.h r = some (i5 z n))) (cq 0 [cy.val false z, ar.val false n]) (bm []) := by
  unfold Tryz.f72
  simp only [iz, db]
  simp only [↓wR, RA, simprocAttr, TF, ag, F4, hz, hn]
  unfold i5
  rw [cp]; refine ⟨fun h => ?_, fun h => ?_⟩
  · have he : fv z n ≠ 0 := by simpa using h
    rw [if_pos he]
    simp only [↓wR, RA, simprocAttr, TF, ag, h]
  have he : fv z n = 0 := by simpa using h
  obtain ⟨a1, a2, a3⟩ := px he
  rw [if_neg (by omega)]
  have hcs := Yc (z := z) hn
  have hst := Qt (z := z) a2
  cases hc : lg z n with
  | some c =>
    simp only [↓wR, RA, simprocAttr, TF, ag, h, E0, hz, hn, hc]
  | none =>
    simp only [↓wR, RA, simprocAttr, TF, ag, h, E0, hz, hn, hc, Option.isSome_none, Bn, a3, Z8]
    rw [b9]; refine ⟨fun h1 => ?_, fun h1 => ?_⟩
    · rw [if_pos (by omega)]
      simp only [↓wR, RA, simprocAttr, TF, ag, h1, kn, hn]
    rw [if_neg (by omega)]
    simp only [↓wR, RA, simprocAttr, TF, ag, h1]
    rw [c7]; refine ⟨fun ⟨h2, e2⟩ => ?_, fun ⟨h2, e2⟩ => ?_⟩
    · rw [if_pos (by omega)]
      simp only [↓wR, RA, simprocAttr, TF, ag, h2]
    rw [if_neg (by omega)]
    simp only [↓wR, RA, simprocAttr, TF, ag, h2]
    refine ⟨by kernel_rfl, .inl ?_⟩
    simp only [↓wR, RA, simprocAttr, TF, ag, Fz, hcs, Mb, hz, hst]
    refine ⟨by kernel_rfl, ?_⟩
    rw [cp]; refine ⟨fun h3 => ?_, fun h3 => ?_⟩
    · rw [if_pos h3]
      simp only [↓wR, RA, simprocAttr, TF, ag, h3, Fz, hcs]
    · rw [if_neg (by rw [h3]; decide)]
      simp only [↓wR, RA, simprocAttr, TF, ag, h3]
noncomputable def l8 (x : bf × Name × Unit) : Option AV := if cx x.1 ∧ bd x.2.1 then some ((r2 qn (bg .i64)).E true (i5 x.1 x.2.1)) else none
set_option maxRecDepth 2000000 in
theorem Hm (x : bf × Name × Unit) (r : AV) (h : l8 x = some r) : bk PP 72 ((aC cy (aC ar a0)).E x) r := by
  by_cases hc : cx x.1 ∧ bd x.2.1
  case neg => simp only [l8, if_neg hc] at h; cases h
  simp only [l8, if_pos hc] at h
  cases h
  exact be (aw.cons (aq aed) (aw.cons (aq Wc) (aw.cons (aq Xz) (aw.cons (aq aoa) (aw.cons (aq mq) (aw.cons (aq ai4) (aw.cons (aq Ve) (aw.nil PP)))))))) Tryz.func72 (by kernel_rfl) (by kernel_rfl) (by kernel_rfl) (Nat.le_of_ble_eq_true (by kernel_rfl)) (r2 qn (bg .i64)) true (i5 x.1 x.2.1) (arz x.1 x.2.1 hc.1 hc.2)
noncomputable abbrev Yr : Nat × Bool × (List AV → M AV) := (72, true, dm (aC cy (aC ar a0)) l8)
end Go.Proofs.YtidomogemfchpaaGreat
end
section
namespace Go.Proofs.YtidomogemfchpaaGreat
open Go.Vm
theorem wg {err : Int} (he : err ≠ 0) (p : Nat → bb → Bool) : ∀ (l : List bb) (i : Nat) (e : Int), fp err p i l e = 0 → e = 0 ∧ ∀ k s, l[k]? = some s → p (i + k) s = true := by
  intro l
  induction l with
  | nil => intro i e h; exact ⟨h, fun k s hs => by simp at hs⟩
  | cons a l ih =>
    intro i e h
    rw [fp] at h
    split at h
    · contradiction
    · rename_i h0
      have h0 : e = 0 := by omega
      obtain ⟨h1, h2⟩ := ih (i + 1) _ h
      refine ⟨h0, fun k s hs => ?_⟩
      cases k with
      | zero =>
        simp at hs
        subst hs
        cases hp : p i a with
        | true => simp [hp]
        | false => rw [cw, if_pos ⟨h0, hp⟩] at h1; exact (he h1).elim
      | succ k =>
        have := h2 k s (by simpa using hs)
        rwa [show i + 1 + k = i + (k + 1) from by omega] at this
theorem Rt {b : Bool} {err e : Int} (he : err ≠ 0) (h : cw b err e = 0) : e = 0 ∧ b = true := by
  unfold cw at h
  split at h
  · exact (he h).elim
  · rename_i hn
    refine ⟨h, ?_⟩
    cases b with
    | true => rfl
    | false => exact (hn ⟨h, rfl⟩).elim
structure H9 (z : bf) : Prop where
  first : ub z = 0
  avl : ∀ k s, z.aj[k]? = some s → j3 z k s = true
  cls : ∀ s ∈ z.aj, mz s = true
  inside : ∀ s ∈ z.aj, dj s.owner z.origin = true
  awd : (fy z).1 = 1 ∧ (fy z).2 = 1
  aw3 : gw z = true
  alone : ∀ k s, z.aj[k]? = some s → i6 z k s = true
  star : ∀ s ∈ z.aj, kh s = true
  occ : ∀ s ∈ z.aj, pa z s = true
theorem H5 {z : bf} (h : ib z = 0) : H9 z := by
  unfold ib at h
  split at h
  · contradiction
  rename_i h0
  obtain ⟨h7, p8⟩ := wg (by decide) _ _ _ _ h
  obtain ⟨h6, p7⟩ := wg (by decide) _ _ _ _ h7
  obtain ⟨h5, p6⟩ := wg (by decide) _ _ _ _ h6
  obtain ⟨h4, p5⟩ := Rt (by decide) h5
  obtain ⟨h3, p4⟩ := Rt (by decide) h4
  obtain ⟨h2, p3⟩ := wg (by decide) _ _ _ _ h3
  obtain ⟨h1, p2⟩ := wg (by decide) _ _ _ _ h2
  obtain ⟨_, p1⟩ := wg (by decide) _ _ _ _ h1
  have mem : ∀ (p : bb → Bool), (∀ k s, z.aj[k]? = some s → p s = true) → ∀ s ∈ z.aj, p s = true := fun p hp s hs => by
    obtain ⟨k, hk, rfl⟩ := List.getElem_of_mem hs
    exact hp k _ (List.getElem?_eq_getElem hk)
  simp only [Bool.and_eq_true, decide_eq_true_eq] at p4
  exact ⟨by omega, fun k s hs => by simpa using p1 k s hs, mem _ p2, mem _ p3, p4, p5, fun k s hs => by simpa using p6 k s hs, mem _ p7, mem _ p8⟩
theorem kl {a b : Name} : dk a b = true ↔ gm a = gm b := by simp [dk]
theorem wj {a b : Name} : dj a b = true ↔ gm b <:+ gm a := by simp [dj]
theorem aif {a b : Name} (h : dk a b = true) : dj a b = true := wj.2 (by rw [kl.1 h]; exact List.suffix_refl _)
theorem aep {a b c : Name} (h1 : dj a b = true) (h2 : dj b c = true) : dj a c = true := wj.2 ((wj.1 h2).trans (wj.1 h1))
theorem Jv {a b : Name} (h : dk a b = true) : dk b a = true := kl.2 (kl.1 h).symm
theorem afi {a a' b : Name} (h : dk a a' = true) : dj a b = dj a' b := by simp only [dj, kl.1 h]
end Go.Proofs.YtidomogemfchpaaGreat
end
section
namespace Go.Proofs.YtidomogemfchpaaGreat
open Go.Vm
theorem Ln (a : Name) : dk a a = true := kl.2 rfl
theorem S0 (a : Name) : dj a a = true := wj.2 (List.suffix_refl _)
theorem ah6 (a : ByteArray) (n : Name) : dj (a :: n) n = true := wj.2 (List.suffix_cons _ _)
theorem Yb {z : bf} : ∀ {n : Name}, dj n z.origin = true → py z (dp z n) = true ∧ dj n (dp z n) = true := by
  intro n
  induction n with
  | nil =>
    intro hu
    cases hh : py z [] with
    | true => exact ⟨hh, S0 _⟩
    | false => obtain ⟨a, r, h, _⟩ := Hu hu hh; cases h
  | cons a n ih =>
    intro hu
    cases hh : py z (a :: n) with
    | true => rw [A5 hh]; exact ⟨hh, S0 _⟩
    | false =>
      obtain ⟨a', r, h, hr, hc⟩ := Hu hu hh
      cases h
      rw [hc]
      obtain ⟨h1, h2⟩ := ih hr
      exact ⟨h1, aep (ah6 a n) h2⟩
theorem aj6 {z : bf} {n : Name} (h : (dp z n).length = n.length) : dp z n = n := by
  obtain ⟨k, hk⟩ := z9 z n
  rw [hk] at h ⊢
  rw [List.length_drop] at h
  cases n with
  | nil => exact List.drop_nil
  | cons a n =>
    have : k = 0 := by simp at h; omega
    rw [this]; rfl
theorem ab7 {z : bf} {n : Name} (h : (dp z n).length ≠ n.length) : py z n = false := by
  cases hh : py z n with
  | false => rfl
  | true => rw [A5 hh] at h; exact (h rfl).elim
theorem at5 {z : bf} {n : Name} (hg : H9 z) (hp : 0 < (ju z n).length) : py z n = true := by
  obtain ⟨s, hs⟩ := List.exists_mem_of_length_pos hp
  obtain ⟨hs1, hs2⟩ := List.mem_filter.1 hs
  have hi := hg.inside s hs1
  unfold py
  rw [← afi hs2, hi, Bool.true_and, Bool.or_eq_true]
  exact .inr (List.any_eq_true.2 ⟨s, hs1, aif hs2⟩)
inductive at9 (z : bf) (n : Name) : Prop
  | beyond (c : Name) (hc : lg z n = some c) (h : i5 z n = (ud 4 c [], 0))
  | exact (hc : lg z n = none) (hp : 0 < (ju z n).length) (hh : py z n = true) (h : i5 z n = (ud 1 n n, 0))
  | empty (hc : lg z n = none) (hp : ju z n = []) (hh : py z n = true) (h : i5 z n = (ud 2 [] n, 0))
  | awb (hc : lg z n = none) (hp : ju z n = []) (hh : py z n = false) (hs : py z (s5 :: dp z n) = true) (h : i5 z n = (ud 3 (s5 :: dp z n) (dp z n), 0))
  | none (hc : lg z n = none) (hp : ju z n = []) (hh : py z n = false) (hs : py z (s5 :: dp z n) = false) (h : i5 z n = (ud 0 [] (dp z n), 0))
theorem agl {z : bf} {n : Name} (h : fv z n = 0) : at9 z n := by
  obtain ⟨h1, h2, h3⟩ := px h
  have hg := H5 h1
  have hf : i5 z n = match lg z n with
    | some c => (ud 4 c [], 0)
    | none =>
      if 0 < (ju z n).length then (ud 1 n (dp z n), 0)
      else if (dp z n).length = n.length then (ud 2 [] (dp z n), 0)
      else if py z (s5 :: dp z n) = true then (ud 3 (s5 :: dp z n) (dp z n), 0)
      else (ud 0 [] (dp z n), 0) := by unfold i5; rw [if_neg (by omega)] <;> rfl
  cases hc : lg z n with
  | some c => rw [hc] at hf; exact .beyond c hc hf
  | none =>
    rw [hc] at hf
    simp only at hf
    split at hf
    · rename_i hp
      have hh := at5 hg hp
      rw [A5 hh] at hf
      exact .exact hc hp hh hf
    rename_i hp
    have hp : ju z n = [] := List.eq_nil_of_length_eq_zero (by omega)
    split at hf
    · rename_i hl
      have he := aj6 hl
      have hh := (Yb h3).1
      rw [he] at hh hf
      exact .empty hc hp hh hf
    rename_i hl
    have hh := ab7 hl
    split at hf
    · rename_i hs; exact .awb hc hp hh hs hf
    · rename_i hs; exact .none hc hp hh (by simpa using hs) hf
theorem adp {z : bf} {n : Name} (h : fv z n ≠ 0) : i5 z n = (ud 0 [] [], fv z n) := by unfold i5; rw [if_pos h]
end Go.Proofs.YtidomogemfchpaaGreat
end
section
set_option linter.unusedSimpArgs false
set_option linter.unusedVariables false
namespace Go.Proofs.YtidomogemfchpaaGreat
open Go.Vm
set_option maxRecDepth 2000000
def Bm (l : List bb) : Prop := gh nk l ≤ 16777216
instance (l : List bb) : Decidable (Bm l) := inferInstanceAs (Decidable (_ ≤ _))
theorem Bm.mem {l : List bb} (h : Bm l) : ∀ s ∈ l, c8 s := fun s hs => by
  have h1 : nk s < gh nk l := Ak hs
  unfold Bm at h; unfold c8; omega
theorem Bm.len {l : List bb} (h : Bm l) : l.length ≤ 16777216 := Nat.le_trans (wi nk l) h
theorem cx.aj {z : bf} (h : cx z) : Bm z.aj := by unfold cx Nu at h; unfold Bm; omega
def O7 (l : List bb) : Prop := l.length ≤ 281474976710656 ∧ ∀ s ∈ l, c8 s
instance (l : List bb) : Decidable (O7 l) := inferInstanceAs (Decidable (_ ∧ _))
theorem cx.mid {z : bf} (h : cx z) : O7 z.aj := ⟨Nat.le_trans h.aj.len (by decide), h.aj.mem⟩
def qp (n : Name) (t : UInt16) (s : bb) : Bool := decide ((s.type.toNat : Int) = t.toNat) && (decide ((s.cls.toNat : Int) = 1) && dk s.owner n)
def mu (l : List bb) (n : Name) (t : UInt16) : Option bb := l.find? (qp n t)
def Uk : bb := mkS [] 0 0 0 []
theorem Ux {l : List bb} {p : bb → Bool} {i : Nat} {c : bb} (h : l.drop i = c :: l.drop (i + 1)) : (l.drop i).find? p = if p c = true then some c else (l.drop (i + 1)).find? p := by
  rw [h, List.find?_cons]; split <;> simp_all
theorem am6 (l : List bb) (n : Name) (t : UInt16) (hl : O7 l) (hn : bd n) : wl PP [dg, wk] 0 (Tryz.f11.body.getD .skip) (du PP Tryz.f11.results.toList (fun r st => (r2 ah bo).get true st.h r = some ((mu l n t).getD Uk, (mu l n t).isSome))) (cq 0 [(ct ah).val false l, ar.val false n, cz.val false t]) (bm []) := by
  have hlen := hl.1
  unfold Tryz.f11
  simp only [db]
  simp only [↓wR, RA, simprocAttr, TF, ag]
  refine dy [1, 2, 6, 10, 11, 12] (fun (i : Nat) => [.vl false 1 (n.map (ak.val false)), .sc (.int .u16 t.toNat), .ptr 0 0, .vl false 5 (l.map (ah.val false)), .sc (.int .i64 (l.length)), .sc (.int .i64 (i))]) (fun _ => [some (.row [.sc (.slice none 0 0), .sc (.int .u16 0), .sc (.int .u16 0), .sc (.int .u32 0), .sc (.slice none 0 0)] 0 2 40)]) (fun i => i ≤ l.length ∧ mu l n t = (l.drop i).find? (qp n t)) (fun i => l.length - i) 0 ⟨Nat.zero_le _, rfl⟩ (by simp only [↓wR, RA, simprocAttr, TF, ag] <;> rfl) (by simp only [↓wR, RA, simprocAttr, TF, ag] <;> rfl) ?_
  rintro i ⟨hi, hx⟩
  simp only [↓wR, RA, simprocAttr, TF, ag]
  rw [b9]; refine ⟨fun h => ?_, fun h => ?_⟩
  · obtain ⟨c, hc, hd1, hlt⟩ := ec (decide_eq_true h)
    rw [Ux hd1] at hx
    have hcs := hl.2 c (List.mem_of_getElem? hc)
    simp only [↓wR, RA, simprocAttr, TF, ag, h, hc]
    rw [c7]; refine ⟨fun ⟨h1, e1⟩ => ?_, fun ⟨h1, e1⟩ => ?_⟩
    · simp only [↓wR, RA, simprocAttr, TF, ag, h1]
      rw [c7]; refine ⟨fun ⟨h2, e2⟩ => ?_, fun ⟨h2, e2⟩ => ?_⟩
      · simp only [↓wR, RA, simprocAttr, TF, ag, h2, gi, hcs.owner, hn]
        rw [cp]; refine ⟨fun h3 => ?_, fun h3 => ?_⟩
        · have hp : qp n t c = true := by simp [qp, e1, e2, h3]
          rw [if_pos hp] at hx
          simp only [↓wR, RA, simprocAttr, TF, ag, h3, om, hcs, hx]; repeat (simp (disch := omega) only [ai, cd, ca, cf, cb]; try simp only [↓wR, RA, simprocAttr, TF, ag, h3, om, hcs, hx])
        · have hp : qp n t c = false := by simp [qp, h3]
          rw [hp, if_neg (by decide)] at hx
          simp only [↓wR, RA, simprocAttr, TF, ag, h3]; repeat (simp (disch := omega) only [ai, cd, ca, cf, cb]; try simp only [↓wR, RA, simprocAttr, TF, ag, h3])
          exact ⟨i + 1, ⟨hlt, hx⟩, by omega, by (first | rfl | trivial | omega | ((try (simp (disch := omega) only [ai])); (try (simp only [FB])); first | done | rfl | omega))⟩
      · have hp : qp n t c = false := by simp [qp, e2]
        rw [hp, if_neg (by decide)] at hx
        simp only [↓wR, RA, simprocAttr, TF, ag, h2]; repeat (simp (disch := omega) only [ai, cd, ca, cf, cb]; try simp only [↓wR, RA, simprocAttr, TF, ag, h2])
        exact ⟨i + 1, ⟨hlt, hx⟩, by omega, by (first | rfl | trivial | omega | ((try (simp (disch := omega) only [ai])); (try (simp only [FB])); first | done | rfl | omega))⟩
    · have hp : qp n t c = false := by simp [qp, e1]
      rw [hp, if_neg (by decide)] at hx
      simp only [↓wR, RA, simprocAttr, TF, ag, h1]; repeat (simp (disch := omega) only [ai, cd, ca, cf, cb]; try simp only [↓wR, RA, simprocAttr, TF, ag, h1])
      exact ⟨i + 1, ⟨hlt, hx⟩, by omega, by (first | rfl | trivial | omega | ((try (simp (disch := omega) only [ai])); (try (simp only [FB])); first | done | rfl | omega))⟩
  · rw [fe (decide_eq_false h), List.find?_nil] at hx
    simp only [↓wR, RA, simprocAttr, TF, ag, h, hx]
    rfl
noncomputable def ql (x : List bb × Name × UInt16 × Unit) : Option AV := if O7 x.1 ∧ bd x.2.1 then some ((r2 ah bo).E true (((mu x.1 x.2.1 x.2.2.1).getD Uk, (mu x.1 x.2.1 x.2.2.1).isSome))) else none
set_option maxRecDepth 2000000 in
theorem A3 (x : List bb × Name × UInt16 × Unit) (r : AV) (h : ql x = some r) : bk PP 11 ((aC (ct ah) (aC ar (aC cz a0))).E x) r := by
  by_cases hc : O7 x.1 ∧ bd x.2.1
  case neg => simp only [ql, if_neg hc] at h; cases h
  simp only [ql, if_pos hc] at h
  cases h
  exact be (aw.cons (aq ee) (aw.cons (aq sj) (aw.nil PP))) Tryz.func11 (by kernel_rfl) (by kernel_rfl) (by kernel_rfl) (Nat.le_of_ble_eq_true (by kernel_rfl)) (r2 ah bo) true (((mu x.1 x.2.1 x.2.2.1).getD Uk, (mu x.1 x.2.1 x.2.2.1).isSome)) (am6 x.1 x.2.1 x.2.2.1 hc.1 hc.2)
noncomputable abbrev Dn : Nat × Bool × (List AV → M AV) := (11, true, dm (aC (ct ah) (aC ar (aC cz a0))) ql)
theorem arb (fr h) : cz.ew fr h (.sc (.int .u16 1)) = some 1 := vt fr h 1
theorem aqf (fr h) : cz.ew fr h (.sc (.int .u16 2)) = some 2 := vt fr h 2
theorem aqd (fr h) : cz.ew fr h (.sc (.int .u16 5)) = some 5 := vt fr h 5
theorem aq8 (fr h) : cz.ew fr h (.sc (.int .u16 6)) = some 6 := vt fr h 6
theorem anp (fr h) : cz.ew fr h (.sc (.int .u16 28)) = some 28 := vt fr h 28
theorem atk : type_of% @arb ∧ type_of% @aqf ∧ type_of% @aqd ∧ type_of% @aq8 ∧ type_of% @anp := ⟨@arb, @aqf, @aqd, @aq8, @anp⟩
theorem Kb (fr h k st et) (s : bb) : lj ah fr h 0 1 (.row [.vl true 1 (s.owner.map (ak.val false)), .sc (.int .u16 s.type.toNat), .sc (.int .u16 s.cls.toNat), .sc (.int .u32 s.n9.toNat), .vl true 4 (s.data.map (bq.val true))] k st et) = some [s] := vk ah fr h true [s] k st et 1 rfl rfl
theorem l7.auf {az : Nat} {vs vs' : List AV} {os os' : List (Option ba)} (hp : az ≤ 1000) (hV : AV.c9.go (fun o => idx (sg az vs os) o 0) vs = vs') (hO : g6 (bm os).h (fun o => idx (sg az vs os) o 0) (sg az vs os) = os') : l7 az vs os vs' os' := by
  subst hV hO; exact l7.canon hp
noncomputable def lr (z : bf) (n : Name) (t : UInt16) : Au × Int :=
  if (i5 z n).2 = 0 ∧ ((t.toNat : Int) = 0 ∨ (t.toNat : Int) = 41) then (ud 0 [] [], 6) else i5 z n
theorem am5 (z : bf) (n : Name) (t : UInt16) (hz : cx z) (hn : bd n) : wl PP [Yr] 0 (Tryz.f35.body.getD .skip) (du PP Tryz.f35.results.toList (fun r st => (r2 qn (bg .i64)).get true st.h r = some (lr z n t))) (cq 0 [cy.val false z, ar.val false n, cz.val false t]) (bm []) := by
  unfold Tryz.f35
  simp only [iz, db]
  unfold lr
  rcases hf : i5 z n with ⟨⟨k, nd, cl⟩, e⟩
  simp only [↓wR, RA, simprocAttr, TF, ag, l8, hz, hn, hf]
  rw [c7]; refine ⟨fun ⟨h1, e1⟩ => ?_, fun ⟨h1, e1⟩ => ?_⟩
  · simp only [↓wR, RA, simprocAttr, TF, ag, h1]
    rw [c7]; refine ⟨fun ⟨h2, e2⟩ => ?_, fun ⟨h2, e2⟩ => ?_⟩
    · rw [if_pos ⟨e1, .inl e2⟩]
      simp only [↓wR, RA, simprocAttr, TF, ag, h2]
    · simp only [↓wR, RA, simprocAttr, TF, ag, h2]
      rw [c7]; refine ⟨fun ⟨h3, e3⟩ => ?_, fun ⟨h3, e3⟩ => ?_⟩
      · rw [if_pos ⟨e1, .inr e3⟩]
        simp only [↓wR, RA, simprocAttr, TF, ag, h3]
      · rw [if_neg (fun q => q.2.elim e2 e3)]
        simp only [↓wR, RA, simprocAttr, TF, ag, h3]
        rfl
  · rw [if_neg (fun q => e1 q.1)]
    simp only [↓wR, RA, simprocAttr, TF, ag, h1]
    rfl
noncomputable def xx (x : bf × Name × UInt16 × Unit) : Option AV := if cx x.1 ∧ bd x.2.1 then some ((r2 qn (bg .i64)).E true (lr x.1 x.2.1 x.2.2.1)) else none
set_option maxRecDepth 2000000 in
theorem Oq (x : bf × Name × UInt16 × Unit) (r : AV) (h : xx x = some r) : bk PP 35 ((aC cy (aC ar (aC cz a0))).E x) r := by
  by_cases hc : cx x.1 ∧ bd x.2.1
  case neg => simp only [xx, if_neg hc] at h; cases h
  simp only [xx, if_pos hc] at h
  cases h
  exact be (aw.cons (aq Hm) (aw.nil PP)) Tryz.func35 (by kernel_rfl) (by kernel_rfl) (by kernel_rfl) (Nat.le_of_ble_eq_true (by kernel_rfl)) (r2 qn (bg .i64)) true (lr x.1 x.2.1 x.2.2.1) (am5 x.1 x.2.1 x.2.2.1 hc.1 hc.2)
noncomputable abbrev Tt : Nat × Bool × (List AV → M AV) := (35, true, dm (aC cy (aC ar (aC cz a0))) xx)
theorem Fa {s : bb} (h : oo s = 0) : ∃ d, s.data[0]? = some d ∧ eu s.type d = 0 := by
  unfold oo at h
  split at h
  · contradiction
  split at h
  · cases h
  rename_i _ q
  split at h
  · cases h
  cases hd : s.data with
  | nil => exact (q (by rw [hd]; rfl)).elim
  | cons d r =>
    rw [hd, rk] at h
    split at h
    · contradiction
    · rename_i q; exact ⟨d, rfl, by omega⟩
theorem Rc {s : bb} (h : oo s = 0) : ∀ d ∈ s.data, eu s.type d = 0 := by
  have key : ∀ (l pre : List c0), rk s.type pre l = 0 → ∀ d ∈ l, eu s.type d = 0 := by
    intro l
    induction l with
    | nil => intro pre _ d hd; cases hd
    | cons a l ih =>
      intro pre h d hd
      rw [rk] at h
      split at h
      · contradiction
      split at h
      · cases h
      rcases List.mem_cons.1 hd with rfl | hd
      · omega
      · exact ih _ h d hd
  unfold oo at h
  split at h
  · contradiction
  split at h
  · cases h
  split at h
  · cases h
  exact key _ _ h
theorem Hz {t : UInt16} {d : c0} (h : eu t d = 0) : (d.names.length : Int) = (je t).names ∧ (d.nums.length : Int) = (je t).nums := by
  have hf : zi (je t) t d = true := by
    unfold eu at h
    split at h
    · cases h
    split at h
    · cases h
    · rename_i q; simpa using q
  unfold zi at hf
  split at hf
  · cases hf
  · rename_i q
    exact ⟨Decidable.byContradiction fun e => q (.inl e), Decidable.byContradiction fun e => q (.inr (.inl e))⟩
theorem aob {s : bb} (h : oo s = 0) (ht : (s.type.toNat : Int) = 5) : ∃ d n, s.data[0]? = some d ∧ d.names[0]? = some n := by
  obtain ⟨d, hd, he⟩ := Fa h
  have h1 := (Hz he).1
  have h2 : (je s.type).names = 1 := by
    unfold je; rw [ht]; rfl
  rw [h2] at h1
  have : 0 < d.names.length := by omega
  exact ⟨d, d.names[0], hd, List.getElem?_eq_getElem this⟩
theorem ate {s : bb} (h : oo s = 0) (ht : (s.type.toNat : Int) = 6) : ∃ d k, s.data[0]? = some d ∧ d.nums[4]? = some k := by
  obtain ⟨d, hd, he⟩ := Fa h
  have h1 := (Hz he).2
  have h2 : (je s.type).nums = 5 := by
    unfold je; rw [ht]; rfl
  rw [h2] at h1
  have : 4 < d.nums.length := by omega
  exact ⟨d, d.nums[4], hd, List.getElem?_eq_getElem this⟩
theorem Be {z : bf} (h : ib z = 0) : ∀ s ∈ z.aj, oo s = 0 := by
  have hf := (H5 h).first
  unfold ub at hf
  split at hf
  · contradiction
  have key : ∀ (l : List bb) (e : Int), A2 l e = 0 → e = 0 ∧ ∀ s ∈ l, oo s = 0 := by
    intro l
    induction l with
    | nil => intro e h; exact ⟨h, fun s hs => by cases hs⟩
    | cons a l ih =>
      intro e h
      rw [A2] at h
      obtain ⟨h1, h2⟩ := ih _ h
      split at h1
      · rename_i e0
        exact ⟨e0, fun s hs => (List.mem_cons.1 hs).elim (fun q => q ▸ h1) (h2 s)⟩
      · rename_i e0; exact (e0 h1).elim
  exact (key _ _ hf).2
theorem Hj {l : List bb} {n : Name} {t : UInt16} {s : bb} (h : mu l n t = some s) : s ∈ l ∧ (s.type.toNat : Int) = t.toNat ∧ (s.cls.toNat : Int) = 1 ∧ dk s.owner n = true := by
  have h1 := List.mem_of_find?_eq_some h
  have h2 := List.find?_some h
  simp only [qp, Bool.and_eq_true, decide_eq_true_eq] at h2
  exact ⟨h1, h2.1, h2.2.1, h2.2.2⟩
def xd (n : Name) (s : bb) : bb := mkS n s.type s.cls s.n9 s.data
theorem ang {xs : List bb} {i : Nat} {c : bb} (n : Name) (k : Nat) (et : TypeId) (id : Nat) (hc : xs[i]? = some c) :
    xp id (i * 5) 1 [ar.val true n] (.row (cellsOf ah true xs) 0 k et) = (ir id (.row (cellsOf ah true (xs.take i ++ xd n c :: xs.drop (i + 1))) 0 k et)).bind fun _ => .pure (.sc undef) := by
  obtain ⟨hi, rfl⟩ := List.getElem?_eq_some_iff.1 hc
  have h0 : xs = xs.take i ++ xs[i] :: xs.drop (i + 1) := by rw [← List.drop_eq_getElem_cons hi, List.take_append_drop]
  have hl : (cellsOf ah true xs).length = xs.length * 5 := wz ah true xs
  have h1 : (cellsOf ah true xs).take (i * 5) = cellsOf ah true (xs.take i) := aah ah true xs i
  have h2 : (cellsOf ah true xs).drop (i * 5) = cellsOf ah true (xs.drop i) := J7 ah true xs i
  have h3 : (cellsOf ah true xs).drop (i * 5 + 1) = (ah.cells true xs[i]).drop 1 ++ cellsOf ah true (xs.drop (i + 1)) := by
    rw [← List.drop_drop, h2, List.drop_eq_getElem_cons hi, Cr]; rfl
  have hlt : i * 5 + 1 ≤ xs.length * 5 := by omega
  have h4 : (cellsOf ah true xs).take (i * 5) ++ [ar.val true n] ++ (cellsOf ah true xs).drop (i * 5 + 1) = cellsOf ah true (xs.take i ++ xd n xs[i] :: xs.drop (i + 1)) := by
    rw [h1, h3, w4, Cr, List.append_assoc]; rfl
  have hone : [ar.val true n].all AV.one = true := rfl
  unfold xp
  simp only [hl, Nat.ble_eq_true_of_le hlt, h4, hone]
  rfl
end Go.Proofs.YtidomogemfchpaaGreat
end
