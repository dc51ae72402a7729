/- A piece of the proof. Proved: where the arguments are together of bulk at most 1048576, the law WorldOwns returns true (a zone answers for its own names, zones above refer), and what it was given reads afterwards as it did before. No other conditions. -/
import Derived.WalkKit
import Derived.CallsIn
import Derived.RangeFuncIn
import Derived.RangeFuncLeaves
import Derived.Orders
import Derived.OrdersIn
import Derived.Scope
import Derived.RangeFuncOwn
import Derived.Stop.SameAnswer
import Derived.Laws.Externs
import Derived.Lib.Bytealg
import Derived.ProofKit
import Derived.OpenShut
import Derived.ReadAgain
import Derived.Deep.Slices
import Derived.ChangeSame
import Derived.Test.YtidomogemfchpaaGreatProg
import Derived.KernelRfl
import Derived.Test.YtidomogemfchpaaGreatRows
import Derived.Maps.RangeRun
import Derived.JoinedCond
import Derived.Test.YtidomogemfchpaaGreatO2
set_option linter.unusedSimpArgs false
set_option linter.unusedVariables false
section
set_option linter.unusedSimpArgs false
set_option linter.unusedVariables false
namespace Go.Proofs.YtidomogemfchpaaGreat
open Go.Vm
set_option maxRecDepth 2000000
theorem aic {α : Type} {l : List (List α)} {i : Nat} {c : List α} (h : l[i]? = some c) : (l.drop i).flatten = c ++ (l.drop (i + 1)).flatten := by rw [Hp h]; rfl
theorem auh {α : Type} {l : List (List α)} {c : List α} (h : c ∈ l) : c.length ≤ l.flatten.length := by
  induction l with
  | nil => cases h
  | cons a l ih =>
    simp only [List.flatten_cons, List.length_append]
    rcases List.mem_cons.1 h with rfl | h
    · omega
    · have := ih h; omega
theorem anx (l : List (List UInt8)) (hl : l.length ≤ 16777216) (hf : l.flatten.length ≤ 134217728) : wl PP [] 0 (Tryz.f184.body.getD .skip) (dj PP Tryz.f184.results.toList (fun r st => (r1 (cr cp)).get true st.h r = some l.flatten)) (bw 0 [(cr (cr cp)).val false l]) (bp []) := by
  unfold Tryz.f184
  rw [qa]
  simp only [↓wR, RA, simprocAttr, TF]
  refine dh [0, 3, 9, 10, 11] (fun (x : Nat × Nat) => [.vl false 1 (l.map ((cr cp).val false)), .sc (.int .i64 x.2), .vl false 1 (l.map ((cr cp).val false)), .sc (.int .i64 l.length), .sc (.int .i64 x.1)]) (fun _ => []) (fun x => x.1 ≤ l.length ∧ x.2 + (l.drop x.1).flatten.length = l.flatten.length) (fun x => l.length - x.1) (0, 0) ⟨Nat.zero_le _, by simp⟩ (by simp only [↓wR, RA, simprocAttr, TF] <;> rfl) (by simp only [↓wR, RA, simprocAttr, TF] <;> rfl) ?_
  rintro ⟨i, k⟩ ⟨hi, hk⟩
  simp only at hi hk
  simp only [↓wR, RA, simprocAttr, TF]
  rw [bj]; refine ⟨fun h => ?_, fun h => ?_⟩
  · obtain ⟨c, hc, hd1, hlt⟩ := dt (decide_eq_true h)
    rw [aic hc, List.length_append] at hk
    simp only [↓wR, RA, simprocAttr, TF, h, hc]; repeat (simp (disch := omega) only [ah, ca, cb, bz, b9]; try simp only [↓wR, RA, simprocAttr, TF, h, hc])
    rw [bj]; refine ⟨fun h1 => ?_, fun h1 => ?_⟩
    · exfalso; omega
    · simp only [↓wR, RA, simprocAttr, TF, h1]; repeat (simp (disch := omega) only [ah, ca, cb, bz, b9]; try simp only [↓wR, RA, simprocAttr, TF, h1])
      exact ⟨(i + 1, k + c.length), ⟨hlt, by show k + c.length + (l.drop (i + 1)).flatten.length = _; omega⟩, by simp; omega, by simp⟩
  · rw [dv (decide_eq_false h)] at hk
    have hk : k = l.flatten.length := by simpa using hk
    subst hk
    simp only [↓wR, RA, simprocAttr, TF, h]
    refine bq (T := []) (ak.nil PP) mixed Tryz.func193 rfl (by kernel_rfl) (by kernel_rfl) (by kernel_rfl) (by kernel_rfl) ?_; unfold Tryz.f193
    simp only [↓wR, RA, simprocAttr, TF]
    rw [bj]; refine ⟨fun h1 => ?_, fun h1 => ?_⟩
    · exfalso; omega
    simp only [↓wR, RA, simprocAttr, TF, h1]; repeat (simp (disch := omega) only [ah, ca, cb, bz, b9]; try simp only [↓wR, RA, simprocAttr, TF, h1])
    rw [bj]; refine ⟨fun h2 => ?_, fun h2 => ?_⟩
    · have hpos : 0 < l.flatten.length := by omega
      simp only [↓wR, RA, simprocAttr, TF, h2, hpos]; repeat (simp (disch := omega) only [ah, ca, cb, bz, b9]; try simp only [↓wR, RA, simprocAttr, TF, h2, hpos])
      refine dh [25, 26, 27, 6] (fun (x : Nat × Nat × List UInt8) => [.vl false 1 (l.map ((cr cp).val false)), .sc (.int .i64 l.length), .sc (.int .i64 x.1), .sl 0 0 x.2.1 1]) (fun x => [some (.row (x.2.2.map (cp.val false)) 0 0 5)]) (fun x => x.1 ≤ l.length ∧ (x.2.1 = x.2.2.length ∨ x.2.1 = 0) ∧ x.2.2.take x.2.1 ++ (l.drop x.1).flatten = l.flatten) (fun x => l.length - x.1) (0, 0, List.replicate l.flatten.length 0) ⟨Nat.zero_le _, .inr rfl, rfl⟩ (by simp only [↓wR, RA, simprocAttr, TF] <;> rfl) (by simp only [↓wR, RA, simprocAttr, TF] <;> rfl) ?_
      rintro ⟨k, m, r⟩ ⟨hk1, hk0, hk3⟩
      simp only at hk1 hk0 hk3
      have hk2 : m ≤ r.length := by omega
      simp only [↓wR, RA, simprocAttr, TF]
      rw [bj]; refine ⟨fun h3 => ?_, fun h3 => ?_⟩
      · obtain ⟨c, hc, hd1, hlt⟩ := dt (decide_eq_true h3)
        rw [aic hc] at hk3
        have hm : m + c.length ≤ 134217728 := by
          have := congrArg List.length hk3
          simp only [List.length_append, List.length_take] at this
          omega
        simp only [↓wR, RA, simprocAttr, TF, h3, hc, hk2]; repeat (simp (disch := omega) only [ah, ca, cb, bz, b9]; try simp only [↓wR, RA, simprocAttr, TF, h3, hc, hk2])
        have hl1 : (r.take m ++ c).length = m + c.length := by simp [Nat.min_eq_left hk2]
        refine ⟨(k + 1, m + c.length, r.take m ++ c), ⟨hlt, .inl hl1.symm, ?_⟩, by simp; omega, by simp, by simp⟩
        show (r.take m ++ c).take (m + c.length) ++ _ = _
        rw [List.take_of_length_le (Nat.le_of_eq hl1), List.append_assoc]
        exact hk3
      · rw [dv (decide_eq_false h3)] at hk3
        have hmr : m = r.length := by
          have := congrArg List.length hk3
          simp only [List.length_append, List.length_take, List.flatten_nil, List.length_nil] at this
          omega
        subst hmr
        have hr : r = l.flatten := by simpa using hk3
        subst hr
        simp only [↓wR, RA, simprocAttr, TF, h3, hk2]; repeat (simp (disch := omega) only [ah, ca, cb, bz, b9]; try simp only [↓wR, RA, simprocAttr, TF, h3, hk2])
    · have hnil : l.flatten = [] := List.eq_nil_of_length_eq_zero (by omega)
      simp only [↓wR, RA, simprocAttr, TF, h2]; repeat (simp (disch := omega) only [ah, ca, cb, bz, b9]; try simp only [↓wR, RA, simprocAttr, TF, h2])
      refine dh [25, 26, 27, 6] (fun (x : Nat) => [.vl false 1 (l.map ((cr cp).val false)), .sc (.int .i64 l.length), .sc (.int .i64 x), .sc (.slice none 0 0)]) (fun _ => []) (fun x => x ≤ l.length) (fun x => l.length - x) 0 (Nat.zero_le _) (by simp only [↓wR, RA, simprocAttr, TF] <;> rfl) (by simp only [↓wR, RA, simprocAttr, TF] <;> rfl) ?_
      intro k hk1
      simp only [↓wR, RA, simprocAttr, TF]
      rw [bj]; refine ⟨fun h3 => ?_, fun h3 => ?_⟩
      · obtain ⟨c, hc, hd1, hlt⟩ := dt (decide_eq_true h3)
        have hc0 : c = [] := List.eq_nil_of_length_eq_zero (by have := auh (List.mem_of_getElem? hc); rw [hnil] at this; simpa using this)
        subst hc0
        simp only [↓wR, RA, simprocAttr, TF, h3, hc]; repeat (simp (disch := omega) only [ah, ca, cb, bz, b9]; try simp only [↓wR, RA, simprocAttr, TF, h3, hc])
        refine ⟨k + 1, hlt, ?_⟩
        first | (refine ⟨by simp; omega, ?_⟩; simp) | (simp; omega)
      · simp only [↓wR, RA, simprocAttr, TF, h3]; repeat (simp (disch := omega) only [ah, ca, cb, bz, b9]; try simp only [↓wR, RA, simprocAttr, TF, h3])
        rw [hnil]
noncomputable def z6 (x : List (List UInt8) × Unit) : Option AV := if x.1.length ≤ 16777216 ∧ x.1.flatten.length ≤ 134217728 then some ((r1 (cr cp)).E true (x.1.flatten)) else none
set_option maxRecDepth 2000000 in
theorem aeq (x : List (List UInt8) × Unit) (r : AV) (h : z6 x = some r) : bf PP 184 ((aC (cr (cr cp)) a0).E x) r := by
  by_cases hc : x.1.length ≤ 16777216 ∧ x.1.flatten.length ≤ 134217728
  case neg => simp only [z6, if_neg hc] at h; cases h
  simp only [z6, if_pos hc] at h
  cases h
  exact ba (ak.nil PP) Tryz.func184 (by kernel_rfl) (by kernel_rfl) (by kernel_rfl) (Nat.le_of_ble_eq_true (by kernel_rfl)) (r1 (cr cp)) true (x.1.flatten) (anx x.1 hc.1 hc.2)
noncomputable abbrev avu : Nat × Bool × (List AV → M AV) := (184, true, dc (aC (cr (cr cp)) a0) z6)
end Go.Proofs.YtidomogemfchpaaGreat
end
section
set_option linter.unusedSimpArgs false
set_option linter.unusedVariables false
namespace Go.Proofs.YtidomogemfchpaaGreat
open Go.Vm
set_option maxRecDepth 2000000
theorem an9 (n : Name) : (xe n).length ≤ br n := by
  unfold xe nameBytes
  split
  · exact Nat.zero_le _
  · have := Ja n; rw [List.length_append]; simp only [List.length_cons, List.length_nil]; omega
noncomputable def Qz (t : UInt16) (n : UInt32) : List UInt8 := (E5 n).drop (4 - (jd t).size).toNat
def vh (t : UInt16) : Nat → List ByteArray → List UInt8
  | _, [] => []
  | i, x :: r => (if (t.toNat : Int) = 16 ∨ i = 0 then [UInt8.ofNat x.size] else []) ++ x.data.toList ++ vh t (i + 1) r
noncomputable def Cm (t : UInt16) (d : c7) : List UInt8 := d.nums.flatMap (Qz t)
def Bq (d : c7) : List UInt8 := d.names.flatMap xe
def yn (t : UInt16) (d : c7) : List UInt8 := vh t 0 d.texts
noncomputable def G9 (t : UInt16) (d : c7) : List UInt8 := if (t.toNat : Int) = 6 then Bq d ++ Cm t d else Cm t d ++ (Bq d ++ (yn t d ++ d.raw))
theorem L8 (n) : (E5 n).length = 4 := rfl
theorem agz {α : Type} (f : α → List UInt8) (μ : α → Nat) (h : ∀ x, (f x).length ≤ μ x) (l : List α) : (l.flatMap f).length ≤ fu μ l := by
  induction l with
  | nil => simp
  | cons a l ih => have := h a; simp only [List.flatMap_cons, List.length_append, fu, List.foldr_cons] at ih ⊢; omega
theorem amd (t : UInt16) (l : List ByteArray) : ∀ i, (vh t i l).length ≤ fu ByteArray.size l := by
  induction l with
  | nil => intro i; simp [vh]
  | cons a l ih =>
    intro i
    have := ih (i + 1)
    have ha : a.data.size = a.size := rfl
    simp only [vh, List.length_append, fu, List.foldr_cons, Array.length_toList] at this ⊢
    split <;> simp <;> omega
theorem ann (t d) : (Cm t d).length ≤ 4 * d.nums.length := by
  unfold Cm
  induction d.nums with
  | nil => simp
  | cons a l ih =>
    have : (Qz t a).length ≤ 4 := by unfold Qz; rw [List.length_drop, L8]; omega
    simp only [List.flatMap_cons, List.length_append, List.length_cons]; omega
theorem dx.written {d : c7} (h : dx d) (t) : (Cm t d).length ≤ 67108864 ∧ (Bq d).length ≤ 16777216 ∧ (yn t d).length ≤ 16777216 := by
  have h1 := ann t d
  have h2 : (Bq d).length ≤ fu br d.names := agz xe br an9 d.names
  have h3 : (yn t d).length ≤ fu ByteArray.size d.texts := amd t d.texts 0
  unfold dx uc at h
  omega
theorem Rm {α : Type} {l : List α} {i : Nat} {c : α} (f : α → List UInt8) (h : l.drop i = c :: l.drop (i + 1)) : (l.drop i).flatMap f = f c ++ (l.drop (i + 1)).flatMap f := by rw [h]; rfl
theorem Tw (c) : (E5 c).take 4 = E5 c := rfl
theorem ai2 (t) (c) : (E5 c).drop (4 - (jd t).size).toNat = Qz t c := rfl
theorem ape (t : UInt16) {l : List ByteArray} {i : Nat} {c : ByteArray} (h : l.drop i = c :: l.drop (i + 1)) : vh t i (l.drop i) = (if (t.toNat : Int) = 16 ∨ i = 0 then [UInt8.ofNat c.size] else []) ++ c.data.toList ++ vh t (i + 1) (l.drop (i + 1)) := by rw [h]; rfl
theorem as4 (t : UInt16) (d : c7) (hd : dx d) : wl PP [V8, axv, aln, avu] 0 (Tryz.f161.body.getD .skip) (dj PP Tryz.f161.results.toList (fun r st => (r1 (cr cp)).get true st.h r = some (G9 t d))) (bw 0 [c8.val false t, cd.val false d]) (bp []) := by
  have hl := hd.lens
  have hk := hd.written t
  have hs := Uc t
  unfold Tryz.f161
  simp only [mc, di]
  simp only [↓wR, RA, simprocAttr, TF, D5, El]
  refine kl [0, 3, 6, 7, 8, 21, 22, 23, 5] (fun (x : Nat × List UInt8) => [.sc (.int .u16 t.toNat), .ptr 0 0, .sc (.slice none 0 0), .sc (.slice none 0 0), .ptr 1 0, .vl false 1 (d.nums.map (bn.val false)), .sc (.int .i64 (d.nums.length)), .sc (.int .i64 (x.1)), .sl 2 0 x.2.length 1]) (fun x => [some (.row [.vl false 1 (d.names.map (ar.val false)), .vl false 1 (d.nums.map (bn.val false)), .vl false 1 (d.texts.map (an.val false)), .vl false 1 (d.raw.map (cp.val false))] 0 2 83), some (.row [.sc (.int .i64 (jd t).names), .sc (.int .i64 (jd t).nums), .sc (.int .i64 (jd t).size), .sc (.int .i64 (jd t).texts), .sc (.int .i64 (jd t).raw)] 0 2 214), some (.row (x.2.map (cp.val false)) 0 0 5)]) (fun x => x.1 ≤ d.nums.length ∧ x.2 ++ (d.nums.drop x.1).flatMap (Qz t) = Cm t d) (fun x => d.nums.length - x.1) (0, []) ⟨Nat.zero_le _, rfl⟩ (by simp only [↓wR, RA, simprocAttr, TF]; (refine nj.lax [] (by first | exact Nat.le_of_ble_eq_true rfl | (simp [cq]; omega)) ?_ ?_ <;> repeat' first | exact i7.nil | exact dn.nil | exact je.same _ | exact je.nil _ _ _ | exact je.wm _ _ | exact dn.refl _ _ | apply i7.cons | apply dn.ghost | apply dn.same | apply dn.row)) ?_
  rintro ⟨i, x⟩ ⟨hi, hx⟩
  simp only at hi hx
  simp only [↓wR, RA, simprocAttr, TF]
  rw [bj]; refine ⟨fun h => ?_, fun h => ?_⟩
  · obtain ⟨c, hc, hd1, hlt⟩ := dt (decide_eq_true h)
    rw [Rm _ hd1] at hx
    have hxl : x.length + (Qz t c).length ≤ (Cm t d).length := by rw [← hx]; simp
    simp only [↓wR, RA, simprocAttr, TF, h, hc, Np, L8, Tw, ai2]; repeat (simp (disch := omega) only [ah, ca, cb, bz, b9]; try simp only [↓wR, RA, simprocAttr, TF, h, hc, Np, L8, Tw, ai2])
    exact ⟨(i + 1, x ++ Qz t c), ⟨hlt, by rw [List.append_assoc]; exact hx⟩, by simp; omega, by (first | rfl | trivial | omega | ((try (simp (disch := omega) only [ah])); (try (simp only [FB])); first | done | rfl | omega)), by (first | rfl | trivial | omega | ((try (simp (disch := omega) only [ah])); (try (simp only [FB])); first | done | rfl | omega))⟩
  rw [dv (decide_eq_false h)] at hx
  obtain rfl : x = Cm t d := by simpa using hx
  clear hx
  simp only [↓wR, RA, simprocAttr, TF, h]
  obtain ⟨nu, hnu⟩ : ∃ nu, Cm t d = nu := ⟨_, rfl⟩
  rw [hnu] at hk ⊢
  refine kl [0, 3, 7, 38, 39, 40, 5, 6] (fun (x : Nat × List UInt8) => [.sc (.int .u16 t.toNat), .ptr 0 0, .sc (.slice none 0 0), .vl false 1 (d.names.map (ar.val false)), .sc (.int .i64 (d.names.length)), .sc (.int .i64 (x.1)), .sl 1 0 nu.length 1, .sl 2 0 x.2.length 1]) (fun x => [some (.row [.vl false 1 (d.names.map (ar.val false)), .vl false 1 (d.nums.map (bn.val false)), .vl false 1 (d.texts.map (an.val false)), .vl false 1 (d.raw.map (cp.val false))] 0 2 83), some (.row (nu.map (cp.val false)) 0 0 5), some (.row (x.2.map (cp.val false)) 0 0 5)]) (fun x => x.1 ≤ d.names.length ∧ x.2 ++ (d.names.drop x.1).flatMap xe = Bq d) (fun x => d.names.length - x.1) (0, []) ⟨Nat.zero_le _, rfl⟩ (by simp only [↓wR, RA, simprocAttr, TF]; (refine nj.lax [] (by first | exact Nat.le_of_ble_eq_true rfl | (simp [cq]; omega)) ?_ ?_ <;> repeat' first | exact i7.nil | exact dn.nil | exact je.same _ | exact je.nil _ _ _ | exact je.wm _ _ | exact dn.refl _ _ | apply i7.cons | apply dn.ghost | apply dn.same | apply dn.row)) ?_
  clear h
  rintro ⟨i, x⟩ ⟨hi, hx⟩
  simp only at hi hx
  simp only [↓wR, RA, simprocAttr, TF]
  rw [bj]; refine ⟨fun h => ?_, fun h => ?_⟩
  · obtain ⟨c, hc, hd1, hlt⟩ := dt (decide_eq_true h)
    rw [Rm _ hd1] at hx
    have hxl : x.length + (xe c).length ≤ (Bq d).length := by rw [← hx]; simp
    simp only [↓wR, RA, simprocAttr, TF, h, hc, uo, hd.name c (List.mem_of_getElem? hc)]; repeat (simp (disch := omega) only [ah, ca, cb, bz, b9]; try simp only [↓wR, RA, simprocAttr, TF, h, hc, uo, hd.name c (List.mem_of_getElem? hc)])
    exact ⟨(i + 1, x ++ xe c), ⟨hlt, by rw [List.append_assoc]; exact hx⟩, by simp; omega, by (first | rfl | trivial | omega | ((try (simp (disch := omega) only [ah])); (try (simp only [FB])); first | done | rfl | omega)), by (first | rfl | trivial | omega | ((try (simp (disch := omega) only [ah])); (try (simp only [FB])); first | done | rfl | omega))⟩
  rw [dv (decide_eq_false h)] at hx
  obtain rfl : x = Bq d := by simpa using hx
  clear hx
  simp only [↓wR, RA, simprocAttr, TF, h]
  obtain ⟨na, hna⟩ : ∃ na, Bq d = na := ⟨_, rfl⟩
  rw [hna] at hk ⊢
  refine kl [0, 3, 54, 55, 56, 5, 6, 7] (fun (x : Nat × List UInt8) => [.sc (.int .u16 t.toNat), .ptr 0 0, .vl false 1 (d.texts.map (an.val false)), .sc (.int .i64 (d.texts.length)), .sc (.int .i64 (x.1)), .sl 1 0 nu.length 1, .sl 2 0 na.length 1, .sl 3 0 x.2.length 1]) (fun x => [some (.row [.vl false 1 (d.names.map (ar.val false)), .vl false 1 (d.nums.map (bn.val false)), .vl false 1 (d.texts.map (an.val false)), .vl false 1 (d.raw.map (cp.val false))] 0 2 83), some (.row (nu.map (cp.val false)) 0 0 5), some (.row (na.map (cp.val false)) 0 0 5), some (.row (x.2.map (cp.val false)) 0 0 5)]) (fun x => x.1 ≤ d.texts.length ∧ x.2 ++ vh t x.1 (d.texts.drop x.1) = yn t d) (fun x => d.texts.length - x.1) (0, []) ⟨Nat.zero_le _, rfl⟩ (by simp only [↓wR, RA, simprocAttr, TF]; (refine nj.lax [] (by first | exact Nat.le_of_ble_eq_true rfl | (simp [cq]; omega)) ?_ ?_ <;> repeat' first | exact i7.nil | exact dn.nil | exact je.same _ | exact je.nil _ _ _ | exact je.wm _ _ | exact dn.refl _ _ | apply i7.cons | apply dn.ghost | apply dn.same | apply dn.row)) ?_
  clear h
  rintro ⟨i, x⟩ ⟨hi, hx⟩
  simp only at hi hx
  simp only [↓wR, RA, simprocAttr, TF]
  rw [bj]; refine ⟨fun h => ?_, fun h => ?_⟩
  · obtain ⟨c, hc, hd1, hlt⟩ := dt (decide_eq_true h)
    rw [ape _ hd1] at hx
    have hxl : x.length + ((if (t.toNat : Int) = 16 ∨ i = 0 then [UInt8.ofNat c.size] else []).length + c.size) ≤ (yn t d).length := by rw [← hx]; simp
    have hcs : c.data.toList.length = c.size := by simp
    simp only [↓wR, RA, simprocAttr, TF, h, hc]; repeat (simp (disch := omega) only [ah, ca, cb, bz, b9]; try simp only [↓wR, RA, simprocAttr, TF, h, hc])
    have fin : ∀ b : List UInt8, x ++ (b ++ c.data.toList ++ vh t (i + 1) (d.texts.drop (i + 1))) = yn t d → x ++ b ++ c.data.toList ++ vh t (i + 1) (d.texts.drop (i + 1)) = yn t d := fun b hb => by rw [← hb]; simp
    rw [cy]; refine ⟨fun ⟨h16, e16⟩ => ?_, fun ⟨h16, e16⟩ => ?_⟩
    · rw [if_pos (.inl e16)] at hx hxl
      simp only [List.length_cons, List.length_nil] at hxl
      simp only [↓wR, RA, simprocAttr, TF, h16]; repeat (simp (disch := omega) only [ah, ca, cb, bz, b9]; try simp only [↓wR, RA, simprocAttr, TF, h16])
      exact ⟨(i + 1, x ++ [UInt8.ofNat c.size] ++ c.data.toList), ⟨hlt, fin _ hx⟩, by simp; omega, by (first | rfl | trivial | omega | ((try (simp (disch := omega) only [ah])); (try (simp only [FB])); first | done | rfl | omega)), by (first | rfl | trivial | omega | ((try (simp (disch := omega) only [ah])); (try (simp only [FB])); first | done | rfl | omega))⟩
    · simp only [↓wR, RA, simprocAttr, TF, h16]; repeat (simp (disch := omega) only [ah, ca, cb, bz, b9]; try simp only [↓wR, RA, simprocAttr, TF, h16])
      rw [cy]; refine ⟨fun ⟨h0, e0⟩ => ?_, fun ⟨h0, e0⟩ => ?_⟩
      · rw [if_pos (.inr (by omega))] at hx hxl
        simp only [List.length_cons, List.length_nil] at hxl
        simp only [↓wR, RA, simprocAttr, TF, h0]; repeat (simp (disch := omega) only [ah, ca, cb, bz, b9]; try simp only [↓wR, RA, simprocAttr, TF, h0])
        exact ⟨(i + 1, x ++ [UInt8.ofNat c.size] ++ c.data.toList), ⟨hlt, fin _ hx⟩, by simp; omega, by (first | rfl | trivial | omega | ((try (simp (disch := omega) only [ah])); (try (simp only [FB])); first | done | rfl | omega)), by (first | rfl | trivial | omega | ((try (simp (disch := omega) only [ah])); (try (simp only [FB])); first | done | rfl | omega))⟩
      · rw [if_neg (by omega)] at hx hxl
        simp only [List.length_nil] at hxl
        simp only [↓wR, RA, simprocAttr, TF, h0]; repeat (simp (disch := omega) only [ah, ca, cb, bz, b9]; try simp only [↓wR, RA, simprocAttr, TF, h0])
        exact ⟨(i + 1, x ++ c.data.toList), ⟨hlt, by have := fin _ hx; simpa using this⟩, by simp; omega, by (first | rfl | trivial | omega | ((try (simp (disch := omega) only [ah])); (try (simp only [FB])); first | done | rfl | omega)), by (first | rfl | trivial | omega | ((try (simp (disch := omega) only [ah])); (try (simp only [FB])); first | done | rfl | omega))⟩
  rw [dv (decide_eq_false h)] at hx
  obtain rfl : x = yn t d := by simpa [vh] using hx
  clear hx
  simp only [↓wR, RA, simprocAttr, TF, h]; repeat (simp (disch := omega) only [ah, ca, cb, bz, b9]; try simp only [↓wR, RA, simprocAttr, TF, h])
  unfold G9
  rw [hnu, hna]
  rw [cy]; refine ⟨fun ⟨h6, e6⟩ => ?_, fun ⟨h6, e6⟩ => ?_⟩
  · rw [if_pos e6]
    simp only [↓wR, RA, simprocAttr, TF, h6]; repeat (simp (disch := omega) only [ah, ca, cb, bz, b9]; try simp only [↓wR, RA, simprocAttr, TF, h6])
  · rw [if_neg e6]
    have hcat : nu.length + (na.length + ((yn t d).length + d.raw.length)) ≤ 134217728 := by omega
    simp only [↓wR, RA, simprocAttr, TF, h6, z6, hcat]; repeat (simp (disch := omega) only [ah, ca, cb, bz, b9]; try simp only [↓wR, RA, simprocAttr, TF, h6, z6, hcat])
    rw [← List.map_append, ← List.map_append, ← List.map_append]
    exact rtT (cr cp) _ _
noncomputable def uf (x : UInt16 × c7 × Unit) : Option AV := if dx x.2.1 then some ((r1 (cr cp)).E true (G9 x.1 x.2.1)) else none
set_option maxRecDepth 2000000 in
theorem E8 (x : UInt16 × c7 × Unit) (r : AV) (h : uf x = some r) : bf PP 161 ((aC c8 (aC cd a0)).E x) r := by
  by_cases hc : dx x.2.1
  case neg => simp only [uf, if_neg hc] at h; cases h
  simp only [uf, if_pos hc] at h
  cases h
  exact ba (ak.cons (ai Dq) (ak.cons (ai agb) (ak.cons (ai T6) (ak.cons (ai aeq) (ak.nil PP))))) Tryz.func161 (by kernel_rfl) (by kernel_rfl) (by kernel_rfl) (Nat.le_of_ble_eq_true (by kernel_rfl)) (r1 (cr cp)) true (G9 x.1 x.2.1) (as4 x.1 x.2.1 hc)
noncomputable abbrev Vc : Nat × Bool × (List AV → M AV) := (161, true, dc (aC c8 (aC cd a0)) uf)
end Go.Proofs.YtidomogemfchpaaGreat
end
section
set_option linter.unusedSimpArgs false
set_option linter.unusedVariables false
namespace Go.Proofs.YtidomogemfchpaaGreat
open Go.Vm
set_option maxRecDepth 2000000
theorem agc (d : c7) (hd : dx d) : wl PP [abk, adj, ait, oq] 0 (Tryz.f76.body.getD .skip) (dj PP Tryz.f76.results.toList (fun r st => (r1 cd).get true st.h r = some d)) (bw 0 [cd.val false d]) (bp []) := by
  have hl := hd.lens
  have l2 := hl.2.1
  have l3 := hl.2.2.1
  have l4 := hl.2.2.2
  unfold Tryz.f76
  simp only [mc, di]
  simp only [↓wR, RA, simprocAttr, TF]
  refine ⟨by kernel_rfl, .inl ?_⟩
  simp only [↓wR, RA, simprocAttr, TF, yf, x8, Az, l2, l3, l4]
  refine ⟨by kernel_rfl, ?_⟩
  refine kl [2, 17, 18, 19, 3] (fun (x : List Name) => [.ptr 0 0, .vl false 1 (d.names.map (ar.val false)), .sc (.int .i64 (d.names.length)), .sc (.int .i64 (x.length)), .ptr 1 0]) (fun x => [some (.row [.sc (.slice none 0 0), .sc (.slice none 0 0), .sc (.slice none 0 0), .sc (.slice none 0 0)] 0 2 83), some (.row [.sl 2 0 x.length 1, .vl true 1 (d.nums.map (bn.val false)), .vl true 1 (d.texts.map (an.val false)), .vl true 1 (d.raw.map (cp.val false))] 0 2 83), some (.row (x.map (ar.val true)) 0 0 23)]) (fun x => x.length ≤ d.names.length ∧ x ++ d.names.drop x.length = d.names) (fun x => d.names.length - x.length) [] ⟨Nat.zero_le _, rfl⟩ (by simp only [↓wR, RA, simprocAttr, TF]; (refine nj.lax [] (by first | exact Nat.le_of_ble_eq_true rfl | (simp [cq]; omega)) ?_ ?_ <;> repeat' first | exact i7.nil | exact dn.nil | exact je.same _ | exact je.nil _ _ _ | exact je.wm _ _ | exact dn.refl _ _ | apply i7.cons | apply dn.ghost | apply dn.same | apply dn.row)) ?_
  rintro x ⟨hi, hx⟩
  simp only [↓wR, RA, simprocAttr, TF]
  rw [bj]; refine ⟨fun h => ?_, fun h => ?_⟩
  · obtain ⟨c, hc, hd1, hlt⟩ := dt (decide_eq_true h)
    rw [hd1] at hx
    have hlim : (x.length + 1) * 24 ≤ 140737488355328 := by omega
    simp only [↓wR, RA, simprocAttr, TF, h, hc]
    refine ⟨by kernel_rfl, .inl ?_⟩
    simp only [↓wR, RA, simprocAttr, TF, jo, hd.name c (List.mem_of_getElem? hc), hlim]
    refine ⟨by kernel_rfl, ?_⟩
    exact ⟨x ++ [c], ⟨by simp; omega, by simpa using hx⟩, by simp; omega, by (first | rfl | trivial | omega | ((try (simp (disch := omega) only [ah])); (try (simp only [FB])); first | done | rfl | omega)), by (first | rfl | trivial | omega | ((try (simp (disch := omega) only [ah])); (try (simp only [FB])); first | done | rfl | omega))⟩
  · rw [dv (decide_eq_false h)] at hx
    rw [List.append_nil] at hx
    subst hx
    simp only [↓wR, RA, simprocAttr, TF, h]
noncomputable def Bk (x : c7 × Unit) : Option AV := if dx x.1 then some ((r1 cd).E true (x.1)) else none
set_option maxRecDepth 2000000 in
theorem Zf (x : c7 × Unit) (r : AV) (h : Bk x = some r) : bf PP 76 ((aC cd a0).E x) r := by
  by_cases hc : dx x.1
  case neg => simp only [Bk, if_neg hc] at h; cases h
  simp only [Bk, if_pos hc] at h
  cases h
  exact ba (ak.cons (ai Jf) (ak.cons (ai Jk) (ak.cons (ai Lt) (ak.cons (ai j8) (ak.nil PP))))) Tryz.func76 (by kernel_rfl) (by kernel_rfl) (by kernel_rfl) (Nat.le_of_ble_eq_true (by kernel_rfl)) (r1 cd) true (x.1) (agc x.1 hc)
noncomputable abbrev ars : Nat × Bool × (List AV → M AV) := (76, true, dc (aC cd a0) Bk)
end Go.Proofs.YtidomogemfchpaaGreat
end
section
set_option linter.unusedSimpArgs false
set_option linter.unusedVariables false
namespace Go.Proofs.YtidomogemfchpaaGreat
open Go.Vm
set_option maxRecDepth 2000000
def qd {α : Type} (f : α → α) (l : List α) (i : Nat) : List α := (l.take i).map f ++ l.drop i
theorem al2 {α : Type} (f : α → α) (l : List α) (i : Nat) : (qd f l i).length = l.length := by simp [qd]; omega
theorem akg {α : Type} (f : α → α) {l : List α} {i : Nat} {c : α} (h : l[i]? = some c) : (qd f l i)[i]? = some c := by
  obtain ⟨hi, rfl⟩ := List.getElem?_eq_some_iff.1 h
  have hl : ((l.take i).map f).length = i := by simp; omega
  rw [qd, List.getElem?_append_right (by omega), hl, Nat.sub_self, List.getElem?_drop]; simp [h]
theorem ajp {α : Type} (f : α → α) {l : List α} {i : Nat} {c : α} (h : l[i]? = some c) : (qd f l i).take i ++ [f c] ++ (qd f l i).drop (i + 1) = qd f l (i + 1) := by
  obtain ⟨hi, rfl⟩ := List.getElem?_eq_some_iff.1 h
  have h1 : ((l.take i).map f).length = i := by simp; omega
  have h2 : (qd f l i).take i = (l.take i).map f := by rw [qd, List.take_append_of_le_length (by omega), List.take_of_length_le (by omega)]
  have h3 : (qd f l i).drop (i + 1) = l.drop (i + 1) := by
    rw [qd, List.drop_append, List.drop_eq_nil_of_le (by omega), h1]
    simp
  rw [h2, h3, qd, List.take_succ_eq_append_getElem hi, List.map_append]
  rfl
theorem akl {α : Type} (f : α → α) (l : List α) : qd f l l.length = l.map f := by simp [qd]
noncomputable def u5 (t : UInt16) (d : c7) : c7 := if 0 < (jd t).names then { d with names := d.names.map en } else d
theorem agr (t : UInt16) (d : c7) (hd : dx d) : wl PP [V8, ard] 0 (Tryz.f176.body.getD .skip) (dj PP Tryz.f176.results.toList (fun r st => (r1 cd).get true st.h r = some (u5 t d))) (bw 0 [c8.val false t, cd.val false d]) (bp []) := by
  have hl := hd.lens
  have l2 := hl.2.1
  have l3 := hl.2.2.1
  have l4 := hl.2.2.2
  unfold Tryz.f176
  simp only [mc, di]
  simp only [↓wR, RA, simprocAttr, TF]
  refine bq (T := [abk, adj, ait, oq]) (ak.cons (ai Jf) (ak.cons (ai Jk) (ak.cons (ai Lt) (ak.cons (ai j8) (ak.nil PP))))) mixed Tryz.func76 rfl (by kernel_rfl) (by kernel_rfl) (by kernel_rfl) (by kernel_rfl) ?_; unfold Tryz.f76
  simp only [↓wR, RA, simprocAttr, TF]
  refine ⟨by kernel_rfl, .inl ?_⟩
  simp only [↓wR, RA, simprocAttr, TF, yf, x8, Az, l2, l3, l4]
  refine ⟨by kernel_rfl, ?_⟩
  refine kl [2, 17, 18, 19, 3] (fun (x : List Name) => [.ptr 2 0, .vl false 1 (d.names.map (ar.val false)), .sc (.int .i64 (d.names.length)), .sc (.int .i64 (x.length)), .ptr 3 0]) (fun x => [some (.row [.vl false 1 (d.names.map (ar.val false)), .vl false 1 (d.nums.map (bn.val false)), .vl false 1 (d.texts.map (an.val false)), .vl false 1 (d.raw.map (cp.val false))] 0 2 83), some (.row [.sc (.slice none 0 0), .sc (.slice none 0 0), .sc (.slice none 0 0), .sc (.slice none 0 0)] 0 2 83), some (.row [.sc (.slice none 0 0), .sc (.slice none 0 0), .sc (.slice none 0 0), .sc (.slice none 0 0)] 0 2 83), some (.row [.sl 4 0 x.length 1, .vl true 1 (d.nums.map (bn.val false)), .vl true 1 (d.texts.map (an.val false)), .vl true 1 (d.raw.map (cp.val false))] 0 2 83), some (.row (x.map (ar.val true)) 0 0 23)]) (fun x => x.length ≤ d.names.length ∧ x ++ d.names.drop x.length = d.names) (fun x => d.names.length - x.length) [] ⟨Nat.zero_le _, rfl⟩ (by simp only [↓wR, RA, simprocAttr, TF]; (refine nj.lax [] (by first | exact Nat.le_of_ble_eq_true rfl | (simp [cq]; omega)) ?_ ?_ <;> repeat' first | exact i7.nil | exact dn.nil | exact je.same _ | exact je.nil _ _ _ | exact je.wm _ _ | exact dn.refl _ _ | apply i7.cons | apply dn.ghost | apply dn.same | apply dn.row)) ?_
  rintro x ⟨hi, hx⟩
  simp only [↓wR, RA, simprocAttr, TF]
  rw [bj]; refine ⟨fun h => ?_, fun h => ?_⟩
  · obtain ⟨c, hc, hd1, hlt⟩ := dt (decide_eq_true h)
    rw [hd1] at hx
    have hlim : (x.length + 1) * 24 ≤ 140737488355328 := by omega
    simp only [↓wR, RA, simprocAttr, TF, h, hc]
    refine ⟨by kernel_rfl, .inl ?_⟩
    simp only [↓wR, RA, simprocAttr, TF, jo, hd.name c (List.mem_of_getElem? hc), hlim]
    refine ⟨by kernel_rfl, ?_⟩
    exact ⟨x ++ [c], ⟨by simp; omega, by simpa using hx⟩, by simp; omega, by (first | rfl | trivial | omega | ((try (simp (disch := omega) only [ah])); (try (simp only [FB])); first | done | rfl | omega)), by (first | rfl | trivial | omega | ((try (simp (disch := omega) only [ah])); (try (simp only [FB])); first | done | rfl | omega))⟩
  rw [dv (decide_eq_false h)] at hx
  rw [List.append_nil] at hx
  subst hx
  simp only [↓wR, RA, simprocAttr, TF, h, D5, El]
  unfold u5
  clear hi h
  rw [bj]; refine ⟨fun h0 => ?_, fun h0 => ?_⟩
  · rw [if_pos h0]
    simp only [↓wR, RA, simprocAttr, TF, h0]
    refine dh [4, 5, 15, 16, 17] (fun (i : Nat) => [.ptr 0 0, .ptr 1 0, .sl 2 0 d.names.length 1, .sc (.int .i64 (d.names.length)), .sc (.int .i64 (i))]) (fun i => [some (.row [.sc (.slice none 0 0), .sc (.slice none 0 0), .sc (.slice none 0 0), .sc (.slice none 0 0)] 0 2 83), some (.row [.sl 2 0 d.names.length 1, .vl true 1 (d.nums.map (bn.val false)), .vl true 1 (d.texts.map (an.val false)), .vl true 1 (d.raw.map (cp.val false))] 0 2 83), some (.row ((qd en d.names i).map (ar.val true)) 0 0 23)]) (fun i => i ≤ d.names.length) (fun i => d.names.length - i) 0 (Nat.zero_le _) (by simp only [↓wR, RA, simprocAttr, TF] <;> rfl) (by simp only [↓wR, RA, simprocAttr, TF] <;> rfl) ?_
    intro i hi
    simp only [↓wR, RA, simprocAttr, TF]
    rw [bj]; refine ⟨fun h => ?_, fun h => ?_⟩
    · obtain ⟨c, hc, hd1, hlt⟩ := dt (decide_eq_true h)
      have hs := akg en hc
      have hlen := al2 en d.names i
      have hlt' : i + 1 ≤ d.names.length := hlt
      simp only [↓wR, RA, simprocAttr, TF, h, hs, hlt]
      refine ⟨by kernel_rfl, .inl ?_⟩
      simp only [↓wR, RA, simprocAttr, TF, h, hlt, hlt', hlen, By, hd.name c (List.mem_of_getElem? hc)]
      refine ⟨by kernel_rfl, i + 1, hlt, by omega, by (first | rfl | trivial | omega | ((try (simp (disch := omega) only [ah])); (try (simp only [FB])); first | done | rfl | omega)), ?_⟩
      rw [← ajp en hc]; simp only [List.map_append, List.map_cons, List.map_nil]
    · have hin : i = d.names.length := by omega
      subst hin
      rw [akl]
      have hml : (d.names.map en).length = d.names.length := List.length_map _
      generalize d.names.map en = m at hml ⊢
      simp only [↓wR, RA, simprocAttr, TF, h, hml]
      rfl
  · rw [if_neg h0]
    simp only [↓wR, RA, simprocAttr, TF, h0]
noncomputable def B2 (x : UInt16 × c7 × Unit) : Option AV := if dx x.2.1 then some ((r1 cd).E true (u5 x.1 x.2.1)) else none
set_option maxRecDepth 2000000 in
theorem Zc (x : UInt16 × c7 × Unit) (r : AV) (h : B2 x = some r) : bf PP 176 ((aC c8 (aC cd a0)).E x) r := by
  by_cases hc : dx x.2.1
  case neg => simp only [B2, if_neg hc] at h; cases h
  simp only [B2, if_pos hc] at h
  cases h
  exact ba (ak.cons (ai Dq) (ak.cons (ai Zy) (ak.nil PP))) Tryz.func176 (by kernel_rfl) (by kernel_rfl) (by kernel_rfl) (Nat.le_of_ble_eq_true (by kernel_rfl)) (r1 cd) true (u5 x.1 x.2.1) (agr x.1 x.2.1 hc)
noncomputable abbrev ar6 : Nat × Bool × (List AV → M AV) := (176, true, dc (aC c8 (aC cd a0)) B2)
end Go.Proofs.YtidomogemfchpaaGreat
end
section
set_option linter.unusedSimpArgs false
set_option linter.unusedVariables false
namespace Go.Proofs.YtidomogemfchpaaGreat
open Go.Vm
set_option maxRecDepth 2000000
def tj : List Name → Int
  | [] => 0
  | n :: r => if dp n ≠ 0 then dp n else tj r
noncomputable def fk (t : UInt16) (d : c7) : Int :=
  if G0 t = true then 6 else if yy (jd t) t d = false then 7 else if tj d.names ≠ 0 then tj d.names else if 65535 < (G9 t d).length then 3 else 0
theorem afv {l : List Name} {i : Nat} {c : Name} (h : l.drop i = c :: l.drop (i + 1)) : tj (l.drop i) = if dp c ≠ 0 then dp c else tj (l.drop (i + 1)) := by rw [h]; rfl
theorem aej (t : UInt16) (d : c7) (hd : dx d) : wl PP [awr, V8, ayl, eb, Vc] 0 (Tryz.f141.body.getD .skip) (dj PP Tryz.f141.results.toList (fun r st => (r1 (aw .i64)).get true st.h r = some (fk t d))) (bw 0 [c8.val false t, cd.val false d]) (bp []) := by
  have hs := Uc t
  have hl := hd.lens
  unfold Tryz.f141
  simp only [mc, di]
  simp only [↓wR, RA, simprocAttr, TF, V9]
  unfold fk
  rw [bk]; refine ⟨fun hb => ?_, fun hb => ?_⟩
  · rw [if_pos hb]
    simp only [↓wR, RA, simprocAttr, TF, hb]
  rw [if_neg (by rw [hb]; decide)]
  simp only [↓wR, RA, simprocAttr, TF, hb]
  refine ⟨by kernel_rfl, .inl ?_⟩
  simp only [↓wR, RA, simprocAttr, TF, D5, J1, hs, hd]
  refine ⟨by kernel_rfl, ?_⟩
  rw [bk]; refine ⟨fun hf => ?_, fun hf => ?_⟩
  · rw [if_pos (by simpa using hf)]
    simp only [↓wR, RA, simprocAttr, TF, hf]
  have hf' : yy (jd t) t d = true := by simpa using hf
  rw [if_neg (by rw [hf']; decide)]
  simp only [↓wR, RA, simprocAttr, TF, hf]
  refine dh [0, 3, 17, 18, 19] (fun (i : Nat) => [.sc (.int .u16 t.toNat), .ptr 0 0, .vl false 1 (d.names.map (ar.val false)), .sc (.int .i64 (d.names.length)), .sc (.int .i64 (i))]) (fun _ => [some (.row [.vl false 1 (d.names.map (ar.val false)), .vl false 1 (d.nums.map (bn.val false)), .vl false 1 (d.texts.map (an.val false)), .vl false 1 (d.raw.map (cp.val false))] 0 2 83)]) (fun i => i ≤ d.names.length ∧ tj d.names = tj (d.names.drop i)) (fun i => d.names.length - i) 0 ⟨Nat.zero_le _, rfl⟩ (by simp only [↓wR, RA, simprocAttr, TF] <;> rfl) (by simp only [↓wR, RA, simprocAttr, TF] <;> rfl) ?_
  rintro i ⟨hi, hx⟩
  simp only [↓wR, RA, simprocAttr, TF]
  rw [bj]; refine ⟨fun h => ?_, fun h => ?_⟩
  · obtain ⟨c, hc, hd1, hlt⟩ := dt (decide_eq_true h)
    rw [afv hd1] at hx
    simp only [↓wR, RA, simprocAttr, TF, h, hc, ll, (hd.name c (List.mem_of_getElem? hc)).fit]
    rw [bk]; refine ⟨fun h1 => ?_, fun h1 => ?_⟩
    · have he : dp c ≠ 0 := by simpa using h1
      rw [if_pos he] at hx
      rw [if_pos (by rw [hx]; exact he), hx]
      simp only [↓wR, RA, simprocAttr, TF, h1]
    · have he : dp c = 0 := by simpa using h1
      rw [if_neg (by omega)] at hx
      simp only [↓wR, RA, simprocAttr, TF, h1]; repeat (simp (disch := omega) only [ah, ca, cb, bz, b9]; try simp only [↓wR, RA, simprocAttr, TF, h1])
      exact ⟨i + 1, ⟨hlt, hx⟩, by omega, by (first | rfl | trivial | omega | ((try (simp (disch := omega) only [ah])); (try (simp only [FB])); first | done | rfl | omega))⟩
  rw [dv (decide_eq_false h)] at hx
  rw [if_neg (by rw [hx]; decide)]
  simp only [↓wR, RA, simprocAttr, TF, h, uf, hd]
  rw [bj]; refine ⟨fun h2 => ?_, fun h2 => ?_⟩
  · rw [if_pos (by omega)]
    simp only [↓wR, RA, simprocAttr, TF, h2]
  · rw [if_neg (by omega)]
    simp only [↓wR, RA, simprocAttr, TF, h2]
noncomputable def qq (x : UInt16 × c7 × Unit) : Option AV := if dx x.2.1 then some ((r1 (aw .i64)).E true (fk x.1 x.2.1)) else none
set_option maxRecDepth 2000000 in
theorem Au (x : UInt16 × c7 × Unit) (r : AV) (h : qq x = some r) : bf PP 141 ((aC c8 (aC cd a0)).E x) r := by
  by_cases hc : dx x.2.1
  case neg => simp only [qq, if_neg hc] at h; cases h
  simp only [qq, if_pos hc] at h
  cases h
  exact ba (ak.cons (ai af9) (ak.cons (ai Dq) (ak.cons (ai aj1) (ak.cons (ai kb) (ak.cons (ai E8) (ak.nil PP)))))) Tryz.func141 (by kernel_rfl) (by kernel_rfl) (by kernel_rfl) (Nat.le_of_ble_eq_true (by kernel_rfl)) (r1 (aw .i64)) true (fk x.1 x.2.1) (aej x.1 x.2.1 hc)
noncomputable abbrev Lp : Nat × Bool × (List AV → M AV) := (141, true, dc (aC c8 (aC cd a0)) qq)
noncomputable def G8 (t : UInt16) (d : c7) : List UInt8 := if fk t d ≠ 0 then [] else G9 t d
theorem abu (t : UInt16) (d : c7) (hd : dx d) : wl PP [Lp, Vc] 0 (Tryz.f175.body.getD .skip) (dj PP Tryz.f175.results.toList (fun r st => (r2 (cr cp) (aw .i64)).get true st.h r = some (G8 t d, fk t d))) (bw 0 [c8.val false t, cd.val false d]) (bp []) := by
  unfold Tryz.f175
  simp only [mc, di]
  simp only [↓wR, RA, simprocAttr, TF, qq, hd]
  unfold G8
  rw [bk]; refine ⟨fun h => ?_, fun h => ?_⟩
  · have he : fk t d ≠ 0 := by simpa using h
    rw [if_pos he]
    simp only [↓wR, RA, simprocAttr, TF, h]
  · have he : fk t d = 0 := by simpa using h
    rw [if_neg (by omega)]
    simp only [↓wR, RA, simprocAttr, TF, h, uf, hd, he]
noncomputable def zt (x : UInt16 × c7 × Unit) : Option AV := if dx x.2.1 then some ((r2 (cr cp) (aw .i64)).E true ((G8 x.1 x.2.1, fk x.1 x.2.1))) else none
set_option maxRecDepth 2000000 in
theorem V2 (x : UInt16 × c7 × Unit) (r : AV) (h : zt x = some r) : bf PP 175 ((aC c8 (aC cd a0)).E x) r := by
  by_cases hc : dx x.2.1
  case neg => simp only [zt, if_neg hc] at h; cases h
  simp only [zt, if_pos hc] at h
  cases h
  exact ba (ak.cons (ai Au) (ak.cons (ai E8) (ak.nil PP))) Tryz.func175 (by kernel_rfl) (by kernel_rfl) (by kernel_rfl) (Nat.le_of_ble_eq_true (by kernel_rfl)) (r2 (cr cp) (aw .i64)) true ((G8 x.1 x.2.1, fk x.1 x.2.1)) (abu x.1 x.2.1 hc)
noncomputable abbrev an4 : Nat × Bool × (List AV → M AV) := (175, true, dc (aC c8 (aC cd a0)) zt)
end Go.Proofs.YtidomogemfchpaaGreat
end
section
set_option linter.unusedSimpArgs false
set_option linter.unusedVariables false
namespace Go.Proofs.YtidomogemfchpaaGreat
open Go.Vm
set_option maxRecDepth 2000000
theorem aqj (args : List AV) : A6 PP 191 args (Cx.iq args) :=
  Cx.vq (fn := (PP.funcs[191]?).getD default) (by kernel_rfl) (by kernel_rfl) (by kernel_rfl) (by kernel_rfl) (by kernel_rfl) args
noncomputable abbrev axe : Nat × Bool × (List AV → M AV) := (191, true, Cx.iq)
theorem av0 : ak PP [axe] := ak.cons aqj (ak.nil PP)
noncomputable def afe (a b : List UInt8) : Int := Lib.compareBytes a b
theorem Uz (a b : List UInt8) : wl PP [axe] 0 (Tryz.f177.body.getD .skip) (dj PP Tryz.f177.results.toList (fun r st => (r1 (aw .i64)).get true st.h r = some (afe a b))) (bw 0 [(cr cp).val false a, (cr cp).val false b]) (bp []) := by
  unfold Tryz.f177
  simp only [qa]
  simp only [↓wR, RA, simprocAttr, TF, afe]
noncomputable def xc (x : List UInt8 × List UInt8 × Unit) : Option AV := some ((r1 (aw .i64)).E true (afe x.1 x.2.1))
theorem N0 (x : List UInt8 × List UInt8 × Unit) (r : AV) (h : xc x = some r) : bf PP 177 ((aC (cr cp) (aC (cr cp) a0)).E x) r := by
  cases h
  exact ba av0 Tryz.func177 (by kernel_rfl) (by kernel_rfl) (by kernel_rfl) (Nat.le_of_ble_eq_true (by kernel_rfl)) (r1 (aw .i64)) true (afe x.1 x.2.1) (Uz x.1 x.2.1)
noncomputable abbrev aeu : Nat × Bool × (List AV → M AV) := (177, true, dc (aC (cr cp) (aC (cr cp) a0)) xc)
theorem anu (s : ByteArray) : (fold s).size = s.size := by
  show (s.data.toList.map low).toArray.size = s.data.size
  simp
theorem V5 (n : Name) : br (en n) = br n := by
  unfold br en
  rw [List.foldl_map]
  simp only [anu]
theorem an3 (l : List Name) : fu br (l.map en) = fu br l := by
  induction l with
  | nil => rfl
  | cons a l ih => simp only [fu, List.map_cons, List.foldr_cons, V5] at ih ⊢; rw [ih]
theorem dx.fold {d : c7} (h : dx d) (t : UInt16) : dx (u5 t d) := by
  unfold u5
  split
  · unfold dx uc at *
    simp only [an3]; exact h
  · exact h
noncomputable def Qp (t : UInt16) (a b : c7) : Int := if fk t (u5 t a) ≠ 0 ∨ fk t (u5 t b) ≠ 0 then 0 else afe (G8 t (u5 t a)) (G8 t (u5 t b))
noncomputable def Ni (t : UInt16) (a b : c7) : Bool := decide (fk t a = 0) && decide (fk t b = 0) && decide (Qp t a b = 0)
theorem Wd (t : UInt16) (a b : c7) (ha : dx a) (hb : dx b) : wl PP [ar6, an4, aeu] 0 (Tryz.f153.body.getD .skip) (dj PP Tryz.f153.results.toList (fun r st => (r1 (aw .i64)).get true st.h r = some (Qp t a b))) (bw 0 [c8.val false t, cd.val false a, cd.val false b]) (bp []) := by
  have fa := ha.fold t
  have fb := hb.fold t
  unfold Tryz.f153
  simp only [mc, di]
  simp only [↓wR, RA, simprocAttr, TF, B2, zt, xc, ha, hb, fa, fb]
  unfold Qp
  rw [bk]; refine ⟨fun h => ?_, fun h => ?_⟩
  · have he : fk t (u5 t a) ≠ 0 := by simpa using h
    rw [if_pos (.inl he)]
    simp only [↓wR, RA, simprocAttr, TF, h]
  have he : fk t (u5 t a) = 0 := by simpa using h
  simp only [↓wR, RA, simprocAttr, TF, h]
  rw [bk]; refine ⟨fun h2 => ?_, fun h2 => ?_⟩
  · have he2 : fk t (u5 t b) ≠ 0 := by simpa using h2
    rw [if_pos (.inr he2)]
    simp only [↓wR, RA, simprocAttr, TF, h2]
  · have he2 : fk t (u5 t b) = 0 := by simpa using h2
    rw [if_neg (by omega)]
    simp only [↓wR, RA, simprocAttr, TF, h2, xc]
noncomputable def mq (x : UInt16 × c7 × c7 × Unit) : Option AV := if dx x.2.1 ∧ dx x.2.2.1 then some ((r1 (aw .i64)).E true (Qp x.1 x.2.1 x.2.2.1)) else none
set_option maxRecDepth 2000000 in
theorem Eb (x : UInt16 × c7 × c7 × Unit) (r : AV) (h : mq x = some r) : bf PP 153 ((aC c8 (aC cd (aC cd a0))).E x) r := by
  by_cases hc : dx x.2.1 ∧ dx x.2.2.1
  case neg => simp only [mq, if_neg hc] at h; cases h
  simp only [mq, if_pos hc] at h
  cases h
  exact ba (ak.cons (ai Zc) (ak.cons (ai V2) (ak.cons (ai N0) (ak.nil PP)))) Tryz.func153 (by kernel_rfl) (by kernel_rfl) (by kernel_rfl) (Nat.le_of_ble_eq_true (by kernel_rfl)) (r1 (aw .i64)) true (Qp x.1 x.2.1 x.2.2.1) (Wd x.1 x.2.1 x.2.2.1 hc.1 hc.2)
noncomputable abbrev Gb : Nat × Bool × (List AV → M AV) := (153, true, dc (aC c8 (aC cd (aC cd a0))) mq)
theorem agd (t : UInt16) (a b : c7) (ha : dx a) (hb : dx b) : wl PP [Lp, Gb] 0 (Tryz.f150.body.getD .skip) (dj PP Tryz.f150.results.toList (fun r st => (r1 bt).get true st.h r = some (Ni t a b))) (bw 0 [c8.val false t, cd.val false a, cd.val false b]) (bp []) := by
  unfold Tryz.f150
  simp only [mc, di]
  simp only [↓wR, RA, simprocAttr, TF, qq, ha, hb]
  unfold Ni
  rw [cy]; refine ⟨fun ⟨h, e⟩ => ?_, fun ⟨h, e⟩ => ?_⟩
  · rw [decide_eq_true e]
    simp only [↓wR, RA, simprocAttr, TF, h, qq, ha, hb]
    rw [cy]; refine ⟨fun ⟨h2, e2⟩ => ?_, fun ⟨h2, e2⟩ => ?_⟩
    · rw [decide_eq_true e2]
      simp only [↓wR, RA, simprocAttr, TF, h2, mq, ha, hb]
      rfl
    · rw [decide_eq_false e2]
      simp only [↓wR, RA, simprocAttr, TF, h2]
      rfl
  · rw [decide_eq_false e]
    simp only [↓wR, RA, simprocAttr, TF, h]
    rfl
noncomputable def Bw (x : UInt16 × c7 × c7 × Unit) : Option AV := if dx x.2.1 ∧ dx x.2.2.1 then some ((r1 bt).E true (Ni x.1 x.2.1 x.2.2.1)) else none
set_option maxRecDepth 2000000 in
theorem Zm (x : UInt16 × c7 × c7 × Unit) (r : AV) (h : Bw x = some r) : bf PP 150 ((aC c8 (aC cd (aC cd a0))).E x) r := by
  by_cases hc : dx x.2.1 ∧ dx x.2.2.1
  case neg => simp only [Bw, if_neg hc] at h; cases h
  simp only [Bw, if_pos hc] at h
  cases h
  exact ba (ak.cons (ai Au) (ak.cons (ai Eb) (ak.nil PP))) Tryz.func150 (by kernel_rfl) (by kernel_rfl) (by kernel_rfl) (Nat.le_of_ble_eq_true (by kernel_rfl)) (r1 bt) true (Ni x.1 x.2.1 x.2.2.1) (agd x.1 x.2.1 x.2.2.1 hc.1 hc.2)
noncomputable abbrev ass : Nat × Bool × (List AV → M AV) := (150, true, dc (aC c8 (aC cd (aC cd a0))) Bw)
end Go.Proofs.YtidomogemfchpaaGreat
end
section
set_option linter.unusedSimpArgs false
set_option linter.unusedVariables false
set_option maxRecDepth 100000
namespace Go.Vm
noncomputable section
theorem V6 {α : Type} (C : dg α) (fr : Bool) (h : Tr bc) (l : List AV) (ha : C.agg = true) : C.dec fr h l = C.fo fr h (.agg l) := by
  rw [re _ _ _ _ rfl (by rw [ha]; rfl)]; rfl
theorem Vu {α β : Type} (A : dg α) (B : dg β) (fr : Bool) (h : Tr bc) (l : List AV) : (jk A B).dec fr h l = match A.dec fr h (l.take A.sz), B.dec fr h (l.drop A.sz) with | some x, some y => some (x, y) | _, _ => none := rfl
theorem Nk {α : Type} (C : dg α) (fr h) (x : AV) : (cr C).dec fr h [x] = ew C fr h x := rfl
theorem M1 (fr h) (x : AV) : ar.dec fr h [x] = ew an fr h x := rfl
theorem S1 {P : Program} {T : ed} {l : Nat} {az : Nat} {L : SL} {st : St} {Q : QI} {ps : List Tmp} {ra rb : Code} {L0 : SL} {α : Type} {b : Code} (keep : List Nat) (V : α → List AV) (O : α → List (Option bc)) (I : α → Prop) (μ : α → Nat) (x : α) (hx : I x)
    (hv : nj az (jz az keep L st) (gb az keep L st) (V x) (O x))
    (step : ∀ x, I x → ox P T l (mo ps (fun p => wl P T p ra) (fun p => wl P T p rb) L0) az b (zi (xa az keep (fun vs os => ∃ y, I y ∧ μ y < μ x ∧ vs = V y ∧ os = O y) (fun _ _ _ => False)) Q) none (mz keep (V x)) (bp (O x))) : ox P T l (mo ps (fun p => wl P T p ra) (fun p => wl P T p rb) L0) az (.loop b) Q none L st := by
  have mono : ∀ (Q1 Q2 : QL), (∀ e L st, Q1 e L st → Q2 e L st) → ∀ L st, ox P T l (mo ps (fun p => wl P T p ra) (fun p => wl P T p rb) L0) az b (zi Q1 Q) none L st → ox P T l (mo ps (fun p => wl P T p ra) (fun p => wl P T p rb) L0) az b (zi Q2 Q) none L st := fun Q1 Q2 h L st hh => Qf (Ps P T) b _ _ (fun e pe L st q => by
    cases e with
    | normal => exact ⟨q.1, h _ _ _ q.2⟩
    | ret => exact q
    | exit i => exact q) none L st hh
  refine ⟨rfl, rn.asv (B := fun Q' L st => ox P T l _ az b (zi Q' Q) none L st) keep V O I μ x hx hv mono (fun x hi => mono _ _ (fun e L' st' hq => ?_) _ _ (step x hi))⟩
  cases e with
  | normal =>
    obtain ⟨y, h1, h2, h3, h4⟩ := hq
    refine ⟨y, h1, h2, ?_⟩
    rw [h3, h4]; exact .refl _ _ _
  | exit i => exact hq.elim
  | ret => exact hq.elim
theorem Jq (k fr h n cells kk st et) (hn : n = cells.length) : nf (aw k) fr h 0 n (.row cells kk st et) = qe (aw k) fr h cells := v5 (aw k) rfl fr h n cells kk st et hn
def gq (n : Nat) (r : AV) (st : St) : List Nat := reach st.h eu (r.names ++ nm st.h (dm 0 n)) (dm 0 n)
def g8 (n : Nat) (r : AV) (st : St) : AV := r.db (fun o => idx (gq n r st) o 0)
def gx (n : Nat) (r : AV) (st : St) : St := bp (gz st.h (fun o => idx (gq n r st) o 0) (gq n r st))
theorem aij {g g' : Gh} {st st' : St} {w w' : World} {r : AV} {v : Value} (hn : st.nx ≤ 1000) (hfr : ∀ o, st.nx ≤ o → g.inj o = none) (hs : Step g st.h w st.nx st'.nx g' st'.h w') (hok : Ok g' st'.h w') (hr : Rel g' w' r v) :
    ∃ g'', st.nx ≤ (gx st.nx r st').nx ∧ Step g st.h w st.nx (gx st.nx r st').nx g'' (gx st.nx r st').h w' ∧ Ok g'' (gx st.nx r st').h w' ∧ Rel g'' w' (g8 st.nx r st') v := by
  have hN := yd st'.h eu (r.names ++ nm st'.h (dm 0 st.nx)) (dm 0 st.nx) (qc _ _)
  change (gq st.nx r st').Nodup ∧ (∃ q, gq st.nx r st' = dm 0 st.nx ++ q) ∧ (gq st.nx r st').length ≤ _ at hN
  have hτ : ∀ o p, (fun o => idx (gq st.nx r st') o 0) o = some p → (gq st.nx r st')[p]? = some o := fun o p h => C9 _ o p h
  unfold gx g8
  generalize gq st.nx r st' = N at hN hτ
  obtain ⟨hnd, ⟨rest, hpre⟩, hlen⟩ := hN
  rw [ik] at hlen
  have hlim : N.length ≤ cq := by simp only [eu, cq] at *; omega
  have cx : ∀ i x, (bp (gz st'.h (fun o => idx N o 0) N)).h.get i = some x → ∃ o y, N[i]? = some o ∧ st'.h.get o = some y ∧ y.db (fun o => idx N o 0) = some x := by
    intro i x hx
    simp only [bp] at hx
    rw [sv _ _ _ (by rw [gn]; omega), if_pos (Nat.zero_le _), Nat.sub_zero, tf] at hx
    cases hi : N[i]? with
    | none => rw [hi] at hx; cases hx
    | some o =>
      rw [hi] at hx
      simp only [Option.map_some, Option.join_some] at hx
      cases hy : st'.h.get o with
      | none => rw [hy] at hx; cases hx
      | some y => rw [hy] at hx; exact ⟨o, y, rfl, hy, hx⟩
  have hinj : ∀ i o, N[i]? = some o → (g'.db N).inj i = g'.inj o := fun i o h => by simp [Gh.db, h]
  have hlow : ∀ o, o < st.nx → N[o]? = some o := fun o ho => by rw [hpre, List.getElem?_append_left (by rw [ik]; exact ho), Cf _ _ _ ho, Nat.zero_add]
  have hnx : (bp (gz st'.h (fun o => idx N o 0) N)).nx = N.length := by simp only [bp, gn]
  have hle : st.nx ≤ N.length := by rw [hpre, List.length_append, ik]; omega
  rw [hnx]
  refine ⟨g'.db N, hle, ⟨⟨hs.ext.b0, fun o p ho => ?_, hs.ext.K, hs.ext.cell, hs.ext.zx, hs.ext.lp⟩, hs.size, hs.os, hs.tape, hs.output, hs.frame, fun o ho hr => ?_, fun i b base hi hj => ?_, hs.n7⟩, ⟨hok.size, fun i x hx => ?_, fun i j x y b base base' hij hx hy hb hb' => ?_, hok.K⟩, hr.db hτ⟩
  · have hlt : o < st.nx := by
      rcases Nat.lt_or_ge o st.nx with h | h
      · exact h
      · rw [hfr o h] at ho; cases ho
    rw [hinj o o (hlow o hlt)]; exact hs.ext.inj o p ho
  · rcases Nat.lt_or_ge o st.nx with h | h
    · rw [hinj o o (hlow o h)]; exact hs.fresh o ho (by omega)
    · simp [Gh.db, List.getElem?_eq_none (show N.length ≤ o by omega)]
  · obtain ⟨x, hx⟩ := Option.isSome_iff_exists.1 hi
    obtain ⟨o, y, h1, h2, _⟩ := cx i x hx
    rw [hinj i o h1] at hj
    exact hs.own o b base (by rw [h2]; rfl) hj
  · obtain ⟨o, y, h1, h2, h3⟩ := cx i x hx
    refine (hok.mb o y h2).imp (fun q => ⟨by rw [hinj i o h1]; exact q.1, by obtain ⟨s0, e0, rfl⟩ := q.2; simp only [bc.db, AV.db.go, Option.some.injEq] at h3; exact ⟨s0, e0, h3.symm⟩⟩) ?_
    rintro ⟨b, base, q1, q2, q3⟩
    exact ⟨b, base, by rw [hinj i o h1]; exact q1, q2, q3.db hτ h3⟩
  · obtain ⟨o, y1, h1, h2, _⟩ := cx i x hx
    obtain ⟨o', y2, h1', h2', _⟩ := cx j y hy
    rw [hinj i o h1] at hb
    rw [hinj j o' h1'] at hb'
    have hne : o ≠ o' := by
      intro e
      subst e
      obtain ⟨hi, ei⟩ := List.getElem?_eq_some_iff.1 h1
      obtain ⟨hj, ej⟩ := List.getElem?_eq_some_iff.1 h1'
      exact hij ((List.getElem_inj hnd).1 (ei.trans ej.symm))
    exact hok.sep o o' _ _ b base base' hne h2 h2' hb hb'
theorem dw {P : Program} {f : Nat} {args : List AV} {st : St} {R : AV → St → Prop} (R0 : AV → St → Prop) (hn : Nat.ble st.nx 1000 = true) (h1 : qg P f args st (fun r st' => R0 (g8 st.nx r st') (gx st.nx r st'))) (h2 : ∀ r st', R0 r st' → R r st') : qg P f args st R := by
  intro g w vs hok hfr hrel
  rcases h1 g w vs hok hfr hrel with ⟨v, w', g', r, st', q1, q2, q3, q4, q5, q6⟩ | ⟨q1, q2⟩
  · obtain ⟨g'', p1, p2, p3, p4⟩ := aij (Nat.le_of_ble_eq_true hn) hfr q4 q5 q6
    exact .inl ⟨v, w', g'', _, _, q1, h2 _ _ q2, p1, p2, p3, p4⟩
  · refine .inr ⟨q1, q2.mono ?_⟩
    rintro e w' ⟨v, g', r, st', rfl, q2, q3, q4, q5, q6⟩
    obtain ⟨g'', p1, p2, p3, p4⟩ := aij (Nat.le_of_ble_eq_true hn) hfr q4 q5 q6
    exact ⟨v, g'', _, _, rfl, h2 _ _ q2, p1, p2, p3, p4⟩
theorem Ji (l) (n : Name) : ji (ar.val l n) = some n.length := by
  rw [di]; show some (List.map (an.val l) n).length = _; rw [List.length_map]
theorem ahs (a b : Operand) : (#[a] ++ (none : Option Operand).toArray ++ (some b).toArray ++ (none : Option Operand).toArray).toList = [a, b] := id rfl
theorem dv4 : 4 / 4 = 1 := rfl
theorem dv5 : 5 / 5 = 1 := rfl
theorem aaq (fr h) : c8.dec fr h [.sc (.int .u16 0)] = some 0 := rfl
theorem aes (fr h) : bn.dec fr h [.sc (.int .u32 0)] = some 0 := rfl
theorem ajf (k fr h n) : (aw k).dec fr h [.sc (.int k n)] = some n := (aw k).rt fr h true n (fun _ => rfl)
theorem Jl (l : Bool) (d : c7) : (cd.val l d).cells = [.vl l 1 (d.names.map (ar.val l)), .vl l 1 (d.nums.map (bn.val l)), .vl l 1 (d.texts.map (an.val l)), .vl l 1 (d.raw.map (cp.val l))] := id rfl
theorem Ld (fr h l) (n : Name) (hl : (l || !fr) = true) : ew an fr h (ar.val l n) = some n := wh an fr h l n 1 rfl hl
def aaj {α : Type} (C : dg α) (h : Tr bc) (off : Nat) (x : bc) : Option α :=
  match x with
  | .row cells _ _ _ => bif Nat.ble (off + C.sz) cells.length then C.dec false h ((cells.drop off).take C.sz) else none
  | _ => none
def Wq {α : Type} (C : dg α) (h : Tr bc) (a : AV) : Option α :=
  match a with
  | .gp l => bif Nat.ble C.sz l.length then C.dec false h (l.take C.sz) else none
  | .ptr o off => (h.get o).bind (aaj C h off)
  | _ => none
theorem Qg {α : Type} (C : dg α) (h o off) : Wq C h (.ptr o off) = (h.get o).bind (aaj C h off) := id rfl
theorem Yn {α : Type} (C : dg α) (h l) : Wq C h (.gp l) = bif Nat.ble C.sz l.length then C.dec false h (l.take C.sz) else none := id rfl
theorem P7 {α : Type} (C : dg α) (h off cells k s e) : aaj C h off (.row cells k s e) = bif Nat.ble (off + C.sz) cells.length then C.dec false h ((cells.drop off).take C.sz) else none := id rfl
theorem avi {α : Type} (C : dg α) {g h w K b0 a v x} (hok : Ok g h w) (hl : qw g h K) (hr : Rel g w a v) (hd : Wq C h a = some x) : Rel (gK b0 K) w (.gp (C.cells false x)) v := by
  have fin : ∀ (b off : Nat) (vs : List Value), bm g w ((C.cells false x).map fun _ => AV.bad) vs → bm (gK b0 K) w (C.cells false x) vs → (∀ j u, vs[j]? = some u → K b (off + j) ∧ w.cell? ⟨b, off + j, none⟩ = some u) → Rel (gK b0 K) w (.gp (C.cells false x)) (.pointer (some ⟨b, off, none⟩)) := by
    intro b off vs _ hrl hc
    refine .gp _ b off (fun j => vs.getD j undef) (fun j a hj => ?_) (fun j a hj => ?_)
    · obtain ⟨u, hu, _⟩ := hrl.get hj
      have := hc j u hu
      exact ⟨this.1, by rw [this.2, List.getD_eq_getElem?_getD, hu]; rfl⟩
    · obtain ⟨u, hu, hrel⟩ := hrl.get hj
      show Rel _ _ a (vs.getD j undef)
      rw [List.getD_eq_getElem?_getD, hu]; exact hrel
  have bads : ∀ vs : List Value, bm (gK b0 K) w (C.cells false x) vs → bm g w ((C.cells false x).map fun _ => AV.bad) vs := fun vs h => ⟨by simpa using h.1, fun i a v ha _ => by
    rw [List.getElem?_map, Option.map_eq_some_iff] at ha
    obtain ⟨_, _, rfl⟩ := ha
    exact .bad _⟩
  cases hr with
  | gp l b off c h1 h2 =>
    rw [Yn] at hd
    cases hb : Nat.ble C.sz l.length with
    | false => rw [hb] at hd; cases hd
    | true =>
      rw [hb, cond_true] at hd
      have hle := Nat.le_of_ble_eq_true hb
      have hlist : bm g w (l.take C.sz) (ij 0 C.sz c) := by
        refine ⟨by simp [ij]; omega, fun i a v ha hv => ?_⟩
        rw [List.getElem?_take] at ha
        by_cases hi : i < C.sz
        · rw [if_pos hi] at ha
          simp only [ij, List.getElem?_map, List.getElem?_range hi, Option.map_some, Option.some.injEq, Nat.zero_add] at hv
          subst hv
          exact h2 i a ha
        · rw [if_neg hi] at ha; cases ha
      have q := C.ok (b0 := b0) hok hl (fun e => by cases e) hlist hd
      refine fin b off _ (bads _ q) q (fun j u hu => ?_)
      have hj : j < C.sz := by have := (List.getElem?_eq_some_iff.1 hu).1; simpa [ij] using this
      simp only [ij, List.getElem?_map, List.getElem?_range hj, Option.map_some, Option.some.injEq, Nat.zero_add] at hu
      subst hu
      have := h1 j _ (List.getElem?_eq_getElem (by omega))
      exact ⟨hl.K _ _ this.1, this.2⟩
  | ptr o off b base hi =>
    rw [Qg, Option.bind_eq_some_iff] at hd
    obtain ⟨y, hy, hd⟩ := hd
    obtain ⟨b', base', hi', hbb, hrow⟩ := hok.obj o y hy
    rw [hi] at hi'; cases hi'
    cases y with
    | map es => cases hd
    | loop => cases hd
    | row cells k st et =>
      rw [P7] at hd
      cases hle : Nat.ble (off + C.sz) cells.length with
      | false => rw [hle] at hd; cases hd
      | true =>
        rw [hle, cond_true] at hd
        have hle' := Nat.le_of_ble_eq_true hle
        obtain ⟨cs, fz, r1, r2, r3, _⟩ := hrow
        have hpart : bm g w ((cells.drop off).take C.sz) (ij (base + off) C.sz (fun j => cs.getD j undef)) := by
          refine ⟨by simp [ij]; omega, fun i a v ha hv => ?_⟩
          rw [List.getElem?_take, List.getElem?_drop] at ha
          by_cases hil : i < C.sz
          · rw [if_pos hil] at ha
            obtain ⟨u, hu, hrel⟩ := r3 _ a ha
            simp only [ij, List.getElem?_map, List.getElem?_range hil, Option.map_some, Option.some.injEq] at hv
            subst hv
            rw [Array.getD_eq_getD_getElem?, Nat.add_assoc, hu]
            exact hrel
          · rw [if_neg hil] at ha; cases ha
        have q := C.ok (b0 := b0) hok hl (fun e => by cases e) hpart hd
        refine fin b (base + off) _ (bads _ q) q (fun j u hv => ?_)
        have hj : j < C.sz := by have := (List.getElem?_eq_some_iff.1 hv).1; simpa [ij] using this
        simp only [ij, List.getElem?_map, List.getElem?_range hj, Option.map_some, Option.some.injEq] at hv
        obtain ⟨u, hu, _⟩ := r3 (off + j) (cells[off + j]'(by omega)) (by simp)
        have hrows := hl.rows o cells k st et hy b base hi (off + j) (by omega)
        rw [← Nat.add_assoc] at hrows hu
        refine ⟨hrows, ?_⟩
        rw [l0 r1, hu, ← hv, Array.getD_eq_getD_getElem?, hu]
        rfl
  | _ => cases hd
def aP {α β : Type} (C : dg α) (R : AC β) : AC (α × β) where
  E p := .gp (C.cells false p.1) :: R.E p.2
  D h l := match l with
    | [] => none
    | a :: r => match Wq C h a, R.D h r with
      | some x, some y => some (x, y)
      | _, _ => none
  rt h p := by
    have : Wq C h (.gp (C.cells false p.1)) = some p.1 := by
      rw [Yn, C.len, Nat.ble_self_eq_true, cond_true, List.take_of_length_le (by rw [C.len]; exact Nat.le_refl _)]
      exact C.rt false h false p.1 (fun e => by cases e)
    simp only [this, R.rt]
  ok := by
    intro g h w K b0 l vs x hok hl hr hd
    match l, hd with
    | a :: r, hd =>
      simp only at hd
      split at hd
      · rename_i x1 y1 hx hy
        simp at hd; subst hd
        match vs, hr with
        | [], hr => have := hr.1; simp at this
        | v :: vs, hr => exact bm.cons (avi C hok hl hr.head hx) (R.ok hok hl hr.tail hy)
      · cases hd
theorem awl {α β : Type} (C : dg α) (R : AC β) (h : Tr bc) (a : AV) (r : List AV) : (aP C R).get h (a :: r) = match Wq C h a, R.get h r with | some x, some y => some (x, y) | _, _ => none := id rfl
theorem Ze (f) (l : List c7) (d : c7) : cellsOf cd f (l ++ [d]) = cellsOf cd f l ++ [.vl f 1 (d.names.map (ar.val f)), .vl f 1 (d.nums.map (bn.val false)), .vl f 1 (d.texts.map (an.val false)), .vl f 1 (d.raw.map (cp.val false))] := by rw [Gg, Pr]; rfl
structure bo where
  owner : Name
  type : UInt16
  cls : UInt16
  sr : UInt32
  data : List c7
def mkS (owner : Name) (type : UInt16) (cls : UInt16) (sr : UInt32) (data : List c7) : bo := ⟨owner, type, cls, sr, data⟩
theorem ah6 (x : bo) : mkS x.owner x.type x.cls x.sr x.data = x := id rfl
def aq : dg bo := vr (jk ar (jk c8 (jk c8 (jk bn (cr cd))))) (fun x => (x.owner, x.type, x.cls, x.sr, x.data)) (fun p => ⟨p.1, p.2.1, p.2.2.1, p.2.2.2.1, p.2.2.2.2⟩) (fun _ => rfl) (fun _ => rfl)
theorem js (l : Bool) (x : bo) : aq.val l x = .agg [.vl l 1 (x.owner.map (an.val l)), .sc (.int .u16 x.type.toNat), .sc (.int .u16 x.cls.toNat), .sc (.int .u32 x.sr.toNat), .vl l 4 (x.data.map (cd.val l))] := id rfl
theorem Yk : aq.sz = 5 := id rfl
theorem S7 (fr : Bool) (h : Tr bc) (y0 y1 y2 y3 y4 : AV) : aq.fo fr h (.agg [y0, y1, y2, y3, y4]) = match ew an fr h y0, c8.dec fr h [y1], c8.dec fr h [y2], bn.dec fr h [y3], ew cd fr h y4 with
    | some v0, some v1, some v2, some v3, some v4 => some (mkS v0 v1 v2 v3 v4)
    | _, _, _, _, _ => none := by
  rw [re _ _ _ _ rfl rfl]
  have h1 : aq.dec fr h (AV.agg [y0, y1, y2, y3, y4]).cells = Option.map (fun p => (⟨p.1, p.2.1, p.2.2.1, p.2.2.2.1, p.2.2.2.2⟩ : bo)) ((jk ar (jk c8 (jk c8 (jk bn (cr cd))))).dec fr h [y0, y1, y2, y3, y4]) := rfl
  rw [h1]
  simp only [Vu, vz, pf, yh, so, we, sw, List.take_succ_cons, List.take_zero, List.drop_succ_cons, List.drop_zero, Nk, M1]
  cases (ew an fr h y0) <;> cases (c8.dec fr h [y1]) <;> cases (c8.dec fr h [y2]) <;> cases (bn.dec fr h [y3]) <;> cases (ew cd fr h y4) <;> rfl
theorem Kf (l) (xs : List bo) (x : bo) : cellsOf aq l (xs ++ [x]) = cellsOf aq l xs ++ [.vl l 1 (x.owner.map (an.val false)), .sc (.int .u16 x.type.toNat), .sc (.int .u16 x.cls.toNat), .sc (.int .u32 x.sr.toNat), .vl l 4 (x.data.map (cd.val l))] := by rw [Gg, Pr]; rfl
structure bb where
  origin : Name
  aj : List bo
def mkZ (origin : Name) (aj : List bo) : bb := ⟨origin, aj⟩
theorem ai3 (x : bb) : mkZ x.origin x.aj = x := id rfl
def bg : dg bb := vr (jk ar (cr aq)) (fun x => (x.origin, x.aj)) (fun p => ⟨p.1, p.2⟩) (fun _ => rfl) (fun _ => rfl)
theorem ig (l : Bool) (x : bb) : bg.val l x = .agg [.vl l 1 (x.origin.map (an.val l)), .vl l 5 (x.aj.map (aq.val l))] := id rfl
theorem Ax (l : Bool) (x : bb) : bg.cells l x = [.vl l 1 (x.origin.map (an.val l)), .vl l 5 (x.aj.map (aq.val l))] := id rfl
theorem Iu : bg.sz = 2 := id rfl
theorem Ge (fr : Bool) (h : Tr bc) (y0 y1 : AV) : bg.fo fr h (.agg [y0, y1]) = match ew an fr h y0, ew aq fr h y1 with
    | some v0, some v1 => some (mkZ v0 v1)
    | _, _ => none := by
  rw [re _ _ _ _ rfl rfl]
  have h1 : bg.dec fr h (AV.agg [y0, y1]).cells = Option.map (fun p => (⟨p.1, p.2⟩ : bb)) ((jk ar (cr aq)).dec fr h [y0, y1]) := rfl
  rw [h1]
  simp only [Vu, vz, pf, yh, so, we, sw, List.take_succ_cons, List.take_zero, List.drop_succ_cons, List.drop_zero, Nk, M1]
  cases (ew an fr h y0) <;> cases (ew aq fr h y1) <;> rfl
theorem La (fr : Bool) (h : Tr bc) (y0 y1 : AV) : bg.dec fr h [y0, y1] = match ew an fr h y0, ew aq fr h y1 with
    | some v0, some v1 => some (mkZ v0 v1)
    | _, _ => none := (V6 bg fr h _ rfl).trans (Ge fr h y0 y1)
structure u2 where
  addr : UInt32
  ay : List Int
def dy : dg u2 := vr (jk bn (cr (aw .i64))) (fun x => (x.addr, x.ay)) (fun p => ⟨p.1, p.2⟩) (fun _ => rfl) (fun _ => rfl)
theorem O9 (l : Bool) (x : u2) : dy.val l x = .agg [.sc (.int .u32 x.addr.toNat), .vl l 1 (x.ay.map ((aw .i64).val l))] := id rfl
theorem Uj : dy.sz = 2 := id rfl
structure bd where
  ay : List bb
  dk : List u2
  hints : List UInt32
def mkW (ay : List bb) (dk : List u2) (hints : List UInt32) : bd := ⟨ay, dk, hints⟩
theorem aje (x : bd) : mkW x.ay x.dk x.hints = x := id rfl
def ct : dg bd := vr (jk (cr bg) (jk (cr dy) (cr bn))) (fun x => (x.ay, x.dk, x.hints)) (fun p => ⟨p.1, p.2.1, p.2.2⟩) (fun _ => rfl) (fun _ => rfl)
theorem ek (l : Bool) (x : bd) : ct.val l x = .agg [.vl l 2 (x.ay.map (bg.val l)), .vl l 2 (x.dk.map (dy.val l)), .vl l 1 (x.hints.map (bn.val l))] := id rfl
theorem Lf (fr : Bool) (h : Tr bc) (y0 y1 y2 : AV) : ct.fo fr h (.agg [y0, y1, y2]) = match ew bg fr h y0, ew dy fr h y1, ew bn fr h y2 with
    | some v0, some v1, some v2 => some (mkW v0 v1 v2)
    | _, _, _ => none := by
  rw [re _ _ _ _ rfl rfl]
  have h1 : ct.dec fr h (AV.agg [y0, y1, y2]).cells = Option.map (fun p => (⟨p.1, p.2.1, p.2.2⟩ : bd)) ((jk (cr bg) (jk (cr dy) (cr bn))).dec fr h [y0, y1, y2]) := rfl
  rw [h1]
  simp only [Vu, vz, pf, yh, so, we, sw, List.take_succ_cons, List.take_zero, List.drop_succ_cons, List.drop_zero, Nk, M1]
  cases (ew bg fr h y0) <;> cases (ew dy fr h y1) <;> cases (ew bn fr h y2) <;> rfl
structure Bg where
  kind : Int
  node : Name
  ur : Name
def x7 (kind : Int) (node : Name) (ur : Name) : Bg := ⟨kind, node, ur⟩
theorem acv (kind node ur) : (x7 kind node ur).node = node := id rfl
def qi : dg Bg := vr (jk (aw .u8) (jk ar ar)) (fun x => (x.kind, x.node, x.ur)) (fun p => ⟨p.1, p.2.1, p.2.2⟩) (fun _ => rfl) (fun _ => rfl)
theorem F4 (l : Bool) (x : Bg) : qi.val l x = .agg [.sc (.int .u8 x.kind), .vl l 1 (x.node.map (an.val l)), .vl l 1 (x.ur.map (an.val l))] := id rfl
theorem Pt (fr : Bool) (h : Tr bc) (y0 y1 y2 : AV) : qi.fo fr h (.agg [y0, y1, y2]) = match (aw .u8).dec fr h [y0], ew an fr h y1, ew an fr h y2 with
    | some v0, some v1, some v2 => some (x7 v0 v1 v2)
    | _, _, _ => none := by
  rw [re _ _ _ _ rfl rfl]
  have h1 : qi.dec fr h (AV.agg [y0, y1, y2]).cells = Option.map (fun p => (⟨p.1, p.2.1, p.2.2⟩ : Bg)) ((jk (aw .u8) (jk ar ar)).dec fr h [y0, y1, y2]) := rfl
  rw [h1]
  simp only [Vu, vz, pf, yh, so, we, sw, List.take_succ_cons, List.take_zero, List.drop_succ_cons, List.drop_zero, Nk, M1]
  cases ((aw .u8).dec fr h [y0]) <;> cases (ew an fr h y1) <;> cases (ew an fr h y2) <;> rfl
structure Ez where
  turn : Int
  aj : List bo
  to : Name
def xu (turn : Int) (aj : List bo) (to : Name) : Ez := ⟨turn, aj, to⟩
theorem ah4 (x : Ez) : xu x.turn x.aj x.to = x := id rfl
theorem ad1 (turn aj to) : (xu turn aj to).turn = turn := id rfl
theorem aa5 (turn aj to) : (xu turn aj to).aj = aj := id rfl
theorem aqb (turn aj to) : (xu turn aj to).to = to := id rfl
def wa : dg Ez := vr (jk (aw .u8) (jk (cr aq) ar)) (fun x => (x.turn, x.aj, x.to)) (fun p => ⟨p.1, p.2.1, p.2.2⟩) (fun _ => rfl) (fun _ => rfl)
theorem Pd (l : Bool) (x : Ez) : wa.val l x = .agg [.sc (.int .u8 x.turn), .vl l 5 (x.aj.map (aq.val l)), .vl l 1 (x.to.map (an.val l))] := id rfl
theorem Oy (fr : Bool) (h : Tr bc) (y0 y1 y2 : AV) : wa.fo fr h (.agg [y0, y1, y2]) = match (aw .u8).dec fr h [y0], ew aq fr h y1, ew an fr h y2 with
    | some v0, some v1, some v2 => some (xu v0 v1 v2)
    | _, _, _ => none := by
  rw [re _ _ _ _ rfl rfl]
  have h1 : wa.dec fr h (AV.agg [y0, y1, y2]).cells = Option.map (fun p => (⟨p.1, p.2.1, p.2.2⟩ : Ez)) ((jk (aw .u8) (jk (cr aq) ar)).dec fr h [y0, y1, y2]) := rfl
  rw [h1]
  simp only [Vu, vz, pf, yh, so, we, sw, List.take_succ_cons, List.take_zero, List.drop_succ_cons, List.drop_zero, Nk, M1]
  cases ((aw .u8).dec fr h [y0]) <;> cases (ew aq fr h y1) <;> cases (ew an fr h y2) <;> rfl
structure sy where
  z : bb
  e : Int
def mkL (z : bb) (e : Int) : sy := ⟨z, e⟩
theorem atk (z e) : (mkL z e).z = z := id rfl
def l6 : dg sy := vr (jk bg (aw .i64)) (fun x => (x.z, x.e)) (fun p => ⟨p.1, p.2⟩) (fun _ => rfl) (fun _ => rfl)
theorem A0 (l : Bool) (x : sy) : l6.cells l x = [.vl l 1 (x.z.origin.map (an.val l)), .vl l 5 (x.z.aj.map (aq.val l)), .sc (.int .i64 x.e)] := id rfl
theorem Tm : l6.sz = 3 := id rfl
theorem ago (fr : Bool) (h : Tr bc) (y00 y01 y1 : AV) : l6.fo fr h (.agg [y00, y01, y1]) = match bg.fo fr h (.agg [y00, y01]), (aw .i64).dec fr h [y1] with
    | some v0, some v1 => some (mkL v0 v1)
    | _, _ => none := by
  rw [re _ _ _ _ rfl rfl]
  have h1 : l6.dec fr h (AV.agg [y00, y01, y1]).cells = Option.map (fun p => (⟨p.1, p.2⟩ : sy)) ((jk bg (aw .i64)).dec fr h [y00, y01, y1]) := rfl
  rw [h1]
  simp only [Vu, vz, pf, yh, so, we, sw, List.take_succ_cons, List.take_zero, List.drop_succ_cons, List.drop_zero, Nk, M1, Iu, V6 bg fr h _ rfl]
  cases (bg.fo fr h (.agg [y00, y01])) <;> cases ((aw .i64).dec fr h [y1]) <;> rfl
theorem J6 (fr : Bool) (h : Tr bc) (y00 y01 y1 : AV) : l6.dec fr h [y00, y01, y1] = match bg.fo fr h (.agg [y00, y01]), (aw .i64).dec fr h [y1] with
    | some v0, some v1 => some (mkL v0 v1)
    | _, _ => none := (V6 l6 fr h _ rfl).trans (ago fr h y00 y01 y1)
structure aba where
  at6 : Int
  aa : Bool
  answer : List bo
  authority : List bo
  Sj : List bo
def Xc (at6 : Int) (aa : Bool) (answer : List bo) (authority : List bo) (Sj : List bo) : aba := ⟨at6, aa, answer, authority, Sj⟩
theorem ae : type_of% @Ji ∧ type_of% @Jq ∧ type_of% @ahs ∧ type_of% @dv4 ∧ type_of% @dv5 ∧ type_of% @aaq ∧ type_of% @aes ∧ type_of% @ajf ∧ type_of% @Qg ∧ type_of% @P7 ∧ type_of% @awl ∧ type_of% @Ld ∧ type_of% @Jl ∧ type_of% @Ox ∧ type_of% @w6 ∧ type_of% @Dj ∧ type_of% @ah6 ∧ type_of% @js ∧ type_of% @Yk ∧ type_of% @S7 ∧ type_of% @ai3 ∧ type_of% @La ∧ type_of% @ig ∧ type_of% @Iu ∧ type_of% @Ge ∧ type_of% @O9 ∧ type_of% @Uj ∧ type_of% @aje ∧ type_of% @Lf ∧ type_of% @acv ∧ type_of% @F4 ∧ type_of% @Pt ∧ type_of% @ah4 ∧ type_of% @ad1 ∧ type_of% @aa5 ∧ type_of% @aqb ∧ type_of% @Pd ∧ type_of% @Oy ∧ type_of% @atk ∧ type_of% @J6 ∧ type_of% @Tm :=
  ⟨@Ji, @Jq, @ahs, @dv4, @dv5, @aaq, @aes, @ajf, @Qg, @P7, @awl, @Ld, @Jl, @Ox, @w6, @Dj, @ah6, @js, @Yk, @S7, @ai3, @La, @ig, @Iu, @Ge, @O9, @Uj, @aje, @Lf, @acv, @F4, @Pt, @ah4, @ad1, @aa5, @aqb, @Pd, @Oy, @atk, @J6, @Tm⟩
end
end Go.Vm
end
section
set_option linter.unusedSimpArgs false
set_option linter.unusedVariables false
namespace Go.Proofs.YtidomogemfchpaaGreat
open Go.Vm
set_option maxRecDepth 2000000
noncomputable def As (t : UInt16) (l : List c7) (d : c7) : Bool := l.any fun x => Ni t x d
theorem axa (t : UInt16) (l : List c7) (d : c7) (hl : ∀ x ∈ l, dx x) (hn : l.length ≤ 16777216) (hd : dx d) : wl PP [] 0 (Tryz.f118.body.getD .skip) (dj PP Tryz.f118.results.toList (fun r st => (r1 bt).get true st.h r = some (As t l d))) (bw 0 [c8.val false t, (cr cd).val false l, cd.val false d]) (bp []) := by
  unfold Tryz.f118
  simp only [qa, mc]
  simp only [↓wR, RA, simprocAttr, TF, ae]
  refine bq (T := []) (ak.nil PP) mixed Tryz.func148 rfl (by kernel_rfl) (by kernel_rfl) (by kernel_rfl) (by kernel_rfl) ?_; unfold Tryz.f148
  simp only [↓wR, RA, simprocAttr, TF, ae]
  refine bq (T := []) (ak.nil PP) mixed Tryz.func174 rfl (by kernel_rfl) (by kernel_rfl) (by kernel_rfl) (by kernel_rfl) ?_; unfold Tryz.f174
  simp only [↓wR, RA, simprocAttr, TF, ae]
  refine dh [0, 1, 7, 8] (fun (i : Nat) => [.vl false 4 (l.map (cd.val false)), .fn (.func 149) [] [.ptr 0 0, .ptr 1 0], .sc (.int .i64 (l.length)), .sc (.int .i64 (i))]) (fun _ => [some (.row [.sc (.int .u16 t.toNat)] 0 2 28), some (.row [.vl false 1 (d.names.map (ar.val false)), .vl false 1 (d.nums.map (bn.val false)), .vl false 1 (d.texts.map (an.val false)), .vl false 1 (d.raw.map (cp.val false))] 0 2 83)]) (fun i => i ≤ l.length ∧ As t l d = As t (l.drop i) d) (fun i => l.length - i) 0 ⟨Nat.zero_le _, rfl⟩ (by simp only [↓wR, RA, simprocAttr, TF, ae] <;> rfl) (by simp only [↓wR, RA, simprocAttr, TF, ae] <;> rfl) ?_
  rintro i ⟨hi, hx⟩
  simp only [↓wR, RA, simprocAttr, TF, ae]
  rw [bj]; refine ⟨fun h => ?_, fun h => ?_⟩
  · obtain ⟨c, hc, hd1, hlt⟩ := dt (decide_eq_true h)
    have hx' : As t l d = (Ni t c d || As t (l.drop (i + 1)) d) := by rw [hx, hd1]; rfl
    simp only [↓wR, RA, simprocAttr, TF, ae, h, hc]; repeat (simp (disch := omega) only [ah, ca, cb, bz, b9]; try simp only [↓wR, RA, simprocAttr, TF, ae, h, hc])
    refine bq (T := [ass]) (ak.cons (ai Zm) (ak.nil PP)) mixed Tryz.func149 rfl (by kernel_rfl) (by kernel_rfl) (by kernel_rfl) (by kernel_rfl) ?_; unfold Tryz.f149
    simp only [↓wR, RA, simprocAttr, TF, ae, Bw, hl c (List.mem_of_getElem? hc), hd]
    rw [bk]; refine ⟨fun h1 => ?_, fun h1 => ?_⟩
    · rw [h1, Bool.true_or] at hx'
      simp only [↓wR, RA, simprocAttr, TF, ae, h1]
      rw [hx']
      done
    · rw [h1, Bool.false_or] at hx'
      simp only [↓wR, RA, simprocAttr, TF, ae, h1]; repeat (simp (disch := omega) only [ah, ca, cb, bz, b9]; try simp only [↓wR, RA, simprocAttr, TF, ae, h1])
      exact ⟨i + 1, ⟨hlt, hx'⟩, by omega, by (first | rfl | trivial | omega | ((try (simp (disch := omega) only [ah])); (try (simp only [FB])); first | done | rfl | omega))⟩
  · rw [dv (decide_eq_false h)] at hx
    simp only [↓wR, RA, simprocAttr, TF, ae, h]
    rw [hx]; rfl
def px (l : List c7) : Prop := fu uc l ≤ 16777216
instance (l : List c7) : Decidable (px l) := inferInstanceAs (Decidable (_ ≤ _))
theorem px.mem {l : List c7} (h : px l) : ∀ x ∈ l, dx x := fun x hx => by
  have h1 : uc x < fu uc l := r9 hx
  unfold px at h; unfold dx; omega
theorem px.len {l : List c7} (h : px l) : l.length ≤ 16777216 := Nat.le_trans (ql uc l) h
theorem Qd {α : Type} (f : α → Nat) (l : List α) (i : Nat) : fu f (l.take i) ≤ fu f l := by
  induction l generalizing i with
  | nil => simp
  | cons a l ih =>
    cases i with
    | zero => exact Nat.zero_le _
    | succ i => have := ih i; simp only [fu, List.take_succ_cons, List.foldr_cons] at this ⊢; omega
theorem px.take {l : List c7} (h : px l) (i : Nat) : px (l.take i) := Nat.le_trans (Qd uc l i) h
noncomputable def M3 (x : UInt16 × List c7 × c7 × Unit) : Option AV := if px x.2.1 ∧ dx x.2.2.1 then some ((r1 bt).E true (As x.1 x.2.1 x.2.2.1)) else none
set_option maxRecDepth 2000000 in
theorem Wv (x : UInt16 × List c7 × c7 × Unit) (r : AV) (h : M3 x = some r) : bf PP 118 ((aC c8 (aC (cr cd) (aC cd a0))).E x) r := by
  by_cases hc : px x.2.1 ∧ dx x.2.2.1
  case neg => simp only [M3, if_neg hc] at h; cases h
  simp only [M3, if_pos hc] at h
  cases h
  exact ba (ak.nil PP) Tryz.func118 (by kernel_rfl) (by kernel_rfl) (by kernel_rfl) (Nat.le_of_ble_eq_true (by kernel_rfl)) (r1 bt) true (As x.1 x.2.1 x.2.2.1) (axa x.1 x.2.1 x.2.2.1 hc.1.mem hc.1.len hc.2)
noncomputable abbrev aw1 : Nat × Bool × (List AV → M AV) := (118, true, dc (aC c8 (aC (cr cd) (aC cd a0))) M3)
def nb (s : bo) : Nat := br s.owner + fu uc s.data
def dq (s : bo) : Prop := nb s ≤ 16777216
instance (s : bo) : Decidable (dq s) := inferInstanceAs (Decidable (_ ≤ _))
theorem dq.owner {s : bo} (h : dq s) : be s.owner := by unfold dq nb at h; unfold be; omega
theorem dq.data {s : bo} (h : dq s) : px s.data := by unfold dq nb at h; unfold px; omega
noncomputable def qz (t : UInt16) : List c7 → List c7 → Int
  | _, [] => 0
  | pre, d :: r => if fk t d ≠ 0 then fk t d else if As t pre d = true then 10 else qz t (pre ++ [d]) r
noncomputable def qs (s : bo) : Int :=
  if dp s.owner ≠ 0 then dp s.owner else if s.data.length = 0 then 9 else if 512 < s.data.length then 3 else qz s.type [] s.data
theorem af2 (t : UInt16) {l : List c7} {i : Nat} {c : c7} (hc : l[i]? = some c) : qz t (l.take i) (l.drop i) = if fk t c ≠ 0 then fk t c else if As t (l.take i) c = true then 10 else qz t (l.take (i + 1)) (l.drop (i + 1)) := by
  obtain ⟨hi, rfl⟩ := List.getElem?_eq_some_iff.1 hc
  rw [List.drop_eq_getElem_cons hi, qz, List.take_succ_eq_append_getElem hi]
theorem agf (s : bo) (hs : dq s) : wl PP [eb, Lp, aw1] 0 (Tryz.f151.body.getD .skip) (dj PP Tryz.f151.results.toList (fun r st => (r1 (aw .i64)).get true st.h r = some (qs s))) (bw 0 [aq.val false s]) (bp []) := by
  have ho := hs.owner
  have hd := hs.data
  have hn := hd.len
  unfold Tryz.f151
  simp only [js]
  simp only [↓wR, RA, simprocAttr, TF, ae, ll, ho.fit]
  unfold qs
  rw [bk]; refine ⟨fun h => ?_, fun h => ?_⟩
  · have he : dp s.owner ≠ 0 := by simpa using h
    rw [if_pos he]
    simp only [↓wR, RA, simprocAttr, TF, ae, h]
  have he : dp s.owner = 0 := by simpa using h
  rw [if_neg (by omega)]
  simp only [↓wR, RA, simprocAttr, TF, ae, h]
  rw [cy]; refine ⟨fun ⟨h1, e1⟩ => ?_, fun ⟨h1, e1⟩ => ?_⟩
  · rw [if_pos (by omega)]
    simp only [↓wR, RA, simprocAttr, TF, ae, h1]
  rw [if_neg (by omega)]
  simp only [↓wR, RA, simprocAttr, TF, ae, h1]
  rw [bj]; refine ⟨fun h2 => ?_, fun h2 => ?_⟩
  · rw [if_pos (by omega)]
    simp only [↓wR, RA, simprocAttr, TF, ae, h2]
  rw [if_neg (by omega)]
  simp only [↓wR, RA, simprocAttr, TF, ae, h2]
  refine dh [1, 24, 25, 26] (fun (i : Nat) => [.ptr 0 0, .vl false 4 (s.data.map (cd.val false)), .sc (.int .i64 (s.data.length)), .sc (.int .i64 (i))]) (fun _ => [some (.row [.vl false 1 (s.owner.map (an.val false)), .sc (.int .u16 s.type.toNat), .sc (.int .u16 s.cls.toNat), .sc (.int .u32 s.sr.toNat), .vl false 4 (s.data.map (cd.val false))] 0 2 40)]) (fun i => i ≤ s.data.length ∧ qz s.type [] s.data = qz s.type (s.data.take i) (s.data.drop i)) (fun i => s.data.length - i) 0 ⟨Nat.zero_le _, rfl⟩ (by simp only [↓wR, RA, simprocAttr, TF, ae] <;> rfl) (by simp only [↓wR, RA, simprocAttr, TF, ae] <;> rfl) ?_
  rintro i ⟨hi, hx⟩
  simp only [↓wR, RA, simprocAttr, TF, ae]
  rw [bj]; refine ⟨fun h3 => ?_, fun h3 => ?_⟩
  · obtain ⟨c, hc, hd1, hlt⟩ := dt (decide_eq_true h3)
    rw [af2 _ hc] at hx
    have hcs := hd.mem c (List.mem_of_getElem? hc)
    simp only [↓wR, RA, simprocAttr, TF, ae, h3, hc, qq, hcs]
    rw [bk]; refine ⟨fun h4 => ?_, fun h4 => ?_⟩
    · have he4 : fk s.type c ≠ 0 := by simpa using h4
      rw [if_pos he4] at hx
      simp only [↓wR, RA, simprocAttr, TF, ae, h4]
      rw [hx]
    · have he4 : fk s.type c = 0 := by simpa using h4
      rw [if_neg (by omega)] at hx
      simp only [↓wR, RA, simprocAttr, TF, ae, h4]
      refine ⟨by kernel_rfl, .inl ?_⟩
      simp only [↓wR, RA, simprocAttr, TF, ae, hi, M3, hd.take i, hcs]
      refine ⟨by kernel_rfl, ?_⟩
      rw [bk]; refine ⟨fun h5 => ?_, fun h5 => ?_⟩
      · rw [if_pos h5] at hx
        simp only [↓wR, RA, simprocAttr, TF, ae, h5]
        rw [hx]
      · rw [if_neg (by rw [h5]; decide)] at hx
        simp only [↓wR, RA, simprocAttr, TF, ae, h5]; repeat (simp (disch := omega) only [ah, ca, cb, bz, b9]; try simp only [↓wR, RA, simprocAttr, TF, ae, h5])
        exact ⟨i + 1, ⟨hlt, hx⟩, by omega, by (first | rfl | trivial | omega | ((try (simp (disch := omega) only [ah])); (try (simp only [FB])); first | done | rfl | omega))⟩
  · rw [dv (decide_eq_false h3)] at hx
    simp only [↓wR, RA, simprocAttr, TF, ae, h3]
    rw [hx]; rfl
noncomputable def yg (x : bo × Unit) : Option AV := if dq x.1 then some ((r1 (aw .i64)).E true (qs x.1)) else none
set_option maxRecDepth 2000000 in
theorem Jj (x : bo × Unit) (r : AV) (h : yg x = some r) : bf PP 151 ((aC aq a0).E x) r := by
  by_cases hc : dq x.1
  case neg => simp only [yg, if_neg hc] at h; cases h
  simp only [yg, if_pos hc] at h
  cases h
  exact ba (ak.cons (ai kb) (ak.cons (ai Au) (ak.cons (ai Wv) (ak.nil PP)))) Tryz.func151 (by kernel_rfl) (by kernel_rfl) (by kernel_rfl) (Nat.le_of_ble_eq_true (by kernel_rfl)) (r1 (aw .i64)) true (qs x.1) (agf x.1 hc)
noncomputable abbrev ga : Nat × Bool × (List AV → M AV) := (151, true, dc (aC aq a0) yg)
end Go.Proofs.YtidomogemfchpaaGreat
end
section
set_option linter.unusedSimpArgs false
set_option linter.unusedVariables false
namespace Go.Proofs.YtidomogemfchpaaGreat
open Go.Vm
set_option maxRecDepth 2000000
theorem amm (s : bo) (hs : dq s) : wl PP [oq, ars] 0 (Tryz.f37.body.getD .skip) (dj PP Tryz.f37.results.toList (fun r st => (r1 aq).get true st.h r = some s)) (bw 0 [aq.val false s]) (bp []) := by
  have ho := hs.owner
  have hd := hs.data
  have hn := hd.len
  unfold Tryz.f37
  simp only [js]
  simp only [↓wR, RA, simprocAttr, TF, ae, jo, ho]
  refine kl [2, 13, 14, 15, 3] (fun (x : List c7) => [.ptr 0 0, .vl false 4 (s.data.map (cd.val false)), .sc (.int .i64 (s.data.length)), .sc (.int .i64 (x.length)), .ptr 1 0]) (fun x => [some (.row [.sc (.slice none 0 0), .sc (.int .u16 0), .sc (.int .u16 0), .sc (.int .u32 0), .sc (.slice none 0 0)] 0 2 40), some (.row [ar.val true s.owner, .sc (.int .u16 s.type.toNat), .sc (.int .u16 s.cls.toNat), .sc (.int .u32 s.sr.toNat), .sl 2 0 x.length 4] 0 2 40), some (.row (cellsOf cd true x) 0 0 83)]) (fun x => x.length ≤ s.data.length ∧ x ++ s.data.drop x.length = s.data) (fun x => s.data.length - x.length) [] ⟨Nat.zero_le _, rfl⟩ (by simp only [↓wR, RA, simprocAttr, TF, ae]; (refine nj.lax [] (by first | exact Nat.le_of_ble_eq_true rfl | (simp [cq]; omega)) ?_ ?_ <;> repeat' first | exact i7.nil | exact dn.nil | exact je.same _ | exact je.nil _ _ _ | exact je.wm _ _ | exact dn.refl _ _ | apply i7.cons | apply dn.ghost | apply dn.same | apply dn.row)) ?_
  rintro x ⟨hi, hx⟩
  simp only [↓wR, RA, simprocAttr, TF, ae]
  rw [bj]; refine ⟨fun h => ?_, fun h => ?_⟩
  · obtain ⟨c, hc, hd1, hlt⟩ := dt (decide_eq_true h)
    rw [hd1] at hx
    have hcs := hd.mem c (List.mem_of_getElem? hc)
    simp only [↓wR, RA, simprocAttr, TF, ae, h, hc]
    refine ⟨by kernel_rfl, .inl ?_⟩
    have hlim : (x.length * 4 + 4) * 96 ≤ 140737488355328 := by omega
    simp only [↓wR, RA, simprocAttr, TF, ae, Bk, hcs, hlim]
    refine ⟨by kernel_rfl, x ++ [c], ⟨by simp; omega, by simpa using hx⟩, by simp; omega, by (first | rfl | trivial | omega | ((try (simp (disch := omega) only [ah])); (try (simp only [FB])); first | done | rfl | omega)), ?_⟩
    rw [Ze, List.length_append]; rfl
  · rw [dv (decide_eq_false h)] at hx
    rw [List.append_nil] at hx
    subst hx
    simp only [↓wR, RA, simprocAttr, TF, ae, h]
noncomputable def q8 (x : bo × Unit) : Option AV := if dq x.1 then some ((r1 aq).E true (x.1)) else none
set_option maxRecDepth 2000000 in
theorem y6 (x : bo × Unit) (r : AV) (h : q8 x = some r) : bf PP 37 ((aC aq a0).E x) r := by
  by_cases hc : dq x.1
  case neg => simp only [q8, if_neg hc] at h; cases h
  simp only [q8, if_pos hc] at h
  cases h
  exact ba (ak.cons (ai j8) (ak.cons (ai Zf) (ak.nil PP))) Tryz.func37 (by kernel_rfl) (by kernel_rfl) (by kernel_rfl) (Nat.le_of_ble_eq_true (by kernel_rfl)) (r1 aq) true (x.1) (amm x.1 hc)
noncomputable abbrev C8 : Nat × Bool × (List AV → M AV) := (37, true, dc (aC aq a0) q8)
end Go.Proofs.YtidomogemfchpaaGreat
end
section
set_option linter.unusedSimpArgs false
set_option linter.unusedVariables false
namespace Go.Proofs.YtidomogemfchpaaGreat
open Go.Vm
set_option maxRecDepth 2000000
def x9 (z : bb) : Nat := br z.origin + fu nb z.aj
def c9 (z : bb) : Prop := x9 z ≤ 16777216
instance (z : bb) : Decidable (c9 z) := inferInstanceAs (Decidable (_ ≤ _))
theorem c9.origin {z : bb} (h : c9 z) : be z.origin := by unfold c9 x9 at h; unfold be; omega
theorem c9.set {z : bb} (h : c9 z) : ∀ s ∈ z.aj, dq s := fun s hs => by
  have h1 : nb s < fu nb z.aj := r9 hs
  unfold c9 x9 at h; unfold dq; omega
theorem c9.len {z : bb} (h : c9 z) : z.aj.length ≤ 16777216 := by have := ql nb z.aj; unfold c9 x9 at h; omega
def x6 (n top : Name) : Bool := decide (top.length < n.length) && cw n top
theorem asz (n top : Name) (hn : be n) (ht : be top) : wl PP [sj] 0 (Tryz.f131.body.getD .skip) (dj PP Tryz.f131.results.toList (fun r st => (r1 bt).get true st.h r = some (x6 n top))) (bw 0 [ar.val false n, ar.val false top]) (bp []) := by
  unfold Tryz.f131
  simp only [di]
  simp only [↓wR, RA, simprocAttr, TF, ae]
  unfold x6
  rw [bj]; refine ⟨fun h => ?_, fun h => ?_⟩
  · rw [decide_eq_true (show top.length < n.length by omega)]
    simp only [↓wR, RA, simprocAttr, TF, ae, h, ln, hn, ht]
  · rw [decide_eq_false (show ¬ top.length < n.length by omega)]
    simp only [↓wR, RA, simprocAttr, TF, ae, h]
    rfl
noncomputable def C0 (x : Name × Name × Unit) : Option AV := if be x.1 ∧ be x.2.1 then some ((r1 bt).E true (x6 x.1 x.2.1)) else none
set_option maxRecDepth 2000000 in
theorem Of (x : Name × Name × Unit) (r : AV) (h : C0 x = some r) : bf PP 131 ((aC ar (aC ar a0)).E x) r := by
  by_cases hc : be x.1 ∧ be x.2.1
  case neg => simp only [C0, if_neg hc] at h; cases h
  simp only [C0, if_pos hc] at h
  cases h
  exact ba (ak.cons (ai l5) (ak.nil PP)) Tryz.func131 (by kernel_rfl) (by kernel_rfl) (by kernel_rfl) (Nat.le_of_ble_eq_true (by kernel_rfl)) (r1 bt) true (x6 x.1 x.2.1) (asz x.1 x.2.1 hc.1 hc.2)
noncomputable abbrev ao3 : Nat × Bool × (List AV → M AV) := (131, true, dc (aC ar (aC ar a0)) C0)
def jw (z : bb) (n : Name) : List bo := z.aj.filter fun s => ee s.owner n
theorem L6 {l : List bo} {p : bo → Bool} {i : Nat} {c : bo} (h : l.drop i = c :: l.drop (i + 1)) : (l.drop i).filter p = (if p c = true then [c] else []) ++ (l.drop (i + 1)).filter p := by
  rw [h, List.filter_cons]; split <;> rfl
theorem s5 {l : List bo} (p : bo → Bool) : (l.filter p).length ≤ l.length := List.length_filter_le _ _
theorem ayt (z : bb) (n : Name) (hz : c9 z) (hn : be n) : wl PP [dr, C8] 0 (Tryz.f96.body.getD .skip) (dj PP Tryz.f96.results.toList (fun r st => (r1 (cr aq)).get true st.h r = some (jw z n))) (bw 0 [bg.val false z, ar.val false n]) (bp []) := by
  have hl := hz.len
  unfold Tryz.f96
  simp only [ig, di]
  simp only [↓wR, RA, simprocAttr, TF, ae]
  refine kl [1, 9, 10, 11, 5] (fun (x : Nat × List bo) => [.vl false 1 (n.map (an.val false)), .vl false 5 (z.aj.map (aq.val false)), .sc (.int .i64 (z.aj.length)), .sc (.int .i64 (x.1)), .sl 0 0 x.2.length 5]) (fun x => [some (.row (cellsOf aq true x.2) 0 0 40)]) (fun x => x.1 ≤ z.aj.length ∧ x.2 ++ (z.aj.drop x.1).filter (fun s => ee s.owner n) = jw z n) (fun x => z.aj.length - x.1) (0, []) ⟨Nat.zero_le _, rfl⟩ (by simp only [↓wR, RA, simprocAttr, TF, ae]; (refine nj.lax [] (by first | exact Nat.le_of_ble_eq_true rfl | (simp [cq]; omega)) ?_ ?_ <;> repeat' first | exact i7.nil | exact dn.nil | exact je.same _ | exact je.nil _ _ _ | exact je.wm _ _ | exact dn.refl _ _ | apply i7.cons | apply dn.ghost | apply dn.same | apply dn.row)) ?_
  rintro ⟨i, x⟩ ⟨hi, hx⟩
  simp only at hi hx
  have hxl : x.length ≤ z.aj.length := by
    have h1 := s5 (l := z.aj) (fun s => ee s.owner n)
    have h2 := congrArg List.length hx
    simp only [List.length_append, jw] at h2
    omega
  simp only [↓wR, RA, simprocAttr, TF, ae]
  rw [bj]; refine ⟨fun h => ?_, fun h => ?_⟩
  · obtain ⟨c, hc, hd1, hlt⟩ := dt (decide_eq_true h)
    rw [L6 hd1] at hx
    have hcs := hz.set c (List.mem_of_getElem? hc)
    simp only [↓wR, RA, simprocAttr, TF, ae, h, hc, ia, hcs.owner, hn]
    rw [bk]; refine ⟨fun h1 => ?_, fun h1 => ?_⟩
    · rw [if_pos h1] at hx
      have hlim : (x.length * 5 + 5) * 64 ≤ 140737488355328 := by omega
      simp only [↓wR, RA, simprocAttr, TF, ae, h1, q8, hcs, hlim]; repeat (simp (disch := omega) only [ah, ca, cb, bz, b9]; try simp only [↓wR, RA, simprocAttr, TF, ae, h1, q8, hcs, hlim])
      refine ⟨(i + 1, x ++ [c]), ⟨hlt, by rw [← hx]; simp⟩, by simp; omega, by (first | rfl | trivial | omega | ((try (simp (disch := omega) only [ah])); (try (simp only [FB])); first | done | rfl | omega)), ?_⟩
      rw [Kf]
    · rw [if_neg (by rw [h1]; decide)] at hx
      simp only [↓wR, RA, simprocAttr, TF, ae, h1]; repeat (simp (disch := omega) only [ah, ca, cb, bz, b9]; try simp only [↓wR, RA, simprocAttr, TF, ae, h1])
      exact ⟨(i + 1, x), ⟨hlt, hx⟩, by simp; omega, by (first | rfl | trivial | omega | ((try (simp (disch := omega) only [ah])); (try (simp only [FB])); first | done | rfl | omega)), by (first | rfl | trivial | omega | ((try (simp (disch := omega) only [ah])); (try (simp only [FB])); first | done | rfl | omega))⟩
  · rw [dv (decide_eq_false h)] at hx
    rw [List.filter_nil, List.append_nil] at hx
    subst hx
    simp only [↓wR, RA, simprocAttr, TF, ae, h]
noncomputable def aaz (x : bb × Name × Unit) : Option AV := if c9 x.1 ∧ be x.2.1 then some ((r1 (cr aq)).E true (jw x.1 x.2.1)) else none
set_option maxRecDepth 2000000 in
theorem asc (x : bb × Name × Unit) (r : AV) (h : aaz x = some r) : bf PP 96 ((aC bg (aC ar a0)).E x) r := by
  by_cases hc : c9 x.1 ∧ be x.2.1
  case neg => simp only [aaz, if_neg hc] at h; cases h
  simp only [aaz, if_pos hc] at h
  cases h
  exact ba (ak.cons (ai fv) (ak.cons (ai y6) (ak.nil PP))) Tryz.func96 (by kernel_rfl) (by kernel_rfl) (by kernel_rfl) (Nat.le_of_ble_eq_true (by kernel_rfl)) (r1 (cr aq)) true (jw x.1 x.2.1) (ayt x.1 x.2.1 hc.1 hc.2)
noncomputable abbrev zAt : Nat × Bool × (List AV → M AV) := (96, true, dc (aC bg (aC ar a0)) aaz)
def C1 (n : Name) (b : Option Name) : Bool := match b with | none => true | some m => decide (n.length < m.length)
def gw (z : bb) (n : Name) (best : Option Name) (s : bo) : Option Name :=
  if (decide ((s.type.toNat : Int) = 2) && (x6 s.owner z.origin && (cw n s.owner && C1 s.owner best))) = true then some s.owner else best
def j0 (z : bb) (n : Name) : Option Name := z.aj.foldl (gw z n) none
theorem Yw {z : bb} {n : Name} (hz : c9 z) : ∀ (l : List bo) (b : Option Name), (∀ s ∈ l, s ∈ z.aj) → (∀ m, b = some m → be m) → ∀ m, l.foldl (gw z n) b = some m → be m := by
  intro l
  induction l with
  | nil => intro b _ hb m hm; exact hb m hm
  | cons s l ih =>
    intro b hl hb m hm
    refine ih (gw z n b s) (fun x hx => hl x (by simp [hx])) (fun q hq => ?_) m hm
    unfold gw at hq
    split at hq
    · cases hq; exact (hz.set s (hl s (by simp))).owner
    · exact hb q hq
theorem awp (z : bb) (n : Name) (hz : c9 z) (hn : be n) : wl PP [sj, ao3, oq] 0 (Tryz.f86.body.getD .skip) (dj PP Tryz.f86.results.toList (fun r st => (r2 ar bt).get true st.h r = some ((j0 z n).getD [], (j0 z n).isSome))) (bw 0 [bg.val false z, ar.val false n]) (bp []) := by
  have hl := hz.len
  unfold Tryz.f86
  simp only [ig, di]
  simp only [↓wR, RA, simprocAttr, TF, ae]
  refine bq (T := []) (ak.nil PP) mixed Tryz.func127 rfl (by kernel_rfl) (by kernel_rfl) (by kernel_rfl) (by kernel_rfl) ?_; unfold Tryz.f127
  simp only [↓wR, RA, simprocAttr, TF, ae]
  refine ⟨[2, 3, 6, 7, 10], ?_⟩
  have hib : tn PP 154 = some (Tryz.f154.ntmps, Tryz.f154.body.getD .skip) := by kernel_rfl
  simp only [↓wR, RA, simprocAttr, TF, ae, hib]
  refine ⟨by kernel_rfl, fun l => ?_⟩
  unfold Tryz.f154
  simp only [↓wR, RA, simprocAttr, TF, ae]
  refine S1 [0, 2, 7, 8, 9] (fun (x : Nat × Option Name) => [.sc (.func (.yield l) #[] #[]), .ptr 5 0, .vl false 5 (z.aj.map (aq.val false)), .sc (.int .i64 (z.aj.length)), .sc (.int .i64 (x.1))]) (fun x => [some (.row [.vl false 1 (z.origin.map (an.val false)), .vl false 5 (z.aj.map (aq.val false))] 0 2 26), some (.row [.vl false 1 (n.map (an.val false))] 0 2 23), some (.row [.vl false 1 ((x.2.getD []).map (an.val false))] 0 2 23), some (.row [.sc (.bool (x.2.isSome))] 0 2 4), some (.row [.vl false 1 (z.origin.map (an.val false)), .vl false 5 (z.aj.map (aq.val false))] 0 2 26), some (.row [.sc (.int .u16 2)] 0 2 28)]) (fun x => x.1 ≤ z.aj.length ∧ j0 z n = (z.aj.drop x.1).foldl (gw z n) x.2 ∧ ∀ m, x.2 = some m → be m) (fun x => z.aj.length - x.1) (0, none) ⟨Nat.zero_le _, rfl, fun m hm => by cases hm⟩ (by simp only [↓wR, RA, simprocAttr, TF, ae]; (refine nj.lax [] (by first | exact Nat.le_of_ble_eq_true rfl | (simp [cq]; omega)) ?_ ?_ <;> repeat' first | exact i7.nil | exact dn.nil | exact je.same _ | exact je.nil _ _ _ | exact je.wm _ _ | exact dn.refl _ _ | apply i7.cons | apply dn.ghost | apply dn.same | apply dn.row)) ?_
  rintro ⟨i, b⟩ ⟨hi, hx, hb⟩
  simp only at hi hx hb
  simp only [↓wR, RA, simprocAttr, TF, ae]
  rw [sf]; refine ⟨fun h => ?_, fun h => ?_⟩
  · obtain ⟨c, hc, hd1, hlt⟩ := dt h
    have hcs := hz.set c (List.mem_of_getElem? hc)
    have hstep : j0 z n = (z.aj.drop (i + 1)).foldl (gw z n) (gw z n b c) := by rw [hx, hd1]; rfl
    simp only [↓wR, RA, simprocAttr, TF, ae, h, hc]
    rw [sf]; refine ⟨fun h2 => ?_, fun h2 => ?_⟩
    · have e2 : (c.type.toNat : Int) = 2 := by simpa using h2
      simp only [↓wR, RA, simprocAttr, TF, ae, h2]
      refine v7 [0, 2, 7, 8, 9, 17, 19] ?_
      simp only [↓wR, RA, simprocAttr, TF, ae, wo, mo, C0, hcs.owner, hz.origin]
      rw [bk]; refine ⟨fun h3 => ?_, fun h3 => ?_⟩
      · simp only [↓wR, RA, simprocAttr, TF, ae, h3, ln, hcs.owner, hn]
        rw [bk]; refine ⟨fun h4 => ?_, fun h4 => ?_⟩
        · cases b with
          | none =>
            have hb2 : gw z n none c = some c.owner := by simp [gw, e2, h3, h4, C1]
            rw [hb2] at hstep
            simp only [↓wR, RA, simprocAttr, TF, ae, h4, Option.isSome_none]; repeat (simp (disch := omega) only [ah, ca, cb, bz, b9]; try simp only [↓wR, RA, simprocAttr, TF, ae, h4, Option.isSome_none])
            exact ⟨(i + 1, some c.owner), ⟨hlt, hstep, fun m hm => by cases hm; exact hcs.owner⟩, by simp; omega, by (first | rfl | trivial | omega | ((try (simp (disch := omega) only [ah])); (try (simp only [FB])); first | done | rfl | omega)), by (first | rfl | trivial | omega | ((try (simp (disch := omega) only [ah])); (try (simp only [FB])); first | done | rfl | omega))⟩
          | some m =>
            simp only [↓wR, RA, simprocAttr, TF, ae, h4]
            rw [bj]; refine ⟨fun h5 => ?_, fun h5 => ?_⟩
            · have hb2 : gw z n (some m) c = some c.owner := by simp [gw, e2, h3, h4, C1]; omega
              rw [hb2] at hstep
              simp only [↓wR, RA, simprocAttr, TF, ae, h5]; repeat (simp (disch := omega) only [ah, ca, cb, bz, b9]; try simp only [↓wR, RA, simprocAttr, TF, ae, h5])
              exact ⟨(i + 1, some c.owner), ⟨hlt, hstep, fun m hm => by cases hm; exact hcs.owner⟩, by simp; omega, by (first | rfl | trivial | omega | ((try (simp (disch := omega) only [ah])); (try (simp only [FB])); first | done | rfl | omega)), by (first | rfl | trivial | omega | ((try (simp (disch := omega) only [ah])); (try (simp only [FB])); first | done | rfl | omega))⟩
            · have hb2 : gw z n (some m) c = some m := by simp [gw, e2, h3, h4, C1]; omega
              rw [hb2] at hstep
              simp only [↓wR, RA, simprocAttr, TF, ae, h5]; repeat (simp (disch := omega) only [ah, ca, cb, bz, b9]; try simp only [↓wR, RA, simprocAttr, TF, ae, h5])
              exact ⟨(i + 1, some m), ⟨hlt, hstep, hb⟩, by simp; omega, by (first | rfl | trivial | omega | ((try (simp (disch := omega) only [ah])); (try (simp only [FB])); first | done | rfl | omega)), by (first | rfl | trivial | omega | ((try (simp (disch := omega) only [ah])); (try (simp only [FB])); first | done | rfl | omega))⟩
        · have hb2 : gw z n b c = b := by simp [gw, h4]
          rw [hb2] at hstep
          simp only [↓wR, RA, simprocAttr, TF, ae, h4]; repeat (simp (disch := omega) only [ah, ca, cb, bz, b9]; try simp only [↓wR, RA, simprocAttr, TF, ae, h4])
          exact ⟨(i + 1, b), ⟨hlt, hstep, hb⟩, by simp; omega, by (first | rfl | trivial | omega | ((try (simp (disch := omega) only [ah])); (try (simp only [FB])); first | done | rfl | omega)), by (first | rfl | trivial | omega | ((try (simp (disch := omega) only [ah])); (try (simp only [FB])); first | done | rfl | omega))⟩
      · have hb2 : gw z n b c = b := by simp [gw, h3]
        rw [hb2] at hstep
        simp only [↓wR, RA, simprocAttr, TF, ae, h3]; repeat (simp (disch := omega) only [ah, ca, cb, bz, b9]; try simp only [↓wR, RA, simprocAttr, TF, ae, h3])
        exact ⟨(i + 1, b), ⟨hlt, hstep, hb⟩, by simp; omega, by (first | rfl | trivial | omega | ((try (simp (disch := omega) only [ah])); (try (simp only [FB])); first | done | rfl | omega)), by (first | rfl | trivial | omega | ((try (simp (disch := omega) only [ah])); (try (simp only [FB])); first | done | rfl | omega))⟩
    · have e2 : ¬ (c.type.toNat : Int) = 2 := by simpa using h2
      have hb2 : gw z n b c = b := by simp [gw, e2]
      rw [hb2] at hstep
      simp only [↓wR, RA, simprocAttr, TF, ae, h2]; repeat (simp (disch := omega) only [ah, ca, cb, bz, b9]; try simp only [↓wR, RA, simprocAttr, TF, ae, h2])
      exact ⟨(i + 1, b), ⟨hlt, hstep, hb⟩, by simp; omega, by (first | rfl | trivial | omega | ((try (simp (disch := omega) only [ah])); (try (simp only [FB])); first | done | rfl | omega)), by (first | rfl | trivial | omega | ((try (simp (disch := omega) only [ah])); (try (simp only [FB])); first | done | rfl | omega))⟩
  · rw [dv h] at hx
    simp only [↓wR, RA, simprocAttr, TF, ae, h]
    cases b with
    | none =>
      have hc0 : j0 z n = none := hx
      simp only [↓wR, RA, simprocAttr, TF, ae, Option.isSome_none]
      rw [hc0]
      rfl
    | some m =>
      have hc0 : j0 z n = some m := hx
      simp only [↓wR, RA, simprocAttr, TF, ae, jo, hb m rfl]
      rw [hc0]
      rfl
noncomputable def Ce (x : bb × Name × Unit) : Option AV := if c9 x.1 ∧ be x.2.1 then some ((r2 ar bt).E true (((j0 x.1 x.2.1).getD [], (j0 x.1 x.2.1).isSome))) else none
set_option maxRecDepth 2000000 in
theorem K4 (x : bb × Name × Unit) (r : AV) (h : Ce x = some r) : bf PP 86 ((aC bg (aC ar a0)).E x) r := by
  by_cases hc : c9 x.1 ∧ be x.2.1
  case neg => simp only [Ce, if_neg hc] at h; cases h
  simp only [Ce, if_pos hc] at h
  cases h
  exact ba (ak.cons (ai l5) (ak.cons (ai Of) (ak.cons (ai j8) (ak.nil PP)))) Tryz.func86 (by kernel_rfl) (by kernel_rfl) (by kernel_rfl) (Nat.le_of_ble_eq_true (by kernel_rfl)) (r2 ar bt) true (((j0 x.1 x.2.1).getD [], (j0 x.1 x.2.1).isSome)) (awp x.1 x.2.1 hc.1 hc.2)
noncomputable abbrev aqv : Nat × Bool × (List AV → M AV) := (86, true, dc (aC bg (aC ar a0)) Ce)
end Go.Proofs.YtidomogemfchpaaGreat
end
section
set_option linter.unusedSimpArgs false
set_option linter.unusedVariables false
namespace Go.Proofs.YtidomogemfchpaaGreat
open Go.Vm
set_option maxRecDepth 2000000
def p9 (z : bb) (n : Name) : Bool := cw n z.origin && (ee n z.origin || z.aj.any fun s => cw s.owner n)
theorem av8 (z : bb) (n : Name) (hz : c9 z) (hn : be n) : wl PP [sj, dr] 0 (Tryz.f109.body.getD .skip) (dj PP Tryz.f109.results.toList (fun r st => (r1 bt).get true st.h r = some (p9 z n))) (bw 0 [bg.val false z, ar.val false n]) (bp []) := by
  have hl := hz.len
  unfold Tryz.f109
  simp only [ig, di]
  simp only [↓wR, RA, simprocAttr, TF, ae, ln, hn, hz.origin]
  unfold p9
  rw [bk]; refine ⟨fun h => ?_, fun h => ?_⟩
  · have h' : cw n z.origin = false := by simpa using h
    simp only [↓wR, RA, simprocAttr, TF, ae, h, h']
    rfl
  have h' : cw n z.origin = true := by simpa using h
  simp only [↓wR, RA, simprocAttr, TF, ae, h, h', ia, hn, hz.origin]
  rw [bk]; refine ⟨fun h2 => ?_, fun h2 => ?_⟩
  · simp only [↓wR, RA, simprocAttr, TF, ae, h2]
  simp only [↓wR, RA, simprocAttr, TF, ae, h2]
  refine bq (T := []) (ak.nil PP) mixed Tryz.func112 rfl (by kernel_rfl) (by kernel_rfl) (by kernel_rfl) (by kernel_rfl) ?_; unfold Tryz.f112
  simp only [↓wR, RA, simprocAttr, TF, ae]
  refine bq (T := []) (ak.nil PP) mixed Tryz.func147 rfl (by kernel_rfl) (by kernel_rfl) (by kernel_rfl) (by kernel_rfl) ?_; unfold Tryz.f147
  simp only [↓wR, RA, simprocAttr, TF, ae]
  refine dh [0, 1, 7, 8] (fun (i : Nat) => [.vl false 5 (z.aj.map (aq.val false)), .fn (.func 145) [] [.ptr 1 0], .sc (.int .i64 (z.aj.length)), .sc (.int .i64 (i))]) (fun _ => [some (.row [.vl false 1 (z.origin.map (an.val false)), .vl false 5 (z.aj.map (aq.val false))] 0 2 26), some (.row [.vl false 1 (n.map (an.val false))] 0 2 23)]) (fun i => i ≤ z.aj.length ∧ (z.aj.any fun s => cw s.owner n) = ((z.aj.drop i).any fun s => cw s.owner n)) (fun i => z.aj.length - i) 0 ⟨Nat.zero_le _, rfl⟩ (by simp only [↓wR, RA, simprocAttr, TF, ae] <;> rfl) (by simp only [↓wR, RA, simprocAttr, TF, ae] <;> rfl) ?_
  rintro i ⟨hi, hx⟩
  simp only [↓wR, RA, simprocAttr, TF, ae]
  rw [bj]; refine ⟨fun h3 => ?_, fun h3 => ?_⟩
  · obtain ⟨c, hc, hd1, hlt⟩ := dt (decide_eq_true h3)
    rw [hd1, List.any_cons] at hx
    have hcs := hz.set c (List.mem_of_getElem? hc)
    simp only [↓wR, RA, simprocAttr, TF, ae, h3, hc]; repeat (simp (disch := omega) only [ah, ca, cb, bz, b9]; try simp only [↓wR, RA, simprocAttr, TF, ae, h3, hc])
    refine bq (T := [sj]) (ak.cons (ai l5) (ak.nil PP)) mixed Tryz.func145 rfl (by kernel_rfl) (by kernel_rfl) (by kernel_rfl) (by kernel_rfl) ?_; unfold Tryz.f145
    simp only [↓wR, RA, simprocAttr, TF, ae, ln, hcs.owner, hn]
    rw [bk]; refine ⟨fun h4 => ?_, fun h4 => ?_⟩
    · rw [h4, Bool.true_or] at hx
      simp only [↓wR, RA, simprocAttr, TF, ae, h4]
      rw [hx]
    · rw [h4, Bool.false_or] at hx
      simp only [↓wR, RA, simprocAttr, TF, ae, h4]; repeat (simp (disch := omega) only [ah, ca, cb, bz, b9]; try simp only [↓wR, RA, simprocAttr, TF, ae, h4])
      exact ⟨i + 1, ⟨hlt, hx⟩, by omega, by (first | rfl | trivial | omega | ((try (simp (disch := omega) only [ah])); (try (simp only [FB])); first | done | rfl | omega))⟩
  · rw [dv (decide_eq_false h3), List.any_nil] at hx
    simp only [↓wR, RA, simprocAttr, TF, ae, h3]
    rw [hx] <;> rfl
noncomputable def M9 (x : bb × Name × Unit) : Option AV := if c9 x.1 ∧ be x.2.1 then some ((r1 bt).E true (p9 x.1 x.2.1)) else none
set_option maxRecDepth 2000000 in
theorem Xo (x : bb × Name × Unit) (r : AV) (h : M9 x = some r) : bf PP 109 ((aC bg (aC ar a0)).E x) r := by
  by_cases hc : c9 x.1 ∧ be x.2.1
  case neg => simp only [M9, if_neg hc] at h; cases h
  simp only [M9, if_pos hc] at h
  cases h
  exact ba (ak.cons (ai l5) (ak.cons (ai fv) (ak.nil PP))) Tryz.func109 (by kernel_rfl) (by kernel_rfl) (by kernel_rfl) (Nat.le_of_ble_eq_true (by kernel_rfl)) (r1 bt) true (p9 x.1 x.2.1) (av8 x.1 x.2.1 hc.1 hc.2)
noncomputable abbrev awn : Nat × Bool × (List AV → M AV) := (109, true, dc (aC bg (aC ar a0)) M9)
theorem anr (t : UInt16) : wl PP [] 0 (Tryz.f188.body.getD .skip) (dj PP Tryz.f188.results.toList (fun r st => (r1 bt).get true st.h r = some false)) (bw 0 [c8.val false t]) (bp []) := by
  unfold Tryz.f188
  simp only [↓wR, RA, simprocAttr, TF, ae, bne_self_eq_false]
noncomputable def Vh (x : UInt16 × Unit) : Option AV := some ((r1 bt).E true (false))
set_option maxRecDepth 2000000 in
theorem ag3 (x : UInt16 × Unit) (r : AV) (h : Vh x = some r) : bf PP 188 ((aC c8 a0).E x) r := by
  cases h
  exact ba (ak.nil PP) Tryz.func188 (by kernel_rfl) (by kernel_rfl) (by kernel_rfl) (Nat.le_of_ble_eq_true (by kernel_rfl)) (r1 bt) true (false) (anr x.1)
noncomputable abbrev ax4 : Nat × Bool × (List AV → M AV) := (188, true, dc (aC c8 a0) Vh)
def abm (a b : UInt16) : Int := if (a.toNat : Int) < b.toNat then -1 else if (b.toNat : Int) < a.toNat then 1 else 0
theorem auf (a b : UInt16) : wl PP [ax4] 0 (Tryz.f170.body.getD .skip) (dj PP Tryz.f170.results.toList (fun r st => (r1 (aw .i64)).get true st.h r = some (abm a b))) (bw 0 [c8.val false a, c8.val false b]) (bp []) := by
  unfold Tryz.f170
  unfold abm
  simp only [↓wR, RA, simprocAttr, TF, ae, Vh]
  rw [bj]; refine ⟨fun h => ?_, fun h => ?_⟩
  · rw [if_pos h]
    simp only [↓wR, RA, simprocAttr, TF, ae, h]
  · rw [if_neg h]
    simp only [↓wR, RA, simprocAttr, TF, ae, h]
    rw [bj]; refine ⟨fun h2 => ?_, fun h2 => ?_⟩
    · rw [if_pos h2]
      simp only [↓wR, RA, simprocAttr, TF, ae, h2]
    · rw [if_neg h2]
      simp only [↓wR, RA, simprocAttr, TF, ae, h2]
noncomputable def ae8 (x : UInt16 × UInt16 × Unit) : Option AV := some ((r1 (aw .i64)).E true (abm x.1 x.2.1))
set_option maxRecDepth 2000000 in
theorem ame (x : UInt16 × UInt16 × Unit) (r : AV) (h : ae8 x = some r) : bf PP 170 ((aC c8 (aC c8 a0)).E x) r := by
  cases h
  exact ba (ak.cons (ai ag3) (ak.nil PP)) Tryz.func170 (by kernel_rfl) (by kernel_rfl) (by kernel_rfl) (Nat.le_of_ble_eq_true (by kernel_rfl)) (r1 (aw .i64)) true (abm x.1 x.2.1) (auf x.1 x.2.1)
noncomputable abbrev ayw : Nat × Bool × (List AV → M AV) := (170, true, dc (aC c8 (aC c8 a0)) ae8)
def Yg : List Int → Int
  | [] => 0
  | a :: r => if a ≠ 0 then a else Yg r
theorem ayx (l : List Int) (hl : l.length ≤ 16777216) : wl PP [] 0 (Tryz.f168.body.getD .skip) (dj PP Tryz.f168.results.toList (fun r st => (r1 (aw .i64)).get true st.h r = some (Yg l))) (bw 0 [(cr (aw .i64)).val false l]) (bp []) := by
  unfold Tryz.f168
  rw [qa]
  simp only [↓wR, RA, simprocAttr, TF, ae]
  refine dh [3, 6, 7, 8] (fun (i : Nat) => [.sc (.int .i64 (0)), .vl false 1 (l.map ((aw .i64).val false)), .sc (.int .i64 (l.length)), .sc (.int .i64 (i))]) (fun _ => []) (fun i => i ≤ l.length ∧ Yg l = Yg (l.drop i)) (fun i => l.length - i) 0 ⟨Nat.zero_le _, rfl⟩ (by simp only [↓wR, RA, simprocAttr, TF, ae] <;> rfl) (by simp only [↓wR, RA, simprocAttr, TF, ae] <;> rfl) ?_
  rintro i ⟨hi, hx⟩
  simp only [↓wR, RA, simprocAttr, TF, ae]
  rw [bj]; refine ⟨fun h => ?_, fun h => ?_⟩
  · obtain ⟨c, hc, hd1, hlt⟩ := dt (decide_eq_true h)
    rw [hd1, Yg] at hx
    simp only [↓wR, RA, simprocAttr, TF, ae, h, hc]
    rw [g9]; refine ⟨fun ⟨h2, e2⟩ => ?_, fun ⟨h2, e2⟩ => ?_⟩
    · rw [if_pos e2] at hx
      simp only [↓wR, RA, simprocAttr, TF, ae, h2]
      rw [hx]
    · rw [if_neg (by omega)] at hx
      simp only [↓wR, RA, simprocAttr, TF, ae, h2]; repeat (simp (disch := omega) only [ah, ca, cb, bz, b9]; try simp only [↓wR, RA, simprocAttr, TF, ae, h2])
      exact ⟨i + 1, ⟨hlt, hx⟩, by omega, by (first | rfl | trivial | omega | ((try (simp (disch := omega) only [ah])); (try (simp only [FB])); first | done | rfl | omega))⟩
  · rw [dv (decide_eq_false h)] at hx
    simp only [↓wR, RA, simprocAttr, TF, ae, h]
    rw [hx]; rfl
noncomputable def aed (x : List Int × Unit) : Option AV := if x.1.length ≤ 16777216 then some ((r1 (aw .i64)).E true (Yg x.1)) else none
set_option maxRecDepth 2000000 in
theorem arj (x : List Int × Unit) (r : AV) (h : aed x = some r) : bf PP 168 ((aC (cr (aw .i64)) a0).E x) r := by
  by_cases hc : x.1.length ≤ 16777216
  case neg => simp only [aed, if_neg hc] at h; cases h
  simp only [aed, if_pos hc] at h
  cases h
  exact ba (ak.nil PP) Tryz.func168 (by kernel_rfl) (by kernel_rfl) (by kernel_rfl) (Nat.le_of_ble_eq_true (by kernel_rfl)) (r1 (aw .i64)) true (Yg x.1) (ayx x.1 hc)
noncomputable abbrev orC : Nat × Bool × (List AV → M AV) := (168, true, dc (aC (cr (aw .i64)) a0) aed)
noncomputable def M5 (a b : bo) : Int := Yg [adh a.owner b.owner, abm a.type b.type]
theorem ale (a b : bo) (ha : dq a) (hb : dq b) : wl PP [ag9, ayw, orC] 0 (Tryz.f152.body.getD .skip) (dj PP Tryz.f152.results.toList (fun r st => (r1 (aw .i64)).get true st.h r = some (M5 a b))) (bw 0 [aq.val false a, aq.val false b]) (bp []) := by
  unfold Tryz.f152
  simp only [js]
  simp only [↓wR, RA, simprocAttr, TF, ae]
  refine ⟨by kernel_rfl, .inl ?_⟩
  simp only [↓wR, RA, simprocAttr, TF, ae, vj, ae8, aed, ha.owner, hb.owner]
  exact ⟨by kernel_rfl, rfl⟩
noncomputable def ye (x : bo × bo × Unit) : Option AV := if dq x.1 ∧ dq x.2.1 then some ((r1 (aw .i64)).E true (M5 x.1 x.2.1)) else none
set_option maxRecDepth 2000000 in
theorem Zk (x : bo × bo × Unit) (r : AV) (h : ye x = some r) : bf PP 152 ((aC aq (aC aq a0)).E x) r := by
  by_cases hc : dq x.1 ∧ dq x.2.1
  case neg => simp only [ye, if_neg hc] at h; cases h
  simp only [ye, if_pos hc] at h
  cases h
  exact ba (ak.cons (ai Rb) (ak.cons (ai ame) (ak.cons (ai arj) (ak.nil PP)))) Tryz.func152 (by kernel_rfl) (by kernel_rfl) (by kernel_rfl) (Nat.le_of_ble_eq_true (by kernel_rfl)) (r1 (aw .i64)) true (M5 x.1 x.2.1) (ale x.1 x.2.1 hc.1 hc.2)
noncomputable abbrev adr : Nat × Bool × (List AV → M AV) := (152, true, dc (aC aq (aC aq a0)) ye)
end Go.Proofs.YtidomogemfchpaaGreat
end
section
set_option linter.unusedSimpArgs false
set_option linter.unusedVariables false
namespace Go.Proofs.YtidomogemfchpaaGreat
open Go.Vm
set_option maxRecDepth 2000000
noncomputable def vu (t : UInt16) : List c7 → Bool
  | a :: b :: r => if 0 ≤ Qp t a b then false else vu t (b :: r)
  | _ => true
noncomputable def kf (z : bb) (i : Nat) (s : bo) : Bool :=
  (match i with | 0 => true | k + 1 => match z.aj[k]? with | some a => decide (¬ (M5 a s ≥ 0)) | none => true) && vu s.type s.data
theorem Cp (k : Nat) : ((k : Int) + 1).toNat = k + 1 := by omega
theorem Ns (k : Nat) : (0 : Int) ≤ (k : Int) + 1 := by omega
theorem Y3 (t : UInt16) {l : List c7} {k : Nat} {a b : c7} (ha : l[k]? = some a) (hb : l[k + 1]? = some b) : vu t (l.drop k) = if 0 ≤ Qp t a b then false else vu t (l.drop (k + 1)) := by
  rw [Hp ha, Hp hb]; rfl
theorem Rq (t : UInt16) {l : List c7} {k : Nat} (h : l.length ≤ k + 1) : vu t (l.drop k) = true := by
  have : (l.drop k).length ≤ 1 := by rw [List.length_drop]; omega
  match hd : l.drop k with
  | [] => rfl
  | [a] => rfl
  | a :: b :: r => rw [hd] at this; simp at this
theorem arc (l : sy) (i : Nat) (s : bo) (hz : c9 l.z) (hs : dq s) (hi : i ≤ l.z.aj.length) : wl PP [adr, Gb] 0 (Tryz.f122.body.getD .skip) (dj PP Tryz.f122.results.toList (fun r st => (r1 bt).get true st.h r = some (kf l.z i s))) (bw 0 [.gp (l6.cells false l), (aw .i64).val false i, aq.val false s]) (bp []) := by
  have hd := hs.data
  have hn := hd.len
  have hl := hz.len
  unfold Tryz.f122
  simp only [js]
  simp only [↓wR, RA, simprocAttr, TF, ae, A0]
  refine ⟨by kernel_rfl, .inl ?_⟩
  rw [bj]; refine ⟨fun h => ?_, fun h => ?_⟩
  · cases i with
    | zero => omega
    | succ k =>
    obtain ⟨a, ha⟩ : ∃ a, l.z.aj[k]? = some a := ⟨_, List.getElem?_eq_getElem (by omega)⟩
    have has := hz.set a (List.mem_of_getElem? ha)
    simp only [↓wR, RA, simprocAttr, TF, ae, h, ha, Int.natCast_add, Int.add_sub_cancel, ye, has, hs]; repeat (simp (disch := omega) only [ah, ca, cb, bz, b9]; try simp only [↓wR, RA, simprocAttr, TF, ae, h, ha, Int.natCast_add, Int.add_sub_cancel, ye, has, hs])
    refine ⟨by kernel_rfl, ?_⟩
    rw [bj]; refine ⟨fun h2 => ?_, fun h2 => ?_⟩
    · have hv : kf l.z (k + 1) s = false := by simp only [kf, ha]; simp [h2]
      simp only [↓wR, RA, simprocAttr, TF, ae, h2]
      rw [hv]
    have hv : kf l.z (k + 1) s = vu s.type s.data := by simp only [kf, ha]; simp [h2]
    clear ha
    simp only [↓wR, RA, simprocAttr, TF, ae, h2]
    refine dh [5, 7] (fun (k : Nat) => [.ptr 0 0, .sc (.int .i64 ((k : Int) + 1))]) (fun _ => [some (.row [.vl false 1 (s.owner.map (an.val false)), .sc (.int .u16 s.type.toNat), .sc (.int .u16 s.cls.toNat), .sc (.int .u32 s.sr.toNat), .vl false 4 (s.data.map (cd.val false))] 0 2 40)]) (fun k => (k = 0 ∨ k + 1 ≤ s.data.length) ∧ vu s.type s.data = vu s.type (s.data.drop k)) (fun k => s.data.length - k) 0 ⟨.inl rfl, rfl⟩ (by simp only [↓wR, RA, simprocAttr, TF, ae] <;> rfl) (by simp only [↓wR, RA, simprocAttr, TF, ae] <;> rfl) ?_
    rintro k ⟨hk, hx⟩
    simp only [↓wR, RA, simprocAttr, TF, ae]
    rw [bj]; refine ⟨fun h5 => ?_, fun h5 => ?_⟩
    · obtain ⟨a, ha⟩ : ∃ a, s.data[k]? = some a := ⟨_, List.getElem?_eq_getElem (by omega)⟩
      obtain ⟨b, hb⟩ : ∃ b, s.data[k + 1]? = some b := ⟨_, List.getElem?_eq_getElem (by omega)⟩
      rw [Y3 _ ha hb] at hx
      have has := hd.mem a (List.mem_of_getElem? ha)
      have hbs := hd.mem b (List.mem_of_getElem? hb)
      simp only [↓wR, RA, simprocAttr, TF, ae, h5]
      refine ⟨by kernel_rfl, .inl ?_⟩
      simp only [↓wR, RA, simprocAttr, TF, ae, ha, hb, Int.add_sub_cancel, Cp, Ns, mq, has, hbs]; repeat (simp (disch := omega) only [ah, ca, cb, bz, b9]; try simp only [↓wR, RA, simprocAttr, TF, ae, ha, hb, Int.add_sub_cancel, Cp, Ns, mq, has, hbs])
      refine ⟨by kernel_rfl, ?_⟩
      rw [bj]; refine ⟨fun h6 => ?_, fun h6 => ?_⟩
      · rw [if_pos h6] at hx
        simp only [↓wR, RA, simprocAttr, TF, ae, h6]
        rw [hv, hx]
      · rw [if_neg h6] at hx
        simp only [↓wR, RA, simprocAttr, TF, ae, h6]; repeat (simp (disch := omega) only [ah, ca, cb, bz, b9]; try simp only [↓wR, RA, simprocAttr, TF, ae, h6])
        exact ⟨k + 1, ⟨.inr (by omega), hx⟩, by omega, by (first | rfl | trivial | omega | ((try (simp (disch := omega) only [ah])); (try (simp only [FB])); first | done | rfl | omega))⟩
    · rw [Rq _ (by omega)] at hx
      simp only [↓wR, RA, simprocAttr, TF, ae, h5]
      rw [hv, hx]
  · simp only [↓wR, RA, simprocAttr, TF, ae, h]
    have hi0 : i = 0 := by omega
    have hv : kf l.z i s = vu s.type s.data := by rw [hi0]; simp [kf]
    refine ⟨by kernel_rfl, ?_⟩
    refine dh [5, 7] (fun (k : Nat) => [.ptr 0 0, .sc (.int .i64 ((k : Int) + 1))]) (fun _ => [some (.row [.vl false 1 (s.owner.map (an.val false)), .sc (.int .u16 s.type.toNat), .sc (.int .u16 s.cls.toNat), .sc (.int .u32 s.sr.toNat), .vl false 4 (s.data.map (cd.val false))] 0 2 40)]) (fun k => (k = 0 ∨ k + 1 ≤ s.data.length) ∧ vu s.type s.data = vu s.type (s.data.drop k)) (fun k => s.data.length - k) 0 ⟨.inl rfl, rfl⟩ (by simp only [↓wR, RA, simprocAttr, TF, ae] <;> rfl) (by simp only [↓wR, RA, simprocAttr, TF, ae] <;> rfl) ?_
    rintro k ⟨hk, hx⟩
    simp only [↓wR, RA, simprocAttr, TF, ae]
    rw [bj]; refine ⟨fun h5 => ?_, fun h5 => ?_⟩
    · obtain ⟨a, ha⟩ : ∃ a, s.data[k]? = some a := ⟨_, List.getElem?_eq_getElem (by omega)⟩
      obtain ⟨b, hb⟩ : ∃ b, s.data[k + 1]? = some b := ⟨_, List.getElem?_eq_getElem (by omega)⟩
      rw [Y3 _ ha hb] at hx
      have has := hd.mem a (List.mem_of_getElem? ha)
      have hbs := hd.mem b (List.mem_of_getElem? hb)
      simp only [↓wR, RA, simprocAttr, TF, ae, h5]
      refine ⟨by kernel_rfl, .inl ?_⟩
      simp only [↓wR, RA, simprocAttr, TF, ae, ha, hb, Int.add_sub_cancel, Cp, Ns, mq, has, hbs]; repeat (simp (disch := omega) only [ah, ca, cb, bz, b9]; try simp only [↓wR, RA, simprocAttr, TF, ae, ha, hb, Int.add_sub_cancel, Cp, Ns, mq, has, hbs])
      refine ⟨by kernel_rfl, ?_⟩
      rw [bj]; refine ⟨fun h6 => ?_, fun h6 => ?_⟩
      · rw [if_pos h6] at hx
        simp only [↓wR, RA, simprocAttr, TF, ae, h6]
        rw [hv, hx]
      · rw [if_neg h6] at hx
        simp only [↓wR, RA, simprocAttr, TF, ae, h6]; repeat (simp (disch := omega) only [ah, ca, cb, bz, b9]; try simp only [↓wR, RA, simprocAttr, TF, ae, h6])
        exact ⟨k + 1, ⟨.inr (by omega), hx⟩, by omega, by (first | rfl | trivial | omega | ((try (simp (disch := omega) only [ah])); (try (simp only [FB])); first | done | rfl | omega))⟩
    · rw [Rq _ (by omega)] at hx
      simp only [↓wR, RA, simprocAttr, TF, ae, h5]
      rw [hv, hx]
theorem ap1 (l : sy) (i : Int) (s : bo) (hz : c9 l.z) (hs : dq s) (hi : 0 ≤ i ∧ i ≤ l.z.aj.length) : wl PP [adr, Gb] 0 (Tryz.f122.body.getD .skip) (dj PP Tryz.f122.results.toList (fun r st => (r1 bt).get true st.h r = some (kf l.z i.toNat s))) (bw 0 [.gp (l6.cells false l), (aw .i64).val false i, aq.val false s]) (bp []) := by
  have := arc l i.toNat s hz hs (by omega)
  rwa [Int.toNat_of_nonneg hi.1] at this
noncomputable def Gt (x : sy × Int × bo × Unit) : Option AV := if (c9 x.1.z ∧ dq x.2.2.1) ∧ 0 ≤ x.2.1 ∧ x.2.1 ≤ x.1.z.aj.length then some ((r1 bt).E true (kf x.1.z x.2.1.toNat x.2.2.1)) else none
set_option maxRecDepth 2000000 in
theorem Pq (x : sy × Int × bo × Unit) (r : AV) (h : Gt x = some r) : bf PP 122 ((aP l6 (aC (aw .i64) (aC aq a0))).E x) r := by
  by_cases hc : (c9 x.1.z ∧ dq x.2.2.1) ∧ 0 ≤ x.2.1 ∧ x.2.1 ≤ x.1.z.aj.length
  case neg => simp only [Gt, if_neg hc] at h; cases h
  simp only [Gt, if_pos hc] at h
  cases h
  exact ba (ak.cons (ai Zk) (ak.cons (ai Eb) (ak.nil PP))) Tryz.func122 (by kernel_rfl) (by kernel_rfl) (by kernel_rfl) (Nat.le_of_ble_eq_true (by kernel_rfl)) (r1 bt) true (kf x.1.z x.2.1.toNat x.2.2.1) (ap1 x.1 x.2.1 x.2.2.1 hc.1.1 hc.1.2 hc.2)
noncomputable abbrev jf : Nat × Bool × (List AV → M AV) := (122, true, dc (aP l6 (aC (aw .i64) (aC aq a0))) Gt)
end Go.Proofs.YtidomogemfchpaaGreat
end
section
set_option linter.unusedSimpArgs false
set_option linter.unusedVariables false
namespace Go.Proofs.YtidomogemfchpaaGreat
open Go.Vm
set_option maxRecDepth 2000000
def Dc (i : Nat) (n : Name) : Nat → List bo → Bool
  | _, [] => false
  | k, o :: r => (decide (¬ (k : Int) = i) && ee o.owner n) || Dc i n (k + 1) r
def iy (z : bb) (i : Nat) (s : bo) : Bool :=
  if ¬ (s.type.toNat : Int) = 5 then true else if ¬ (s.data.length : Int) = 1 then false else if ee s.owner z.origin = true then false else !Dc i s.owner 0 z.aj
theorem asi (l : sy) (i : Nat) (s : bo) (hz : c9 l.z) (hs : dq s) : wl PP [dr] 0 (Tryz.f128.body.getD .skip) (dj PP Tryz.f128.results.toList (fun r st => (r1 bt).get true st.h r = some (iy l.z i s))) (bw 0 [.gp (l6.cells false l), (aw .i64).val false i, aq.val false s]) (bp []) := by
  have hl := hz.len
  unfold Tryz.f128
  simp only [js]
  simp only [↓wR, RA, simprocAttr, TF, ae, A0]
  unfold iy
  rw [g9]; refine ⟨fun ⟨h, e⟩ => ?_, fun ⟨h, e⟩ => ?_⟩
  · rw [if_pos e]
    simp only [↓wR, RA, simprocAttr, TF, ae, h]
  rw [if_neg (by omega)]
  simp only [↓wR, RA, simprocAttr, TF, ae, h]
  refine ⟨by kernel_rfl, .inl ?_⟩
  rw [g9]; refine ⟨fun ⟨h2, e2⟩ => ?_, fun ⟨h2, e2⟩ => ?_⟩
  · rw [if_pos e2]
    simp only [↓wR, RA, simprocAttr, TF, ae, h2]
    exact by kernel_rfl
  rw [if_neg (by omega)]
  simp only [↓wR, RA, simprocAttr, TF, ae, h2, ia, hs.owner, hz.origin]
  refine ⟨by kernel_rfl, ?_⟩
  rw [bk]; refine ⟨fun h3 => ?_, fun h3 => ?_⟩
  · rw [if_pos h3]
    simp only [↓wR, RA, simprocAttr, TF, ae, h3]
  rw [if_neg (by rw [h3]; decide)]
  simp only [↓wR, RA, simprocAttr, TF, ae, h3]
  refine dh [1, 5, 30, 31, 32] (fun (k : Nat) => [.sc (.int .i64 (i)), .ptr 0 0, .vl false 5 (l.z.aj.map (aq.val false)), .sc (.int .i64 (l.z.aj.length)), .sc (.int .i64 (k))]) (fun _ => [some (.row [.vl false 1 (s.owner.map (an.val false)), .sc (.int .u16 s.type.toNat), .sc (.int .u16 s.cls.toNat), .sc (.int .u32 s.sr.toNat), .vl false 4 (s.data.map (cd.val false))] 0 2 40)]) (fun k => k ≤ l.z.aj.length ∧ Dc i s.owner 0 l.z.aj = Dc i s.owner k (l.z.aj.drop k)) (fun k => l.z.aj.length - k) 0 ⟨Nat.zero_le _, rfl⟩ (by simp only [↓wR, RA, simprocAttr, TF, ae] <;> rfl) (by simp only [↓wR, RA, simprocAttr, TF, ae] <;> rfl) ?_
  rintro k ⟨hk, hx⟩
  simp only [↓wR, RA, simprocAttr, TF, ae]
  rw [bj]; refine ⟨fun h4 => ?_, fun h4 => ?_⟩
  · obtain ⟨c, hc, hd1, hlt⟩ := dt (decide_eq_true h4)
    rw [hd1, Dc] at hx
    have hcs := hz.set c (List.mem_of_getElem? hc)
    simp only [↓wR, RA, simprocAttr, TF, ae, h4, hc]
    rw [g9]; refine ⟨fun ⟨h5, e5⟩ => ?_, fun ⟨h5, e5⟩ => ?_⟩
    · rw [decide_eq_true e5, Bool.true_and] at hx
      simp only [↓wR, RA, simprocAttr, TF, ae, h5, ia, hcs.owner, hs.owner]
      rw [bk]; refine ⟨fun h6 => ?_, fun h6 => ?_⟩
      · rw [h6, Bool.true_or] at hx
        simp only [↓wR, RA, simprocAttr, TF, ae, h6]
        rw [hx]; rfl
      · rw [h6, Bool.false_or] at hx
        simp only [↓wR, RA, simprocAttr, TF, ae, h6]; repeat (simp (disch := omega) only [ah, ca, cb, bz, b9]; try simp only [↓wR, RA, simprocAttr, TF, ae, h6])
        exact ⟨k + 1, ⟨hlt, hx⟩, by omega, by (first | rfl | trivial | omega | ((try (simp (disch := omega) only [ah])); (try (simp only [FB])); first | done | rfl | omega))⟩
    · rw [decide_eq_false (by omega), Bool.false_and, Bool.false_or] at hx
      simp only [↓wR, RA, simprocAttr, TF, ae, h5]; repeat (simp (disch := omega) only [ah, ca, cb, bz, b9]; try simp only [↓wR, RA, simprocAttr, TF, ae, h5])
      exact ⟨k + 1, ⟨hlt, hx⟩, by omega, by (first | rfl | trivial | omega | ((try (simp (disch := omega) only [ah])); (try (simp only [FB])); first | done | rfl | omega))⟩
  · rw [dv (decide_eq_false h4), Dc] at hx
    simp only [↓wR, RA, simprocAttr, TF, ae, h4]
    rw [hx]; rfl
theorem amv (l : sy) (i : Int) (s : bo) (hz : c9 l.z) (hs : dq s) (hi : 0 ≤ i) : wl PP [dr] 0 (Tryz.f128.body.getD .skip) (dj PP Tryz.f128.results.toList (fun r st => (r1 bt).get true st.h r = some (iy l.z i.toNat s))) (bw 0 [.gp (l6.cells false l), (aw .i64).val false i, aq.val false s]) (bp []) := by
  have := asi l i.toNat s hz hs
  rwa [Int.toNat_of_nonneg hi] at this
noncomputable def Db (x : sy × Int × bo × Unit) : Option AV := if (c9 x.1.z ∧ dq x.2.2.1) ∧ 0 ≤ x.2.1 then some ((r1 bt).E true (iy x.1.z x.2.1.toNat x.2.2.1)) else none
set_option maxRecDepth 2000000 in
theorem Ol (x : sy × Int × bo × Unit) (r : AV) (h : Db x = some r) : bf PP 128 ((aP l6 (aC (aw .i64) (aC aq a0))).E x) r := by
  by_cases hc : (c9 x.1.z ∧ dq x.2.2.1) ∧ 0 ≤ x.2.1
  case neg => simp only [Db, if_neg hc] at h; cases h
  simp only [Db, if_pos hc] at h
  cases h
  exact ba (ak.cons (ai fv) (ak.nil PP)) Tryz.func128 (by kernel_rfl) (by kernel_rfl) (by kernel_rfl) (Nat.le_of_ble_eq_true (by kernel_rfl)) (r1 bt) true (iy x.1.z x.2.1.toNat x.2.2.1) (amv x.1 x.2.1 x.2.2.1 hc.1.1 hc.1.2 hc.2)
noncomputable abbrev jc : Nat × Bool × (List AV → M AV) := (128, true, dc (aP l6 (aC (aw .i64) (aC aq a0))) Db)
def ni (s : bo) : Bool := if ¬ (s.cls.toNat : Int) = 1 then false else if (s.type.toNat : Int) = 0 then false else if (s.type.toNat : Int) = 41 then false else !decide ((s.type.toNat : Int) = 255)
theorem arp (i : Int) (s : bo) : wl PP [] 0 (Tryz.f123.body.getD .skip) (dj PP Tryz.f123.results.toList (fun r st => (r1 bt).get true st.h r = some (ni s))) (bw 0 [(aw .i64).val false i, aq.val false s]) (bp []) := by
  unfold Tryz.f123
  simp only [js]
  simp only [↓wR, RA, simprocAttr, TF, ae]
  unfold ni
  rw [cy]; refine ⟨fun ⟨h, e⟩ => ?_, fun ⟨h, e⟩ => ?_⟩
  · rw [if_neg (by omega)]
    simp only [↓wR, RA, simprocAttr, TF, ae, h]
    rw [g9]; refine ⟨fun ⟨h2, e2⟩ => ?_, fun ⟨h2, e2⟩ => ?_⟩
    · rw [if_neg e2]
      simp only [↓wR, RA, simprocAttr, TF, ae, h2]
      rw [g9]; refine ⟨fun ⟨h3, e3⟩ => ?_, fun ⟨h3, e3⟩ => ?_⟩
      · rw [if_neg e3]
        simp only [↓wR, RA, simprocAttr, TF, ae, h3]
        rfl
      · rw [if_pos e3]
        simp only [↓wR, RA, simprocAttr, TF, ae, h3]
    · rw [if_pos e2]
      simp only [↓wR, RA, simprocAttr, TF, ae, h2]
  · rw [if_pos e]
    simp only [↓wR, RA, simprocAttr, TF, ae, h]
noncomputable def Wk (x : Int × bo × Unit) : Option AV := some ((r1 bt).E true (ni x.2.1))
set_option maxRecDepth 2000000 in
theorem N8 (x : Int × bo × Unit) (r : AV) (h : Wk x = some r) : bf PP 123 ((aC (aw .i64) (aC aq a0)).E x) r := by
  cases h
  exact ba (ak.nil PP) Tryz.func123 (by kernel_rfl) (by kernel_rfl) (by kernel_rfl) (Nat.le_of_ble_eq_true (by kernel_rfl)) (r1 bt) true (ni x.2.1) (arp x.1 x.2.1)
noncomputable abbrev jg : Nat × Bool × (List AV → M AV) := (123, true, dc (aC (aw .i64) (aC aq a0)) Wk)
theorem apd (i : Int) (s : bo) (z : bb) (hs : dq s) (hz : c9 z) : wl PP [sj] 0 (Tryz.f124.body.getD .skip) (dj PP Tryz.f124.results.toList (fun r st => (r1 bt).get true st.h r = some (cw s.owner z.origin))) (bw 0 [(aw .i64).val false i, aq.val false s, .gp (bg.cells false z)]) (bp []) := by
  unfold Tryz.f124
  simp only [js]
  simp only [↓wR, RA, simprocAttr, TF, ae, Ax, ln, hs.owner, hz.origin]
noncomputable def D3 (x : Int × bo × bb × Unit) : Option AV := if dq x.2.1 ∧ c9 x.2.2.1 then some ((r1 bt).E true (cw x.2.1.owner x.2.2.1.origin)) else none
set_option maxRecDepth 2000000 in
theorem Ki (x : Int × bo × bb × Unit) (r : AV) (h : D3 x = some r) : bf PP 124 ((aC (aw .i64) (aC aq (aP bg a0))).E x) r := by
  by_cases hc : dq x.2.1 ∧ c9 x.2.2.1
  case neg => simp only [D3, if_neg hc] at h; cases h
  simp only [D3, if_pos hc] at h
  cases h
  exact ba (ak.cons (ai l5) (ak.nil PP)) Tryz.func124 (by kernel_rfl) (by kernel_rfl) (by kernel_rfl) (Nat.le_of_ble_eq_true (by kernel_rfl)) (r1 bt) true (cw x.2.1.owner x.2.2.1.origin) (apd x.1 x.2.1 x.2.2.1 hc.1 hc.2)
noncomputable abbrev ib : Nat × Bool × (List AV → M AV) := (124, true, dc (aC (aw .i64) (aC aq (aP bg a0))) D3)
end Go.Proofs.YtidomogemfchpaaGreat
end
section
set_option linter.unusedSimpArgs false
set_option linter.unusedVariables false
namespace Go.Proofs.YtidomogemfchpaaGreat
open Go.Vm
set_option maxRecDepth 2000000
def ky (s : bo) : Bool := if ¬ (s.type.toNat : Int) = 2 then true else match s.owner[0]? with | none => true | some a => !decide (a = te)
theorem avg (i : Int) (s : bo) (hs : dq s) : wl PP [] 0 (Tryz.f129.body.getD .skip) (dj PP Tryz.f129.results.toList (fun r st => (r1 bt).get true st.h r = some (ky s))) (bw 0 [(aw .i64).val false i, aq.val false s]) (bp []) := by
  have hn := hs.owner.lt
  unfold Tryz.f129
  simp only [js]
  simp only [↓wR, RA, simprocAttr, TF, ae]
  unfold ky
  rw [g9]; refine ⟨fun ⟨h, e⟩ => ?_, fun ⟨h, e⟩ => ?_⟩
  · rw [if_pos e]
    simp only [↓wR, RA, simprocAttr, TF, ae, h]
  rw [if_neg (by omega)]
  simp only [↓wR, RA, simprocAttr, TF, ae, h]
  rw [cy]; refine ⟨fun ⟨h2, e2⟩ => ?_, fun ⟨h2, e2⟩ => ?_⟩
  · have hnil : s.owner = [] := List.eq_nil_of_length_eq_zero (by omega)
    have h0 : s.owner[0]? = none := by rw [hnil]; rfl
    rw [h0]
    simp only [↓wR, RA, simprocAttr, TF, ae, h2]
  · obtain ⟨a, ha⟩ : ∃ a, s.owner[0]? = some a := ⟨_, List.getElem?_eq_getElem (by omega)⟩
    have h0 : 0 < s.owner.length := by omega
    rw [ha]
    simp only [↓wR, RA, simprocAttr, TF, ae, h2, ha, h0]
    rfl
noncomputable def Gn (x : Int × bo × Unit) : Option AV := if dq x.2.1 then some ((r1 bt).E true (ky x.2.1)) else none
set_option maxRecDepth 2000000 in
theorem Sf (x : Int × bo × Unit) (r : AV) (h : Gn x = some r) : bf PP 129 ((aC (aw .i64) (aC aq a0)).E x) r := by
  by_cases hc : dq x.2.1
  case neg => simp only [Gn, if_neg hc] at h; cases h
  simp only [Gn, if_pos hc] at h
  cases h
  exact ba (ak.nil PP) Tryz.func129 (by kernel_rfl) (by kernel_rfl) (by kernel_rfl) (Nat.le_of_ble_eq_true (by kernel_rfl)) (r1 bt) true (ky x.2.1) (avg x.1 x.2.1 hc)
noncomputable abbrev kp : Nat × Bool × (List AV → M AV) := (129, true, dc (aC (aw .i64) (aC aq a0)) Gn)
def pg (z : bb) (s : bo) : Bool :=
  match j0 z s.owner with
  | none => true
  | some c => if (s.type.toNat : Int) = 1 then true else if (s.type.toNat : Int) = 28 then true else if (s.type.toNat : Int) = 2 then ee c s.owner else false
theorem aw8 (i : Int) (s : bo) (z : bb) (hs : dq s) (hz : c9 z) : wl PP [aqv, dr] 0 (Tryz.f130.body.getD .skip) (dj PP Tryz.f130.results.toList (fun r st => (r1 bt).get true st.h r = some (pg z s))) (bw 0 [(aw .i64).val false i, aq.val false s, .gp (bg.cells false z)]) (bp []) := by
  have hsm := Yw (n := s.owner) hz z.aj none (fun _ h => h) (fun m hm => by cases hm)
  change ∀ m, j0 z s.owner = some m → be m at hsm
  unfold Tryz.f130
  simp only [js]
  unfold pg
  cases hc : j0 z s.owner with
  | none =>
    simp only [↓wR, RA, simprocAttr, TF, ae, Ax, Ce, hs.owner, hz, hc, Option.isSome_none]
    done
  | some c =>
    simp only [↓wR, RA, simprocAttr, TF, ae, Ax, Ce, hs.owner, hz, hc]
    rw [cy]; refine ⟨fun ⟨h, e⟩ => ?_, fun ⟨h, e⟩ => ?_⟩
    · rw [if_pos e]
      simp only [↓wR, RA, simprocAttr, TF, ae, h]
    rw [if_neg e]
    simp only [↓wR, RA, simprocAttr, TF, ae, h]
    rw [cy]; refine ⟨fun ⟨h2, e2⟩ => ?_, fun ⟨h2, e2⟩ => ?_⟩
    · rw [if_pos e2]
      simp only [↓wR, RA, simprocAttr, TF, ae, h2]
    rw [if_neg e2]
    simp only [↓wR, RA, simprocAttr, TF, ae, h2]
    rw [cy]; refine ⟨fun ⟨h3, e3⟩ => ?_, fun ⟨h3, e3⟩ => ?_⟩
    · rw [if_pos e3]
      simp only [↓wR, RA, simprocAttr, TF, ae, h3, ia, hs.owner, hsm c hc]
    · rw [if_neg e3]
      simp only [↓wR, RA, simprocAttr, TF, ae, h3]
noncomputable def Nc (x : Int × bo × bb × Unit) : Option AV := if dq x.2.1 ∧ c9 x.2.2.1 then some ((r1 bt).E true (pg x.2.2.1 x.2.1)) else none
set_option maxRecDepth 2000000 in
theorem W0 (x : Int × bo × bb × Unit) (r : AV) (h : Nc x = some r) : bf PP 130 ((aC (aw .i64) (aC aq (aP bg a0))).E x) r := by
  by_cases hc : dq x.2.1 ∧ c9 x.2.2.1
  case neg => simp only [Nc, if_neg hc] at h; cases h
  simp only [Nc, if_pos hc] at h
  cases h
  exact ba (ak.cons (ai K4) (ak.cons (ai fv) (ak.nil PP))) Tryz.func130 (by kernel_rfl) (by kernel_rfl) (by kernel_rfl) (Nat.le_of_ble_eq_true (by kernel_rfl)) (r1 bt) true (pg x.2.2.1 x.2.1) (aw8 x.1 x.2.1 x.2.2.1 hc.1 hc.2)
noncomputable abbrev oa : Nat × Bool × (List AV → M AV) := (130, true, dc (aC (aw .i64) (aC aq (aP bg a0))) Nc)
def og (z : bb) (p : Nat × Nat) (s : bo) : Nat × Nat :=
  if (s.type.toNat : Int) = 6 then (p.1 + 1, if (ee s.owner z.origin && decide ((s.data.length : Int) = 1)) = true then p.2 + 1 else p.2) else p
def gh (z : bb) : Nat × Nat := z.aj.foldl (og z) (0, 0)
theorem au2 (k : sy) (hz : c9 k.z) : wl PP [dr] 0 (Tryz.f125.body.getD .skip) (dj PP Tryz.f125.results.toList (fun r st => (r2 (aw .i64) (aw .i64)).get true st.h r = some (((gh k.z).1 : Int), ((gh k.z).2 : Int)))) (bw 0 [.gp (l6.cells false k)]) (bp []) := by
  have hl := hz.len
  unfold Tryz.f125
  simp only [↓wR, RA, simprocAttr, TF, ae, A0]
  refine bq (T := []) (ak.nil PP) mixed Tryz.func127 rfl (by kernel_rfl) (by kernel_rfl) (by kernel_rfl) (by kernel_rfl) ?_; unfold Tryz.f127
  simp only [↓wR, RA, simprocAttr, TF, ae]
  refine ⟨[1, 4, 5, 11], ?_⟩
  have hib : tn PP 154 = some (Tryz.f154.ntmps, Tryz.f154.body.getD .skip) := by kernel_rfl
  simp only [↓wR, RA, simprocAttr, TF, ae, hib]
  refine ⟨by kernel_rfl, fun l => ?_⟩
  unfold Tryz.f154
  simp only [↓wR, RA, simprocAttr, TF, ae]
  refine E4 [0, 2, 7, 8, 9] (fun (x : Nat × Nat × Nat) => [.sc (.func (.yield l) #[] #[]), .ptr 4 0, .vl false 5 (k.z.aj.map (aq.val false)), .sc (.int .i64 (k.z.aj.length)), .sc (.int .i64 (x.1))]) (fun x => [some (.row [.gp [.vl false 1 (k.z.origin.map (an.val false)), .vl false 5 (k.z.aj.map (aq.val false)), .sc (.int .i64 (k.e))]] 0 2 178), some (.row [.sc (.int .i64 (x.2.1 : Int))] 0 2 3), some (.row [.sc (.int .i64 (x.2.2 : Int))] 0 2 3), some (.row [.vl false 1 (k.z.origin.map (an.val false)), .vl false 5 (k.z.aj.map (aq.val false))] 0 2 26), some (.row [.sc (.int .u16 6)] 0 2 28)]) (fun x => x.1 ≤ k.z.aj.length ∧ x.2.1 ≤ x.1 ∧ x.2.2 ≤ x.1 ∧ gh k.z = (k.z.aj.drop x.1).foldl (og k.z) x.2) (fun x => k.z.aj.length - x.1) (0, 0, 0) ⟨Nat.zero_le _, Nat.le_refl _, Nat.le_refl _, rfl⟩ (by simp only [↓wR, RA, simprocAttr, TF, ae] <;> rfl) (by simp only [↓wR, RA, simprocAttr, TF, ae] <;> rfl) ?_
  rintro ⟨i, n, m⟩ ⟨hi, hn, hm, hx⟩
  simp only at hi hn hm hx
  simp only [↓wR, RA, simprocAttr, TF, ae]
  rw [sf]; refine ⟨fun h => ?_, fun h => ?_⟩
  · obtain ⟨c, hc, hd1, hlt⟩ := dt h
    have hcs := hz.set c (List.mem_of_getElem? hc)
    have hstep : gh k.z = (k.z.aj.drop (i + 1)).foldl (og k.z) (og k.z (n, m) c) := by rw [hx, hd1]; rfl
    simp only [↓wR, RA, simprocAttr, TF, ae, h, hc]
    rw [sf]; refine ⟨fun h2 => ?_, fun h2 => ?_⟩
    · have e2 : (c.type.toNat : Int) = 6 := by simpa using h2
      simp only [↓wR, RA, simprocAttr, TF, ae, h2]
      refine v7 [0, 2, 7, 8, 9, 17, 19] ?_
      simp only [↓wR, RA, simprocAttr, TF, ae, wo, mo]; repeat (simp (disch := omega) only [ah, ca, cb, bz, b9]; try simp only [↓wR, RA, simprocAttr, TF, ae, wo, mo])
      refine ⟨by kernel_rfl, .inl ?_⟩
      simp only [↓wR, RA, simprocAttr, TF, ae, ia, hcs.owner, hz.origin]
      have fin : ∀ q, og k.z (n, m) c = (n + 1, q) → q ≤ i + 1 → gh k.z = (k.z.aj.drop (i + 1)).foldl (og k.z) (n + 1, q) := fun q hq _ => by rw [hstep, hq]
      rw [bk]; refine ⟨fun h3 => ?_, fun h3 => ?_⟩
      · simp only [↓wR, RA, simprocAttr, TF, ae, h3]
        refine ⟨by kernel_rfl, ?_⟩
        rw [cy]; refine ⟨fun ⟨h4, e4⟩ => ?_, fun ⟨h4, e4⟩ => ?_⟩
        · have hq : og k.z (n, m) c = (n + 1, m + 1) := by simp [og, e2, h3, e4]
          simp only [↓wR, RA, simprocAttr, TF, ae, h4]; repeat (simp (disch := omega) only [ah, ca, cb, bz, b9]; try simp only [↓wR, RA, simprocAttr, TF, ae, h4])
          exact ⟨(i + 1, n + 1, m + 1), ⟨hlt, by simp; omega, by simp; omega, fin _ hq (by omega)⟩, by simp; omega, by (first | rfl | trivial | omega | ((try (simp (disch := omega) only [ah])); (try (simp only [FB])); first | done | rfl | omega)), by (first | rfl | trivial | omega | ((try (simp (disch := omega) only [ah])); (try (simp only [FB])); first | done | rfl | omega))⟩
        · have hq : og k.z (n, m) c = (n + 1, m) := by simp [og, e2, h3, e4]
          simp only [↓wR, RA, simprocAttr, TF, ae, h4]; repeat (simp (disch := omega) only [ah, ca, cb, bz, b9]; try simp only [↓wR, RA, simprocAttr, TF, ae, h4])
          exact ⟨(i + 1, n + 1, m), ⟨hlt, by simp; omega, by simp; omega, fin _ hq (by omega)⟩, by simp; omega, by (first | rfl | trivial | omega | ((try (simp (disch := omega) only [ah])); (try (simp only [FB])); first | done | rfl | omega)), by (first | rfl | trivial | omega | ((try (simp (disch := omega) only [ah])); (try (simp only [FB])); first | done | rfl | omega))⟩
      · have hq : og k.z (n, m) c = (n + 1, m) := by simp [og, e2, h3]
        simp only [↓wR, RA, simprocAttr, TF, ae, h3]
        refine ⟨by kernel_rfl, ?_⟩
        exact ⟨(i + 1, n + 1, m), ⟨hlt, by simp; omega, by simp; omega, fin _ hq (by omega)⟩, by simp; omega, by (first | rfl | trivial | omega | ((try (simp (disch := omega) only [ah])); (try (simp only [FB])); first | done | rfl | omega)), by (first | rfl | trivial | omega | ((try (simp (disch := omega) only [ah])); (try (simp only [FB])); first | done | rfl | omega))⟩
    · have e2 : ¬ (c.type.toNat : Int) = 6 := by simpa using h2
      have hb2 : og k.z (n, m) c = (n, m) := by simp [og, e2]
      rw [hb2] at hstep
      simp only [↓wR, RA, simprocAttr, TF, ae, h2]; repeat (simp (disch := omega) only [ah, ca, cb, bz, b9]; try simp only [↓wR, RA, simprocAttr, TF, ae, h2])
      exact ⟨(i + 1, n, m), ⟨hlt, by simp; omega, by simp; omega, hstep⟩, by simp; omega, by (first | rfl | trivial | omega | ((try (simp (disch := omega) only [ah])); (try (simp only [FB])); first | done | rfl | omega)), by (first | rfl | trivial | omega | ((try (simp (disch := omega) only [ah])); (try (simp only [FB])); first | done | rfl | omega))⟩
  · rw [dv h] at hx
    simp only [↓wR, RA, simprocAttr, TF, ae, h]
    refine ⟨by kernel_rfl, .inl ?_⟩
    refine ⟨by kernel_rfl, ?_⟩
    rw [hx]; rfl
noncomputable def K9 (x : sy × Unit) : Option AV := if c9 x.1.z then some ((r2 (aw .i64) (aw .i64)).E true ((((gh x.1.z).1 : Int), ((gh x.1.z).2 : Int)))) else none
set_option maxRecDepth 2000000 in
theorem Sy (x : sy × Unit) (r : AV) (h : K9 x = some r) : bf PP 125 ((aP l6 a0).E x) r := by
  by_cases hc : c9 x.1.z
  case neg => simp only [K9, if_neg hc] at h; cases h
  simp only [K9, if_pos hc] at h
  cases h
  exact ba (ak.cons (ai fv) (ak.nil PP)) Tryz.func125 (by kernel_rfl) (by kernel_rfl) (by kernel_rfl) (Nat.le_of_ble_eq_true (by kernel_rfl)) (r2 (aw .i64) (aw .i64)) true ((((gh x.1.z).1 : Int), ((gh x.1.z).2 : Int))) (au2 x.1 hc)
noncomputable abbrev ko : Nat × Bool × (List AV → M AV) := (125, true, dc (aP l6 a0) K9)
end Go.Proofs.YtidomogemfchpaaGreat
end
section
set_option linter.unusedSimpArgs false
set_option linter.unusedVariables false
namespace Go.Proofs.YtidomogemfchpaaGreat
open Go.Vm
set_option maxRecDepth 2000000
def c0 (b : Bool) (err e : Int) : Int := if e = 0 ∧ b = false then err else e
def fm (err : Int) (p : Nat → bo → Bool) : Nat → List bo → Int → Int
  | _, [], e => e
  | i, s :: r, e => if e ≠ 0 then e else fm err p (i + 1) r (c0 (p i s) err e)
def m6 (l : List bo) : Nat := l.foldl (fun n s => n + s.data.length) 0
noncomputable def Fs : List bo → Int → Int
  | [], e => e
  | s :: r, e => Fs r (if e = 0 then qs s else e)
noncomputable def tu (z : bb) : Int := if dp z.origin ≠ 0 then dp z.origin else Fs z.aj (c0 (decide (m6 z.aj ≤ 2048)) 3 0)
def Ic (z : bb) (l : List bo) : Bool := l.any fun s => decide ((s.type.toNat : Int) = 2) && ee s.owner z.origin
def gu (z : bb) : Bool := Ic z z.aj
theorem abw {z : bb} {l : List bo} {i : Nat} {c : bo} (h : l.drop i = c :: l.drop (i + 1)) : Ic z (l.drop i) = ((decide ((c.type.toNat : Int) = 2) && ee c.owner z.origin) || Ic z (l.drop (i + 1))) := by rw [h]; rfl
noncomputable def Ul (z : bb) : Int := fm 260 (kf z) 0 z.aj (tu z)
noncomputable def Rp (z : bb) : Int := fm 261 (fun _ s => ni s) 0 z.aj (Ul z)
noncomputable def qu (z : bb) : Int := fm 262 (fun _ s => cw s.owner z.origin) 0 z.aj (Rp z)
noncomputable def me (z : bb) : Int := c0 (decide ((gh z).1 = 1) && decide ((gh z).2 = 1)) 263 (qu z)
noncomputable def Dn (z : bb) : Int := c0 (gu z) 264 (me z)
noncomputable def Ea (z : bb) : Int := fm 265 (iy z) 0 z.aj (Dn z)
noncomputable def Mc (z : bb) : Int := fm 266 (fun _ s => ky s) 0 z.aj (Ea z)
noncomputable def awb (z : bb) : Int := fm 267 (fun _ s => pg z s) 0 z.aj (Mc z)
noncomputable def iw (z : bb) : Int := if tu z ≠ 0 then tu z else awb z
theorem aa2 (l : List bo) (i : Nat) (c : bo) (h : l[i]? = some c) : m6 (l.take (i + 1)) = m6 (l.take i) + c.data.length := by
  obtain ⟨hk, rfl⟩ := List.getElem?_eq_some_iff.1 h
  rw [List.take_succ_eq_append_getElem hk]; simp only [m6, List.foldl_append, List.foldl_cons, List.foldl_nil]
theorem afr (l : List bo) : ∀ k, l.foldl (fun n s => n + s.data.length) k ≤ k + fu nb l := by
  induction l with
  | nil => intro k; exact Nat.le_refl _
  | cons a l ih =>
    intro k
    have h1 := ih (k + a.data.length)
    have h2 := ql uc a.data
    simp only [fu, List.foldr_cons, List.foldl_cons, nb] at h1 ⊢
    unfold fu at h2
    omega
theorem alc (l : List bo) : m6 l ≤ fu nb l := by have := afr l 0; unfold m6; omega
theorem aqx {l : List bo} {i : Nat} {c : bo} (h : l.drop i = c :: l.drop (i + 1)) (e : Int) : Fs (l.drop i) e = Fs (l.drop (i + 1)) (if e = 0 then qs c else e) := by rw [h]; rfl
theorem tm {l : List bo} {i : Nat} {c : bo} (h : l.drop i = c :: l.drop (i + 1)) (err : Int) (p : Nat → bo → Bool) (e : Int) : fm err p i (l.drop i) e = if e ≠ 0 then e else fm err p (i + 1) (l.drop (i + 1)) (c0 (p i c) err e) := by rw [h]; rfl
set_option maxHeartbeats 4000000 in
theorem ac7 (z : bb) (hz : c9 z) : wl PP [eb, dr, ga, jf, jc, jg, ib, kp, oa, ko] 0 (Tryz.f82.body.getD .skip) (dj PP Tryz.f82.results.toList (fun r st => (r1 (aw .i64)).get true st.h r = some (iw z))) (bw 0 [bg.val false z]) (bp []) := by
  have hl := hz.len
  have ok : ak PP [eb, dr, ga, jf, jc, jg, ib, kp, oa, ko] := ak.cons (ai kb) (ak.cons (ai fv) (ak.cons (ai Jj) (ak.cons (ai Pq) (ak.cons (ai Ol) (ak.cons (ai N8) (ak.cons (ai Ki) (ak.cons (ai Sf) (ak.cons (ai W0) (ak.cons (ai Sy) (ak.nil PP))))))))))
  unfold Tryz.f82
  simp only [ig]
  simp only [↓wR, RA, simprocAttr, TF, ae]
  refine dw (fun r st' => r = .fh [] ∧ st' = bp [some (.row [.vl false 1 (z.origin.map (an.val false)), .vl false 5 (z.aj.map (aq.val false))] 0 2 26), some (.row [.vl false 1 (z.origin.map (an.val false)), .vl false 5 (z.aj.map (aq.val false)), .sc (.int .i64 (tu z))] 0 2 180)]) rfl ?_ ?_
  · refine bq (T := [eb, dr, ga, jf, jc, jg, ib, kp, oa, ko]) ok mixed Tryz.func120 rfl (by kernel_rfl) (by kernel_rfl) (by kernel_rfl) (by kernel_rfl) ?_; unfold Tryz.f120
    simp only [↓wR, RA, simprocAttr, TF, ae, ll, hz.origin.fit]
    unfold tu
    rw [bk]; refine ⟨fun h => ?_, fun h => ?_⟩
    · have he : dp z.origin ≠ 0 := by simpa using h
      rw [if_pos he]
      simp only [↓wR, RA, simprocAttr, TF, ae, h, g8, gx, gq]
    have he : dp z.origin = 0 := by simpa using h
    rw [if_neg (by omega)]
    simp only [↓wR, RA, simprocAttr, TF, ae, h, he]
    refine dh [0, 2, 25, 26, 27] (fun (i : Nat) => [.ptr 1 0, .sc (.int .i64 (m6 (z.aj.take i))), .vl false 5 (z.aj.map (aq.val false)), .sc (.int .i64 (z.aj.length)), .sc (.int .i64 (i))]) (fun _ => [some (.row [.vl false 1 (z.origin.map (an.val false)), .vl false 5 (z.aj.map (aq.val false))] 0 2 26), some (.row [.vl false 1 (z.origin.map (an.val false)), .vl false 5 (z.aj.map (aq.val false)), .sc (.int .i64 (0))] 0 2 180)]) (fun i => i ≤ z.aj.length) (fun i => z.aj.length - i) 0 (Nat.zero_le _) (by simp only [↓wR, RA, simprocAttr, TF, ae] <;> rfl) (by simp only [↓wR, RA, simprocAttr, TF, ae] <;> rfl) ?_
    clear h
    intro i hi
    have hsum := alc (z.aj.take i)
    have hsum2 := Qd nb z.aj i
    have hzz : fu nb z.aj ≤ 16777216 := by unfold c9 x9 at hz; omega
    simp only [↓wR, RA, simprocAttr, TF, ae]
    rw [bj]; refine ⟨fun h => ?_, fun h => ?_⟩
    · obtain ⟨c, hc, hd1, hlt⟩ := dt (decide_eq_true h)
      have hst := aa2 z.aj i c hc
      have hcl := (hz.set c (List.mem_of_getElem? hc)).data.len
      simp only [↓wR, RA, simprocAttr, TF, ae, h, hc]; repeat (simp (disch := omega) only [ah, ca, cb, bz, b9]; try simp only [↓wR, RA, simprocAttr, TF, ae, h, hc])
      exact ⟨i + 1, hlt, by omega, by rw [hst]; (first | rfl | trivial | omega | ((try (simp (disch := omega) only [ah])); (try (simp only [FB])); first | done | rfl | omega))⟩
    have hin : i = z.aj.length := by omega
    rw [hin, List.take_length] at hsum ⊢
    simp only [↓wR, RA, simprocAttr, TF, ae, h]
    have hd : decide ((m6 z.aj : Int) ≤ 2048) = decide (m6 z.aj ≤ 2048) := by rw [decide_eq_decide]; omega
    rw [hd]
    refine dw (fun r st' => r = .fh [] ∧ st' = bp [some (.row [.vl false 1 (z.origin.map (an.val false)), .vl false 5 (z.aj.map (aq.val false))] 0 2 26), some (.row [.vl false 1 (z.origin.map (an.val false)), .vl false 5 (z.aj.map (aq.val false)), .sc (.int .i64 (c0 (decide (m6 z.aj ≤ 2048)) 3 (0)))] 0 2 180)]) rfl ?_ ?_
    · refine bq (T := [eb, dr, ga, jf, jc, jg, ib, kp, oa, ko]) ok mixed Tryz.func126 rfl (by kernel_rfl) (by kernel_rfl) (by kernel_rfl) (by kernel_rfl) ?_; unfold Tryz.f126
      simp only [↓wR, RA, simprocAttr, TF, ae]
      rw [bk]; refine ⟨fun hn2 => ?_, fun hn2 => ?_⟩
      · have hb : (decide (m6 z.aj ≤ 2048)) = false := by simpa only [Bool.not_eq_true'] using hn2
        have hv : c0 (decide (m6 z.aj ≤ 2048)) 3 (0) = 3 := by unfold c0; rw [if_pos ⟨rfl, hb⟩]
        simp only [↓wR, RA, simprocAttr, TF, ae, hn2, g8, gx, gq]
        try rw [hv]
      · have hb : (decide (m6 z.aj ≤ 2048)) = true := by simpa only [Bool.not_eq_false'] using hn2
        have hv : c0 (decide (m6 z.aj ≤ 2048)) 3 (0) = 0 := by unfold c0; rw [if_neg (fun q => by rw [hb] at q; cases q.2)]
        simp only [↓wR, RA, simprocAttr, TF, ae, hn2, g8, gx, gq]
        try rw [hv]
    rintro _ _ ⟨rfl, rfl⟩
    simp only [↓wR, RA, simprocAttr, TF, ae, gm]
    refine dh [0, 45, 46, 47] (fun (x : Nat × Int) => [.ptr 1 0, .vl false 5 (z.aj.map (aq.val false)), .sc (.int .i64 (z.aj.length)), .sc (.int .i64 (x.1))]) (fun x => [some (.row [.vl false 1 (z.origin.map (an.val false)), .vl false 5 (z.aj.map (aq.val false))] 0 2 26), some (.row [.vl false 1 (z.origin.map (an.val false)), .vl false 5 (z.aj.map (aq.val false)), .sc (.int .i64 (x.2))] 0 2 180)]) (fun x => x.1 ≤ z.aj.length ∧ Fs z.aj (c0 (decide (m6 z.aj ≤ 2048)) 3 0) = Fs (z.aj.drop x.1) x.2) (fun x => z.aj.length - x.1) (0, c0 (decide (m6 z.aj ≤ 2048)) 3 0) ⟨Nat.zero_le _, rfl⟩ (by simp only [↓wR, RA, simprocAttr, TF, ae] <;> rfl) (by simp only [↓wR, RA, simprocAttr, TF, ae] <;> rfl) ?_
    clear h hi hin hd
    rintro ⟨i, e⟩ ⟨hi, hx⟩
    simp only at hi hx
    simp only [↓wR, RA, simprocAttr, TF, ae]
    rw [bj]; refine ⟨fun h => ?_, fun h => ?_⟩
    · obtain ⟨c, hc, hd1, hlt⟩ := dt (decide_eq_true h)
      rw [aqx hd1] at hx
      have hcs := hz.set c (List.mem_of_getElem? hc)
      simp only [↓wR, RA, simprocAttr, TF, ae, h, hc]
      rw [cy]; refine ⟨fun ⟨h1, e1⟩ => ?_, fun ⟨h1, e1⟩ => ?_⟩
      · rw [if_pos e1] at hx
        simp only [↓wR, RA, simprocAttr, TF, ae, h1, yg, hcs]; repeat (simp (disch := omega) only [ah, ca, cb, bz, b9]; try simp only [↓wR, RA, simprocAttr, TF, ae, h1, yg, hcs])
        exact ⟨(i + 1, qs c), ⟨hlt, hx⟩, by simp; omega, by (first | rfl | trivial | omega | ((try (simp (disch := omega) only [ah])); (try (simp only [FB])); first | done | rfl | omega)), by (first | rfl | trivial | omega | ((try (simp (disch := omega) only [ah])); (try (simp only [FB])); first | done | rfl | omega))⟩
      · rw [if_neg e1] at hx
        simp only [↓wR, RA, simprocAttr, TF, ae, h1]; repeat (simp (disch := omega) only [ah, ca, cb, bz, b9]; try simp only [↓wR, RA, simprocAttr, TF, ae, h1])
        exact ⟨(i + 1, e), ⟨hlt, hx⟩, by simp; omega, by (first | rfl | trivial | omega | ((try (simp (disch := omega) only [ah])); (try (simp only [FB])); first | done | rfl | omega)), by (first | rfl | trivial | omega | ((try (simp (disch := omega) only [ah])); (try (simp only [FB])); first | done | rfl | omega))⟩
    · rw [dv (decide_eq_false h)] at hx
      simp only [↓wR, RA, simprocAttr, TF, ae, h, g8, gx, gq]
      rw [hx]; rfl
  rintro _ _ ⟨rfl, rfl⟩
  simp only [↓wR, RA, simprocAttr, TF, ae, gm]
  unfold iw
  rw [bk]; refine ⟨fun h => ?_, fun h => ?_⟩
  · have he : tu z ≠ 0 := by simpa using h
    rw [if_pos he]
    simp only [↓wR, RA, simprocAttr, TF, ae, h]
  have he : tu z = 0 := by simpa using h
  rw [if_neg (by omega)]
  simp only [↓wR, RA, simprocAttr, TF, ae, h]
  clear h he
  obtain ⟨e0, he0⟩ : ∃ e0, tu z = e0 := ⟨_, rfl⟩
  rw [he0]
  refine dw (fun r st' => r = .fh [] ∧ st' = bp [some (.row [.vl false 1 (z.origin.map (an.val false)), .vl false 5 (z.aj.map (aq.val false))] 0 2 26), some (.row [.vl false 1 (z.origin.map (an.val false)), .vl false 5 (z.aj.map (aq.val false)), .sc (.int .i64 (fm 260 (kf z) 0 z.aj e0))] 0 2 180)]) rfl ?_ ?_
  · refine bq (T := [eb, dr, ga, jf, jc, jg, ib, kp, oa, ko]) ok mixed Tryz.func121 rfl (by kernel_rfl) (by kernel_rfl) (by kernel_rfl) (by kernel_rfl) ?_; unfold Tryz.f121
    simp only [↓wR, RA, simprocAttr, TF, ae]
    refine dh [0, 1, 2, 12, 13, 14] (fun (x : Nat × Int) => [.ptr 1 0, .sc (.int .i64 (260)), .fn (.func 122) [.ptr 1 0] [], .vl false 5 (z.aj.map (aq.val false)), .sc (.int .i64 (z.aj.length)), .sc (.int .i64 (x.1))]) (fun x => [some (.row [.vl false 1 (z.origin.map (an.val false)), .vl false 5 (z.aj.map (aq.val false))] 0 2 26), some (.row [.vl false 1 (z.origin.map (an.val false)), .vl false 5 (z.aj.map (aq.val false)), .sc (.int .i64 (x.2))] 0 2 180)]) (fun x => x.1 ≤ z.aj.length ∧ fm 260 (kf z) 0 z.aj e0 = fm 260 (kf z) x.1 (z.aj.drop x.1) x.2) (fun x => z.aj.length - x.1) (0, e0) ⟨Nat.zero_le _, rfl⟩ (by simp only [↓wR, RA, simprocAttr, TF, ae] <;> rfl) (by simp only [↓wR, RA, simprocAttr, TF, ae] <;> rfl) ?_
    rintro ⟨i, e⟩ ⟨hi, hx⟩
    simp only at hi hx
    simp only [↓wR, RA, simprocAttr, TF, ae]
    rw [bj]; refine ⟨fun h => ?_, fun h => ?_⟩
    · obtain ⟨c, hc, hd1, hlt⟩ := dt (decide_eq_true h)
      rw [tm hd1] at hx
      have hcs := hz.set c (List.mem_of_getElem? hc)
      have hi2 : (0 : Int) ≤ i ∧ (i : Int) ≤ z.aj.length := by omega
      simp only [↓wR, RA, simprocAttr, TF, ae, h, hc]
      rw [g9]; refine ⟨fun ⟨h1, e1⟩ => ?_, fun ⟨h1, e1⟩ => ?_⟩
      · rw [if_pos e1] at hx
        simp only [↓wR, RA, simprocAttr, TF, ae, h1, g8, gx, gq]
        rw [hx]
      · rw [if_neg (by omega)] at hx
        simp only [↓wR, RA, simprocAttr, TF, ae, h1, hcs, hz, hi2, Gt]
        refine dw (fun r st' => r = .fh [] ∧ st' = bp [some (.row [.vl false 1 (z.origin.map (an.val false)), .vl false 5 (z.aj.map (aq.val false))] 0 2 26), some (.row [.vl false 1 (z.origin.map (an.val false)), .vl false 5 (z.aj.map (aq.val false)), .sc (.int .i64 (c0 ((kf z) i c) 260 e))] 0 2 180), some (.row [.vl false 1 (c.owner.map (an.val false)), .sc (.int .u16 c.type.toNat), .sc (.int .u16 c.cls.toNat), .sc (.int .u32 c.sr.toNat), .vl false 4 (c.data.map (cd.val false))] 0 2 40)]) rfl ?_ ?_
        · refine bq (T := [eb, dr, ga, jf, jc, jg, ib, kp, oa, ko]) ok mixed Tryz.func126 rfl (by kernel_rfl) (by kernel_rfl) (by kernel_rfl) (by kernel_rfl) ?_; unfold Tryz.f126
          simp only [↓wR, RA, simprocAttr, TF, ae, e1]
          rw [bk]; refine ⟨fun hn2 => ?_, fun hn2 => ?_⟩
          · have hb : ((kf z) i c) = false := by simpa only [Bool.not_eq_true'] using hn2
            have hv : c0 ((kf z) i c) 260 0 = 260 := by unfold c0; rw [if_pos ⟨rfl, hb⟩]
            simp only [↓wR, RA, simprocAttr, TF, ae, hn2, g8, gx, gq]
            try rw [hv]
          · have hb : ((kf z) i c) = true := by simpa only [Bool.not_eq_false'] using hn2
            have hv : c0 ((kf z) i c) 260 0 = 0 := by unfold c0; rw [if_neg (fun q => by rw [hb] at q; cases q.2)]
            simp only [↓wR, RA, simprocAttr, TF, ae, hn2, g8, gx, gq]
            try rw [hv]
        rintro _ _ ⟨rfl, rfl⟩
        simp only [↓wR, RA, simprocAttr, TF, ae, gm]; repeat (simp (disch := omega) only [ah, ca, cb, bz, b9]; try simp only [↓wR, RA, simprocAttr, TF, ae, gm])
        exact ⟨(i + 1, c0 ((kf z) i c) 260 e), ⟨hlt, hx⟩, by simp; omega, by (first | rfl | trivial | omega | ((try (simp (disch := omega) only [ah])); (try (simp only [FB])); first | done | rfl | omega)), by (first | rfl | trivial | omega | ((try (simp (disch := omega) only [ah])); (try (simp only [FB])); first | done | rfl | omega))⟩
    · rw [dv (decide_eq_false h)] at hx
      simp only [↓wR, RA, simprocAttr, TF, ae, h, g8, gx, gq]
      rw [hx]; rfl
  rintro _ _ ⟨rfl, rfl⟩
  rw [← he0]
  clear he0
  simp only [↓wR, RA, simprocAttr, TF, ae, gm]
  rw [show fm 260 (kf z) 0 z.aj (tu z) = Ul z from rfl]
  obtain ⟨e0, he0⟩ : ∃ e0, Ul z = e0 := ⟨_, rfl⟩
  rw [he0]
  refine dw (fun r st' => r = .fh [] ∧ st' = bp [some (.row [.vl false 1 (z.origin.map (an.val false)), .vl false 5 (z.aj.map (aq.val false))] 0 2 26), some (.row [.vl false 1 (z.origin.map (an.val false)), .vl false 5 (z.aj.map (aq.val false)), .sc (.int .i64 (fm 261 (fun _ s => ni s) 0 z.aj e0))] 0 2 180)]) rfl ?_ ?_
  · refine bq (T := [eb, dr, ga, jf, jc, jg, ib, kp, oa, ko]) ok mixed Tryz.func121 rfl (by kernel_rfl) (by kernel_rfl) (by kernel_rfl) (by kernel_rfl) ?_; unfold Tryz.f121
    simp only [↓wR, RA, simprocAttr, TF, ae]
    refine dh [0, 1, 2, 12, 13, 14] (fun (x : Nat × Int) => [.ptr 1 0, .sc (.int .i64 (261)), .sc (.func (.func 123) #[] #[]), .vl false 5 (z.aj.map (aq.val false)), .sc (.int .i64 (z.aj.length)), .sc (.int .i64 (x.1))]) (fun x => [some (.row [.vl false 1 (z.origin.map (an.val false)), .vl false 5 (z.aj.map (aq.val false))] 0 2 26), some (.row [.vl false 1 (z.origin.map (an.val false)), .vl false 5 (z.aj.map (aq.val false)), .sc (.int .i64 (x.2))] 0 2 180)]) (fun x => x.1 ≤ z.aj.length ∧ fm 261 (fun _ s => ni s) 0 z.aj e0 = fm 261 (fun _ s => ni s) x.1 (z.aj.drop x.1) x.2) (fun x => z.aj.length - x.1) (0, e0) ⟨Nat.zero_le _, rfl⟩ (by simp only [↓wR, RA, simprocAttr, TF, ae] <;> rfl) (by simp only [↓wR, RA, simprocAttr, TF, ae] <;> rfl) ?_
    rintro ⟨i, e⟩ ⟨hi, hx⟩
    simp only at hi hx
    simp only [↓wR, RA, simprocAttr, TF, ae]
    rw [bj]; refine ⟨fun h => ?_, fun h => ?_⟩
    · obtain ⟨c, hc, hd1, hlt⟩ := dt (decide_eq_true h)
      rw [tm hd1] at hx
      have hcs := hz.set c (List.mem_of_getElem? hc)
      have hi2 : (0 : Int) ≤ i ∧ (i : Int) ≤ z.aj.length := by omega
      simp only [↓wR, RA, simprocAttr, TF, ae, h, hc]
      rw [g9]; refine ⟨fun ⟨h1, e1⟩ => ?_, fun ⟨h1, e1⟩ => ?_⟩
      · rw [if_pos e1] at hx
        simp only [↓wR, RA, simprocAttr, TF, ae, h1, g8, gx, gq]
        rw [hx]
      · rw [if_neg (by omega)] at hx
        simp only [↓wR, RA, simprocAttr, TF, ae, h1, hcs, hz, hi2, Wk]
        refine dw (fun r st' => r = .fh [] ∧ st' = bp [some (.row [.vl false 1 (z.origin.map (an.val false)), .vl false 5 (z.aj.map (aq.val false))] 0 2 26), some (.row [.vl false 1 (z.origin.map (an.val false)), .vl false 5 (z.aj.map (aq.val false)), .sc (.int .i64 (c0 ((fun _ s => ni s) i c) 261 e))] 0 2 180), some (.row [.vl false 1 (c.owner.map (an.val false)), .sc (.int .u16 c.type.toNat), .sc (.int .u16 c.cls.toNat), .sc (.int .u32 c.sr.toNat), .vl false 4 (c.data.map (cd.val false))] 0 2 40)]) rfl ?_ ?_
        · refine bq (T := [eb, dr, ga, jf, jc, jg, ib, kp, oa, ko]) ok mixed Tryz.func126 rfl (by kernel_rfl) (by kernel_rfl) (by kernel_rfl) (by kernel_rfl) ?_; unfold Tryz.f126
          simp only [↓wR, RA, simprocAttr, TF, ae, e1]
          rw [bk]; refine ⟨fun hn2 => ?_, fun hn2 => ?_⟩
          · have hb : ((fun _ s => ni s) i c) = false := by simpa only [Bool.not_eq_true'] using hn2
            have hv : c0 ((fun _ s => ni s) i c) 261 0 = 261 := by unfold c0; rw [if_pos ⟨rfl, hb⟩]
            simp only [↓wR, RA, simprocAttr, TF, ae, hn2, g8, gx, gq]
            try rw [hv]
          · have hb : ((fun _ s => ni s) i c) = true := by simpa only [Bool.not_eq_false'] using hn2
            have hv : c0 ((fun _ s => ni s) i c) 261 0 = 0 := by unfold c0; rw [if_neg (fun q => by rw [hb] at q; cases q.2)]
            simp only [↓wR, RA, simprocAttr, TF, ae, hn2, g8, gx, gq]
            try rw [hv]
        rintro _ _ ⟨rfl, rfl⟩
        simp only [↓wR, RA, simprocAttr, TF, ae, gm]; repeat (simp (disch := omega) only [ah, ca, cb, bz, b9]; try simp only [↓wR, RA, simprocAttr, TF, ae, gm])
        exact ⟨(i + 1, c0 ((fun _ s => ni s) i c) 261 e), ⟨hlt, hx⟩, by simp; omega, by (first | rfl | trivial | omega | ((try (simp (disch := omega) only [ah])); (try (simp only [FB])); first | done | rfl | omega)), by (first | rfl | trivial | omega | ((try (simp (disch := omega) only [ah])); (try (simp only [FB])); first | done | rfl | omega))⟩
    · rw [dv (decide_eq_false h)] at hx
      simp only [↓wR, RA, simprocAttr, TF, ae, h, g8, gx, gq]
      rw [hx]; rfl
  rintro _ _ ⟨rfl, rfl⟩
  rw [← he0]
  clear he0
  simp only [↓wR, RA, simprocAttr, TF, ae, gm]
  rw [show fm 261 (fun _ s => ni s) 0 z.aj (Ul z) = Rp z from rfl]
  obtain ⟨e0, he0⟩ : ∃ e0, Rp z = e0 := ⟨_, rfl⟩
  rw [he0]
  refine dw (fun r st' => r = .fh [] ∧ st' = bp [some (.row [.vl false 1 (z.origin.map (an.val false)), .vl false 5 (z.aj.map (aq.val false))] 0 2 26), some (.row [.vl false 1 (z.origin.map (an.val false)), .vl false 5 (z.aj.map (aq.val false)), .sc (.int .i64 (fm 262 (fun _ s => cw s.owner z.origin) 0 z.aj e0))] 0 2 180)]) rfl ?_ ?_
  · refine bq (T := [eb, dr, ga, jf, jc, jg, ib, kp, oa, ko]) ok mixed Tryz.func121 rfl (by kernel_rfl) (by kernel_rfl) (by kernel_rfl) (by kernel_rfl) ?_; unfold Tryz.f121
    simp only [↓wR, RA, simprocAttr, TF, ae]
    refine dh [0, 1, 2, 12, 13, 14] (fun (x : Nat × Int) => [.ptr 1 0, .sc (.int .i64 (262)), .fn (.func 124) [] [.ptr 0 0], .vl false 5 (z.aj.map (aq.val false)), .sc (.int .i64 (z.aj.length)), .sc (.int .i64 (x.1))]) (fun x => [some (.row [.vl false 1 (z.origin.map (an.val false)), .vl false 5 (z.aj.map (aq.val false))] 0 2 26), some (.row [.vl false 1 (z.origin.map (an.val false)), .vl false 5 (z.aj.map (aq.val false)), .sc (.int .i64 (x.2))] 0 2 180)]) (fun x => x.1 ≤ z.aj.length ∧ fm 262 (fun _ s => cw s.owner z.origin) 0 z.aj e0 = fm 262 (fun _ s => cw s.owner z.origin) x.1 (z.aj.drop x.1) x.2) (fun x => z.aj.length - x.1) (0, e0) ⟨Nat.zero_le _, rfl⟩ (by simp only [↓wR, RA, simprocAttr, TF, ae] <;> rfl) (by simp only [↓wR, RA, simprocAttr, TF, ae] <;> rfl) ?_
    rintro ⟨i, e⟩ ⟨hi, hx⟩
    simp only at hi hx
    simp only [↓wR, RA, simprocAttr, TF, ae]
    rw [bj]; refine ⟨fun h => ?_, fun h => ?_⟩
    · obtain ⟨c, hc, hd1, hlt⟩ := dt (decide_eq_true h)
      rw [tm hd1] at hx
      have hcs := hz.set c (List.mem_of_getElem? hc)
      have hi2 : (0 : Int) ≤ i ∧ (i : Int) ≤ z.aj.length := by omega
      simp only [↓wR, RA, simprocAttr, TF, ae, h, hc]
      rw [g9]; refine ⟨fun ⟨h1, e1⟩ => ?_, fun ⟨h1, e1⟩ => ?_⟩
      · rw [if_pos e1] at hx
        simp only [↓wR, RA, simprocAttr, TF, ae, h1, g8, gx, gq]
        rw [hx]
      · rw [if_neg (by omega)] at hx
        simp only [↓wR, RA, simprocAttr, TF, ae, h1, hcs, hz, hi2, D3]
        refine dw (fun r st' => r = .fh [] ∧ st' = bp [some (.row [.vl false 1 (z.origin.map (an.val false)), .vl false 5 (z.aj.map (aq.val false))] 0 2 26), some (.row [.vl false 1 (z.origin.map (an.val false)), .vl false 5 (z.aj.map (aq.val false)), .sc (.int .i64 (c0 ((fun _ s => cw s.owner z.origin) i c) 262 e))] 0 2 180), some (.row [.vl false 1 (c.owner.map (an.val false)), .sc (.int .u16 c.type.toNat), .sc (.int .u16 c.cls.toNat), .sc (.int .u32 c.sr.toNat), .vl false 4 (c.data.map (cd.val false))] 0 2 40)]) rfl ?_ ?_
        · refine bq (T := [eb, dr, ga, jf, jc, jg, ib, kp, oa, ko]) ok mixed Tryz.func126 rfl (by kernel_rfl) (by kernel_rfl) (by kernel_rfl) (by kernel_rfl) ?_; unfold Tryz.f126
          simp only [↓wR, RA, simprocAttr, TF, ae, e1]
          rw [bk]; refine ⟨fun hn2 => ?_, fun hn2 => ?_⟩
          · have hb : ((fun _ s => cw s.owner z.origin) i c) = false := by simpa only [Bool.not_eq_true'] using hn2
            have hv : c0 ((fun _ s => cw s.owner z.origin) i c) 262 0 = 262 := by unfold c0; rw [if_pos ⟨rfl, hb⟩]
            simp only [↓wR, RA, simprocAttr, TF, ae, hn2, g8, gx, gq]
            try rw [hv]
          · have hb : ((fun _ s => cw s.owner z.origin) i c) = true := by simpa only [Bool.not_eq_false'] using hn2
            have hv : c0 ((fun _ s => cw s.owner z.origin) i c) 262 0 = 0 := by unfold c0; rw [if_neg (fun q => by rw [hb] at q; cases q.2)]
            simp only [↓wR, RA, simprocAttr, TF, ae, hn2, g8, gx, gq]
            try rw [hv]
        rintro _ _ ⟨rfl, rfl⟩
        simp only [↓wR, RA, simprocAttr, TF, ae, gm]; repeat (simp (disch := omega) only [ah, ca, cb, bz, b9]; try simp only [↓wR, RA, simprocAttr, TF, ae, gm])
        exact ⟨(i + 1, c0 ((fun _ s => cw s.owner z.origin) i c) 262 e), ⟨hlt, hx⟩, by simp; omega, by (first | rfl | trivial | omega | ((try (simp (disch := omega) only [ah])); (try (simp only [FB])); first | done | rfl | omega)), by (first | rfl | trivial | omega | ((try (simp (disch := omega) only [ah])); (try (simp only [FB])); first | done | rfl | omega))⟩
    · rw [dv (decide_eq_false h)] at hx
      simp only [↓wR, RA, simprocAttr, TF, ae, h, g8, gx, gq]
      rw [hx]; rfl
  rintro _ _ ⟨rfl, rfl⟩
  rw [← he0]
  clear he0
  simp only [↓wR, RA, simprocAttr, TF, ae, gm, K9, hz]
  rw [show fm 262 (fun _ s => cw s.owner z.origin) 0 z.aj (Rp z) = qu z from rfl]
  rw [cy]; refine ⟨fun ⟨hs1, es1⟩ => ?_, fun ⟨hs1, es1⟩ => ?_⟩
  · simp only [↓wR, RA, simprocAttr, TF, ae, hs1]
    rw [show (((gh z).2 : Int) == 1) = (decide ((gh z).1 = 1) && decide ((gh z).2 = 1)) from by rw [decide_eq_true (show (gh z).1 = 1 by omega), Bool.true_and, Bool.eq_iff_iff]; simp; omega]
    refine dw (fun r st' => r = .fh [] ∧ st' = bp [some (.row [.vl false 1 (z.origin.map (an.val false)), .vl false 5 (z.aj.map (aq.val false))] 0 2 26), some (.row [.vl false 1 (z.origin.map (an.val false)), .vl false 5 (z.aj.map (aq.val false)), .sc (.int .i64 (c0 (decide ((gh z).1 = 1) && decide ((gh z).2 = 1)) 263 (qu z)))] 0 2 180)]) rfl ?_ ?_
    · refine bq (T := [eb, dr, ga, jf, jc, jg, ib, kp, oa, ko]) ok mixed Tryz.func126 rfl (by kernel_rfl) (by kernel_rfl) (by kernel_rfl) (by kernel_rfl) ?_; unfold Tryz.f126
      simp only [↓wR, RA, simprocAttr, TF, ae]
      rw [cy]; refine ⟨fun ⟨hn1, en1⟩ => ?_, fun ⟨hn1, en1⟩ => ?_⟩
      · simp only [↓wR, RA, simprocAttr, TF, ae, hn1]
        rw [bk]; refine ⟨fun hn2 => ?_, fun hn2 => ?_⟩
        · have hb : (decide ((gh z).1 = 1) && decide ((gh z).2 = 1)) = false := by simpa only [Bool.not_eq_true'] using hn2
          have hv : c0 (decide ((gh z).1 = 1) && decide ((gh z).2 = 1)) 263 (qu z) = 263 := by unfold c0; rw [if_pos ⟨en1, hb⟩]
          simp only [↓wR, RA, simprocAttr, TF, ae, hn1, hn2, g8, gx, gq]
          try rw [hv]
        · have hb : (decide ((gh z).1 = 1) && decide ((gh z).2 = 1)) = true := by simpa only [Bool.not_eq_false'] using hn2
          have hv : c0 (decide ((gh z).1 = 1) && decide ((gh z).2 = 1)) 263 (qu z) = qu z := by unfold c0; rw [if_neg (fun q => by rw [hb] at q; cases q.2)]
          simp only [↓wR, RA, simprocAttr, TF, ae, hn1, hn2, g8, gx, gq]
          try rw [hv]
      · have hv : c0 (decide ((gh z).1 = 1) && decide ((gh z).2 = 1)) 263 (qu z) = qu z := by unfold c0; rw [if_neg (fun q => en1 q.1)]
        simp only [↓wR, RA, simprocAttr, TF, ae, hn1, g8, gx, gq]
        try rw [hv]
    rintro _ _ ⟨rfl, rfl⟩
    rw [show c0 (decide ((gh z).1 = 1) && decide ((gh z).2 = 1)) 263 (qu z) = me z from rfl]
    simp only [↓wR, RA, simprocAttr, TF, ae, gm]
    refine bq (T := []) (ak.nil PP) mixed Tryz.func127 rfl (by kernel_rfl) (by kernel_rfl) (by kernel_rfl) (by kernel_rfl) ?_; unfold Tryz.f127
    simp only [↓wR, RA, simprocAttr, TF, ae]
    refine ⟨[1, 3, 6, 45], ?_⟩
    have hib : tn PP 154 = some (Tryz.f154.ntmps, Tryz.f154.body.getD .skip) := by kernel_rfl
    simp only [↓wR, RA, simprocAttr, TF, ae, hib]
    refine ⟨by kernel_rfl, fun l => ?_⟩
    unfold Tryz.f154
    simp only [↓wR, RA, simprocAttr, TF, ae]
    refine E4 [0, 2, 7, 8, 9] (fun (x : Nat × Bool) => [.sc (.func (.yield l) #[] #[]), .ptr 4 0, .vl false 5 (z.aj.map (aq.val false)), .sc (.int .i64 (z.aj.length)), .sc (.int .i64 (x.1))]) (fun x => [some (.row [.vl false 1 (z.origin.map (an.val false)), .vl false 5 (z.aj.map (aq.val false))] 0 2 26), some (.row [.vl false 1 (z.origin.map (an.val false)), .vl false 5 (z.aj.map (aq.val false)), .sc (.int .i64 (me z))] 0 2 180), some (.row [.sc (.bool (x.2))] 0 2 4), some (.row [.vl false 1 (z.origin.map (an.val false)), .vl false 5 (z.aj.map (aq.val false))] 0 2 26), some (.row [.sc (.int .u16 2)] 0 2 28)]) (fun x => x.1 ≤ z.aj.length ∧ gu z = (x.2 || Ic z (z.aj.drop x.1))) (fun x => z.aj.length - x.1) (0, false) ⟨Nat.zero_le _, by rw [Bool.false_or]; rfl⟩ (by simp only [↓wR, RA, simprocAttr, TF, ae] <;> rfl) (by simp only [↓wR, RA, simprocAttr, TF, ae] <;> rfl) ?_
    rintro ⟨i, b⟩ ⟨hi, hx⟩
    simp only at hi hx
    simp only [↓wR, RA, simprocAttr, TF, ae]
    rw [sf]; refine ⟨fun h => ?_, fun h => ?_⟩
    · obtain ⟨c, hc, hd1, hlt⟩ := dt h
      have hcs := hz.set c (List.mem_of_getElem? hc)
      rw [abw hd1] at hx
      simp only [↓wR, RA, simprocAttr, TF, ae, h, hc]
      rw [sf]; refine ⟨fun h2 => ?_, fun h2 => ?_⟩
      · have e2 : (c.type.toNat : Int) = 2 := by simpa using h2
        rw [decide_eq_true e2, Bool.true_and] at hx
        simp only [↓wR, RA, simprocAttr, TF, ae, h2]
        refine v7 [0, 2, 7, 8, 9, 17, 19] ?_
        simp only [↓wR, RA, simprocAttr, TF, ae, wo, mo]
        cases b with
        | true =>
          simp only [↓wR, RA, simprocAttr, TF, ae]; repeat (simp (disch := omega) only [ah, ca, cb, bz, b9]; try simp only [↓wR, RA, simprocAttr, TF, ae])
          exact ⟨(i + 1, true), ⟨hlt, by rw [hx]; rfl⟩, by simp; omega, by (first | rfl | trivial | omega | ((try (simp (disch := omega) only [ah])); (try (simp only [FB])); first | done | rfl | omega)), by (first | rfl | trivial | omega | ((try (simp (disch := omega) only [ah])); (try (simp only [FB])); first | done | rfl | omega))⟩
        | false =>
          simp only [↓wR, RA, simprocAttr, TF, ae, ia, hcs.owner, hz.origin]; repeat (simp (disch := omega) only [ah, ca, cb, bz, b9]; try simp only [↓wR, RA, simprocAttr, TF, ae, ia, hcs.owner, hz.origin])
          exact ⟨(i + 1, ee c.owner z.origin), ⟨hlt, by rw [hx, Bool.false_or]⟩, by simp; omega, by (first | rfl | trivial | omega | ((try (simp (disch := omega) only [ah])); (try (simp only [FB])); first | done | rfl | omega)), by (first | rfl | trivial | omega | ((try (simp (disch := omega) only [ah])); (try (simp only [FB])); first | done | rfl | omega))⟩
      · have e2 : ¬ (c.type.toNat : Int) = 2 := by simpa using h2
        rw [decide_eq_false e2, Bool.false_and, Bool.false_or] at hx
        simp only [↓wR, RA, simprocAttr, TF, ae, h2]; repeat (simp (disch := omega) only [ah, ca, cb, bz, b9]; try simp only [↓wR, RA, simprocAttr, TF, ae, h2])
        exact ⟨(i + 1, b), ⟨hlt, hx⟩, by simp; omega, by (first | rfl | trivial | omega | ((try (simp (disch := omega) only [ah])); (try (simp only [FB])); first | done | rfl | omega)), by (first | rfl | trivial | omega | ((try (simp (disch := omega) only [ah])); (try (simp only [FB])); first | done | rfl | omega))⟩
    rw [dv h] at hx
    have hb : b = gu z := by rw [hx]; simp [Ic]
    simp only [↓wR, RA, simprocAttr, TF, ae, h]
    rw [hb]
    clear h hx hb
    refine dw (fun r st' => r = .fh [] ∧ st' = bp [some (.row [.vl false 1 (z.origin.map (an.val false)), .vl false 5 (z.aj.map (aq.val false))] 0 2 26), some (.row [.vl false 1 (z.origin.map (an.val false)), .vl false 5 (z.aj.map (aq.val false)), .sc (.int .i64 (c0 (gu z) 264 (me z)))] 0 2 180), some (.row [.sc (.bool (gu z))] 0 2 4), some (.row [.vl false 1 (z.origin.map (an.val false)), .vl false 5 (z.aj.map (aq.val false))] 0 2 26), some (.row [.sc (.int .u16 2)] 0 2 28)]) rfl ?_ ?_
    · refine bq (T := [eb, dr, ga, jf, jc, jg, ib, kp, oa, ko]) ok mixed Tryz.func126 rfl (by kernel_rfl) (by kernel_rfl) (by kernel_rfl) (by kernel_rfl) ?_; unfold Tryz.f126
      simp only [↓wR, RA, simprocAttr, TF, ae]
      rw [cy]; refine ⟨fun ⟨hn1, en1⟩ => ?_, fun ⟨hn1, en1⟩ => ?_⟩
      · simp only [↓wR, RA, simprocAttr, TF, ae, hn1]
        rw [bk]; refine ⟨fun hn2 => ?_, fun hn2 => ?_⟩
        · have hb : (gu z) = false := by simpa only [Bool.not_eq_true'] using hn2
          have hv : c0 (gu z) 264 (me z) = 264 := by unfold c0; rw [if_pos ⟨en1, hb⟩]
          simp only [↓wR, RA, simprocAttr, TF, ae, hn1, hn2, g8, gx, gq]
          try rw [hv]
        · have hb : (gu z) = true := by simpa only [Bool.not_eq_false'] using hn2
          have hv : c0 (gu z) 264 (me z) = me z := by unfold c0; rw [if_neg (fun q => by rw [hb] at q; cases q.2)]
          simp only [↓wR, RA, simprocAttr, TF, ae, hn1, hn2, g8, gx, gq]
          try rw [hv]
      · have hv : c0 (gu z) 264 (me z) = me z := by unfold c0; rw [if_neg (fun q => en1 q.1)]
        simp only [↓wR, RA, simprocAttr, TF, ae, hn1, g8, gx, gq]
        try rw [hv]
    rintro _ _ ⟨rfl, rfl⟩
    rw [show c0 (gu z) 264 (me z) = Dn z from rfl]
    simp only [↓wR, RA, simprocAttr, TF, ae, gm]
    obtain ⟨e0, he0⟩ : ∃ e0, Dn z = e0 := ⟨_, rfl⟩
    rw [he0]
    refine dw (fun r st' => r = .fh [] ∧ st' = bp [some (.row [.vl false 1 (z.origin.map (an.val false)), .vl false 5 (z.aj.map (aq.val false))] 0 2 26), some (.row [.vl false 1 (z.origin.map (an.val false)), .vl false 5 (z.aj.map (aq.val false)), .sc (.int .i64 (fm 265 (iy z) 0 z.aj e0))] 0 2 180), some (.row [.sc (.bool (gu z))] 0 2 4), some (.row [.vl false 1 (z.origin.map (an.val false)), .vl false 5 (z.aj.map (aq.val false))] 0 2 26), some (.row [.sc (.int .u16 2)] 0 2 28)]) rfl ?_ ?_
    · refine bq (T := [eb, dr, ga, jf, jc, jg, ib, kp, oa, ko]) ok mixed Tryz.func121 rfl (by kernel_rfl) (by kernel_rfl) (by kernel_rfl) (by kernel_rfl) ?_; unfold Tryz.f121
      simp only [↓wR, RA, simprocAttr, TF, ae]
      refine dh [0, 1, 2, 12, 13, 14] (fun (x : Nat × Int) => [.ptr 1 0, .sc (.int .i64 (265)), .fn (.func 128) [.ptr 1 0] [], .vl false 5 (z.aj.map (aq.val false)), .sc (.int .i64 (z.aj.length)), .sc (.int .i64 (x.1))]) (fun x => [some (.row [.vl false 1 (z.origin.map (an.val false)), .vl false 5 (z.aj.map (aq.val false))] 0 2 26), some (.row [.vl false 1 (z.origin.map (an.val false)), .vl false 5 (z.aj.map (aq.val false)), .sc (.int .i64 (x.2))] 0 2 180), some (.row [.sc (.bool (gu z))] 0 2 4), some (.row [.vl false 1 (z.origin.map (an.val false)), .vl false 5 (z.aj.map (aq.val false))] 0 2 26), some (.row [.sc (.int .u16 2)] 0 2 28)]) (fun x => x.1 ≤ z.aj.length ∧ fm 265 (iy z) 0 z.aj e0 = fm 265 (iy z) x.1 (z.aj.drop x.1) x.2) (fun x => z.aj.length - x.1) (0, e0) ⟨Nat.zero_le _, rfl⟩ (by simp only [↓wR, RA, simprocAttr, TF, ae] <;> rfl) (by simp only [↓wR, RA, simprocAttr, TF, ae] <;> rfl) ?_
      rintro ⟨i, e⟩ ⟨hi, hx⟩
      simp only at hi hx
      simp only [↓wR, RA, simprocAttr, TF, ae]
      rw [bj]; refine ⟨fun h => ?_, fun h => ?_⟩
      · obtain ⟨c, hc, hd1, hlt⟩ := dt (decide_eq_true h)
        rw [tm hd1] at hx
        have hcs := hz.set c (List.mem_of_getElem? hc)
        have hi2 : (0 : Int) ≤ i ∧ (i : Int) ≤ z.aj.length := by omega
        simp only [↓wR, RA, simprocAttr, TF, ae, h, hc]
        rw [g9]; refine ⟨fun ⟨h1, e1⟩ => ?_, fun ⟨h1, e1⟩ => ?_⟩
        · rw [if_pos e1] at hx
          simp only [↓wR, RA, simprocAttr, TF, ae, h1, g8, gx, gq]
          rw [hx]
        · rw [if_neg (by omega)] at hx
          simp only [↓wR, RA, simprocAttr, TF, ae, h1, hcs, hz, hi2, Db]
          refine dw (fun r st' => r = .fh [] ∧ st' = bp [some (.row [.vl false 1 (z.origin.map (an.val false)), .vl false 5 (z.aj.map (aq.val false))] 0 2 26), some (.row [.vl false 1 (z.origin.map (an.val false)), .vl false 5 (z.aj.map (aq.val false)), .sc (.int .i64 (c0 ((iy z) i c) 265 e))] 0 2 180), some (.row [.sc (.bool (gu z))] 0 2 4), some (.row [.vl false 1 (z.origin.map (an.val false)), .vl false 5 (z.aj.map (aq.val false))] 0 2 26), some (.row [.sc (.int .u16 2)] 0 2 28), some (.row [.vl false 1 (c.owner.map (an.val false)), .sc (.int .u16 c.type.toNat), .sc (.int .u16 c.cls.toNat), .sc (.int .u32 c.sr.toNat), .vl false 4 (c.data.map (cd.val false))] 0 2 40)]) rfl ?_ ?_
          · refine bq (T := [eb, dr, ga, jf, jc, jg, ib, kp, oa, ko]) ok mixed Tryz.func126 rfl (by kernel_rfl) (by kernel_rfl) (by kernel_rfl) (by kernel_rfl) ?_; unfold Tryz.f126
            simp only [↓wR, RA, simprocAttr, TF, ae, e1]
            rw [bk]; refine ⟨fun hn2 => ?_, fun hn2 => ?_⟩
            · have hb : ((iy z) i c) = false := by simpa only [Bool.not_eq_true'] using hn2
              have hv : c0 ((iy z) i c) 265 0 = 265 := by unfold c0; rw [if_pos ⟨rfl, hb⟩]
              simp only [↓wR, RA, simprocAttr, TF, ae, hn2, g8, gx, gq]
              try rw [hv]
            · have hb : ((iy z) i c) = true := by simpa only [Bool.not_eq_false'] using hn2
              have hv : c0 ((iy z) i c) 265 0 = 0 := by unfold c0; rw [if_neg (fun q => by rw [hb] at q; cases q.2)]
              simp only [↓wR, RA, simprocAttr, TF, ae, hn2, g8, gx, gq]
              try rw [hv]
          rintro _ _ ⟨rfl, rfl⟩
          simp only [↓wR, RA, simprocAttr, TF, ae, gm]; repeat (simp (disch := omega) only [ah, ca, cb, bz, b9]; try simp only [↓wR, RA, simprocAttr, TF, ae, gm])
          exact ⟨(i + 1, c0 ((iy z) i c) 265 e), ⟨hlt, hx⟩, by simp; omega, by (first | rfl | trivial | omega | ((try (simp (disch := omega) only [ah])); (try (simp only [FB])); first | done | rfl | omega)), by (first | rfl | trivial | omega | ((try (simp (disch := omega) only [ah])); (try (simp only [FB])); first | done | rfl | omega))⟩
      · rw [dv (decide_eq_false h)] at hx
        simp only [↓wR, RA, simprocAttr, TF, ae, h, g8, gx, gq]
        rw [hx]; rfl
    rintro _ _ ⟨rfl, rfl⟩
    rw [← he0]
    clear he0
    simp only [↓wR, RA, simprocAttr, TF, ae, gm]
    rw [show fm 265 (iy z) 0 z.aj (Dn z) = Ea z from rfl]
    obtain ⟨e0, he0⟩ : ∃ e0, Ea z = e0 := ⟨_, rfl⟩
    rw [he0]
    refine dw (fun r st' => r = .fh [] ∧ st' = bp [some (.row [.vl false 1 (z.origin.map (an.val false)), .vl false 5 (z.aj.map (aq.val false))] 0 2 26), some (.row [.vl false 1 (z.origin.map (an.val false)), .vl false 5 (z.aj.map (aq.val false)), .sc (.int .i64 (fm 266 (fun _ s => ky s) 0 z.aj e0))] 0 2 180), some (.row [.sc (.bool (gu z))] 0 2 4), some (.row [.vl false 1 (z.origin.map (an.val false)), .vl false 5 (z.aj.map (aq.val false))] 0 2 26), some (.row [.sc (.int .u16 2)] 0 2 28)]) rfl ?_ ?_
    · refine bq (T := [eb, dr, ga, jf, jc, jg, ib, kp, oa, ko]) ok mixed Tryz.func121 rfl (by kernel_rfl) (by kernel_rfl) (by kernel_rfl) (by kernel_rfl) ?_; unfold Tryz.f121
      simp only [↓wR, RA, simprocAttr, TF, ae]
      refine dh [0, 1, 2, 12, 13, 14] (fun (x : Nat × Int) => [.ptr 1 0, .sc (.int .i64 (266)), .sc (.func (.func 129) #[] #[]), .vl false 5 (z.aj.map (aq.val false)), .sc (.int .i64 (z.aj.length)), .sc (.int .i64 (x.1))]) (fun x => [some (.row [.vl false 1 (z.origin.map (an.val false)), .vl false 5 (z.aj.map (aq.val false))] 0 2 26), some (.row [.vl false 1 (z.origin.map (an.val false)), .vl false 5 (z.aj.map (aq.val false)), .sc (.int .i64 (x.2))] 0 2 180), some (.row [.sc (.bool (gu z))] 0 2 4), some (.row [.vl false 1 (z.origin.map (an.val false)), .vl false 5 (z.aj.map (aq.val false))] 0 2 26), some (.row [.sc (.int .u16 2)] 0 2 28)]) (fun x => x.1 ≤ z.aj.length ∧ fm 266 (fun _ s => ky s) 0 z.aj e0 = fm 266 (fun _ s => ky s) x.1 (z.aj.drop x.1) x.2) (fun x => z.aj.length - x.1) (0, e0) ⟨Nat.zero_le _, rfl⟩ (by simp only [↓wR, RA, simprocAttr, TF, ae] <;> rfl) (by simp only [↓wR, RA, simprocAttr, TF, ae] <;> rfl) ?_
      rintro ⟨i, e⟩ ⟨hi, hx⟩
      simp only at hi hx
      simp only [↓wR, RA, simprocAttr, TF, ae]
      rw [bj]; refine ⟨fun h => ?_, fun h => ?_⟩
      · obtain ⟨c, hc, hd1, hlt⟩ := dt (decide_eq_true h)
        rw [tm hd1] at hx
        have hcs := hz.set c (List.mem_of_getElem? hc)
        have hi2 : (0 : Int) ≤ i ∧ (i : Int) ≤ z.aj.length := by omega
        simp only [↓wR, RA, simprocAttr, TF, ae, h, hc]
        rw [g9]; refine ⟨fun ⟨h1, e1⟩ => ?_, fun ⟨h1, e1⟩ => ?_⟩
        · rw [if_pos e1] at hx
          simp only [↓wR, RA, simprocAttr, TF, ae, h1, g8, gx, gq]
          rw [hx]
        · rw [if_neg (by omega)] at hx
          simp only [↓wR, RA, simprocAttr, TF, ae, h1, hcs, hz, hi2, Gn]
          refine dw (fun r st' => r = .fh [] ∧ st' = bp [some (.row [.vl false 1 (z.origin.map (an.val false)), .vl false 5 (z.aj.map (aq.val false))] 0 2 26), some (.row [.vl false 1 (z.origin.map (an.val false)), .vl false 5 (z.aj.map (aq.val false)), .sc (.int .i64 (c0 ((fun _ s => ky s) i c) 266 e))] 0 2 180), some (.row [.sc (.bool (gu z))] 0 2 4), some (.row [.vl false 1 (z.origin.map (an.val false)), .vl false 5 (z.aj.map (aq.val false))] 0 2 26), some (.row [.sc (.int .u16 2)] 0 2 28), some (.row [.vl false 1 (c.owner.map (an.val false)), .sc (.int .u16 c.type.toNat), .sc (.int .u16 c.cls.toNat), .sc (.int .u32 c.sr.toNat), .vl false 4 (c.data.map (cd.val false))] 0 2 40)]) rfl ?_ ?_
          · refine bq (T := [eb, dr, ga, jf, jc, jg, ib, kp, oa, ko]) ok mixed Tryz.func126 rfl (by kernel_rfl) (by kernel_rfl) (by kernel_rfl) (by kernel_rfl) ?_; unfold Tryz.f126
            simp only [↓wR, RA, simprocAttr, TF, ae, e1]
            rw [bk]; refine ⟨fun hn2 => ?_, fun hn2 => ?_⟩
            · have hb : ((fun _ s => ky s) i c) = false := by simpa only [Bool.not_eq_true'] using hn2
              have hv : c0 ((fun _ s => ky s) i c) 266 0 = 266 := by unfold c0; rw [if_pos ⟨rfl, hb⟩]
              simp only [↓wR, RA, simprocAttr, TF, ae, hn2, g8, gx, gq]
              try rw [hv]
            · have hb : ((fun _ s => ky s) i c) = true := by simpa only [Bool.not_eq_false'] using hn2
              have hv : c0 ((fun _ s => ky s) i c) 266 0 = 0 := by unfold c0; rw [if_neg (fun q => by rw [hb] at q; cases q.2)]
              simp only [↓wR, RA, simprocAttr, TF, ae, hn2, g8, gx, gq]
              try rw [hv]
          rintro _ _ ⟨rfl, rfl⟩
          simp only [↓wR, RA, simprocAttr, TF, ae, gm]; repeat (simp (disch := omega) only [ah, ca, cb, bz, b9]; try simp only [↓wR, RA, simprocAttr, TF, ae, gm])
          exact ⟨(i + 1, c0 ((fun _ s => ky s) i c) 266 e), ⟨hlt, hx⟩, by simp; omega, by (first | rfl | trivial | omega | ((try (simp (disch := omega) only [ah])); (try (simp only [FB])); first | done | rfl | omega)), by (first | rfl | trivial | omega | ((try (simp (disch := omega) only [ah])); (try (simp only [FB])); first | done | rfl | omega))⟩
      · rw [dv (decide_eq_false h)] at hx
        simp only [↓wR, RA, simprocAttr, TF, ae, h, g8, gx, gq]
        rw [hx]; rfl
    rintro _ _ ⟨rfl, rfl⟩
    rw [← he0]
    clear he0
    simp only [↓wR, RA, simprocAttr, TF, ae, gm]
    rw [show fm 266 (fun _ s => ky s) 0 z.aj (Ea z) = Mc z from rfl]
    obtain ⟨e0, he0⟩ : ∃ e0, Mc z = e0 := ⟨_, rfl⟩
    rw [he0]
    refine dw (fun r st' => r = .fh [] ∧ st' = bp [some (.row [.vl false 1 (z.origin.map (an.val false)), .vl false 5 (z.aj.map (aq.val false))] 0 2 26), some (.row [.vl false 1 (z.origin.map (an.val false)), .vl false 5 (z.aj.map (aq.val false)), .sc (.int .i64 (fm 267 (fun _ s => pg z s) 0 z.aj e0))] 0 2 180), some (.row [.sc (.bool (gu z))] 0 2 4), some (.row [.vl false 1 (z.origin.map (an.val false)), .vl false 5 (z.aj.map (aq.val false))] 0 2 26), some (.row [.sc (.int .u16 2)] 0 2 28)]) rfl ?_ ?_
    · refine bq (T := [eb, dr, ga, jf, jc, jg, ib, kp, oa, ko]) ok mixed Tryz.func121 rfl (by kernel_rfl) (by kernel_rfl) (by kernel_rfl) (by kernel_rfl) ?_; unfold Tryz.f121
      simp only [↓wR, RA, simprocAttr, TF, ae]
      refine dh [0, 1, 2, 12, 13, 14] (fun (x : Nat × Int) => [.ptr 1 0, .sc (.int .i64 (267)), .fn (.func 130) [] [.ptr 0 0], .vl false 5 (z.aj.map (aq.val false)), .sc (.int .i64 (z.aj.length)), .sc (.int .i64 (x.1))]) (fun x => [some (.row [.vl false 1 (z.origin.map (an.val false)), .vl false 5 (z.aj.map (aq.val false))] 0 2 26), some (.row [.vl false 1 (z.origin.map (an.val false)), .vl false 5 (z.aj.map (aq.val false)), .sc (.int .i64 (x.2))] 0 2 180), some (.row [.sc (.bool (gu z))] 0 2 4), some (.row [.vl false 1 (z.origin.map (an.val false)), .vl false 5 (z.aj.map (aq.val false))] 0 2 26), some (.row [.sc (.int .u16 2)] 0 2 28)]) (fun x => x.1 ≤ z.aj.length ∧ fm 267 (fun _ s => pg z s) 0 z.aj e0 = fm 267 (fun _ s => pg z s) x.1 (z.aj.drop x.1) x.2) (fun x => z.aj.length - x.1) (0, e0) ⟨Nat.zero_le _, rfl⟩ (by simp only [↓wR, RA, simprocAttr, TF, ae] <;> rfl) (by simp only [↓wR, RA, simprocAttr, TF, ae] <;> rfl) ?_
      rintro ⟨i, e⟩ ⟨hi, hx⟩
      simp only at hi hx
      simp only [↓wR, RA, simprocAttr, TF, ae]
      rw [bj]; refine ⟨fun h => ?_, fun h => ?_⟩
      · obtain ⟨c, hc, hd1, hlt⟩ := dt (decide_eq_true h)
        rw [tm hd1] at hx
        have hcs := hz.set c (List.mem_of_getElem? hc)
        have hi2 : (0 : Int) ≤ i ∧ (i : Int) ≤ z.aj.length := by omega
        simp only [↓wR, RA, simprocAttr, TF, ae, h, hc]
        rw [g9]; refine ⟨fun ⟨h1, e1⟩ => ?_, fun ⟨h1, e1⟩ => ?_⟩
        · rw [if_pos e1] at hx
          simp only [↓wR, RA, simprocAttr, TF, ae, h1, g8, gx, gq]
          rw [hx]
        · rw [if_neg (by omega)] at hx
          simp only [↓wR, RA, simprocAttr, TF, ae, h1, hcs, hz, hi2, Nc]
          refine dw (fun r st' => r = .fh [] ∧ st' = bp [some (.row [.vl false 1 (z.origin.map (an.val false)), .vl false 5 (z.aj.map (aq.val false))] 0 2 26), some (.row [.vl false 1 (z.origin.map (an.val false)), .vl false 5 (z.aj.map (aq.val false)), .sc (.int .i64 (c0 ((fun _ s => pg z s) i c) 267 e))] 0 2 180), some (.row [.sc (.bool (gu z))] 0 2 4), some (.row [.vl false 1 (z.origin.map (an.val false)), .vl false 5 (z.aj.map (aq.val false))] 0 2 26), some (.row [.sc (.int .u16 2)] 0 2 28), some (.row [.vl false 1 (c.owner.map (an.val false)), .sc (.int .u16 c.type.toNat), .sc (.int .u16 c.cls.toNat), .sc (.int .u32 c.sr.toNat), .vl false 4 (c.data.map (cd.val false))] 0 2 40)]) rfl ?_ ?_
          · refine bq (T := [eb, dr, ga, jf, jc, jg, ib, kp, oa, ko]) ok mixed Tryz.func126 rfl (by kernel_rfl) (by kernel_rfl) (by kernel_rfl) (by kernel_rfl) ?_; unfold Tryz.f126
            simp only [↓wR, RA, simprocAttr, TF, ae, e1]
            rw [bk]; refine ⟨fun hn2 => ?_, fun hn2 => ?_⟩
            · have hb : ((fun _ s => pg z s) i c) = false := by simpa only [Bool.not_eq_true'] using hn2
              have hv : c0 ((fun _ s => pg z s) i c) 267 0 = 267 := by unfold c0; rw [if_pos ⟨rfl, hb⟩]
              simp only [↓wR, RA, simprocAttr, TF, ae, hn2, g8, gx, gq]
              try rw [hv]
            · have hb : ((fun _ s => pg z s) i c) = true := by simpa only [Bool.not_eq_false'] using hn2
              have hv : c0 ((fun _ s => pg z s) i c) 267 0 = 0 := by unfold c0; rw [if_neg (fun q => by rw [hb] at q; cases q.2)]
              simp only [↓wR, RA, simprocAttr, TF, ae, hn2, g8, gx, gq]
              try rw [hv]
          rintro _ _ ⟨rfl, rfl⟩
          simp only [↓wR, RA, simprocAttr, TF, ae, gm]; repeat (simp (disch := omega) only [ah, ca, cb, bz, b9]; try simp only [↓wR, RA, simprocAttr, TF, ae, gm])
          exact ⟨(i + 1, c0 ((fun _ s => pg z s) i c) 267 e), ⟨hlt, hx⟩, by simp; omega, by (first | rfl | trivial | omega | ((try (simp (disch := omega) only [ah])); (try (simp only [FB])); first | done | rfl | omega)), by (first | rfl | trivial | omega | ((try (simp (disch := omega) only [ah])); (try (simp only [FB])); first | done | rfl | omega))⟩
      · rw [dv (decide_eq_false h)] at hx
        simp only [↓wR, RA, simprocAttr, TF, ae, h, g8, gx, gq]
        rw [hx]; rfl
    rintro _ _ ⟨rfl, rfl⟩
    rw [← he0]
    clear he0
    simp only [↓wR, RA, simprocAttr, TF, ae, gm]
    rfl
  · simp only [↓wR, RA, simprocAttr, TF, ae, hs1]
    have hbf : (decide ((gh z).1 = 1) && decide ((gh z).2 = 1)) = false := by rw [decide_eq_false (show ¬ (gh z).1 = 1 by omega), Bool.false_and]
    refine dw (fun r st' => r = .fh [] ∧ st' = bp [some (.row [.vl false 1 (z.origin.map (an.val false)), .vl false 5 (z.aj.map (aq.val false))] 0 2 26), some (.row [.vl false 1 (z.origin.map (an.val false)), .vl false 5 (z.aj.map (aq.val false)), .sc (.int .i64 (c0 (decide ((gh z).1 = 1) && decide ((gh z).2 = 1)) 263 (qu z)))] 0 2 180)]) rfl ?_ ?_
    · refine bq (T := [eb, dr, ga, jf, jc, jg, ib, kp, oa, ko]) ok mixed Tryz.func126 rfl (by kernel_rfl) (by kernel_rfl) (by kernel_rfl) (by kernel_rfl) ?_; unfold Tryz.f126
      simp only [↓wR, RA, simprocAttr, TF, ae]
      rw [cy]; refine ⟨fun ⟨hn1, en1⟩ => ?_, fun ⟨hn1, en1⟩ => ?_⟩
      · have hv : c0 (decide ((gh z).1 = 1) && decide ((gh z).2 = 1)) 263 (qu z) = 263 := by unfold c0; rw [if_pos ⟨en1, hbf⟩]
        simp only [↓wR, RA, simprocAttr, TF, ae, hn1, g8, gx, gq]
        try rw [hv]
      · have hv : c0 (decide ((gh z).1 = 1) && decide ((gh z).2 = 1)) 263 (qu z) = qu z := by unfold c0; rw [if_neg (fun q => en1 q.1)]
        simp only [↓wR, RA, simprocAttr, TF, ae, hn1, g8, gx, gq]
        try rw [hv]
    rintro _ _ ⟨rfl, rfl⟩
    rw [show c0 (decide ((gh z).1 = 1) && decide ((gh z).2 = 1)) 263 (qu z) = me z from rfl]
    simp only [↓wR, RA, simprocAttr, TF, ae, gm]
    refine bq (T := []) (ak.nil PP) mixed Tryz.func127 rfl (by kernel_rfl) (by kernel_rfl) (by kernel_rfl) (by kernel_rfl) ?_; unfold Tryz.f127
    simp only [↓wR, RA, simprocAttr, TF, ae]
    refine ⟨[1, 3, 6, 45], ?_⟩
    have hib : tn PP 154 = some (Tryz.f154.ntmps, Tryz.f154.body.getD .skip) := by kernel_rfl
    simp only [↓wR, RA, simprocAttr, TF, ae, hib]
    refine ⟨by kernel_rfl, fun l => ?_⟩
    unfold Tryz.f154
    simp only [↓wR, RA, simprocAttr, TF, ae]
    refine E4 [0, 2, 7, 8, 9] (fun (x : Nat × Bool) => [.sc (.func (.yield l) #[] #[]), .ptr 4 0, .vl false 5 (z.aj.map (aq.val false)), .sc (.int .i64 (z.aj.length)), .sc (.int .i64 (x.1))]) (fun x => [some (.row [.vl false 1 (z.origin.map (an.val false)), .vl false 5 (z.aj.map (aq.val false))] 0 2 26), some (.row [.vl false 1 (z.origin.map (an.val false)), .vl false 5 (z.aj.map (aq.val false)), .sc (.int .i64 (me z))] 0 2 180), some (.row [.sc (.bool (x.2))] 0 2 4), some (.row [.vl false 1 (z.origin.map (an.val false)), .vl false 5 (z.aj.map (aq.val false))] 0 2 26), some (.row [.sc (.int .u16 2)] 0 2 28)]) (fun x => x.1 ≤ z.aj.length ∧ gu z = (x.2 || Ic z (z.aj.drop x.1))) (fun x => z.aj.length - x.1) (0, false) ⟨Nat.zero_le _, by rw [Bool.false_or]; rfl⟩ (by simp only [↓wR, RA, simprocAttr, TF, ae] <;> rfl) (by simp only [↓wR, RA, simprocAttr, TF, ae] <;> rfl) ?_
    rintro ⟨i, b⟩ ⟨hi, hx⟩
    simp only at hi hx
    simp only [↓wR, RA, simprocAttr, TF, ae]
    rw [sf]; refine ⟨fun h => ?_, fun h => ?_⟩
    · obtain ⟨c, hc, hd1, hlt⟩ := dt h
      have hcs := hz.set c (List.mem_of_getElem? hc)
      rw [abw hd1] at hx
      simp only [↓wR, RA, simprocAttr, TF, ae, h, hc]
      rw [sf]; refine ⟨fun h2 => ?_, fun h2 => ?_⟩
      · have e2 : (c.type.toNat : Int) = 2 := by simpa using h2
        rw [decide_eq_true e2, Bool.true_and] at hx
        simp only [↓wR, RA, simprocAttr, TF, ae, h2]
        refine v7 [0, 2, 7, 8, 9, 17, 19] ?_
        simp only [↓wR, RA, simprocAttr, TF, ae, wo, mo]
        cases b with
        | true =>
          simp only [↓wR, RA, simprocAttr, TF, ae]; repeat (simp (disch := omega) only [ah, ca, cb, bz, b9]; try simp only [↓wR, RA, simprocAttr, TF, ae])
          exact ⟨(i + 1, true), ⟨hlt, by rw [hx]; rfl⟩, by simp; omega, by (first | rfl | trivial | omega | ((try (simp (disch := omega) only [ah])); (try (simp only [FB])); first | done | rfl | omega)), by (first | rfl | trivial | omega | ((try (simp (disch := omega) only [ah])); (try (simp only [FB])); first | done | rfl | omega))⟩
        | false =>
          simp only [↓wR, RA, simprocAttr, TF, ae, ia, hcs.owner, hz.origin]; repeat (simp (disch := omega) only [ah, ca, cb, bz, b9]; try simp only [↓wR, RA, simprocAttr, TF, ae, ia, hcs.owner, hz.origin])
          exact ⟨(i + 1, ee c.owner z.origin), ⟨hlt, by rw [hx, Bool.false_or]⟩, by simp; omega, by (first | rfl | trivial | omega | ((try (simp (disch := omega) only [ah])); (try (simp only [FB])); first | done | rfl | omega)), by (first | rfl | trivial | omega | ((try (simp (disch := omega) only [ah])); (try (simp only [FB])); first | done | rfl | omega))⟩
      · have e2 : ¬ (c.type.toNat : Int) = 2 := by simpa using h2
        rw [decide_eq_false e2, Bool.false_and, Bool.false_or] at hx
        simp only [↓wR, RA, simprocAttr, TF, ae, h2]; repeat (simp (disch := omega) only [ah, ca, cb, bz, b9]; try simp only [↓wR, RA, simprocAttr, TF, ae, h2])
        exact ⟨(i + 1, b), ⟨hlt, hx⟩, by simp; omega, by (first | rfl | trivial | omega | ((try (simp (disch := omega) only [ah])); (try (simp only [FB])); first | done | rfl | omega)), by (first | rfl | trivial | omega | ((try (simp (disch := omega) only [ah])); (try (simp only [FB])); first | done | rfl | omega))⟩
    rw [dv h] at hx
    have hb : b = gu z := by rw [hx]; simp [Ic]
    simp only [↓wR, RA, simprocAttr, TF, ae, h]
    rw [hb]
    clear h hx hb
    refine dw (fun r st' => r = .fh [] ∧ st' = bp [some (.row [.vl false 1 (z.origin.map (an.val false)), .vl false 5 (z.aj.map (aq.val false))] 0 2 26), some (.row [.vl false 1 (z.origin.map (an.val false)), .vl false 5 (z.aj.map (aq.val false)), .sc (.int .i64 (c0 (gu z) 264 (me z)))] 0 2 180), some (.row [.sc (.bool (gu z))] 0 2 4), some (.row [.vl false 1 (z.origin.map (an.val false)), .vl false 5 (z.aj.map (aq.val false))] 0 2 26), some (.row [.sc (.int .u16 2)] 0 2 28)]) rfl ?_ ?_
    · refine bq (T := [eb, dr, ga, jf, jc, jg, ib, kp, oa, ko]) ok mixed Tryz.func126 rfl (by kernel_rfl) (by kernel_rfl) (by kernel_rfl) (by kernel_rfl) ?_; unfold Tryz.f126
      simp only [↓wR, RA, simprocAttr, TF, ae]
      rw [cy]; refine ⟨fun ⟨hn1, en1⟩ => ?_, fun ⟨hn1, en1⟩ => ?_⟩
      · simp only [↓wR, RA, simprocAttr, TF, ae, hn1]
        rw [bk]; refine ⟨fun hn2 => ?_, fun hn2 => ?_⟩
        · have hb : (gu z) = false := by simpa only [Bool.not_eq_true'] using hn2
          have hv : c0 (gu z) 264 (me z) = 264 := by unfold c0; rw [if_pos ⟨en1, hb⟩]
          simp only [↓wR, RA, simprocAttr, TF, ae, hn1, hn2, g8, gx, gq]
          try rw [hv]
        · have hb : (gu z) = true := by simpa only [Bool.not_eq_false'] using hn2
          have hv : c0 (gu z) 264 (me z) = me z := by unfold c0; rw [if_neg (fun q => by rw [hb] at q; cases q.2)]
          simp only [↓wR, RA, simprocAttr, TF, ae, hn1, hn2, g8, gx, gq]
          try rw [hv]
      · have hv : c0 (gu z) 264 (me z) = me z := by unfold c0; rw [if_neg (fun q => en1 q.1)]
        simp only [↓wR, RA, simprocAttr, TF, ae, hn1, g8, gx, gq]
        try rw [hv]
    rintro _ _ ⟨rfl, rfl⟩
    rw [show c0 (gu z) 264 (me z) = Dn z from rfl]
    simp only [↓wR, RA, simprocAttr, TF, ae, gm]
    obtain ⟨e0, he0⟩ : ∃ e0, Dn z = e0 := ⟨_, rfl⟩
    rw [he0]
    refine dw (fun r st' => r = .fh [] ∧ st' = bp [some (.row [.vl false 1 (z.origin.map (an.val false)), .vl false 5 (z.aj.map (aq.val false))] 0 2 26), some (.row [.vl false 1 (z.origin.map (an.val false)), .vl false 5 (z.aj.map (aq.val false)), .sc (.int .i64 (fm 265 (iy z) 0 z.aj e0))] 0 2 180), some (.row [.sc (.bool (gu z))] 0 2 4), some (.row [.vl false 1 (z.origin.map (an.val false)), .vl false 5 (z.aj.map (aq.val false))] 0 2 26), some (.row [.sc (.int .u16 2)] 0 2 28)]) rfl ?_ ?_
    · refine bq (T := [eb, dr, ga, jf, jc, jg, ib, kp, oa, ko]) ok mixed Tryz.func121 rfl (by kernel_rfl) (by kernel_rfl) (by kernel_rfl) (by kernel_rfl) ?_; unfold Tryz.f121
      simp only [↓wR, RA, simprocAttr, TF, ae]
      refine dh [0, 1, 2, 12, 13, 14] (fun (x : Nat × Int) => [.ptr 1 0, .sc (.int .i64 (265)), .fn (.func 128) [.ptr 1 0] [], .vl false 5 (z.aj.map (aq.val false)), .sc (.int .i64 (z.aj.length)), .sc (.int .i64 (x.1))]) (fun x => [some (.row [.vl false 1 (z.origin.map (an.val false)), .vl false 5 (z.aj.map (aq.val false))] 0 2 26), some (.row [.vl false 1 (z.origin.map (an.val false)), .vl false 5 (z.aj.map (aq.val false)), .sc (.int .i64 (x.2))] 0 2 180), some (.row [.sc (.bool (gu z))] 0 2 4), some (.row [.vl false 1 (z.origin.map (an.val false)), .vl false 5 (z.aj.map (aq.val false))] 0 2 26), some (.row [.sc (.int .u16 2)] 0 2 28)]) (fun x => x.1 ≤ z.aj.length ∧ fm 265 (iy z) 0 z.aj e0 = fm 265 (iy z) x.1 (z.aj.drop x.1) x.2) (fun x => z.aj.length - x.1) (0, e0) ⟨Nat.zero_le _, rfl⟩ (by simp only [↓wR, RA, simprocAttr, TF, ae] <;> rfl) (by simp only [↓wR, RA, simprocAttr, TF, ae] <;> rfl) ?_
      rintro ⟨i, e⟩ ⟨hi, hx⟩
      simp only at hi hx
      simp only [↓wR, RA, simprocAttr, TF, ae]
      rw [bj]; refine ⟨fun h => ?_, fun h => ?_⟩
      · obtain ⟨c, hc, hd1, hlt⟩ := dt (decide_eq_true h)
        rw [tm hd1] at hx
        have hcs := hz.set c (List.mem_of_getElem? hc)
        have hi2 : (0 : Int) ≤ i ∧ (i : Int) ≤ z.aj.length := by omega
        simp only [↓wR, RA, simprocAttr, TF, ae, h, hc]
        rw [g9]; refine ⟨fun ⟨h1, e1⟩ => ?_, fun ⟨h1, e1⟩ => ?_⟩
        · rw [if_pos e1] at hx
          simp only [↓wR, RA, simprocAttr, TF, ae, h1, g8, gx, gq]
          rw [hx]
        · rw [if_neg (by omega)] at hx
          simp only [↓wR, RA, simprocAttr, TF, ae, h1, hcs, hz, hi2, Db]
          refine dw (fun r st' => r = .fh [] ∧ st' = bp [some (.row [.vl false 1 (z.origin.map (an.val false)), .vl false 5 (z.aj.map (aq.val false))] 0 2 26), some (.row [.vl false 1 (z.origin.map (an.val false)), .vl false 5 (z.aj.map (aq.val false)), .sc (.int .i64 (c0 ((iy z) i c) 265 e))] 0 2 180), some (.row [.sc (.bool (gu z))] 0 2 4), some (.row [.vl false 1 (z.origin.map (an.val false)), .vl false 5 (z.aj.map (aq.val false))] 0 2 26), some (.row [.sc (.int .u16 2)] 0 2 28), some (.row [.vl false 1 (c.owner.map (an.val false)), .sc (.int .u16 c.type.toNat), .sc (.int .u16 c.cls.toNat), .sc (.int .u32 c.sr.toNat), .vl false 4 (c.data.map (cd.val false))] 0 2 40)]) rfl ?_ ?_
          · refine bq (T := [eb, dr, ga, jf, jc, jg, ib, kp, oa, ko]) ok mixed Tryz.func126 rfl (by kernel_rfl) (by kernel_rfl) (by kernel_rfl) (by kernel_rfl) ?_; unfold Tryz.f126
            simp only [↓wR, RA, simprocAttr, TF, ae, e1]
            rw [bk]; refine ⟨fun hn2 => ?_, fun hn2 => ?_⟩
            · have hb : ((iy z) i c) = false := by simpa only [Bool.not_eq_true'] using hn2
              have hv : c0 ((iy z) i c) 265 0 = 265 := by unfold c0; rw [if_pos ⟨rfl, hb⟩]
              simp only [↓wR, RA, simprocAttr, TF, ae, hn2, g8, gx, gq]
              try rw [hv]
            · have hb : ((iy z) i c) = true := by simpa only [Bool.not_eq_false'] using hn2
              have hv : c0 ((iy z) i c) 265 0 = 0 := by unfold c0; rw [if_neg (fun q => by rw [hb] at q; cases q.2)]
              simp only [↓wR, RA, simprocAttr, TF, ae, hn2, g8, gx, gq]
              try rw [hv]
          rintro _ _ ⟨rfl, rfl⟩
          simp only [↓wR, RA, simprocAttr, TF, ae, gm]; repeat (simp (disch := omega) only [ah, ca, cb, bz, b9]; try simp only [↓wR, RA, simprocAttr, TF, ae, gm])
          exact ⟨(i + 1, c0 ((iy z) i c) 265 e), ⟨hlt, hx⟩, by simp; omega, by (first | rfl | trivial | omega | ((try (simp (disch := omega) only [ah])); (try (simp only [FB])); first | done | rfl | omega)), by (first | rfl | trivial | omega | ((try (simp (disch := omega) only [ah])); (try (simp only [FB])); first | done | rfl | omega))⟩
      · rw [dv (decide_eq_false h)] at hx
        simp only [↓wR, RA, simprocAttr, TF, ae, h, g8, gx, gq]
        rw [hx]; rfl
    rintro _ _ ⟨rfl, rfl⟩
    rw [← he0]
    clear he0
    simp only [↓wR, RA, simprocAttr, TF, ae, gm]
    rw [show fm 265 (iy z) 0 z.aj (Dn z) = Ea z from rfl]
    obtain ⟨e0, he0⟩ : ∃ e0, Ea z = e0 := ⟨_, rfl⟩
    rw [he0]
    refine dw (fun r st' => r = .fh [] ∧ st' = bp [some (.row [.vl false 1 (z.origin.map (an.val false)), .vl false 5 (z.aj.map (aq.val false))] 0 2 26), some (.row [.vl false 1 (z.origin.map (an.val false)), .vl false 5 (z.aj.map (aq.val false)), .sc (.int .i64 (fm 266 (fun _ s => ky s) 0 z.aj e0))] 0 2 180), some (.row [.sc (.bool (gu z))] 0 2 4), some (.row [.vl false 1 (z.origin.map (an.val false)), .vl false 5 (z.aj.map (aq.val false))] 0 2 26), some (.row [.sc (.int .u16 2)] 0 2 28)]) rfl ?_ ?_
    · refine bq (T := [eb, dr, ga, jf, jc, jg, ib, kp, oa, ko]) ok mixed Tryz.func121 rfl (by kernel_rfl) (by kernel_rfl) (by kernel_rfl) (by kernel_rfl) ?_; unfold Tryz.f121
      simp only [↓wR, RA, simprocAttr, TF, ae]
      refine dh [0, 1, 2, 12, 13, 14] (fun (x : Nat × Int) => [.ptr 1 0, .sc (.int .i64 (266)), .sc (.func (.func 129) #[] #[]), .vl false 5 (z.aj.map (aq.val false)), .sc (.int .i64 (z.aj.length)), .sc (.int .i64 (x.1))]) (fun x => [some (.row [.vl false 1 (z.origin.map (an.val false)), .vl false 5 (z.aj.map (aq.val false))] 0 2 26), some (.row [.vl false 1 (z.origin.map (an.val false)), .vl false 5 (z.aj.map (aq.val false)), .sc (.int .i64 (x.2))] 0 2 180), some (.row [.sc (.bool (gu z))] 0 2 4), some (.row [.vl false 1 (z.origin.map (an.val false)), .vl false 5 (z.aj.map (aq.val false))] 0 2 26), some (.row [.sc (.int .u16 2)] 0 2 28)]) (fun x => x.1 ≤ z.aj.length ∧ fm 266 (fun _ s => ky s) 0 z.aj e0 = fm 266 (fun _ s => ky s) x.1 (z.aj.drop x.1) x.2) (fun x => z.aj.length - x.1) (0, e0) ⟨Nat.zero_le _, rfl⟩ (by simp only [↓wR, RA, simprocAttr, TF, ae] <;> rfl) (by simp only [↓wR, RA, simprocAttr, TF, ae] <;> rfl) ?_
      rintro ⟨i, e⟩ ⟨hi, hx⟩
      simp only at hi hx
      simp only [↓wR, RA, simprocAttr, TF, ae]
      rw [bj]; refine ⟨fun h => ?_, fun h => ?_⟩
      · obtain ⟨c, hc, hd1, hlt⟩ := dt (decide_eq_true h)
        rw [tm hd1] at hx
        have hcs := hz.set c (List.mem_of_getElem? hc)
        have hi2 : (0 : Int) ≤ i ∧ (i : Int) ≤ z.aj.length := by omega
        simp only [↓wR, RA, simprocAttr, TF, ae, h, hc]
        rw [g9]; refine ⟨fun ⟨h1, e1⟩ => ?_, fun ⟨h1, e1⟩ => ?_⟩
        · rw [if_pos e1] at hx
          simp only [↓wR, RA, simprocAttr, TF, ae, h1, g8, gx, gq]
          rw [hx]
        · rw [if_neg (by omega)] at hx
          simp only [↓wR, RA, simprocAttr, TF, ae, h1, hcs, hz, hi2, Gn]
          refine dw (fun r st' => r = .fh [] ∧ st' = bp [some (.row [.vl false 1 (z.origin.map (an.val false)), .vl false 5 (z.aj.map (aq.val false))] 0 2 26), some (.row [.vl false 1 (z.origin.map (an.val false)), .vl false 5 (z.aj.map (aq.val false)), .sc (.int .i64 (c0 ((fun _ s => ky s) i c) 266 e))] 0 2 180), some (.row [.sc (.bool (gu z))] 0 2 4), some (.row [.vl false 1 (z.origin.map (an.val false)), .vl false 5 (z.aj.map (aq.val false))] 0 2 26), some (.row [.sc (.int .u16 2)] 0 2 28), some (.row [.vl false 1 (c.owner.map (an.val false)), .sc (.int .u16 c.type.toNat), .sc (.int .u16 c.cls.toNat), .sc (.int .u32 c.sr.toNat), .vl false 4 (c.data.map (cd.val false))] 0 2 40)]) rfl ?_ ?_
          · refine bq (T := [eb, dr, ga, jf, jc, jg, ib, kp, oa, ko]) ok mixed Tryz.func126 rfl (by kernel_rfl) (by kernel_rfl) (by kernel_rfl) (by kernel_rfl) ?_; unfold Tryz.f126
            simp only [↓wR, RA, simprocAttr, TF, ae, e1]
            rw [bk]; refine ⟨fun hn2 => ?_, fun hn2 => ?_⟩
            · have hb : ((fun _ s => ky s) i c) = false := by simpa only [Bool.not_eq_true'] using hn2
              have hv : c0 ((fun _ s => ky s) i c) 266 0 = 266 := by unfold c0; rw [if_pos ⟨rfl, hb⟩]
              simp only [↓wR, RA, simprocAttr, TF, ae, hn2, g8, gx, gq]
              try rw [hv]
            · have hb : ((fun _ s => ky s) i c) = true := by simpa only [Bool.not_eq_false'] using hn2
              have hv : c0 ((fun _ s => ky s) i c) 266 0 = 0 := by unfold c0; rw [if_neg (fun q => by rw [hb] at q; cases q.2)]
              simp only [↓wR, RA, simprocAttr, TF, ae, hn2, g8, gx, gq]
              try rw [hv]
          rintro _ _ ⟨rfl, rfl⟩
          simp only [↓wR, RA, simprocAttr, TF, ae, gm]; repeat (simp (disch := omega) only [ah, ca, cb, bz, b9]; try simp only [↓wR, RA, simprocAttr, TF, ae, gm])
          exact ⟨(i + 1, c0 ((fun _ s => ky s) i c) 266 e), ⟨hlt, hx⟩, by simp; omega, by (first | rfl | trivial | omega | ((try (simp (disch := omega) only [ah])); (try (simp only [FB])); first | done | rfl | omega)), by (first | rfl | trivial | omega | ((try (simp (disch := omega) only [ah])); (try (simp only [FB])); first | done | rfl | omega))⟩
      · rw [dv (decide_eq_false h)] at hx
        simp only [↓wR, RA, simprocAttr, TF, ae, h, g8, gx, gq]
        rw [hx]; rfl
    rintro _ _ ⟨rfl, rfl⟩
    rw [← he0]
    clear he0
    simp only [↓wR, RA, simprocAttr, TF, ae, gm]
    rw [show fm 266 (fun _ s => ky s) 0 z.aj (Ea z) = Mc z from rfl]
    obtain ⟨e0, he0⟩ : ∃ e0, Mc z = e0 := ⟨_, rfl⟩
    rw [he0]
    refine dw (fun r st' => r = .fh [] ∧ st' = bp [some (.row [.vl false 1 (z.origin.map (an.val false)), .vl false 5 (z.aj.map (aq.val false))] 0 2 26), some (.row [.vl false 1 (z.origin.map (an.val false)), .vl false 5 (z.aj.map (aq.val false)), .sc (.int .i64 (fm 267 (fun _ s => pg z s) 0 z.aj e0))] 0 2 180), some (.row [.sc (.bool (gu z))] 0 2 4), some (.row [.vl false 1 (z.origin.map (an.val false)), .vl false 5 (z.aj.map (aq.val false))] 0 2 26), some (.row [.sc (.int .u16 2)] 0 2 28)]) rfl ?_ ?_
    · refine bq (T := [eb, dr, ga, jf, jc, jg, ib, kp, oa, ko]) ok mixed Tryz.func121 rfl (by kernel_rfl) (by kernel_rfl) (by kernel_rfl) (by kernel_rfl) ?_; unfold Tryz.f121
      simp only [↓wR, RA, simprocAttr, TF, ae]
      refine dh [0, 1, 2, 12, 13, 14] (fun (x : Nat × Int) => [.ptr 1 0, .sc (.int .i64 (267)), .fn (.func 130) [] [.ptr 0 0], .vl false 5 (z.aj.map (aq.val false)), .sc (.int .i64 (z.aj.length)), .sc (.int .i64 (x.1))]) (fun x => [some (.row [.vl false 1 (z.origin.map (an.val false)), .vl false 5 (z.aj.map (aq.val false))] 0 2 26), some (.row [.vl false 1 (z.origin.map (an.val false)), .vl false 5 (z.aj.map (aq.val false)), .sc (.int .i64 (x.2))] 0 2 180), some (.row [.sc (.bool (gu z))] 0 2 4), some (.row [.vl false 1 (z.origin.map (an.val false)), .vl false 5 (z.aj.map (aq.val false))] 0 2 26), some (.row [.sc (.int .u16 2)] 0 2 28)]) (fun x => x.1 ≤ z.aj.length ∧ fm 267 (fun _ s => pg z s) 0 z.aj e0 = fm 267 (fun _ s => pg z s) x.1 (z.aj.drop x.1) x.2) (fun x => z.aj.length - x.1) (0, e0) ⟨Nat.zero_le _, rfl⟩ (by simp only [↓wR, RA, simprocAttr, TF, ae] <;> rfl) (by simp only [↓wR, RA, simprocAttr, TF, ae] <;> rfl) ?_
      rintro ⟨i, e⟩ ⟨hi, hx⟩
      simp only at hi hx
      simp only [↓wR, RA, simprocAttr, TF, ae]
      rw [bj]; refine ⟨fun h => ?_, fun h => ?_⟩
      · obtain ⟨c, hc, hd1, hlt⟩ := dt (decide_eq_true h)
        rw [tm hd1] at hx
        have hcs := hz.set c (List.mem_of_getElem? hc)
        have hi2 : (0 : Int) ≤ i ∧ (i : Int) ≤ z.aj.length := by omega
        simp only [↓wR, RA, simprocAttr, TF, ae, h, hc]
        rw [g9]; refine ⟨fun ⟨h1, e1⟩ => ?_, fun ⟨h1, e1⟩ => ?_⟩
        · rw [if_pos e1] at hx
          simp only [↓wR, RA, simprocAttr, TF, ae, h1, g8, gx, gq]
          rw [hx]
        · rw [if_neg (by omega)] at hx
          simp only [↓wR, RA, simprocAttr, TF, ae, h1, hcs, hz, hi2, Nc]
          refine dw (fun r st' => r = .fh [] ∧ st' = bp [some (.row [.vl false 1 (z.origin.map (an.val false)), .vl false 5 (z.aj.map (aq.val false))] 0 2 26), some (.row [.vl false 1 (z.origin.map (an.val false)), .vl false 5 (z.aj.map (aq.val false)), .sc (.int .i64 (c0 ((fun _ s => pg z s) i c) 267 e))] 0 2 180), some (.row [.sc (.bool (gu z))] 0 2 4), some (.row [.vl false 1 (z.origin.map (an.val false)), .vl false 5 (z.aj.map (aq.val false))] 0 2 26), some (.row [.sc (.int .u16 2)] 0 2 28), some (.row [.vl false 1 (c.owner.map (an.val false)), .sc (.int .u16 c.type.toNat), .sc (.int .u16 c.cls.toNat), .sc (.int .u32 c.sr.toNat), .vl false 4 (c.data.map (cd.val false))] 0 2 40)]) rfl ?_ ?_
          · refine bq (T := [eb, dr, ga, jf, jc, jg, ib, kp, oa, ko]) ok mixed Tryz.func126 rfl (by kernel_rfl) (by kernel_rfl) (by kernel_rfl) (by kernel_rfl) ?_; unfold Tryz.f126
            simp only [↓wR, RA, simprocAttr, TF, ae, e1]
            rw [bk]; refine ⟨fun hn2 => ?_, fun hn2 => ?_⟩
            · have hb : ((fun _ s => pg z s) i c) = false := by simpa only [Bool.not_eq_true'] using hn2
              have hv : c0 ((fun _ s => pg z s) i c) 267 0 = 267 := by unfold c0; rw [if_pos ⟨rfl, hb⟩]
              simp only [↓wR, RA, simprocAttr, TF, ae, hn2, g8, gx, gq]
              try rw [hv]
            · have hb : ((fun _ s => pg z s) i c) = true := by simpa only [Bool.not_eq_false'] using hn2
              have hv : c0 ((fun _ s => pg z s) i c) 267 0 = 0 := by unfold c0; rw [if_neg (fun q => by rw [hb] at q; cases q.2)]
              simp only [↓wR, RA, simprocAttr, TF, ae, hn2, g8, gx, gq]
              try rw [hv]
          rintro _ _ ⟨rfl, rfl⟩
          simp only [↓wR, RA, simprocAttr, TF, ae, gm]; repeat (simp (disch := omega) only [ah, ca, cb, bz, b9]; try simp only [↓wR, RA, simprocAttr, TF, ae, gm])
          exact ⟨(i + 1, c0 ((fun _ s => pg z s) i c) 267 e), ⟨hlt, hx⟩, by simp; omega, by (first | rfl | trivial | omega | ((try (simp (disch := omega) only [ah])); (try (simp only [FB])); first | done | rfl | omega)), by (first | rfl | trivial | omega | ((try (simp (disch := omega) only [ah])); (try (simp only [FB])); first | done | rfl | omega))⟩
      · rw [dv (decide_eq_false h)] at hx
        simp only [↓wR, RA, simprocAttr, TF, ae, h, g8, gx, gq]
        rw [hx]; rfl
    rintro _ _ ⟨rfl, rfl⟩
    rw [← he0]
    clear he0
    simp only [↓wR, RA, simprocAttr, TF, ae, gm]
    rfl
noncomputable def Dd (x : bb × Unit) : Option AV := if c9 x.1 then some ((r1 (aw .i64)).E true (iw x.1)) else none
set_option maxRecDepth 2000000 in
theorem Pn (x : bb × Unit) (r : AV) (h : Dd x = some r) : bf PP 82 ((aC bg a0).E x) r := by
  by_cases hc : c9 x.1
  case neg => simp only [Dd, if_neg hc] at h; cases h
  simp only [Dd, if_pos hc] at h
  cases h
  exact ba (ak.cons (ai kb) (ak.cons (ai fv) (ak.cons (ai Jj) (ak.cons (ai Pq) (ak.cons (ai Ol) (ak.cons (ai N8) (ak.cons (ai Ki) (ak.cons (ai Sf) (ak.cons (ai W0) (ak.cons (ai Sy) (ak.nil PP))))))))))) Tryz.func82 (by kernel_rfl) (by kernel_rfl) (by kernel_rfl) (Nat.le_of_ble_eq_true (by kernel_rfl)) (r1 (aw .i64)) true (iw x.1) (ac7 x.1 hc)
noncomputable abbrev aps : Nat × Bool × (List AV → M AV) := (82, true, dc (aC bg a0) Dd)
end Go.Proofs.YtidomogemfchpaaGreat
end
section
set_option linter.unusedSimpArgs false
set_option linter.unusedVariables false
namespace Go.Proofs.YtidomogemfchpaaGreat
open Go.Vm
set_option maxRecDepth 2000000
def aao (l : List bo) : Bool := l.all fun s => !decide ((20 : Int) < s.data.length)
def Mi (z : bb) : Bool := aao z.aj && decide ((z.aj.length : Int) ≤ 40)
theorem axc (z : bb) (hz : c9 z) : wl PP [] 0 (Tryz.f9.body.getD .skip) (dj PP Tryz.f9.results.toList (fun r st => (r1 bt).get true st.h r = some (Mi z))) (bw 0 [bg.val false z]) (bp []) := by
  have hl := hz.len
  unfold Tryz.f9
  simp only [ig]
  simp only [↓wR, RA, simprocAttr, TF, ae]
  refine dh [1, 3] (fun (i : Nat) => [.ptr 0 0, .sc (.int .i64 (i))]) (fun _ => [some (.row [.vl false 1 (z.origin.map (an.val false)), .vl false 5 (z.aj.map (aq.val false))] 0 2 26)]) (fun i => i ≤ z.aj.length ∧ aao z.aj = aao (z.aj.drop i)) (fun i => z.aj.length - i) 0 ⟨Nat.zero_le _, rfl⟩ (by simp only [↓wR, RA, simprocAttr, TF, ae] <;> rfl) (by simp only [↓wR, RA, simprocAttr, TF, ae] <;> rfl) ?_
  rintro i ⟨hi, hx⟩
  simp only [↓wR, RA, simprocAttr, TF, ae]
  rw [bj]; refine ⟨fun h => ?_, fun h => ?_⟩
  · obtain ⟨c, hc, hd1, hlt⟩ := dt (decide_eq_true h)
    have hx' : aao z.aj = (!decide ((20 : Int) < c.data.length) && aao (z.aj.drop (i + 1))) := by rw [hx, hd1]; rfl
    simp only [↓wR, RA, simprocAttr, TF, ae, h, hc]; repeat (simp (disch := omega) only [ah, ca, cb, bz, b9]; try simp only [↓wR, RA, simprocAttr, TF, ae, h, hc])
    rw [bj]; refine ⟨fun h2 => ?_, fun h2 => ?_⟩
    · rw [decide_eq_true h2, Bool.not_true, Bool.false_and] at hx'
      simp only [↓wR, RA, simprocAttr, TF, ae, h2]; repeat (simp (disch := omega) only [ah, ca, cb, bz, b9]; try simp only [↓wR, RA, simprocAttr, TF, ae, h2])
      rw [Mi, hx']; rfl
    · rw [decide_eq_false h2, Bool.not_false, Bool.true_and] at hx'
      simp only [↓wR, RA, simprocAttr, TF, ae, h2]; repeat (simp (disch := omega) only [ah, ca, cb, bz, b9]; try simp only [↓wR, RA, simprocAttr, TF, ae, h2])
      exact ⟨i + 1, ⟨hlt, hx'⟩, by omega, by (first | rfl | trivial | omega | ((try (simp (disch := omega) only [ah])); (try (simp only [FB])); first | done | rfl | omega))⟩
  · rw [dv (decide_eq_false h)] at hx
    simp only [↓wR, RA, simprocAttr, TF, ae, h]
    rw [Mi, hx]; rfl
noncomputable def M0 (x : bb × Unit) : Option AV := if c9 x.1 then some ((r1 bt).E true (Mi x.1)) else none
set_option maxRecDepth 2000000 in
theorem anc (x : bb × Unit) (r : AV) (h : M0 x = some r) : bf PP 9 ((aC bg a0).E x) r := by
  by_cases hc : c9 x.1
  case neg => simp only [M0, if_neg hc] at h; cases h
  simp only [M0, if_pos hc] at h
  cases h
  exact ba (ak.nil PP) Tryz.func9 (by kernel_rfl) (by kernel_rfl) (by kernel_rfl) (Nat.le_of_ble_eq_true (by kernel_rfl)) (r1 bt) true (Mi x.1) (axc x.1 hc)
noncomputable abbrev az2 : Nat × Bool × (List AV → M AV) := (9, true, dc (aC bg a0) M0)
end Go.Proofs.YtidomogemfchpaaGreat
end
section
set_option linter.unusedSimpArgs false
set_option linter.unusedVariables false
namespace Go.Proofs.YtidomogemfchpaaGreat
open Go.Vm
set_option maxRecDepth 2000000
noncomputable def i9 (z : bb) (n : Name) : Int := if iw z ≠ 0 then iw z else if dp n ≠ 0 then dp n else if cw n z.origin = false then 2 else 0
theorem arf (z : bb) (n : Name) (hz : c9 z) (hn : be n) : wl PP [aps, eb, sj] 0 (Tryz.f107.body.getD .skip) (dj PP Tryz.f107.results.toList (fun r st => (r1 (aw .i64)).get true st.h r = some (i9 z n))) (bw 0 [bg.val false z, ar.val false n]) (bp []) := by
  unfold Tryz.f107
  simp only [ig, di]
  simp only [↓wR, RA, simprocAttr, TF, ae, Dd, hz]
  unfold i9
  rw [bk]; refine ⟨fun h => ?_, fun h => ?_⟩
  · have he : iw z ≠ 0 := by simpa using h
    rw [if_pos he]
    simp only [↓wR, RA, simprocAttr, TF, ae, h]
  have he : iw z = 0 := by simpa using h
  rw [if_neg (by omega)]
  simp only [↓wR, RA, simprocAttr, TF, ae, h, ll, hn.fit]
  rw [bk]; refine ⟨fun h2 => ?_, fun h2 => ?_⟩
  · have he : dp n ≠ 0 := by simpa using h2
    rw [if_pos he]
    simp only [↓wR, RA, simprocAttr, TF, ae, h2]
  have he2 : dp n = 0 := by simpa using h2
  rw [if_neg (by omega)]
  simp only [↓wR, RA, simprocAttr, TF, ae, h2, ln, hn, hz.origin]
  rw [bk]; refine ⟨fun h3 => ?_, fun h3 => ?_⟩
  · have h3' : cw n z.origin = false := by simpa only [Bool.not_eq_true'] using h3
    rw [if_pos h3']
    simp only [↓wR, RA, simprocAttr, TF, ae, h3]
  · have h3' : cw n z.origin = true := by simpa only [Bool.not_eq_false'] using h3
    rw [if_neg (by rw [h3']; decide)]
    simp only [↓wR, RA, simprocAttr, TF, ae, h3]
noncomputable def Gw (x : bb × Name × Unit) : Option AV := if c9 x.1 ∧ be x.2.1 then some ((r1 (aw .i64)).E true (i9 x.1 x.2.1)) else none
set_option maxRecDepth 2000000 in
theorem ag7 (x : bb × Name × Unit) (r : AV) (h : Gw x = some r) : bf PP 107 ((aC bg (aC ar a0)).E x) r := by
  by_cases hc : c9 x.1 ∧ be x.2.1
  case neg => simp only [Gw, if_neg hc] at h; cases h
  simp only [Gw, if_pos hc] at h
  cases h
  exact ba (ak.cons (ai Pn) (ak.cons (ai kb) (ak.cons (ai l5) (ak.nil PP)))) Tryz.func107 (by kernel_rfl) (by kernel_rfl) (by kernel_rfl) (Nat.le_of_ble_eq_true (by kernel_rfl)) (r1 (aw .i64)) true (i9 x.1 x.2.1) (arf x.1 x.2.1 hc.1 hc.2)
noncomputable abbrev awt : Nat × Bool × (List AV → M AV) := (107, true, dc (aC bg (aC ar a0)) Gw)
def du (z : bb) : Name → Name
  | [] => []
  | a :: r => if p9 z (a :: r) = true then a :: r else du z r
theorem I5 {z : bb} {m : Name} (hu : cw m z.origin = true) (hh : p9 z m = false) : ∃ a r, m = a :: r ∧ cw r z.origin = true ∧ du z m = du z r := by
  have hs : ee m z.origin = false := by
    unfold p9 at hh
    rw [hu, Bool.true_and] at hh
    cases h : ee m z.origin with
    | false => rfl
    | true => rw [h] at hh; cases hh
  have hu' : en z.origin <:+ en m := by simpa [cw] using hu
  have hs' : en m ≠ en z.origin := by simpa [ee] using hs
  cases m with
  | nil => exact (hs' (List.suffix_nil.1 (by simpa only [en, List.map_nil] using hu')).symm).elim
  | cons a r =>
    refine ⟨a, r, rfl, ?_, by rw [du, if_neg (by rw [hh]; decide)]⟩
    have h2 : en z.origin <:+ fold a :: en r := hu'
    rcases List.suffix_cons_iff.1 h2 with h3 | h3
    · exact (hs' h3.symm).elim
    · simpa [cw] using h3
theorem Bc {z : bb} {m : Name} (hh : p9 z m = true) : du z m = m := by
  cases m with
  | nil => rfl
  | cons a r => rw [du, if_pos hh]
theorem aku (z : bb) (n : Name) (hz : c9 z) (hn : be n) (hu : cw n z.origin = true) : wl PP [awn, oq] 0 (Tryz.f108.body.getD .skip) (dj PP Tryz.f108.results.toList (fun r st => (r1 ar).get true st.h r = some (du z n))) (bw 0 [bg.val false z, ar.val false n]) (bp []) := by
  unfold Tryz.f108
  simp only [ig, di]
  simp only [↓wR, RA, simprocAttr, TF, ae]
  refine dh [1, 2] (fun (m : Name) => [.vl false 1 (m.map (an.val false)), .ptr 0 0]) (fun _ => [some (.row [.vl false 1 (z.origin.map (an.val false)), .vl false 5 (z.aj.map (aq.val false))] 0 2 26)]) (fun m => be m ∧ cw m z.origin = true ∧ du z n = du z m) (fun m => m.length) n ⟨hn, hu, rfl⟩ (by simp only [↓wR, RA, simprocAttr, TF, ae] <;> rfl) (by simp only [↓wR, RA, simprocAttr, TF, ae] <;> rfl) ?_
  rintro m ⟨hm, hmu, hx⟩
  simp only [↓wR, RA, simprocAttr, TF, ae, M9, hz, hm]
  rw [bk]; refine ⟨fun h => ?_, fun h => ?_⟩
  · simp only [↓wR, RA, simprocAttr, TF, ae, h, jo, hm]
    rw [hx, Bc h]
  · obtain ⟨a, r, rfl, hru, hcr⟩ := I5 hmu h
    have hr : be r := hm.drop 1
    rw [hcr] at hx
    simp only [↓wR, RA, simprocAttr, TF, ae, h]
    exact ⟨r, ⟨hr, hru, hx⟩, by simp, rfl⟩
noncomputable def Bi (x : bb × Name × Unit) : Option AV := if (c9 x.1 ∧ be x.2.1) ∧ cw x.2.1 x.1.origin = true then some ((r1 ar).E true (du x.1 x.2.1)) else none
set_option maxRecDepth 2000000 in
theorem Zd (x : bb × Name × Unit) (r : AV) (h : Bi x = some r) : bf PP 108 ((aC bg (aC ar a0)).E x) r := by
  by_cases hc : (c9 x.1 ∧ be x.2.1) ∧ cw x.2.1 x.1.origin = true
  case neg => simp only [Bi, if_neg hc] at h; cases h
  simp only [Bi, if_pos hc] at h
  cases h
  exact ba (ak.cons (ai Xo) (ak.cons (ai j8) (ak.nil PP))) Tryz.func108 (by kernel_rfl) (by kernel_rfl) (by kernel_rfl) (Nat.le_of_ble_eq_true (by kernel_rfl)) (r1 ar) true (du x.1 x.2.1) (aku x.1 x.2.1 hc.1.1 hc.1.2 hc.2)
noncomputable abbrev as3 : Nat × Bool × (List AV → M AV) := (108, true, dc (aC bg (aC ar a0)) Bi)
theorem Ao (z : bb) (n : Name) : ∃ k, du z n = n.drop k := by
  induction n with
  | nil => exact ⟨0, rfl⟩
  | cons a r ih =>
    unfold du
    split
    · exact ⟨0, rfl⟩
    · obtain ⟨k, hk⟩ := ih; exact ⟨k + 1, by rw [hk]; rfl⟩
theorem Zo {z : bb} {n : Name} (hn : be n) : be (du z n) := by
  obtain ⟨k, hk⟩ := Ao z n
  rw [hk]; exact hn.drop k
theorem as6 (n : Name) (hn : be n) : wl PP [] 0 (Tryz.f110.body.getD .skip) (dj PP Tryz.f110.results.toList (fun r st => (r1 ar).get true st.h r = some (te :: n))) (bw 0 [ar.val false n]) (bp []) := by
  have hl := hn.lt
  have hlim : (n.length + 1) * 16 ≤ 140737488355328 := by omega
  unfold Tryz.f110
  simp only [di]
  simp only [↓wR, RA, simprocAttr, TF, ae, hlim, Nat.add_comm 1 n.length]
  rfl
noncomputable def Hg (x : Name × Unit) : Option AV := if be x.1 then some ((r1 ar).E true (te :: x.1)) else none
set_option maxRecDepth 2000000 in
theorem ama (x : Name × Unit) (r : AV) (h : Hg x = some r) : bf PP 110 ((aC ar a0).E x) r := by
  by_cases hc : be x.1
  case neg => simp only [Hg, if_neg hc] at h; cases h
  simp only [Hg, if_pos hc] at h
  cases h
  exact ba (ak.nil PP) Tryz.func110 (by kernel_rfl) (by kernel_rfl) (by kernel_rfl) (Nat.le_of_ble_eq_true (by kernel_rfl)) (r1 ar) true (te :: x.1) (as6 x.1 hc)
noncomputable abbrev aya : Nat × Bool × (List AV → M AV) := (110, true, dc (aC ar a0) Hg)
theorem Zb (n : Name) (k : Nat) : br (n.drop k) ≤ br n := by
  have := jr (n.take k) (n.drop k)
  rw [List.take_append_drop] at this
  have h1 := (nr (n.take k) 0).2
  omega
theorem Uu {z : bb} {n : Name} (h : dp n = 0) : be (te :: du z n) := by
  obtain ⟨k, hk⟩ := Ao z n
  have h1 := Zb n k
  have h2 := Jp h
  have h3 := jr [te] (du z n)
  have h4 : br [te] = 3 := rfl
  rw [hk] at h3 ⊢
  simp only [List.singleton_append] at h3
  unfold be
  omega
theorem Ec {z : bb} {n : Name} (h : i9 z n = 0) : iw z = 0 ∧ dp n = 0 ∧ cw n z.origin = true := by
  unfold i9 at h
  split at h
  · contradiction
  split at h
  · contradiction
  split at h
  · cases h
  · rename_i h1 h2 h3
    exact ⟨by omega, by omega, by simpa using h3⟩
noncomputable def ir (z : bb) (n : Name) : Bg × Int :=
  if i9 z n ≠ 0 then (x7 0 [] [], i9 z n)
  else match j0 z n with
    | some c => (x7 4 c [], 0)
    | none =>
      if 0 < (jw z n).length then (x7 1 n (du z n), 0)
      else if (du z n).length = n.length then (x7 2 [] (du z n), 0)
      else if p9 z (te :: du z n) = true then (x7 3 (te :: du z n) (du z n), 0)
      else (x7 0 [] (du z n), 0)
theorem au9 (z : bb) (n : Name) (hz : c9 z) (hn : be n) : wl PP [awt, aqv, as3, zAt, oq, aya, awn] 0 (Tryz.f72.body.getD .skip) (dj PP Tryz.f72.results.toList (fun r st => (r2 qi (aw .i64)).get true st.h r = some (ir z n))) (bw 0 [bg.val false z, ar.val false n]) (bp []) := by
  unfold Tryz.f72
  simp only [ig, di]
  simp only [↓wR, RA, simprocAttr, TF, ae, Gw, hz, hn]
  unfold ir
  rw [bk]; refine ⟨fun h => ?_, fun h => ?_⟩
  · have he : i9 z n ≠ 0 := by simpa using h
    rw [if_pos he]
    simp only [↓wR, RA, simprocAttr, TF, ae, h]
  have he : i9 z n = 0 := by simpa using h
  obtain ⟨a1, a2, a3⟩ := Ec he
  rw [if_neg (by omega)]
  have hcs := Zo (z := z) hn
  have hst := Uu (z := z) a2
  cases hc : j0 z n with
  | some c =>
    simp only [↓wR, RA, simprocAttr, TF, ae, h, Ce, hz, hn, hc]
  | none =>
    simp only [↓wR, RA, simprocAttr, TF, ae, h, Ce, hz, hn, hc, Option.isSome_none, Bi, a3, aaz]
    rw [bj]; refine ⟨fun h1 => ?_, fun h1 => ?_⟩
    · rw [if_pos (by omega)]
      simp only [↓wR, RA, simprocAttr, TF, ae, h1, jo, hn]
    rw [if_neg (by omega)]
    simp only [↓wR, RA, simprocAttr, TF, ae, h1]
    rw [cy]; refine ⟨fun ⟨h2, e2⟩ => ?_, fun ⟨h2, e2⟩ => ?_⟩
    · rw [if_pos (by omega)]
      simp only [↓wR, RA, simprocAttr, TF, ae, h2]
    rw [if_neg (by omega)]
    simp only [↓wR, RA, simprocAttr, TF, ae, h2]
    refine ⟨by kernel_rfl, .inl ?_⟩
    simp only [↓wR, RA, simprocAttr, TF, ae, Hg, hcs, M9, hz, hst]
    refine ⟨by kernel_rfl, ?_⟩
    rw [bk]; refine ⟨fun h3 => ?_, fun h3 => ?_⟩
    · rw [if_pos h3]
      simp only [↓wR, RA, simprocAttr, TF, ae, h3, Hg, hcs]
    · rw [if_neg (by rw [h3]; decide)]
      simp only [↓wR, RA, simprocAttr, TF, ae, h3]
noncomputable def Lx (x : bb × Name × Unit) : Option AV := if c9 x.1 ∧ be x.2.1 then some ((r2 qi (aw .i64)).E true (ir x.1 x.2.1)) else none
set_option maxRecDepth 2000000 in
theorem ajo (x : bb × Name × Unit) (r : AV) (h : Lx x = some r) : bf PP 72 ((aC bg (aC ar a0)).E x) r := by
  by_cases hc : c9 x.1 ∧ be x.2.1
  case neg => simp only [Lx, if_neg hc] at h; cases h
  simp only [Lx, if_pos hc] at h
  cases h
  exact ba (ak.cons (ai ag7) (ak.cons (ai K4) (ak.cons (ai Zd) (ak.cons (ai asc) (ak.cons (ai j8) (ak.cons (ai ama) (ak.cons (ai Xo) (ak.nil PP)))))))) Tryz.func72 (by kernel_rfl) (by kernel_rfl) (by kernel_rfl) (Nat.le_of_ble_eq_true (by kernel_rfl)) (r2 qi (aw .i64)) true (ir x.1 x.2.1) (au9 x.1 x.2.1 hc.1 hc.2)
noncomputable abbrev ayc : Nat × Bool × (List AV → M AV) := (72, true, dc (aC bg (aC ar a0)) Lx)
end Go.Proofs.YtidomogemfchpaaGreat
end
section
namespace Go.Proofs.YtidomogemfchpaaGreat
open Go.Vm
theorem wb {err : Int} (he : err ≠ 0) (p : Nat → bo → Bool) : ∀ (l : List bo) (i : Nat) (e : Int), fm err p i l e = 0 → e = 0 ∧ ∀ k s, l[k]? = some s → p (i + k) s = true := by
  intro l
  induction l with
  | nil => intro i e h; exact ⟨h, fun k s hs => by simp at hs⟩
  | cons a l ih =>
    intro i e h
    rw [fm] at h
    split at h
    · contradiction
    · rename_i h0
      have h0 : e = 0 := by omega
      obtain ⟨h1, h2⟩ := ih (i + 1) _ h
      refine ⟨h0, fun k s hs => ?_⟩
      cases k with
      | zero =>
        simp at hs
        subst hs
        cases hp : p i a with
        | true => simp [hp]
        | false => rw [c0, if_pos ⟨h0, hp⟩] at h1; exact (he h1).elim
      | succ k =>
        have := h2 k s (by simpa using hs)
        rwa [show i + 1 + k = i + (k + 1) from by omega] at this
theorem Ri {b : Bool} {err e : Int} (he : err ≠ 0) (h : c0 b err e = 0) : e = 0 ∧ b = true := by
  unfold c0 at h
  split at h
  · exact (he h).elim
  · rename_i hn
    refine ⟨h, ?_⟩
    cases b with
    | true => rfl
    | false => exact (hn ⟨h, rfl⟩).elim
structure atr (z : bb) : Prop where
  first : tu z = 0
  aAj : ∀ k s, z.aj[k]? = some s → kf z k s = true
  cls : ∀ s ∈ z.aj, ni s = true
  inside : ∀ s ∈ z.aj, cw s.owner z.origin = true
  aAl : (gh z).1 = 1 ∧ (gh z).2 = 1
  aAk : gu z = true
  alone : ∀ k s, z.aj[k]? = some s → iy z k s = true
  star : ∀ s ∈ z.aj, ky s = true
  occ : ∀ s ∈ z.aj, pg z s = true
theorem Su {z : bb} (h : iw z = 0) : atr z := by
  unfold iw at h
  split at h
  · contradiction
  rename_i h0
  obtain ⟨h7, p8⟩ := wb (by decide) _ _ _ _ h
  obtain ⟨h6, p7⟩ := wb (by decide) _ _ _ _ h7
  obtain ⟨h5, p6⟩ := wb (by decide) _ _ _ _ h6
  obtain ⟨h4, p5⟩ := Ri (by decide) h5
  obtain ⟨h3, p4⟩ := Ri (by decide) h4
  obtain ⟨h2, p3⟩ := wb (by decide) _ _ _ _ h3
  obtain ⟨h1, p2⟩ := wb (by decide) _ _ _ _ h2
  obtain ⟨_, p1⟩ := wb (by decide) _ _ _ _ h1
  have mem : ∀ (p : bo → Bool), (∀ k s, z.aj[k]? = some s → p s = true) → ∀ s ∈ z.aj, p s = true := fun p hp s hs => by
    obtain ⟨k, hk, rfl⟩ := List.getElem_of_mem hs
    exact hp k _ (List.getElem?_eq_getElem hk)
  simp only [Bool.and_eq_true, decide_eq_true_eq] at p4
  exact ⟨by omega, fun k s hs => by simpa using p1 k s hs, mem _ p2, mem _ p3, p4, p5, fun k s hs => by simpa using p6 k s hs, mem _ p7, mem _ p8⟩
theorem qv {a b : Name} : ee a b = true ↔ en a = en b := by simp [ee]
theorem i4 {a b : Name} : cw a b = true ↔ en b <:+ en a := by simp [cw]
theorem alj {a b : Name} (h : ee a b = true) : cw a b = true := i4.2 (by rw [qv.1 h]; exact List.suffix_refl _)
theorem Be {a b c : Name} (h1 : cw a b = true) (h2 : cw b c = true) : cw a c = true := i4.2 ((i4.1 h2).trans (i4.1 h1))
theorem N7 {a a' b : Name} (h : ee a a' = true) : cw a b = cw a' b := by simp only [cw, qv.1 h]
end Go.Proofs.YtidomogemfchpaaGreat
end
section
namespace Go.Proofs.YtidomogemfchpaaGreat
open Go.Vm
theorem Xt (n : Name) : (en n).length = n.length := List.length_map _
theorem Q8 {a b : Name} (h : ee a b = true) : a.length = b.length := by
  have := congrArg List.length (qv.1 h)
  rwa [Xt, Xt] at this
theorem Ya (a : Name) : ee a a = true := qv.2 rfl
theorem Um (a : Name) : cw a a = true := i4.2 (List.suffix_refl _)
theorem amj (a : ByteArray) (n : Name) : cw (a :: n) n = true := i4.2 (List.suffix_cons _ _)
theorem Zs {z : bb} : ∀ {n : Name}, cw n z.origin = true → p9 z (du z n) = true ∧ cw n (du z n) = true := by
  intro n
  induction n with
  | nil =>
    intro hu
    cases hh : p9 z [] with
    | true => exact ⟨hh, Um _⟩
    | false => obtain ⟨a, r, h, _⟩ := I5 hu hh; cases h
  | cons a n ih =>
    intro hu
    cases hh : p9 z (a :: n) with
    | true => rw [Bc hh]; exact ⟨hh, Um _⟩
    | false =>
      obtain ⟨a', r, h, hr, hc⟩ := I5 hu hh
      cases h
      rw [hc]
      obtain ⟨h1, h2⟩ := ih hr
      exact ⟨h1, Be (amj a n) h2⟩
theorem akm {z : bb} {n : Name} (h : (du z n).length = n.length) : du z n = n := by
  obtain ⟨k, hk⟩ := Ao z n
  rw [hk] at h ⊢
  rw [List.length_drop] at h
  cases n with
  | nil => exact List.drop_nil
  | cons a n =>
    have : k = 0 := by simp at h; omega
    rw [this]; rfl
theorem ad8 {z : bb} {n : Name} (h : (du z n).length ≠ n.length) : p9 z n = false := by
  cases hh : p9 z n with
  | false => rfl
  | true => rw [Bc hh] at h; exact (h rfl).elim
theorem aw4 {z : bb} {n : Name} (hg : atr z) (hp : 0 < (jw z n).length) : p9 z n = true := by
  obtain ⟨s, hs⟩ := List.exists_mem_of_length_pos hp
  obtain ⟨hs1, hs2⟩ := List.mem_filter.1 hs
  have hi := hg.inside s hs1
  unfold p9
  rw [← N7 hs2, hi, Bool.true_and, Bool.or_eq_true]
  exact .inr (List.any_eq_true.2 ⟨s, hs1, alj hs2⟩)
inductive ax2 (z : bb) (n : Name) : Prop
  | beyond (c : Name) (hc : j0 z n = some c) (h : ir z n = (x7 4 c [], 0))
  | exact (hc : j0 z n = none) (hp : 0 < (jw z n).length) (hh : p9 z n = true) (h : ir z n = (x7 1 n n, 0))
  | empty (hc : j0 z n = none) (hp : jw z n = []) (hh : p9 z n = true) (h : ir z n = (x7 2 [] n, 0))
  | az0 (hc : j0 z n = none) (hp : jw z n = []) (hh : p9 z n = false) (hs : p9 z (te :: du z n) = true) (h : ir z n = (x7 3 (te :: du z n) (du z n), 0))
  | none (hc : j0 z n = none) (hp : jw z n = []) (hh : p9 z n = false) (hs : p9 z (te :: du z n) = false) (h : ir z n = (x7 0 [] (du z n), 0))
theorem Wf {z : bb} {n : Name} (h : i9 z n = 0) : ax2 z n := by
  obtain ⟨h1, h2, h3⟩ := Ec h
  have hg := Su h1
  have hf : ir z n = match j0 z n with
    | some c => (x7 4 c [], 0)
    | none =>
      if 0 < (jw z n).length then (x7 1 n (du z n), 0)
      else if (du z n).length = n.length then (x7 2 [] (du z n), 0)
      else if p9 z (te :: du z n) = true then (x7 3 (te :: du z n) (du z n), 0)
      else (x7 0 [] (du z n), 0) := by unfold ir; rw [if_neg (by omega)] <;> rfl
  cases hc : j0 z n with
  | some c => rw [hc] at hf; exact .beyond c hc hf
  | none =>
    rw [hc] at hf
    simp only at hf
    split at hf
    · rename_i hp
      have hh := aw4 hg hp
      rw [Bc hh] at hf
      exact .exact hc hp hh hf
    rename_i hp
    have hp : jw z n = [] := List.eq_nil_of_length_eq_zero (by omega)
    split at hf
    · rename_i hl
      have he := akm hl
      have hh := (Zs h3).1
      rw [he] at hh hf
      exact .empty hc hp hh hf
    rename_i hl
    have hh := ad8 hl
    split at hf
    · rename_i hs; exact .az0 hc hp hh hs hf
    · rename_i hs; exact .none hc hp hh (by simpa using hs) hf
theorem ady {z : bb} {n : Name} (h : i9 z n ≠ 0) : ir z n = (x7 0 [] [], i9 z n) := by unfold ir; rw [if_pos h]
end Go.Proofs.YtidomogemfchpaaGreat
end
section
set_option linter.unusedSimpArgs false
set_option linter.unusedVariables false
namespace Go.Proofs.YtidomogemfchpaaGreat
open Go.Vm
set_option maxRecDepth 2000000
def Bz (l : List bo) : Prop := fu nb l ≤ 16777216
instance (l : List bo) : Decidable (Bz l) := inferInstanceAs (Decidable (_ ≤ _))
theorem Bz.mem {l : List bo} (h : Bz l) : ∀ s ∈ l, dq s := fun s hs => by
  have h1 : nb s < fu nb l := r9 hs
  unfold Bz at h; unfold dq; omega
theorem Bz.len {l : List bo} (h : Bz l) : l.length ≤ 16777216 := Nat.le_trans (ql nb l) h
theorem c9.aj {z : bb} (h : c9 z) : Bz z.aj := by unfold c9 x9 at h; unfold Bz; omega
def abc (l : List bo) : Prop := l.length ≤ 281474976710656 ∧ ∀ s ∈ l, dq s
instance (l : List bo) : Decidable (abc l) := inferInstanceAs (Decidable (_ ∧ _))
theorem c9.mid {z : bb} (h : c9 z) : abc z.aj := ⟨Nat.le_trans h.aj.len (by decide), h.aj.mem⟩
def v9 (n : Name) (t : UInt16) (s : bo) : Bool := decide ((s.type.toNat : Int) = t.toNat) && (decide ((s.cls.toNat : Int) = 1) && ee s.owner n)
def iu (l : List bo) (n : Name) (t : UInt16) : Option bo := l.find? (v9 n t)
def mw : bo := mkS [] 0 0 0 []
theorem Wi {l : List bo} {p : bo → Bool} {i : Nat} {c : bo} (h : l.drop i = c :: l.drop (i + 1)) : (l.drop i).find? p = if p c = true then some c else (l.drop (i + 1)).find? p := by
  rw [h, List.find?_cons]; split <;> simp_all
theorem ao4 (l : List bo) (n : Name) (t : UInt16) (hl : abc l) (hn : be n) : wl PP [dr, C8] 0 (Tryz.f11.body.getD .skip) (dj PP Tryz.f11.results.toList (fun r st => (r2 aq bt).get true st.h r = some ((iu l n t).getD mw, (iu l n t).isSome))) (bw 0 [(cr aq).val false l, ar.val false n, c8.val false t]) (bp []) := by
  have hlen := hl.1
  unfold Tryz.f11
  simp only [di]
  simp only [↓wR, RA, simprocAttr, TF, ae]
  refine dh [1, 2, 6, 10, 11, 12] (fun (i : Nat) => [.vl false 1 (n.map (an.val false)), .sc (.int .u16 t.toNat), .ptr 0 0, .vl false 5 (l.map (aq.val false)), .sc (.int .i64 (l.length)), .sc (.int .i64 (i))]) (fun _ => [some (.row [.sc (.slice none 0 0), .sc (.int .u16 0), .sc (.int .u16 0), .sc (.int .u32 0), .sc (.slice none 0 0)] 0 2 40)]) (fun i => i ≤ l.length ∧ iu l n t = (l.drop i).find? (v9 n t)) (fun i => l.length - i) 0 ⟨Nat.zero_le _, rfl⟩ (by simp only [↓wR, RA, simprocAttr, TF, ae] <;> rfl) (by simp only [↓wR, RA, simprocAttr, TF, ae] <;> rfl) ?_
  rintro i ⟨hi, hx⟩
  simp only [↓wR, RA, simprocAttr, TF, ae]
  rw [bj]; refine ⟨fun h => ?_, fun h => ?_⟩
  · obtain ⟨c, hc, hd1, hlt⟩ := dt (decide_eq_true h)
    rw [Wi hd1] at hx
    have hcs := hl.2 c (List.mem_of_getElem? hc)
    simp only [↓wR, RA, simprocAttr, TF, ae, h, hc]
    rw [cy]; refine ⟨fun ⟨h1, e1⟩ => ?_, fun ⟨h1, e1⟩ => ?_⟩
    · simp only [↓wR, RA, simprocAttr, TF, ae, h1]
      rw [cy]; refine ⟨fun ⟨h2, e2⟩ => ?_, fun ⟨h2, e2⟩ => ?_⟩
      · simp only [↓wR, RA, simprocAttr, TF, ae, h2, ia, hcs.owner, hn]
        rw [bk]; refine ⟨fun h3 => ?_, fun h3 => ?_⟩
        · have hp : v9 n t c = true := by simp [v9, e1, e2, h3]
          rw [if_pos hp] at hx
          simp only [↓wR, RA, simprocAttr, TF, ae, h3, q8, hcs, hx]; repeat (simp (disch := omega) only [ah, ca, cb, bz, b9]; try simp only [↓wR, RA, simprocAttr, TF, ae, h3, q8, hcs, hx])
        · have hp : v9 n t c = false := by simp [v9, h3]
          rw [hp, if_neg (by decide)] at hx
          simp only [↓wR, RA, simprocAttr, TF, ae, h3]; repeat (simp (disch := omega) only [ah, ca, cb, bz, b9]; try simp only [↓wR, RA, simprocAttr, TF, ae, h3])
          exact ⟨i + 1, ⟨hlt, hx⟩, by omega, by (first | rfl | trivial | omega | ((try (simp (disch := omega) only [ah])); (try (simp only [FB])); first | done | rfl | omega))⟩
      · have hp : v9 n t c = false := by simp [v9, e2]
        rw [hp, if_neg (by decide)] at hx
        simp only [↓wR, RA, simprocAttr, TF, ae, h2]; repeat (simp (disch := omega) only [ah, ca, cb, bz, b9]; try simp only [↓wR, RA, simprocAttr, TF, ae, h2])
        exact ⟨i + 1, ⟨hlt, hx⟩, by omega, by (first | rfl | trivial | omega | ((try (simp (disch := omega) only [ah])); (try (simp only [FB])); first | done | rfl | omega))⟩
    · have hp : v9 n t c = false := by simp [v9, e1]
      rw [hp, if_neg (by decide)] at hx
      simp only [↓wR, RA, simprocAttr, TF, ae, h1]; repeat (simp (disch := omega) only [ah, ca, cb, bz, b9]; try simp only [↓wR, RA, simprocAttr, TF, ae, h1])
      exact ⟨i + 1, ⟨hlt, hx⟩, by omega, by (first | rfl | trivial | omega | ((try (simp (disch := omega) only [ah])); (try (simp only [FB])); first | done | rfl | omega))⟩
  · rw [dv (decide_eq_false h), List.find?_nil] at hx
    simp only [↓wR, RA, simprocAttr, TF, ae, h, hx]
    rfl
noncomputable def uu (x : List bo × Name × UInt16 × Unit) : Option AV := if abc x.1 ∧ be x.2.1 then some ((r2 aq bt).E true (((iu x.1 x.2.1 x.2.2.1).getD mw, (iu x.1 x.2.1 x.2.2.1).isSome))) else none
set_option maxRecDepth 2000000 in
theorem uh (x : List bo × Name × UInt16 × Unit) (r : AV) (h : uu x = some r) : bf PP 11 ((aC (cr aq) (aC ar (aC c8 a0))).E x) r := by
  by_cases hc : abc x.1 ∧ be x.2.1
  case neg => simp only [uu, if_neg hc] at h; cases h
  simp only [uu, if_pos hc] at h
  cases h
  exact ba (ak.cons (ai fv) (ak.cons (ai y6) (ak.nil PP))) Tryz.func11 (by kernel_rfl) (by kernel_rfl) (by kernel_rfl) (Nat.le_of_ble_eq_true (by kernel_rfl)) (r2 aq bt) true (((iu x.1 x.2.1 x.2.2.1).getD mw, (iu x.1 x.2.1 x.2.2.1).isSome)) (ao4 x.1 x.2.1 x.2.2.1 hc.1 hc.2)
noncomputable abbrev Bs : Nat × Bool × (List AV → M AV) := (11, true, dc (aC (cr aq) (aC ar (aC c8 a0))) uu)
theorem ajm (fr h) : c8.fo fr h (.sc (.int .u16 1)) = some 1 := ve fr h 1
theorem aua (fr h) : c8.fo fr h (.sc (.int .u16 2)) = some 2 := ve fr h 2
theorem as9 (fr h) : c8.fo fr h (.sc (.int .u16 5)) = some 5 := ve fr h 5
theorem auc (fr h) : c8.fo fr h (.sc (.int .u16 6)) = some 6 := ve fr h 6
theorem apy (fr h) : c8.fo fr h (.sc (.int .u16 28)) = some 28 := ve fr h 28
theorem Qv : type_of% @ajm ∧ type_of% @aua ∧ type_of% @as9 ∧ type_of% @auc ∧ type_of% @apy := ⟨@ajm, @aua, @as9, @auc, @apy⟩
theorem abi (fr h k st et) (s : bo) : nf aq fr h 0 1 (.row [.vl true 1 (s.owner.map (an.val false)), .sc (.int .u16 s.type.toNat), .sc (.int .u16 s.cls.toNat), .sc (.int .u32 s.sr.toNat), .vl true 4 (s.data.map (cd.val true))] k st et) = some [s] := Dj aq fr h true [s] k st et 1 rfl rfl
theorem nj.axn {az : Nat} {vs vs' : List AV} {os os' : List (Option bc)} (hp : az ≤ 1000) (hV : AV.db.go (fun o => idx (r8 az vs os) o 0) vs = vs') (hO : gz (bp os).h (fun o => idx (r8 az vs os) o 0) (r8 az vs os) = os') : nj az vs os vs' os' := by
  subst hV hO; exact nj.canon hp
noncomputable def ov (z : bb) (n : Name) (t : UInt16) : Bg × Int :=
  if (ir z n).2 = 0 ∧ ((t.toNat : Int) = 0 ∨ (t.toNat : Int) = 41) then (x7 0 [] [], 6) else ir z n
theorem aon (z : bb) (n : Name) (t : UInt16) (hz : c9 z) (hn : be n) : wl PP [ayc] 0 (Tryz.f35.body.getD .skip) (dj PP Tryz.f35.results.toList (fun r st => (r2 qi (aw .i64)).get true st.h r = some (ov z n t))) (bw 0 [bg.val false z, ar.val false n, c8.val false t]) (bp []) := by
  unfold Tryz.f35
  simp only [ig, di]
  unfold ov
  rcases hf : ir z n with ⟨⟨k, nd, cl⟩, e⟩
  simp only [↓wR, RA, simprocAttr, TF, ae, Lx, hz, hn, hf]
  rw [cy]; refine ⟨fun ⟨h1, e1⟩ => ?_, fun ⟨h1, e1⟩ => ?_⟩
  · simp only [↓wR, RA, simprocAttr, TF, ae, h1]
    rw [cy]; refine ⟨fun ⟨h2, e2⟩ => ?_, fun ⟨h2, e2⟩ => ?_⟩
    · rw [if_pos ⟨e1, .inl e2⟩]
      simp only [↓wR, RA, simprocAttr, TF, ae, h2]
    · simp only [↓wR, RA, simprocAttr, TF, ae, h2]
      rw [cy]; refine ⟨fun ⟨h3, e3⟩ => ?_, fun ⟨h3, e3⟩ => ?_⟩
      · rw [if_pos ⟨e1, .inr e3⟩]
        simp only [↓wR, RA, simprocAttr, TF, ae, h3]
      · rw [if_neg (fun q => q.2.elim e2 e3)]
        simp only [↓wR, RA, simprocAttr, TF, ae, h3]
        rfl
  · rw [if_neg (fun q => e1 q.1)]
    simp only [↓wR, RA, simprocAttr, TF, ae, h1]
    rfl
noncomputable def C7 (x : bb × Name × UInt16 × Unit) : Option AV := if c9 x.1 ∧ be x.2.1 then some ((r2 qi (aw .i64)).E true (ov x.1 x.2.1 x.2.2.1)) else none
set_option maxRecDepth 2000000 in
theorem afx (x : bb × Name × UInt16 × Unit) (r : AV) (h : C7 x = some r) : bf PP 35 ((aC bg (aC ar (aC c8 a0))).E x) r := by
  by_cases hc : c9 x.1 ∧ be x.2.1
  case neg => simp only [C7, if_neg hc] at h; cases h
  simp only [C7, if_pos hc] at h
  cases h
  exact ba (ak.cons (ai ajo) (ak.nil PP)) Tryz.func35 (by kernel_rfl) (by kernel_rfl) (by kernel_rfl) (Nat.le_of_ble_eq_true (by kernel_rfl)) (r2 qi (aw .i64)) true (ov x.1 x.2.1 x.2.2.1) (aon x.1 x.2.1 x.2.2.1 hc.1 hc.2)
noncomputable abbrev aww : Nat × Bool × (List AV → M AV) := (35, true, dc (aC bg (aC ar (aC c8 a0))) C7)
theorem agp {s : bo} (h : qs s = 0) : ∃ d, s.data[0]? = some d ∧ fk s.type d = 0 := by
  unfold qs at h
  split at h
  · contradiction
  split at h
  · cases h
  rename_i _ q
  split at h
  · cases h
  cases hd : s.data with
  | nil => exact (q (by rw [hd]; rfl)).elim
  | cons d r =>
    rw [hd, qz] at h
    split at h
    · contradiction
    · rename_i q; exact ⟨d, rfl, by omega⟩
theorem Tz {s : bo} (h : qs s = 0) : ∀ d ∈ s.data, fk s.type d = 0 := by
  have key : ∀ (l pre : List c7), qz s.type pre l = 0 → ∀ d ∈ l, fk s.type d = 0 := by
    intro l
    induction l with
    | nil => intro pre _ d hd; cases hd
    | cons a l ih =>
      intro pre h d hd
      rw [qz] at h
      split at h
      · contradiction
      split at h
      · cases h
      rcases List.mem_cons.1 hd with rfl | hd
      · omega
      · exact ih _ h d hd
  unfold qs at h
  split at h
  · contradiction
  split at h
  · cases h
  split at h
  · cases h
  exact key _ _ h
theorem It {t : UInt16} {d : c7} (h : fk t d = 0) : (d.names.length : Int) = (jd t).names ∧ (d.nums.length : Int) = (jd t).nums := by
  have hf : yy (jd t) t d = true := by
    unfold fk at h
    split at h
    · cases h
    split at h
    · cases h
    · rename_i q; simpa using q
  unfold yy at hf
  split at hf
  · cases hf
  · rename_i q
    exact ⟨Decidable.byContradiction fun e => q (.inl e), Decidable.byContradiction fun e => q (.inr (.inl e))⟩
theorem asj {s : bo} (h : qs s = 0) (ht : (s.type.toNat : Int) = 5) : ∃ d n, s.data[0]? = some d ∧ d.names[0]? = some n := by
  obtain ⟨d, hd, he⟩ := agp h
  have h1 := (It he).1
  have h2 : (jd s.type).names = 1 := by
    unfold jd; rw [ht]; rfl
  rw [h2] at h1
  have : 0 < d.names.length := by omega
  exact ⟨d, d.names[0], hd, List.getElem?_eq_getElem this⟩
theorem Kn {z : bb} (h : iw z = 0) : ∀ s ∈ z.aj, qs s = 0 := by
  have hf := (Su h).first
  unfold tu at hf
  split at hf
  · contradiction
  have key : ∀ (l : List bo) (e : Int), Fs l e = 0 → e = 0 ∧ ∀ s ∈ l, qs s = 0 := by
    intro l
    induction l with
    | nil => intro e h; exact ⟨h, fun s hs => by cases hs⟩
    | cons a l ih =>
      intro e h
      rw [Fs] at h
      obtain ⟨h1, h2⟩ := ih _ h
      split at h1
      · rename_i e0
        exact ⟨e0, fun s hs => (List.mem_cons.1 hs).elim (fun q => q ▸ h1) (h2 s)⟩
      · rename_i e0; exact (e0 h1).elim
  exact (key _ _ hf).2
theorem y9 {l : List bo} {n : Name} {t : UInt16} {s : bo} (h : iu l n t = some s) : s ∈ l ∧ (s.type.toNat : Int) = t.toNat ∧ (s.cls.toNat : Int) = 1 ∧ ee s.owner n = true := by
  have h1 := List.mem_of_find?_eq_some h
  have h2 := List.find?_some h
  simp only [v9, Bool.and_eq_true, decide_eq_true_eq] at h2
  exact ⟨h1, h2.1, h2.2.1, h2.2.2⟩
def xr (n : Name) (s : bo) : bo := mkS n s.type s.cls s.sr s.data
theorem apx {xs : List bo} {i : Nat} {c : bo} (n : Name) (k : Nat) (et : TypeId) (id : Nat) (hc : xs[i]? = some c) :
    xq id (i * 5) 1 [ar.val true n] (.row (cellsOf aq true xs) 0 k et) = (ic id (.row (cellsOf aq true (xs.take i ++ xr n c :: xs.drop (i + 1))) 0 k et)).bind fun _ => .pure (.sc undef) := by
  obtain ⟨hi, rfl⟩ := List.getElem?_eq_some_iff.1 hc
  have h0 : xs = xs.take i ++ xs[i] :: xs.drop (i + 1) := by rw [← List.drop_eq_getElem_cons hi, List.take_append_drop]
  have hl : (cellsOf aq true xs).length = xs.length * 5 := w6 aq true xs
  have h1 : (cellsOf aq true xs).take (i * 5) = cellsOf aq true (xs.take i) := aet aq true xs i
  have h2 : (cellsOf aq true xs).drop (i * 5) = cellsOf aq true (xs.drop i) := aez aq true xs i
  have h3 : (cellsOf aq true xs).drop (i * 5 + 1) = (aq.cells true xs[i]).drop 1 ++ cellsOf aq true (xs.drop (i + 1)) := by
    rw [← List.drop_drop, h2, List.drop_eq_getElem_cons hi, Kg]; rfl
  have hlt : i * 5 + 1 ≤ xs.length * 5 := by omega
  have h4 : (cellsOf aq true xs).take (i * 5) ++ [ar.val true n] ++ (cellsOf aq true xs).drop (i * 5 + 1) = cellsOf aq true (xs.take i ++ xr n xs[i] :: xs.drop (i + 1)) := by
    rw [h1, h3, Gg, Kg, List.append_assoc]; rfl
  have hone : [ar.val true n].all AV.one = true := rfl
  unfold xq
  simp only [hl, Nat.ble_eq_true_of_le hlt, h4, hone]
  rfl
end Go.Proofs.YtidomogemfchpaaGreat
end
section
set_option linter.unusedSimpArgs false
set_option linter.unusedVariables false
namespace Go.Proofs.YtidomogemfchpaaGreat
open Go.Vm
set_option maxRecDepth 2000000
def aae (t : UInt16) (l : List bo) : Ez :=
  if (t.toNat : Int) = 255 ∧ 0 < l.length then xu 0 l []
  else match l.find? (fun s => decide ((s.type.toNat : Int) = t.toNat)) with
    | some x => xu 0 [x] []
    | none => match l.find? (fun s => decide ((s.type.toNat : Int) = 5) && decide ((t.toNat : Int) ≠ 255)) with
      | some x => xu 1 [x] (((x.data[0]?).bind fun d => d.names[0]?).getD [])
      | none => xu 2 [] []
noncomputable def rp (z : bb) (n : Name) (t : UInt16) (s : Bg) : Ez :=
  if s.kind = 4 then xu 4 [(iu z.aj s.node 2).getD mw] []
  else if s.kind = 0 then xu 3 [] []
  else if s.kind = 2 then xu 2 [] []
  else aae t (if s.kind = 3 then (jw z s.node).map (xr n) else jw z s.node)
theorem m11 : vv 1 [1] = true := id rfl
theorem m01 : vv 0 [1] = false := id rfl
set_option maxHeartbeats 4000000 in
theorem aut (z : bb) (n : Name) (t : UInt16) (s : Bg) (hz : c9 z) (hn : be n) (he : iw z = 0) (hsn : be s.node) : wl PP [Bs, dr, C8, oq] 0 (Tryz.f59.body.getD .skip) (dj PP Tryz.f59.results.toList (fun r st => (r1 wa).get true st.h r = some (rp z n t s))) (bw 0 [bg.val false z, ar.val false n, c8.val false t, qi.val false s]) (bp []) := by
  have hl := hz.len
  have ok : ak PP [Bs, dr, C8, oq] := ak.cons (ai uh) (ak.cons (ai fv) (ak.cons (ai y6) (ak.cons (ai j8) (ak.nil PP))))
  unfold Tryz.f59
  simp only [ig, di, F4]
  simp only [↓wR, RA, simprocAttr, TF, ae]
  unfold rp
  rw [cy]; refine ⟨fun ⟨h4, e4⟩ => ?_, fun ⟨h4, e4⟩ => ?_⟩
  · rw [if_pos e4]
    simp only [↓wR, RA, simprocAttr, TF, ae, h4, Qv, uu, hz.mid, hsn, abi]
  rw [if_neg e4]
  simp only [↓wR, RA, simprocAttr, TF, ae, h4]
  rw [cy]; refine ⟨fun ⟨h0, e0⟩ => ?_, fun ⟨h0, e0⟩ => ?_⟩
  · rw [if_pos e0]
    simp only [↓wR, RA, simprocAttr, TF, ae, h0]
  rw [if_neg e0]
  simp only [↓wR, RA, simprocAttr, TF, ae, h0]
  rw [cy]; refine ⟨fun ⟨h2, e2⟩ => ?_, fun ⟨h2, e2⟩ => ?_⟩
  · rw [if_pos e2]
    simp only [↓wR, RA, simprocAttr, TF, ae, h2]
  rw [if_neg e2]
  simp only [↓wR, RA, simprocAttr, TF, ae, h2]
  refine dw (fun r st' => r = .sl 3 0 (jw z s.node).length 5 ∧ st' = bp [some (.row [.vl false 1 (z.origin.map (an.val false)), .vl false 5 (z.aj.map (aq.val false))] 0 2 26), some (.row [.sc (.int .u8 s.kind), .vl false 1 (s.node.map (an.val false)), .vl false 1 (s.ur.map (an.val false))] 0 2 90), some (.row [.sc (.int .u8 0), .sc (.slice none 0 0), .sc (.slice none 0 0)] 0 2 64), some (.row (cellsOf aq true (jw z s.node)) 0 0 40)]) rfl ?_ ?_
  · refine bq (T := [Bs, dr, C8, oq]) ok mixed Tryz.func96 rfl (by kernel_rfl) (by kernel_rfl) (by kernel_rfl) (by kernel_rfl) ?_; unfold Tryz.f96
    simp only [↓wR, RA, simprocAttr, TF, ae]
    refine kl [1, 9, 10, 11, 5] (fun (x : Nat × List bo) => [.vl false 1 (s.node.map (an.val false)), .vl false 5 (z.aj.map (aq.val false)), .sc (.int .i64 (z.aj.length)), .sc (.int .i64 (x.1)), .sl 3 0 x.2.length 5]) (fun x => [some (.row [.vl false 1 (z.origin.map (an.val false)), .vl false 5 (z.aj.map (aq.val false))] 0 2 26), some (.row [.sc (.int .u8 s.kind), .vl false 1 (s.node.map (an.val false)), .vl false 1 (s.ur.map (an.val false))] 0 2 90), some (.row [.sc (.int .u8 0), .sc (.slice none 0 0), .sc (.slice none 0 0)] 0 2 64), some (.row (cellsOf aq true (x.2)) 0 0 40)]) (fun x => x.1 ≤ z.aj.length ∧ x.2 ++ (z.aj.drop x.1).filter (fun q => ee q.owner s.node) = jw z s.node) (fun x => z.aj.length - x.1) (0, []) ⟨Nat.zero_le _, rfl⟩ (by simp only [↓wR, RA, simprocAttr, TF, ae]; (refine nj.lax [] (by first | exact Nat.le_of_ble_eq_true rfl | (simp [cq]; omega)) ?_ ?_ <;> repeat' first | exact i7.nil | exact dn.nil | exact je.same _ | exact je.nil _ _ _ | exact je.wm _ _ | exact dn.refl _ _ | apply i7.cons | apply dn.ghost | apply dn.same | apply dn.row)) ?_
    rintro ⟨i, x⟩ ⟨hi, hx⟩
    simp only at hi hx
    have hxl : x.length ≤ z.aj.length := by
      have h1 := s5 (l := z.aj) (fun q => ee q.owner s.node)
      have h2 := congrArg List.length hx
      simp only [List.length_append, jw] at h2
      omega
    simp only [↓wR, RA, simprocAttr, TF, ae]
    rw [bj]; refine ⟨fun h => ?_, fun h => ?_⟩
    · obtain ⟨c, hc, hd1, hlt⟩ := dt (decide_eq_true h)
      rw [L6 hd1] at hx
      have hcs := hz.set c (List.mem_of_getElem? hc)
      simp only [↓wR, RA, simprocAttr, TF, ae, h, hc, ia, hcs.owner, hsn]
      rw [bk]; refine ⟨fun h1 => ?_, fun h1 => ?_⟩
      · rw [if_pos h1] at hx
        have hlim : (x.length * 5 + 5) * 64 ≤ 140737488355328 := by omega
        simp only [↓wR, RA, simprocAttr, TF, ae, h1, q8, hcs, hlim]; repeat (simp (disch := omega) only [ah, ca, cb, bz, b9]; try simp only [↓wR, RA, simprocAttr, TF, ae, h1, q8, hcs, hlim])
        refine ⟨(i + 1, x ++ [c]), ⟨hlt, by rw [← hx]; simp⟩, by simp; omega, by (first | rfl | trivial | omega | ((try (simp (disch := omega) only [ah])); (try (simp only [FB])); first | done | rfl | omega)), ?_⟩
        rw [Kf]
      · rw [if_neg (by rw [h1]; decide)] at hx
        simp only [↓wR, RA, simprocAttr, TF, ae, h1]; repeat (simp (disch := omega) only [ah, ca, cb, bz, b9]; try simp only [↓wR, RA, simprocAttr, TF, ae, h1])
        exact ⟨(i + 1, x), ⟨hlt, hx⟩, by simp; omega, by (first | rfl | trivial | omega | ((try (simp (disch := omega) only [ah])); (try (simp only [FB])); first | done | rfl | omega)), by (first | rfl | trivial | omega | ((try (simp (disch := omega) only [ah])); (try (simp only [FB])); first | done | rfl | omega))⟩
    · rw [dv (decide_eq_false h)] at hx
      rw [List.filter_nil, List.append_nil] at hx
      subst hx
      simp only [↓wR, RA, simprocAttr, TF, ae, h, g8, gx, gq]
  rintro _ _ ⟨rfl, rfl⟩
  simp only [↓wR, RA, simprocAttr, TF, ae, gm]
  rw [cy]; refine ⟨fun ⟨h3, e3⟩ => ?_, fun ⟨h3, e3⟩ => ?_⟩
  rotate_left
  rw [if_neg e3]
  simp only [↓wR, RA, simprocAttr, TF, ae, h3]
  obtain ⟨L, hLe⟩ : ∃ L, L = jw z s.node := ⟨_, rfl⟩
  have hLd : ∀ x ∈ L, ∃ y ∈ z.aj, x.data = y.data ∧ x.type = y.type := fun x hx => ⟨x, by rw [hLe] at hx; exact (List.mem_filter.1 hx).1, rfl, rfl⟩
  have hLl : L.length = (jw z s.node).length := by rw [hLe]
  rw [← hLl, ← hLe]
  clear hLe
  rotate_left
  rw [if_pos e3]
  simp only [↓wR, RA, simprocAttr, TF, ae, h3]
  refine dw (fun r st' => r = .sl 3 0 (jw z s.node).length 5 ∧ st' = bp [some (.row [.vl false 1 (z.origin.map (an.val false)), .vl false 5 (z.aj.map (aq.val false))] 0 2 26), some (.row [.sc (.int .u8 s.kind), .vl false 1 (s.node.map (an.val false)), .vl false 1 (s.ur.map (an.val false))] 0 2 90), some (.row [.sc (.int .u8 0), .sc (.slice none 0 0), .sc (.slice none 0 0)] 0 2 64), some (.row (cellsOf aq true ((jw z s.node).map (xr n))) 0 0 40)]) rfl ?_ ?_
  · refine bq (T := [Bs, dr, C8, oq]) ok mixed Tryz.func97 rfl (by kernel_rfl) (by kernel_rfl) (by kernel_rfl) (by kernel_rfl) ?_; unfold Tryz.f97
    simp only [↓wR, RA, simprocAttr, TF, ae]
    refine dh [0, 1, 7, 8] (fun (i : Nat) => [.sl 3 0 (jw z s.node).length 5, .vl false 1 (n.map (an.val false)), .sc (.int .i64 ((jw z s.node).length)), .sc (.int .i64 (i))]) (fun i => [some (.row [.vl false 1 (z.origin.map (an.val false)), .vl false 5 (z.aj.map (aq.val false))] 0 2 26), some (.row [.sc (.int .u8 s.kind), .vl false 1 (s.node.map (an.val false)), .vl false 1 (s.ur.map (an.val false))] 0 2 90), some (.row [.sc (.int .u8 0), .sc (.slice none 0 0), .sc (.slice none 0 0)] 0 2 64), some (.row (cellsOf aq true (((jw z s.node).take i).map (xr n) ++ (jw z s.node).drop i)) 0 0 40)]) (fun i => i ≤ (jw z s.node).length) (fun i => (jw z s.node).length - i) 0 (Nat.zero_le _) (by simp only [↓wR, RA, simprocAttr, TF, ae] <;> rfl) (by simp only [↓wR, RA, simprocAttr, TF, ae] <;> rfl) ?_
    intro i hi
    have hal : (jw z s.node).length ≤ z.aj.length := s5 _
    simp only [↓wR, RA, simprocAttr, TF, ae]
    rw [bj]; refine ⟨fun h => ?_, fun h => ?_⟩
    · obtain ⟨c, hc, hd1, hlt⟩ := dt (decide_eq_true h)
      have hys : (((jw z s.node).take i).map (xr n) ++ (jw z s.node).drop i)[i]? = some c := by
        rw [List.getElem?_append_right (by simp; omega), hd1]
        simp [Nat.min_eq_left (show i ≤ (jw z s.node).length by omega)]
      have hst := apx (xs := ((jw z s.node).take i).map (xr n) ++ (jw z s.node).drop i) n 0 40 3 hys
      have hyt : (((jw z s.node).take i).map (xr n) ++ (jw z s.node).drop i).take i ++ xr n c :: (((jw z s.node).take i).map (xr n) ++ (jw z s.node).drop i).drop (i + 1) = ((jw z s.node).take (i + 1)).map (xr n) ++ (jw z s.node).drop (i + 1) := by
        obtain ⟨_, rfl⟩ := List.getElem?_eq_some_iff.1 hc
        have hlm : (((jw z s.node).take i).map (xr n)).length = i := by simp; omega
        rw [List.take_left' hlm, List.drop_append, hlm, List.take_succ_eq_append_getElem hlt, List.map_append]
        rw [List.drop_eq_nil_of_le (by omega), List.drop_drop, Nat.add_sub_cancel_left]
        simp
      rw [hyt] at hst
      simp only [↓wR, RA, simprocAttr, TF, ae, h, jo, hn, ↓hst]; repeat (simp (disch := omega) only [ah, ca, cb, bz, b9]; try simp only [↓wR, RA, simprocAttr, TF, ae, h, jo, hn, ↓hst])
      exact ⟨i + 1, hlt, by omega, by (first | rfl | trivial | omega | ((try (simp (disch := omega) only [ah])); (try (simp only [FB])); first | done | rfl | omega))⟩
    · have hin : i = (jw z s.node).length := by omega
      subst hin
      simp only [↓wR, RA, simprocAttr, TF, ae, h, g8, gx, gq, List.take_length, List.drop_length, List.append_nil]
  rintro _ _ ⟨rfl, rfl⟩
  simp only [↓wR, RA, simprocAttr, TF, ae, gm]
  obtain ⟨L, hLe⟩ : ∃ L, L = (jw z s.node).map (xr n) := ⟨_, rfl⟩
  have hLd : ∀ x ∈ L, ∃ y ∈ z.aj, x.data = y.data ∧ x.type = y.type := fun x hx => by
    rw [hLe] at hx
    obtain ⟨y, hy, rfl⟩ := List.mem_map.1 hx
    exact ⟨y, (List.mem_filter.1 hy).1, rfl, rfl⟩
  have hLl : L.length = (jw z s.node).length := by rw [hLe, List.length_map]
  rw [← hLl, ← hLe]
  clear hLe
  all_goals
    unfold aae
    have hL0 : L.length ≤ z.aj.length := by rw [hLl]; exact s5 _
    by_cases hany : (t.toNat : Int) = 255 ∧ 0 < L.length
    · rw [if_pos hany]
      have e5 : ((t.toNat : Int) == 255) = true := by rw [hany.1]; rfl
      have e6 : decide ((L.length : Int) > 0) = true := decide_eq_true (by omega)
      simp only [↓wR, RA, simprocAttr, TF, ae, e5, e6]
    rw [if_neg hany]
    by_cases h5 : (t.toNat : Int) = 255
    rotate_left
    have e5 : ((t.toNat : Int) == 255) = false := by simpa using h5
    simp only [↓wR, RA, simprocAttr, TF, ae, e5]
    rotate_left
    have e5 : ((t.toNat : Int) == 255) = true := by rw [h5]; rfl
    have e6 : decide ((L.length : Int) > 0) = false := decide_eq_false (by omega)
    simp only [↓wR, RA, simprocAttr, TF, ae, e5, e6]
    all_goals
      refine kl [2, 8, 11, 56, 57, 58] (fun (i : Nat) => [.sc (.int .u16 t.toNat), .ptr 0 0, .vl true 5 (L.map (aq.val true)), .vl true 5 (L.map (aq.val true)), .sc (.int .i64 (L.length)), .sc (.int .i64 (i))]) (fun _ => [some (.row [.sc (.int .u8 0), .sc (.slice none 0 0), .sc (.slice none 0 0)] 0 2 64)]) (fun i => i ≤ L.length ∧ L.find? (fun s => decide ((s.type.toNat : Int) = t.toNat)) = (L.drop i).find? (fun s => decide ((s.type.toNat : Int) = t.toNat))) (fun i => L.length - i) 0 ⟨Nat.zero_le _, rfl⟩ (by simp only [↓wR, RA, simprocAttr, TF, ae]; refine .trans (nj.lax [1] (Nat.le_of_ble_eq_true rfl) (.cons (.same _) (.cons (.same _) (.cons (.data (cr aq) true L _ ?_) (.cons (.data (cr aq) true L _ ?_) (.cons (.same _) (.cons (.same _) .nil)))))) (.same (.same .nil))) (nj.axn (by decide) ?_ ?_) <;> simp only [↓wR, RA, simprocAttr, TF, ae, y7, A4, m11, m01, r8]) ?_
      rintro i ⟨hi, hx⟩
      simp only [↓wR, RA, simprocAttr, TF, ae]
      rw [bj]; refine ⟨fun h => ?_, fun h => ?_⟩
      · obtain ⟨c, hc, hd1, hlt⟩ := dt (decide_eq_true h)
        by_cases h5 : (t.toNat : Int) = 255
        · omega
        rw [Wi hd1] at hx
        simp only [↓wR, RA, simprocAttr, TF, ae, h, hc]
        rw [cy]; refine ⟨fun ⟨h1, e1⟩ => ?_, fun ⟨h1, e1⟩ => ?_⟩
        · rw [if_pos (decide_eq_true e1)] at hx
          simp only [↓wR, RA, simprocAttr, TF, ae, h1, hx, abi]
        · rw [decide_eq_false e1, if_neg (by decide)] at hx
          simp only [↓wR, RA, simprocAttr, TF, ae, h1]; repeat (simp (disch := omega) only [ah, ca, cb, bz, b9]; try simp only [↓wR, RA, simprocAttr, TF, ae, h1])
          exact ⟨i + 1, ⟨hlt, hx⟩, by omega, by (first | rfl | trivial | omega | ((try (simp (disch := omega) only [ah])); (try (simp only [FB])); first | done | rfl | omega))⟩
      rw [dv (decide_eq_false h), List.find?_nil] at hx
      rw [hx]
      simp only [↓wR, RA, simprocAttr, TF, ae, h]
      clear h hx hi
      refine dh [2, 8, 70, 71, 72] (fun (i : Nat) => [.sc (.int .u16 t.toNat), .ptr 0 0, .vl true 5 (L.map (aq.val true)), .sc (.int .i64 (L.length)), .sc (.int .i64 (i))]) (fun _ => [some (.row [.sc (.int .u8 0), .sc (.slice none 0 0), .sc (.slice none 0 0)] 0 2 64)]) (fun i => i ≤ L.length ∧ L.find? (fun s => decide ((s.type.toNat : Int) = 5) && decide ((t.toNat : Int) ≠ 255)) = (L.drop i).find? (fun s => decide ((s.type.toNat : Int) = 5) && decide ((t.toNat : Int) ≠ 255))) (fun i => L.length - i) 0 ⟨Nat.zero_le _, rfl⟩ (by simp only [↓wR, RA, simprocAttr, TF, ae] <;> rfl) (by simp only [↓wR, RA, simprocAttr, TF, ae] <;> rfl) ?_
      rintro i ⟨hi, hx⟩
      simp only [↓wR, RA, simprocAttr, TF, ae]
      rw [bj]; refine ⟨fun h => ?_, fun h => ?_⟩
      · obtain ⟨c, hc, hd1, hlt⟩ := dt (decide_eq_true h)
        by_cases h5 : (t.toNat : Int) = 255
        · omega
        have hne : ((t.toNat : Int) != 255) = true := by simpa using h5
        rw [Wi hd1] at hx
        simp only [↓wR, RA, simprocAttr, TF, ae, h, hc]
        rw [cy]; refine ⟨fun ⟨h1, e1⟩ => ?_, fun ⟨h1, e1⟩ => ?_⟩
        · have hp : (decide ((c.type.toNat : Int) = 5) && decide ((t.toNat : Int) ≠ 255)) = true := by rw [decide_eq_true e1, decide_eq_true h5]; rfl
          rw [if_pos hp] at hx
          obtain ⟨y, hy, hyd, hyt⟩ := hLd c (List.mem_of_getElem? hc)
          obtain ⟨d, m, hd, hm⟩ := asj (Kn he y hy) (by rw [← hyt]; exact e1)
          rw [← hyd] at hd
          have hms : be m := by
            have := (hz.set y hy).data.mem d (by rw [← hyd]; exact List.mem_of_getElem? hd)
            exact this.name m (List.mem_of_getElem? hm)
          simp only [↓wR, RA, simprocAttr, TF, ae, h1, hne]
          refine ⟨by kernel_rfl, .inl ?_⟩
          simp only [↓wR, RA, simprocAttr, TF, ae, hd, hm, hx, jo, hms, abi]
          exact (by kernel_rfl)
        · have hp : (decide ((c.type.toNat : Int) = 5) && decide ((t.toNat : Int) ≠ 255)) = false := by rw [decide_eq_false e1]; rfl
          rw [hp, if_neg (by decide)] at hx
          simp only [↓wR, RA, simprocAttr, TF, ae, h1]; repeat (simp (disch := omega) only [ah, ca, cb, bz, b9]; try simp only [↓wR, RA, simprocAttr, TF, ae, h1])
          exact ⟨i + 1, ⟨hlt, hx⟩, by omega, by (first | rfl | trivial | omega | ((try (simp (disch := omega) only [ah])); (try (simp only [FB])); first | done | rfl | omega))⟩
      rw [dv (decide_eq_false h), List.find?_nil] at hx
      rw [hx]
      simp only [↓wR, RA, simprocAttr, TF, ae, h]
noncomputable def Mx (x : bb × Name × UInt16 × Bg × Unit) : Option AV := if (c9 x.1 ∧ be x.2.1) ∧ (iw x.1 = 0 ∧ be x.2.2.2.1.node) then some ((r1 wa).E true (rp x.1 x.2.1 x.2.2.1 x.2.2.2.1)) else none
set_option maxRecDepth 2000000 in
theorem akb (x : bb × Name × UInt16 × Bg × Unit) (r : AV) (h : Mx x = some r) : bf PP 59 ((aC bg (aC ar (aC c8 (aC qi a0)))).E x) r := by
  by_cases hc : (c9 x.1 ∧ be x.2.1) ∧ (iw x.1 = 0 ∧ be x.2.2.2.1.node)
  case neg => simp only [Mx, if_neg hc] at h; cases h
  simp only [Mx, if_pos hc] at h
  cases h
  exact ba (ak.cons (ai uh) (ak.cons (ai fv) (ak.cons (ai y6) (ak.cons (ai j8) (ak.nil PP))))) Tryz.func59 (by kernel_rfl) (by kernel_rfl) (by kernel_rfl) (Nat.le_of_ble_eq_true (by kernel_rfl)) (r1 wa) true (rp x.1 x.2.1 x.2.2.1 x.2.2.2.1) (aut x.1 x.2.1 x.2.2.1 x.2.2.2.1 hc.1.1 hc.1.2 hc.2.1 hc.2.2)
noncomputable abbrev aym : Nat × Bool × (List AV → M AV) := (59, true, dc (aC bg (aC ar (aC c8 (aC qi a0)))) Mx)
end Go.Proofs.YtidomogemfchpaaGreat
end
