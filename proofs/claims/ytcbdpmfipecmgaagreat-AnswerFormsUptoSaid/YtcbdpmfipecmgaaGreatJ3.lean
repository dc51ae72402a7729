/- A piece of the proof. Proved: where the arguments are together of bulk at most 1048576, the law AnswerForms returns true (a reply has one of its four forms), and what it was given reads afterwards as it did before. No other conditions. -/
import Derived.WalkKit
import Derived.CallsIn
import Derived.RangeFuncIn
import Derived.RangeFuncLeaves
import Derived.Orders
import Derived.OrdersIn
import Derived.Scope
import Derived.RangeFuncOwn
import Derived.Stop.SameAnswer
import Derived.Laws.Externs
import Derived.Lib.Bytealg
import Derived.ProofKit
import Derived.OpenShut
import Derived.ReadAgain
import Derived.Deep.Slices
import Derived.ChangeSame
import Derived.Test.YtcbdpmfipecmgaaGreatProg
import Derived.KernelRfl
import Derived.Test.YtcbdpmfipecmgaaGreatRows
import Derived.Maps.RangeRun
import Derived.JoinedCond
import Derived.Test.YtcbdpmfipecmgaaGreatJ2
set_option linter.unusedSimpArgs false
set_option linter.unusedVariables false
section
set_option linter.unusedSimpArgs false
set_option linter.unusedVariables false
namespace Go.Proofs.YtcbdpmfipecmgaaGreat
open Go.Vm
set_option maxRecDepth 2000000
theorem agv {α : Type} {l : List (List α)} {i : Nat} {c : List α} (h : l[i]? = some c) : (l.drop i).flatten = c ++ (l.drop (i + 1)).flatten := by rw [Gv h]; rfl
theorem aso {α : Type} {l : List (List α)} {c : List α} (h : c ∈ l) : c.length ≤ l.flatten.length := by
  induction l with
  | nil => cases h
  | cons a l ih =>
    simp only [List.flatten_cons, List.length_append]
    rcases List.mem_cons.1 h with rfl | h
    · omega
    · have := ih h; omega
theorem ak3 (l : List (List UInt8)) (hl : l.length ≤ 16777216) (hf : l.flatten.length ≤ 134217728) : wl PP [] 0 (Tryz.f102.body.getD .skip) (du PP Tryz.f102.results.toList (fun r st => (r1 (cw bz)).get true st.h r = some l.flatten)) (cy 0 [(cw (cw bz)).val false l]) (bn []) := by
  unfold Tryz.f102
  rw [tn]
  simp only [↓wR, RA, simprocAttr, TF]
  refine dx [0, 3, 9, 10, 11] (fun (x : Nat × Nat) => [.vl false 1 (l.map ((cw bz).val false)), .sc (.int .i64 x.2), .vl false 1 (l.map ((cw bz).val false)), .sc (.int .i64 l.length), .sc (.int .i64 x.1)]) (fun _ => []) (fun x => x.1 ≤ l.length ∧ x.2 + (l.drop x.1).flatten.length = l.flatten.length) (fun x => l.length - x.1) (0, 0) ⟨Nat.zero_le _, by simp⟩ (by simp only [↓wR, RA, simprocAttr, TF] <;> rfl) (by simp only [↓wR, RA, simprocAttr, TF] <;> rfl) ?_
  rintro ⟨i, k⟩ ⟨hi, hk⟩
  simp only at hi hk
  simp only [↓wR, RA, simprocAttr, TF]
  rw [cp]; refine ⟨fun h => ?_, fun h => ?_⟩
  · obtain ⟨c, hc, hd1, hlt⟩ := ed (decide_eq_true h)
    rw [agv hc, List.length_append] at hk
    simp only [↓wR, RA, simprocAttr, TF, h, hc]; repeat (simp (disch := omega) only [ai, cb, cd, b9, ca]; try simp only [↓wR, RA, simprocAttr, TF, h, hc])
    rw [cp]; refine ⟨fun h1 => ?_, fun h1 => ?_⟩
    · exfalso; omega
    · simp only [↓wR, RA, simprocAttr, TF, h1]; repeat (simp (disch := omega) only [ai, cb, cd, b9, ca]; try simp only [↓wR, RA, simprocAttr, TF, h1])
      exact ⟨(i + 1, k + c.length), ⟨hlt, by show k + c.length + (l.drop (i + 1)).flatten.length = _; omega⟩, by simp; omega, by simp⟩
  · rw [fq (decide_eq_false h)] at hk
    have hk : k = l.flatten.length := by simpa using hk
    subst hk
    simp only [↓wR, RA, simprocAttr, TF, h]
    refine bm (T := []) (aw.nil PP) mixed Tryz.func116 rfl (by kernel_rfl) (by kernel_rfl) (by kernel_rfl) (by kernel_rfl) ?_; unfold Tryz.f116
    simp only [↓wR, RA, simprocAttr, TF]
    rw [cp]; refine ⟨fun h1 => ?_, fun h1 => ?_⟩
    · exfalso; omega
    simp only [↓wR, RA, simprocAttr, TF, h1]; repeat (simp (disch := omega) only [ai, cb, cd, b9, ca]; try simp only [↓wR, RA, simprocAttr, TF, h1])
    rw [cp]; refine ⟨fun h2 => ?_, fun h2 => ?_⟩
    · have hpos : 0 < l.flatten.length := by omega
      simp only [↓wR, RA, simprocAttr, TF, h2, hpos]; repeat (simp (disch := omega) only [ai, cb, cd, b9, ca]; try simp only [↓wR, RA, simprocAttr, TF, h2, hpos])
      refine dx [25, 26, 27, 6] (fun (x : Nat × Nat × List UInt8) => [.vl false 1 (l.map ((cw bz).val false)), .sc (.int .i64 l.length), .sc (.int .i64 x.1), .sl 0 0 x.2.1 1]) (fun x => [some (.row (x.2.2.map (bz.val false)) 0 0 5)]) (fun x => x.1 ≤ l.length ∧ (x.2.1 = x.2.2.length ∨ x.2.1 = 0) ∧ x.2.2.take x.2.1 ++ (l.drop x.1).flatten = l.flatten) (fun x => l.length - x.1) (0, 0, List.replicate l.flatten.length 0) ⟨Nat.zero_le _, .inr rfl, rfl⟩ (by simp only [↓wR, RA, simprocAttr, TF] <;> rfl) (by simp only [↓wR, RA, simprocAttr, TF] <;> rfl) ?_
      rintro ⟨k, m, r⟩ ⟨hk1, hk0, hk3⟩
      simp only at hk1 hk0 hk3
      have hk2 : m ≤ r.length := by omega
      simp only [↓wR, RA, simprocAttr, TF]
      rw [cp]; refine ⟨fun h3 => ?_, fun h3 => ?_⟩
      · obtain ⟨c, hc, hd1, hlt⟩ := ed (decide_eq_true h3)
        rw [agv hc] at hk3
        have hm : m + c.length ≤ 134217728 := by
          have := congrArg List.length hk3
          simp only [List.length_append, List.length_take] at this
          omega
        simp only [↓wR, RA, simprocAttr, TF, h3, hc, hk2]; repeat (simp (disch := omega) only [ai, cb, cd, b9, ca]; try simp only [↓wR, RA, simprocAttr, TF, h3, hc, hk2])
        have hl1 : (r.take m ++ c).length = m + c.length := by simp [Nat.min_eq_left hk2]
        refine ⟨(k + 1, m + c.length, r.take m ++ c), ⟨hlt, .inl hl1.symm, ?_⟩, by simp; omega, by simp, by simp⟩
        show (r.take m ++ c).take (m + c.length) ++ _ = _
        rw [List.take_of_length_le (Nat.le_of_eq hl1), List.append_assoc]
        exact hk3
      · rw [fq (decide_eq_false h3)] at hk3
        have hmr : m = r.length := by
          have := congrArg List.length hk3
          simp only [List.length_append, List.length_take, List.flatten_nil, List.length_nil] at this
          omega
        subst hmr
        have hr : r = l.flatten := by simpa using hk3
        subst hr
        simp only [↓wR, RA, simprocAttr, TF, h3, hk2]; repeat (simp (disch := omega) only [ai, cb, cd, b9, ca]; try simp only [↓wR, RA, simprocAttr, TF, h3, hk2])
    · have hnil : l.flatten = [] := List.eq_nil_of_length_eq_zero (by omega)
      simp only [↓wR, RA, simprocAttr, TF, h2]; repeat (simp (disch := omega) only [ai, cb, cd, b9, ca]; try simp only [↓wR, RA, simprocAttr, TF, h2])
      refine dx [25, 26, 27, 6] (fun (x : Nat) => [.vl false 1 (l.map ((cw bz).val false)), .sc (.int .i64 l.length), .sc (.int .i64 x), .sc (.slice none 0 0)]) (fun _ => []) (fun x => x ≤ l.length) (fun x => l.length - x) 0 (Nat.zero_le _) (by simp only [↓wR, RA, simprocAttr, TF] <;> rfl) (by simp only [↓wR, RA, simprocAttr, TF] <;> rfl) ?_
      intro k hk1
      simp only [↓wR, RA, simprocAttr, TF]
      rw [cp]; refine ⟨fun h3 => ?_, fun h3 => ?_⟩
      · obtain ⟨c, hc, hd1, hlt⟩ := ed (decide_eq_true h3)
        have hc0 : c = [] := List.eq_nil_of_length_eq_zero (by have := aso (List.mem_of_getElem? hc); rw [hnil] at this; simpa using this)
        subst hc0
        simp only [↓wR, RA, simprocAttr, TF, h3, hc]; repeat (simp (disch := omega) only [ai, cb, cd, b9, ca]; try simp only [↓wR, RA, simprocAttr, TF, h3, hc])
        refine ⟨k + 1, hlt, ?_⟩
        first | (refine ⟨by simp; omega, ?_⟩; simp) | (simp; omega)
      · simp only [↓wR, RA, simprocAttr, TF, h3]; repeat (simp (disch := omega) only [ai, cb, cd, b9, ca]; try simp only [↓wR, RA, simprocAttr, TF, h3])
        rw [hnil]
noncomputable def Av (x : List (List UInt8) × Unit) : Option AV := if x.1.length ≤ 16777216 ∧ x.1.flatten.length ≤ 134217728 then some ((r1 (cw bz)).E true (x.1.flatten)) else none
set_option maxRecDepth 2000000 in
theorem abe (x : List (List UInt8) × Unit) (r : AV) (h : Av x = some r) : bh PP 102 ((aC (cw (cw bz)) a0).E x) r := by
  by_cases hc : x.1.length ≤ 16777216 ∧ x.1.flatten.length ≤ 134217728
  case neg => simp only [Av, if_neg hc] at h; cases h
  simp only [Av, if_pos hc] at h
  cases h
  exact bg (aw.nil PP) Tryz.func102 (by kernel_rfl) (by kernel_rfl) (by kernel_rfl) (Nat.le_of_ble_eq_true (by kernel_rfl)) (r1 (cw bz)) true (x.1.flatten) (ak3 x.1 hc.1 hc.2)
noncomputable abbrev ar9 : Nat × Bool × (List AV → M AV) := (102, true, dj (aC (cw (cw bz)) a0) Av)
end Go.Proofs.YtcbdpmfipecmgaaGreat
end
section
set_option linter.unusedSimpArgs false
set_option linter.unusedVariables false
namespace Go.Proofs.YtcbdpmfipecmgaaGreat
open Go.Vm
set_option maxRecDepth 2000000
theorem ak8 (n : Name) : (xk n).length ≤ bk n := by
  unfold xk nameBytes
  split
  · exact Nat.zero_le _
  · have := Iv n; rw [List.length_append]; simp only [List.length_cons, List.length_nil]; omega
noncomputable def Pf (t : UInt16) (n : UInt32) : List UInt8 := (Ec n).drop (4 - (ju t).size).toNat
def wc (t : UInt16) : Nat → List ByteArray → List UInt8
  | _, [] => []
  | i, x :: r => (if (t.toNat : Int) = 16 ∨ i = 0 then [UInt8.ofNat x.size] else []) ++ x.data.toList ++ wc t (i + 1) r
noncomputable def Cg (t : UInt16) (d : c7) : List UInt8 := d.nums.flatMap (Pf t)
def Bl (d : c7) : List UInt8 := d.names.flatMap xk
def yv (t : UInt16) (d : c7) : List UInt8 := wc t 0 d.texts
noncomputable def Gy (t : UInt16) (d : c7) : List UInt8 := if (t.toNat : Int) = 6 then Bl d ++ Cg t d else Cg t d ++ (Bl d ++ (yv t d ++ d.raw))
theorem Jp (n) : (Ec n).length = 4 := rfl
theorem ae1 {α : Type} (f : α → List UInt8) (μ : α → Nat) (h : ∀ x, (f x).length ≤ μ x) (l : List α) : (l.flatMap f).length ≤ g8 μ l := by
  induction l with
  | nil => simp
  | cons a l ih => have := h a; simp only [List.flatMap_cons, List.length_append, g8, List.foldr_cons] at ih ⊢; omega
theorem ah9 (t : UInt16) (l : List ByteArray) : ∀ i, (wc t i l).length ≤ g8 ByteArray.size l := by
  induction l with
  | nil => intro i; simp [wc]
  | cons a l ih =>
    intro i
    have := ih (i + 1)
    have ha : a.data.size = a.size := rfl
    simp only [wc, List.length_append, g8, List.foldr_cons, Array.length_toList] at this ⊢
    split <;> simp <;> omega
theorem alx (t d) : (Cg t d).length ≤ 4 * d.nums.length := by
  unfold Cg
  induction d.nums with
  | nil => simp
  | cons a l ih =>
    have : (Pf t a).length ≤ 4 := by unfold Pf; rw [List.length_drop, Jp]; omega
    simp only [List.flatMap_cons, List.length_append, List.length_cons]; omega
theorem dm.written {d : c7} (h : dm d) (t) : (Cg t d).length ≤ 67108864 ∧ (Bl d).length ≤ 16777216 ∧ (yv t d).length ≤ 16777216 := by
  have h1 := alx t d
  have h2 : (Bl d).length ≤ g8 bk d.names := ae1 xk bk ak8 d.names
  have h3 : (yv t d).length ≤ g8 ByteArray.size d.texts := ah9 t d.texts 0
  unfold dm yd at h
  omega
theorem Qq {α : Type} {l : List α} {i : Nat} {c : α} (f : α → List UInt8) (h : l.drop i = c :: l.drop (i + 1)) : (l.drop i).flatMap f = f c ++ (l.drop (i + 1)).flatMap f := by rw [h]; rfl
theorem Qn (c) : (Ec c).take 4 = Ec c := rfl
theorem afz (t) (c) : (Ec c).drop (4 - (ju t).size).toNat = Pf t c := rfl
theorem aku (t : UInt16) {l : List ByteArray} {i : Nat} {c : ByteArray} (h : l.drop i = c :: l.drop (i + 1)) : wc t i (l.drop i) = (if (t.toNat : Int) = 16 ∨ i = 0 then [UInt8.ofNat c.size] else []) ++ c.data.toList ++ wc t (i + 1) (l.drop (i + 1)) := by rw [h]; rfl
theorem apf (t : UInt16) (d : c7) (hd : dm d) : wl PP [T7, at0, ajv, ar9] 0 (Tryz.f67.body.getD .skip) (du PP Tryz.f67.results.toList (fun r st => (r1 (cw bz)).get true st.h r = some (Gy t d))) (cy 0 [cq.val false t, bt.val false d]) (bn []) := by
  have hl := hd.lens
  have hk := hd.written t
  have hs := Tk t
  unfold Tryz.f67
  simp only [oh, da]
  simp only [↓wR, RA, simprocAttr, TF, D0, Di]
  refine jz [0, 3, 6, 7, 8, 21, 22, 23, 5] (fun (x : Nat × List UInt8) => [.sc (.int .u16 t.toNat), .ptr 0 0, .sc (.slice none 0 0), .sc (.slice none 0 0), .ptr 1 0, .vl false 1 (d.nums.map (dg.val false)), .sc (.int .i64 (d.nums.length)), .sc (.int .i64 (x.1)), .sl 2 0 x.2.length 1]) (fun x => [some (.row [.vl false 1 (d.names.map (ar.val false)), .vl false 1 (d.nums.map (dg.val false)), .vl false 1 (d.texts.map (aj.val false)), .vl false 1 (d.raw.map (bz.val false))] 0 2 65), some (.row [.sc (.int .i64 (ju t).names), .sc (.int .i64 (ju t).nums), .sc (.int .i64 (ju t).size), .sc (.int .i64 (ju t).texts), .sc (.int .i64 (ju t).raw)] 0 2 127), some (.row (x.2.map (bz.val false)) 0 0 5)]) (fun x => x.1 ≤ d.nums.length ∧ x.2 ++ (d.nums.drop x.1).flatMap (Pf t) = Cg t d) (fun x => d.nums.length - x.1) (0, []) ⟨Nat.zero_le _, rfl⟩ (by simp only [↓wR, RA, simprocAttr, TF]; (refine mz.lax [] (by first | exact Nat.le_of_ble_eq_true rfl | (simp [bw]; omega)) ?_ ?_ <;> repeat' first | exact i6.nil | exact db.nil | exact jb.same _ | exact jb.nil _ _ _ | exact jb.vh _ _ | exact db.refl _ _ | apply i6.cons | apply db.ghost | apply db.same | apply db.row)) ?_
  rintro ⟨i, x⟩ ⟨hi, hx⟩
  simp only at hi hx
  simp only [↓wR, RA, simprocAttr, TF]
  rw [cp]; refine ⟨fun h => ?_, fun h => ?_⟩
  · obtain ⟨c, hc, hd1, hlt⟩ := ed (decide_eq_true h)
    rw [Qq _ hd1] at hx
    have hxl : x.length + (Pf t c).length ≤ (Cg t d).length := by rw [← hx]; simp
    simp only [↓wR, RA, simprocAttr, TF, h, hc, Lx, Jp, Qn, afz]; repeat (simp (disch := omega) only [ai, cb, cd, b9, ca]; try simp only [↓wR, RA, simprocAttr, TF, h, hc, Lx, Jp, Qn, afz])
    exact ⟨(i + 1, x ++ Pf t c), ⟨hlt, by rw [List.append_assoc]; exact hx⟩, by simp; omega, by (first | rfl | trivial | omega | ((try (simp (disch := omega) only [ai])); (try (simp only [FB])); first | done | rfl | omega)), by (first | rfl | trivial | omega | ((try (simp (disch := omega) only [ai])); (try (simp only [FB])); first | done | rfl | omega))⟩
  rw [fq (decide_eq_false h)] at hx
  obtain rfl : x = Cg t d := by simpa using hx
  clear hx
  simp only [↓wR, RA, simprocAttr, TF, h]
  obtain ⟨nu, hnu⟩ : ∃ nu, Cg t d = nu := ⟨_, rfl⟩
  rw [hnu] at hk ⊢
  refine jz [0, 3, 7, 38, 39, 40, 5, 6] (fun (x : Nat × List UInt8) => [.sc (.int .u16 t.toNat), .ptr 0 0, .sc (.slice none 0 0), .vl false 1 (d.names.map (ar.val false)), .sc (.int .i64 (d.names.length)), .sc (.int .i64 (x.1)), .sl 1 0 nu.length 1, .sl 2 0 x.2.length 1]) (fun x => [some (.row [.vl false 1 (d.names.map (ar.val false)), .vl false 1 (d.nums.map (dg.val false)), .vl false 1 (d.texts.map (aj.val false)), .vl false 1 (d.raw.map (bz.val false))] 0 2 65), some (.row (nu.map (bz.val false)) 0 0 5), some (.row (x.2.map (bz.val false)) 0 0 5)]) (fun x => x.1 ≤ d.names.length ∧ x.2 ++ (d.names.drop x.1).flatMap xk = Bl d) (fun x => d.names.length - x.1) (0, []) ⟨Nat.zero_le _, rfl⟩ (by simp only [↓wR, RA, simprocAttr, TF]; (refine mz.lax [] (by first | exact Nat.le_of_ble_eq_true rfl | (simp [bw]; omega)) ?_ ?_ <;> repeat' first | exact i6.nil | exact db.nil | exact jb.same _ | exact jb.nil _ _ _ | exact jb.vh _ _ | exact db.refl _ _ | apply i6.cons | apply db.ghost | apply db.same | apply db.row)) ?_
  clear h
  rintro ⟨i, x⟩ ⟨hi, hx⟩
  simp only at hi hx
  simp only [↓wR, RA, simprocAttr, TF]
  rw [cp]; refine ⟨fun h => ?_, fun h => ?_⟩
  · obtain ⟨c, hc, hd1, hlt⟩ := ed (decide_eq_true h)
    rw [Qq _ hd1] at hx
    have hxl : x.length + (xk c).length ≤ (Bl d).length := by rw [← hx]; simp
    simp only [↓wR, RA, simprocAttr, TF, h, hc, u1, hd.name c (List.mem_of_getElem? hc)]; repeat (simp (disch := omega) only [ai, cb, cd, b9, ca]; try simp only [↓wR, RA, simprocAttr, TF, h, hc, u1, hd.name c (List.mem_of_getElem? hc)])
    exact ⟨(i + 1, x ++ xk c), ⟨hlt, by rw [List.append_assoc]; exact hx⟩, by simp; omega, by (first | rfl | trivial | omega | ((try (simp (disch := omega) only [ai])); (try (simp only [FB])); first | done | rfl | omega)), by (first | rfl | trivial | omega | ((try (simp (disch := omega) only [ai])); (try (simp only [FB])); first | done | rfl | omega))⟩
  rw [fq (decide_eq_false h)] at hx
  obtain rfl : x = Bl d := by simpa using hx
  clear hx
  simp only [↓wR, RA, simprocAttr, TF, h]
  obtain ⟨na, hna⟩ : ∃ na, Bl d = na := ⟨_, rfl⟩
  rw [hna] at hk ⊢
  refine jz [0, 3, 54, 55, 56, 5, 6, 7] (fun (x : Nat × List UInt8) => [.sc (.int .u16 t.toNat), .ptr 0 0, .vl false 1 (d.texts.map (aj.val false)), .sc (.int .i64 (d.texts.length)), .sc (.int .i64 (x.1)), .sl 1 0 nu.length 1, .sl 2 0 na.length 1, .sl 3 0 x.2.length 1]) (fun x => [some (.row [.vl false 1 (d.names.map (ar.val false)), .vl false 1 (d.nums.map (dg.val false)), .vl false 1 (d.texts.map (aj.val false)), .vl false 1 (d.raw.map (bz.val false))] 0 2 65), some (.row (nu.map (bz.val false)) 0 0 5), some (.row (na.map (bz.val false)) 0 0 5), some (.row (x.2.map (bz.val false)) 0 0 5)]) (fun x => x.1 ≤ d.texts.length ∧ x.2 ++ wc t x.1 (d.texts.drop x.1) = yv t d) (fun x => d.texts.length - x.1) (0, []) ⟨Nat.zero_le _, rfl⟩ (by simp only [↓wR, RA, simprocAttr, TF]; (refine mz.lax [] (by first | exact Nat.le_of_ble_eq_true rfl | (simp [bw]; omega)) ?_ ?_ <;> repeat' first | exact i6.nil | exact db.nil | exact jb.same _ | exact jb.nil _ _ _ | exact jb.vh _ _ | exact db.refl _ _ | apply i6.cons | apply db.ghost | apply db.same | apply db.row)) ?_
  clear h
  rintro ⟨i, x⟩ ⟨hi, hx⟩
  simp only at hi hx
  simp only [↓wR, RA, simprocAttr, TF]
  rw [cp]; refine ⟨fun h => ?_, fun h => ?_⟩
  · obtain ⟨c, hc, hd1, hlt⟩ := ed (decide_eq_true h)
    rw [aku _ hd1] at hx
    have hxl : x.length + ((if (t.toNat : Int) = 16 ∨ i = 0 then [UInt8.ofNat c.size] else []).length + c.size) ≤ (yv t d).length := by rw [← hx]; simp
    have hcs : c.data.toList.length = c.size := by simp
    simp only [↓wR, RA, simprocAttr, TF, h, hc]; repeat (simp (disch := omega) only [ai, cb, cd, b9, ca]; try simp only [↓wR, RA, simprocAttr, TF, h, hc])
    have fin : ∀ b : List UInt8, x ++ (b ++ c.data.toList ++ wc t (i + 1) (d.texts.drop (i + 1))) = yv t d → x ++ b ++ c.data.toList ++ wc t (i + 1) (d.texts.drop (i + 1)) = yv t d := fun b hb => by rw [← hb]; simp
    rw [c9]; refine ⟨fun ⟨h16, e16⟩ => ?_, fun ⟨h16, e16⟩ => ?_⟩
    · rw [if_pos (.inl e16)] at hx hxl
      simp only [List.length_cons, List.length_nil] at hxl
      simp only [↓wR, RA, simprocAttr, TF, h16]; repeat (simp (disch := omega) only [ai, cb, cd, b9, ca]; try simp only [↓wR, RA, simprocAttr, TF, h16])
      exact ⟨(i + 1, x ++ [UInt8.ofNat c.size] ++ c.data.toList), ⟨hlt, fin _ hx⟩, by simp; omega, by (first | rfl | trivial | omega | ((try (simp (disch := omega) only [ai])); (try (simp only [FB])); first | done | rfl | omega)), by (first | rfl | trivial | omega | ((try (simp (disch := omega) only [ai])); (try (simp only [FB])); first | done | rfl | omega))⟩
    · simp only [↓wR, RA, simprocAttr, TF, h16]; repeat (simp (disch := omega) only [ai, cb, cd, b9, ca]; try simp only [↓wR, RA, simprocAttr, TF, h16])
      rw [c9]; refine ⟨fun ⟨h0, e0⟩ => ?_, fun ⟨h0, e0⟩ => ?_⟩
      · rw [if_pos (.inr (by omega))] at hx hxl
        simp only [List.length_cons, List.length_nil] at hxl
        simp only [↓wR, RA, simprocAttr, TF, h0]; repeat (simp (disch := omega) only [ai, cb, cd, b9, ca]; try simp only [↓wR, RA, simprocAttr, TF, h0])
        exact ⟨(i + 1, x ++ [UInt8.ofNat c.size] ++ c.data.toList), ⟨hlt, fin _ hx⟩, by simp; omega, by (first | rfl | trivial | omega | ((try (simp (disch := omega) only [ai])); (try (simp only [FB])); first | done | rfl | omega)), by (first | rfl | trivial | omega | ((try (simp (disch := omega) only [ai])); (try (simp only [FB])); first | done | rfl | omega))⟩
      · rw [if_neg (by omega)] at hx hxl
        simp only [List.length_nil] at hxl
        simp only [↓wR, RA, simprocAttr, TF, h0]; repeat (simp (disch := omega) only [ai, cb, cd, b9, ca]; try simp only [↓wR, RA, simprocAttr, TF, h0])
        exact ⟨(i + 1, x ++ c.data.toList), ⟨hlt, by have := fin _ hx; simpa using this⟩, by simp; omega, by (first | rfl | trivial | omega | ((try (simp (disch := omega) only [ai])); (try (simp only [FB])); first | done | rfl | omega)), by (first | rfl | trivial | omega | ((try (simp (disch := omega) only [ai])); (try (simp only [FB])); first | done | rfl | omega))⟩
  rw [fq (decide_eq_false h)] at hx
  obtain rfl : x = yv t d := by simpa [wc] using hx
  clear hx
  simp only [↓wR, RA, simprocAttr, TF, h]; repeat (simp (disch := omega) only [ai, cb, cd, b9, ca]; try simp only [↓wR, RA, simprocAttr, TF, h])
  unfold Gy
  rw [hnu, hna]
  rw [c9]; refine ⟨fun ⟨h6, e6⟩ => ?_, fun ⟨h6, e6⟩ => ?_⟩
  · rw [if_pos e6]
    simp only [↓wR, RA, simprocAttr, TF, h6]; repeat (simp (disch := omega) only [ai, cb, cd, b9, ca]; try simp only [↓wR, RA, simprocAttr, TF, h6])
  · rw [if_neg e6]
    have hcat : nu.length + (na.length + ((yv t d).length + d.raw.length)) ≤ 134217728 := by omega
    simp only [↓wR, RA, simprocAttr, TF, h6, Av, hcat]; repeat (simp (disch := omega) only [ai, cb, cd, b9, ca]; try simp only [↓wR, RA, simprocAttr, TF, h6, Av, hcat])
    rw [← List.map_append, ← List.map_append, ← List.map_append]
    exact rtT (cw bz) _ _
noncomputable def u4 (x : UInt16 × c7 × Unit) : Option AV := if dm x.2.1 then some ((r1 (cw bz)).E true (Gy x.1 x.2.1)) else none
set_option maxRecDepth 2000000 in
theorem E6 (x : UInt16 × c7 × Unit) (r : AV) (h : u4 x = some r) : bh PP 67 ((aC cq (aC bt a0)).E x) r := by
  by_cases hc : dm x.2.1
  case neg => simp only [u4, if_neg hc] at h; cases h
  simp only [u4, if_pos hc] at h
  cases h
  exact bg (aw.cons (aq Dp) (aw.cons (aq ad9) (aw.cons (aq Qy) (aw.cons (aq abe) (aw.nil PP))))) Tryz.func67 (by kernel_rfl) (by kernel_rfl) (by kernel_rfl) (Nat.le_of_ble_eq_true (by kernel_rfl)) (r1 (cw bz)) true (Gy x.1 x.2.1) (apf x.1 x.2.1 hc)
noncomputable abbrev Qm : Nat × Bool × (List AV → M AV) := (67, true, dj (aC cq (aC bt a0)) u4)
end Go.Proofs.YtcbdpmfipecmgaaGreat
end
section
set_option linter.unusedSimpArgs false
set_option linter.unusedVariables false
namespace Go.Proofs.YtcbdpmfipecmgaaGreat
open Go.Vm
set_option maxRecDepth 2000000
theorem ae7 (d : c7) (hd : dm d) : wl PP [Zj, Zt, agc, se] 0 (Tryz.f53.body.getD .skip) (du PP Tryz.f53.results.toList (fun r st => (r1 bt).get true st.h r = some d)) (cy 0 [bt.val false d]) (bn []) := by
  have hl := hd.lens
  have l2 := hl.2.1
  have l3 := hl.2.2.1
  have l4 := hl.2.2.2
  unfold Tryz.f53
  simp only [oh, da]
  simp only [↓wR, RA, simprocAttr, TF]
  refine ⟨by kernel_rfl, .inl ?_⟩
  simp only [↓wR, RA, simprocAttr, TF, ye, yi, Af, l2, l3, l4]
  refine ⟨by kernel_rfl, ?_⟩
  refine jz [2, 17, 18, 19, 3] (fun (x : List Name) => [.ptr 0 0, .vl false 1 (d.names.map (ar.val false)), .sc (.int .i64 (d.names.length)), .sc (.int .i64 (x.length)), .ptr 1 0]) (fun x => [some (.row [.sc (.slice none 0 0), .sc (.slice none 0 0), .sc (.slice none 0 0), .sc (.slice none 0 0)] 0 2 65), some (.row [.sl 2 0 x.length 1, .vl true 1 (d.nums.map (dg.val false)), .vl true 1 (d.texts.map (aj.val false)), .vl true 1 (d.raw.map (bz.val false))] 0 2 65), some (.row (x.map (ar.val true)) 0 0 23)]) (fun x => x.length ≤ d.names.length ∧ x ++ d.names.drop x.length = d.names) (fun x => d.names.length - x.length) [] ⟨Nat.zero_le _, rfl⟩ (by simp only [↓wR, RA, simprocAttr, TF]; (refine mz.lax [] (by first | exact Nat.le_of_ble_eq_true rfl | (simp [bw]; omega)) ?_ ?_ <;> repeat' first | exact i6.nil | exact db.nil | exact jb.same _ | exact jb.nil _ _ _ | exact jb.vh _ _ | exact db.refl _ _ | apply i6.cons | apply db.ghost | apply db.same | apply db.row)) ?_
  rintro x ⟨hi, hx⟩
  simp only [↓wR, RA, simprocAttr, TF]
  rw [cp]; refine ⟨fun h => ?_, fun h => ?_⟩
  · obtain ⟨c, hc, hd1, hlt⟩ := ed (decide_eq_true h)
    rw [hd1] at hx
    have hlim : (x.length + 1) * 24 ≤ 140737488355328 := by omega
    simp only [↓wR, RA, simprocAttr, TF, h, hc]
    refine ⟨by kernel_rfl, .inl ?_⟩
    simp only [↓wR, RA, simprocAttr, TF, mq, hd.name c (List.mem_of_getElem? hc), hlim]
    refine ⟨by kernel_rfl, ?_⟩
    exact ⟨x ++ [c], ⟨by simp; omega, by simpa using hx⟩, by simp; omega, by (first | rfl | trivial | omega | ((try (simp (disch := omega) only [ai])); (try (simp only [FB])); first | done | rfl | omega)), by (first | rfl | trivial | omega | ((try (simp (disch := omega) only [ai])); (try (simp only [FB])); first | done | rfl | omega))⟩
  · rw [fq (decide_eq_false h)] at hx
    rw [List.append_nil] at hx
    subst hx
    simp only [↓wR, RA, simprocAttr, TF, h]
noncomputable def Bp (x : c7 × Unit) : Option AV := if dm x.1 then some ((r1 bt).E true (x.1)) else none
set_option maxRecDepth 2000000 in
theorem Xp (x : c7 × Unit) (r : AV) (h : Bp x = some r) : bh PP 53 ((aC bt a0).E x) r := by
  by_cases hc : dm x.1
  case neg => simp only [Bp, if_neg hc] at h; cases h
  simp only [Bp, if_pos hc] at h
  cases h
  exact bg (aw.cons (aq I0) (aw.cons (aq Im) (aw.cons (aq Lg) (aw.cons (aq nn) (aw.nil PP))))) Tryz.func53 (by kernel_rfl) (by kernel_rfl) (by kernel_rfl) (Nat.le_of_ble_eq_true (by kernel_rfl)) (r1 bt) true (x.1) (ae7 x.1 hc)
noncomputable abbrev anp : Nat × Bool × (List AV → M AV) := (53, true, dj (aC bt a0) Bp)
end Go.Proofs.YtcbdpmfipecmgaaGreat
end
section
set_option linter.unusedSimpArgs false
set_option linter.unusedVariables false
namespace Go.Proofs.YtcbdpmfipecmgaaGreat
open Go.Vm
set_option maxRecDepth 2000000
def qo {α : Type} (f : α → α) (l : List α) (i : Nat) : List α := (l.take i).map f ++ l.drop i
theorem ajj {α : Type} (f : α → α) (l : List α) (i : Nat) : (qo f l i).length = l.length := by simp [qo]; omega
theorem aiv {α : Type} (f : α → α) {l : List α} {i : Nat} {c : α} (h : l[i]? = some c) : (qo f l i)[i]? = some c := by
  obtain ⟨hi, rfl⟩ := List.getElem?_eq_some_iff.1 h
  have hl : ((l.take i).map f).length = i := by simp; omega
  rw [qo, List.getElem?_append_right (by omega), hl, Nat.sub_self, List.getElem?_drop]; simp [h]
theorem aij {α : Type} (f : α → α) {l : List α} {i : Nat} {c : α} (h : l[i]? = some c) : (qo f l i).take i ++ [f c] ++ (qo f l i).drop (i + 1) = qo f l (i + 1) := by
  obtain ⟨hi, rfl⟩ := List.getElem?_eq_some_iff.1 h
  have h1 : ((l.take i).map f).length = i := by simp; omega
  have h2 : (qo f l i).take i = (l.take i).map f := by rw [qo, List.take_append_of_le_length (by omega), List.take_of_length_le (by omega)]
  have h3 : (qo f l i).drop (i + 1) = l.drop (i + 1) := by
    rw [qo, List.drop_append, List.drop_eq_nil_of_le (by omega), h1]
    simp
  rw [h2, h3, qo, List.take_succ_eq_append_getElem hi, List.map_append]
  rfl
theorem aiw {α : Type} (f : α → α) (l : List α) : qo f l l.length = l.map f := by simp [qo]
noncomputable def vn (t : UInt16) (d : c7) : c7 := if 0 < (ju t).names then { d with names := d.names.map gy } else d
theorem afe (t : UInt16) (d : c7) (hd : dm d) : wl PP [T7, an6] 0 (Tryz.f111.body.getD .skip) (du PP Tryz.f111.results.toList (fun r st => (r1 bt).get true st.h r = some (vn t d))) (cy 0 [cq.val false t, bt.val false d]) (bn []) := by
  have hl := hd.lens
  have l2 := hl.2.1
  have l3 := hl.2.2.1
  have l4 := hl.2.2.2
  unfold Tryz.f111
  simp only [oh, da]
  simp only [↓wR, RA, simprocAttr, TF]
  refine bm (T := [Zj, Zt, agc, se]) (aw.cons (aq I0) (aw.cons (aq Im) (aw.cons (aq Lg) (aw.cons (aq nn) (aw.nil PP))))) mixed Tryz.func53 rfl (by kernel_rfl) (by kernel_rfl) (by kernel_rfl) (by kernel_rfl) ?_; unfold Tryz.f53
  simp only [↓wR, RA, simprocAttr, TF]
  refine ⟨by kernel_rfl, .inl ?_⟩
  simp only [↓wR, RA, simprocAttr, TF, ye, yi, Af, l2, l3, l4]
  refine ⟨by kernel_rfl, ?_⟩
  refine jz [2, 17, 18, 19, 3] (fun (x : List Name) => [.ptr 2 0, .vl false 1 (d.names.map (ar.val false)), .sc (.int .i64 (d.names.length)), .sc (.int .i64 (x.length)), .ptr 3 0]) (fun x => [some (.row [.vl false 1 (d.names.map (ar.val false)), .vl false 1 (d.nums.map (dg.val false)), .vl false 1 (d.texts.map (aj.val false)), .vl false 1 (d.raw.map (bz.val false))] 0 2 65), some (.row [.sc (.slice none 0 0), .sc (.slice none 0 0), .sc (.slice none 0 0), .sc (.slice none 0 0)] 0 2 65), some (.row [.sc (.slice none 0 0), .sc (.slice none 0 0), .sc (.slice none 0 0), .sc (.slice none 0 0)] 0 2 65), some (.row [.sl 4 0 x.length 1, .vl true 1 (d.nums.map (dg.val false)), .vl true 1 (d.texts.map (aj.val false)), .vl true 1 (d.raw.map (bz.val false))] 0 2 65), some (.row (x.map (ar.val true)) 0 0 23)]) (fun x => x.length ≤ d.names.length ∧ x ++ d.names.drop x.length = d.names) (fun x => d.names.length - x.length) [] ⟨Nat.zero_le _, rfl⟩ (by simp only [↓wR, RA, simprocAttr, TF]; (refine mz.lax [] (by first | exact Nat.le_of_ble_eq_true rfl | (simp [bw]; omega)) ?_ ?_ <;> repeat' first | exact i6.nil | exact db.nil | exact jb.same _ | exact jb.nil _ _ _ | exact jb.vh _ _ | exact db.refl _ _ | apply i6.cons | apply db.ghost | apply db.same | apply db.row)) ?_
  rintro x ⟨hi, hx⟩
  simp only [↓wR, RA, simprocAttr, TF]
  rw [cp]; refine ⟨fun h => ?_, fun h => ?_⟩
  · obtain ⟨c, hc, hd1, hlt⟩ := ed (decide_eq_true h)
    rw [hd1] at hx
    have hlim : (x.length + 1) * 24 ≤ 140737488355328 := by omega
    simp only [↓wR, RA, simprocAttr, TF, h, hc]
    refine ⟨by kernel_rfl, .inl ?_⟩
    simp only [↓wR, RA, simprocAttr, TF, mq, hd.name c (List.mem_of_getElem? hc), hlim]
    refine ⟨by kernel_rfl, ?_⟩
    exact ⟨x ++ [c], ⟨by simp; omega, by simpa using hx⟩, by simp; omega, by (first | rfl | trivial | omega | ((try (simp (disch := omega) only [ai])); (try (simp only [FB])); first | done | rfl | omega)), by (first | rfl | trivial | omega | ((try (simp (disch := omega) only [ai])); (try (simp only [FB])); first | done | rfl | omega))⟩
  rw [fq (decide_eq_false h)] at hx
  rw [List.append_nil] at hx
  subst hx
  simp only [↓wR, RA, simprocAttr, TF, h, D0, Di]
  unfold vn
  clear hi h
  rw [cp]; refine ⟨fun h0 => ?_, fun h0 => ?_⟩
  · rw [if_pos h0]
    simp only [↓wR, RA, simprocAttr, TF, h0]
    refine dx [4, 5, 15, 16, 17] (fun (i : Nat) => [.ptr 0 0, .ptr 1 0, .sl 2 0 d.names.length 1, .sc (.int .i64 (d.names.length)), .sc (.int .i64 (i))]) (fun i => [some (.row [.sc (.slice none 0 0), .sc (.slice none 0 0), .sc (.slice none 0 0), .sc (.slice none 0 0)] 0 2 65), some (.row [.sl 2 0 d.names.length 1, .vl true 1 (d.nums.map (dg.val false)), .vl true 1 (d.texts.map (aj.val false)), .vl true 1 (d.raw.map (bz.val false))] 0 2 65), some (.row ((qo gy d.names i).map (ar.val true)) 0 0 23)]) (fun i => i ≤ d.names.length) (fun i => d.names.length - i) 0 (Nat.zero_le _) (by simp only [↓wR, RA, simprocAttr, TF] <;> rfl) (by simp only [↓wR, RA, simprocAttr, TF] <;> rfl) ?_
    intro i hi
    simp only [↓wR, RA, simprocAttr, TF]
    rw [cp]; refine ⟨fun h => ?_, fun h => ?_⟩
    · obtain ⟨c, hc, hd1, hlt⟩ := ed (decide_eq_true h)
      have hs := aiv gy hc
      have hlen := ajj gy d.names i
      have hlt' : i + 1 ≤ d.names.length := hlt
      simp only [↓wR, RA, simprocAttr, TF, h, hs, hlt]
      refine ⟨by kernel_rfl, .inl ?_⟩
      simp only [↓wR, RA, simprocAttr, TF, h, hlt, hlt', hlen, Bu, hd.name c (List.mem_of_getElem? hc)]
      refine ⟨by kernel_rfl, i + 1, hlt, by omega, by (first | rfl | trivial | omega | ((try (simp (disch := omega) only [ai])); (try (simp only [FB])); first | done | rfl | omega)), ?_⟩
      rw [← aij gy hc]; simp only [List.map_append, List.map_cons, List.map_nil]
    · have hin : i = d.names.length := by omega
      subst hin
      rw [aiw]
      have hml : (d.names.map gy).length = d.names.length := List.length_map _
      generalize d.names.map gy = m at hml ⊢
      simp only [↓wR, RA, simprocAttr, TF, h, hml]
      rfl
  · rw [if_neg h0]
    simp only [↓wR, RA, simprocAttr, TF, h0]
noncomputable def Bq (x : UInt16 × c7 × Unit) : Option AV := if dm x.2.1 then some ((r1 bt).E true (vn x.1 x.2.1)) else none
set_option maxRecDepth 2000000 in
theorem Xu (x : UInt16 × c7 × Unit) (r : AV) (h : Bq x = some r) : bh PP 111 ((aC cq (aC bt a0)).E x) r := by
  by_cases hc : dm x.2.1
  case neg => simp only [Bq, if_neg hc] at h; cases h
  simp only [Bq, if_pos hc] at h
  cases h
  exact bg (aw.cons (aq Dp) (aw.cons (aq Xw) (aw.nil PP))) Tryz.func111 (by kernel_rfl) (by kernel_rfl) (by kernel_rfl) (Nat.le_of_ble_eq_true (by kernel_rfl)) (r1 bt) true (vn x.1 x.2.1) (afe x.1 x.2.1 hc)
noncomputable abbrev anm : Nat × Bool × (List AV → M AV) := (111, true, dj (aC cq (aC bt a0)) Bq)
end Go.Proofs.YtcbdpmfipecmgaaGreat
end
section
set_option linter.unusedSimpArgs false
set_option linter.unusedVariables false
namespace Go.Proofs.YtcbdpmfipecmgaaGreat
open Go.Vm
set_option maxRecDepth 2000000
def ua : List Name → Int
  | [] => 0
  | n :: r => if dv n ≠ 0 then dv n else ua r
noncomputable def fo (t : UInt16) (d : c7) : Int :=
  if Ga t = true then 6 else if y5 (ju t) t d = false then 7 else if ua d.names ≠ 0 then ua d.names else if 65535 < (Gy t d).length then 3 else 0
theorem aey {l : List Name} {i : Nat} {c : Name} (h : l.drop i = c :: l.drop (i + 1)) : ua (l.drop i) = if dv c ≠ 0 then dv c else ua (l.drop (i + 1)) := by rw [h]; rfl
theorem Ze (t : UInt16) (d : c7) (hd : dm d) : wl PP [atf, T7, avc, dz, Qm] 0 (Tryz.f50.body.getD .skip) (du PP Tryz.f50.results.toList (fun r st => (r1 (be .i64)).get true st.h r = some (fo t d))) (cy 0 [cq.val false t, bt.val false d]) (bn []) := by
  have hs := Tk t
  have hl := hd.lens
  unfold Tryz.f50
  simp only [oh, da]
  simp only [↓wR, RA, simprocAttr, TF, Ty]
  unfold fo
  rw [cz]; refine ⟨fun hb => ?_, fun hb => ?_⟩
  · rw [if_pos hb]
    simp only [↓wR, RA, simprocAttr, TF, hb]
  rw [if_neg (by rw [hb]; decide)]
  simp only [↓wR, RA, simprocAttr, TF, hb]
  refine ⟨by kernel_rfl, .inl ?_⟩
  simp only [↓wR, RA, simprocAttr, TF, D0, Ja, hs, hd]
  refine ⟨by kernel_rfl, ?_⟩
  rw [cz]; refine ⟨fun hf => ?_, fun hf => ?_⟩
  · rw [if_pos (by simpa using hf)]
    simp only [↓wR, RA, simprocAttr, TF, hf]
  have hf' : y5 (ju t) t d = true := by simpa using hf
  rw [if_neg (by rw [hf']; decide)]
  simp only [↓wR, RA, simprocAttr, TF, hf]
  refine dx [0, 3, 17, 18, 19] (fun (i : Nat) => [.sc (.int .u16 t.toNat), .ptr 0 0, .vl false 1 (d.names.map (ar.val false)), .sc (.int .i64 (d.names.length)), .sc (.int .i64 (i))]) (fun _ => [some (.row [.vl false 1 (d.names.map (ar.val false)), .vl false 1 (d.nums.map (dg.val false)), .vl false 1 (d.texts.map (aj.val false)), .vl false 1 (d.raw.map (bz.val false))] 0 2 65)]) (fun i => i ≤ d.names.length ∧ ua d.names = ua (d.names.drop i)) (fun i => d.names.length - i) 0 ⟨Nat.zero_le _, rfl⟩ (by simp only [↓wR, RA, simprocAttr, TF] <;> rfl) (by simp only [↓wR, RA, simprocAttr, TF] <;> rfl) ?_
  rintro i ⟨hi, hx⟩
  simp only [↓wR, RA, simprocAttr, TF]
  rw [cp]; refine ⟨fun h => ?_, fun h => ?_⟩
  · obtain ⟨c, hc, hd1, hlt⟩ := ed (decide_eq_true h)
    rw [aey hd1] at hx
    simp only [↓wR, RA, simprocAttr, TF, h, hc, pr, (hd.name c (List.mem_of_getElem? hc)).fit]
    rw [cz]; refine ⟨fun h1 => ?_, fun h1 => ?_⟩
    · have he : dv c ≠ 0 := by simpa using h1
      rw [if_pos he] at hx
      rw [if_pos (by rw [hx]; exact he), hx]
      simp only [↓wR, RA, simprocAttr, TF, h1]
    · have he : dv c = 0 := by simpa using h1
      rw [if_neg (by omega)] at hx
      simp only [↓wR, RA, simprocAttr, TF, h1]; repeat (simp (disch := omega) only [ai, cb, cd, b9, ca]; try simp only [↓wR, RA, simprocAttr, TF, h1])
      exact ⟨i + 1, ⟨hlt, hx⟩, by omega, by (first | rfl | trivial | omega | ((try (simp (disch := omega) only [ai])); (try (simp only [FB])); first | done | rfl | omega))⟩
  rw [fq (decide_eq_false h)] at hx
  rw [if_neg (by rw [hx]; decide)]
  simp only [↓wR, RA, simprocAttr, TF, h, u4, hd]
  rw [cp]; refine ⟨fun h2 => ?_, fun h2 => ?_⟩
  · rw [if_pos (by omega)]
    simp only [↓wR, RA, simprocAttr, TF, h2]
  · rw [if_neg (by omega)]
    simp only [↓wR, RA, simprocAttr, TF, h2]
noncomputable def rn (x : UInt16 × c7 × Unit) : Option AV := if dm x.2.1 then some ((r1 (be .i64)).E true (fo x.1 x.2.1)) else none
set_option maxRecDepth 2000000 in
theorem Am (x : UInt16 × c7 × Unit) (r : AV) (h : rn x = some r) : bh PP 50 ((aC cq (aC bt a0)).E x) r := by
  by_cases hc : dm x.2.1
  case neg => simp only [rn, if_neg hc] at h; cases h
  simp only [rn, if_pos hc] at h
  cases h
  exact bg (aw.cons (aq ae6) (aw.cons (aq Dp) (aw.cons (aq aji) (aw.cons (aq qh) (aw.cons (aq E6) (aw.nil PP)))))) Tryz.func50 (by kernel_rfl) (by kernel_rfl) (by kernel_rfl) (Nat.le_of_ble_eq_true (by kernel_rfl)) (r1 (be .i64)) true (fo x.1 x.2.1) (Ze x.1 x.2.1 hc)
noncomputable abbrev Ku : Nat × Bool × (List AV → M AV) := (50, true, dj (aC cq (aC bt a0)) rn)
noncomputable def F2 (t : UInt16) (d : c7) : List UInt8 := if fo t d ≠ 0 then [] else Gy t d
theorem Zx (t : UInt16) (d : c7) (hd : dm d) : wl PP [Ku, Qm] 0 (Tryz.f110.body.getD .skip) (du PP Tryz.f110.results.toList (fun r st => (r2 (cw bz) (be .i64)).get true st.h r = some (F2 t d, fo t d))) (cy 0 [cq.val false t, bt.val false d]) (bn []) := by
  unfold Tryz.f110
  simp only [oh, da]
  simp only [↓wR, RA, simprocAttr, TF, rn, hd]
  unfold F2
  rw [cz]; refine ⟨fun h => ?_, fun h => ?_⟩
  · have he : fo t d ≠ 0 := by simpa using h
    rw [if_pos he]
    simp only [↓wR, RA, simprocAttr, TF, h]
  · have he : fo t d = 0 := by simpa using h
    rw [if_neg (by omega)]
    simp only [↓wR, RA, simprocAttr, TF, h, u4, hd, he]
noncomputable def zg (x : UInt16 × c7 × Unit) : Option AV := if dm x.2.1 then some ((r2 (cw bz) (be .i64)).E true ((F2 x.1 x.2.1, fo x.1 x.2.1))) else none
set_option maxRecDepth 2000000 in
theorem Ul (x : UInt16 × c7 × Unit) (r : AV) (h : zg x = some r) : bh PP 110 ((aC cq (aC bt a0)).E x) r := by
  by_cases hc : dm x.2.1
  case neg => simp only [zg, if_neg hc] at h; cases h
  simp only [zg, if_pos hc] at h
  cases h
  exact bg (aw.cons (aq Am) (aw.cons (aq E6) (aw.nil PP))) Tryz.func110 (by kernel_rfl) (by kernel_rfl) (by kernel_rfl) (Nat.le_of_ble_eq_true (by kernel_rfl)) (r2 (cw bz) (be .i64)) true ((F2 x.1 x.2.1, fo x.1 x.2.1)) (Zx x.1 x.2.1 hc)
noncomputable abbrev alv : Nat × Bool × (List AV → M AV) := (110, true, dj (aC cq (aC bt a0)) zg)
end Go.Proofs.YtcbdpmfipecmgaaGreat
end
section
set_option linter.unusedSimpArgs false
set_option linter.unusedVariables false
namespace Go.Proofs.YtcbdpmfipecmgaaGreat
open Go.Vm
set_option maxRecDepth 2000000
theorem alg (args : List AV) : Ba PP 123 args (Cx.eu args) :=
  Cx.il (fn := (PP.funcs[123]?).getD default) (by kernel_rfl) (by kernel_rfl) (by kernel_rfl) (by kernel_rfl) (by kernel_rfl) args
noncomputable abbrev atz : Nat × Bool × (List AV → M AV) := (123, true, Cx.eu)
theorem arn : aw PP [atz] := aw.cons alg (aw.nil PP)
noncomputable def ab7 (a b : List UInt8) : Int := Lib.compareBytes a b
theorem P8 (a b : List UInt8) : wl PP [atz] 0 (Tryz.f112.body.getD .skip) (du PP Tryz.f112.results.toList (fun r st => (r1 (be .i64)).get true st.h r = some (ab7 a b))) (cy 0 [(cw bz).val false a, (cw bz).val false b]) (bn []) := by
  unfold Tryz.f112
  simp only [tn]
  simp only [↓wR, RA, simprocAttr, TF, ab7]
noncomputable def xn (x : List UInt8 × List UInt8 × Unit) : Option AV := some ((r1 (be .i64)).E true (ab7 x.1 x.2.1))
theorem Ms (x : List UInt8 × List UInt8 × Unit) (r : AV) (h : xn x = some r) : bh PP 112 ((aC (cw bz) (aC (cw bz) a0)).E x) r := by
  cases h
  exact bg arn Tryz.func112 (by kernel_rfl) (by kernel_rfl) (by kernel_rfl) (Nat.le_of_ble_eq_true (by kernel_rfl)) (r1 (be .i64)) true (ab7 x.1 x.2.1) (P8 x.1 x.2.1)
noncomputable abbrev adj : Nat × Bool × (List AV → M AV) := (112, true, dj (aC (cw bz) (aC (cw bz) a0)) xn)
theorem ak1 (s : ByteArray) : (fold s).size = s.size := by
  show (s.data.toList.map low).toArray.size = s.data.size
  simp
theorem T2 (n : Name) : bk (gy n) = bk n := by
  unfold bk gy
  rw [List.foldl_map]
  simp only [ak1]
theorem ane (l : List Name) : g8 bk (l.map gy) = g8 bk l := by
  induction l with
  | nil => rfl
  | cons a l ih => simp only [g8, List.map_cons, List.foldr_cons, T2] at ih ⊢; rw [ih]
theorem dm.fold {d : c7} (h : dm d) (t : UInt16) : dm (vn t d) := by
  unfold vn
  split
  · unfold dm yd at *
    simp only [ane]; exact h
  · exact h
noncomputable def Pp (t : UInt16) (a b : c7) : Int := if fo t (vn t a) ≠ 0 ∨ fo t (vn t b) ≠ 0 then 0 else ab7 (F2 t (vn t a)) (F2 t (vn t b))
noncomputable def Md (t : UInt16) (a b : c7) : Bool := decide (fo t a = 0) && decide (fo t b = 0) && decide (Pp t a b = 0)
theorem Um (t : UInt16) (a b : c7) (ha : dm a) (hb : dm b) : wl PP [anm, alv, adj] 0 (Tryz.f86.body.getD .skip) (du PP Tryz.f86.results.toList (fun r st => (r1 (be .i64)).get true st.h r = some (Pp t a b))) (cy 0 [cq.val false t, bt.val false a, bt.val false b]) (bn []) := by
  have fa := ha.fold t
  have fb := hb.fold t
  unfold Tryz.f86
  simp only [oh, da]
  simp only [↓wR, RA, simprocAttr, TF, Bq, zg, xn, ha, hb, fa, fb]
  unfold Pp
  rw [cz]; refine ⟨fun h => ?_, fun h => ?_⟩
  · have he : fo t (vn t a) ≠ 0 := by simpa using h
    rw [if_pos (.inl he)]
    simp only [↓wR, RA, simprocAttr, TF, h]
  have he : fo t (vn t a) = 0 := by simpa using h
  simp only [↓wR, RA, simprocAttr, TF, h]
  rw [cz]; refine ⟨fun h2 => ?_, fun h2 => ?_⟩
  · have he2 : fo t (vn t b) ≠ 0 := by simpa using h2
    rw [if_pos (.inr he2)]
    simp only [↓wR, RA, simprocAttr, TF, h2]
  · have he2 : fo t (vn t b) = 0 := by simpa using h2
    rw [if_neg (by omega)]
    simp only [↓wR, RA, simprocAttr, TF, h2, xn]
noncomputable def nc (x : UInt16 × c7 × c7 × Unit) : Option AV := if dm x.2.1 ∧ dm x.2.2.1 then some ((r1 (be .i64)).E true (Pp x.1 x.2.1 x.2.2.1)) else none
set_option maxRecDepth 2000000 in
theorem C7 (x : UInt16 × c7 × c7 × Unit) (r : AV) (h : nc x = some r) : bh PP 86 ((aC cq (aC bt (aC bt a0))).E x) r := by
  by_cases hc : dm x.2.1 ∧ dm x.2.2.1
  case neg => simp only [nc, if_neg hc] at h; cases h
  simp only [nc, if_pos hc] at h
  cases h
  exact bg (aw.cons (aq Xu) (aw.cons (aq Ul) (aw.cons (aq Ms) (aw.nil PP)))) Tryz.func86 (by kernel_rfl) (by kernel_rfl) (by kernel_rfl) (Nat.le_of_ble_eq_true (by kernel_rfl)) (r1 (be .i64)) true (Pp x.1 x.2.1 x.2.2.1) (Um x.1 x.2.1 x.2.2.1 hc.1 hc.2)
noncomputable abbrev Fx : Nat × Bool × (List AV → M AV) := (86, true, dj (aC cq (aC bt (aC bt a0))) nc)
theorem aei (t : UInt16) (a b : c7) (ha : dm a) (hb : dm b) : wl PP [Ku, Fx] 0 (Tryz.f74.body.getD .skip) (du PP Tryz.f74.results.toList (fun r st => (r1 bq).get true st.h r = some (Md t a b))) (cy 0 [cq.val false t, bt.val false a, bt.val false b]) (bn []) := by
  unfold Tryz.f74
  simp only [oh, da]
  simp only [↓wR, RA, simprocAttr, TF, rn, ha, hb]
  unfold Md
  rw [c9]; refine ⟨fun ⟨h, e⟩ => ?_, fun ⟨h, e⟩ => ?_⟩
  · rw [decide_eq_true e]
    simp only [↓wR, RA, simprocAttr, TF, h, rn, ha, hb]
    rw [c9]; refine ⟨fun ⟨h2, e2⟩ => ?_, fun ⟨h2, e2⟩ => ?_⟩
    · rw [decide_eq_true e2]
      simp only [↓wR, RA, simprocAttr, TF, h2, nc, ha, hb]
      rfl
    · rw [decide_eq_false e2]
      simp only [↓wR, RA, simprocAttr, TF, h2]
      rfl
  · rw [decide_eq_false e]
    simp only [↓wR, RA, simprocAttr, TF, h]
    rfl
noncomputable def Bs (x : UInt16 × c7 × c7 × Unit) : Option AV := if dm x.2.1 ∧ dm x.2.2.1 then some ((r1 bq).E true (Md x.1 x.2.1 x.2.2.1)) else none
set_option maxRecDepth 2000000 in
theorem Xi (x : UInt16 × c7 × c7 × Unit) (r : AV) (h : Bs x = some r) : bh PP 74 ((aC cq (aC bt (aC bt a0))).E x) r := by
  by_cases hc : dm x.2.1 ∧ dm x.2.2.1
  case neg => simp only [Bs, if_neg hc] at h; cases h
  simp only [Bs, if_pos hc] at h
  cases h
  exact bg (aw.cons (aq Am) (aw.cons (aq C7) (aw.nil PP))) Tryz.func74 (by kernel_rfl) (by kernel_rfl) (by kernel_rfl) (Nat.le_of_ble_eq_true (by kernel_rfl)) (r1 bq) true (Md x.1 x.2.1 x.2.2.1) (aei x.1 x.2.1 x.2.2.1 hc.1 hc.2)
noncomputable abbrev an8 : Nat × Bool × (List AV → M AV) := (74, true, dj (aC cq (aC bt (aC bt a0))) Bs)
end Go.Proofs.YtcbdpmfipecmgaaGreat
end
section
set_option linter.unusedSimpArgs false
set_option linter.unusedVariables false
set_option maxRecDepth 100000
namespace Go.Vm
noncomputable section
theorem Cu {α : Type} (C : c6 α) (fr : Bool) (h : Tr ba) (l : List AV) (ha : C.agg = true) : C.dec fr h l = C.ek fr h (.agg l) := by
  rw [sf _ _ _ _ rfl (by rw [ha]; rfl)]; rfl
theorem Pc {α β : Type} (A : c6 α) (B : c6 β) (fr : Bool) (h : Tr ba) (l : List AV) : (iw A B).dec fr h l = match A.dec fr h (l.take A.sz), B.dec fr h (l.drop A.sz) with | some x, some y => some (x, y) | _, _ => none := rfl
theorem Ib {α : Type} (C : c6 α) (fr h) (x : AV) : (cw C).dec fr h [x] = eh C fr h x := rfl
theorem H3 (fr h) (x : AV) : ar.dec fr h [x] = eh aj fr h x := rfl
theorem ajg {P : Program} {T : dr} {l : Nat} {az : Nat} {L : SL} {st : St} {Q : QI} {ps : List Tmp} {ra rb : Code} {L0 : SL} {α : Type} {b : Code} (keep : List Nat) (V : α → List AV) (O : α → List (Option ba)) (I : α → Prop) (μ : α → Nat) (x : α) (hx : I x)
    (hv : mz az (ki az keep L st) (gj az keep L st) (V x) (O x))
    (step : ∀ x, I x → pf P T l (n6 ps (fun p => wl P T p ra) (fun p => wl P T p rb) L0) az b (yw (xg az keep (fun vs os => ∃ y, I y ∧ μ y < μ x ∧ vs = V y ∧ os = O y) (fun _ _ _ => False)) Q) none (m7 keep (V x)) (bn (O x))) : pf P T l (n6 ps (fun p => wl P T p ra) (fun p => wl P T p rb) L0) az (.loop b) Q none L st := by
  have mono : ∀ (Q1 Q2 : QL), (∀ e L st, Q1 e L st → Q2 e L st) → ∀ L st, pf P T l (n6 ps (fun p => wl P T p ra) (fun p => wl P T p rb) L0) az b (yw Q1 Q) none L st → pf P T l (n6 ps (fun p => wl P T p ra) (fun p => wl P T p rb) L0) az b (yw Q2 Q) none L st := fun Q1 Q2 h L st hh => Pt (Nd P T) b _ _ (fun e pe L st q => by
    cases e with
    | normal => exact ⟨q.1, h _ _ _ q.2⟩
    | ret => exact q
    | exit i => exact q) none L st hh
  refine ⟨rfl, sk.apj (B := fun Q' L st => pf P T l _ az b (yw Q' Q) none L st) keep V O I μ x hx hv mono (fun x hi => mono _ _ (fun e L' st' hq => ?_) _ _ (step x hi))⟩
  cases e with
  | normal =>
    obtain ⟨y, h1, h2, h3, h4⟩ := hq
    refine ⟨y, h1, h2, ?_⟩
    rw [h3, h4]; exact .refl _ _ _
  | exit i => exact hq.elim
  | ret => exact hq.elim
theorem Il (k fr h n cells kk st et) (hn : n = cells.length) : nb (be k) fr h 0 n (.row cells kk st et) = qq (be k) fr h cells := wx (be k) rfl fr h n cells kk st et hn
def g5 (n : Nat) (r : AV) (st : St) : List Nat := reach st.h eg (r.names ++ n9 st.h (dh 0 n)) (dh 0 n)
def iz (n : Nat) (r : AV) (st : St) : AV := r.c8 (fun o => idx (g5 n r st) o 0)
def ik (n : Nat) (r : AV) (st : St) : St := bn (ig st.h (fun o => idx (g5 n r st) o 0) (g5 n r st))
theorem afm {g g' : Gh} {st st' : St} {w w' : World} {r : AV} {v : Value} (hn : st.nx ≤ 1000) (hfr : ∀ o, st.nx ≤ o → g.inj o = none) (hs : Step g st.h w st.nx st'.nx g' st'.h w') (hok : Ok g' st'.h w') (hr : Rel g' w' r v) :
    ∃ g'', st.nx ≤ (ik st.nx r st').nx ∧ Step g st.h w st.nx (ik st.nx r st').nx g'' (ik st.nx r st').h w' ∧ Ok g'' (ik st.nx r st').h w' ∧ Rel g'' w' (iz st.nx r st') v := by
  have hN := ym st'.h eg (r.names ++ n9 st'.h (dh 0 st.nx)) (dh 0 st.nx) (qs _ _)
  change (g5 st.nx r st').Nodup ∧ (∃ q, g5 st.nx r st' = dh 0 st.nx ++ q) ∧ (g5 st.nx r st').length ≤ _ at hN
  have hτ : ∀ o p, (fun o => idx (g5 st.nx r st') o 0) o = some p → (g5 st.nx r st')[p]? = some o := fun o p h => Cp _ o p h
  unfold ik iz
  generalize g5 st.nx r st' = N at hN hτ
  obtain ⟨hnd, ⟨rest, hpre⟩, hlen⟩ := hN
  rw [i9] at hlen
  have hlim : N.length ≤ bw := by simp only [eg, bw] at *; omega
  have cr : ∀ i x, (bn (ig st'.h (fun o => idx N o 0) N)).h.get i = some x → ∃ o y, N[i]? = some o ∧ st'.h.get o = some y ∧ y.c8 (fun o => idx N o 0) = some x := by
    intro i x hx
    simp only [bn] at hx
    rw [tc _ _ _ (by rw [gw]; omega), if_pos (Nat.zero_le _), Nat.sub_zero, tz] at hx
    cases hi : N[i]? with
    | none => rw [hi] at hx; cases hx
    | some o =>
      rw [hi] at hx
      simp only [Option.map_some, Option.join_some] at hx
      cases hy : st'.h.get o with
      | none => rw [hy] at hx; cases hx
      | some y => rw [hy] at hx; exact ⟨o, y, rfl, hy, hx⟩
  have hinj : ∀ i o, N[i]? = some o → (g'.c8 N).inj i = g'.inj o := fun i o h => by simp [Gh.c8, h]
  have hlow : ∀ o, o < st.nx → N[o]? = some o := fun o ho => by rw [hpre, List.getElem?_append_left (by rw [i9]; exact ho), B8 _ _ _ ho, Nat.zero_add]
  have hnx : (bn (ig st'.h (fun o => idx N o 0) N)).nx = N.length := by simp only [bn, gw]
  have hle : st.nx ≤ N.length := by rw [hpre, List.length_append, i9]; omega
  rw [hnx]
  refine ⟨g'.c8 N, hle, ⟨⟨hs.ext.b0, fun o p ho => ?_, hs.ext.K, hs.ext.cell, hs.ext.z3, hs.ext.lp⟩, hs.size, hs.os, hs.tape, hs.output, hs.frame, fun o ho hr => ?_, fun i b base hi hj => ?_, hs.oq⟩, ⟨hok.size, fun i x hx => ?_, fun i j x y b base base' hij hx hy hb hb' => ?_, hok.K⟩, hr.c8 hτ⟩
  · have hlt : o < st.nx := by
      rcases Nat.lt_or_ge o st.nx with h | h
      · exact h
      · rw [hfr o h] at ho; cases ho
    rw [hinj o o (hlow o hlt)]; exact hs.ext.inj o p ho
  · rcases Nat.lt_or_ge o st.nx with h | h
    · rw [hinj o o (hlow o h)]; exact hs.fresh o ho (by omega)
    · simp [Gh.c8, List.getElem?_eq_none (show N.length ≤ o by omega)]
  · obtain ⟨x, hx⟩ := Option.isSome_iff_exists.1 hi
    obtain ⟨o, y, h1, h2, _⟩ := cr i x hx
    rw [hinj i o h1] at hj
    exact hs.own o b base (by rw [h2]; rfl) hj
  · obtain ⟨o, y, h1, h2, h3⟩ := cr i x hx
    refine (hok.mw o y h2).imp (fun q => ⟨by rw [hinj i o h1]; exact q.1, by obtain ⟨s0, e0, rfl⟩ := q.2; simp only [ba.c8, AV.c8.go, Option.some.injEq] at h3; exact ⟨s0, e0, h3.symm⟩⟩) ?_
    rintro ⟨b, base, q1, q2, q3⟩
    exact ⟨b, base, by rw [hinj i o h1]; exact q1, q2, q3.c8 hτ h3⟩
  · obtain ⟨o, y1, h1, h2, _⟩ := cr i x hx
    obtain ⟨o', y2, h1', h2', _⟩ := cr j y hy
    rw [hinj i o h1] at hb
    rw [hinj j o' h1'] at hb'
    have hne : o ≠ o' := by
      intro e
      subst e
      obtain ⟨hi, ei⟩ := List.getElem?_eq_some_iff.1 h1
      obtain ⟨hj, ej⟩ := List.getElem?_eq_some_iff.1 h1'
      exact hij ((List.getElem_inj hnd).1 (ei.trans ej.symm))
    exact hok.sep o o' _ _ b base base' hne h2 h2' hb hb'
theorem dn {P : Program} {f : Nat} {args : List AV} {st : St} {R : AV → St → Prop} (R0 : AV → St → Prop) (hn : Nat.ble st.nx 1000 = true) (h1 : rk P f args st (fun r st' => R0 (iz st.nx r st') (ik st.nx r st'))) (h2 : ∀ r st', R0 r st' → R r st') : rk P f args st R := by
  intro g w vs hok hfr hrel
  rcases h1 g w vs hok hfr hrel with ⟨v, w', g', r, st', q1, q2, q3, q4, q5, q6⟩ | ⟨q1, q2⟩
  · obtain ⟨g'', p1, p2, p3, p4⟩ := afm (Nat.le_of_ble_eq_true hn) hfr q4 q5 q6
    exact .inl ⟨v, w', g'', _, _, q1, h2 _ _ q2, p1, p2, p3, p4⟩
  · refine .inr ⟨q1, q2.mono ?_⟩
    rintro e w' ⟨v, g', r, st', rfl, q2, q3, q4, q5, q6⟩
    obtain ⟨g'', p1, p2, p3, p4⟩ := afm (Nat.le_of_ble_eq_true hn) hfr q4 q5 q6
    exact ⟨v, g'', _, _, rfl, h2 _ _ q2, p1, p2, p3, p4⟩
theorem I2 (l) (n : Name) : jw (ar.val l n) = some n.length := by
  rw [da]; show some (List.map (aj.val l) n).length = _; rw [List.length_map]
theorem afj (a b : Operand) : (#[a] ++ (none : Option Operand).toArray ++ (some b).toArray ++ (none : Option Operand).toArray).toList = [a, b] := id rfl
theorem md5 (a : Nat) : a * 5 / 5 = a := by omega
theorem dv4 : 4 / 4 = 1 := rfl
theorem dv5 : 5 / 5 = 1 := rfl
theorem Z5 (fr h) : cq.dec fr h [.sc (.int .u16 0)] = some 0 := rfl
theorem Yy (fr h) : dg.dec fr h [.sc (.int .u32 0)] = some 0 := rfl
theorem afp (k fr h n) : (be k).dec fr h [.sc (.int k n)] = some n := (be k).rt fr h true n (fun _ => rfl)
theorem Io (l : Bool) (d : c7) : (bt.val l d).cells = [.vl l 1 (d.names.map (ar.val l)), .vl l 1 (d.nums.map (dg.val l)), .vl l 1 (d.texts.map (aj.val l)), .vl l 1 (d.raw.map (bz.val l))] := id rfl
theorem Ka (fr h l) (n : Name) (hl : (l || !fr) = true) : eh aj fr h (ar.val l n) = some n := u6 aj fr h l n 1 rfl hl
def adp {α : Type} (C : c6 α) (h : Tr ba) (off : Nat) (x : ba) : Option α :=
  match x with
  | .row cells _ _ _ => bif Nat.ble (off + C.sz) cells.length then C.dec false h ((cells.drop off).take C.sz) else none
  | _ => none
def Uk {α : Type} (C : c6 α) (h : Tr ba) (a : AV) : Option α :=
  match a with
  | .gn l => bif Nat.ble C.sz l.length then C.dec false h (l.take C.sz) else none
  | .ptr o off => (h.get o).bind (adp C h off)
  | _ => none
theorem Pu {α : Type} (C : c6 α) (h o off) : Uk C h (.ptr o off) = (h.get o).bind (adp C h off) := id rfl
theorem Wb {α : Type} (C : c6 α) (h l) : Uk C h (.gn l) = bif Nat.ble C.sz l.length then C.dec false h (l.take C.sz) else none := id rfl
theorem Pa {α : Type} (C : c6 α) (h off cells k s e) : adp C h off (.row cells k s e) = bif Nat.ble (off + C.sz) cells.length then C.dec false h ((cells.drop off).take C.sz) else none := id rfl
theorem art {α : Type} (C : c6 α) {g h w K b0 a v x} (hok : Ok g h w) (hl : sb g h K) (hr : Rel g w a v) (hd : Uk C h a = some x) : Rel (gK b0 K) w (.gn (C.cells false x)) v := by
  have fin : ∀ (b off : Nat) (vs : List Value), bj g w ((C.cells false x).map fun _ => AV.bad) vs → bj (gK b0 K) w (C.cells false x) vs → (∀ j u, vs[j]? = some u → K b (off + j) ∧ w.cell? ⟨b, off + j, none⟩ = some u) → Rel (gK b0 K) w (.gn (C.cells false x)) (.pointer (some ⟨b, off, none⟩)) := by
    intro b off vs _ hrl hc
    refine .gn _ b off (fun j => vs.getD j undef) (fun j a hj => ?_) (fun j a hj => ?_)
    · obtain ⟨u, hu, _⟩ := hrl.get hj
      have := hc j u hu
      exact ⟨this.1, by rw [this.2, List.getD_eq_getElem?_getD, hu]; rfl⟩
    · obtain ⟨u, hu, hrel⟩ := hrl.get hj
      show Rel _ _ a (vs.getD j undef)
      rw [List.getD_eq_getElem?_getD, hu]; exact hrel
  have bads : ∀ vs : List Value, bj (gK b0 K) w (C.cells false x) vs → bj g w ((C.cells false x).map fun _ => AV.bad) vs := fun vs h => ⟨by simpa using h.1, fun i a v ha _ => by
    rw [List.getElem?_map, Option.map_eq_some_iff] at ha
    obtain ⟨_, _, rfl⟩ := ha
    exact .bad _⟩
  cases hr with
  | gn l b off c h1 h2 =>
    rw [Wb] at hd
    cases hb : Nat.ble C.sz l.length with
    | false => rw [hb] at hd; cases hd
    | true =>
      rw [hb, cond_true] at hd
      have hle := Nat.le_of_ble_eq_true hb
      have hlist : bj g w (l.take C.sz) (i5 0 C.sz c) := by
        refine ⟨by simp [i5]; omega, fun i a v ha hv => ?_⟩
        rw [List.getElem?_take] at ha
        by_cases hi : i < C.sz
        · rw [if_pos hi] at ha
          simp only [i5, List.getElem?_map, List.getElem?_range hi, Option.map_some, Option.some.injEq, Nat.zero_add] at hv
          subst hv
          exact h2 i a ha
        · rw [if_neg hi] at ha; cases ha
      have q := C.ok (b0 := b0) hok hl (fun e => by cases e) hlist hd
      refine fin b off _ (bads _ q) q (fun j u hu => ?_)
      have hj : j < C.sz := by have := (List.getElem?_eq_some_iff.1 hu).1; simpa [i5] using this
      simp only [i5, List.getElem?_map, List.getElem?_range hj, Option.map_some, Option.some.injEq, Nat.zero_add] at hu
      subst hu
      have := h1 j _ (List.getElem?_eq_getElem (by omega))
      exact ⟨hl.K _ _ this.1, this.2⟩
  | ptr o off b base hi =>
    rw [Pu, Option.bind_eq_some_iff] at hd
    obtain ⟨y, hy, hd⟩ := hd
    obtain ⟨b', base', hi', hbb, hrow⟩ := hok.obj o y hy
    rw [hi] at hi'; cases hi'
    cases y with
    | map es => cases hd
    | loop => cases hd
    | row cells k st et =>
      rw [Pa] at hd
      cases hle : Nat.ble (off + C.sz) cells.length with
      | false => rw [hle] at hd; cases hd
      | true =>
        rw [hle, cond_true] at hd
        have hle' := Nat.le_of_ble_eq_true hle
        obtain ⟨cs, fz, r1, r2, r3, _⟩ := hrow
        have hpart : bj g w ((cells.drop off).take C.sz) (i5 (base + off) C.sz (fun j => cs.getD j undef)) := by
          refine ⟨by simp [i5]; omega, fun i a v ha hv => ?_⟩
          rw [List.getElem?_take, List.getElem?_drop] at ha
          by_cases hil : i < C.sz
          · rw [if_pos hil] at ha
            obtain ⟨u, hu, hrel⟩ := r3 _ a ha
            simp only [i5, List.getElem?_map, List.getElem?_range hil, Option.map_some, Option.some.injEq] at hv
            subst hv
            rw [Array.getD_eq_getD_getElem?, Nat.add_assoc, hu]
            exact hrel
          · rw [if_neg hil] at ha; cases ha
        have q := C.ok (b0 := b0) hok hl (fun e => by cases e) hpart hd
        refine fin b (base + off) _ (bads _ q) q (fun j u hv => ?_)
        have hj : j < C.sz := by have := (List.getElem?_eq_some_iff.1 hv).1; simpa [i5] using this
        simp only [i5, List.getElem?_map, List.getElem?_range hj, Option.map_some, Option.some.injEq] at hv
        obtain ⟨u, hu, _⟩ := r3 (off + j) (cells[off + j]'(by omega)) (by simp)
        have hrows := hl.rows o cells k st et hy b base hi (off + j) (by omega)
        rw [← Nat.add_assoc] at hrows hu
        refine ⟨hrows, ?_⟩
        rw [mr r1, hu, ← hv, Array.getD_eq_getD_getElem?, hu]
        rfl
  | _ => cases hd
def aP {α β : Type} (C : c6 α) (R : AC β) : AC (α × β) where
  E p := .gn (C.cells false p.1) :: R.E p.2
  D h l := match l with
    | [] => none
    | a :: r => match Uk C h a, R.D h r with
      | some x, some y => some (x, y)
      | _, _ => none
  rt h p := by
    have : Uk C h (.gn (C.cells false p.1)) = some p.1 := by
      rw [Wb, C.len, Nat.ble_self_eq_true, cond_true, List.take_of_length_le (by rw [C.len]; exact Nat.le_refl _)]
      exact C.rt false h false p.1 (fun e => by cases e)
    simp only [this, R.rt]
  ok := by
    intro g h w K b0 l vs x hok hl hr hd
    match l, hd with
    | a :: r, hd =>
      simp only at hd
      split at hd
      · rename_i x1 y1 hx hy
        simp at hd; subst hd
        match vs, hr with
        | [], hr => have := hr.1; simp at this
        | v :: vs, hr => exact bj.cons (art C hok hl hr.head hx) (R.ok hok hl hr.tail hy)
      · cases hd
theorem auv {α β : Type} (C : c6 α) (R : AC β) (h : Tr ba) (a : AV) (r : List AV) : (aP C R).get h (a :: r) = match Uk C h a, R.get h r with | some x, some y => some (x, y) | _, _ => none := id rfl
theorem Xz (f) (l : List c7) (d : c7) : cellsOf bt f (l ++ [d]) = cellsOf bt f l ++ [.vl f 1 (d.names.map (ar.val f)), .vl f 1 (d.nums.map (dg.val false)), .vl f 1 (d.texts.map (aj.val false)), .vl f 1 (d.raw.map (bz.val false))] := by rw [A8, M8]; rfl
structure bd where
  owner : Name
  type : UInt16
  cls : UInt16
  qn : UInt32
  data : List c7
def mkS (owner : Name) (type : UInt16) (cls : UInt16) (qn : UInt32) (data : List c7) : bd := ⟨owner, type, cls, qn, data⟩
theorem ag5 (x : bd) : mkS x.owner x.type x.cls x.qn x.data = x := id rfl
def ah : c6 bd := wg (iw ar (iw cq (iw cq (iw dg (cw bt))))) (fun x => (x.owner, x.type, x.cls, x.qn, x.data)) (fun p => ⟨p.1, p.2.1, p.2.2.1, p.2.2.2.1, p.2.2.2.2⟩) (fun _ => rfl) (fun _ => rfl)
theorem nf (l : Bool) (x : bd) : ah.val l x = .agg [.vl l 1 (x.owner.map (aj.val l)), .sc (.int .u16 x.type.toNat), .sc (.int .u16 x.cls.toNat), .sc (.int .u32 x.qn.toNat), .vl l 4 (x.data.map (bt.val l))] := id rfl
theorem Vp : ah.sz = 5 := id rfl
theorem Sk (fr : Bool) (h : Tr ba) (y0 y1 y2 y3 y4 : AV) : ah.ek fr h (.agg [y0, y1, y2, y3, y4]) = match eh aj fr h y0, cq.dec fr h [y1], cq.dec fr h [y2], dg.dec fr h [y3], eh bt fr h y4 with
    | some v0, some v1, some v2, some v3, some v4 => some (mkS v0 v1 v2 v3 v4)
    | _, _, _, _, _ => none := by
  rw [sf _ _ _ _ rfl rfl]
  have h1 : ah.dec fr h (AV.agg [y0, y1, y2, y3, y4]).cells = Option.map (fun p => (⟨p.1, p.2.1, p.2.2.1, p.2.2.2.1, p.2.2.2.2⟩ : bd)) ((iw ar (iw cq (iw cq (iw dg (cw bt))))).dec fr h [y0, y1, y2, y3, y4]) := rfl
  rw [h1]
  simp only [Pc, u0, oe, v7, rm, tv, ry, List.take_succ_cons, List.take_zero, List.drop_succ_cons, List.drop_zero, Ib, H3]
  cases (eh aj fr h y0) <;> cases (cq.dec fr h [y1]) <;> cases (cq.dec fr h [y2]) <;> cases (dg.dec fr h [y3]) <;> cases (eh bt fr h y4) <;> rfl
theorem Mz (f) (l : List bd) : (l.map (ah.val f)).flatMap AV.cells = cellsOf ah f l := Dw ah f l
theorem sx (l) (xs : List bd) (x : bd) : cellsOf ah l (xs ++ [x]) = cellsOf ah l xs ++ [.vl l 1 (x.owner.map (aj.val false)), .sc (.int .u16 x.type.toNat), .sc (.int .u16 x.cls.toNat), .sc (.int .u32 x.qn.toNat), .vl l 4 (x.data.map (bt.val l))] := by rw [A8, M8]; rfl
structure bf where
  origin : Name
  ak : List bd
def mkZ (origin : Name) (ak : List bd) : bf := ⟨origin, ak⟩
theorem agq (x : bf) : mkZ x.origin x.ak = x := id rfl
def cj : c6 bf := wg (iw ar (cw ah)) (fun x => (x.origin, x.ak)) (fun p => ⟨p.1, p.2⟩) (fun _ => rfl) (fun _ => rfl)
theorem iy (l : Bool) (x : bf) : cj.val l x = .agg [.vl l 1 (x.origin.map (aj.val l)), .vl l 5 (x.ak.map (ah.val l))] := id rfl
theorem Ad (l : Bool) (x : bf) : cj.cells l x = [.vl l 1 (x.origin.map (aj.val l)), .vl l 5 (x.ak.map (ah.val l))] := id rfl
theorem Cd : cj.sz = 2 := id rfl
theorem Fi (fr : Bool) (h : Tr ba) (y0 y1 : AV) : cj.ek fr h (.agg [y0, y1]) = match eh aj fr h y0, eh ah fr h y1 with
    | some v0, some v1 => some (mkZ v0 v1)
    | _, _ => none := by
  rw [sf _ _ _ _ rfl rfl]
  have h1 : cj.dec fr h (AV.agg [y0, y1]).cells = Option.map (fun p => (⟨p.1, p.2⟩ : bf)) ((iw ar (cw ah)).dec fr h [y0, y1]) := rfl
  rw [h1]
  simp only [Pc, u0, oe, v7, rm, tv, ry, List.take_succ_cons, List.take_zero, List.drop_succ_cons, List.drop_zero, Ib, H3]
  cases (eh aj fr h y0) <;> cases (eh ah fr h y1) <;> rfl
theorem Ke (fr : Bool) (h : Tr ba) (y0 y1 : AV) : cj.dec fr h [y0, y1] = match eh aj fr h y0, eh ah fr h y1 with
    | some v0, some v1 => some (mkZ v0 v1)
    | _, _ => none := (Cu cj fr h _ rfl).trans (Fi fr h y0 y1)
structure A2 where
  kind : Int
  node : Name
  vd : Name
def ur (kind : Int) (node : Name) (vd : Name) : A2 := ⟨kind, node, vd⟩
theorem Yw (kind node vd) : (ur kind node vd).node = node := id rfl
def re : c6 A2 := wg (iw (be .u8) (iw ar ar)) (fun x => (x.kind, x.node, x.vd)) (fun p => ⟨p.1, p.2.1, p.2.2⟩) (fun _ => rfl) (fun _ => rfl)
theorem Fy (l : Bool) (x : A2) : re.val l x = .agg [.sc (.int .u8 x.kind), .vl l 1 (x.node.map (aj.val l)), .vl l 1 (x.vd.map (aj.val l))] := id rfl
theorem M4 (fr : Bool) (h : Tr ba) (y0 y1 y2 : AV) : re.ek fr h (.agg [y0, y1, y2]) = match (be .u8).dec fr h [y0], eh aj fr h y1, eh aj fr h y2 with
    | some v0, some v1, some v2 => some (ur v0 v1 v2)
    | _, _, _ => none := by
  rw [sf _ _ _ _ rfl rfl]
  have h1 : re.dec fr h (AV.agg [y0, y1, y2]).cells = Option.map (fun p => (⟨p.1, p.2.1, p.2.2⟩ : A2)) ((iw (be .u8) (iw ar ar)).dec fr h [y0, y1, y2]) := rfl
  rw [h1]
  simp only [Pc, u0, oe, v7, rm, tv, ry, List.take_succ_cons, List.take_zero, List.drop_succ_cons, List.drop_zero, Ib, H3]
  cases ((be .u8).dec fr h [y0]) <;> cases (eh aj fr h y1) <;> cases (eh aj fr h y2) <;> rfl
structure Et where
  turn : Int
  ak : List bd
  to : Name
def pg (turn : Int) (ak : List bd) (to : Name) : Et := ⟨turn, ak, to⟩
theorem agy (x : Et) : pg x.turn x.ak x.to = x := id rfl
theorem aam (turn ak to) : (pg turn ak to).turn = turn := id rfl
theorem acn (turn ak to) : (pg turn ak to).ak = ak := id rfl
theorem anf (turn ak to) : (pg turn ak to).to = to := id rfl
def wv : c6 Et := wg (iw (be .u8) (iw (cw ah) ar)) (fun x => (x.turn, x.ak, x.to)) (fun p => ⟨p.1, p.2.1, p.2.2⟩) (fun _ => rfl) (fun _ => rfl)
theorem Ng (l : Bool) (x : Et) : wv.val l x = .agg [.sc (.int .u8 x.turn), .vl l 5 (x.ak.map (ah.val l)), .vl l 1 (x.to.map (aj.val l))] := id rfl
theorem N8 (fr : Bool) (h : Tr ba) (y0 y1 y2 : AV) : wv.ek fr h (.agg [y0, y1, y2]) = match (be .u8).dec fr h [y0], eh ah fr h y1, eh aj fr h y2 with
    | some v0, some v1, some v2 => some (pg v0 v1 v2)
    | _, _, _ => none := by
  rw [sf _ _ _ _ rfl rfl]
  have h1 : wv.dec fr h (AV.agg [y0, y1, y2]).cells = Option.map (fun p => (⟨p.1, p.2.1, p.2.2⟩ : Et)) ((iw (be .u8) (iw (cw ah) ar)).dec fr h [y0, y1, y2]) := rfl
  rw [h1]
  simp only [Pc, u0, oe, v7, rm, tv, ry, List.take_succ_cons, List.take_zero, List.drop_succ_cons, List.drop_zero, Ib, H3]
  cases ((be .u8).dec fr h [y0]) <;> cases (eh ah fr h y1) <;> cases (eh aj fr h y2) <;> rfl
structure ud where
  z : bf
  e : Int
def mkL (z : bf) (e : Int) : ud := ⟨z, e⟩
theorem aqu (z e) : (mkL z e).z = z := id rfl
def ml : c6 ud := wg (iw cj (be .i64)) (fun x => (x.z, x.e)) (fun p => ⟨p.1, p.2⟩) (fun _ => rfl) (fun _ => rfl)
theorem Ai (l : Bool) (x : ud) : ml.cells l x = [.vl l 1 (x.z.origin.map (aj.val l)), .vl l 5 (x.z.ak.map (ah.val l)), .sc (.int .i64 x.e)] := id rfl
theorem Tq : ml.sz = 3 := id rfl
theorem aeu (fr : Bool) (h : Tr ba) (y00 y01 y1 : AV) : ml.ek fr h (.agg [y00, y01, y1]) = match cj.ek fr h (.agg [y00, y01]), (be .i64).dec fr h [y1] with
    | some v0, some v1 => some (mkL v0 v1)
    | _, _ => none := by
  rw [sf _ _ _ _ rfl rfl]
  have h1 : ml.dec fr h (AV.agg [y00, y01, y1]).cells = Option.map (fun p => (⟨p.1, p.2⟩ : ud)) ((iw cj (be .i64)).dec fr h [y00, y01, y1]) := rfl
  rw [h1]
  simp only [Pc, u0, oe, v7, rm, tv, ry, List.take_succ_cons, List.take_zero, List.drop_succ_cons, List.drop_zero, Ib, H3, Cd, Cu cj fr h _ rfl]
  cases (cj.ek fr h (.agg [y00, y01])) <;> cases ((be .i64).dec fr h [y1]) <;> rfl
theorem Jh (fr : Bool) (h : Tr ba) (y00 y01 y1 : AV) : ml.dec fr h [y00, y01, y1] = match cj.ek fr h (.agg [y00, y01]), (be .i64).dec fr h [y1] with
    | some v0, some v1 => some (mkL v0 v1)
    | _, _ => none := (Cu ml fr h _ rfl).trans (aeu fr h y00 y01 y1)
structure zx where
  nq : Int
  aa : Bool
  answer : List bd
  authority : List bd
  ga : List bd
def qd (nq : Int) (aa : Bool) (answer : List bd) (authority : List bd) (ga : List bd) : zx := ⟨nq, aa, answer, authority, ga⟩
theorem V5 (nq aa answer authority ga) : (qd nq aa answer authority ga).nq = nq := id rfl
theorem akw (nq aa answer authority ga) : (qd nq aa answer authority ga).aa = aa := id rfl
theorem Ri (nq aa answer authority ga) : (qd nq aa answer authority ga).answer = answer := id rfl
theorem Iq (nq aa answer authority ga) : (qd nq aa answer authority ga).authority = authority := id rfl
theorem G3 (nq aa answer authority ga) : (qd nq aa answer authority ga).ga = ga := id rfl
def oc : c6 zx := wg (iw (be .i64) (iw bq (iw (cw ah) (iw (cw ah) (cw ah))))) (fun x => (x.nq, x.aa, x.answer, x.authority, x.ga)) (fun p => ⟨p.1, p.2.1, p.2.2.1, p.2.2.2.1, p.2.2.2.2⟩) (fun _ => rfl) (fun _ => rfl)
theorem J8 (l : Bool) (x : zx) : oc.val l x = .agg [.sc (.int .i64 x.nq), .sc (.bool x.aa), .vl l 5 (x.answer.map (ah.val l)), .vl l 5 (x.authority.map (ah.val l)), .vl l 5 (x.ga.map (ah.val l))] := id rfl
theorem aef : oc.sz = 5 := id rfl
theorem K6 (fr : Bool) (h : Tr ba) (y0 y1 y2 y3 y4 : AV) : oc.ek fr h (.agg [y0, y1, y2, y3, y4]) = match (be .i64).dec fr h [y0], bq.dec fr h [y1], eh ah fr h y2, eh ah fr h y3, eh ah fr h y4 with
    | some v0, some v1, some v2, some v3, some v4 => some (qd v0 v1 v2 v3 v4)
    | _, _, _, _, _ => none := by
  rw [sf _ _ _ _ rfl rfl]
  have h1 : oc.dec fr h (AV.agg [y0, y1, y2, y3, y4]).cells = Option.map (fun p => (⟨p.1, p.2.1, p.2.2.1, p.2.2.2.1, p.2.2.2.2⟩ : zx)) ((iw (be .i64) (iw bq (iw (cw ah) (iw (cw ah) (cw ah))))).dec fr h [y0, y1, y2, y3, y4]) := rfl
  rw [h1]
  simp only [Pc, u0, oe, v7, rm, tv, ry, List.take_succ_cons, List.take_zero, List.drop_succ_cons, List.drop_zero, Ib, H3]
  cases ((be .i64).dec fr h [y0]) <;> cases (bq.dec fr h [y1]) <;> cases (eh ah fr h y2) <;> cases (eh ah fr h y3) <;> cases (eh ah fr h y4) <;> rfl
structure Dk where
  z : bf
  r : zx
  seen : List Name
def mkB (z : bf) (r : zx) (seen : List Name) : Dk := ⟨z, r, seen⟩
theorem aa6 (z r seen) : (mkB z r seen).seen = seen := id rfl
def th : c6 Dk := wg (iw cj (iw oc (cw ar))) (fun x => (x.z, x.r, x.seen)) (fun p => ⟨p.1, p.2.1, p.2.2⟩) (fun _ => rfl) (fun _ => rfl)
theorem Td (l : Bool) (x : Dk) : th.cells l x = [.vl l 1 (x.z.origin.map (aj.val l)), .vl l 5 (x.z.ak.map (ah.val l)), .sc (.int .i64 x.r.nq), .sc (.bool x.r.aa), .vl l 5 (x.r.answer.map (ah.val l)), .vl l 5 (x.r.authority.map (ah.val l)), .vl l 5 (x.r.ga.map (ah.val l)), .vl l 1 (x.seen.map (ar.val l))] := id rfl
theorem Nm : th.sz = 8 := id rfl
theorem aat (fr : Bool) (h : Tr ba) (y00 y01 y10 y11 y12 y13 y14 y2 : AV) : th.ek fr h (.agg [y00, y01, y10, y11, y12, y13, y14, y2]) = match cj.ek fr h (.agg [y00, y01]), oc.ek fr h (.agg [y10, y11, y12, y13, y14]), eh ar fr h y2 with
    | some v0, some v1, some v2 => some (mkB v0 v1 v2)
    | _, _, _ => none := by
  rw [sf _ _ _ _ rfl rfl]
  have h1 : th.dec fr h (AV.agg [y00, y01, y10, y11, y12, y13, y14, y2]).cells = Option.map (fun p => (⟨p.1, p.2.1, p.2.2⟩ : Dk)) ((iw cj (iw oc (cw ar))).dec fr h [y00, y01, y10, y11, y12, y13, y14, y2]) := rfl
  rw [h1]
  simp only [Pc, u0, oe, v7, rm, tv, ry, List.take_succ_cons, List.take_zero, List.drop_succ_cons, List.drop_zero, Ib, H3, Cd, Cu cj fr h _ rfl, aef, Cu oc fr h _ rfl]
  cases (cj.ek fr h (.agg [y00, y01])) <;> cases (oc.ek fr h (.agg [y10, y11, y12, y13, y14])) <;> cases (eh ar fr h y2) <;> rfl
theorem Iw (fr : Bool) (h : Tr ba) (y00 y01 y10 y11 y12 y13 y14 y2 : AV) : th.dec fr h [y00, y01, y10, y11, y12, y13, y14, y2] = match cj.ek fr h (.agg [y00, y01]), oc.ek fr h (.agg [y10, y11, y12, y13, y14]), eh ar fr h y2 with
    | some v0, some v1, some v2 => some (mkB v0 v1 v2)
    | _, _, _ => none := (Cu th fr h _ rfl).trans (aat fr h y00 y01 y10 y11 y12 y13 y14 y2)
theorem ag : type_of% @I2 ∧ type_of% @Il ∧ type_of% @afj ∧ type_of% @md5 ∧ type_of% @dv4 ∧ type_of% @dv5 ∧ type_of% @Z5 ∧ type_of% @Yy ∧ type_of% @afp ∧ type_of% @Pu ∧ type_of% @Pa ∧ type_of% @auv ∧ type_of% @Ka ∧ type_of% @Io ∧ type_of% @M9 ∧ type_of% @w8 ∧ type_of% @zo ∧ type_of% @ag5 ∧ type_of% @nf ∧ type_of% @Vp ∧ type_of% @Sk ∧ type_of% @Mz ∧ type_of% @agq ∧ type_of% @Ke ∧ type_of% @Cd ∧ type_of% @Fi ∧ type_of% @Yw ∧ type_of% @Fy ∧ type_of% @M4 ∧ type_of% @agy ∧ type_of% @aam ∧ type_of% @acn ∧ type_of% @anf ∧ type_of% @Ng ∧ type_of% @N8 ∧ type_of% @aqu ∧ type_of% @Jh ∧ type_of% @Tq ∧ type_of% @V5 ∧ type_of% @akw ∧ type_of% @Ri ∧ type_of% @Iq ∧ type_of% @G3 ∧ type_of% @J8 ∧ type_of% @K6 ∧ type_of% @aa6 ∧ type_of% @Iw ∧ type_of% @Nm :=
  ⟨@I2, @Il, @afj, @md5, @dv4, @dv5, @Z5, @Yy, @afp, @Pu, @Pa, @auv, @Ka, @Io, @M9, @w8, @zo, @ag5, @nf, @Vp, @Sk, @Mz, @agq, @Ke, @Cd, @Fi, @Yw, @Fy, @M4, @agy, @aam, @acn, @anf, @Ng, @N8, @aqu, @Jh, @Tq, @V5, @akw, @Ri, @Iq, @G3, @J8, @K6, @aa6, @Iw, @Nm⟩
end
end Go.Vm
end
section
set_option linter.unusedSimpArgs false
set_option linter.unusedVariables false
namespace Go.Proofs.YtcbdpmfipecmgaaGreat
open Go.Vm
set_option maxRecDepth 2000000
noncomputable def Ig (t : UInt16) (l : List c7) (d : c7) : Bool := l.any fun x => Md t x d
theorem aus (t : UInt16) (l : List c7) (d : c7) (hl : ∀ x ∈ l, dm x) (hn : l.length ≤ 16777216) (hd : dm d) : wl PP [] 0 (Tryz.f52.body.getD .skip) (du PP Tryz.f52.results.toList (fun r st => (r1 bq).get true st.h r = some (Ig t l d))) (cy 0 [cq.val false t, (cw bt).val false l, bt.val false d]) (bn []) := by
  unfold Tryz.f52
  simp only [tn, oh]
  simp only [↓wR, RA, simprocAttr, TF, ag]
  refine bm (T := []) (aw.nil PP) mixed Tryz.func72 rfl (by kernel_rfl) (by kernel_rfl) (by kernel_rfl) (by kernel_rfl) ?_; unfold Tryz.f72
  simp only [↓wR, RA, simprocAttr, TF, ag]
  refine bm (T := []) (aw.nil PP) mixed Tryz.func104 rfl (by kernel_rfl) (by kernel_rfl) (by kernel_rfl) (by kernel_rfl) ?_; unfold Tryz.f104
  simp only [↓wR, RA, simprocAttr, TF, ag]
  refine dx [0, 1, 7, 8] (fun (i : Nat) => [.vl false 4 (l.map (bt.val false)), .fn (.func 73) [] [.ptr 0 0, .ptr 1 0], .sc (.int .i64 (l.length)), .sc (.int .i64 (i))]) (fun _ => [some (.row [.sc (.int .u16 t.toNat)] 0 2 28), some (.row [.vl false 1 (d.names.map (ar.val false)), .vl false 1 (d.nums.map (dg.val false)), .vl false 1 (d.texts.map (aj.val false)), .vl false 1 (d.raw.map (bz.val false))] 0 2 65)]) (fun i => i ≤ l.length ∧ Ig t l d = Ig t (l.drop i) d) (fun i => l.length - i) 0 ⟨Nat.zero_le _, rfl⟩ (by simp only [↓wR, RA, simprocAttr, TF, ag] <;> rfl) (by simp only [↓wR, RA, simprocAttr, TF, ag] <;> rfl) ?_
  rintro i ⟨hi, hx⟩
  simp only [↓wR, RA, simprocAttr, TF, ag]
  rw [cp]; refine ⟨fun h => ?_, fun h => ?_⟩
  · obtain ⟨c, hc, hd1, hlt⟩ := ed (decide_eq_true h)
    have hx' : Ig t l d = (Md t c d || Ig t (l.drop (i + 1)) d) := by rw [hx, hd1]; rfl
    simp only [↓wR, RA, simprocAttr, TF, ag, h, hc]; repeat (simp (disch := omega) only [ai, cb, cd, b9, ca]; try simp only [↓wR, RA, simprocAttr, TF, ag, h, hc])
    refine bm (T := [an8]) (aw.cons (aq Xi) (aw.nil PP)) mixed Tryz.func73 rfl (by kernel_rfl) (by kernel_rfl) (by kernel_rfl) (by kernel_rfl) ?_; unfold Tryz.f73
    simp only [↓wR, RA, simprocAttr, TF, ag, Bs, hl c (List.mem_of_getElem? hc), hd]
    rw [cz]; refine ⟨fun h1 => ?_, fun h1 => ?_⟩
    · rw [h1, Bool.true_or] at hx'
      simp only [↓wR, RA, simprocAttr, TF, ag, h1]
      rw [hx']
      done
    · rw [h1, Bool.false_or] at hx'
      simp only [↓wR, RA, simprocAttr, TF, ag, h1]; repeat (simp (disch := omega) only [ai, cb, cd, b9, ca]; try simp only [↓wR, RA, simprocAttr, TF, ag, h1])
      exact ⟨i + 1, ⟨hlt, hx'⟩, by omega, by (first | rfl | trivial | omega | ((try (simp (disch := omega) only [ai])); (try (simp only [FB])); first | done | rfl | omega))⟩
  · rw [fq (decide_eq_false h)] at hx
    simp only [↓wR, RA, simprocAttr, TF, ag, h]
    rw [hx]; rfl
def qi (l : List c7) : Prop := g8 yd l ≤ 16777216
instance (l : List c7) : Decidable (qi l) := inferInstanceAs (Decidable (_ ≤ _))
theorem qi.mem {l : List c7} (h : qi l) : ∀ x ∈ l, dm x := fun x hx => by
  have h1 : yd x < g8 yd l := Cw hx
  unfold qi at h; unfold dm; omega
theorem qi.len {l : List c7} (h : qi l) : l.length ≤ 16777216 := Nat.le_trans (yc yd l) h
theorem aa1 {α : Type} (f : α → Nat) (l : List α) (i : Nat) : g8 f (l.take i) ≤ g8 f l := by
  induction l generalizing i with
  | nil => simp
  | cons a l ih =>
    cases i with
    | zero => exact Nat.zero_le _
    | succ i => have := ih i; simp only [g8, List.take_succ_cons, List.foldr_cons] at this ⊢; omega
theorem qi.take {l : List c7} (h : qi l) (i : Nat) : qi (l.take i) := Nat.le_trans (aa1 yd l i) h
noncomputable def Qu (x : UInt16 × List c7 × c7 × Unit) : Option AV := if qi x.2.1 ∧ dm x.2.2.1 then some ((r1 bq).E true (Ig x.1 x.2.1 x.2.2.1)) else none
set_option maxRecDepth 2000000 in
theorem alr (x : UInt16 × List c7 × c7 × Unit) (r : AV) (h : Qu x = some r) : bh PP 52 ((aC cq (aC (cw bt) (aC bt a0))).E x) r := by
  by_cases hc : qi x.2.1 ∧ dm x.2.2.1
  case neg => simp only [Qu, if_neg hc] at h; cases h
  simp only [Qu, if_pos hc] at h
  cases h
  exact bg (aw.nil PP) Tryz.func52 (by kernel_rfl) (by kernel_rfl) (by kernel_rfl) (Nat.le_of_ble_eq_true (by kernel_rfl)) (r1 bq) true (Ig x.1 x.2.1 x.2.2.1) (aus x.1 x.2.1 x.2.2.1 hc.1.mem hc.1.len hc.2)
noncomputable abbrev axa : Nat × Bool × (List AV → M AV) := (52, true, dj (aC cq (aC (cw bt) (aC bt a0))) Qu)
def um (s : bd) : Nat := bk s.owner + g8 yd s.data
def ea (s : bd) : Prop := um s ≤ 16777216
instance (s : bd) : Decidable (ea s) := inferInstanceAs (Decidable (_ ≤ _))
theorem ea.owner {s : bd} (h : ea s) : bb s.owner := by unfold ea um at h; unfold bb; omega
theorem ea.data {s : bd} (h : ea s) : qi s.data := by unfold ea um at h; unfold qi; omega
noncomputable def sg (t : UInt16) : List c7 → List c7 → Int
  | _, [] => 0
  | pre, d :: r => if fo t d ≠ 0 then fo t d else if Ig t pre d = true then 10 else sg t (pre ++ [d]) r
noncomputable def ph (s : bd) : Int :=
  if dv s.owner ≠ 0 then dv s.owner else if s.data.length = 0 then 9 else if 512 < s.data.length then 3 else sg s.type [] s.data
theorem ad3 (t : UInt16) {l : List c7} {i : Nat} {c : c7} (hc : l[i]? = some c) : sg t (l.take i) (l.drop i) = if fo t c ≠ 0 then fo t c else if Ig t (l.take i) c = true then 10 else sg t (l.take (i + 1)) (l.drop (i + 1)) := by
  obtain ⟨hi, rfl⟩ := List.getElem?_eq_some_iff.1 hc
  rw [List.drop_eq_getElem_cons hi, sg, List.take_succ_eq_append_getElem hi]
theorem ae3 (s : bd) (hs : ea s) : wl PP [dz, Ku, axa] 0 (Tryz.f113.body.getD .skip) (du PP Tryz.f113.results.toList (fun r st => (r1 (be .i64)).get true st.h r = some (ph s))) (cy 0 [ah.val false s]) (bn []) := by
  have ho := hs.owner
  have hd := hs.data
  have hn := hd.len
  unfold Tryz.f113
  simp only [nf]
  simp only [↓wR, RA, simprocAttr, TF, ag, pr, ho.fit]
  unfold ph
  rw [cz]; refine ⟨fun h => ?_, fun h => ?_⟩
  · have he : dv s.owner ≠ 0 := by simpa using h
    rw [if_pos he]
    simp only [↓wR, RA, simprocAttr, TF, ag, h]
  have he : dv s.owner = 0 := by simpa using h
  rw [if_neg (by omega)]
  simp only [↓wR, RA, simprocAttr, TF, ag, h]
  rw [c9]; refine ⟨fun ⟨h1, e1⟩ => ?_, fun ⟨h1, e1⟩ => ?_⟩
  · rw [if_pos (by omega)]
    simp only [↓wR, RA, simprocAttr, TF, ag, h1]
  rw [if_neg (by omega)]
  simp only [↓wR, RA, simprocAttr, TF, ag, h1]
  rw [cp]; refine ⟨fun h2 => ?_, fun h2 => ?_⟩
  · rw [if_pos (by omega)]
    simp only [↓wR, RA, simprocAttr, TF, ag, h2]
  rw [if_neg (by omega)]
  simp only [↓wR, RA, simprocAttr, TF, ag, h2]
  refine dx [1, 24, 25, 26] (fun (i : Nat) => [.ptr 0 0, .vl false 4 (s.data.map (bt.val false)), .sc (.int .i64 (s.data.length)), .sc (.int .i64 (i))]) (fun _ => [some (.row [.vl false 1 (s.owner.map (aj.val false)), .sc (.int .u16 s.type.toNat), .sc (.int .u16 s.cls.toNat), .sc (.int .u32 s.qn.toNat), .vl false 4 (s.data.map (bt.val false))] 0 2 44)]) (fun i => i ≤ s.data.length ∧ sg s.type [] s.data = sg s.type (s.data.take i) (s.data.drop i)) (fun i => s.data.length - i) 0 ⟨Nat.zero_le _, rfl⟩ (by simp only [↓wR, RA, simprocAttr, TF, ag] <;> rfl) (by simp only [↓wR, RA, simprocAttr, TF, ag] <;> rfl) ?_
  rintro i ⟨hi, hx⟩
  simp only [↓wR, RA, simprocAttr, TF, ag]
  rw [cp]; refine ⟨fun h3 => ?_, fun h3 => ?_⟩
  · obtain ⟨c, hc, hd1, hlt⟩ := ed (decide_eq_true h3)
    rw [ad3 _ hc] at hx
    have hcs := hd.mem c (List.mem_of_getElem? hc)
    simp only [↓wR, RA, simprocAttr, TF, ag, h3, hc, rn, hcs]
    rw [cz]; refine ⟨fun h4 => ?_, fun h4 => ?_⟩
    · have he4 : fo s.type c ≠ 0 := by simpa using h4
      rw [if_pos he4] at hx
      simp only [↓wR, RA, simprocAttr, TF, ag, h4]
      rw [hx]
    · have he4 : fo s.type c = 0 := by simpa using h4
      rw [if_neg (by omega)] at hx
      simp only [↓wR, RA, simprocAttr, TF, ag, h4]
      refine ⟨by kernel_rfl, .inl ?_⟩
      simp only [↓wR, RA, simprocAttr, TF, ag, hi, Qu, hd.take i, hcs]
      refine ⟨by kernel_rfl, ?_⟩
      rw [cz]; refine ⟨fun h5 => ?_, fun h5 => ?_⟩
      · rw [if_pos h5] at hx
        simp only [↓wR, RA, simprocAttr, TF, ag, h5]
        rw [hx]
      · rw [if_neg (by rw [h5]; decide)] at hx
        simp only [↓wR, RA, simprocAttr, TF, ag, h5]; repeat (simp (disch := omega) only [ai, cb, cd, b9, ca]; try simp only [↓wR, RA, simprocAttr, TF, ag, h5])
        exact ⟨i + 1, ⟨hlt, hx⟩, by omega, by (first | rfl | trivial | omega | ((try (simp (disch := omega) only [ai])); (try (simp only [FB])); first | done | rfl | omega))⟩
  · rw [fq (decide_eq_false h3)] at hx
    simp only [↓wR, RA, simprocAttr, TF, ag, h3]
    rw [hx]; rfl
noncomputable def yh (x : bd × Unit) : Option AV := if ea x.1 then some ((r1 (be .i64)).E true (ph x.1)) else none
set_option maxRecDepth 2000000 in
theorem Is (x : bd × Unit) (r : AV) (h : yh x = some r) : bh PP 113 ((aC ah a0).E x) r := by
  by_cases hc : ea x.1
  case neg => simp only [yh, if_neg hc] at h; cases h
  simp only [yh, if_pos hc] at h
  cases h
  exact bg (aw.cons (aq qh) (aw.cons (aq Am) (aw.cons (aq alr) (aw.nil PP)))) Tryz.func113 (by kernel_rfl) (by kernel_rfl) (by kernel_rfl) (Nat.le_of_ble_eq_true (by kernel_rfl)) (r1 (be .i64)) true (ph x.1) (ae3 x.1 hc)
noncomputable abbrev gi : Nat × Bool × (List AV → M AV) := (113, true, dj (aC ah a0) yh)
end Go.Proofs.YtcbdpmfipecmgaaGreat
end
section
set_option linter.unusedSimpArgs false
set_option linter.unusedVariables false
namespace Go.Proofs.YtcbdpmfipecmgaaGreat
open Go.Vm
set_option maxRecDepth 2000000
theorem ahk (s : bd) (hs : ea s) : wl PP [se, anp] 0 (Tryz.f57.body.getD .skip) (du PP Tryz.f57.results.toList (fun r st => (r1 ah).get true st.h r = some s)) (cy 0 [ah.val false s]) (bn []) := by
  have ho := hs.owner
  have hd := hs.data
  have hn := hd.len
  unfold Tryz.f57
  simp only [nf]
  simp only [↓wR, RA, simprocAttr, TF, ag, mq, ho]
  refine jz [2, 13, 14, 15, 3] (fun (x : List c7) => [.ptr 0 0, .vl false 4 (s.data.map (bt.val false)), .sc (.int .i64 (s.data.length)), .sc (.int .i64 (x.length)), .ptr 1 0]) (fun x => [some (.row [.sc (.slice none 0 0), .sc (.int .u16 0), .sc (.int .u16 0), .sc (.int .u32 0), .sc (.slice none 0 0)] 0 2 44), some (.row [ar.val true s.owner, .sc (.int .u16 s.type.toNat), .sc (.int .u16 s.cls.toNat), .sc (.int .u32 s.qn.toNat), .sl 2 0 x.length 4] 0 2 44), some (.row (cellsOf bt true x) 0 0 65)]) (fun x => x.length ≤ s.data.length ∧ x ++ s.data.drop x.length = s.data) (fun x => s.data.length - x.length) [] ⟨Nat.zero_le _, rfl⟩ (by simp only [↓wR, RA, simprocAttr, TF, ag]; (refine mz.lax [] (by first | exact Nat.le_of_ble_eq_true rfl | (simp [bw]; omega)) ?_ ?_ <;> repeat' first | exact i6.nil | exact db.nil | exact jb.same _ | exact jb.nil _ _ _ | exact jb.vh _ _ | exact db.refl _ _ | apply i6.cons | apply db.ghost | apply db.same | apply db.row)) ?_
  rintro x ⟨hi, hx⟩
  simp only [↓wR, RA, simprocAttr, TF, ag]
  rw [cp]; refine ⟨fun h => ?_, fun h => ?_⟩
  · obtain ⟨c, hc, hd1, hlt⟩ := ed (decide_eq_true h)
    rw [hd1] at hx
    have hcs := hd.mem c (List.mem_of_getElem? hc)
    simp only [↓wR, RA, simprocAttr, TF, ag, h, hc]
    refine ⟨by kernel_rfl, .inl ?_⟩
    have hlim : (x.length * 4 + 4) * 96 ≤ 140737488355328 := by omega
    simp only [↓wR, RA, simprocAttr, TF, ag, Bp, hcs, hlim]
    refine ⟨by kernel_rfl, x ++ [c], ⟨by simp; omega, by simpa using hx⟩, by simp; omega, by (first | rfl | trivial | omega | ((try (simp (disch := omega) only [ai])); (try (simp only [FB])); first | done | rfl | omega)), ?_⟩
    rw [Xz, List.length_append]; rfl
  · rw [fq (decide_eq_false h)] at hx
    rw [List.append_nil] at hx
    subst hx
    simp only [↓wR, RA, simprocAttr, TF, ag, h]
noncomputable def o9 (x : bd × Unit) : Option AV := if ea x.1 then some ((r1 ah).E true (x.1)) else none
set_option maxRecDepth 2000000 in
theorem sy (x : bd × Unit) (r : AV) (h : o9 x = some r) : bh PP 57 ((aC ah a0).E x) r := by
  by_cases hc : ea x.1
  case neg => simp only [o9, if_neg hc] at h; cases h
  simp only [o9, if_pos hc] at h
  cases h
  exact bg (aw.cons (aq nn) (aw.cons (aq Xp) (aw.nil PP))) Tryz.func57 (by kernel_rfl) (by kernel_rfl) (by kernel_rfl) (Nat.le_of_ble_eq_true (by kernel_rfl)) (r1 ah) true (x.1) (ahk x.1 hc)
noncomputable abbrev wt : Nat × Bool × (List AV → M AV) := (57, true, dj (aC ah a0) o9)
end Go.Proofs.YtcbdpmfipecmgaaGreat
end
section
set_option linter.unusedSimpArgs false
set_option linter.unusedVariables false
namespace Go.Proofs.YtcbdpmfipecmgaaGreat
open Go.Vm
set_option maxRecDepth 2000000
def Qk (z : bf) : Nat := bk z.origin + g8 um z.ak
def cg (z : bf) : Prop := Qk z ≤ 16777216
instance (z : bf) : Decidable (cg z) := inferInstanceAs (Decidable (_ ≤ _))
theorem cg.origin {z : bf} (h : cg z) : bb z.origin := by unfold cg Qk at h; unfold bb; omega
theorem cg.set {z : bf} (h : cg z) : ∀ s ∈ z.ak, ea s := fun s hs => by
  have h1 : um s < g8 um z.ak := Cw hs
  unfold cg Qk at h; unfold ea; omega
theorem cg.len {z : bf} (h : cg z) : z.ak.length ≤ 16777216 := by have := yc um z.ak; unfold cg Qk at h; omega
def F9 (n top : Name) : Bool := decide (top.length < n.length) && di n top
theorem anx (n top : Name) (hn : bb n) (ht : bb top) : wl PP [rq] 0 (Tryz.f16.body.getD .skip) (du PP Tryz.f16.results.toList (fun r st => (r1 bq).get true st.h r = some (F9 n top))) (cy 0 [ar.val false n, ar.val false top]) (bn []) := by
  unfold Tryz.f16
  simp only [da]
  simp only [↓wR, RA, simprocAttr, TF, ag]
  unfold F9
  rw [cp]; refine ⟨fun h => ?_, fun h => ?_⟩
  · rw [decide_eq_true (show top.length < n.length by omega)]
    simp only [↓wR, RA, simprocAttr, TF, ag, h, jg, hn, ht]
  · rw [decide_eq_false (show ¬ top.length < n.length by omega)]
    simp only [↓wR, RA, simprocAttr, TF, ag, h]
    rfl
noncomputable def Gp (x : Name × Name × Unit) : Option AV := if bb x.1 ∧ bb x.2.1 then some ((r1 bq).E true (F9 x.1 x.2.1)) else none
set_option maxRecDepth 2000000 in
theorem afd (x : Name × Name × Unit) (r : AV) (h : Gp x = some r) : bh PP 16 ((aC ar (aC ar a0)).E x) r := by
  by_cases hc : bb x.1 ∧ bb x.2.1
  case neg => simp only [Gp, if_neg hc] at h; cases h
  simp only [Gp, if_pos hc] at h
  cases h
  exact bg (aw.cons (aq mh) (aw.nil PP)) Tryz.func16 (by kernel_rfl) (by kernel_rfl) (by kernel_rfl) (Nat.le_of_ble_eq_true (by kernel_rfl)) (r1 bq) true (F9 x.1 x.2.1) (anx x.1 x.2.1 hc.1 hc.2)
noncomputable abbrev atk : Nat × Bool × (List AV → M AV) := (16, true, dj (aC ar (aC ar a0)) Gp)
def kc (z : bf) (n : Name) : List bd := z.ak.filter fun s => dw s.owner n
theorem Jz {l : List bd} {p : bd → Bool} {i : Nat} {c : bd} (h : l.drop i = c :: l.drop (i + 1)) : (l.drop i).filter p = (if p c = true then [c] else []) ++ (l.drop (i + 1)).filter p := by
  rw [h, List.filter_cons]; split <;> rfl
theorem tp {l : List bd} (p : bd → Bool) : (l.filter p).length ≤ l.length := List.length_filter_le _ _
theorem avj (z : bf) (n : Name) (hz : cg z) (hn : bb n) : wl PP [dc, wt] 0 (Tryz.f37.body.getD .skip) (du PP Tryz.f37.results.toList (fun r st => (r1 (cw ah)).get true st.h r = some (kc z n))) (cy 0 [cj.val false z, ar.val false n]) (bn []) := by
  have hl := hz.len
  unfold Tryz.f37
  simp only [iy, da]
  simp only [↓wR, RA, simprocAttr, TF, ag]
  refine jz [1, 9, 10, 11, 5] (fun (x : Nat × List bd) => [.vl false 1 (n.map (aj.val false)), .vl false 5 (z.ak.map (ah.val false)), .sc (.int .i64 (z.ak.length)), .sc (.int .i64 (x.1)), .sl 0 0 x.2.length 5]) (fun x => [some (.row (cellsOf ah true x.2) 0 0 44)]) (fun x => x.1 ≤ z.ak.length ∧ x.2 ++ (z.ak.drop x.1).filter (fun s => dw s.owner n) = kc z n) (fun x => z.ak.length - x.1) (0, []) ⟨Nat.zero_le _, rfl⟩ (by simp only [↓wR, RA, simprocAttr, TF, ag]; (refine mz.lax [] (by first | exact Nat.le_of_ble_eq_true rfl | (simp [bw]; omega)) ?_ ?_ <;> repeat' first | exact i6.nil | exact db.nil | exact jb.same _ | exact jb.nil _ _ _ | exact jb.vh _ _ | exact db.refl _ _ | apply i6.cons | apply db.ghost | apply db.same | apply db.row)) ?_
  rintro ⟨i, x⟩ ⟨hi, hx⟩
  simp only at hi hx
  have hxl : x.length ≤ z.ak.length := by
    have h1 := tp (l := z.ak) (fun s => dw s.owner n)
    have h2 := congrArg List.length hx
    simp only [List.length_append, kc] at h2
    omega
  simp only [↓wR, RA, simprocAttr, TF, ag]
  rw [cp]; refine ⟨fun h => ?_, fun h => ?_⟩
  · obtain ⟨c, hc, hd1, hlt⟩ := ed (decide_eq_true h)
    rw [Jz hd1] at hx
    have hcs := hz.set c (List.mem_of_getElem? hc)
    simp only [↓wR, RA, simprocAttr, TF, ag, h, hc, fm, hcs.owner, hn]
    rw [cz]; refine ⟨fun h1 => ?_, fun h1 => ?_⟩
    · rw [if_pos h1] at hx
      have hlim : (x.length * 5 + 5) * 64 ≤ 140737488355328 := by omega
      simp only [↓wR, RA, simprocAttr, TF, ag, h1, o9, hcs, hlim]; repeat (simp (disch := omega) only [ai, cb, cd, b9, ca]; try simp only [↓wR, RA, simprocAttr, TF, ag, h1, o9, hcs, hlim])
      refine ⟨(i + 1, x ++ [c]), ⟨hlt, by rw [← hx]; simp⟩, by simp; omega, by (first | rfl | trivial | omega | ((try (simp (disch := omega) only [ai])); (try (simp only [FB])); first | done | rfl | omega)), ?_⟩
      rw [sx]
    · rw [if_neg (by rw [h1]; decide)] at hx
      simp only [↓wR, RA, simprocAttr, TF, ag, h1]; repeat (simp (disch := omega) only [ai, cb, cd, b9, ca]; try simp only [↓wR, RA, simprocAttr, TF, ag, h1])
      exact ⟨(i + 1, x), ⟨hlt, hx⟩, by simp; omega, by (first | rfl | trivial | omega | ((try (simp (disch := omega) only [ai])); (try (simp only [FB])); first | done | rfl | omega)), by (first | rfl | trivial | omega | ((try (simp (disch := omega) only [ai])); (try (simp only [FB])); first | done | rfl | omega))⟩
  · rw [fq (decide_eq_false h)] at hx
    rw [List.filter_nil, List.append_nil] at hx
    subst hx
    simp only [↓wR, RA, simprocAttr, TF, ag, h]
noncomputable def adv (x : bf × Name × Unit) : Option AV := if cg x.1 ∧ bb x.2.1 then some ((r1 (cw ah)).E true (kc x.1 x.2.1)) else none
set_option maxRecDepth 2000000 in
theorem aoh (x : bf × Name × Unit) (r : AV) (h : adv x = some r) : bh PP 37 ((aC cj (aC ar a0)).E x) r := by
  by_cases hc : cg x.1 ∧ bb x.2.1
  case neg => simp only [adv, if_neg hc] at h; cases h
  simp only [adv, if_pos hc] at h
  cases h
  exact bg (aw.cons (aq eb) (aw.cons (aq sy) (aw.nil PP))) Tryz.func37 (by kernel_rfl) (by kernel_rfl) (by kernel_rfl) (Nat.le_of_ble_eq_true (by kernel_rfl)) (r1 (cw ah)) true (kc x.1 x.2.1) (avj x.1 x.2.1 hc.1 hc.2)
noncomputable abbrev zAt : Nat × Bool × (List AV → M AV) := (37, true, dj (aC cj (aC ar a0)) adv)
def Ly (n : Name) (b : Option Name) : Bool := match b with | none => true | some m => decide (n.length < m.length)
def je (z : bf) (n : Name) (best : Option Name) (s : bd) : Option Name :=
  if (decide ((s.type.toNat : Int) = 2) && (F9 s.owner z.origin && (di n s.owner && Ly s.owner best))) = true then some s.owner else best
def j7 (z : bf) (n : Name) : Option Name := z.ak.foldl (je z n) none
theorem Kw {z : bf} {n : Name} (hz : cg z) : ∀ (l : List bd) (b : Option Name), (∀ s ∈ l, s ∈ z.ak) → (∀ m, b = some m → bb m) → ∀ m, l.foldl (je z n) b = some m → bb m := by
  intro l
  induction l with
  | nil => intro b _ hb m hm; exact hb m hm
  | cons s l ih =>
    intro b hl hb m hm
    refine ih (je z n b s) (fun x hx => hl x (by simp [hx])) (fun q hq => ?_) m hm
    unfold je at hq
    split at hq
    · cases hq; exact (hz.set s (hl s (by simp))).owner
    · exact hb q hq
theorem at5 (z : bf) (n : Name) (hz : cg z) (hn : bb n) : wl PP [rq, atk, se] 0 (Tryz.f8.body.getD .skip) (du PP Tryz.f8.results.toList (fun r st => (r2 ar bq).get true st.h r = some ((j7 z n).getD [], (j7 z n).isSome))) (cy 0 [cj.val false z, ar.val false n]) (bn []) := by
  have hl := hz.len
  unfold Tryz.f8
  simp only [iy, da]
  simp only [↓wR, RA, simprocAttr, TF, ag]
  refine bm (T := []) (aw.nil PP) mixed Tryz.func15 rfl (by kernel_rfl) (by kernel_rfl) (by kernel_rfl) (by kernel_rfl) ?_; unfold Tryz.f15
  simp only [↓wR, RA, simprocAttr, TF, ag]
  refine ⟨[2, 3, 6, 7, 10], ?_⟩
  have hib : vp PP 30 = some (Tryz.f30.ntmps, Tryz.f30.body.getD .skip) := by kernel_rfl
  simp only [↓wR, RA, simprocAttr, TF, ag, hib]
  refine ⟨by kernel_rfl, fun l => ?_⟩
  unfold Tryz.f30
  simp only [↓wR, RA, simprocAttr, TF, ag]
  refine ajg [0, 2, 7, 8, 9] (fun (x : Nat × Option Name) => [.sc (.func (.yield l) #[] #[]), .ptr 5 0, .vl false 5 (z.ak.map (ah.val false)), .sc (.int .i64 (z.ak.length)), .sc (.int .i64 (x.1))]) (fun x => [some (.row [.vl false 1 (z.origin.map (aj.val false)), .vl false 5 (z.ak.map (ah.val false))] 0 2 26), some (.row [.vl false 1 (n.map (aj.val false))] 0 2 23), some (.row [.vl false 1 ((x.2.getD []).map (aj.val false))] 0 2 23), some (.row [.sc (.bool (x.2.isSome))] 0 2 4), some (.row [.vl false 1 (z.origin.map (aj.val false)), .vl false 5 (z.ak.map (ah.val false))] 0 2 26), some (.row [.sc (.int .u16 2)] 0 2 28)]) (fun x => x.1 ≤ z.ak.length ∧ j7 z n = (z.ak.drop x.1).foldl (je z n) x.2 ∧ ∀ m, x.2 = some m → bb m) (fun x => z.ak.length - x.1) (0, none) ⟨Nat.zero_le _, rfl, fun m hm => by cases hm⟩ (by simp only [↓wR, RA, simprocAttr, TF, ag]; (refine mz.lax [] (by first | exact Nat.le_of_ble_eq_true rfl | (simp [bw]; omega)) ?_ ?_ <;> repeat' first | exact i6.nil | exact db.nil | exact jb.same _ | exact jb.nil _ _ _ | exact jb.vh _ _ | exact db.refl _ _ | apply i6.cons | apply db.ghost | apply db.same | apply db.row)) ?_
  rintro ⟨i, b⟩ ⟨hi, hx, hb⟩
  simp only at hi hx hb
  simp only [↓wR, RA, simprocAttr, TF, ag]
  rw [wz]; refine ⟨fun h => ?_, fun h => ?_⟩
  · obtain ⟨c, hc, hd1, hlt⟩ := ed h
    have hcs := hz.set c (List.mem_of_getElem? hc)
    have hstep : j7 z n = (z.ak.drop (i + 1)).foldl (je z n) (je z n b c) := by rw [hx, hd1]; rfl
    simp only [↓wR, RA, simprocAttr, TF, ag, h, hc]
    rw [wz]; refine ⟨fun h2 => ?_, fun h2 => ?_⟩
    · have e2 : (c.type.toNat : Int) = 2 := by simpa using h2
      simp only [↓wR, RA, simprocAttr, TF, ag, h2]
      refine zv [0, 2, 7, 8, 9, 17, 19] ?_
      simp only [↓wR, RA, simprocAttr, TF, ag, y7, n6, Gp, hcs.owner, hz.origin]
      rw [cz]; refine ⟨fun h3 => ?_, fun h3 => ?_⟩
      · simp only [↓wR, RA, simprocAttr, TF, ag, h3, jg, hcs.owner, hn]
        rw [cz]; refine ⟨fun h4 => ?_, fun h4 => ?_⟩
        · cases b with
          | none =>
            have hb2 : je z n none c = some c.owner := by simp [je, e2, h3, h4, Ly]
            rw [hb2] at hstep
            simp only [↓wR, RA, simprocAttr, TF, ag, h4, Option.isSome_none]; repeat (simp (disch := omega) only [ai, cb, cd, b9, ca]; try simp only [↓wR, RA, simprocAttr, TF, ag, h4, Option.isSome_none])
            exact ⟨(i + 1, some c.owner), ⟨hlt, hstep, fun m hm => by cases hm; exact hcs.owner⟩, by simp; omega, by (first | rfl | trivial | omega | ((try (simp (disch := omega) only [ai])); (try (simp only [FB])); first | done | rfl | omega)), by (first | rfl | trivial | omega | ((try (simp (disch := omega) only [ai])); (try (simp only [FB])); first | done | rfl | omega))⟩
          | some m =>
            simp only [↓wR, RA, simprocAttr, TF, ag, h4]
            rw [cp]; refine ⟨fun h5 => ?_, fun h5 => ?_⟩
            · have hb2 : je z n (some m) c = some c.owner := by simp [je, e2, h3, h4, Ly]; omega
              rw [hb2] at hstep
              simp only [↓wR, RA, simprocAttr, TF, ag, h5]; repeat (simp (disch := omega) only [ai, cb, cd, b9, ca]; try simp only [↓wR, RA, simprocAttr, TF, ag, h5])
              exact ⟨(i + 1, some c.owner), ⟨hlt, hstep, fun m hm => by cases hm; exact hcs.owner⟩, by simp; omega, by (first | rfl | trivial | omega | ((try (simp (disch := omega) only [ai])); (try (simp only [FB])); first | done | rfl | omega)), by (first | rfl | trivial | omega | ((try (simp (disch := omega) only [ai])); (try (simp only [FB])); first | done | rfl | omega))⟩
            · have hb2 : je z n (some m) c = some m := by simp [je, e2, h3, h4, Ly]; omega
              rw [hb2] at hstep
              simp only [↓wR, RA, simprocAttr, TF, ag, h5]; repeat (simp (disch := omega) only [ai, cb, cd, b9, ca]; try simp only [↓wR, RA, simprocAttr, TF, ag, h5])
              exact ⟨(i + 1, some m), ⟨hlt, hstep, hb⟩, by simp; omega, by (first | rfl | trivial | omega | ((try (simp (disch := omega) only [ai])); (try (simp only [FB])); first | done | rfl | omega)), by (first | rfl | trivial | omega | ((try (simp (disch := omega) only [ai])); (try (simp only [FB])); first | done | rfl | omega))⟩
        · have hb2 : je z n b c = b := by simp [je, h4]
          rw [hb2] at hstep
          simp only [↓wR, RA, simprocAttr, TF, ag, h4]; repeat (simp (disch := omega) only [ai, cb, cd, b9, ca]; try simp only [↓wR, RA, simprocAttr, TF, ag, h4])
          exact ⟨(i + 1, b), ⟨hlt, hstep, hb⟩, by simp; omega, by (first | rfl | trivial | omega | ((try (simp (disch := omega) only [ai])); (try (simp only [FB])); first | done | rfl | omega)), by (first | rfl | trivial | omega | ((try (simp (disch := omega) only [ai])); (try (simp only [FB])); first | done | rfl | omega))⟩
      · have hb2 : je z n b c = b := by simp [je, h3]
        rw [hb2] at hstep
        simp only [↓wR, RA, simprocAttr, TF, ag, h3]; repeat (simp (disch := omega) only [ai, cb, cd, b9, ca]; try simp only [↓wR, RA, simprocAttr, TF, ag, h3])
        exact ⟨(i + 1, b), ⟨hlt, hstep, hb⟩, by simp; omega, by (first | rfl | trivial | omega | ((try (simp (disch := omega) only [ai])); (try (simp only [FB])); first | done | rfl | omega)), by (first | rfl | trivial | omega | ((try (simp (disch := omega) only [ai])); (try (simp only [FB])); first | done | rfl | omega))⟩
    · have e2 : ¬ (c.type.toNat : Int) = 2 := by simpa using h2
      have hb2 : je z n b c = b := by simp [je, e2]
      rw [hb2] at hstep
      simp only [↓wR, RA, simprocAttr, TF, ag, h2]; repeat (simp (disch := omega) only [ai, cb, cd, b9, ca]; try simp only [↓wR, RA, simprocAttr, TF, ag, h2])
      exact ⟨(i + 1, b), ⟨hlt, hstep, hb⟩, by simp; omega, by (first | rfl | trivial | omega | ((try (simp (disch := omega) only [ai])); (try (simp only [FB])); first | done | rfl | omega)), by (first | rfl | trivial | omega | ((try (simp (disch := omega) only [ai])); (try (simp only [FB])); first | done | rfl | omega))⟩
  · rw [fq h] at hx
    simp only [↓wR, RA, simprocAttr, TF, ag, h]
    cases b with
    | none =>
      have hc0 : j7 z n = none := hx
      simp only [↓wR, RA, simprocAttr, TF, ag, Option.isSome_none]
      rw [hc0]
      rfl
    | some m =>
      have hc0 : j7 z n = some m := hx
      simp only [↓wR, RA, simprocAttr, TF, ag, mq, hb m rfl]
      rw [hc0]
      rfl
noncomputable def ze (x : bf × Name × Unit) : Option AV := if cg x.1 ∧ bb x.2.1 then some ((r2 ar bq).E true (((j7 x.1 x.2.1).getD [], (j7 x.1 x.2.1).isSome))) else none
set_option maxRecDepth 2000000 in
theorem J4 (x : bf × Name × Unit) (r : AV) (h : ze x = some r) : bh PP 8 ((aC cj (aC ar a0)).E x) r := by
  by_cases hc : cg x.1 ∧ bb x.2.1
  case neg => simp only [ze, if_neg hc] at h; cases h
  simp only [ze, if_pos hc] at h
  cases h
  exact bg (aw.cons (aq mh) (aw.cons (aq afd) (aw.cons (aq nn) (aw.nil PP)))) Tryz.func8 (by kernel_rfl) (by kernel_rfl) (by kernel_rfl) (Nat.le_of_ble_eq_true (by kernel_rfl)) (r2 ar bq) true (((j7 x.1 x.2.1).getD [], (j7 x.1 x.2.1).isSome)) (at5 x.1 x.2.1 hc.1 hc.2)
noncomputable abbrev ajn : Nat × Bool × (List AV → M AV) := (8, true, dj (aC cj (aC ar a0)) ze)
end Go.Proofs.YtcbdpmfipecmgaaGreat
end
section
set_option linter.unusedSimpArgs false
set_option linter.unusedVariables false
namespace Go.Proofs.YtcbdpmfipecmgaaGreat
open Go.Vm
set_option maxRecDepth 2000000
def qp (z : bf) (n : Name) : Bool := di n z.origin && (dw n z.origin || z.ak.any fun s => di s.owner n)
theorem ar1 (z : bf) (n : Name) (hz : cg z) (hn : bb n) : wl PP [rq, dc] 0 (Tryz.f38.body.getD .skip) (du PP Tryz.f38.results.toList (fun r st => (r1 bq).get true st.h r = some (qp z n))) (cy 0 [cj.val false z, ar.val false n]) (bn []) := by
  have hl := hz.len
  unfold Tryz.f38
  simp only [iy, da]
  simp only [↓wR, RA, simprocAttr, TF, ag, jg, hn, hz.origin]
  unfold qp
  rw [cz]; refine ⟨fun h => ?_, fun h => ?_⟩
  · have h' : di n z.origin = false := by simpa using h
    simp only [↓wR, RA, simprocAttr, TF, ag, h, h']
    rfl
  have h' : di n z.origin = true := by simpa using h
  simp only [↓wR, RA, simprocAttr, TF, ag, h, h', fm, hn, hz.origin]
  rw [cz]; refine ⟨fun h2 => ?_, fun h2 => ?_⟩
  · simp only [↓wR, RA, simprocAttr, TF, ag, h2]
  simp only [↓wR, RA, simprocAttr, TF, ag, h2]
  refine bm (T := []) (aw.nil PP) mixed Tryz.func43 rfl (by kernel_rfl) (by kernel_rfl) (by kernel_rfl) (by kernel_rfl) ?_; unfold Tryz.f43
  simp only [↓wR, RA, simprocAttr, TF, ag]
  refine bm (T := []) (aw.nil PP) mixed Tryz.func60 rfl (by kernel_rfl) (by kernel_rfl) (by kernel_rfl) (by kernel_rfl) ?_; unfold Tryz.f60
  simp only [↓wR, RA, simprocAttr, TF, ag]
  refine dx [0, 1, 7, 8] (fun (i : Nat) => [.vl false 5 (z.ak.map (ah.val false)), .fn (.func 58) [] [.ptr 1 0], .sc (.int .i64 (z.ak.length)), .sc (.int .i64 (i))]) (fun _ => [some (.row [.vl false 1 (z.origin.map (aj.val false)), .vl false 5 (z.ak.map (ah.val false))] 0 2 26), some (.row [.vl false 1 (n.map (aj.val false))] 0 2 23)]) (fun i => i ≤ z.ak.length ∧ (z.ak.any fun s => di s.owner n) = ((z.ak.drop i).any fun s => di s.owner n)) (fun i => z.ak.length - i) 0 ⟨Nat.zero_le _, rfl⟩ (by simp only [↓wR, RA, simprocAttr, TF, ag] <;> rfl) (by simp only [↓wR, RA, simprocAttr, TF, ag] <;> rfl) ?_
  rintro i ⟨hi, hx⟩
  simp only [↓wR, RA, simprocAttr, TF, ag]
  rw [cp]; refine ⟨fun h3 => ?_, fun h3 => ?_⟩
  · obtain ⟨c, hc, hd1, hlt⟩ := ed (decide_eq_true h3)
    rw [hd1, List.any_cons] at hx
    have hcs := hz.set c (List.mem_of_getElem? hc)
    simp only [↓wR, RA, simprocAttr, TF, ag, h3, hc]; repeat (simp (disch := omega) only [ai, cb, cd, b9, ca]; try simp only [↓wR, RA, simprocAttr, TF, ag, h3, hc])
    refine bm (T := [rq]) (aw.cons (aq mh) (aw.nil PP)) mixed Tryz.func58 rfl (by kernel_rfl) (by kernel_rfl) (by kernel_rfl) (by kernel_rfl) ?_; unfold Tryz.f58
    simp only [↓wR, RA, simprocAttr, TF, ag, jg, hcs.owner, hn]
    rw [cz]; refine ⟨fun h4 => ?_, fun h4 => ?_⟩
    · rw [h4, Bool.true_or] at hx
      simp only [↓wR, RA, simprocAttr, TF, ag, h4]
      rw [hx]
    · rw [h4, Bool.false_or] at hx
      simp only [↓wR, RA, simprocAttr, TF, ag, h4]; repeat (simp (disch := omega) only [ai, cb, cd, b9, ca]; try simp only [↓wR, RA, simprocAttr, TF, ag, h4])
      exact ⟨i + 1, ⟨hlt, hx⟩, by omega, by (first | rfl | trivial | omega | ((try (simp (disch := omega) only [ai])); (try (simp only [FB])); first | done | rfl | omega))⟩
  · rw [fq (decide_eq_false h3), List.any_nil] at hx
    simp only [↓wR, RA, simprocAttr, TF, ag, h3]
    rw [hx] <;> rfl
noncomputable def Mk (x : bf × Name × Unit) : Option AV := if cg x.1 ∧ bb x.2.1 then some ((r1 bq).E true (qp x.1 x.2.1)) else none
set_option maxRecDepth 2000000 in
theorem W3 (x : bf × Name × Unit) (r : AV) (h : Mk x = some r) : bh PP 38 ((aC cj (aC ar a0)).E x) r := by
  by_cases hc : cg x.1 ∧ bb x.2.1
  case neg => simp only [Mk, if_neg hc] at h; cases h
  simp only [Mk, if_pos hc] at h
  cases h
  exact bg (aw.cons (aq mh) (aw.cons (aq eb) (aw.nil PP))) Tryz.func38 (by kernel_rfl) (by kernel_rfl) (by kernel_rfl) (Nat.le_of_ble_eq_true (by kernel_rfl)) (r1 bq) true (qp x.1 x.2.1) (ar1 x.1 x.2.1 hc.1 hc.2)
noncomputable abbrev au6 : Nat × Bool × (List AV → M AV) := (38, true, dj (aC cj (aC ar a0)) Mk)
theorem ajz (t : UInt16) : wl PP [] 0 (Tryz.f107.body.getD .skip) (du PP Tryz.f107.results.toList (fun r st => (r1 bq).get true st.h r = some false)) (cy 0 [cq.val false t]) (bn []) := by
  unfold Tryz.f107
  simp only [↓wR, RA, simprocAttr, TF, ag, bne_self_eq_false]
noncomputable def Tz (x : UInt16 × Unit) : Option AV := some ((r1 bq).E true (false))
set_option maxRecDepth 2000000 in
theorem aep (x : UInt16 × Unit) (r : AV) (h : Tz x = some r) : bh PP 107 ((aC cq a0).E x) r := by
  cases h
  exact bg (aw.nil PP) Tryz.func107 (by kernel_rfl) (by kernel_rfl) (by kernel_rfl) (Nat.le_of_ble_eq_true (by kernel_rfl)) (r1 bq) true (false) (ajz x.1)
noncomputable abbrev aug : Nat × Bool × (List AV → M AV) := (107, true, dj (aC cq a0) Tz)
def abq (a b : UInt16) : Int := if (a.toNat : Int) < b.toNat then -1 else if (b.toNat : Int) < a.toNat then 1 else 0
theorem arf (a b : UInt16) : wl PP [aug] 0 (Tryz.f82.body.getD .skip) (du PP Tryz.f82.results.toList (fun r st => (r1 (be .i64)).get true st.h r = some (abq a b))) (cy 0 [cq.val false a, cq.val false b]) (bn []) := by
  unfold Tryz.f82
  unfold abq
  simp only [↓wR, RA, simprocAttr, TF, ag, Tz]
  rw [cp]; refine ⟨fun h => ?_, fun h => ?_⟩
  · rw [if_pos h]
    simp only [↓wR, RA, simprocAttr, TF, ag, h]
  · rw [if_neg h]
    simp only [↓wR, RA, simprocAttr, TF, ag, h]
    rw [cp]; refine ⟨fun h2 => ?_, fun h2 => ?_⟩
    · rw [if_pos h2]
      simp only [↓wR, RA, simprocAttr, TF, ag, h2]
    · rw [if_neg h2]
      simp only [↓wR, RA, simprocAttr, TF, ag, h2]
noncomputable def Zq (x : UInt16 × UInt16 × Unit) : Option AV := some ((r1 (be .i64)).E true (abq x.1 x.2.1))
set_option maxRecDepth 2000000 in
theorem ai0 (x : UInt16 × UInt16 × Unit) (r : AV) (h : Zq x = some r) : bh PP 82 ((aC cq (aC cq a0)).E x) r := by
  cases h
  exact bg (aw.cons (aq aep) (aw.nil PP)) Tryz.func82 (by kernel_rfl) (by kernel_rfl) (by kernel_rfl) (Nat.le_of_ble_eq_true (by kernel_rfl)) (r1 (be .i64)) true (abq x.1 x.2.1) (arf x.1 x.2.1)
noncomputable abbrev avt : Nat × Bool × (List AV → M AV) := (82, true, dj (aC cq (aC cq a0)) Zq)
def Wh : List Int → Int
  | [] => 0
  | a :: r => if a ≠ 0 then a else Wh r
theorem avu (l : List Int) (hl : l.length ≤ 16777216) : wl PP [] 0 (Tryz.f80.body.getD .skip) (du PP Tryz.f80.results.toList (fun r st => (r1 (be .i64)).get true st.h r = some (Wh l))) (cy 0 [(cw (be .i64)).val false l]) (bn []) := by
  unfold Tryz.f80
  rw [tn]
  simp only [↓wR, RA, simprocAttr, TF, ag]
  refine dx [3, 6, 7, 8] (fun (i : Nat) => [.sc (.int .i64 (0)), .vl false 1 (l.map ((be .i64).val false)), .sc (.int .i64 (l.length)), .sc (.int .i64 (i))]) (fun _ => []) (fun i => i ≤ l.length ∧ Wh l = Wh (l.drop i)) (fun i => l.length - i) 0 ⟨Nat.zero_le _, rfl⟩ (by simp only [↓wR, RA, simprocAttr, TF, ag] <;> rfl) (by simp only [↓wR, RA, simprocAttr, TF, ag] <;> rfl) ?_
  rintro i ⟨hi, hx⟩
  simp only [↓wR, RA, simprocAttr, TF, ag]
  rw [cp]; refine ⟨fun h => ?_, fun h => ?_⟩
  · obtain ⟨c, hc, hd1, hlt⟩ := ed (decide_eq_true h)
    rw [hd1, Wh] at hx
    simp only [↓wR, RA, simprocAttr, TF, ag, h, hc]
    rw [ef]; refine ⟨fun ⟨h2, e2⟩ => ?_, fun ⟨h2, e2⟩ => ?_⟩
    · rw [if_pos e2] at hx
      simp only [↓wR, RA, simprocAttr, TF, ag, h2]
      rw [hx]
    · rw [if_neg (by omega)] at hx
      simp only [↓wR, RA, simprocAttr, TF, ag, h2]; repeat (simp (disch := omega) only [ai, cb, cd, b9, ca]; try simp only [↓wR, RA, simprocAttr, TF, ag, h2])
      exact ⟨i + 1, ⟨hlt, hx⟩, by omega, by (first | rfl | trivial | omega | ((try (simp (disch := omega) only [ai])); (try (simp only [FB])); first | done | rfl | omega))⟩
  · rw [fq (decide_eq_false h)] at hx
    simp only [↓wR, RA, simprocAttr, TF, ag, h]
    rw [hx]; rfl
noncomputable def Yo (x : List Int × Unit) : Option AV := if x.1.length ≤ 16777216 then some ((r1 (be .i64)).E true (Wh x.1)) else none
set_option maxRecDepth 2000000 in
theorem aok (x : List Int × Unit) (r : AV) (h : Yo x = some r) : bh PP 80 ((aC (cw (be .i64)) a0).E x) r := by
  by_cases hc : x.1.length ≤ 16777216
  case neg => simp only [Yo, if_neg hc] at h; cases h
  simp only [Yo, if_pos hc] at h
  cases h
  exact bg (aw.nil PP) Tryz.func80 (by kernel_rfl) (by kernel_rfl) (by kernel_rfl) (Nat.le_of_ble_eq_true (by kernel_rfl)) (r1 (be .i64)) true (Wh x.1) (avu x.1 hc)
noncomputable abbrev orC : Nat × Bool × (List AV → M AV) := (80, true, dj (aC (cw (be .i64)) a0) Yo)
noncomputable def Lv (a b : bd) : Int := Wh [Zy a.owner b.owner, abq a.type b.type]
theorem ahz (a b : bd) (ha : ea a) (hb : ea b) : wl PP [aeg, avt, orC] 0 (Tryz.f114.body.getD .skip) (du PP Tryz.f114.results.toList (fun r st => (r1 (be .i64)).get true st.h r = some (Lv a b))) (cy 0 [ah.val false a, ah.val false b]) (bn []) := by
  unfold Tryz.f114
  simp only [nf]
  simp only [↓wR, RA, simprocAttr, TF, ag]
  refine ⟨by kernel_rfl, .inl ?_⟩
  simp only [↓wR, RA, simprocAttr, TF, ag, v8, Zq, Yo, ha.owner, hb.owner]
  exact ⟨by kernel_rfl, rfl⟩
noncomputable def x6 (x : bd × bd × Unit) : Option AV := if ea x.1 ∧ ea x.2.1 then some ((r1 (be .i64)).E true (Lv x.1 x.2.1)) else none
set_option maxRecDepth 2000000 in
theorem X1 (x : bd × bd × Unit) (r : AV) (h : x6 x = some r) : bh PP 114 ((aC ah (aC ah a0)).E x) r := by
  by_cases hc : ea x.1 ∧ ea x.2.1
  case neg => simp only [x6, if_neg hc] at h; cases h
  simp only [x6, if_pos hc] at h
  cases h
  exact bg (aw.cons (aq Po) (aw.cons (aq ai0) (aw.cons (aq aok) (aw.nil PP)))) Tryz.func114 (by kernel_rfl) (by kernel_rfl) (by kernel_rfl) (Nat.le_of_ble_eq_true (by kernel_rfl)) (r1 (be .i64)) true (Lv x.1 x.2.1) (ahz x.1 x.2.1 hc.1 hc.2)
noncomputable abbrev Zr : Nat × Bool × (List AV → M AV) := (114, true, dj (aC ah (aC ah a0)) x6)
end Go.Proofs.YtcbdpmfipecmgaaGreat
end
section
set_option linter.unusedSimpArgs false
set_option linter.unusedVariables false
namespace Go.Proofs.YtcbdpmfipecmgaaGreat
open Go.Vm
set_option maxRecDepth 2000000
noncomputable def vy (t : UInt16) : List c7 → Bool
  | a :: b :: r => if 0 ≤ Pp t a b then false else vy t (b :: r)
  | _ => true
noncomputable def ld (z : bf) (i : Nat) (s : bd) : Bool :=
  (match i with | 0 => true | k + 1 => match z.ak[k]? with | some a => decide (¬ (Lv a s ≥ 0)) | none => true) && vy s.type s.data
theorem Cj (k : Nat) : ((k : Int) + 1).toNat = k + 1 := by omega
theorem Mf (k : Nat) : (0 : Int) ≤ (k : Int) + 1 := by omega
theorem W6 (t : UInt16) {l : List c7} {k : Nat} {a b : c7} (ha : l[k]? = some a) (hb : l[k + 1]? = some b) : vy t (l.drop k) = if 0 ≤ Pp t a b then false else vy t (l.drop (k + 1)) := by
  rw [Gv ha, Gv hb]; rfl
theorem Th (t : UInt16) {l : List c7} {k : Nat} (h : l.length ≤ k + 1) : vy t (l.drop k) = true := by
  have : (l.drop k).length ≤ 1 := by rw [List.length_drop]; omega
  match hd : l.drop k with
  | [] => rfl
  | [a] => rfl
  | a :: b :: r => rw [hd] at this; simp at this
theorem ao0 (l : ud) (i : Nat) (s : bd) (hz : cg l.z) (hs : ea s) (hi : i ≤ l.z.ak.length) : wl PP [Zr, Fx] 0 (Tryz.f89.body.getD .skip) (du PP Tryz.f89.results.toList (fun r st => (r1 bq).get true st.h r = some (ld l.z i s))) (cy 0 [.gn (ml.cells false l), (be .i64).val false i, ah.val false s]) (bn []) := by
  have hd := hs.data
  have hn := hd.len
  have hl := hz.len
  unfold Tryz.f89
  simp only [nf]
  simp only [↓wR, RA, simprocAttr, TF, ag, Ai]
  refine ⟨by kernel_rfl, .inl ?_⟩
  rw [cp]; refine ⟨fun h => ?_, fun h => ?_⟩
  · cases i with
    | zero => omega
    | succ k =>
    obtain ⟨a, ha⟩ : ∃ a, l.z.ak[k]? = some a := ⟨_, List.getElem?_eq_getElem (by omega)⟩
    have has := hz.set a (List.mem_of_getElem? ha)
    simp only [↓wR, RA, simprocAttr, TF, ag, h, ha, Int.natCast_add, Int.add_sub_cancel, x6, has, hs]; repeat (simp (disch := omega) only [ai, cb, cd, b9, ca]; try simp only [↓wR, RA, simprocAttr, TF, ag, h, ha, Int.natCast_add, Int.add_sub_cancel, x6, has, hs])
    refine ⟨by kernel_rfl, ?_⟩
    rw [cp]; refine ⟨fun h2 => ?_, fun h2 => ?_⟩
    · have hv : ld l.z (k + 1) s = false := by simp only [ld, ha]; simp [h2]
      simp only [↓wR, RA, simprocAttr, TF, ag, h2]
      rw [hv]
    have hv : ld l.z (k + 1) s = vy s.type s.data := by simp only [ld, ha]; simp [h2]
    clear ha
    simp only [↓wR, RA, simprocAttr, TF, ag, h2]
    refine dx [5, 7] (fun (k : Nat) => [.ptr 0 0, .sc (.int .i64 ((k : Int) + 1))]) (fun _ => [some (.row [.vl false 1 (s.owner.map (aj.val false)), .sc (.int .u16 s.type.toNat), .sc (.int .u16 s.cls.toNat), .sc (.int .u32 s.qn.toNat), .vl false 4 (s.data.map (bt.val false))] 0 2 44)]) (fun k => (k = 0 ∨ k + 1 ≤ s.data.length) ∧ vy s.type s.data = vy s.type (s.data.drop k)) (fun k => s.data.length - k) 0 ⟨.inl rfl, rfl⟩ (by simp only [↓wR, RA, simprocAttr, TF, ag] <;> rfl) (by simp only [↓wR, RA, simprocAttr, TF, ag] <;> rfl) ?_
    rintro k ⟨hk, hx⟩
    simp only [↓wR, RA, simprocAttr, TF, ag]
    rw [cp]; refine ⟨fun h5 => ?_, fun h5 => ?_⟩
    · obtain ⟨a, ha⟩ : ∃ a, s.data[k]? = some a := ⟨_, List.getElem?_eq_getElem (by omega)⟩
      obtain ⟨b, hb⟩ : ∃ b, s.data[k + 1]? = some b := ⟨_, List.getElem?_eq_getElem (by omega)⟩
      rw [W6 _ ha hb] at hx
      have has := hd.mem a (List.mem_of_getElem? ha)
      have hbs := hd.mem b (List.mem_of_getElem? hb)
      simp only [↓wR, RA, simprocAttr, TF, ag, h5]
      refine ⟨by kernel_rfl, .inl ?_⟩
      simp only [↓wR, RA, simprocAttr, TF, ag, ha, hb, Int.add_sub_cancel, Cj, Mf, nc, has, hbs]; repeat (simp (disch := omega) only [ai, cb, cd, b9, ca]; try simp only [↓wR, RA, simprocAttr, TF, ag, ha, hb, Int.add_sub_cancel, Cj, Mf, nc, has, hbs])
      refine ⟨by kernel_rfl, ?_⟩
      rw [cp]; refine ⟨fun h6 => ?_, fun h6 => ?_⟩
      · rw [if_pos h6] at hx
        simp only [↓wR, RA, simprocAttr, TF, ag, h6]
        rw [hv, hx]
      · rw [if_neg h6] at hx
        simp only [↓wR, RA, simprocAttr, TF, ag, h6]; repeat (simp (disch := omega) only [ai, cb, cd, b9, ca]; try simp only [↓wR, RA, simprocAttr, TF, ag, h6])
        exact ⟨k + 1, ⟨.inr (by omega), hx⟩, by omega, by (first | rfl | trivial | omega | ((try (simp (disch := omega) only [ai])); (try (simp only [FB])); first | done | rfl | omega))⟩
    · rw [Th _ (by omega)] at hx
      simp only [↓wR, RA, simprocAttr, TF, ag, h5]
      rw [hv, hx]
  · simp only [↓wR, RA, simprocAttr, TF, ag, h]
    have hi0 : i = 0 := by omega
    have hv : ld l.z i s = vy s.type s.data := by rw [hi0]; simp [ld]
    refine ⟨by kernel_rfl, ?_⟩
    refine dx [5, 7] (fun (k : Nat) => [.ptr 0 0, .sc (.int .i64 ((k : Int) + 1))]) (fun _ => [some (.row [.vl false 1 (s.owner.map (aj.val false)), .sc (.int .u16 s.type.toNat), .sc (.int .u16 s.cls.toNat), .sc (.int .u32 s.qn.toNat), .vl false 4 (s.data.map (bt.val false))] 0 2 44)]) (fun k => (k = 0 ∨ k + 1 ≤ s.data.length) ∧ vy s.type s.data = vy s.type (s.data.drop k)) (fun k => s.data.length - k) 0 ⟨.inl rfl, rfl⟩ (by simp only [↓wR, RA, simprocAttr, TF, ag] <;> rfl) (by simp only [↓wR, RA, simprocAttr, TF, ag] <;> rfl) ?_
    rintro k ⟨hk, hx⟩
    simp only [↓wR, RA, simprocAttr, TF, ag]
    rw [cp]; refine ⟨fun h5 => ?_, fun h5 => ?_⟩
    · obtain ⟨a, ha⟩ : ∃ a, s.data[k]? = some a := ⟨_, List.getElem?_eq_getElem (by omega)⟩
      obtain ⟨b, hb⟩ : ∃ b, s.data[k + 1]? = some b := ⟨_, List.getElem?_eq_getElem (by omega)⟩
      rw [W6 _ ha hb] at hx
      have has := hd.mem a (List.mem_of_getElem? ha)
      have hbs := hd.mem b (List.mem_of_getElem? hb)
      simp only [↓wR, RA, simprocAttr, TF, ag, h5]
      refine ⟨by kernel_rfl, .inl ?_⟩
      simp only [↓wR, RA, simprocAttr, TF, ag, ha, hb, Int.add_sub_cancel, Cj, Mf, nc, has, hbs]; repeat (simp (disch := omega) only [ai, cb, cd, b9, ca]; try simp only [↓wR, RA, simprocAttr, TF, ag, ha, hb, Int.add_sub_cancel, Cj, Mf, nc, has, hbs])
      refine ⟨by kernel_rfl, ?_⟩
      rw [cp]; refine ⟨fun h6 => ?_, fun h6 => ?_⟩
      · rw [if_pos h6] at hx
        simp only [↓wR, RA, simprocAttr, TF, ag, h6]
        rw [hv, hx]
      · rw [if_neg h6] at hx
        simp only [↓wR, RA, simprocAttr, TF, ag, h6]; repeat (simp (disch := omega) only [ai, cb, cd, b9, ca]; try simp only [↓wR, RA, simprocAttr, TF, ag, h6])
        exact ⟨k + 1, ⟨.inr (by omega), hx⟩, by omega, by (first | rfl | trivial | omega | ((try (simp (disch := omega) only [ai])); (try (simp only [FB])); first | done | rfl | omega))⟩
    · rw [Th _ (by omega)] at hx
      simp only [↓wR, RA, simprocAttr, TF, ag, h5]
      rw [hv, hx]
theorem alz (l : ud) (i : Int) (s : bd) (hz : cg l.z) (hs : ea s) (hi : 0 ≤ i ∧ i ≤ l.z.ak.length) : wl PP [Zr, Fx] 0 (Tryz.f89.body.getD .skip) (du PP Tryz.f89.results.toList (fun r st => (r1 bq).get true st.h r = some (ld l.z i.toNat s))) (cy 0 [.gn (ml.cells false l), (be .i64).val false i, ah.val false s]) (bn []) := by
  have := ao0 l i.toNat s hz hs (by omega)
  rwa [Int.toNat_of_nonneg hi.1] at this
noncomputable def Gk (x : ud × Int × bd × Unit) : Option AV := if (cg x.1.z ∧ ea x.2.2.1) ∧ 0 ≤ x.2.1 ∧ x.2.1 ≤ x.1.z.ak.length then some ((r1 bq).E true (ld x.1.z x.2.1.toNat x.2.2.1)) else none
set_option maxRecDepth 2000000 in
theorem Of (x : ud × Int × bd × Unit) (r : AV) (h : Gk x = some r) : bh PP 89 ((aP ml (aC (be .i64) (aC ah a0))).E x) r := by
  by_cases hc : (cg x.1.z ∧ ea x.2.2.1) ∧ 0 ≤ x.2.1 ∧ x.2.1 ≤ x.1.z.ak.length
  case neg => simp only [Gk, if_neg hc] at h; cases h
  simp only [Gk, if_pos hc] at h
  cases h
  exact bg (aw.cons (aq X1) (aw.cons (aq C7) (aw.nil PP))) Tryz.func89 (by kernel_rfl) (by kernel_rfl) (by kernel_rfl) (Nat.le_of_ble_eq_true (by kernel_rfl)) (r1 bq) true (ld x.1.z x.2.1.toNat x.2.2.1) (alz x.1 x.2.1 x.2.2.1 hc.1.1 hc.1.2 hc.2)
noncomputable abbrev jn : Nat × Bool × (List AV → M AV) := (89, true, dj (aP ml (aC (be .i64) (aC ah a0))) Gk)
end Go.Proofs.YtcbdpmfipecmgaaGreat
end
section
set_option linter.unusedSimpArgs false
set_option linter.unusedVariables false
namespace Go.Proofs.YtcbdpmfipecmgaaGreat
open Go.Vm
set_option maxRecDepth 2000000
def C1 (i : Nat) (n : Name) : Nat → List bd → Bool
  | _, [] => false
  | k, o :: r => (decide (¬ (k : Int) = i) && dw o.owner n) || C1 i n (k + 1) r
def jf (z : bf) (i : Nat) (s : bd) : Bool :=
  if ¬ (s.type.toNat : Int) = 5 then true else if ¬ (s.data.length : Int) = 1 then false else if dw s.owner z.origin = true then false else !C1 i s.owner 0 z.ak
theorem apo (l : ud) (i : Nat) (s : bd) (hz : cg l.z) (hs : ea s) : wl PP [dc] 0 (Tryz.f94.body.getD .skip) (du PP Tryz.f94.results.toList (fun r st => (r1 bq).get true st.h r = some (jf l.z i s))) (cy 0 [.gn (ml.cells false l), (be .i64).val false i, ah.val false s]) (bn []) := by
  have hl := hz.len
  unfold Tryz.f94
  simp only [nf]
  simp only [↓wR, RA, simprocAttr, TF, ag, Ai]
  unfold jf
  rw [ef]; refine ⟨fun ⟨h, e⟩ => ?_, fun ⟨h, e⟩ => ?_⟩
  · rw [if_pos e]
    simp only [↓wR, RA, simprocAttr, TF, ag, h]
  rw [if_neg (by omega)]
  simp only [↓wR, RA, simprocAttr, TF, ag, h]
  refine ⟨by kernel_rfl, .inl ?_⟩
  rw [ef]; refine ⟨fun ⟨h2, e2⟩ => ?_, fun ⟨h2, e2⟩ => ?_⟩
  · rw [if_pos e2]
    simp only [↓wR, RA, simprocAttr, TF, ag, h2]
    exact by kernel_rfl
  rw [if_neg (by omega)]
  simp only [↓wR, RA, simprocAttr, TF, ag, h2, fm, hs.owner, hz.origin]
  refine ⟨by kernel_rfl, ?_⟩
  rw [cz]; refine ⟨fun h3 => ?_, fun h3 => ?_⟩
  · rw [if_pos h3]
    simp only [↓wR, RA, simprocAttr, TF, ag, h3]
  rw [if_neg (by rw [h3]; decide)]
  simp only [↓wR, RA, simprocAttr, TF, ag, h3]
  refine dx [1, 5, 30, 31, 32] (fun (k : Nat) => [.sc (.int .i64 (i)), .ptr 0 0, .vl false 5 (l.z.ak.map (ah.val false)), .sc (.int .i64 (l.z.ak.length)), .sc (.int .i64 (k))]) (fun _ => [some (.row [.vl false 1 (s.owner.map (aj.val false)), .sc (.int .u16 s.type.toNat), .sc (.int .u16 s.cls.toNat), .sc (.int .u32 s.qn.toNat), .vl false 4 (s.data.map (bt.val false))] 0 2 44)]) (fun k => k ≤ l.z.ak.length ∧ C1 i s.owner 0 l.z.ak = C1 i s.owner k (l.z.ak.drop k)) (fun k => l.z.ak.length - k) 0 ⟨Nat.zero_le _, rfl⟩ (by simp only [↓wR, RA, simprocAttr, TF, ag] <;> rfl) (by simp only [↓wR, RA, simprocAttr, TF, ag] <;> rfl) ?_
  rintro k ⟨hk, hx⟩
  simp only [↓wR, RA, simprocAttr, TF, ag]
  rw [cp]; refine ⟨fun h4 => ?_, fun h4 => ?_⟩
  · obtain ⟨c, hc, hd1, hlt⟩ := ed (decide_eq_true h4)
    rw [hd1, C1] at hx
    have hcs := hz.set c (List.mem_of_getElem? hc)
    simp only [↓wR, RA, simprocAttr, TF, ag, h4, hc]
    rw [ef]; refine ⟨fun ⟨h5, e5⟩ => ?_, fun ⟨h5, e5⟩ => ?_⟩
    · rw [decide_eq_true e5, Bool.true_and] at hx
      simp only [↓wR, RA, simprocAttr, TF, ag, h5, fm, hcs.owner, hs.owner]
      rw [cz]; refine ⟨fun h6 => ?_, fun h6 => ?_⟩
      · rw [h6, Bool.true_or] at hx
        simp only [↓wR, RA, simprocAttr, TF, ag, h6]
        rw [hx]; rfl
      · rw [h6, Bool.false_or] at hx
        simp only [↓wR, RA, simprocAttr, TF, ag, h6]; repeat (simp (disch := omega) only [ai, cb, cd, b9, ca]; try simp only [↓wR, RA, simprocAttr, TF, ag, h6])
        exact ⟨k + 1, ⟨hlt, hx⟩, by omega, by (first | rfl | trivial | omega | ((try (simp (disch := omega) only [ai])); (try (simp only [FB])); first | done | rfl | omega))⟩
    · rw [decide_eq_false (by omega), Bool.false_and, Bool.false_or] at hx
      simp only [↓wR, RA, simprocAttr, TF, ag, h5]; repeat (simp (disch := omega) only [ai, cb, cd, b9, ca]; try simp only [↓wR, RA, simprocAttr, TF, ag, h5])
      exact ⟨k + 1, ⟨hlt, hx⟩, by omega, by (first | rfl | trivial | omega | ((try (simp (disch := omega) only [ai])); (try (simp only [FB])); first | done | rfl | omega))⟩
  · rw [fq (decide_eq_false h4), C1] at hx
    simp only [↓wR, RA, simprocAttr, TF, ag, h4]
    rw [hx]; rfl
theorem amf (l : ud) (i : Int) (s : bd) (hz : cg l.z) (hs : ea s) (hi : 0 ≤ i) : wl PP [dc] 0 (Tryz.f94.body.getD .skip) (du PP Tryz.f94.results.toList (fun r st => (r1 bq).get true st.h r = some (jf l.z i.toNat s))) (cy 0 [.gn (ml.cells false l), (be .i64).val false i, ah.val false s]) (bn []) := by
  have := apo l i.toNat s hz hs
  rwa [Int.toNat_of_nonneg hi] at this
noncomputable def Ct (x : ud × Int × bd × Unit) : Option AV := if (cg x.1.z ∧ ea x.2.2.1) ∧ 0 ≤ x.2.1 then some ((r1 bq).E true (jf x.1.z x.2.1.toNat x.2.2.1)) else none
set_option maxRecDepth 2000000 in
theorem Nr (x : ud × Int × bd × Unit) (r : AV) (h : Ct x = some r) : bh PP 94 ((aP ml (aC (be .i64) (aC ah a0))).E x) r := by
  by_cases hc : (cg x.1.z ∧ ea x.2.2.1) ∧ 0 ≤ x.2.1
  case neg => simp only [Ct, if_neg hc] at h; cases h
  simp only [Ct, if_pos hc] at h
  cases h
  exact bg (aw.cons (aq eb) (aw.nil PP)) Tryz.func94 (by kernel_rfl) (by kernel_rfl) (by kernel_rfl) (Nat.le_of_ble_eq_true (by kernel_rfl)) (r1 bq) true (jf x.1.z x.2.1.toNat x.2.2.1) (amf x.1 x.2.1 x.2.2.1 hc.1.1 hc.1.2 hc.2)
noncomputable abbrev jr : Nat × Bool × (List AV → M AV) := (94, true, dj (aP ml (aC (be .i64) (aC ah a0))) Ct)
def nr (s : bd) : Bool := if ¬ (s.cls.toNat : Int) = 1 then false else if (s.type.toNat : Int) = 0 then false else if (s.type.toNat : Int) = 41 then false else !decide ((s.type.toNat : Int) = 255)
theorem apc (i : Int) (s : bd) : wl PP [] 0 (Tryz.f90.body.getD .skip) (du PP Tryz.f90.results.toList (fun r st => (r1 bq).get true st.h r = some (nr s))) (cy 0 [(be .i64).val false i, ah.val false s]) (bn []) := by
  unfold Tryz.f90
  simp only [nf]
  simp only [↓wR, RA, simprocAttr, TF, ag]
  unfold nr
  rw [c9]; refine ⟨fun ⟨h, e⟩ => ?_, fun ⟨h, e⟩ => ?_⟩
  · rw [if_neg (by omega)]
    simp only [↓wR, RA, simprocAttr, TF, ag, h]
    rw [ef]; refine ⟨fun ⟨h2, e2⟩ => ?_, fun ⟨h2, e2⟩ => ?_⟩
    · rw [if_neg e2]
      simp only [↓wR, RA, simprocAttr, TF, ag, h2]
      rw [ef]; refine ⟨fun ⟨h3, e3⟩ => ?_, fun ⟨h3, e3⟩ => ?_⟩
      · rw [if_neg e3]
        simp only [↓wR, RA, simprocAttr, TF, ag, h3]
        rfl
      · rw [if_pos e3]
        simp only [↓wR, RA, simprocAttr, TF, ag, h3]
    · rw [if_pos e2]
      simp only [↓wR, RA, simprocAttr, TF, ag, h2]
  · rw [if_pos e]
    simp only [↓wR, RA, simprocAttr, TF, ag, h]
noncomputable def Tt (x : Int × bd × Unit) : Option AV := some ((r1 bq).E true (nr x.2.1))
set_option maxRecDepth 2000000 in
theorem Ni (x : Int × bd × Unit) (r : AV) (h : Tt x = some r) : bh PP 90 ((aC (be .i64) (aC ah a0)).E x) r := by
  cases h
  exact bg (aw.nil PP) Tryz.func90 (by kernel_rfl) (by kernel_rfl) (by kernel_rfl) (Nat.le_of_ble_eq_true (by kernel_rfl)) (r1 bq) true (nr x.2.1) (apc x.1 x.2.1)
noncomputable abbrev jm : Nat × Bool × (List AV → M AV) := (90, true, dj (aC (be .i64) (aC ah a0)) Tt)
theorem als (i : Int) (s : bd) (z : bf) (hs : ea s) (hz : cg z) : wl PP [rq] 0 (Tryz.f91.body.getD .skip) (du PP Tryz.f91.results.toList (fun r st => (r1 bq).get true st.h r = some (di s.owner z.origin))) (cy 0 [(be .i64).val false i, ah.val false s, .gn (cj.cells false z)]) (bn []) := by
  unfold Tryz.f91
  simp only [nf]
  simp only [↓wR, RA, simprocAttr, TF, ag, Ad, jg, hs.owner, hz.origin]
noncomputable def Dj (x : Int × bd × bf × Unit) : Option AV := if ea x.2.1 ∧ cg x.2.2.1 then some ((r1 bq).E true (di x.2.1.owner x.2.2.1.origin)) else none
set_option maxRecDepth 2000000 in
theorem Kb (x : Int × bd × bf × Unit) (r : AV) (h : Dj x = some r) : bh PP 91 ((aC (be .i64) (aC ah (aP cj a0))).E x) r := by
  by_cases hc : ea x.2.1 ∧ cg x.2.2.1
  case neg => simp only [Dj, if_neg hc] at h; cases h
  simp only [Dj, if_pos hc] at h
  cases h
  exact bg (aw.cons (aq mh) (aw.nil PP)) Tryz.func91 (by kernel_rfl) (by kernel_rfl) (by kernel_rfl) (Nat.le_of_ble_eq_true (by kernel_rfl)) (r1 bq) true (di x.2.1.owner x.2.2.1.origin) (als x.1 x.2.1 x.2.2.1 hc.1 hc.2)
noncomputable abbrev iu : Nat × Bool × (List AV → M AV) := (91, true, dj (aC (be .i64) (aC ah (aP cj a0))) Dj)
end Go.Proofs.YtcbdpmfipecmgaaGreat
end
section
set_option linter.unusedSimpArgs false
set_option linter.unusedVariables false
namespace Go.Proofs.YtcbdpmfipecmgaaGreat
open Go.Vm
set_option maxRecDepth 2000000
def lj (s : bd) : Bool := if ¬ (s.type.toNat : Int) = 2 then true else match s.owner[0]? with | none => true | some a => !decide (a = ti)
theorem asj (i : Int) (s : bd) (hs : ea s) : wl PP [] 0 (Tryz.f95.body.getD .skip) (du PP Tryz.f95.results.toList (fun r st => (r1 bq).get true st.h r = some (lj s))) (cy 0 [(be .i64).val false i, ah.val false s]) (bn []) := by
  have hn := hs.owner.lt
  unfold Tryz.f95
  simp only [nf]
  simp only [↓wR, RA, simprocAttr, TF, ag]
  unfold lj
  rw [ef]; refine ⟨fun ⟨h, e⟩ => ?_, fun ⟨h, e⟩ => ?_⟩
  · rw [if_pos e]
    simp only [↓wR, RA, simprocAttr, TF, ag, h]
  rw [if_neg (by omega)]
  simp only [↓wR, RA, simprocAttr, TF, ag, h]
  rw [c9]; refine ⟨fun ⟨h2, e2⟩ => ?_, fun ⟨h2, e2⟩ => ?_⟩
  · have hnil : s.owner = [] := List.eq_nil_of_length_eq_zero (by omega)
    have h0 : s.owner[0]? = none := by rw [hnil]; rfl
    rw [h0]
    simp only [↓wR, RA, simprocAttr, TF, ag, h2]
  · obtain ⟨a, ha⟩ : ∃ a, s.owner[0]? = some a := ⟨_, List.getElem?_eq_getElem (by omega)⟩
    have h0 : 0 < s.owner.length := by omega
    rw [ha]
    simp only [↓wR, RA, simprocAttr, TF, ag, h2, ha, h0]
    rfl
noncomputable def Gb (x : Int × bd × Unit) : Option AV := if ea x.2.1 then some ((r1 bq).E true (lj x.2.1)) else none
set_option maxRecDepth 2000000 in
theorem Qh (x : Int × bd × Unit) (r : AV) (h : Gb x = some r) : bh PP 95 ((aC (be .i64) (aC ah a0)).E x) r := by
  by_cases hc : ea x.2.1
  case neg => simp only [Gb, if_neg hc] at h; cases h
  simp only [Gb, if_pos hc] at h
  cases h
  exact bg (aw.nil PP) Tryz.func95 (by kernel_rfl) (by kernel_rfl) (by kernel_rfl) (Nat.le_of_ble_eq_true (by kernel_rfl)) (r1 bq) true (lj x.2.1) (asj x.1 x.2.1 hc)
noncomputable abbrev ln : Nat × Bool × (List AV → M AV) := (95, true, dj (aC (be .i64) (aC ah a0)) Gb)
def pv (z : bf) (s : bd) : Bool :=
  match j7 z s.owner with
  | none => true
  | some c => if (s.type.toNat : Int) = 1 then true else if (s.type.toNat : Int) = 28 then true else if (s.type.toNat : Int) = 2 then dw c s.owner else false
theorem ati (i : Int) (s : bd) (z : bf) (hs : ea s) (hz : cg z) : wl PP [ajn, dc] 0 (Tryz.f96.body.getD .skip) (du PP Tryz.f96.results.toList (fun r st => (r1 bq).get true st.h r = some (pv z s))) (cy 0 [(be .i64).val false i, ah.val false s, .gn (cj.cells false z)]) (bn []) := by
  have hsm := Kw (n := s.owner) hz z.ak none (fun _ h => h) (fun m hm => by cases hm)
  change ∀ m, j7 z s.owner = some m → bb m at hsm
  unfold Tryz.f96
  simp only [nf]
  unfold pv
  cases hc : j7 z s.owner with
  | none =>
    simp only [↓wR, RA, simprocAttr, TF, ag, Ad, ze, hs.owner, hz, hc, Option.isSome_none]
    done
  | some c =>
    simp only [↓wR, RA, simprocAttr, TF, ag, Ad, ze, hs.owner, hz, hc]
    rw [c9]; refine ⟨fun ⟨h, e⟩ => ?_, fun ⟨h, e⟩ => ?_⟩
    · rw [if_pos e]
      simp only [↓wR, RA, simprocAttr, TF, ag, h]
    rw [if_neg e]
    simp only [↓wR, RA, simprocAttr, TF, ag, h]
    rw [c9]; refine ⟨fun ⟨h2, e2⟩ => ?_, fun ⟨h2, e2⟩ => ?_⟩
    · rw [if_pos e2]
      simp only [↓wR, RA, simprocAttr, TF, ag, h2]
    rw [if_neg e2]
    simp only [↓wR, RA, simprocAttr, TF, ag, h2]
    rw [c9]; refine ⟨fun ⟨h3, e3⟩ => ?_, fun ⟨h3, e3⟩ => ?_⟩
    · rw [if_pos e3]
      simp only [↓wR, RA, simprocAttr, TF, ag, h3, fm, hs.owner, hsm c hc]
    · rw [if_neg e3]
      simp only [↓wR, RA, simprocAttr, TF, ag, h3]
noncomputable def Me (x : Int × bd × bf × Unit) : Option AV := if ea x.2.1 ∧ cg x.2.2.1 then some ((r1 bq).E true (pv x.2.2.1 x.2.1)) else none
set_option maxRecDepth 2000000 in
theorem Vo (x : Int × bd × bf × Unit) (r : AV) (h : Me x = some r) : bh PP 96 ((aC (be .i64) (aC ah (aP cj a0))).E x) r := by
  by_cases hc : ea x.2.1 ∧ cg x.2.2.1
  case neg => simp only [Me, if_neg hc] at h; cases h
  simp only [Me, if_pos hc] at h
  cases h
  exact bg (aw.cons (aq J4) (aw.cons (aq eb) (aw.nil PP))) Tryz.func96 (by kernel_rfl) (by kernel_rfl) (by kernel_rfl) (Nat.le_of_ble_eq_true (by kernel_rfl)) (r1 bq) true (pv x.2.2.1 x.2.1) (ati x.1 x.2.1 x.2.2.1 hc.1 hc.2)
noncomputable abbrev oo : Nat × Bool × (List AV → M AV) := (96, true, dj (aC (be .i64) (aC ah (aP cj a0))) Me)
def kb (z : bf) (p : Nat × Nat) (s : bd) : Nat × Nat :=
  if (s.type.toNat : Int) = 6 then (p.1 + 1, if (dw s.owner z.origin && decide ((s.data.length : Int) = 1)) = true then p.2 + 1 else p.2) else p
def gb (z : bf) : Nat × Nat := z.ak.foldl (kb z) (0, 0)
theorem arv (k : ud) (hz : cg k.z) : wl PP [dc] 0 (Tryz.f92.body.getD .skip) (du PP Tryz.f92.results.toList (fun r st => (r2 (be .i64) (be .i64)).get true st.h r = some (((gb k.z).1 : Int), ((gb k.z).2 : Int)))) (cy 0 [.gn (ml.cells false k)]) (bn []) := by
  have hl := hz.len
  unfold Tryz.f92
  simp only [↓wR, RA, simprocAttr, TF, ag, Ai]
  refine bm (T := []) (aw.nil PP) mixed Tryz.func15 rfl (by kernel_rfl) (by kernel_rfl) (by kernel_rfl) (by kernel_rfl) ?_; unfold Tryz.f15
  simp only [↓wR, RA, simprocAttr, TF, ag]
  refine ⟨[1, 4, 5, 11], ?_⟩
  have hib : vp PP 30 = some (Tryz.f30.ntmps, Tryz.f30.body.getD .skip) := by kernel_rfl
  simp only [↓wR, RA, simprocAttr, TF, ag, hib]
  refine ⟨by kernel_rfl, fun l => ?_⟩
  unfold Tryz.f30
  simp only [↓wR, RA, simprocAttr, TF, ag]
  refine Eg [0, 2, 7, 8, 9] (fun (x : Nat × Nat × Nat) => [.sc (.func (.yield l) #[] #[]), .ptr 4 0, .vl false 5 (k.z.ak.map (ah.val false)), .sc (.int .i64 (k.z.ak.length)), .sc (.int .i64 (x.1))]) (fun x => [some (.row [.gn [.vl false 1 (k.z.origin.map (aj.val false)), .vl false 5 (k.z.ak.map (ah.val false)), .sc (.int .i64 (k.e))]] 0 2 154), some (.row [.sc (.int .i64 (x.2.1 : Int))] 0 2 3), some (.row [.sc (.int .i64 (x.2.2 : Int))] 0 2 3), some (.row [.vl false 1 (k.z.origin.map (aj.val false)), .vl false 5 (k.z.ak.map (ah.val false))] 0 2 26), some (.row [.sc (.int .u16 6)] 0 2 28)]) (fun x => x.1 ≤ k.z.ak.length ∧ x.2.1 ≤ x.1 ∧ x.2.2 ≤ x.1 ∧ gb k.z = (k.z.ak.drop x.1).foldl (kb k.z) x.2) (fun x => k.z.ak.length - x.1) (0, 0, 0) ⟨Nat.zero_le _, Nat.le_refl _, Nat.le_refl _, rfl⟩ (by simp only [↓wR, RA, simprocAttr, TF, ag] <;> rfl) (by simp only [↓wR, RA, simprocAttr, TF, ag] <;> rfl) ?_
  rintro ⟨i, n, m⟩ ⟨hi, hn, hm, hx⟩
  simp only at hi hn hm hx
  simp only [↓wR, RA, simprocAttr, TF, ag]
  rw [wz]; refine ⟨fun h => ?_, fun h => ?_⟩
  · obtain ⟨c, hc, hd1, hlt⟩ := ed h
    have hcs := hz.set c (List.mem_of_getElem? hc)
    have hstep : gb k.z = (k.z.ak.drop (i + 1)).foldl (kb k.z) (kb k.z (n, m) c) := by rw [hx, hd1]; rfl
    simp only [↓wR, RA, simprocAttr, TF, ag, h, hc]
    rw [wz]; refine ⟨fun h2 => ?_, fun h2 => ?_⟩
    · have e2 : (c.type.toNat : Int) = 6 := by simpa using h2
      simp only [↓wR, RA, simprocAttr, TF, ag, h2]
      refine zv [0, 2, 7, 8, 9, 17, 19] ?_
      simp only [↓wR, RA, simprocAttr, TF, ag, y7, n6]; repeat (simp (disch := omega) only [ai, cb, cd, b9, ca]; try simp only [↓wR, RA, simprocAttr, TF, ag, y7, n6])
      refine ⟨by kernel_rfl, .inl ?_⟩
      simp only [↓wR, RA, simprocAttr, TF, ag, fm, hcs.owner, hz.origin]
      have fin : ∀ q, kb k.z (n, m) c = (n + 1, q) → q ≤ i + 1 → gb k.z = (k.z.ak.drop (i + 1)).foldl (kb k.z) (n + 1, q) := fun q hq _ => by rw [hstep, hq]
      rw [cz]; refine ⟨fun h3 => ?_, fun h3 => ?_⟩
      · simp only [↓wR, RA, simprocAttr, TF, ag, h3]
        refine ⟨by kernel_rfl, ?_⟩
        rw [c9]; refine ⟨fun ⟨h4, e4⟩ => ?_, fun ⟨h4, e4⟩ => ?_⟩
        · have hq : kb k.z (n, m) c = (n + 1, m + 1) := by simp [kb, e2, h3, e4]
          simp only [↓wR, RA, simprocAttr, TF, ag, h4]; repeat (simp (disch := omega) only [ai, cb, cd, b9, ca]; try simp only [↓wR, RA, simprocAttr, TF, ag, h4])
          exact ⟨(i + 1, n + 1, m + 1), ⟨hlt, by simp; omega, by simp; omega, fin _ hq (by omega)⟩, by simp; omega, by (first | rfl | trivial | omega | ((try (simp (disch := omega) only [ai])); (try (simp only [FB])); first | done | rfl | omega)), by (first | rfl | trivial | omega | ((try (simp (disch := omega) only [ai])); (try (simp only [FB])); first | done | rfl | omega))⟩
        · have hq : kb k.z (n, m) c = (n + 1, m) := by simp [kb, e2, h3, e4]
          simp only [↓wR, RA, simprocAttr, TF, ag, h4]; repeat (simp (disch := omega) only [ai, cb, cd, b9, ca]; try simp only [↓wR, RA, simprocAttr, TF, ag, h4])
          exact ⟨(i + 1, n + 1, m), ⟨hlt, by simp; omega, by simp; omega, fin _ hq (by omega)⟩, by simp; omega, by (first | rfl | trivial | omega | ((try (simp (disch := omega) only [ai])); (try (simp only [FB])); first | done | rfl | omega)), by (first | rfl | trivial | omega | ((try (simp (disch := omega) only [ai])); (try (simp only [FB])); first | done | rfl | omega))⟩
      · have hq : kb k.z (n, m) c = (n + 1, m) := by simp [kb, e2, h3]
        simp only [↓wR, RA, simprocAttr, TF, ag, h3]
        refine ⟨by kernel_rfl, ?_⟩
        exact ⟨(i + 1, n + 1, m), ⟨hlt, by simp; omega, by simp; omega, fin _ hq (by omega)⟩, by simp; omega, by (first | rfl | trivial | omega | ((try (simp (disch := omega) only [ai])); (try (simp only [FB])); first | done | rfl | omega)), by (first | rfl | trivial | omega | ((try (simp (disch := omega) only [ai])); (try (simp only [FB])); first | done | rfl | omega))⟩
    · have e2 : ¬ (c.type.toNat : Int) = 6 := by simpa using h2
      have hb2 : kb k.z (n, m) c = (n, m) := by simp [kb, e2]
      rw [hb2] at hstep
      simp only [↓wR, RA, simprocAttr, TF, ag, h2]; repeat (simp (disch := omega) only [ai, cb, cd, b9, ca]; try simp only [↓wR, RA, simprocAttr, TF, ag, h2])
      exact ⟨(i + 1, n, m), ⟨hlt, by simp; omega, by simp; omega, hstep⟩, by simp; omega, by (first | rfl | trivial | omega | ((try (simp (disch := omega) only [ai])); (try (simp only [FB])); first | done | rfl | omega)), by (first | rfl | trivial | omega | ((try (simp (disch := omega) only [ai])); (try (simp only [FB])); first | done | rfl | omega))⟩
  · rw [fq h] at hx
    simp only [↓wR, RA, simprocAttr, TF, ag, h]
    refine ⟨by kernel_rfl, .inl ?_⟩
    refine ⟨by kernel_rfl, ?_⟩
    rw [hx]; rfl
noncomputable def Jn (x : ud × Unit) : Option AV := if cg x.1.z then some ((r2 (be .i64) (be .i64)).E true ((((gb x.1.z).1 : Int), ((gb x.1.z).2 : Int)))) else none
set_option maxRecDepth 2000000 in
theorem Sx (x : ud × Unit) (r : AV) (h : Jn x = some r) : bh PP 92 ((aP ml a0).E x) r := by
  by_cases hc : cg x.1.z
  case neg => simp only [Jn, if_neg hc] at h; cases h
  simp only [Jn, if_pos hc] at h
  cases h
  exact bg (aw.cons (aq eb) (aw.nil PP)) Tryz.func92 (by kernel_rfl) (by kernel_rfl) (by kernel_rfl) (Nat.le_of_ble_eq_true (by kernel_rfl)) (r2 (be .i64) (be .i64)) true ((((gb x.1.z).1 : Int), ((gb x.1.z).2 : Int))) (arv x.1 hc)
noncomputable abbrev lh : Nat × Bool × (List AV → M AV) := (92, true, dj (aP ml a0) Jn)
end Go.Proofs.YtcbdpmfipecmgaaGreat
end
section
set_option linter.unusedSimpArgs false
set_option linter.unusedVariables false
namespace Go.Proofs.YtcbdpmfipecmgaaGreat
open Go.Vm
set_option maxRecDepth 2000000
def cx (b : Bool) (err e : Int) : Int := if e = 0 ∧ b = false then err else e
def fp (err : Int) (p : Nat → bd → Bool) : Nat → List bd → Int → Int
  | _, [], e => e
  | i, s :: r, e => if e ≠ 0 then e else fp err p (i + 1) r (cx (p i s) err e)
def ky (l : List bd) : Nat := l.foldl (fun n s => n + s.data.length) 0
noncomputable def A0 : List bd → Int → Int
  | [], e => e
  | s :: r, e => A0 r (if e = 0 then ph s else e)
noncomputable def ux (z : bf) : Int := if dv z.origin ≠ 0 then dv z.origin else A0 z.ak (cx (decide (ky z.ak ≤ 2048)) 3 0)
def H5 (z : bf) (l : List bd) : Bool := l.any fun s => decide ((s.type.toNat : Int) = 2) && dw s.owner z.origin
def gx (z : bf) : Bool := H5 z z.ak
theorem abh {z : bf} {l : List bd} {i : Nat} {c : bd} (h : l.drop i = c :: l.drop (i + 1)) : H5 z (l.drop i) = ((decide ((c.type.toNat : Int) = 2) && dw c.owner z.origin) || H5 z (l.drop (i + 1))) := by rw [h]; rfl
noncomputable def Qp (z : bf) : Int := fp 260 (ld z) 0 z.ak (ux z)
noncomputable def Qj (z : bf) : Int := fp 261 (fun _ s => nr s) 0 z.ak (Qp z)
noncomputable def rj (z : bf) : Int := fp 262 (fun _ s => di s.owner z.origin) 0 z.ak (Qj z)
noncomputable def m5 (z : bf) : Int := cx (decide ((gb z).1 = 1) && decide ((gb z).2 = 1)) 263 (rj z)
noncomputable def D5 (z : bf) : Int := cx (gx z) 264 (m5 z)
noncomputable def De (z : bf) : Int := fp 265 (jf z) 0 z.ak (D5 z)
noncomputable def Lj (z : bf) : Int := fp 266 (fun _ s => lj s) 0 z.ak (De z)
noncomputable def at7 (z : bf) : Int := fp 267 (fun _ s => pv z s) 0 z.ak (Lj z)
noncomputable def ic (z : bf) : Int := if ux z ≠ 0 then ux z else at7 z
theorem adf (l : List bd) (i : Nat) (c : bd) (h : l[i]? = some c) : ky (l.take (i + 1)) = ky (l.take i) + c.data.length := by
  obtain ⟨hk, rfl⟩ := List.getElem?_eq_some_iff.1 h
  rw [List.take_succ_eq_append_getElem hk]; simp only [ky, List.foldl_append, List.foldl_cons, List.foldl_nil]
theorem aai (l : List bd) : ∀ k, l.foldl (fun n s => n + s.data.length) k ≤ k + g8 um l := by
  induction l with
  | nil => intro k; exact Nat.le_refl _
  | cons a l ih =>
    intro k
    have h1 := ih (k + a.data.length)
    have h2 := yc yd a.data
    simp only [g8, List.foldr_cons, List.foldl_cons, um] at h1 ⊢
    unfold g8 at h2
    omega
theorem ahq (l : List bd) : ky l ≤ g8 um l := by have := aai l 0; unfold ky; omega
theorem ao1 {l : List bd} {i : Nat} {c : bd} (h : l.drop i = c :: l.drop (i + 1)) (e : Int) : A0 (l.drop i) e = A0 (l.drop (i + 1)) (if e = 0 then ph c else e) := by rw [h]; rfl
theorem tr {l : List bd} {i : Nat} {c : bd} (h : l.drop i = c :: l.drop (i + 1)) (err : Int) (p : Nat → bd → Bool) (e : Int) : fp err p i (l.drop i) e = if e ≠ 0 then e else fp err p (i + 1) (l.drop (i + 1)) (cx (p i c) err e) := by rw [h]; rfl
set_option maxHeartbeats 4000000 in
theorem acp (z : bf) (hz : cg z) : wl PP [dz, dc, gi, jn, jr, jm, iu, ln, oo, lh] 0 (Tryz.f56.body.getD .skip) (du PP Tryz.f56.results.toList (fun r st => (r1 (be .i64)).get true st.h r = some (ic z))) (cy 0 [cj.val false z]) (bn []) := by
  have hl := hz.len
  have ok : aw PP [dz, dc, gi, jn, jr, jm, iu, ln, oo, lh] := aw.cons (aq qh) (aw.cons (aq eb) (aw.cons (aq Is) (aw.cons (aq Of) (aw.cons (aq Nr) (aw.cons (aq Ni) (aw.cons (aq Kb) (aw.cons (aq Qh) (aw.cons (aq Vo) (aw.cons (aq Sx) (aw.nil PP))))))))))
  unfold Tryz.f56
  simp only [iy]
  simp only [↓wR, RA, simprocAttr, TF, ag]
  refine dn (fun r st' => r = .fe [] ∧ st' = bn [some (.row [.vl false 1 (z.origin.map (aj.val false)), .vl false 5 (z.ak.map (ah.val false))] 0 2 26), some (.row [.vl false 1 (z.origin.map (aj.val false)), .vl false 5 (z.ak.map (ah.val false)), .sc (.int .i64 (ux z))] 0 2 156)]) rfl ?_ ?_
  · refine bm (T := [dz, dc, gi, jn, jr, jm, iu, ln, oo, lh]) ok mixed Tryz.func87 rfl (by kernel_rfl) (by kernel_rfl) (by kernel_rfl) (by kernel_rfl) ?_; unfold Tryz.f87
    simp only [↓wR, RA, simprocAttr, TF, ag, pr, hz.origin.fit]
    unfold ux
    rw [cz]; refine ⟨fun h => ?_, fun h => ?_⟩
    · have he : dv z.origin ≠ 0 := by simpa using h
      rw [if_pos he]
      simp only [↓wR, RA, simprocAttr, TF, ag, h, iz, ik, g5]
    have he : dv z.origin = 0 := by simpa using h
    rw [if_neg (by omega)]
    simp only [↓wR, RA, simprocAttr, TF, ag, h, he]
    refine dx [0, 2, 25, 26, 27] (fun (i : Nat) => [.ptr 1 0, .sc (.int .i64 (ky (z.ak.take i))), .vl false 5 (z.ak.map (ah.val false)), .sc (.int .i64 (z.ak.length)), .sc (.int .i64 (i))]) (fun _ => [some (.row [.vl false 1 (z.origin.map (aj.val false)), .vl false 5 (z.ak.map (ah.val false))] 0 2 26), some (.row [.vl false 1 (z.origin.map (aj.val false)), .vl false 5 (z.ak.map (ah.val false)), .sc (.int .i64 (0))] 0 2 156)]) (fun i => i ≤ z.ak.length) (fun i => z.ak.length - i) 0 (Nat.zero_le _) (by simp only [↓wR, RA, simprocAttr, TF, ag] <;> rfl) (by simp only [↓wR, RA, simprocAttr, TF, ag] <;> rfl) ?_
    clear h
    intro i hi
    have hsum := ahq (z.ak.take i)
    have hsum2 := aa1 um z.ak i
    have hzz : g8 um z.ak ≤ 16777216 := by unfold cg Qk at hz; omega
    simp only [↓wR, RA, simprocAttr, TF, ag]
    rw [cp]; refine ⟨fun h => ?_, fun h => ?_⟩
    · obtain ⟨c, hc, hd1, hlt⟩ := ed (decide_eq_true h)
      have hst := adf z.ak i c hc
      have hcl := (hz.set c (List.mem_of_getElem? hc)).data.len
      simp only [↓wR, RA, simprocAttr, TF, ag, h, hc]; repeat (simp (disch := omega) only [ai, cb, cd, b9, ca]; try simp only [↓wR, RA, simprocAttr, TF, ag, h, hc])
      exact ⟨i + 1, hlt, by omega, by rw [hst]; (first | rfl | trivial | omega | ((try (simp (disch := omega) only [ai])); (try (simp only [FB])); first | done | rfl | omega))⟩
    have hin : i = z.ak.length := by omega
    rw [hin, List.take_length] at hsum ⊢
    simp only [↓wR, RA, simprocAttr, TF, ag, h]
    have hd : decide ((ky z.ak : Int) ≤ 2048) = decide (ky z.ak ≤ 2048) := by rw [decide_eq_decide]; omega
    rw [hd]
    refine dn (fun r st' => r = .fe [] ∧ st' = bn [some (.row [.vl false 1 (z.origin.map (aj.val false)), .vl false 5 (z.ak.map (ah.val false))] 0 2 26), some (.row [.vl false 1 (z.origin.map (aj.val false)), .vl false 5 (z.ak.map (ah.val false)), .sc (.int .i64 (cx (decide (ky z.ak ≤ 2048)) 3 (0)))] 0 2 156)]) rfl ?_ ?_
    · refine bm (T := [dz, dc, gi, jn, jr, jm, iu, ln, oo, lh]) ok mixed Tryz.func93 rfl (by kernel_rfl) (by kernel_rfl) (by kernel_rfl) (by kernel_rfl) ?_; unfold Tryz.f93
      simp only [↓wR, RA, simprocAttr, TF, ag]
      rw [cz]; refine ⟨fun hn2 => ?_, fun hn2 => ?_⟩
      · have hb : (decide (ky z.ak ≤ 2048)) = false := by simpa only [Bool.not_eq_true'] using hn2
        have hv : cx (decide (ky z.ak ≤ 2048)) 3 (0) = 3 := by unfold cx; rw [if_pos ⟨rfl, hb⟩]
        simp only [↓wR, RA, simprocAttr, TF, ag, hn2, iz, ik, g5]
        try rw [hv]
      · have hb : (decide (ky z.ak ≤ 2048)) = true := by simpa only [Bool.not_eq_false'] using hn2
        have hv : cx (decide (ky z.ak ≤ 2048)) 3 (0) = 0 := by unfold cx; rw [if_neg (fun q => by rw [hb] at q; cases q.2)]
        simp only [↓wR, RA, simprocAttr, TF, ag, hn2, iz, ik, g5]
        try rw [hv]
    rintro _ _ ⟨rfl, rfl⟩
    simp only [↓wR, RA, simprocAttr, TF, ag, gm]
    refine dx [0, 45, 46, 47] (fun (x : Nat × Int) => [.ptr 1 0, .vl false 5 (z.ak.map (ah.val false)), .sc (.int .i64 (z.ak.length)), .sc (.int .i64 (x.1))]) (fun x => [some (.row [.vl false 1 (z.origin.map (aj.val false)), .vl false 5 (z.ak.map (ah.val false))] 0 2 26), some (.row [.vl false 1 (z.origin.map (aj.val false)), .vl false 5 (z.ak.map (ah.val false)), .sc (.int .i64 (x.2))] 0 2 156)]) (fun x => x.1 ≤ z.ak.length ∧ A0 z.ak (cx (decide (ky z.ak ≤ 2048)) 3 0) = A0 (z.ak.drop x.1) x.2) (fun x => z.ak.length - x.1) (0, cx (decide (ky z.ak ≤ 2048)) 3 0) ⟨Nat.zero_le _, rfl⟩ (by simp only [↓wR, RA, simprocAttr, TF, ag] <;> rfl) (by simp only [↓wR, RA, simprocAttr, TF, ag] <;> rfl) ?_
    clear h hi hin hd
    rintro ⟨i, e⟩ ⟨hi, hx⟩
    simp only at hi hx
    simp only [↓wR, RA, simprocAttr, TF, ag]
    rw [cp]; refine ⟨fun h => ?_, fun h => ?_⟩
    · obtain ⟨c, hc, hd1, hlt⟩ := ed (decide_eq_true h)
      rw [ao1 hd1] at hx
      have hcs := hz.set c (List.mem_of_getElem? hc)
      simp only [↓wR, RA, simprocAttr, TF, ag, h, hc]
      rw [c9]; refine ⟨fun ⟨h1, e1⟩ => ?_, fun ⟨h1, e1⟩ => ?_⟩
      · rw [if_pos e1] at hx
        simp only [↓wR, RA, simprocAttr, TF, ag, h1, yh, hcs]; repeat (simp (disch := omega) only [ai, cb, cd, b9, ca]; try simp only [↓wR, RA, simprocAttr, TF, ag, h1, yh, hcs])
        exact ⟨(i + 1, ph c), ⟨hlt, hx⟩, by simp; omega, by (first | rfl | trivial | omega | ((try (simp (disch := omega) only [ai])); (try (simp only [FB])); first | done | rfl | omega)), by (first | rfl | trivial | omega | ((try (simp (disch := omega) only [ai])); (try (simp only [FB])); first | done | rfl | omega))⟩
      · rw [if_neg e1] at hx
        simp only [↓wR, RA, simprocAttr, TF, ag, h1]; repeat (simp (disch := omega) only [ai, cb, cd, b9, ca]; try simp only [↓wR, RA, simprocAttr, TF, ag, h1])
        exact ⟨(i + 1, e), ⟨hlt, hx⟩, by simp; omega, by (first | rfl | trivial | omega | ((try (simp (disch := omega) only [ai])); (try (simp only [FB])); first | done | rfl | omega)), by (first | rfl | trivial | omega | ((try (simp (disch := omega) only [ai])); (try (simp only [FB])); first | done | rfl | omega))⟩
    · rw [fq (decide_eq_false h)] at hx
      simp only [↓wR, RA, simprocAttr, TF, ag, h, iz, ik, g5]
      rw [hx]; rfl
  rintro _ _ ⟨rfl, rfl⟩
  simp only [↓wR, RA, simprocAttr, TF, ag, gm]
  unfold ic
  rw [cz]; refine ⟨fun h => ?_, fun h => ?_⟩
  · have he : ux z ≠ 0 := by simpa using h
    rw [if_pos he]
    simp only [↓wR, RA, simprocAttr, TF, ag, h]
  have he : ux z = 0 := by simpa using h
  rw [if_neg (by omega)]
  simp only [↓wR, RA, simprocAttr, TF, ag, h]
  clear h he
  obtain ⟨e0, he0⟩ : ∃ e0, ux z = e0 := ⟨_, rfl⟩
  rw [he0]
  refine dn (fun r st' => r = .fe [] ∧ st' = bn [some (.row [.vl false 1 (z.origin.map (aj.val false)), .vl false 5 (z.ak.map (ah.val false))] 0 2 26), some (.row [.vl false 1 (z.origin.map (aj.val false)), .vl false 5 (z.ak.map (ah.val false)), .sc (.int .i64 (fp 260 (ld z) 0 z.ak e0))] 0 2 156)]) rfl ?_ ?_
  · refine bm (T := [dz, dc, gi, jn, jr, jm, iu, ln, oo, lh]) ok mixed Tryz.func88 rfl (by kernel_rfl) (by kernel_rfl) (by kernel_rfl) (by kernel_rfl) ?_; unfold Tryz.f88
    simp only [↓wR, RA, simprocAttr, TF, ag]
    refine dx [0, 1, 2, 12, 13, 14] (fun (x : Nat × Int) => [.ptr 1 0, .sc (.int .i64 (260)), .fn (.func 89) [.ptr 1 0] [], .vl false 5 (z.ak.map (ah.val false)), .sc (.int .i64 (z.ak.length)), .sc (.int .i64 (x.1))]) (fun x => [some (.row [.vl false 1 (z.origin.map (aj.val false)), .vl false 5 (z.ak.map (ah.val false))] 0 2 26), some (.row [.vl false 1 (z.origin.map (aj.val false)), .vl false 5 (z.ak.map (ah.val false)), .sc (.int .i64 (x.2))] 0 2 156)]) (fun x => x.1 ≤ z.ak.length ∧ fp 260 (ld z) 0 z.ak e0 = fp 260 (ld z) x.1 (z.ak.drop x.1) x.2) (fun x => z.ak.length - x.1) (0, e0) ⟨Nat.zero_le _, rfl⟩ (by simp only [↓wR, RA, simprocAttr, TF, ag] <;> rfl) (by simp only [↓wR, RA, simprocAttr, TF, ag] <;> rfl) ?_
    rintro ⟨i, e⟩ ⟨hi, hx⟩
    simp only at hi hx
    simp only [↓wR, RA, simprocAttr, TF, ag]
    rw [cp]; refine ⟨fun h => ?_, fun h => ?_⟩
    · obtain ⟨c, hc, hd1, hlt⟩ := ed (decide_eq_true h)
      rw [tr hd1] at hx
      have hcs := hz.set c (List.mem_of_getElem? hc)
      have hi2 : (0 : Int) ≤ i ∧ (i : Int) ≤ z.ak.length := by omega
      simp only [↓wR, RA, simprocAttr, TF, ag, h, hc]
      rw [ef]; refine ⟨fun ⟨h1, e1⟩ => ?_, fun ⟨h1, e1⟩ => ?_⟩
      · rw [if_pos e1] at hx
        simp only [↓wR, RA, simprocAttr, TF, ag, h1, iz, ik, g5]
        rw [hx]
      · rw [if_neg (by omega)] at hx
        simp only [↓wR, RA, simprocAttr, TF, ag, h1, hcs, hz, hi2, Gk]
        refine dn (fun r st' => r = .fe [] ∧ st' = bn [some (.row [.vl false 1 (z.origin.map (aj.val false)), .vl false 5 (z.ak.map (ah.val false))] 0 2 26), some (.row [.vl false 1 (z.origin.map (aj.val false)), .vl false 5 (z.ak.map (ah.val false)), .sc (.int .i64 (cx ((ld z) i c) 260 e))] 0 2 156), some (.row [.vl false 1 (c.owner.map (aj.val false)), .sc (.int .u16 c.type.toNat), .sc (.int .u16 c.cls.toNat), .sc (.int .u32 c.qn.toNat), .vl false 4 (c.data.map (bt.val false))] 0 2 44)]) rfl ?_ ?_
        · refine bm (T := [dz, dc, gi, jn, jr, jm, iu, ln, oo, lh]) ok mixed Tryz.func93 rfl (by kernel_rfl) (by kernel_rfl) (by kernel_rfl) (by kernel_rfl) ?_; unfold Tryz.f93
          simp only [↓wR, RA, simprocAttr, TF, ag, e1]
          rw [cz]; refine ⟨fun hn2 => ?_, fun hn2 => ?_⟩
          · have hb : ((ld z) i c) = false := by simpa only [Bool.not_eq_true'] using hn2
            have hv : cx ((ld z) i c) 260 0 = 260 := by unfold cx; rw [if_pos ⟨rfl, hb⟩]
            simp only [↓wR, RA, simprocAttr, TF, ag, hn2, iz, ik, g5]
            try rw [hv]
          · have hb : ((ld z) i c) = true := by simpa only [Bool.not_eq_false'] using hn2
            have hv : cx ((ld z) i c) 260 0 = 0 := by unfold cx; rw [if_neg (fun q => by rw [hb] at q; cases q.2)]
            simp only [↓wR, RA, simprocAttr, TF, ag, hn2, iz, ik, g5]
            try rw [hv]
        rintro _ _ ⟨rfl, rfl⟩
        simp only [↓wR, RA, simprocAttr, TF, ag, gm]; repeat (simp (disch := omega) only [ai, cb, cd, b9, ca]; try simp only [↓wR, RA, simprocAttr, TF, ag, gm])
        exact ⟨(i + 1, cx ((ld z) i c) 260 e), ⟨hlt, hx⟩, by simp; omega, by (first | rfl | trivial | omega | ((try (simp (disch := omega) only [ai])); (try (simp only [FB])); first | done | rfl | omega)), by (first | rfl | trivial | omega | ((try (simp (disch := omega) only [ai])); (try (simp only [FB])); first | done | rfl | omega))⟩
    · rw [fq (decide_eq_false h)] at hx
      simp only [↓wR, RA, simprocAttr, TF, ag, h, iz, ik, g5]
      rw [hx]; rfl
  rintro _ _ ⟨rfl, rfl⟩
  rw [← he0]
  clear he0
  simp only [↓wR, RA, simprocAttr, TF, ag, gm]
  rw [show fp 260 (ld z) 0 z.ak (ux z) = Qp z from rfl]
  obtain ⟨e0, he0⟩ : ∃ e0, Qp z = e0 := ⟨_, rfl⟩
  rw [he0]
  refine dn (fun r st' => r = .fe [] ∧ st' = bn [some (.row [.vl false 1 (z.origin.map (aj.val false)), .vl false 5 (z.ak.map (ah.val false))] 0 2 26), some (.row [.vl false 1 (z.origin.map (aj.val false)), .vl false 5 (z.ak.map (ah.val false)), .sc (.int .i64 (fp 261 (fun _ s => nr s) 0 z.ak e0))] 0 2 156)]) rfl ?_ ?_
  · refine bm (T := [dz, dc, gi, jn, jr, jm, iu, ln, oo, lh]) ok mixed Tryz.func88 rfl (by kernel_rfl) (by kernel_rfl) (by kernel_rfl) (by kernel_rfl) ?_; unfold Tryz.f88
    simp only [↓wR, RA, simprocAttr, TF, ag]
    refine dx [0, 1, 2, 12, 13, 14] (fun (x : Nat × Int) => [.ptr 1 0, .sc (.int .i64 (261)), .sc (.func (.func 90) #[] #[]), .vl false 5 (z.ak.map (ah.val false)), .sc (.int .i64 (z.ak.length)), .sc (.int .i64 (x.1))]) (fun x => [some (.row [.vl false 1 (z.origin.map (aj.val false)), .vl false 5 (z.ak.map (ah.val false))] 0 2 26), some (.row [.vl false 1 (z.origin.map (aj.val false)), .vl false 5 (z.ak.map (ah.val false)), .sc (.int .i64 (x.2))] 0 2 156)]) (fun x => x.1 ≤ z.ak.length ∧ fp 261 (fun _ s => nr s) 0 z.ak e0 = fp 261 (fun _ s => nr s) x.1 (z.ak.drop x.1) x.2) (fun x => z.ak.length - x.1) (0, e0) ⟨Nat.zero_le _, rfl⟩ (by simp only [↓wR, RA, simprocAttr, TF, ag] <;> rfl) (by simp only [↓wR, RA, simprocAttr, TF, ag] <;> rfl) ?_
    rintro ⟨i, e⟩ ⟨hi, hx⟩
    simp only at hi hx
    simp only [↓wR, RA, simprocAttr, TF, ag]
    rw [cp]; refine ⟨fun h => ?_, fun h => ?_⟩
    · obtain ⟨c, hc, hd1, hlt⟩ := ed (decide_eq_true h)
      rw [tr hd1] at hx
      have hcs := hz.set c (List.mem_of_getElem? hc)
      have hi2 : (0 : Int) ≤ i ∧ (i : Int) ≤ z.ak.length := by omega
      simp only [↓wR, RA, simprocAttr, TF, ag, h, hc]
      rw [ef]; refine ⟨fun ⟨h1, e1⟩ => ?_, fun ⟨h1, e1⟩ => ?_⟩
      · rw [if_pos e1] at hx
        simp only [↓wR, RA, simprocAttr, TF, ag, h1, iz, ik, g5]
        rw [hx]
      · rw [if_neg (by omega)] at hx
        simp only [↓wR, RA, simprocAttr, TF, ag, h1, hcs, hz, hi2, Tt]
        refine dn (fun r st' => r = .fe [] ∧ st' = bn [some (.row [.vl false 1 (z.origin.map (aj.val false)), .vl false 5 (z.ak.map (ah.val false))] 0 2 26), some (.row [.vl false 1 (z.origin.map (aj.val false)), .vl false 5 (z.ak.map (ah.val false)), .sc (.int .i64 (cx ((fun _ s => nr s) i c) 261 e))] 0 2 156), some (.row [.vl false 1 (c.owner.map (aj.val false)), .sc (.int .u16 c.type.toNat), .sc (.int .u16 c.cls.toNat), .sc (.int .u32 c.qn.toNat), .vl false 4 (c.data.map (bt.val false))] 0 2 44)]) rfl ?_ ?_
        · refine bm (T := [dz, dc, gi, jn, jr, jm, iu, ln, oo, lh]) ok mixed Tryz.func93 rfl (by kernel_rfl) (by kernel_rfl) (by kernel_rfl) (by kernel_rfl) ?_; unfold Tryz.f93
          simp only [↓wR, RA, simprocAttr, TF, ag, e1]
          rw [cz]; refine ⟨fun hn2 => ?_, fun hn2 => ?_⟩
          · have hb : ((fun _ s => nr s) i c) = false := by simpa only [Bool.not_eq_true'] using hn2
            have hv : cx ((fun _ s => nr s) i c) 261 0 = 261 := by unfold cx; rw [if_pos ⟨rfl, hb⟩]
            simp only [↓wR, RA, simprocAttr, TF, ag, hn2, iz, ik, g5]
            try rw [hv]
          · have hb : ((fun _ s => nr s) i c) = true := by simpa only [Bool.not_eq_false'] using hn2
            have hv : cx ((fun _ s => nr s) i c) 261 0 = 0 := by unfold cx; rw [if_neg (fun q => by rw [hb] at q; cases q.2)]
            simp only [↓wR, RA, simprocAttr, TF, ag, hn2, iz, ik, g5]
            try rw [hv]
        rintro _ _ ⟨rfl, rfl⟩
        simp only [↓wR, RA, simprocAttr, TF, ag, gm]; repeat (simp (disch := omega) only [ai, cb, cd, b9, ca]; try simp only [↓wR, RA, simprocAttr, TF, ag, gm])
        exact ⟨(i + 1, cx ((fun _ s => nr s) i c) 261 e), ⟨hlt, hx⟩, by simp; omega, by (first | rfl | trivial | omega | ((try (simp (disch := omega) only [ai])); (try (simp only [FB])); first | done | rfl | omega)), by (first | rfl | trivial | omega | ((try (simp (disch := omega) only [ai])); (try (simp only [FB])); first | done | rfl | omega))⟩
    · rw [fq (decide_eq_false h)] at hx
      simp only [↓wR, RA, simprocAttr, TF, ag, h, iz, ik, g5]
      rw [hx]; rfl
  rintro _ _ ⟨rfl, rfl⟩
  rw [← he0]
  clear he0
  simp only [↓wR, RA, simprocAttr, TF, ag, gm]
  rw [show fp 261 (fun _ s => nr s) 0 z.ak (Qp z) = Qj z from rfl]
  obtain ⟨e0, he0⟩ : ∃ e0, Qj z = e0 := ⟨_, rfl⟩
  rw [he0]
  refine dn (fun r st' => r = .fe [] ∧ st' = bn [some (.row [.vl false 1 (z.origin.map (aj.val false)), .vl false 5 (z.ak.map (ah.val false))] 0 2 26), some (.row [.vl false 1 (z.origin.map (aj.val false)), .vl false 5 (z.ak.map (ah.val false)), .sc (.int .i64 (fp 262 (fun _ s => di s.owner z.origin) 0 z.ak e0))] 0 2 156)]) rfl ?_ ?_
  · refine bm (T := [dz, dc, gi, jn, jr, jm, iu, ln, oo, lh]) ok mixed Tryz.func88 rfl (by kernel_rfl) (by kernel_rfl) (by kernel_rfl) (by kernel_rfl) ?_; unfold Tryz.f88
    simp only [↓wR, RA, simprocAttr, TF, ag]
    refine dx [0, 1, 2, 12, 13, 14] (fun (x : Nat × Int) => [.ptr 1 0, .sc (.int .i64 (262)), .fn (.func 91) [] [.ptr 0 0], .vl false 5 (z.ak.map (ah.val false)), .sc (.int .i64 (z.ak.length)), .sc (.int .i64 (x.1))]) (fun x => [some (.row [.vl false 1 (z.origin.map (aj.val false)), .vl false 5 (z.ak.map (ah.val false))] 0 2 26), some (.row [.vl false 1 (z.origin.map (aj.val false)), .vl false 5 (z.ak.map (ah.val false)), .sc (.int .i64 (x.2))] 0 2 156)]) (fun x => x.1 ≤ z.ak.length ∧ fp 262 (fun _ s => di s.owner z.origin) 0 z.ak e0 = fp 262 (fun _ s => di s.owner z.origin) x.1 (z.ak.drop x.1) x.2) (fun x => z.ak.length - x.1) (0, e0) ⟨Nat.zero_le _, rfl⟩ (by simp only [↓wR, RA, simprocAttr, TF, ag] <;> rfl) (by simp only [↓wR, RA, simprocAttr, TF, ag] <;> rfl) ?_
    rintro ⟨i, e⟩ ⟨hi, hx⟩
    simp only at hi hx
    simp only [↓wR, RA, simprocAttr, TF, ag]
    rw [cp]; refine ⟨fun h => ?_, fun h => ?_⟩
    · obtain ⟨c, hc, hd1, hlt⟩ := ed (decide_eq_true h)
      rw [tr hd1] at hx
      have hcs := hz.set c (List.mem_of_getElem? hc)
      have hi2 : (0 : Int) ≤ i ∧ (i : Int) ≤ z.ak.length := by omega
      simp only [↓wR, RA, simprocAttr, TF, ag, h, hc]
      rw [ef]; refine ⟨fun ⟨h1, e1⟩ => ?_, fun ⟨h1, e1⟩ => ?_⟩
      · rw [if_pos e1] at hx
        simp only [↓wR, RA, simprocAttr, TF, ag, h1, iz, ik, g5]
        rw [hx]
      · rw [if_neg (by omega)] at hx
        simp only [↓wR, RA, simprocAttr, TF, ag, h1, hcs, hz, hi2, Dj]
        refine dn (fun r st' => r = .fe [] ∧ st' = bn [some (.row [.vl false 1 (z.origin.map (aj.val false)), .vl false 5 (z.ak.map (ah.val false))] 0 2 26), some (.row [.vl false 1 (z.origin.map (aj.val false)), .vl false 5 (z.ak.map (ah.val false)), .sc (.int .i64 (cx ((fun _ s => di s.owner z.origin) i c) 262 e))] 0 2 156), some (.row [.vl false 1 (c.owner.map (aj.val false)), .sc (.int .u16 c.type.toNat), .sc (.int .u16 c.cls.toNat), .sc (.int .u32 c.qn.toNat), .vl false 4 (c.data.map (bt.val false))] 0 2 44)]) rfl ?_ ?_
        · refine bm (T := [dz, dc, gi, jn, jr, jm, iu, ln, oo, lh]) ok mixed Tryz.func93 rfl (by kernel_rfl) (by kernel_rfl) (by kernel_rfl) (by kernel_rfl) ?_; unfold Tryz.f93
          simp only [↓wR, RA, simprocAttr, TF, ag, e1]
          rw [cz]; refine ⟨fun hn2 => ?_, fun hn2 => ?_⟩
          · have hb : ((fun _ s => di s.owner z.origin) i c) = false := by simpa only [Bool.not_eq_true'] using hn2
            have hv : cx ((fun _ s => di s.owner z.origin) i c) 262 0 = 262 := by unfold cx; rw [if_pos ⟨rfl, hb⟩]
            simp only [↓wR, RA, simprocAttr, TF, ag, hn2, iz, ik, g5]
            try rw [hv]
          · have hb : ((fun _ s => di s.owner z.origin) i c) = true := by simpa only [Bool.not_eq_false'] using hn2
            have hv : cx ((fun _ s => di s.owner z.origin) i c) 262 0 = 0 := by unfold cx; rw [if_neg (fun q => by rw [hb] at q; cases q.2)]
            simp only [↓wR, RA, simprocAttr, TF, ag, hn2, iz, ik, g5]
            try rw [hv]
        rintro _ _ ⟨rfl, rfl⟩
        simp only [↓wR, RA, simprocAttr, TF, ag, gm]; repeat (simp (disch := omega) only [ai, cb, cd, b9, ca]; try simp only [↓wR, RA, simprocAttr, TF, ag, gm])
        exact ⟨(i + 1, cx ((fun _ s => di s.owner z.origin) i c) 262 e), ⟨hlt, hx⟩, by simp; omega, by (first | rfl | trivial | omega | ((try (simp (disch := omega) only [ai])); (try (simp only [FB])); first | done | rfl | omega)), by (first | rfl | trivial | omega | ((try (simp (disch := omega) only [ai])); (try (simp only [FB])); first | done | rfl | omega))⟩
    · rw [fq (decide_eq_false h)] at hx
      simp only [↓wR, RA, simprocAttr, TF, ag, h, iz, ik, g5]
      rw [hx]; rfl
  rintro _ _ ⟨rfl, rfl⟩
  rw [← he0]
  clear he0
  simp only [↓wR, RA, simprocAttr, TF, ag, gm, Jn, hz]
  rw [show fp 262 (fun _ s => di s.owner z.origin) 0 z.ak (Qj z) = rj z from rfl]
  rw [c9]; refine ⟨fun ⟨hs1, es1⟩ => ?_, fun ⟨hs1, es1⟩ => ?_⟩
  · simp only [↓wR, RA, simprocAttr, TF, ag, hs1]
    rw [show (((gb z).2 : Int) == 1) = (decide ((gb z).1 = 1) && decide ((gb z).2 = 1)) from by rw [decide_eq_true (show (gb z).1 = 1 by omega), Bool.true_and, Bool.eq_iff_iff]; simp; omega]
    refine dn (fun r st' => r = .fe [] ∧ st' = bn [some (.row [.vl false 1 (z.origin.map (aj.val false)), .vl false 5 (z.ak.map (ah.val false))] 0 2 26), some (.row [.vl false 1 (z.origin.map (aj.val false)), .vl false 5 (z.ak.map (ah.val false)), .sc (.int .i64 (cx (decide ((gb z).1 = 1) && decide ((gb z).2 = 1)) 263 (rj z)))] 0 2 156)]) rfl ?_ ?_
    · refine bm (T := [dz, dc, gi, jn, jr, jm, iu, ln, oo, lh]) ok mixed Tryz.func93 rfl (by kernel_rfl) (by kernel_rfl) (by kernel_rfl) (by kernel_rfl) ?_; unfold Tryz.f93
      simp only [↓wR, RA, simprocAttr, TF, ag]
      rw [c9]; refine ⟨fun ⟨hn1, en1⟩ => ?_, fun ⟨hn1, en1⟩ => ?_⟩
      · simp only [↓wR, RA, simprocAttr, TF, ag, hn1]
        rw [cz]; refine ⟨fun hn2 => ?_, fun hn2 => ?_⟩
        · have hb : (decide ((gb z).1 = 1) && decide ((gb z).2 = 1)) = false := by simpa only [Bool.not_eq_true'] using hn2
          have hv : cx (decide ((gb z).1 = 1) && decide ((gb z).2 = 1)) 263 (rj z) = 263 := by unfold cx; rw [if_pos ⟨en1, hb⟩]
          simp only [↓wR, RA, simprocAttr, TF, ag, hn1, hn2, iz, ik, g5]
          try rw [hv]
        · have hb : (decide ((gb z).1 = 1) && decide ((gb z).2 = 1)) = true := by simpa only [Bool.not_eq_false'] using hn2
          have hv : cx (decide ((gb z).1 = 1) && decide ((gb z).2 = 1)) 263 (rj z) = rj z := by unfold cx; rw [if_neg (fun q => by rw [hb] at q; cases q.2)]
          simp only [↓wR, RA, simprocAttr, TF, ag, hn1, hn2, iz, ik, g5]
          try rw [hv]
      · have hv : cx (decide ((gb z).1 = 1) && decide ((gb z).2 = 1)) 263 (rj z) = rj z := by unfold cx; rw [if_neg (fun q => en1 q.1)]
        simp only [↓wR, RA, simprocAttr, TF, ag, hn1, iz, ik, g5]
        try rw [hv]
    rintro _ _ ⟨rfl, rfl⟩
    rw [show cx (decide ((gb z).1 = 1) && decide ((gb z).2 = 1)) 263 (rj z) = m5 z from rfl]
    simp only [↓wR, RA, simprocAttr, TF, ag, gm]
    refine bm (T := []) (aw.nil PP) mixed Tryz.func15 rfl (by kernel_rfl) (by kernel_rfl) (by kernel_rfl) (by kernel_rfl) ?_; unfold Tryz.f15
    simp only [↓wR, RA, simprocAttr, TF, ag]
    refine ⟨[1, 3, 6, 45], ?_⟩
    have hib : vp PP 30 = some (Tryz.f30.ntmps, Tryz.f30.body.getD .skip) := by kernel_rfl
    simp only [↓wR, RA, simprocAttr, TF, ag, hib]
    refine ⟨by kernel_rfl, fun l => ?_⟩
    unfold Tryz.f30
    simp only [↓wR, RA, simprocAttr, TF, ag]
    refine Eg [0, 2, 7, 8, 9] (fun (x : Nat × Bool) => [.sc (.func (.yield l) #[] #[]), .ptr 4 0, .vl false 5 (z.ak.map (ah.val false)), .sc (.int .i64 (z.ak.length)), .sc (.int .i64 (x.1))]) (fun x => [some (.row [.vl false 1 (z.origin.map (aj.val false)), .vl false 5 (z.ak.map (ah.val false))] 0 2 26), some (.row [.vl false 1 (z.origin.map (aj.val false)), .vl false 5 (z.ak.map (ah.val false)), .sc (.int .i64 (m5 z))] 0 2 156), some (.row [.sc (.bool (x.2))] 0 2 4), some (.row [.vl false 1 (z.origin.map (aj.val false)), .vl false 5 (z.ak.map (ah.val false))] 0 2 26), some (.row [.sc (.int .u16 2)] 0 2 28)]) (fun x => x.1 ≤ z.ak.length ∧ gx z = (x.2 || H5 z (z.ak.drop x.1))) (fun x => z.ak.length - x.1) (0, false) ⟨Nat.zero_le _, by rw [Bool.false_or]; rfl⟩ (by simp only [↓wR, RA, simprocAttr, TF, ag] <;> rfl) (by simp only [↓wR, RA, simprocAttr, TF, ag] <;> rfl) ?_
    rintro ⟨i, b⟩ ⟨hi, hx⟩
    simp only at hi hx
    simp only [↓wR, RA, simprocAttr, TF, ag]
    rw [wz]; refine ⟨fun h => ?_, fun h => ?_⟩
    · obtain ⟨c, hc, hd1, hlt⟩ := ed h
      have hcs := hz.set c (List.mem_of_getElem? hc)
      rw [abh hd1] at hx
      simp only [↓wR, RA, simprocAttr, TF, ag, h, hc]
      rw [wz]; refine ⟨fun h2 => ?_, fun h2 => ?_⟩
      · have e2 : (c.type.toNat : Int) = 2 := by simpa using h2
        rw [decide_eq_true e2, Bool.true_and] at hx
        simp only [↓wR, RA, simprocAttr, TF, ag, h2]
        refine zv [0, 2, 7, 8, 9, 17, 19] ?_
        simp only [↓wR, RA, simprocAttr, TF, ag, y7, n6]
        cases b with
        | true =>
          simp only [↓wR, RA, simprocAttr, TF, ag]; repeat (simp (disch := omega) only [ai, cb, cd, b9, ca]; try simp only [↓wR, RA, simprocAttr, TF, ag])
          exact ⟨(i + 1, true), ⟨hlt, by rw [hx]; rfl⟩, by simp; omega, by (first | rfl | trivial | omega | ((try (simp (disch := omega) only [ai])); (try (simp only [FB])); first | done | rfl | omega)), by (first | rfl | trivial | omega | ((try (simp (disch := omega) only [ai])); (try (simp only [FB])); first | done | rfl | omega))⟩
        | false =>
          simp only [↓wR, RA, simprocAttr, TF, ag, fm, hcs.owner, hz.origin]; repeat (simp (disch := omega) only [ai, cb, cd, b9, ca]; try simp only [↓wR, RA, simprocAttr, TF, ag, fm, hcs.owner, hz.origin])
          exact ⟨(i + 1, dw c.owner z.origin), ⟨hlt, by rw [hx, Bool.false_or]⟩, by simp; omega, by (first | rfl | trivial | omega | ((try (simp (disch := omega) only [ai])); (try (simp only [FB])); first | done | rfl | omega)), by (first | rfl | trivial | omega | ((try (simp (disch := omega) only [ai])); (try (simp only [FB])); first | done | rfl | omega))⟩
      · have e2 : ¬ (c.type.toNat : Int) = 2 := by simpa using h2
        rw [decide_eq_false e2, Bool.false_and, Bool.false_or] at hx
        simp only [↓wR, RA, simprocAttr, TF, ag, h2]; repeat (simp (disch := omega) only [ai, cb, cd, b9, ca]; try simp only [↓wR, RA, simprocAttr, TF, ag, h2])
        exact ⟨(i + 1, b), ⟨hlt, hx⟩, by simp; omega, by (first | rfl | trivial | omega | ((try (simp (disch := omega) only [ai])); (try (simp only [FB])); first | done | rfl | omega)), by (first | rfl | trivial | omega | ((try (simp (disch := omega) only [ai])); (try (simp only [FB])); first | done | rfl | omega))⟩
    rw [fq h] at hx
    have hb : b = gx z := by rw [hx]; simp [H5]
    simp only [↓wR, RA, simprocAttr, TF, ag, h]
    rw [hb]
    clear h hx hb
    refine dn (fun r st' => r = .fe [] ∧ st' = bn [some (.row [.vl false 1 (z.origin.map (aj.val false)), .vl false 5 (z.ak.map (ah.val false))] 0 2 26), some (.row [.vl false 1 (z.origin.map (aj.val false)), .vl false 5 (z.ak.map (ah.val false)), .sc (.int .i64 (cx (gx z) 264 (m5 z)))] 0 2 156), some (.row [.sc (.bool (gx z))] 0 2 4), some (.row [.vl false 1 (z.origin.map (aj.val false)), .vl false 5 (z.ak.map (ah.val false))] 0 2 26), some (.row [.sc (.int .u16 2)] 0 2 28)]) rfl ?_ ?_
    · refine bm (T := [dz, dc, gi, jn, jr, jm, iu, ln, oo, lh]) ok mixed Tryz.func93 rfl (by kernel_rfl) (by kernel_rfl) (by kernel_rfl) (by kernel_rfl) ?_; unfold Tryz.f93
      simp only [↓wR, RA, simprocAttr, TF, ag]
      rw [c9]; refine ⟨fun ⟨hn1, en1⟩ => ?_, fun ⟨hn1, en1⟩ => ?_⟩
      · simp only [↓wR, RA, simprocAttr, TF, ag, hn1]
        rw [cz]; refine ⟨fun hn2 => ?_, fun hn2 => ?_⟩
        · have hb : (gx z) = false := by simpa only [Bool.not_eq_true'] using hn2
          have hv : cx (gx z) 264 (m5 z) = 264 := by unfold cx; rw [if_pos ⟨en1, hb⟩]
          simp only [↓wR, RA, simprocAttr, TF, ag, hn1, hn2, iz, ik, g5]
          try rw [hv]
        · have hb : (gx z) = true := by simpa only [Bool.not_eq_false'] using hn2
          have hv : cx (gx z) 264 (m5 z) = m5 z := by unfold cx; rw [if_neg (fun q => by rw [hb] at q; cases q.2)]
          simp only [↓wR, RA, simprocAttr, TF, ag, hn1, hn2, iz, ik, g5]
          try rw [hv]
      · have hv : cx (gx z) 264 (m5 z) = m5 z := by unfold cx; rw [if_neg (fun q => en1 q.1)]
        simp only [↓wR, RA, simprocAttr, TF, ag, hn1, iz, ik, g5]
        try rw [hv]
    rintro _ _ ⟨rfl, rfl⟩
    rw [show cx (gx z) 264 (m5 z) = D5 z from rfl]
    simp only [↓wR, RA, simprocAttr, TF, ag, gm]
    obtain ⟨e0, he0⟩ : ∃ e0, D5 z = e0 := ⟨_, rfl⟩
    rw [he0]
    refine dn (fun r st' => r = .fe [] ∧ st' = bn [some (.row [.vl false 1 (z.origin.map (aj.val false)), .vl false 5 (z.ak.map (ah.val false))] 0 2 26), some (.row [.vl false 1 (z.origin.map (aj.val false)), .vl false 5 (z.ak.map (ah.val false)), .sc (.int .i64 (fp 265 (jf z) 0 z.ak e0))] 0 2 156), some (.row [.sc (.bool (gx z))] 0 2 4), some (.row [.vl false 1 (z.origin.map (aj.val false)), .vl false 5 (z.ak.map (ah.val false))] 0 2 26), some (.row [.sc (.int .u16 2)] 0 2 28)]) rfl ?_ ?_
    · refine bm (T := [dz, dc, gi, jn, jr, jm, iu, ln, oo, lh]) ok mixed Tryz.func88 rfl (by kernel_rfl) (by kernel_rfl) (by kernel_rfl) (by kernel_rfl) ?_; unfold Tryz.f88
      simp only [↓wR, RA, simprocAttr, TF, ag]
      refine dx [0, 1, 2, 12, 13, 14] (fun (x : Nat × Int) => [.ptr 1 0, .sc (.int .i64 (265)), .fn (.func 94) [.ptr 1 0] [], .vl false 5 (z.ak.map (ah.val false)), .sc (.int .i64 (z.ak.length)), .sc (.int .i64 (x.1))]) (fun x => [some (.row [.vl false 1 (z.origin.map (aj.val false)), .vl false 5 (z.ak.map (ah.val false))] 0 2 26), some (.row [.vl false 1 (z.origin.map (aj.val false)), .vl false 5 (z.ak.map (ah.val false)), .sc (.int .i64 (x.2))] 0 2 156), some (.row [.sc (.bool (gx z))] 0 2 4), some (.row [.vl false 1 (z.origin.map (aj.val false)), .vl false 5 (z.ak.map (ah.val false))] 0 2 26), some (.row [.sc (.int .u16 2)] 0 2 28)]) (fun x => x.1 ≤ z.ak.length ∧ fp 265 (jf z) 0 z.ak e0 = fp 265 (jf z) x.1 (z.ak.drop x.1) x.2) (fun x => z.ak.length - x.1) (0, e0) ⟨Nat.zero_le _, rfl⟩ (by simp only [↓wR, RA, simprocAttr, TF, ag] <;> rfl) (by simp only [↓wR, RA, simprocAttr, TF, ag] <;> rfl) ?_
      rintro ⟨i, e⟩ ⟨hi, hx⟩
      simp only at hi hx
      simp only [↓wR, RA, simprocAttr, TF, ag]
      rw [cp]; refine ⟨fun h => ?_, fun h => ?_⟩
      · obtain ⟨c, hc, hd1, hlt⟩ := ed (decide_eq_true h)
        rw [tr hd1] at hx
        have hcs := hz.set c (List.mem_of_getElem? hc)
        have hi2 : (0 : Int) ≤ i ∧ (i : Int) ≤ z.ak.length := by omega
        simp only [↓wR, RA, simprocAttr, TF, ag, h, hc]
        rw [ef]; refine ⟨fun ⟨h1, e1⟩ => ?_, fun ⟨h1, e1⟩ => ?_⟩
        · rw [if_pos e1] at hx
          simp only [↓wR, RA, simprocAttr, TF, ag, h1, iz, ik, g5]
          rw [hx]
        · rw [if_neg (by omega)] at hx
          simp only [↓wR, RA, simprocAttr, TF, ag, h1, hcs, hz, hi2, Ct]
          refine dn (fun r st' => r = .fe [] ∧ st' = bn [some (.row [.vl false 1 (z.origin.map (aj.val false)), .vl false 5 (z.ak.map (ah.val false))] 0 2 26), some (.row [.vl false 1 (z.origin.map (aj.val false)), .vl false 5 (z.ak.map (ah.val false)), .sc (.int .i64 (cx ((jf z) i c) 265 e))] 0 2 156), some (.row [.sc (.bool (gx z))] 0 2 4), some (.row [.vl false 1 (z.origin.map (aj.val false)), .vl false 5 (z.ak.map (ah.val false))] 0 2 26), some (.row [.sc (.int .u16 2)] 0 2 28), some (.row [.vl false 1 (c.owner.map (aj.val false)), .sc (.int .u16 c.type.toNat), .sc (.int .u16 c.cls.toNat), .sc (.int .u32 c.qn.toNat), .vl false 4 (c.data.map (bt.val false))] 0 2 44)]) rfl ?_ ?_
          · refine bm (T := [dz, dc, gi, jn, jr, jm, iu, ln, oo, lh]) ok mixed Tryz.func93 rfl (by kernel_rfl) (by kernel_rfl) (by kernel_rfl) (by kernel_rfl) ?_; unfold Tryz.f93
            simp only [↓wR, RA, simprocAttr, TF, ag, e1]
            rw [cz]; refine ⟨fun hn2 => ?_, fun hn2 => ?_⟩
            · have hb : ((jf z) i c) = false := by simpa only [Bool.not_eq_true'] using hn2
              have hv : cx ((jf z) i c) 265 0 = 265 := by unfold cx; rw [if_pos ⟨rfl, hb⟩]
              simp only [↓wR, RA, simprocAttr, TF, ag, hn2, iz, ik, g5]
              try rw [hv]
            · have hb : ((jf z) i c) = true := by simpa only [Bool.not_eq_false'] using hn2
              have hv : cx ((jf z) i c) 265 0 = 0 := by unfold cx; rw [if_neg (fun q => by rw [hb] at q; cases q.2)]
              simp only [↓wR, RA, simprocAttr, TF, ag, hn2, iz, ik, g5]
              try rw [hv]
          rintro _ _ ⟨rfl, rfl⟩
          simp only [↓wR, RA, simprocAttr, TF, ag, gm]; repeat (simp (disch := omega) only [ai, cb, cd, b9, ca]; try simp only [↓wR, RA, simprocAttr, TF, ag, gm])
          exact ⟨(i + 1, cx ((jf z) i c) 265 e), ⟨hlt, hx⟩, by simp; omega, by (first | rfl | trivial | omega | ((try (simp (disch := omega) only [ai])); (try (simp only [FB])); first | done | rfl | omega)), by (first | rfl | trivial | omega | ((try (simp (disch := omega) only [ai])); (try (simp only [FB])); first | done | rfl | omega))⟩
      · rw [fq (decide_eq_false h)] at hx
        simp only [↓wR, RA, simprocAttr, TF, ag, h, iz, ik, g5]
        rw [hx]; rfl
    rintro _ _ ⟨rfl, rfl⟩
    rw [← he0]
    clear he0
    simp only [↓wR, RA, simprocAttr, TF, ag, gm]
    rw [show fp 265 (jf z) 0 z.ak (D5 z) = De z from rfl]
    obtain ⟨e0, he0⟩ : ∃ e0, De z = e0 := ⟨_, rfl⟩
    rw [he0]
    refine dn (fun r st' => r = .fe [] ∧ st' = bn [some (.row [.vl false 1 (z.origin.map (aj.val false)), .vl false 5 (z.ak.map (ah.val false))] 0 2 26), some (.row [.vl false 1 (z.origin.map (aj.val false)), .vl false 5 (z.ak.map (ah.val false)), .sc (.int .i64 (fp 266 (fun _ s => lj s) 0 z.ak e0))] 0 2 156), some (.row [.sc (.bool (gx z))] 0 2 4), some (.row [.vl false 1 (z.origin.map (aj.val false)), .vl false 5 (z.ak.map (ah.val false))] 0 2 26), some (.row [.sc (.int .u16 2)] 0 2 28)]) rfl ?_ ?_
    · refine bm (T := [dz, dc, gi, jn, jr, jm, iu, ln, oo, lh]) ok mixed Tryz.func88 rfl (by kernel_rfl) (by kernel_rfl) (by kernel_rfl) (by kernel_rfl) ?_; unfold Tryz.f88
      simp only [↓wR, RA, simprocAttr, TF, ag]
      refine dx [0, 1, 2, 12, 13, 14] (fun (x : Nat × Int) => [.ptr 1 0, .sc (.int .i64 (266)), .sc (.func (.func 95) #[] #[]), .vl false 5 (z.ak.map (ah.val false)), .sc (.int .i64 (z.ak.length)), .sc (.int .i64 (x.1))]) (fun x => [some (.row [.vl false 1 (z.origin.map (aj.val false)), .vl false 5 (z.ak.map (ah.val false))] 0 2 26), some (.row [.vl false 1 (z.origin.map (aj.val false)), .vl false 5 (z.ak.map (ah.val false)), .sc (.int .i64 (x.2))] 0 2 156), some (.row [.sc (.bool (gx z))] 0 2 4), some (.row [.vl false 1 (z.origin.map (aj.val false)), .vl false 5 (z.ak.map (ah.val false))] 0 2 26), some (.row [.sc (.int .u16 2)] 0 2 28)]) (fun x => x.1 ≤ z.ak.length ∧ fp 266 (fun _ s => lj s) 0 z.ak e0 = fp 266 (fun _ s => lj s) x.1 (z.ak.drop x.1) x.2) (fun x => z.ak.length - x.1) (0, e0) ⟨Nat.zero_le _, rfl⟩ (by simp only [↓wR, RA, simprocAttr, TF, ag] <;> rfl) (by simp only [↓wR, RA, simprocAttr, TF, ag] <;> rfl) ?_
      rintro ⟨i, e⟩ ⟨hi, hx⟩
      simp only at hi hx
      simp only [↓wR, RA, simprocAttr, TF, ag]
      rw [cp]; refine ⟨fun h => ?_, fun h => ?_⟩
      · obtain ⟨c, hc, hd1, hlt⟩ := ed (decide_eq_true h)
        rw [tr hd1] at hx
        have hcs := hz.set c (List.mem_of_getElem? hc)
        have hi2 : (0 : Int) ≤ i ∧ (i : Int) ≤ z.ak.length := by omega
        simp only [↓wR, RA, simprocAttr, TF, ag, h, hc]
        rw [ef]; refine ⟨fun ⟨h1, e1⟩ => ?_, fun ⟨h1, e1⟩ => ?_⟩
        · rw [if_pos e1] at hx
          simp only [↓wR, RA, simprocAttr, TF, ag, h1, iz, ik, g5]
          rw [hx]
        · rw [if_neg (by omega)] at hx
          simp only [↓wR, RA, simprocAttr, TF, ag, h1, hcs, hz, hi2, Gb]
          refine dn (fun r st' => r = .fe [] ∧ st' = bn [some (.row [.vl false 1 (z.origin.map (aj.val false)), .vl false 5 (z.ak.map (ah.val false))] 0 2 26), some (.row [.vl false 1 (z.origin.map (aj.val false)), .vl false 5 (z.ak.map (ah.val false)), .sc (.int .i64 (cx ((fun _ s => lj s) i c) 266 e))] 0 2 156), some (.row [.sc (.bool (gx z))] 0 2 4), some (.row [.vl false 1 (z.origin.map (aj.val false)), .vl false 5 (z.ak.map (ah.val false))] 0 2 26), some (.row [.sc (.int .u16 2)] 0 2 28), some (.row [.vl false 1 (c.owner.map (aj.val false)), .sc (.int .u16 c.type.toNat), .sc (.int .u16 c.cls.toNat), .sc (.int .u32 c.qn.toNat), .vl false 4 (c.data.map (bt.val false))] 0 2 44)]) rfl ?_ ?_
          · refine bm (T := [dz, dc, gi, jn, jr, jm, iu, ln, oo, lh]) ok mixed Tryz.func93 rfl (by kernel_rfl) (by kernel_rfl) (by kernel_rfl) (by kernel_rfl) ?_; unfold Tryz.f93
            simp only [↓wR, RA, simprocAttr, TF, ag, e1]
            rw [cz]; refine ⟨fun hn2 => ?_, fun hn2 => ?_⟩
            · have hb : ((fun _ s => lj s) i c) = false := by simpa only [Bool.not_eq_true'] using hn2
              have hv : cx ((fun _ s => lj s) i c) 266 0 = 266 := by unfold cx; rw [if_pos ⟨rfl, hb⟩]
              simp only [↓wR, RA, simprocAttr, TF, ag, hn2, iz, ik, g5]
              try rw [hv]
            · have hb : ((fun _ s => lj s) i c) = true := by simpa only [Bool.not_eq_false'] using hn2
              have hv : cx ((fun _ s => lj s) i c) 266 0 = 0 := by unfold cx; rw [if_neg (fun q => by rw [hb] at q; cases q.2)]
              simp only [↓wR, RA, simprocAttr, TF, ag, hn2, iz, ik, g5]
              try rw [hv]
          rintro _ _ ⟨rfl, rfl⟩
          simp only [↓wR, RA, simprocAttr, TF, ag, gm]; repeat (simp (disch := omega) only [ai, cb, cd, b9, ca]; try simp only [↓wR, RA, simprocAttr, TF, ag, gm])
          exact ⟨(i + 1, cx ((fun _ s => lj s) i c) 266 e), ⟨hlt, hx⟩, by simp; omega, by (first | rfl | trivial | omega | ((try (simp (disch := omega) only [ai])); (try (simp only [FB])); first | done | rfl | omega)), by (first | rfl | trivial | omega | ((try (simp (disch := omega) only [ai])); (try (simp only [FB])); first | done | rfl | omega))⟩
      · rw [fq (decide_eq_false h)] at hx
        simp only [↓wR, RA, simprocAttr, TF, ag, h, iz, ik, g5]
        rw [hx]; rfl
    rintro _ _ ⟨rfl, rfl⟩
    rw [← he0]
    clear he0
    simp only [↓wR, RA, simprocAttr, TF, ag, gm]
    rw [show fp 266 (fun _ s => lj s) 0 z.ak (De z) = Lj z from rfl]
    obtain ⟨e0, he0⟩ : ∃ e0, Lj z = e0 := ⟨_, rfl⟩
    rw [he0]
    refine dn (fun r st' => r = .fe [] ∧ st' = bn [some (.row [.vl false 1 (z.origin.map (aj.val false)), .vl false 5 (z.ak.map (ah.val false))] 0 2 26), some (.row [.vl false 1 (z.origin.map (aj.val false)), .vl false 5 (z.ak.map (ah.val false)), .sc (.int .i64 (fp 267 (fun _ s => pv z s) 0 z.ak e0))] 0 2 156), some (.row [.sc (.bool (gx z))] 0 2 4), some (.row [.vl false 1 (z.origin.map (aj.val false)), .vl false 5 (z.ak.map (ah.val false))] 0 2 26), some (.row [.sc (.int .u16 2)] 0 2 28)]) rfl ?_ ?_
    · refine bm (T := [dz, dc, gi, jn, jr, jm, iu, ln, oo, lh]) ok mixed Tryz.func88 rfl (by kernel_rfl) (by kernel_rfl) (by kernel_rfl) (by kernel_rfl) ?_; unfold Tryz.f88
      simp only [↓wR, RA, simprocAttr, TF, ag]
      refine dx [0, 1, 2, 12, 13, 14] (fun (x : Nat × Int) => [.ptr 1 0, .sc (.int .i64 (267)), .fn (.func 96) [] [.ptr 0 0], .vl false 5 (z.ak.map (ah.val false)), .sc (.int .i64 (z.ak.length)), .sc (.int .i64 (x.1))]) (fun x => [some (.row [.vl false 1 (z.origin.map (aj.val false)), .vl false 5 (z.ak.map (ah.val false))] 0 2 26), some (.row [.vl false 1 (z.origin.map (aj.val false)), .vl false 5 (z.ak.map (ah.val false)), .sc (.int .i64 (x.2))] 0 2 156), some (.row [.sc (.bool (gx z))] 0 2 4), some (.row [.vl false 1 (z.origin.map (aj.val false)), .vl false 5 (z.ak.map (ah.val false))] 0 2 26), some (.row [.sc (.int .u16 2)] 0 2 28)]) (fun x => x.1 ≤ z.ak.length ∧ fp 267 (fun _ s => pv z s) 0 z.ak e0 = fp 267 (fun _ s => pv z s) x.1 (z.ak.drop x.1) x.2) (fun x => z.ak.length - x.1) (0, e0) ⟨Nat.zero_le _, rfl⟩ (by simp only [↓wR, RA, simprocAttr, TF, ag] <;> rfl) (by simp only [↓wR, RA, simprocAttr, TF, ag] <;> rfl) ?_
      rintro ⟨i, e⟩ ⟨hi, hx⟩
      simp only at hi hx
      simp only [↓wR, RA, simprocAttr, TF, ag]
      rw [cp]; refine ⟨fun h => ?_, fun h => ?_⟩
      · obtain ⟨c, hc, hd1, hlt⟩ := ed (decide_eq_true h)
        rw [tr hd1] at hx
        have hcs := hz.set c (List.mem_of_getElem? hc)
        have hi2 : (0 : Int) ≤ i ∧ (i : Int) ≤ z.ak.length := by omega
        simp only [↓wR, RA, simprocAttr, TF, ag, h, hc]
        rw [ef]; refine ⟨fun ⟨h1, e1⟩ => ?_, fun ⟨h1, e1⟩ => ?_⟩
        · rw [if_pos e1] at hx
          simp only [↓wR, RA, simprocAttr, TF, ag, h1, iz, ik, g5]
          rw [hx]
        · rw [if_neg (by omega)] at hx
          simp only [↓wR, RA, simprocAttr, TF, ag, h1, hcs, hz, hi2, Me]
          refine dn (fun r st' => r = .fe [] ∧ st' = bn [some (.row [.vl false 1 (z.origin.map (aj.val false)), .vl false 5 (z.ak.map (ah.val false))] 0 2 26), some (.row [.vl false 1 (z.origin.map (aj.val false)), .vl false 5 (z.ak.map (ah.val false)), .sc (.int .i64 (cx ((fun _ s => pv z s) i c) 267 e))] 0 2 156), some (.row [.sc (.bool (gx z))] 0 2 4), some (.row [.vl false 1 (z.origin.map (aj.val false)), .vl false 5 (z.ak.map (ah.val false))] 0 2 26), some (.row [.sc (.int .u16 2)] 0 2 28), some (.row [.vl false 1 (c.owner.map (aj.val false)), .sc (.int .u16 c.type.toNat), .sc (.int .u16 c.cls.toNat), .sc (.int .u32 c.qn.toNat), .vl false 4 (c.data.map (bt.val false))] 0 2 44)]) rfl ?_ ?_
          · refine bm (T := [dz, dc, gi, jn, jr, jm, iu, ln, oo, lh]) ok mixed Tryz.func93 rfl (by kernel_rfl) (by kernel_rfl) (by kernel_rfl) (by kernel_rfl) ?_; unfold Tryz.f93
            simp only [↓wR, RA, simprocAttr, TF, ag, e1]
            rw [cz]; refine ⟨fun hn2 => ?_, fun hn2 => ?_⟩
            · have hb : ((fun _ s => pv z s) i c) = false := by simpa only [Bool.not_eq_true'] using hn2
              have hv : cx ((fun _ s => pv z s) i c) 267 0 = 267 := by unfold cx; rw [if_pos ⟨rfl, hb⟩]
              simp only [↓wR, RA, simprocAttr, TF, ag, hn2, iz, ik, g5]
              try rw [hv]
            · have hb : ((fun _ s => pv z s) i c) = true := by simpa only [Bool.not_eq_false'] using hn2
              have hv : cx ((fun _ s => pv z s) i c) 267 0 = 0 := by unfold cx; rw [if_neg (fun q => by rw [hb] at q; cases q.2)]
              simp only [↓wR, RA, simprocAttr, TF, ag, hn2, iz, ik, g5]
              try rw [hv]
          rintro _ _ ⟨rfl, rfl⟩
          simp only [↓wR, RA, simprocAttr, TF, ag, gm]; repeat (simp (disch := omega) only [ai, cb, cd, b9, ca]; try simp only [↓wR, RA, simprocAttr, TF, ag, gm])
          exact ⟨(i + 1, cx ((fun _ s => pv z s) i c) 267 e), ⟨hlt, hx⟩, by simp; omega, by (first | rfl | trivial | omega | ((try (simp (disch := omega) only [ai])); (try (simp only [FB])); first | done | rfl | omega)), by (first | rfl | trivial | omega | ((try (simp (disch := omega) only [ai])); (try (simp only [FB])); first | done | rfl | omega))⟩
      · rw [fq (decide_eq_false h)] at hx
        simp only [↓wR, RA, simprocAttr, TF, ag, h, iz, ik, g5]
        rw [hx]; rfl
    rintro _ _ ⟨rfl, rfl⟩
    rw [← he0]
    clear he0
    simp only [↓wR, RA, simprocAttr, TF, ag, gm]
    rfl
  · simp only [↓wR, RA, simprocAttr, TF, ag, hs1]
    have hbf : (decide ((gb z).1 = 1) && decide ((gb z).2 = 1)) = false := by rw [decide_eq_false (show ¬ (gb z).1 = 1 by omega), Bool.false_and]
    refine dn (fun r st' => r = .fe [] ∧ st' = bn [some (.row [.vl false 1 (z.origin.map (aj.val false)), .vl false 5 (z.ak.map (ah.val false))] 0 2 26), some (.row [.vl false 1 (z.origin.map (aj.val false)), .vl false 5 (z.ak.map (ah.val false)), .sc (.int .i64 (cx (decide ((gb z).1 = 1) && decide ((gb z).2 = 1)) 263 (rj z)))] 0 2 156)]) rfl ?_ ?_
    · refine bm (T := [dz, dc, gi, jn, jr, jm, iu, ln, oo, lh]) ok mixed Tryz.func93 rfl (by kernel_rfl) (by kernel_rfl) (by kernel_rfl) (by kernel_rfl) ?_; unfold Tryz.f93
      simp only [↓wR, RA, simprocAttr, TF, ag]
      rw [c9]; refine ⟨fun ⟨hn1, en1⟩ => ?_, fun ⟨hn1, en1⟩ => ?_⟩
      · have hv : cx (decide ((gb z).1 = 1) && decide ((gb z).2 = 1)) 263 (rj z) = 263 := by unfold cx; rw [if_pos ⟨en1, hbf⟩]
        simp only [↓wR, RA, simprocAttr, TF, ag, hn1, iz, ik, g5]
        try rw [hv]
      · have hv : cx (decide ((gb z).1 = 1) && decide ((gb z).2 = 1)) 263 (rj z) = rj z := by unfold cx; rw [if_neg (fun q => en1 q.1)]
        simp only [↓wR, RA, simprocAttr, TF, ag, hn1, iz, ik, g5]
        try rw [hv]
    rintro _ _ ⟨rfl, rfl⟩
    rw [show cx (decide ((gb z).1 = 1) && decide ((gb z).2 = 1)) 263 (rj z) = m5 z from rfl]
    simp only [↓wR, RA, simprocAttr, TF, ag, gm]
    refine bm (T := []) (aw.nil PP) mixed Tryz.func15 rfl (by kernel_rfl) (by kernel_rfl) (by kernel_rfl) (by kernel_rfl) ?_; unfold Tryz.f15
    simp only [↓wR, RA, simprocAttr, TF, ag]
    refine ⟨[1, 3, 6, 45], ?_⟩
    have hib : vp PP 30 = some (Tryz.f30.ntmps, Tryz.f30.body.getD .skip) := by kernel_rfl
    simp only [↓wR, RA, simprocAttr, TF, ag, hib]
    refine ⟨by kernel_rfl, fun l => ?_⟩
    unfold Tryz.f30
    simp only [↓wR, RA, simprocAttr, TF, ag]
    refine Eg [0, 2, 7, 8, 9] (fun (x : Nat × Bool) => [.sc (.func (.yield l) #[] #[]), .ptr 4 0, .vl false 5 (z.ak.map (ah.val false)), .sc (.int .i64 (z.ak.length)), .sc (.int .i64 (x.1))]) (fun x => [some (.row [.vl false 1 (z.origin.map (aj.val false)), .vl false 5 (z.ak.map (ah.val false))] 0 2 26), some (.row [.vl false 1 (z.origin.map (aj.val false)), .vl false 5 (z.ak.map (ah.val false)), .sc (.int .i64 (m5 z))] 0 2 156), some (.row [.sc (.bool (x.2))] 0 2 4), some (.row [.vl false 1 (z.origin.map (aj.val false)), .vl false 5 (z.ak.map (ah.val false))] 0 2 26), some (.row [.sc (.int .u16 2)] 0 2 28)]) (fun x => x.1 ≤ z.ak.length ∧ gx z = (x.2 || H5 z (z.ak.drop x.1))) (fun x => z.ak.length - x.1) (0, false) ⟨Nat.zero_le _, by rw [Bool.false_or]; rfl⟩ (by simp only [↓wR, RA, simprocAttr, TF, ag] <;> rfl) (by simp only [↓wR, RA, simprocAttr, TF, ag] <;> rfl) ?_
    rintro ⟨i, b⟩ ⟨hi, hx⟩
    simp only at hi hx
    simp only [↓wR, RA, simprocAttr, TF, ag]
    rw [wz]; refine ⟨fun h => ?_, fun h => ?_⟩
    · obtain ⟨c, hc, hd1, hlt⟩ := ed h
      have hcs := hz.set c (List.mem_of_getElem? hc)
      rw [abh hd1] at hx
      simp only [↓wR, RA, simprocAttr, TF, ag, h, hc]
      rw [wz]; refine ⟨fun h2 => ?_, fun h2 => ?_⟩
      · have e2 : (c.type.toNat : Int) = 2 := by simpa using h2
        rw [decide_eq_true e2, Bool.true_and] at hx
        simp only [↓wR, RA, simprocAttr, TF, ag, h2]
        refine zv [0, 2, 7, 8, 9, 17, 19] ?_
        simp only [↓wR, RA, simprocAttr, TF, ag, y7, n6]
        cases b with
        | true =>
          simp only [↓wR, RA, simprocAttr, TF, ag]; repeat (simp (disch := omega) only [ai, cb, cd, b9, ca]; try simp only [↓wR, RA, simprocAttr, TF, ag])
          exact ⟨(i + 1, true), ⟨hlt, by rw [hx]; rfl⟩, by simp; omega, by (first | rfl | trivial | omega | ((try (simp (disch := omega) only [ai])); (try (simp only [FB])); first | done | rfl | omega)), by (first | rfl | trivial | omega | ((try (simp (disch := omega) only [ai])); (try (simp only [FB])); first | done | rfl | omega))⟩
        | false =>
          simp only [↓wR, RA, simprocAttr, TF, ag, fm, hcs.owner, hz.origin]; repeat (simp (disch := omega) only [ai, cb, cd, b9, ca]; try simp only [↓wR, RA, simprocAttr, TF, ag, fm, hcs.owner, hz.origin])
          exact ⟨(i + 1, dw c.owner z.origin), ⟨hlt, by rw [hx, Bool.false_or]⟩, by simp; omega, by (first | rfl | trivial | omega | ((try (simp (disch := omega) only [ai])); (try (simp only [FB])); first | done | rfl | omega)), by (first | rfl | trivial | omega | ((try (simp (disch := omega) only [ai])); (try (simp only [FB])); first | done | rfl | omega))⟩
      · have e2 : ¬ (c.type.toNat : Int) = 2 := by simpa using h2
        rw [decide_eq_false e2, Bool.false_and, Bool.false_or] at hx
        simp only [↓wR, RA, simprocAttr, TF, ag, h2]; repeat (simp (disch := omega) only [ai, cb, cd, b9, ca]; try simp only [↓wR, RA, simprocAttr, TF, ag, h2])
        exact ⟨(i + 1, b), ⟨hlt, hx⟩, by simp; omega, by (first | rfl | trivial | omega | ((try (simp (disch := omega) only [ai])); (try (simp only [FB])); first | done | rfl | omega)), by (first | rfl | trivial | omega | ((try (simp (disch := omega) only [ai])); (try (simp only [FB])); first | done | rfl | omega))⟩
    rw [fq h] at hx
    have hb : b = gx z := by rw [hx]; simp [H5]
    simp only [↓wR, RA, simprocAttr, TF, ag, h]
    rw [hb]
    clear h hx hb
    refine dn (fun r st' => r = .fe [] ∧ st' = bn [some (.row [.vl false 1 (z.origin.map (aj.val false)), .vl false 5 (z.ak.map (ah.val false))] 0 2 26), some (.row [.vl false 1 (z.origin.map (aj.val false)), .vl false 5 (z.ak.map (ah.val false)), .sc (.int .i64 (cx (gx z) 264 (m5 z)))] 0 2 156), some (.row [.sc (.bool (gx z))] 0 2 4), some (.row [.vl false 1 (z.origin.map (aj.val false)), .vl false 5 (z.ak.map (ah.val false))] 0 2 26), some (.row [.sc (.int .u16 2)] 0 2 28)]) rfl ?_ ?_
    · refine bm (T := [dz, dc, gi, jn, jr, jm, iu, ln, oo, lh]) ok mixed Tryz.func93 rfl (by kernel_rfl) (by kernel_rfl) (by kernel_rfl) (by kernel_rfl) ?_; unfold Tryz.f93
      simp only [↓wR, RA, simprocAttr, TF, ag]
      rw [c9]; refine ⟨fun ⟨hn1, en1⟩ => ?_, fun ⟨hn1, en1⟩ => ?_⟩
      · simp only [↓wR, RA, simprocAttr, TF, ag, hn1]
        rw [cz]; refine ⟨fun hn2 => ?_, fun hn2 => ?_⟩
        · have hb : (gx z) = false := by simpa only [Bool.not_eq_true'] using hn2
          have hv : cx (gx z) 264 (m5 z) = 264 := by unfold cx; rw [if_pos ⟨en1, hb⟩]
          simp only [↓wR, RA, simprocAttr, TF, ag, hn1, hn2, iz, ik, g5]
          try rw [hv]
        · have hb : (gx z) = true := by simpa only [Bool.not_eq_false'] using hn2
          have hv : cx (gx z) 264 (m5 z) = m5 z := by unfold cx; rw [if_neg (fun q => by rw [hb] at q; cases q.2)]
          simp only [↓wR, RA, simprocAttr, TF, ag, hn1, hn2, iz, ik, g5]
          try rw [hv]
      · have hv : cx (gx z) 264 (m5 z) = m5 z := by unfold cx; rw [if_neg (fun q => en1 q.1)]
        simp only [↓wR, RA, simprocAttr, TF, ag, hn1, iz, ik, g5]
        try rw [hv]
    rintro _ _ ⟨rfl, rfl⟩
    rw [show cx (gx z) 264 (m5 z) = D5 z from rfl]
    simp only [↓wR, RA, simprocAttr, TF, ag, gm]
    obtain ⟨e0, he0⟩ : ∃ e0, D5 z = e0 := ⟨_, rfl⟩
    rw [he0]
    refine dn (fun r st' => r = .fe [] ∧ st' = bn [some (.row [.vl false 1 (z.origin.map (aj.val false)), .vl false 5 (z.ak.map (ah.val false))] 0 2 26), some (.row [.vl false 1 (z.origin.map (aj.val false)), .vl false 5 (z.ak.map (ah.val false)), .sc (.int .i64 (fp 265 (jf z) 0 z.ak e0))] 0 2 156), some (.row [.sc (.bool (gx z))] 0 2 4), some (.row [.vl false 1 (z.origin.map (aj.val false)), .vl false 5 (z.ak.map (ah.val false))] 0 2 26), some (.row [.sc (.int .u16 2)] 0 2 28)]) rfl ?_ ?_
    · refine bm (T := [dz, dc, gi, jn, jr, jm, iu, ln, oo, lh]) ok mixed Tryz.func88 rfl (by kernel_rfl) (by kernel_rfl) (by kernel_rfl) (by kernel_rfl) ?_; unfold Tryz.f88
      simp only [↓wR, RA, simprocAttr, TF, ag]
      refine dx [0, 1, 2, 12, 13, 14] (fun (x : Nat × Int) => [.ptr 1 0, .sc (.int .i64 (265)), .fn (.func 94) [.ptr 1 0] [], .vl false 5 (z.ak.map (ah.val false)), .sc (.int .i64 (z.ak.length)), .sc (.int .i64 (x.1))]) (fun x => [some (.row [.vl false 1 (z.origin.map (aj.val false)), .vl false 5 (z.ak.map (ah.val false))] 0 2 26), some (.row [.vl false 1 (z.origin.map (aj.val false)), .vl false 5 (z.ak.map (ah.val false)), .sc (.int .i64 (x.2))] 0 2 156), some (.row [.sc (.bool (gx z))] 0 2 4), some (.row [.vl false 1 (z.origin.map (aj.val false)), .vl false 5 (z.ak.map (ah.val false))] 0 2 26), some (.row [.sc (.int .u16 2)] 0 2 28)]) (fun x => x.1 ≤ z.ak.length ∧ fp 265 (jf z) 0 z.ak e0 = fp 265 (jf z) x.1 (z.ak.drop x.1) x.2) (fun x => z.ak.length - x.1) (0, e0) ⟨Nat.zero_le _, rfl⟩ (by simp only [↓wR, RA, simprocAttr, TF, ag] <;> rfl) (by simp only [↓wR, RA, simprocAttr, TF, ag] <;> rfl) ?_
      rintro ⟨i, e⟩ ⟨hi, hx⟩
      simp only at hi hx
      simp only [↓wR, RA, simprocAttr, TF, ag]
      rw [cp]; refine ⟨fun h => ?_, fun h => ?_⟩
      · obtain ⟨c, hc, hd1, hlt⟩ := ed (decide_eq_true h)
        rw [tr hd1] at hx
        have hcs := hz.set c (List.mem_of_getElem? hc)
        have hi2 : (0 : Int) ≤ i ∧ (i : Int) ≤ z.ak.length := by omega
        simp only [↓wR, RA, simprocAttr, TF, ag, h, hc]
        rw [ef]; refine ⟨fun ⟨h1, e1⟩ => ?_, fun ⟨h1, e1⟩ => ?_⟩
        · rw [if_pos e1] at hx
          simp only [↓wR, RA, simprocAttr, TF, ag, h1, iz, ik, g5]
          rw [hx]
        · rw [if_neg (by omega)] at hx
          simp only [↓wR, RA, simprocAttr, TF, ag, h1, hcs, hz, hi2, Ct]
          refine dn (fun r st' => r = .fe [] ∧ st' = bn [some (.row [.vl false 1 (z.origin.map (aj.val false)), .vl false 5 (z.ak.map (ah.val false))] 0 2 26), some (.row [.vl false 1 (z.origin.map (aj.val false)), .vl false 5 (z.ak.map (ah.val false)), .sc (.int .i64 (cx ((jf z) i c) 265 e))] 0 2 156), some (.row [.sc (.bool (gx z))] 0 2 4), some (.row [.vl false 1 (z.origin.map (aj.val false)), .vl false 5 (z.ak.map (ah.val false))] 0 2 26), some (.row [.sc (.int .u16 2)] 0 2 28), some (.row [.vl false 1 (c.owner.map (aj.val false)), .sc (.int .u16 c.type.toNat), .sc (.int .u16 c.cls.toNat), .sc (.int .u32 c.qn.toNat), .vl false 4 (c.data.map (bt.val false))] 0 2 44)]) rfl ?_ ?_
          · refine bm (T := [dz, dc, gi, jn, jr, jm, iu, ln, oo, lh]) ok mixed Tryz.func93 rfl (by kernel_rfl) (by kernel_rfl) (by kernel_rfl) (by kernel_rfl) ?_; unfold Tryz.f93
            simp only [↓wR, RA, simprocAttr, TF, ag, e1]
            rw [cz]; refine ⟨fun hn2 => ?_, fun hn2 => ?_⟩
            · have hb : ((jf z) i c) = false := by simpa only [Bool.not_eq_true'] using hn2
              have hv : cx ((jf z) i c) 265 0 = 265 := by unfold cx; rw [if_pos ⟨rfl, hb⟩]
              simp only [↓wR, RA, simprocAttr, TF, ag, hn2, iz, ik, g5]
              try rw [hv]
            · have hb : ((jf z) i c) = true := by simpa only [Bool.not_eq_false'] using hn2
              have hv : cx ((jf z) i c) 265 0 = 0 := by unfold cx; rw [if_neg (fun q => by rw [hb] at q; cases q.2)]
              simp only [↓wR, RA, simprocAttr, TF, ag, hn2, iz, ik, g5]
              try rw [hv]
          rintro _ _ ⟨rfl, rfl⟩
          simp only [↓wR, RA, simprocAttr, TF, ag, gm]; repeat (simp (disch := omega) only [ai, cb, cd, b9, ca]; try simp only [↓wR, RA, simprocAttr, TF, ag, gm])
          exact ⟨(i + 1, cx ((jf z) i c) 265 e), ⟨hlt, hx⟩, by simp; omega, by (first | rfl | trivial | omega | ((try (simp (disch := omega) only [ai])); (try (simp only [FB])); first | done | rfl | omega)), by (first | rfl | trivial | omega | ((try (simp (disch := omega) only [ai])); (try (simp only [FB])); first | done | rfl | omega))⟩
      · rw [fq (decide_eq_false h)] at hx
        simp only [↓wR, RA, simprocAttr, TF, ag, h, iz, ik, g5]
        rw [hx]; rfl
    rintro _ _ ⟨rfl, rfl⟩
    rw [← he0]
    clear he0
    simp only [↓wR, RA, simprocAttr, TF, ag, gm]
    rw [show fp 265 (jf z) 0 z.ak (D5 z) = De z from rfl]
    obtain ⟨e0, he0⟩ : ∃ e0, De z = e0 := ⟨_, rfl⟩
    rw [he0]
    refine dn (fun r st' => r = .fe [] ∧ st' = bn [some (.row [.vl false 1 (z.origin.map (aj.val false)), .vl false 5 (z.ak.map (ah.val false))] 0 2 26), some (.row [.vl false 1 (z.origin.map (aj.val false)), .vl false 5 (z.ak.map (ah.val false)), .sc (.int .i64 (fp 266 (fun _ s => lj s) 0 z.ak e0))] 0 2 156), some (.row [.sc (.bool (gx z))] 0 2 4), some (.row [.vl false 1 (z.origin.map (aj.val false)), .vl false 5 (z.ak.map (ah.val false))] 0 2 26), some (.row [.sc (.int .u16 2)] 0 2 28)]) rfl ?_ ?_
    · refine bm (T := [dz, dc, gi, jn, jr, jm, iu, ln, oo, lh]) ok mixed Tryz.func88 rfl (by kernel_rfl) (by kernel_rfl) (by kernel_rfl) (by kernel_rfl) ?_; unfold Tryz.f88
      simp only [↓wR, RA, simprocAttr, TF, ag]
      refine dx [0, 1, 2, 12, 13, 14] (fun (x : Nat × Int) => [.ptr 1 0, .sc (.int .i64 (266)), .sc (.func (.func 95) #[] #[]), .vl false 5 (z.ak.map (ah.val false)), .sc (.int .i64 (z.ak.length)), .sc (.int .i64 (x.1))]) (fun x => [some (.row [.vl false 1 (z.origin.map (aj.val false)), .vl false 5 (z.ak.map (ah.val false))] 0 2 26), some (.row [.vl false 1 (z.origin.map (aj.val false)), .vl false 5 (z.ak.map (ah.val false)), .sc (.int .i64 (x.2))] 0 2 156), some (.row [.sc (.bool (gx z))] 0 2 4), some (.row [.vl false 1 (z.origin.map (aj.val false)), .vl false 5 (z.ak.map (ah.val false))] 0 2 26), some (.row [.sc (.int .u16 2)] 0 2 28)]) (fun x => x.1 ≤ z.ak.length ∧ fp 266 (fun _ s => lj s) 0 z.ak e0 = fp 266 (fun _ s => lj s) x.1 (z.ak.drop x.1) x.2) (fun x => z.ak.length - x.1) (0, e0) ⟨Nat.zero_le _, rfl⟩ (by simp only [↓wR, RA, simprocAttr, TF, ag] <;> rfl) (by simp only [↓wR, RA, simprocAttr, TF, ag] <;> rfl) ?_
      rintro ⟨i, e⟩ ⟨hi, hx⟩
      simp only at hi hx
      simp only [↓wR, RA, simprocAttr, TF, ag]
      rw [cp]; refine ⟨fun h => ?_, fun h => ?_⟩
      · obtain ⟨c, hc, hd1, hlt⟩ := ed (decide_eq_true h)
        rw [tr hd1] at hx
        have hcs := hz.set c (List.mem_of_getElem? hc)
        have hi2 : (0 : Int) ≤ i ∧ (i : Int) ≤ z.ak.length := by omega
        simp only [↓wR, RA, simprocAttr, TF, ag, h, hc]
        rw [ef]; refine ⟨fun ⟨h1, e1⟩ => ?_, fun ⟨h1, e1⟩ => ?_⟩
        · rw [if_pos e1] at hx
          simp only [↓wR, RA, simprocAttr, TF, ag, h1, iz, ik, g5]
          rw [hx]
        · rw [if_neg (by omega)] at hx
          simp only [↓wR, RA, simprocAttr, TF, ag, h1, hcs, hz, hi2, Gb]
          refine dn (fun r st' => r = .fe [] ∧ st' = bn [some (.row [.vl false 1 (z.origin.map (aj.val false)), .vl false 5 (z.ak.map (ah.val false))] 0 2 26), some (.row [.vl false 1 (z.origin.map (aj.val false)), .vl false 5 (z.ak.map (ah.val false)), .sc (.int .i64 (cx ((fun _ s => lj s) i c) 266 e))] 0 2 156), some (.row [.sc (.bool (gx z))] 0 2 4), some (.row [.vl false 1 (z.origin.map (aj.val false)), .vl false 5 (z.ak.map (ah.val false))] 0 2 26), some (.row [.sc (.int .u16 2)] 0 2 28), some (.row [.vl false 1 (c.owner.map (aj.val false)), .sc (.int .u16 c.type.toNat), .sc (.int .u16 c.cls.toNat), .sc (.int .u32 c.qn.toNat), .vl false 4 (c.data.map (bt.val false))] 0 2 44)]) rfl ?_ ?_
          · refine bm (T := [dz, dc, gi, jn, jr, jm, iu, ln, oo, lh]) ok mixed Tryz.func93 rfl (by kernel_rfl) (by kernel_rfl) (by kernel_rfl) (by kernel_rfl) ?_; unfold Tryz.f93
            simp only [↓wR, RA, simprocAttr, TF, ag, e1]
            rw [cz]; refine ⟨fun hn2 => ?_, fun hn2 => ?_⟩
            · have hb : ((fun _ s => lj s) i c) = false := by simpa only [Bool.not_eq_true'] using hn2
              have hv : cx ((fun _ s => lj s) i c) 266 0 = 266 := by unfold cx; rw [if_pos ⟨rfl, hb⟩]
              simp only [↓wR, RA, simprocAttr, TF, ag, hn2, iz, ik, g5]
              try rw [hv]
            · have hb : ((fun _ s => lj s) i c) = true := by simpa only [Bool.not_eq_false'] using hn2
              have hv : cx ((fun _ s => lj s) i c) 266 0 = 0 := by unfold cx; rw [if_neg (fun q => by rw [hb] at q; cases q.2)]
              simp only [↓wR, RA, simprocAttr, TF, ag, hn2, iz, ik, g5]
              try rw [hv]
          rintro _ _ ⟨rfl, rfl⟩
          simp only [↓wR, RA, simprocAttr, TF, ag, gm]; repeat (simp (disch := omega) only [ai, cb, cd, b9, ca]; try simp only [↓wR, RA, simprocAttr, TF, ag, gm])
          exact ⟨(i + 1, cx ((fun _ s => lj s) i c) 266 e), ⟨hlt, hx⟩, by simp; omega, by (first | rfl | trivial | omega | ((try (simp (disch := omega) only [ai])); (try (simp only [FB])); first | done | rfl | omega)), by (first | rfl | trivial | omega | ((try (simp (disch := omega) only [ai])); (try (simp only [FB])); first | done | rfl | omega))⟩
      · rw [fq (decide_eq_false h)] at hx
        simp only [↓wR, RA, simprocAttr, TF, ag, h, iz, ik, g5]
        rw [hx]; rfl
    rintro _ _ ⟨rfl, rfl⟩
    rw [← he0]
    clear he0
    simp only [↓wR, RA, simprocAttr, TF, ag, gm]
    rw [show fp 266 (fun _ s => lj s) 0 z.ak (De z) = Lj z from rfl]
    obtain ⟨e0, he0⟩ : ∃ e0, Lj z = e0 := ⟨_, rfl⟩
    rw [he0]
    refine dn (fun r st' => r = .fe [] ∧ st' = bn [some (.row [.vl false 1 (z.origin.map (aj.val false)), .vl false 5 (z.ak.map (ah.val false))] 0 2 26), some (.row [.vl false 1 (z.origin.map (aj.val false)), .vl false 5 (z.ak.map (ah.val false)), .sc (.int .i64 (fp 267 (fun _ s => pv z s) 0 z.ak e0))] 0 2 156), some (.row [.sc (.bool (gx z))] 0 2 4), some (.row [.vl false 1 (z.origin.map (aj.val false)), .vl false 5 (z.ak.map (ah.val false))] 0 2 26), some (.row [.sc (.int .u16 2)] 0 2 28)]) rfl ?_ ?_
    · refine bm (T := [dz, dc, gi, jn, jr, jm, iu, ln, oo, lh]) ok mixed Tryz.func88 rfl (by kernel_rfl) (by kernel_rfl) (by kernel_rfl) (by kernel_rfl) ?_; unfold Tryz.f88
      simp only [↓wR, RA, simprocAttr, TF, ag]
      refine dx [0, 1, 2, 12, 13, 14] (fun (x : Nat × Int) => [.ptr 1 0, .sc (.int .i64 (267)), .fn (.func 96) [] [.ptr 0 0], .vl false 5 (z.ak.map (ah.val false)), .sc (.int .i64 (z.ak.length)), .sc (.int .i64 (x.1))]) (fun x => [some (.row [.vl false 1 (z.origin.map (aj.val false)), .vl false 5 (z.ak.map (ah.val false))] 0 2 26), some (.row [.vl false 1 (z.origin.map (aj.val false)), .vl false 5 (z.ak.map (ah.val false)), .sc (.int .i64 (x.2))] 0 2 156), some (.row [.sc (.bool (gx z))] 0 2 4), some (.row [.vl false 1 (z.origin.map (aj.val false)), .vl false 5 (z.ak.map (ah.val false))] 0 2 26), some (.row [.sc (.int .u16 2)] 0 2 28)]) (fun x => x.1 ≤ z.ak.length ∧ fp 267 (fun _ s => pv z s) 0 z.ak e0 = fp 267 (fun _ s => pv z s) x.1 (z.ak.drop x.1) x.2) (fun x => z.ak.length - x.1) (0, e0) ⟨Nat.zero_le _, rfl⟩ (by simp only [↓wR, RA, simprocAttr, TF, ag] <;> rfl) (by simp only [↓wR, RA, simprocAttr, TF, ag] <;> rfl) ?_
      rintro ⟨i, e⟩ ⟨hi, hx⟩
      simp only at hi hx
      simp only [↓wR, RA, simprocAttr, TF, ag]
      rw [cp]; refine ⟨fun h => ?_, fun h => ?_⟩
      · obtain ⟨c, hc, hd1, hlt⟩ := ed (decide_eq_true h)
        rw [tr hd1] at hx
        have hcs := hz.set c (List.mem_of_getElem? hc)
        have hi2 : (0 : Int) ≤ i ∧ (i : Int) ≤ z.ak.length := by omega
        simp only [↓wR, RA, simprocAttr, TF, ag, h, hc]
        rw [ef]; refine ⟨fun ⟨h1, e1⟩ => ?_, fun ⟨h1, e1⟩ => ?_⟩
        · rw [if_pos e1] at hx
          simp only [↓wR, RA, simprocAttr, TF, ag, h1, iz, ik, g5]
          rw [hx]
        · rw [if_neg (by omega)] at hx
          simp only [↓wR, RA, simprocAttr, TF, ag, h1, hcs, hz, hi2, Me]
          refine dn (fun r st' => r = .fe [] ∧ st' = bn [some (.row [.vl false 1 (z.origin.map (aj.val false)), .vl false 5 (z.ak.map (ah.val false))] 0 2 26), some (.row [.vl false 1 (z.origin.map (aj.val false)), .vl false 5 (z.ak.map (ah.val false)), .sc (.int .i64 (cx ((fun _ s => pv z s) i c) 267 e))] 0 2 156), some (.row [.sc (.bool (gx z))] 0 2 4), some (.row [.vl false 1 (z.origin.map (aj.val false)), .vl false 5 (z.ak.map (ah.val false))] 0 2 26), some (.row [.sc (.int .u16 2)] 0 2 28), some (.row [.vl false 1 (c.owner.map (aj.val false)), .sc (.int .u16 c.type.toNat), .sc (.int .u16 c.cls.toNat), .sc (.int .u32 c.qn.toNat), .vl false 4 (c.data.map (bt.val false))] 0 2 44)]) rfl ?_ ?_
          · refine bm (T := [dz, dc, gi, jn, jr, jm, iu, ln, oo, lh]) ok mixed Tryz.func93 rfl (by kernel_rfl) (by kernel_rfl) (by kernel_rfl) (by kernel_rfl) ?_; unfold Tryz.f93
            simp only [↓wR, RA, simprocAttr, TF, ag, e1]
            rw [cz]; refine ⟨fun hn2 => ?_, fun hn2 => ?_⟩
            · have hb : ((fun _ s => pv z s) i c) = false := by simpa only [Bool.not_eq_true'] using hn2
              have hv : cx ((fun _ s => pv z s) i c) 267 0 = 267 := by unfold cx; rw [if_pos ⟨rfl, hb⟩]
              simp only [↓wR, RA, simprocAttr, TF, ag, hn2, iz, ik, g5]
              try rw [hv]
            · have hb : ((fun _ s => pv z s) i c) = true := by simpa only [Bool.not_eq_false'] using hn2
              have hv : cx ((fun _ s => pv z s) i c) 267 0 = 0 := by unfold cx; rw [if_neg (fun q => by rw [hb] at q; cases q.2)]
              simp only [↓wR, RA, simprocAttr, TF, ag, hn2, iz, ik, g5]
              try rw [hv]
          rintro _ _ ⟨rfl, rfl⟩
          simp only [↓wR, RA, simprocAttr, TF, ag, gm]; repeat (simp (disch := omega) only [ai, cb, cd, b9, ca]; try simp only [↓wR, RA, simprocAttr, TF, ag, gm])
          exact ⟨(i + 1, cx ((fun _ s => pv z s) i c) 267 e), ⟨hlt, hx⟩, by simp; omega, by (first | rfl | trivial | omega | ((try (simp (disch := omega) only [ai])); (try (simp only [FB])); first | done | rfl | omega)), by (first | rfl | trivial | omega | ((try (simp (disch := omega) only [ai])); (try (simp only [FB])); first | done | rfl | omega))⟩
      · rw [fq (decide_eq_false h)] at hx
        simp only [↓wR, RA, simprocAttr, TF, ag, h, iz, ik, g5]
        rw [hx]; rfl
    rintro _ _ ⟨rfl, rfl⟩
    rw [← he0]
    clear he0
    simp only [↓wR, RA, simprocAttr, TF, ag, gm]
    rfl
noncomputable def Gs (x : bf × Unit) : Option AV := if cg x.1 then some ((r1 (be .i64)).E true (ic x.1)) else none
set_option maxRecDepth 2000000 in
theorem aeh (x : bf × Unit) (r : AV) (h : Gs x = some r) : bh PP 56 ((aC cj a0).E x) r := by
  by_cases hc : cg x.1
  case neg => simp only [Gs, if_neg hc] at h; cases h
  simp only [Gs, if_pos hc] at h
  cases h
  exact bg (aw.cons (aq qh) (aw.cons (aq eb) (aw.cons (aq Is) (aw.cons (aq Of) (aw.cons (aq Nr) (aw.cons (aq Ni) (aw.cons (aq Kb) (aw.cons (aq Qh) (aw.cons (aq Vo) (aw.cons (aq Sx) (aw.nil PP))))))))))) Tryz.func56 (by kernel_rfl) (by kernel_rfl) (by kernel_rfl) (Nat.le_of_ble_eq_true (by kernel_rfl)) (r1 (be .i64)) true (ic x.1) (acp x.1 hc)
noncomputable abbrev au4 : Nat × Bool × (List AV → M AV) := (56, true, dj (aC cj a0) Gs)
end Go.Proofs.YtcbdpmfipecmgaaGreat
end
section
set_option linter.unusedSimpArgs false
set_option linter.unusedVariables false
namespace Go.Proofs.YtcbdpmfipecmgaaGreat
open Go.Vm
set_option maxRecDepth 2000000
def adq (l : List bd) : Bool := l.all fun s => !decide ((20 : Int) < s.data.length)
def Ox (z : bf) : Bool := adq z.ak && decide ((z.ak.length : Int) ≤ 40)
theorem at2 (z : bf) (hz : cg z) : wl PP [] 0 (Tryz.f5.body.getD .skip) (du PP Tryz.f5.results.toList (fun r st => (r1 bq).get true st.h r = some (Ox z))) (cy 0 [cj.val false z]) (bn []) := by
  have hl := hz.len
  unfold Tryz.f5
  simp only [iy]
  simp only [↓wR, RA, simprocAttr, TF, ag]
  refine dx [1, 3] (fun (i : Nat) => [.ptr 0 0, .sc (.int .i64 (i))]) (fun _ => [some (.row [.vl false 1 (z.origin.map (aj.val false)), .vl false 5 (z.ak.map (ah.val false))] 0 2 26)]) (fun i => i ≤ z.ak.length ∧ adq z.ak = adq (z.ak.drop i)) (fun i => z.ak.length - i) 0 ⟨Nat.zero_le _, rfl⟩ (by simp only [↓wR, RA, simprocAttr, TF, ag] <;> rfl) (by simp only [↓wR, RA, simprocAttr, TF, ag] <;> rfl) ?_
  rintro i ⟨hi, hx⟩
  simp only [↓wR, RA, simprocAttr, TF, ag]
  rw [cp]; refine ⟨fun h => ?_, fun h => ?_⟩
  · obtain ⟨c, hc, hd1, hlt⟩ := ed (decide_eq_true h)
    have hx' : adq z.ak = (!decide ((20 : Int) < c.data.length) && adq (z.ak.drop (i + 1))) := by rw [hx, hd1]; rfl
    simp only [↓wR, RA, simprocAttr, TF, ag, h, hc]; repeat (simp (disch := omega) only [ai, cb, cd, b9, ca]; try simp only [↓wR, RA, simprocAttr, TF, ag, h, hc])
    rw [cp]; refine ⟨fun h2 => ?_, fun h2 => ?_⟩
    · rw [decide_eq_true h2, Bool.not_true, Bool.false_and] at hx'
      simp only [↓wR, RA, simprocAttr, TF, ag, h2]; repeat (simp (disch := omega) only [ai, cb, cd, b9, ca]; try simp only [↓wR, RA, simprocAttr, TF, ag, h2])
      rw [Ox, hx']; rfl
    · rw [decide_eq_false h2, Bool.not_false, Bool.true_and] at hx'
      simp only [↓wR, RA, simprocAttr, TF, ag, h2]; repeat (simp (disch := omega) only [ai, cb, cd, b9, ca]; try simp only [↓wR, RA, simprocAttr, TF, ag, h2])
      exact ⟨i + 1, ⟨hlt, hx'⟩, by omega, by (first | rfl | trivial | omega | ((try (simp (disch := omega) only [ai])); (try (simp only [FB])); first | done | rfl | omega))⟩
  · rw [fq (decide_eq_false h)] at hx
    simp only [↓wR, RA, simprocAttr, TF, ag, h]
    rw [Ox, hx]; rfl
noncomputable def P5 (x : bf × Unit) : Option AV := if cg x.1 then some ((r1 bq).E true (Ox x.1)) else none
set_option maxRecDepth 2000000 in
theorem akh (x : bf × Unit) (r : AV) (h : P5 x = some r) : bh PP 5 ((aC cj a0).E x) r := by
  by_cases hc : cg x.1
  case neg => simp only [P5, if_neg hc] at h; cases h
  simp only [P5, if_pos hc] at h
  cases h
  exact bg (aw.nil PP) Tryz.func5 (by kernel_rfl) (by kernel_rfl) (by kernel_rfl) (Nat.le_of_ble_eq_true (by kernel_rfl)) (r1 bq) true (Ox x.1) (at2 x.1 hc)
noncomputable abbrev ass : Nat × Bool × (List AV → M AV) := (5, true, dj (aC cj a0) P5)
end Go.Proofs.YtcbdpmfipecmgaaGreat
end
section
set_option linter.unusedSimpArgs false
set_option linter.unusedVariables false
namespace Go.Proofs.YtcbdpmfipecmgaaGreat
open Go.Vm
set_option maxRecDepth 2000000
noncomputable def gk (z : bf) (n : Name) : Int := if ic z ≠ 0 then ic z else if dv n ≠ 0 then dv n else if di n z.origin = false then 2 else 0
theorem aoo (z : bf) (n : Name) (hz : cg z) (hn : bb n) : wl PP [au4, dz, rq] 0 (Tryz.f35.body.getD .skip) (du PP Tryz.f35.results.toList (fun r st => (r1 (be .i64)).get true st.h r = some (gk z n))) (cy 0 [cj.val false z, ar.val false n]) (bn []) := by
  unfold Tryz.f35
  simp only [iy, da]
  simp only [↓wR, RA, simprocAttr, TF, ag, Gs, hz]
  unfold gk
  rw [cz]; refine ⟨fun h => ?_, fun h => ?_⟩
  · have he : ic z ≠ 0 := by simpa using h
    rw [if_pos he]
    simp only [↓wR, RA, simprocAttr, TF, ag, h]
  have he : ic z = 0 := by simpa using h
  rw [if_neg (by omega)]
  simp only [↓wR, RA, simprocAttr, TF, ag, h, pr, hn.fit]
  rw [cz]; refine ⟨fun h2 => ?_, fun h2 => ?_⟩
  · have he : dv n ≠ 0 := by simpa using h2
    rw [if_pos he]
    simp only [↓wR, RA, simprocAttr, TF, ag, h2]
  have he2 : dv n = 0 := by simpa using h2
  rw [if_neg (by omega)]
  simp only [↓wR, RA, simprocAttr, TF, ag, h2, jg, hn, hz.origin]
  rw [cz]; refine ⟨fun h3 => ?_, fun h3 => ?_⟩
  · have h3' : di n z.origin = false := by simpa only [Bool.not_eq_true'] using h3
    rw [if_pos h3']
    simp only [↓wR, RA, simprocAttr, TF, ag, h3]
  · have h3' : di n z.origin = true := by simpa only [Bool.not_eq_false'] using h3
    rw [if_neg (by rw [h3']; decide)]
    simp only [↓wR, RA, simprocAttr, TF, ag, h3]
noncomputable def Gz (x : bf × Name × Unit) : Option AV := if cg x.1 ∧ bb x.2.1 then some ((r1 (be .i64)).E true (gk x.1 x.2.1)) else none
set_option maxRecDepth 2000000 in
theorem adz (x : bf × Name × Unit) (r : AV) (h : Gz x = some r) : bh PP 35 ((aC cj (aC ar a0)).E x) r := by
  by_cases hc : cg x.1 ∧ bb x.2.1
  case neg => simp only [Gz, if_neg hc] at h; cases h
  simp only [Gz, if_pos hc] at h
  cases h
  exact bg (aw.cons (aq aeh) (aw.cons (aq qh) (aw.cons (aq mh) (aw.nil PP)))) Tryz.func35 (by kernel_rfl) (by kernel_rfl) (by kernel_rfl) (Nat.le_of_ble_eq_true (by kernel_rfl)) (r1 (be .i64)) true (gk x.1 x.2.1) (aoo x.1 x.2.1 hc.1 hc.2)
noncomputable abbrev as1 : Nat × Bool × (List AV → M AV) := (35, true, dj (aC cj (aC ar a0)) Gz)
def dk (z : bf) : Name → Name
  | [] => []
  | a :: r => if qp z (a :: r) = true then a :: r else dk z r
theorem Hd {z : bf} {m : Name} (hu : di m z.origin = true) (hh : qp z m = false) : ∃ a r, m = a :: r ∧ di r z.origin = true ∧ dk z m = dk z r := by
  have hs : dw m z.origin = false := by
    unfold qp at hh
    rw [hu, Bool.true_and] at hh
    cases h : dw m z.origin with
    | false => rfl
    | true => rw [h] at hh; cases hh
  have hu' : gy z.origin <:+ gy m := by simpa [di] using hu
  have hs' : gy m ≠ gy z.origin := by simpa [dw] using hs
  cases m with
  | nil => exact (hs' (List.suffix_nil.1 (by simpa only [gy, List.map_nil] using hu')).symm).elim
  | cons a r =>
    refine ⟨a, r, rfl, ?_, by rw [dk, if_neg (by rw [hh]; decide)]⟩
    have h2 : gy z.origin <:+ fold a :: gy r := hu'
    rcases List.suffix_cons_iff.1 h2 with h3 | h3
    · exact (hs' h3.symm).elim
    · simpa [di] using h3
theorem Bc {z : bf} {m : Name} (hh : qp z m = true) : dk z m = m := by
  cases m with
  | nil => rfl
  | cons a r => rw [dk, if_pos hh]
theorem ajo (z : bf) (n : Name) (hz : cg z) (hn : bb n) (hu : di n z.origin = true) : wl PP [au6, se] 0 (Tryz.f36.body.getD .skip) (du PP Tryz.f36.results.toList (fun r st => (r1 ar).get true st.h r = some (dk z n))) (cy 0 [cj.val false z, ar.val false n]) (bn []) := by
  unfold Tryz.f36
  simp only [iy, da]
  simp only [↓wR, RA, simprocAttr, TF, ag]
  refine dx [1, 2] (fun (m : Name) => [.vl false 1 (m.map (aj.val false)), .ptr 0 0]) (fun _ => [some (.row [.vl false 1 (z.origin.map (aj.val false)), .vl false 5 (z.ak.map (ah.val false))] 0 2 26)]) (fun m => bb m ∧ di m z.origin = true ∧ dk z n = dk z m) (fun m => m.length) n ⟨hn, hu, rfl⟩ (by simp only [↓wR, RA, simprocAttr, TF, ag] <;> rfl) (by simp only [↓wR, RA, simprocAttr, TF, ag] <;> rfl) ?_
  rintro m ⟨hm, hmu, hx⟩
  simp only [↓wR, RA, simprocAttr, TF, ag, Mk, hz, hm]
  rw [cz]; refine ⟨fun h => ?_, fun h => ?_⟩
  · simp only [↓wR, RA, simprocAttr, TF, ag, h, mq, hm]
    rw [hx, Bc h]
  · obtain ⟨a, r, rfl, hru, hcr⟩ := Hd hmu h
    have hr : bb r := hm.drop 1
    rw [hcr] at hx
    simp only [↓wR, RA, simprocAttr, TF, ag, h]
    exact ⟨r, ⟨hr, hru, hx⟩, by simp, rfl⟩
noncomputable def Bx (x : bf × Name × Unit) : Option AV := if (cg x.1 ∧ bb x.2.1) ∧ di x.2.1 x.1.origin = true then some ((r1 ar).E true (dk x.1 x.2.1)) else none
set_option maxRecDepth 2000000 in
theorem Xo (x : bf × Name × Unit) (r : AV) (h : Bx x = some r) : bh PP 36 ((aC cj (aC ar a0)).E x) r := by
  by_cases hc : (cg x.1 ∧ bb x.2.1) ∧ di x.2.1 x.1.origin = true
  case neg => simp only [Bx, if_neg hc] at h; cases h
  simp only [Bx, if_pos hc] at h
  cases h
  exact bg (aw.cons (aq W3) (aw.cons (aq nn) (aw.nil PP))) Tryz.func36 (by kernel_rfl) (by kernel_rfl) (by kernel_rfl) (Nat.le_of_ble_eq_true (by kernel_rfl)) (r1 ar) true (dk x.1 x.2.1) (ajo x.1 x.2.1 hc.1.1 hc.1.2 hc.2)
noncomputable abbrev anv : Nat × Bool × (List AV → M AV) := (36, true, dj (aC cj (aC ar a0)) Bx)
theorem Ax (z : bf) (n : Name) : ∃ k, dk z n = n.drop k := by
  induction n with
  | nil => exact ⟨0, rfl⟩
  | cons a r ih =>
    unfold dk
    split
    · exact ⟨0, rfl⟩
    · obtain ⟨k, hk⟩ := ih; exact ⟨k + 1, by rw [hk]; rfl⟩
theorem Xk {z : bf} {n : Name} (hn : bb n) : bb (dk z n) := by
  obtain ⟨k, hk⟩ := Ax z n
  rw [hk]; exact hn.drop k
theorem aob (n : Name) (hn : bb n) : wl PP [] 0 (Tryz.f39.body.getD .skip) (du PP Tryz.f39.results.toList (fun r st => (r1 ar).get true st.h r = some (ti :: n))) (cy 0 [ar.val false n]) (bn []) := by
  have hl := hn.lt
  have hlim : (n.length + 1) * 16 ≤ 140737488355328 := by omega
  unfold Tryz.f39
  simp only [da]
  simp only [↓wR, RA, simprocAttr, TF, ag, hlim, Nat.add_comm 1 n.length]
  rfl
noncomputable def F7 (x : Name × Unit) : Option AV := if bb x.1 then some ((r1 ar).E true (ti :: x.1)) else none
set_option maxRecDepth 2000000 in
theorem ahm (x : Name × Unit) (r : AV) (h : F7 x = some r) : bh PP 39 ((aC ar a0).E x) r := by
  by_cases hc : bb x.1
  case neg => simp only [F7, if_neg hc] at h; cases h
  simp only [F7, if_pos hc] at h
  cases h
  exact bg (aw.nil PP) Tryz.func39 (by kernel_rfl) (by kernel_rfl) (by kernel_rfl) (Nat.le_of_ble_eq_true (by kernel_rfl)) (r1 ar) true (ti :: x.1) (aob x.1 hc)
noncomputable abbrev avg : Nat × Bool × (List AV → M AV) := (39, true, dj (aC ar a0) F7)
theorem Xs (n : Name) (k : Nat) : bk (n.drop k) ≤ bk n := by
  have := ll (n.take k) (n.drop k)
  rw [List.take_append_drop] at this
  have h1 := (qe (n.take k) 0).2
  omega
theorem Sb {z : bf} {n : Name} (h : dv n = 0) : bb (ti :: dk z n) := by
  obtain ⟨k, hk⟩ := Ax z n
  have h1 := Xs n k
  have h2 := qz h
  have h3 := ll [ti] (dk z n)
  have h4 : bk [ti] = 3 := rfl
  rw [hk] at h3 ⊢
  simp only [List.singleton_append] at h3
  unfold bb
  omega
theorem uc {z : bf} {n : Name} (h : gk z n = 0) : ic z = 0 ∧ dv n = 0 ∧ di n z.origin = true := by
  unfold gk at h
  split at h
  · contradiction
  split at h
  · contradiction
  split at h
  · cases h
  · rename_i h1 h2 h3
    exact ⟨by omega, by omega, by simpa using h3⟩
noncomputable def gq (z : bf) (n : Name) : A2 × Int :=
  if gk z n ≠ 0 then (ur 0 [] [], gk z n)
  else match j7 z n with
    | some c => (ur 4 c [], 0)
    | none =>
      if 0 < (kc z n).length then (ur 1 n (dk z n), 0)
      else if (dk z n).length = n.length then (ur 2 [] (dk z n), 0)
      else if qp z (ti :: dk z n) = true then (ur 3 (ti :: dk z n) (dk z n), 0)
      else (ur 0 [] (dk z n), 0)
theorem aru (z : bf) (n : Name) (hz : cg z) (hn : bb n) : wl PP [as1, ajn, anv, zAt, se, avg, au6] 0 (Tryz.f25.body.getD .skip) (du PP Tryz.f25.results.toList (fun r st => (r2 re (be .i64)).get true st.h r = some (gq z n))) (cy 0 [cj.val false z, ar.val false n]) (bn []) := by
  unfold Tryz.f25
  simp only [iy, da]
  simp only [↓wR, RA, simprocAttr, TF, ag, Gz, hz, hn]
  unfold gq
  rw [cz]; refine ⟨fun h => ?_, fun h => ?_⟩
  · have he : gk z n ≠ 0 := by simpa using h
    rw [if_pos he]
    simp only [↓wR, RA, simprocAttr, TF, ag, h]
  have he : gk z n = 0 := by simpa using h
  obtain ⟨a1, a2, a3⟩ := uc he
  rw [if_neg (by omega)]
  have hcs := Xk (z := z) hn
  have hst := Sb (z := z) a2
  cases hc : j7 z n with
  | some c =>
    simp only [↓wR, RA, simprocAttr, TF, ag, h, ze, hz, hn, hc]
  | none =>
    simp only [↓wR, RA, simprocAttr, TF, ag, h, ze, hz, hn, hc, Option.isSome_none, Bx, a3, adv]
    rw [cp]; refine ⟨fun h1 => ?_, fun h1 => ?_⟩
    · rw [if_pos (by omega)]
      simp only [↓wR, RA, simprocAttr, TF, ag, h1, mq, hn]
    rw [if_neg (by omega)]
    simp only [↓wR, RA, simprocAttr, TF, ag, h1]
    rw [c9]; refine ⟨fun ⟨h2, e2⟩ => ?_, fun ⟨h2, e2⟩ => ?_⟩
    · rw [if_pos (by omega)]
      simp only [↓wR, RA, simprocAttr, TF, ag, h2]
    rw [if_neg (by omega)]
    simp only [↓wR, RA, simprocAttr, TF, ag, h2]
    refine ⟨by kernel_rfl, .inl ?_⟩
    simp only [↓wR, RA, simprocAttr, TF, ag, F7, hcs, Mk, hz, hst]
    refine ⟨by kernel_rfl, ?_⟩
    rw [cz]; refine ⟨fun h3 => ?_, fun h3 => ?_⟩
    · rw [if_pos h3]
      simp only [↓wR, RA, simprocAttr, TF, ag, h3, F7, hcs]
    · rw [if_neg (by rw [h3]; decide)]
      simp only [↓wR, RA, simprocAttr, TF, ag, h3]
noncomputable def m6 (x : bf × Name × Unit) : Option AV := if cg x.1 ∧ bb x.2.1 then some ((r2 re (be .i64)).E true (gq x.1 x.2.1)) else none
set_option maxRecDepth 2000000 in
theorem H9 (x : bf × Name × Unit) (r : AV) (h : m6 x = some r) : bh PP 25 ((aC cj (aC ar a0)).E x) r := by
  by_cases hc : cg x.1 ∧ bb x.2.1
  case neg => simp only [m6, if_neg hc] at h; cases h
  simp only [m6, if_pos hc] at h
  cases h
  exact bg (aw.cons (aq adz) (aw.cons (aq J4) (aw.cons (aq Xo) (aw.cons (aq aoh) (aw.cons (aq nn) (aw.cons (aq ahm) (aw.cons (aq W3) (aw.nil PP)))))))) Tryz.func25 (by kernel_rfl) (by kernel_rfl) (by kernel_rfl) (Nat.le_of_ble_eq_true (by kernel_rfl)) (r2 re (be .i64)) true (gq x.1 x.2.1) (aru x.1 x.2.1 hc.1 hc.2)
noncomputable abbrev Yj : Nat × Bool × (List AV → M AV) := (25, true, dj (aC cj (aC ar a0)) m6)
end Go.Proofs.YtcbdpmfipecmgaaGreat
end
section
namespace Go.Proofs.YtcbdpmfipecmgaaGreat
open Go.Vm
theorem w5 {err : Int} (he : err ≠ 0) (p : Nat → bd → Bool) : ∀ (l : List bd) (i : Nat) (e : Int), fp err p i l e = 0 → e = 0 ∧ ∀ k s, l[k]? = some s → p (i + k) s = true := by
  intro l
  induction l with
  | nil => intro i e h; exact ⟨h, fun k s hs => by simp at hs⟩
  | cons a l ih =>
    intro i e h
    rw [fp] at h
    split at h
    · contradiction
    · rename_i h0
      have h0 : e = 0 := by omega
      obtain ⟨h1, h2⟩ := ih (i + 1) _ h
      refine ⟨h0, fun k s hs => ?_⟩
      cases k with
      | zero =>
        simp at hs
        subst hs
        cases hp : p i a with
        | true => simp [hp]
        | false => rw [cx, if_pos ⟨h0, hp⟩] at h1; exact (he h1).elim
      | succ k =>
        have := h2 k s (by simpa using hs)
        rwa [show i + 1 + k = i + (k + 1) from by omega] at this
theorem S5 {b : Bool} {err e : Int} (he : err ≠ 0) (h : cx b err e = 0) : e = 0 ∧ b = true := by
  unfold cx at h
  split at h
  · exact (he h).elim
  · rename_i hn
    refine ⟨h, ?_⟩
    cases b with
    | true => rfl
    | false => exact (hn ⟨h, rfl⟩).elim
structure aqs (z : bf) : Prop where
  first : ux z = 0
  axz : ∀ k s, z.ak[k]? = some s → ld z k s = true
  cls : ∀ s ∈ z.ak, nr s = true
  inside : ∀ s ∈ z.ak, di s.owner z.origin = true
  aw9 : (gb z).1 = 1 ∧ (gb z).2 = 1
  ax0 : gx z = true
  alone : ∀ k s, z.ak[k]? = some s → jf z k s = true
  star : ∀ s ∈ z.ak, lj s = true
  occ : ∀ s ∈ z.ak, pv z s = true
theorem Mn {z : bf} (h : ic z = 0) : aqs z := by
  unfold ic at h
  split at h
  · contradiction
  rename_i h0
  obtain ⟨h7, p8⟩ := w5 (by decide) _ _ _ _ h
  obtain ⟨h6, p7⟩ := w5 (by decide) _ _ _ _ h7
  obtain ⟨h5, p6⟩ := w5 (by decide) _ _ _ _ h6
  obtain ⟨h4, p5⟩ := S5 (by decide) h5
  obtain ⟨h3, p4⟩ := S5 (by decide) h4
  obtain ⟨h2, p3⟩ := w5 (by decide) _ _ _ _ h3
  obtain ⟨h1, p2⟩ := w5 (by decide) _ _ _ _ h2
  obtain ⟨_, p1⟩ := w5 (by decide) _ _ _ _ h1
  have mem : ∀ (p : bd → Bool), (∀ k s, z.ak[k]? = some s → p s = true) → ∀ s ∈ z.ak, p s = true := fun p hp s hs => by
    obtain ⟨k, hk, rfl⟩ := List.getElem_of_mem hs
    exact hp k _ (List.getElem?_eq_getElem hk)
  simp only [Bool.and_eq_true, decide_eq_true_eq] at p4
  exact ⟨by omega, fun k s hs => by simpa using p1 k s hs, mem _ p2, mem _ p3, p4, p5, fun k s hs => by simpa using p6 k s hs, mem _ p7, mem _ p8⟩
theorem Bg {a b : Name} : dw a b = true ↔ gy a = gy b := by simp [dw]
theorem wo {a b : Name} : di a b = true ↔ gy b <:+ gy a := by simp [di]
theorem ajs {a b : Name} (h : dw a b = true) : di a b = true := wo.2 (by rw [Bg.1 h]; exact List.suffix_refl _)
theorem ae2 {a b c : Name} (h1 : di a b = true) (h2 : di b c = true) : di a c = true := wo.2 ((wo.1 h2).trans (wo.1 h1))
theorem akd {a b : Name} (h : dw a b = true) : dw b a = true := Bg.2 (Bg.1 h).symm
theorem M7 {a a' b : Name} (h : dw a a' = true) : di a b = di a' b := by simp only [di, Bg.1 h]
theorem Vx {z : bf} {n m : Name} (h : dw n m = true) : j7 z n = j7 z m := by
  have : je z n = je z m := by funext b s; simp only [je, M7 h]
  unfold j7; rw [this]
end Go.Proofs.YtcbdpmfipecmgaaGreat
end
section
namespace Go.Proofs.YtcbdpmfipecmgaaGreat
open Go.Vm
theorem U8 (a : Name) : dw a a = true := Bg.2 rfl
theorem Rc (a : Name) : di a a = true := wo.2 (List.suffix_refl _)
theorem ahs (a : ByteArray) (n : Name) : di (a :: n) n = true := wo.2 (List.suffix_cons _ _)
theorem Xm {z : bf} : ∀ {n : Name}, di n z.origin = true → qp z (dk z n) = true ∧ di n (dk z n) = true := by
  intro n
  induction n with
  | nil =>
    intro hu
    cases hh : qp z [] with
    | true => exact ⟨hh, Rc _⟩
    | false => obtain ⟨a, r, h, _⟩ := Hd hu hh; cases h
  | cons a n ih =>
    intro hu
    cases hh : qp z (a :: n) with
    | true => rw [Bc hh]; exact ⟨hh, Rc _⟩
    | false =>
      obtain ⟨a', r, h, hr, hc⟩ := Hd hu hh
      cases h
      rw [hc]
      obtain ⟨h1, h2⟩ := ih hr
      exact ⟨h1, ae2 (ahs a n) h2⟩
theorem aja {z : bf} {n : Name} (h : (dk z n).length = n.length) : dk z n = n := by
  obtain ⟨k, hk⟩ := Ax z n
  rw [hk] at h ⊢
  rw [List.length_drop] at h
  cases n with
  | nil => exact List.drop_nil
  | cons a n =>
    have : k = 0 := by simp at h; omega
    rw [this]; rfl
theorem abo {z : bf} {n : Name} (h : (dk z n).length ≠ n.length) : qp z n = false := by
  cases hh : qp z n with
  | false => rfl
  | true => rw [Bc hh] at h; exact (h rfl).elim
theorem aun {z : bf} {n : Name} (hg : aqs z) (hp : 0 < (kc z n).length) : qp z n = true := by
  obtain ⟨s, hs⟩ := List.exists_mem_of_length_pos hp
  obtain ⟨hs1, hs2⟩ := List.mem_filter.1 hs
  have hi := hg.inside s hs1
  unfold qp
  rw [← M7 hs2, hi, Bool.true_and, Bool.or_eq_true]
  exact .inr (List.any_eq_true.2 ⟨s, hs1, ajs hs2⟩)
inductive auw (z : bf) (n : Name) : Prop
  | beyond (c : Name) (hc : j7 z n = some c) (h : gq z n = (ur 4 c [], 0))
  | exact (hc : j7 z n = none) (hp : 0 < (kc z n).length) (hh : qp z n = true) (h : gq z n = (ur 1 n n, 0))
  | empty (hc : j7 z n = none) (hp : kc z n = []) (hh : qp z n = true) (h : gq z n = (ur 2 [] n, 0))
  | axe (hc : j7 z n = none) (hp : kc z n = []) (hh : qp z n = false) (hs : qp z (ti :: dk z n) = true) (h : gq z n = (ur 3 (ti :: dk z n) (dk z n), 0))
  | none (hc : j7 z n = none) (hp : kc z n = []) (hh : qp z n = false) (hs : qp z (ti :: dk z n) = false) (h : gq z n = (ur 0 [] (dk z n), 0))
theorem U1 {z : bf} {n : Name} (h : gk z n = 0) : auw z n := by
  obtain ⟨h1, h2, h3⟩ := uc h
  have hg := Mn h1
  have hf : gq z n = match j7 z n with
    | some c => (ur 4 c [], 0)
    | none =>
      if 0 < (kc z n).length then (ur 1 n (dk z n), 0)
      else if (dk z n).length = n.length then (ur 2 [] (dk z n), 0)
      else if qp z (ti :: dk z n) = true then (ur 3 (ti :: dk z n) (dk z n), 0)
      else (ur 0 [] (dk z n), 0) := by unfold gq; rw [if_neg (by omega)] <;> rfl
  cases hc : j7 z n with
  | some c => rw [hc] at hf; exact .beyond c hc hf
  | none =>
    rw [hc] at hf
    simp only at hf
    split at hf
    · rename_i hp
      have hh := aun hg hp
      rw [Bc hh] at hf
      exact .exact hc hp hh hf
    rename_i hp
    have hp : kc z n = [] := List.eq_nil_of_length_eq_zero (by omega)
    split at hf
    · rename_i hl
      have he := aja hl
      have hh := (Xm h3).1
      rw [he] at hh hf
      exact .empty hc hp hh hf
    rename_i hl
    have hh := abo hl
    split at hf
    · rename_i hs; exact .axe hc hp hh hs hf
    · rename_i hs; exact .none hc hp hh (by simpa using hs) hf
theorem Zs {z : bf} {n : Name} (h : gk z n ≠ 0) : gq z n = (ur 0 [] [], gk z n) := by unfold gq; rw [if_pos h]
end Go.Proofs.YtcbdpmfipecmgaaGreat
end
section
set_option linter.unusedSimpArgs false
set_option linter.unusedVariables false
namespace Go.Proofs.YtcbdpmfipecmgaaGreat
open Go.Vm
set_option maxRecDepth 2000000
def Bh (l : List bd) : Prop := g8 um l ≤ 16777216
instance (l : List bd) : Decidable (Bh l) := inferInstanceAs (Decidable (_ ≤ _))
theorem Bh.mem {l : List bd} (h : Bh l) : ∀ s ∈ l, ea s := fun s hs => by
  have h1 : um s < g8 um l := Cw hs
  unfold Bh at h; unfold ea; omega
theorem Bh.len {l : List bd} (h : Bh l) : l.length ≤ 16777216 := Nat.le_trans (yc um l) h
theorem cg.ak {z : bf} (h : cg z) : Bh z.ak := by unfold cg Qk at h; unfold Bh; omega
def abf (l : List bd) : Prop := l.length ≤ 281474976710656 ∧ ∀ s ∈ l, ea s
instance (l : List bd) : Decidable (abf l) := inferInstanceAs (Decidable (_ ∧ _))
theorem cg.mid {z : bf} (h : cg z) : abf z.ak := ⟨Nat.le_trans h.ak.len (by decide), h.ak.mem⟩
def tx (n : Name) (t : UInt16) (s : bd) : Bool := decide ((s.type.toNat : Int) = t.toNat) && (decide ((s.cls.toNat : Int) = 1) && dw s.owner n)
def vt (l : List bd) (n : Name) (t : UInt16) : Option bd := l.find? (tx n t)
def U2 : bd := mkS [] 0 0 0 []
theorem Up {l : List bd} {p : bd → Bool} {i : Nat} {c : bd} (h : l.drop i = c :: l.drop (i + 1)) : (l.drop i).find? p = if p c = true then some c else (l.drop (i + 1)).find? p := by
  rw [h, List.find?_cons]; split <;> simp_all
theorem alb (l : List bd) (n : Name) (t : UInt16) (hl : abf l) (hn : bb n) : wl PP [dc, wt] 0 (Tryz.f40.body.getD .skip) (du PP Tryz.f40.results.toList (fun r st => (r2 ah bq).get true st.h r = some ((vt l n t).getD U2, (vt l n t).isSome))) (cy 0 [(cw ah).val false l, ar.val false n, cq.val false t]) (bn []) := by
  have hlen := hl.1
  unfold Tryz.f40
  simp only [da]
  simp only [↓wR, RA, simprocAttr, TF, ag]
  refine dx [1, 2, 6, 10, 11, 12] (fun (i : Nat) => [.vl false 1 (n.map (aj.val false)), .sc (.int .u16 t.toNat), .ptr 0 0, .vl false 5 (l.map (ah.val false)), .sc (.int .i64 (l.length)), .sc (.int .i64 (i))]) (fun _ => [some (.row [.sc (.slice none 0 0), .sc (.int .u16 0), .sc (.int .u16 0), .sc (.int .u32 0), .sc (.slice none 0 0)] 0 2 44)]) (fun i => i ≤ l.length ∧ vt l n t = (l.drop i).find? (tx n t)) (fun i => l.length - i) 0 ⟨Nat.zero_le _, rfl⟩ (by simp only [↓wR, RA, simprocAttr, TF, ag] <;> rfl) (by simp only [↓wR, RA, simprocAttr, TF, ag] <;> rfl) ?_
  rintro i ⟨hi, hx⟩
  simp only [↓wR, RA, simprocAttr, TF, ag]
  rw [cp]; refine ⟨fun h => ?_, fun h => ?_⟩
  · obtain ⟨c, hc, hd1, hlt⟩ := ed (decide_eq_true h)
    rw [Up hd1] at hx
    have hcs := hl.2 c (List.mem_of_getElem? hc)
    simp only [↓wR, RA, simprocAttr, TF, ag, h, hc]
    rw [c9]; refine ⟨fun ⟨h1, e1⟩ => ?_, fun ⟨h1, e1⟩ => ?_⟩
    · simp only [↓wR, RA, simprocAttr, TF, ag, h1]
      rw [c9]; refine ⟨fun ⟨h2, e2⟩ => ?_, fun ⟨h2, e2⟩ => ?_⟩
      · simp only [↓wR, RA, simprocAttr, TF, ag, h2, fm, hcs.owner, hn]
        rw [cz]; refine ⟨fun h3 => ?_, fun h3 => ?_⟩
        · have hp : tx n t c = true := by simp [tx, e1, e2, h3]
          rw [if_pos hp] at hx
          simp only [↓wR, RA, simprocAttr, TF, ag, h3, o9, hcs, hx]; repeat (simp (disch := omega) only [ai, cb, cd, b9, ca]; try simp only [↓wR, RA, simprocAttr, TF, ag, h3, o9, hcs, hx])
        · have hp : tx n t c = false := by simp [tx, h3]
          rw [hp, if_neg (by decide)] at hx
          simp only [↓wR, RA, simprocAttr, TF, ag, h3]; repeat (simp (disch := omega) only [ai, cb, cd, b9, ca]; try simp only [↓wR, RA, simprocAttr, TF, ag, h3])
          exact ⟨i + 1, ⟨hlt, hx⟩, by omega, by (first | rfl | trivial | omega | ((try (simp (disch := omega) only [ai])); (try (simp only [FB])); first | done | rfl | omega))⟩
      · have hp : tx n t c = false := by simp [tx, e2]
        rw [hp, if_neg (by decide)] at hx
        simp only [↓wR, RA, simprocAttr, TF, ag, h2]; repeat (simp (disch := omega) only [ai, cb, cd, b9, ca]; try simp only [↓wR, RA, simprocAttr, TF, ag, h2])
        exact ⟨i + 1, ⟨hlt, hx⟩, by omega, by (first | rfl | trivial | omega | ((try (simp (disch := omega) only [ai])); (try (simp only [FB])); first | done | rfl | omega))⟩
    · have hp : tx n t c = false := by simp [tx, e1]
      rw [hp, if_neg (by decide)] at hx
      simp only [↓wR, RA, simprocAttr, TF, ag, h1]; repeat (simp (disch := omega) only [ai, cb, cd, b9, ca]; try simp only [↓wR, RA, simprocAttr, TF, ag, h1])
      exact ⟨i + 1, ⟨hlt, hx⟩, by omega, by (first | rfl | trivial | omega | ((try (simp (disch := omega) only [ai])); (try (simp only [FB])); first | done | rfl | omega))⟩
  · rw [fq (decide_eq_false h), List.find?_nil] at hx
    simp only [↓wR, RA, simprocAttr, TF, ag, h, hx]
    rfl
noncomputable def Cv (x : List bd × Name × UInt16 × Unit) : Option AV := if abf x.1 ∧ bb x.2.1 then some ((r2 ah bq).E true (((vt x.1 x.2.1 x.2.2.1).getD U2, (vt x.1 x.2.1 x.2.2.1).isSome))) else none
set_option maxRecDepth 2000000 in
theorem Fh (x : List bd × Name × UInt16 × Unit) (r : AV) (h : Cv x = some r) : bh PP 40 ((aC (cw ah) (aC ar (aC cq a0))).E x) r := by
  by_cases hc : abf x.1 ∧ bb x.2.1
  case neg => simp only [Cv, if_neg hc] at h; cases h
  simp only [Cv, if_pos hc] at h
  cases h
  exact bg (aw.cons (aq eb) (aw.cons (aq sy) (aw.nil PP))) Tryz.func40 (by kernel_rfl) (by kernel_rfl) (by kernel_rfl) (Nat.le_of_ble_eq_true (by kernel_rfl)) (r2 ah bq) true (((vt x.1 x.2.1 x.2.2.1).getD U2, (vt x.1 x.2.1 x.2.2.1).isSome)) (alb x.1 x.2.1 x.2.2.1 hc.1 hc.2)
noncomputable abbrev Ks : Nat × Bool × (List AV → M AV) := (40, true, dj (aC (cw ah) (aC ar (aC cq a0))) Cv)
theorem aqx (fr h) : cq.ek fr h (.sc (.int .u16 1)) = some 1 := wm fr h 1
theorem ap0 (fr h) : cq.ek fr h (.sc (.int .u16 2)) = some 2 := wm fr h 2
theorem ap8 (fr h) : cq.ek fr h (.sc (.int .u16 5)) = some 5 := wm fr h 5
theorem aqi (fr h) : cq.ek fr h (.sc (.int .u16 6)) = some 6 := wm fr h 6
theorem amt (fr h) : cq.ek fr h (.sc (.int .u16 28)) = some 28 := wm fr h 28
theorem au2 : type_of% @aqx ∧ type_of% @ap0 ∧ type_of% @ap8 ∧ type_of% @aqi ∧ type_of% @amt := ⟨@aqx, @ap0, @ap8, @aqi, @amt⟩
theorem J3 (fr h k st et) (s : bd) : nb ah fr h 0 1 (.row [.vl true 1 (s.owner.map (aj.val false)), .sc (.int .u16 s.type.toNat), .sc (.int .u16 s.cls.toNat), .sc (.int .u32 s.qn.toNat), .vl true 4 (s.data.map (bt.val true))] k st et) = some [s] := zo ah fr h true [s] k st et 1 rfl rfl
theorem mz.at4 {az : Nat} {vs vs' : List AV} {os os' : List (Option ba)} (hp : az ≤ 1000) (hV : AV.c8.go (fun o => idx (sv az vs os) o 0) vs = vs') (hO : ig (bn os).h (fun o => idx (sv az vs os) o 0) (sv az vs os) = os') : mz az vs os vs' os' := by
  subst hV hO; exact mz.canon hp
noncomputable def k8 (z : bf) (n : Name) (t : UInt16) : A2 × Int :=
  if (gq z n).2 = 0 ∧ ((t.toNat : Int) = 0 ∨ (t.toNat : Int) = 41) then (ur 0 [] [], 6) else gq z n
theorem akk (z : bf) (n : Name) (t : UInt16) (hz : cg z) (hn : bb n) : wl PP [Yj] 0 (Tryz.f13.body.getD .skip) (du PP Tryz.f13.results.toList (fun r st => (r2 re (be .i64)).get true st.h r = some (k8 z n t))) (cy 0 [cj.val false z, ar.val false n, cq.val false t]) (bn []) := by
  unfold Tryz.f13
  simp only [iy, da]
  unfold k8
  rcases hf : gq z n with ⟨⟨k, nd, cl⟩, e⟩
  simp only [↓wR, RA, simprocAttr, TF, ag, m6, hz, hn, hf]
  rw [c9]; refine ⟨fun ⟨h1, e1⟩ => ?_, fun ⟨h1, e1⟩ => ?_⟩
  · simp only [↓wR, RA, simprocAttr, TF, ag, h1]
    rw [c9]; refine ⟨fun ⟨h2, e2⟩ => ?_, fun ⟨h2, e2⟩ => ?_⟩
    · rw [if_pos ⟨e1, .inl e2⟩]
      simp only [↓wR, RA, simprocAttr, TF, ag, h2]
    · simp only [↓wR, RA, simprocAttr, TF, ag, h2]
      rw [c9]; refine ⟨fun ⟨h3, e3⟩ => ?_, fun ⟨h3, e3⟩ => ?_⟩
      · rw [if_pos ⟨e1, .inr e3⟩]
        simp only [↓wR, RA, simprocAttr, TF, ag, h3]
      · rw [if_neg (fun q => q.2.elim e2 e3)]
        simp only [↓wR, RA, simprocAttr, TF, ag, h3]
        rfl
  · rw [if_neg (fun q => e1 q.1)]
    simp only [↓wR, RA, simprocAttr, TF, ag, h1]
    rfl
noncomputable def x9 (x : bf × Name × UInt16 × Unit) : Option AV := if cg x.1 ∧ bb x.2.1 then some ((r2 re (be .i64)).E true (k8 x.1 x.2.1 x.2.2.1)) else none
set_option maxRecDepth 2000000 in
theorem Fv (x : bf × Name × UInt16 × Unit) (r : AV) (h : x9 x = some r) : bh PP 13 ((aC cj (aC ar (aC cq a0))).E x) r := by
  by_cases hc : cg x.1 ∧ bb x.2.1
  case neg => simp only [x9, if_neg hc] at h; cases h
  simp only [x9, if_pos hc] at h
  cases h
  exact bg (aw.cons (aq H9) (aw.nil PP)) Tryz.func13 (by kernel_rfl) (by kernel_rfl) (by kernel_rfl) (Nat.le_of_ble_eq_true (by kernel_rfl)) (r2 re (be .i64)) true (k8 x.1 x.2.1 x.2.2.1) (akk x.1 x.2.1 x.2.2.1 hc.1 hc.2)
noncomputable abbrev Qf : Nat × Bool × (List AV → M AV) := (13, true, dj (aC cj (aC ar (aC cq a0))) x9)
theorem Fo {s : bd} (h : ph s = 0) : ∃ d, s.data[0]? = some d ∧ fo s.type d = 0 := by
  unfold ph at h
  split at h
  · contradiction
  split at h
  · cases h
  rename_i _ q
  split at h
  · cases h
  cases hd : s.data with
  | nil => exact (q (by rw [hd]; rfl)).elim
  | cons d r =>
    rw [hd, sg] at h
    split at h
    · contradiction
    · rename_i q; exact ⟨d, rfl, by omega⟩
theorem aic {s : bd} (h : ph s = 0) : ∀ d ∈ s.data, fo s.type d = 0 := by
  have key : ∀ (l pre : List c7), sg s.type pre l = 0 → ∀ d ∈ l, fo s.type d = 0 := by
    intro l
    induction l with
    | nil => intro pre _ d hd; cases hd
    | cons a l ih =>
      intro pre h d hd
      rw [sg] at h
      split at h
      · contradiction
      split at h
      · cases h
      rcases List.mem_cons.1 hd with rfl | hd
      · omega
      · exact ih _ h d hd
  unfold ph at h
  split at h
  · contradiction
  split at h
  · cases h
  split at h
  · cases h
  exact key _ _ h
theorem Hu {t : UInt16} {d : c7} (h : fo t d = 0) : (d.names.length : Int) = (ju t).names ∧ (d.nums.length : Int) = (ju t).nums := by
  have hf : y5 (ju t) t d = true := by
    unfold fo at h
    split at h
    · cases h
    split at h
    · cases h
    · rename_i q; simpa using q
  unfold y5 at hf
  split at hf
  · cases hf
  · rename_i q
    exact ⟨Decidable.byContradiction fun e => q (.inl e), Decidable.byContradiction fun e => q (.inr (.inl e))⟩
theorem apg {s : bd} (h : ph s = 0) (ht : (s.type.toNat : Int) = 5) : ∃ d n, s.data[0]? = some d ∧ d.names[0]? = some n := by
  obtain ⟨d, hd, he⟩ := Fo h
  have h1 := (Hu he).1
  have h2 : (ju s.type).names = 1 := by
    unfold ju; rw [ht]; rfl
  rw [h2] at h1
  have : 0 < d.names.length := by omega
  exact ⟨d, d.names[0], hd, List.getElem?_eq_getElem this⟩
theorem auc {s : bd} (h : ph s = 0) (ht : (s.type.toNat : Int) = 6) : ∃ d k, s.data[0]? = some d ∧ d.nums[4]? = some k := by
  obtain ⟨d, hd, he⟩ := Fo h
  have h1 := (Hu he).2
  have h2 : (ju s.type).nums = 5 := by
    unfold ju; rw [ht]; rfl
  rw [h2] at h1
  have : 4 < d.nums.length := by omega
  exact ⟨d, d.nums[4], hd, List.getElem?_eq_getElem this⟩
theorem Ea {z : bf} (h : ic z = 0) : ∀ s ∈ z.ak, ph s = 0 := by
  have hf := (Mn h).first
  unfold ux at hf
  split at hf
  · contradiction
  have key : ∀ (l : List bd) (e : Int), A0 l e = 0 → e = 0 ∧ ∀ s ∈ l, ph s = 0 := by
    intro l
    induction l with
    | nil => intro e h; exact ⟨h, fun s hs => by cases hs⟩
    | cons a l ih =>
      intro e h
      rw [A0] at h
      obtain ⟨h1, h2⟩ := ih _ h
      split at h1
      · rename_i e0
        exact ⟨e0, fun s hs => (List.mem_cons.1 hs).elim (fun q => q ▸ h1) (h2 s)⟩
      · rename_i e0; exact (e0 h1).elim
  exact (key _ _ hf).2
theorem Hj {l : List bd} {n : Name} {t : UInt16} {s : bd} (h : vt l n t = some s) : s ∈ l ∧ (s.type.toNat : Int) = t.toNat ∧ (s.cls.toNat : Int) = 1 ∧ dw s.owner n = true := by
  have h1 := List.mem_of_find?_eq_some h
  have h2 := List.find?_some h
  simp only [tx, Bool.and_eq_true, decide_eq_true_eq] at h2
  exact ⟨h1, h2.1, h2.2.1, h2.2.2⟩
def xy (n : Name) (s : bd) : bd := mkS n s.type s.cls s.qn s.data
theorem amu {xs : List bd} {i : Nat} {c : bd} (n : Name) (k : Nat) (et : TypeId) (id : Nat) (hc : xs[i]? = some c) :
    xw id (i * 5) 1 [ar.val true n] (.row (cellsOf ah true xs) 0 k et) = (i7 id (.row (cellsOf ah true (xs.take i ++ xy n c :: xs.drop (i + 1))) 0 k et)).bind fun _ => .pure (.sc undef) := by
  obtain ⟨hi, rfl⟩ := List.getElem?_eq_some_iff.1 hc
  have h0 : xs = xs.take i ++ xs[i] :: xs.drop (i + 1) := by rw [← List.drop_eq_getElem_cons hi, List.take_append_drop]
  have hl : (cellsOf ah true xs).length = xs.length * 5 := w8 ah true xs
  have h1 : (cellsOf ah true xs).take (i * 5) = cellsOf ah true (xs.take i) := Y5 ah true xs i
  have h2 : (cellsOf ah true xs).drop (i * 5) = cellsOf ah true (xs.drop i) := Je ah true xs i
  have h3 : (cellsOf ah true xs).drop (i * 5 + 1) = (ah.cells true xs[i]).drop 1 ++ cellsOf ah true (xs.drop (i + 1)) := by
    rw [← List.drop_drop, h2, List.drop_eq_getElem_cons hi, Du]; rfl
  have hlt : i * 5 + 1 ≤ xs.length * 5 := by omega
  have h4 : (cellsOf ah true xs).take (i * 5) ++ [ar.val true n] ++ (cellsOf ah true xs).drop (i * 5 + 1) = cellsOf ah true (xs.take i ++ xy n xs[i] :: xs.drop (i + 1)) := by
    rw [h1, h3, A8, Du, List.append_assoc]; rfl
  have hone : [ar.val true n].all AV.one = true := rfl
  unfold xw
  simp only [hl, Nat.ble_eq_true_of_le hlt, h4, hone]
  rfl
end Go.Proofs.YtcbdpmfipecmgaaGreat
end
