/- A piece of the proof. Proved: where the arguments are together of bulk at most 1048576, the law WorldTree returns true (each name has one zone, and the root is reached), and what it was given reads afterwards as it did before. No other conditions. -/
import Derived.WalkKit
import Derived.CallsIn
import Derived.RangeFuncIn
import Derived.RangeFuncLeaves
import Derived.Orders
import Derived.OrdersIn
import Derived.Scope
import Derived.RangeFuncOwn
import Derived.Stop.SameAnswer
import Derived.Laws.Externs
import Derived.Lib.Bytealg
import Derived.ProofKit
import Derived.OpenShut
import Derived.ReadAgain
import Derived.Deep.Slices
import Derived.ChangeSame
import Derived.Test.YtidomogemfchpaaGreatProg
import Derived.KernelRfl
import Derived.Test.YtidomogemfchpaaGreatRows
import Derived.Maps.RangeRun
import Derived.JoinedCond
import Derived.Test.YtidomogemfchpaaGreatW2
set_option linter.unusedSimpArgs false
set_option linter.unusedVariables false
section
set_option linter.unusedSimpArgs false
set_option linter.unusedVariables false
namespace Go.Proofs.YtidomogemfchpaaGreat
open Go.Vm
set_option maxRecDepth 2000000
theorem agn {α : Type} {l : List (List α)} {i : Nat} {c : List α} (h : l[i]? = some c) : (l.drop i).flatten = c ++ (l.drop (i + 1)).flatten := by rw [F6 h]; rfl
theorem ars {α : Type} {l : List (List α)} {c : List α} (h : c ∈ l) : c.length ≤ l.flatten.length := by
  induction l with
  | nil => cases h
  | cons a l ih =>
    simp only [List.flatten_cons, List.length_append]
    rcases List.mem_cons.1 h with rfl | h
    · omega
    · have := ih h; omega
theorem akk (l : List (List UInt8)) (hl : l.length ≤ 16777216) (hf : l.flatten.length ≤ 134217728) : wl PP [] 0 (Tryz.f184.body.getD .skip) (de PP Tryz.f184.results.toList (fun r st => (r1 (cq cj)).get true st.h r = some l.flatten)) (cb 0 [(cq (cq cj)).val false l]) (bp []) := by
  unfold Tryz.f184
  rw [o9]
  simp only [↓wR, RA, simprocAttr, TF]
  refine c6 [0, 3, 9, 10, 11] (fun (x : Nat × Nat) => [.vl false 1 (l.map ((cq cj).val false)), .sc (.int .i64 x.2), .vl false 1 (l.map ((cq cj).val false)), .sc (.int .i64 l.length), .sc (.int .i64 x.1)]) (fun _ => []) (fun x => x.1 ≤ l.length ∧ x.2 + (l.drop x.1).flatten.length = l.flatten.length) (fun x => l.length - x.1) (0, 0) ⟨Nat.zero_le _, by simp⟩ (by simp only [↓wR, RA, simprocAttr, TF] <;> rfl) (by simp only [↓wR, RA, simprocAttr, TF] <;> rfl) ?_
  rintro ⟨i, k⟩ ⟨hi, hk⟩
  simp only at hi hk
  simp only [↓wR, RA, simprocAttr, TF]
  rw [bf]; refine ⟨fun h => ?_, fun h => ?_⟩
  · obtain ⟨c, hc, hd1, hlt⟩ := di (decide_eq_true h)
    rw [agn hc, List.length_append] at hk
    simp only [↓wR, RA, simprocAttr, TF, h, hc]; repeat (simp (disch := omega) only [ah, bu, b7, bw, bz]; try simp only [↓wR, RA, simprocAttr, TF, h, hc])
    rw [bf]; refine ⟨fun h1 => ?_, fun h1 => ?_⟩
    · exfalso; omega
    · simp only [↓wR, RA, simprocAttr, TF, h1]; repeat (simp (disch := omega) only [ah, bu, b7, bw, bz]; try simp only [↓wR, RA, simprocAttr, TF, h1])
      exact ⟨(i + 1, k + c.length), ⟨hlt, by show k + c.length + (l.drop (i + 1)).flatten.length = _; omega⟩, by simp; omega, by simp⟩
  · rw [du (decide_eq_false h)] at hk
    have hk : k = l.flatten.length := by simpa using hk
    subst hk
    simp only [↓wR, RA, simprocAttr, TF, h]
    refine bm (T := []) (aj.nil PP) mixed Tryz.func193 rfl (by kernel_rfl) (by kernel_rfl) (by kernel_rfl) (by kernel_rfl) ?_; unfold Tryz.f193
    simp only [↓wR, RA, simprocAttr, TF]
    rw [bf]; refine ⟨fun h1 => ?_, fun h1 => ?_⟩
    · exfalso; omega
    simp only [↓wR, RA, simprocAttr, TF, h1]; repeat (simp (disch := omega) only [ah, bu, b7, bw, bz]; try simp only [↓wR, RA, simprocAttr, TF, h1])
    rw [bf]; refine ⟨fun h2 => ?_, fun h2 => ?_⟩
    · have hpos : 0 < l.flatten.length := by omega
      simp only [↓wR, RA, simprocAttr, TF, h2, hpos]; repeat (simp (disch := omega) only [ah, bu, b7, bw, bz]; try simp only [↓wR, RA, simprocAttr, TF, h2, hpos])
      refine c6 [25, 26, 27, 6] (fun (x : Nat × Nat × List UInt8) => [.vl false 1 (l.map ((cq cj).val false)), .sc (.int .i64 l.length), .sc (.int .i64 x.1), .sl 0 0 x.2.1 1]) (fun x => [some (.row (x.2.2.map (cj.val false)) 0 0 5)]) (fun x => x.1 ≤ l.length ∧ (x.2.1 = x.2.2.length ∨ x.2.1 = 0) ∧ x.2.2.take x.2.1 ++ (l.drop x.1).flatten = l.flatten) (fun x => l.length - x.1) (0, 0, List.replicate l.flatten.length 0) ⟨Nat.zero_le _, .inr rfl, rfl⟩ (by simp only [↓wR, RA, simprocAttr, TF] <;> rfl) (by simp only [↓wR, RA, simprocAttr, TF] <;> rfl) ?_
      rintro ⟨k, m, r⟩ ⟨hk1, hk0, hk3⟩
      simp only at hk1 hk0 hk3
      have hk2 : m ≤ r.length := by omega
      simp only [↓wR, RA, simprocAttr, TF]
      rw [bf]; refine ⟨fun h3 => ?_, fun h3 => ?_⟩
      · obtain ⟨c, hc, hd1, hlt⟩ := di (decide_eq_true h3)
        rw [agn hc] at hk3
        have hm : m + c.length ≤ 134217728 := by
          have := congrArg List.length hk3
          simp only [List.length_append, List.length_take] at this
          omega
        simp only [↓wR, RA, simprocAttr, TF, h3, hc, hk2]; repeat (simp (disch := omega) only [ah, bu, b7, bw, bz]; try simp only [↓wR, RA, simprocAttr, TF, h3, hc, hk2])
        have hl1 : (r.take m ++ c).length = m + c.length := by simp [Nat.min_eq_left hk2]
        refine ⟨(k + 1, m + c.length, r.take m ++ c), ⟨hlt, .inl hl1.symm, ?_⟩, by simp; omega, by simp, by simp⟩
        show (r.take m ++ c).take (m + c.length) ++ _ = _
        rw [List.take_of_length_le (Nat.le_of_eq hl1), List.append_assoc]
        exact hk3
      · rw [du (decide_eq_false h3)] at hk3
        have hmr : m = r.length := by
          have := congrArg List.length hk3
          simp only [List.length_append, List.length_take, List.flatten_nil, List.length_nil] at this
          omega
        subst hmr
        have hr : r = l.flatten := by simpa using hk3
        subst hr
        simp only [↓wR, RA, simprocAttr, TF, h3, hk2]; repeat (simp (disch := omega) only [ah, bu, b7, bw, bz]; try simp only [↓wR, RA, simprocAttr, TF, h3, hk2])
    · have hnil : l.flatten = [] := List.eq_nil_of_length_eq_zero (by omega)
      simp only [↓wR, RA, simprocAttr, TF, h2]; repeat (simp (disch := omega) only [ah, bu, b7, bw, bz]; try simp only [↓wR, RA, simprocAttr, TF, h2])
      refine c6 [25, 26, 27, 6] (fun (x : Nat) => [.vl false 1 (l.map ((cq cj).val false)), .sc (.int .i64 l.length), .sc (.int .i64 x), .sc (.slice none 0 0)]) (fun _ => []) (fun x => x ≤ l.length) (fun x => l.length - x) 0 (Nat.zero_le _) (by simp only [↓wR, RA, simprocAttr, TF] <;> rfl) (by simp only [↓wR, RA, simprocAttr, TF] <;> rfl) ?_
      intro k hk1
      simp only [↓wR, RA, simprocAttr, TF]
      rw [bf]; refine ⟨fun h3 => ?_, fun h3 => ?_⟩
      · obtain ⟨c, hc, hd1, hlt⟩ := di (decide_eq_true h3)
        have hc0 : c = [] := List.eq_nil_of_length_eq_zero (by have := ars (List.mem_of_getElem? hc); rw [hnil] at this; simpa using this)
        subst hc0
        simp only [↓wR, RA, simprocAttr, TF, h3, hc]; repeat (simp (disch := omega) only [ah, bu, b7, bw, bz]; try simp only [↓wR, RA, simprocAttr, TF, h3, hc])
        refine ⟨k + 1, hlt, ?_⟩
        first | (refine ⟨by simp; omega, ?_⟩; simp) | (simp; omega)
      · simp only [↓wR, RA, simprocAttr, TF, h3]; repeat (simp (disch := omega) only [ah, bu, b7, bw, bz]; try simp only [↓wR, RA, simprocAttr, TF, h3])
        rw [hnil]
noncomputable def zg (x : List (List UInt8) × Unit) : Option AV := if x.1.length ≤ 16777216 ∧ x.1.flatten.length ≤ 134217728 then some ((r1 (cq cj)).E true (x.1.flatten)) else none
set_option maxRecDepth 2000000 in
theorem adm (x : List (List UInt8) × Unit) (r : AV) (h : zg x = some r) : bg PP 184 ((aC (cq (cq cj)) a0).E x) r := by
  by_cases hc : x.1.length ≤ 16777216 ∧ x.1.flatten.length ≤ 134217728
  case neg => simp only [zg, if_neg hc] at h; cases h
  simp only [zg, if_pos hc] at h
  cases h
  exact bb (aj.nil PP) Tryz.func184 (by kernel_rfl) (by kernel_rfl) (by kernel_rfl) (Nat.le_of_ble_eq_true (by kernel_rfl)) (r1 (cq cj)) true (x.1.flatten) (akk x.1 hc.1 hc.2)
noncomputable abbrev atl : Nat × Bool × (List AV → M AV) := (184, true, da (aC (cq (cq cj)) a0) zg)
end Go.Proofs.YtidomogemfchpaaGreat
end
section
set_option linter.unusedSimpArgs false
set_option linter.unusedVariables false
namespace Go.Proofs.YtidomogemfchpaaGreat
open Go.Vm
set_option maxRecDepth 2000000
theorem ank (n : Name) : (vy n).length ≤ ca n := by
  unfold vy nameBytes
  split
  · exact Nat.zero_le _
  · have := Ik n; rw [List.length_append]; simp only [List.length_cons, List.length_nil]; omega
noncomputable def Pn (t : UInt16) (n : UInt32) : List UInt8 := (En n).drop (4 - (ig t).size).toNat
def uh (t : UInt16) : Nat → List ByteArray → List UInt8
  | _, [] => []
  | i, x :: r => (if (t.toNat : Int) = 16 ∨ i = 0 then [UInt8.ofNat x.size] else []) ++ x.data.toList ++ uh t (i + 1) r
noncomputable def Bt (t : UInt16) (d : ct) : List UInt8 := d.nums.flatMap (Pn t)
def A3 (d : ct) : List UInt8 := d.names.flatMap vy
def yq (t : UInt16) (d : ct) : List UInt8 := uh t 0 d.texts
noncomputable def Fq (t : UInt16) (d : ct) : List UInt8 := if (t.toNat : Int) = 6 then A3 d ++ Bt t d else Bt t d ++ (A3 d ++ (yq t d ++ d.raw))
theorem Kk (n) : (En n).length = 4 := rfl
theorem ae5 {α : Type} (f : α → List UInt8) (μ : α → Nat) (h : ∀ x, (f x).length ≤ μ x) (l : List α) : (l.flatMap f).length ≤ g9 μ l := by
  induction l with
  | nil => simp
  | cons a l ih => have := h a; simp only [List.flatMap_cons, List.length_append, g9, List.foldr_cons] at ih ⊢; omega
theorem ahz (t : UInt16) (l : List ByteArray) : ∀ i, (uh t i l).length ≤ g9 ByteArray.size l := by
  induction l with
  | nil => intro i; simp [uh]
  | cons a l ih =>
    intro i
    have := ih (i + 1)
    have ha : a.data.size = a.size := rfl
    simp only [uh, List.length_append, g9, List.foldr_cons, Array.length_toList] at this ⊢
    split <;> simp <;> omega
theorem akr (t d) : (Bt t d).length ≤ 4 * d.nums.length := by
  unfold Bt
  induction d.nums with
  | nil => simp
  | cons a l ih =>
    have : (Pn t a).length ≤ 4 := by unfold Pn; rw [List.length_drop, Kk]; omega
    simp only [List.flatMap_cons, List.length_append, List.length_cons]; omega
theorem dn.written {d : ct} (h : dn d) (t) : (Bt t d).length ≤ 67108864 ∧ (A3 d).length ≤ 16777216 ∧ (yq t d).length ≤ 16777216 := by
  have h1 := akr t d
  have h2 : (A3 d).length ≤ g9 ca d.names := ae5 vy ca ank d.names
  have h3 : (yq t d).length ≤ g9 ByteArray.size d.texts := ahz t d.texts 0
  unfold dn su at h
  omega
theorem Qy {α : Type} {l : List α} {i : Nat} {c : α} (f : α → List UInt8) (h : l.drop i = c :: l.drop (i + 1)) : (l.drop i).flatMap f = f c ++ (l.drop (i + 1)).flatMap f := by rw [h]; rfl
theorem Rt (c) : (En c).take 4 = En c := rfl
theorem afo (t) (c) : (En c).drop (4 - (ig t).size).toNat = Pn t c := rfl
theorem ak8 (t : UInt16) {l : List ByteArray} {i : Nat} {c : ByteArray} (h : l.drop i = c :: l.drop (i + 1)) : uh t i (l.drop i) = (if (t.toNat : Int) = 16 ∨ i = 0 then [UInt8.ofNat c.size] else []) ++ c.data.toList ++ uh t (i + 1) (l.drop (i + 1)) := by rw [h]; rfl
theorem aoa (t : UInt16) (d : ct) (hd : dn d) : wl PP [Us, auk, ajy, atl] 0 (Tryz.f161.body.getD .skip) (de PP Tryz.f161.results.toList (fun r st => (r1 (cq cj)).get true st.h r = some (Fq t d))) (cb 0 [c9.val false t, b9.val false d]) (bp []) := by
  have hl := hd.lens
  have hk := hd.written t
  have hs := Q8 t
  unfold Tryz.f161
  simp only [lj, dz]
  simp only [↓wR, RA, simprocAttr, TF, Ct, Ci]
  refine nd [0, 3, 6, 7, 8, 21, 22, 23, 5] (fun (x : Nat × List UInt8) => [.sc (.int .u16 t.toNat), .ptr 0 0, .sc (.slice none 0 0), .sc (.slice none 0 0), .ptr 1 0, .vl false 1 (d.nums.map (be.val false)), .sc (.int .i64 (d.nums.length)), .sc (.int .i64 (x.1)), .sl 2 0 x.2.length 1]) (fun x => [some (.row [.vl false 1 (d.names.map (ay.val false)), .vl false 1 (d.nums.map (be.val false)), .vl false 1 (d.texts.map (an.val false)), .vl false 1 (d.raw.map (cj.val false))] 0 2 83), some (.row [.sc (.int .i64 (ig t).names), .sc (.int .i64 (ig t).nums), .sc (.int .i64 (ig t).size), .sc (.int .i64 (ig t).texts), .sc (.int .i64 (ig t).raw)] 0 2 214), some (.row (x.2.map (cj.val false)) 0 0 5)]) (fun x => x.1 ≤ d.nums.length ∧ x.2 ++ (d.nums.drop x.1).flatMap (Pn t) = Bt t d) (fun x => d.nums.length - x.1) (0, []) ⟨Nat.zero_le _, rfl⟩ (by simp only [↓wR, RA, simprocAttr, TF]; (refine tr.lax [] (by first | exact Nat.le_of_ble_eq_true rfl | (simp [cp]; omega)) ?_ ?_ <;> repeat' first | exact jb.nil | exact dm.nil | exact jl.same _ | exact jl.nil _ _ _ | exact jl.x8 _ _ | exact dm.refl _ _ | apply jb.cons | apply dm.ghost | apply dm.same | apply dm.row)) ?_
  rintro ⟨i, x⟩ ⟨hi, hx⟩
  simp only at hi hx
  simp only [↓wR, RA, simprocAttr, TF]
  rw [bf]; refine ⟨fun h => ?_, fun h => ?_⟩
  · obtain ⟨c, hc, hd1, hlt⟩ := di (decide_eq_true h)
    rw [Qy _ hd1] at hx
    have hxl : x.length + (Pn t c).length ≤ (Bt t d).length := by rw [← hx]; simp
    simp only [↓wR, RA, simprocAttr, TF, h, hc, Ln, Kk, Rt, afo]; repeat (simp (disch := omega) only [ah, bu, b7, bw, bz]; try simp only [↓wR, RA, simprocAttr, TF, h, hc, Ln, Kk, Rt, afo])
    exact ⟨(i + 1, x ++ Pn t c), ⟨hlt, by rw [List.append_assoc]; exact hx⟩, by simp; omega, by (first | rfl | trivial | omega | ((try (simp (disch := omega) only [ah])); (try (simp only [FB])); first | done | rfl | omega)), by (first | rfl | trivial | omega | ((try (simp (disch := omega) only [ah])); (try (simp only [FB])); first | done | rfl | omega))⟩
  rw [du (decide_eq_false h)] at hx
  obtain rfl : x = Bt t d := by simpa using hx
  clear hx
  simp only [↓wR, RA, simprocAttr, TF, h]
  obtain ⟨nu, hnu⟩ : ∃ nu, Bt t d = nu := ⟨_, rfl⟩
  rw [hnu] at hk ⊢
  refine nd [0, 3, 7, 38, 39, 40, 5, 6] (fun (x : Nat × List UInt8) => [.sc (.int .u16 t.toNat), .ptr 0 0, .sc (.slice none 0 0), .vl false 1 (d.names.map (ay.val false)), .sc (.int .i64 (d.names.length)), .sc (.int .i64 (x.1)), .sl 1 0 nu.length 1, .sl 2 0 x.2.length 1]) (fun x => [some (.row [.vl false 1 (d.names.map (ay.val false)), .vl false 1 (d.nums.map (be.val false)), .vl false 1 (d.texts.map (an.val false)), .vl false 1 (d.raw.map (cj.val false))] 0 2 83), some (.row (nu.map (cj.val false)) 0 0 5), some (.row (x.2.map (cj.val false)) 0 0 5)]) (fun x => x.1 ≤ d.names.length ∧ x.2 ++ (d.names.drop x.1).flatMap vy = A3 d) (fun x => d.names.length - x.1) (0, []) ⟨Nat.zero_le _, rfl⟩ (by simp only [↓wR, RA, simprocAttr, TF]; (refine tr.lax [] (by first | exact Nat.le_of_ble_eq_true rfl | (simp [cp]; omega)) ?_ ?_ <;> repeat' first | exact jb.nil | exact dm.nil | exact jl.same _ | exact jl.nil _ _ _ | exact jl.x8 _ _ | exact dm.refl _ _ | apply jb.cons | apply dm.ghost | apply dm.same | apply dm.row)) ?_
  clear h
  rintro ⟨i, x⟩ ⟨hi, hx⟩
  simp only at hi hx
  simp only [↓wR, RA, simprocAttr, TF]
  rw [bf]; refine ⟨fun h => ?_, fun h => ?_⟩
  · obtain ⟨c, hc, hd1, hlt⟩ := di (decide_eq_true h)
    rw [Qy _ hd1] at hx
    have hxl : x.length + (vy c).length ≤ (A3 d).length := by rw [← hx]; simp
    simp only [↓wR, RA, simprocAttr, TF, h, hc, th, hd.name c (List.mem_of_getElem? hc)]; repeat (simp (disch := omega) only [ah, bu, b7, bw, bz]; try simp only [↓wR, RA, simprocAttr, TF, h, hc, th, hd.name c (List.mem_of_getElem? hc)])
    exact ⟨(i + 1, x ++ vy c), ⟨hlt, by rw [List.append_assoc]; exact hx⟩, by simp; omega, by (first | rfl | trivial | omega | ((try (simp (disch := omega) only [ah])); (try (simp only [FB])); first | done | rfl | omega)), by (first | rfl | trivial | omega | ((try (simp (disch := omega) only [ah])); (try (simp only [FB])); first | done | rfl | omega))⟩
  rw [du (decide_eq_false h)] at hx
  obtain rfl : x = A3 d := by simpa using hx
  clear hx
  simp only [↓wR, RA, simprocAttr, TF, h]
  obtain ⟨na, hna⟩ : ∃ na, A3 d = na := ⟨_, rfl⟩
  rw [hna] at hk ⊢
  refine nd [0, 3, 54, 55, 56, 5, 6, 7] (fun (x : Nat × List UInt8) => [.sc (.int .u16 t.toNat), .ptr 0 0, .vl false 1 (d.texts.map (an.val false)), .sc (.int .i64 (d.texts.length)), .sc (.int .i64 (x.1)), .sl 1 0 nu.length 1, .sl 2 0 na.length 1, .sl 3 0 x.2.length 1]) (fun x => [some (.row [.vl false 1 (d.names.map (ay.val false)), .vl false 1 (d.nums.map (be.val false)), .vl false 1 (d.texts.map (an.val false)), .vl false 1 (d.raw.map (cj.val false))] 0 2 83), some (.row (nu.map (cj.val false)) 0 0 5), some (.row (na.map (cj.val false)) 0 0 5), some (.row (x.2.map (cj.val false)) 0 0 5)]) (fun x => x.1 ≤ d.texts.length ∧ x.2 ++ uh t x.1 (d.texts.drop x.1) = yq t d) (fun x => d.texts.length - x.1) (0, []) ⟨Nat.zero_le _, rfl⟩ (by simp only [↓wR, RA, simprocAttr, TF]; (refine tr.lax [] (by first | exact Nat.le_of_ble_eq_true rfl | (simp [cp]; omega)) ?_ ?_ <;> repeat' first | exact jb.nil | exact dm.nil | exact jl.same _ | exact jl.nil _ _ _ | exact jl.x8 _ _ | exact dm.refl _ _ | apply jb.cons | apply dm.ghost | apply dm.same | apply dm.row)) ?_
  clear h
  rintro ⟨i, x⟩ ⟨hi, hx⟩
  simp only at hi hx
  simp only [↓wR, RA, simprocAttr, TF]
  rw [bf]; refine ⟨fun h => ?_, fun h => ?_⟩
  · obtain ⟨c, hc, hd1, hlt⟩ := di (decide_eq_true h)
    rw [ak8 _ hd1] at hx
    have hxl : x.length + ((if (t.toNat : Int) = 16 ∨ i = 0 then [UInt8.ofNat c.size] else []).length + c.size) ≤ (yq t d).length := by rw [← hx]; simp
    have hcs : c.data.toList.length = c.size := by simp
    simp only [↓wR, RA, simprocAttr, TF, h, hc]; repeat (simp (disch := omega) only [ah, bu, b7, bw, bz]; try simp only [↓wR, RA, simprocAttr, TF, h, hc])
    have fin : ∀ b : List UInt8, x ++ (b ++ c.data.toList ++ uh t (i + 1) (d.texts.drop (i + 1))) = yq t d → x ++ b ++ c.data.toList ++ uh t (i + 1) (d.texts.drop (i + 1)) = yq t d := fun b hb => by rw [← hb]; simp
    rw [dc]; refine ⟨fun ⟨h16, e16⟩ => ?_, fun ⟨h16, e16⟩ => ?_⟩
    · rw [if_pos (.inl e16)] at hx hxl
      simp only [List.length_cons, List.length_nil] at hxl
      simp only [↓wR, RA, simprocAttr, TF, h16]; repeat (simp (disch := omega) only [ah, bu, b7, bw, bz]; try simp only [↓wR, RA, simprocAttr, TF, h16])
      exact ⟨(i + 1, x ++ [UInt8.ofNat c.size] ++ c.data.toList), ⟨hlt, fin _ hx⟩, by simp; omega, by (first | rfl | trivial | omega | ((try (simp (disch := omega) only [ah])); (try (simp only [FB])); first | done | rfl | omega)), by (first | rfl | trivial | omega | ((try (simp (disch := omega) only [ah])); (try (simp only [FB])); first | done | rfl | omega))⟩
    · simp only [↓wR, RA, simprocAttr, TF, h16]; repeat (simp (disch := omega) only [ah, bu, b7, bw, bz]; try simp only [↓wR, RA, simprocAttr, TF, h16])
      rw [dc]; refine ⟨fun ⟨h0, e0⟩ => ?_, fun ⟨h0, e0⟩ => ?_⟩
      · rw [if_pos (.inr (by omega))] at hx hxl
        simp only [List.length_cons, List.length_nil] at hxl
        simp only [↓wR, RA, simprocAttr, TF, h0]; repeat (simp (disch := omega) only [ah, bu, b7, bw, bz]; try simp only [↓wR, RA, simprocAttr, TF, h0])
        exact ⟨(i + 1, x ++ [UInt8.ofNat c.size] ++ c.data.toList), ⟨hlt, fin _ hx⟩, by simp; omega, by (first | rfl | trivial | omega | ((try (simp (disch := omega) only [ah])); (try (simp only [FB])); first | done | rfl | omega)), by (first | rfl | trivial | omega | ((try (simp (disch := omega) only [ah])); (try (simp only [FB])); first | done | rfl | omega))⟩
      · rw [if_neg (by omega)] at hx hxl
        simp only [List.length_nil] at hxl
        simp only [↓wR, RA, simprocAttr, TF, h0]; repeat (simp (disch := omega) only [ah, bu, b7, bw, bz]; try simp only [↓wR, RA, simprocAttr, TF, h0])
        exact ⟨(i + 1, x ++ c.data.toList), ⟨hlt, by have := fin _ hx; simpa using this⟩, by simp; omega, by (first | rfl | trivial | omega | ((try (simp (disch := omega) only [ah])); (try (simp only [FB])); first | done | rfl | omega)), by (first | rfl | trivial | omega | ((try (simp (disch := omega) only [ah])); (try (simp only [FB])); first | done | rfl | omega))⟩
  rw [du (decide_eq_false h)] at hx
  obtain rfl : x = yq t d := by simpa [uh] using hx
  clear hx
  simp only [↓wR, RA, simprocAttr, TF, h]; repeat (simp (disch := omega) only [ah, bu, b7, bw, bz]; try simp only [↓wR, RA, simprocAttr, TF, h])
  unfold Fq
  rw [hnu, hna]
  rw [dc]; refine ⟨fun ⟨h6, e6⟩ => ?_, fun ⟨h6, e6⟩ => ?_⟩
  · rw [if_pos e6]
    simp only [↓wR, RA, simprocAttr, TF, h6]; repeat (simp (disch := omega) only [ah, bu, b7, bw, bz]; try simp only [↓wR, RA, simprocAttr, TF, h6])
  · rw [if_neg e6]
    have hcat : nu.length + (na.length + ((yq t d).length + d.raw.length)) ≤ 134217728 := by omega
    simp only [↓wR, RA, simprocAttr, TF, h6, zg, hcat]; repeat (simp (disch := omega) only [ah, bu, b7, bw, bz]; try simp only [↓wR, RA, simprocAttr, TF, h6, zg, hcat])
    rw [← List.map_append, ← List.map_append, ← List.map_append]
    exact rtT (cq cj) _ _
noncomputable def te (x : UInt16 × ct × Unit) : Option AV := if dn x.2.1 then some ((r1 (cq cj)).E true (Fq x.1 x.2.1)) else none
set_option maxRecDepth 2000000 in
theorem Dp (x : UInt16 × ct × Unit) (r : AV) (h : te x = some r) : bg PP 161 ((aC c9 (aC b9 a0)).E x) r := by
  by_cases hc : dn x.2.1
  case neg => simp only [te, if_neg hc] at h; cases h
  simp only [te, if_pos hc] at h
  cases h
  exact bb (aj.cons (ai C0) (aj.cons (ai aer) (aj.cons (ai Te) (aj.cons (ai adm) (aj.nil PP))))) Tryz.func161 (by kernel_rfl) (by kernel_rfl) (by kernel_rfl) (Nat.le_of_ble_eq_true (by kernel_rfl)) (r1 (cq cj)) true (Fq x.1 x.2.1) (aoa x.1 x.2.1 hc)
noncomputable abbrev S4 : Nat × Bool × (List AV → M AV) := (161, true, da (aC c9 (aC b9 a0)) te)
end Go.Proofs.YtidomogemfchpaaGreat
end
section
set_option linter.unusedSimpArgs false
set_option linter.unusedVariables false
namespace Go.Proofs.YtidomogemfchpaaGreat
open Go.Vm
set_option maxRecDepth 2000000
theorem adx (d : ct) (hd : dn d) : wl PP [aae, aar, afs, yw] 0 (Tryz.f76.body.getD .skip) (de PP Tryz.f76.results.toList (fun r st => (r1 b9).get true st.h r = some d)) (cb 0 [b9.val false d]) (bp []) := by
  have hl := hd.lens
  have l2 := hl.2.1
  have l3 := hl.2.2.1
  have l4 := hl.2.2.2
  unfold Tryz.f76
  simp only [lj, dz]
  simp only [↓wR, RA, simprocAttr, TF]
  refine ⟨by kernel_rfl, .inl ?_⟩
  simp only [↓wR, RA, simprocAttr, TF, xe, w8, zn, l2, l3, l4]
  refine ⟨by kernel_rfl, ?_⟩
  refine nd [2, 17, 18, 19, 3] (fun (x : List Name) => [.ptr 0 0, .vl false 1 (d.names.map (ay.val false)), .sc (.int .i64 (d.names.length)), .sc (.int .i64 (x.length)), .ptr 1 0]) (fun x => [some (.row [.sc (.slice none 0 0), .sc (.slice none 0 0), .sc (.slice none 0 0), .sc (.slice none 0 0)] 0 2 83), some (.row [.sl 2 0 x.length 1, .vl true 1 (d.nums.map (be.val false)), .vl true 1 (d.texts.map (an.val false)), .vl true 1 (d.raw.map (cj.val false))] 0 2 83), some (.row (x.map (ay.val true)) 0 0 23)]) (fun x => x.length ≤ d.names.length ∧ x ++ d.names.drop x.length = d.names) (fun x => d.names.length - x.length) [] ⟨Nat.zero_le _, rfl⟩ (by simp only [↓wR, RA, simprocAttr, TF]; (refine tr.lax [] (by first | exact Nat.le_of_ble_eq_true rfl | (simp [cp]; omega)) ?_ ?_ <;> repeat' first | exact jb.nil | exact dm.nil | exact jl.same _ | exact jl.nil _ _ _ | exact jl.x8 _ _ | exact dm.refl _ _ | apply jb.cons | apply dm.ghost | apply dm.same | apply dm.row)) ?_
  rintro x ⟨hi, hx⟩
  simp only [↓wR, RA, simprocAttr, TF]
  rw [bf]; refine ⟨fun h => ?_, fun h => ?_⟩
  · obtain ⟨c, hc, hd1, hlt⟩ := di (decide_eq_true h)
    rw [hd1] at hx
    have hlim : (x.length + 1) * 24 ≤ 140737488355328 := by omega
    simp only [↓wR, RA, simprocAttr, TF, h, hc]
    refine ⟨by kernel_rfl, .inl ?_⟩
    simp only [↓wR, RA, simprocAttr, TF, ng, hd.name c (List.mem_of_getElem? hc), hlim]
    refine ⟨by kernel_rfl, ?_⟩
    exact ⟨x ++ [c], ⟨by simp; omega, by simpa using hx⟩, by simp; omega, by (first | rfl | trivial | omega | ((try (simp (disch := omega) only [ah])); (try (simp only [FB])); first | done | rfl | omega)), by (first | rfl | trivial | omega | ((try (simp (disch := omega) only [ah])); (try (simp only [FB])); first | done | rfl | omega))⟩
  · rw [du (decide_eq_false h)] at hx
    rw [List.append_nil] at hx
    subst hx
    simp only [↓wR, RA, simprocAttr, TF, h]
noncomputable def A2 (x : ct × Unit) : Option AV := if dn x.1 then some ((r1 b9).E true (x.1)) else none
set_option maxRecDepth 2000000 in
theorem Xs (x : ct × Unit) (r : AV) (h : A2 x = some r) : bg PP 76 ((aC b9 a0).E x) r := by
  by_cases hc : dn x.1
  case neg => simp only [A2, if_neg hc] at h; cases h
  simp only [A2, if_pos hc] at h
  cases h
  exact bb (aj.cons (ai Ig) (aj.cons (ai Hw) (aj.cons (ai Iv) (aj.cons (ai pr) (aj.nil PP))))) Tryz.func76 (by kernel_rfl) (by kernel_rfl) (by kernel_rfl) (Nat.le_of_ble_eq_true (by kernel_rfl)) (r1 b9) true (x.1) (adx x.1 hc)
noncomputable abbrev apz : Nat × Bool × (List AV → M AV) := (76, true, da (aC b9 a0) A2)
end Go.Proofs.YtidomogemfchpaaGreat
end
section
set_option linter.unusedSimpArgs false
set_option linter.unusedVariables false
namespace Go.Proofs.YtidomogemfchpaaGreat
open Go.Vm
set_option maxRecDepth 2000000
def pc {α : Type} (f : α → α) (l : List α) (i : Nat) : List α := (l.take i).map f ++ l.drop i
theorem ahm {α : Type} (f : α → α) (l : List α) (i : Nat) : (pc f l i).length = l.length := by simp [pc]; omega
theorem aj4 {α : Type} (f : α → α) {l : List α} {i : Nat} {c : α} (h : l[i]? = some c) : (pc f l i)[i]? = some c := by
  obtain ⟨hi, rfl⟩ := List.getElem?_eq_some_iff.1 h
  have hl : ((l.take i).map f).length = i := by simp; omega
  rw [pc, List.getElem?_append_right (by omega), hl, Nat.sub_self, List.getElem?_drop]; simp [h]
theorem ajb {α : Type} (f : α → α) {l : List α} {i : Nat} {c : α} (h : l[i]? = some c) : (pc f l i).take i ++ [f c] ++ (pc f l i).drop (i + 1) = pc f l (i + 1) := by
  obtain ⟨hi, rfl⟩ := List.getElem?_eq_some_iff.1 h
  have h1 : ((l.take i).map f).length = i := by simp; omega
  have h2 : (pc f l i).take i = (l.take i).map f := by rw [pc, List.take_append_of_le_length (by omega), List.take_of_length_le (by omega)]
  have h3 : (pc f l i).drop (i + 1) = l.drop (i + 1) := by
    rw [pc, List.drop_append, List.drop_eq_nil_of_le (by omega), h1]
    simp
  rw [h2, h3, pc, List.take_succ_eq_append_getElem hi, List.map_append]
  rfl
theorem ajd {α : Type} (f : α → α) (l : List α) : pc f l l.length = l.map f := by simp [pc]
noncomputable def tq (t : UInt16) (d : ct) : ct := if 0 < (ig t).names then { d with names := d.names.map gq } else d
theorem aei (t : UInt16) (d : ct) (hd : dn d) : wl PP [Us, apq] 0 (Tryz.f176.body.getD .skip) (de PP Tryz.f176.results.toList (fun r st => (r1 b9).get true st.h r = some (tq t d))) (cb 0 [c9.val false t, b9.val false d]) (bp []) := by
  have hl := hd.lens
  have l2 := hl.2.1
  have l3 := hl.2.2.1
  have l4 := hl.2.2.2
  unfold Tryz.f176
  simp only [lj, dz]
  simp only [↓wR, RA, simprocAttr, TF]
  refine bm (T := [aae, aar, afs, yw]) (aj.cons (ai Ig) (aj.cons (ai Hw) (aj.cons (ai Iv) (aj.cons (ai pr) (aj.nil PP))))) mixed Tryz.func76 rfl (by kernel_rfl) (by kernel_rfl) (by kernel_rfl) (by kernel_rfl) ?_; unfold Tryz.f76
  simp only [↓wR, RA, simprocAttr, TF]
  refine ⟨by kernel_rfl, .inl ?_⟩
  simp only [↓wR, RA, simprocAttr, TF, xe, w8, zn, l2, l3, l4]
  refine ⟨by kernel_rfl, ?_⟩
  refine nd [2, 17, 18, 19, 3] (fun (x : List Name) => [.ptr 2 0, .vl false 1 (d.names.map (ay.val false)), .sc (.int .i64 (d.names.length)), .sc (.int .i64 (x.length)), .ptr 3 0]) (fun x => [some (.row [.vl false 1 (d.names.map (ay.val false)), .vl false 1 (d.nums.map (be.val false)), .vl false 1 (d.texts.map (an.val false)), .vl false 1 (d.raw.map (cj.val false))] 0 2 83), some (.row [.sc (.slice none 0 0), .sc (.slice none 0 0), .sc (.slice none 0 0), .sc (.slice none 0 0)] 0 2 83), some (.row [.sc (.slice none 0 0), .sc (.slice none 0 0), .sc (.slice none 0 0), .sc (.slice none 0 0)] 0 2 83), some (.row [.sl 4 0 x.length 1, .vl true 1 (d.nums.map (be.val false)), .vl true 1 (d.texts.map (an.val false)), .vl true 1 (d.raw.map (cj.val false))] 0 2 83), some (.row (x.map (ay.val true)) 0 0 23)]) (fun x => x.length ≤ d.names.length ∧ x ++ d.names.drop x.length = d.names) (fun x => d.names.length - x.length) [] ⟨Nat.zero_le _, rfl⟩ (by simp only [↓wR, RA, simprocAttr, TF]; (refine tr.lax [] (by first | exact Nat.le_of_ble_eq_true rfl | (simp [cp]; omega)) ?_ ?_ <;> repeat' first | exact jb.nil | exact dm.nil | exact jl.same _ | exact jl.nil _ _ _ | exact jl.x8 _ _ | exact dm.refl _ _ | apply jb.cons | apply dm.ghost | apply dm.same | apply dm.row)) ?_
  rintro x ⟨hi, hx⟩
  simp only [↓wR, RA, simprocAttr, TF]
  rw [bf]; refine ⟨fun h => ?_, fun h => ?_⟩
  · obtain ⟨c, hc, hd1, hlt⟩ := di (decide_eq_true h)
    rw [hd1] at hx
    have hlim : (x.length + 1) * 24 ≤ 140737488355328 := by omega
    simp only [↓wR, RA, simprocAttr, TF, h, hc]
    refine ⟨by kernel_rfl, .inl ?_⟩
    simp only [↓wR, RA, simprocAttr, TF, ng, hd.name c (List.mem_of_getElem? hc), hlim]
    refine ⟨by kernel_rfl, ?_⟩
    exact ⟨x ++ [c], ⟨by simp; omega, by simpa using hx⟩, by simp; omega, by (first | rfl | trivial | omega | ((try (simp (disch := omega) only [ah])); (try (simp only [FB])); first | done | rfl | omega)), by (first | rfl | trivial | omega | ((try (simp (disch := omega) only [ah])); (try (simp only [FB])); first | done | rfl | omega))⟩
  rw [du (decide_eq_false h)] at hx
  rw [List.append_nil] at hx
  subst hx
  simp only [↓wR, RA, simprocAttr, TF, h, Ct, Ci]
  unfold tq
  clear hi h
  rw [bf]; refine ⟨fun h0 => ?_, fun h0 => ?_⟩
  · rw [if_pos h0]
    simp only [↓wR, RA, simprocAttr, TF, h0]
    refine c6 [4, 5, 15, 16, 17] (fun (i : Nat) => [.ptr 0 0, .ptr 1 0, .sl 2 0 d.names.length 1, .sc (.int .i64 (d.names.length)), .sc (.int .i64 (i))]) (fun i => [some (.row [.sc (.slice none 0 0), .sc (.slice none 0 0), .sc (.slice none 0 0), .sc (.slice none 0 0)] 0 2 83), some (.row [.sl 2 0 d.names.length 1, .vl true 1 (d.nums.map (be.val false)), .vl true 1 (d.texts.map (an.val false)), .vl true 1 (d.raw.map (cj.val false))] 0 2 83), some (.row ((pc gq d.names i).map (ay.val true)) 0 0 23)]) (fun i => i ≤ d.names.length) (fun i => d.names.length - i) 0 (Nat.zero_le _) (by simp only [↓wR, RA, simprocAttr, TF] <;> rfl) (by simp only [↓wR, RA, simprocAttr, TF] <;> rfl) ?_
    intro i hi
    simp only [↓wR, RA, simprocAttr, TF]
    rw [bf]; refine ⟨fun h => ?_, fun h => ?_⟩
    · obtain ⟨c, hc, hd1, hlt⟩ := di (decide_eq_true h)
      have hs := aj4 gq hc
      have hlen := ahm gq d.names i
      have hlt' : i + 1 ≤ d.names.length := hlt
      simp only [↓wR, RA, simprocAttr, TF, h, hs, hlt]
      refine ⟨by kernel_rfl, .inl ?_⟩
      simp only [↓wR, RA, simprocAttr, TF, h, hlt, hlt', hlen, Am, hd.name c (List.mem_of_getElem? hc)]
      refine ⟨by kernel_rfl, i + 1, hlt, by omega, by (first | rfl | trivial | omega | ((try (simp (disch := omega) only [ah])); (try (simp only [FB])); first | done | rfl | omega)), ?_⟩
      rw [← ajb gq hc]; simp only [List.map_append, List.map_cons, List.map_nil]
    · have hin : i = d.names.length := by omega
      subst hin
      rw [ajd]
      have hml : (d.names.map gq).length = d.names.length := List.length_map _
      generalize d.names.map gq = m at hml ⊢
      simp only [↓wR, RA, simprocAttr, TF, h, hml]
      rfl
  · rw [if_neg h0]
    simp only [↓wR, RA, simprocAttr, TF, h0]
noncomputable def Ap (x : UInt16 × ct × Unit) : Option AV := if dn x.2.1 then some ((r1 b9).E true (tq x.1 x.2.1)) else none
set_option maxRecDepth 2000000 in
theorem X0 (x : UInt16 × ct × Unit) (r : AV) (h : Ap x = some r) : bg PP 176 ((aC c9 (aC b9 a0)).E x) r := by
  by_cases hc : dn x.2.1
  case neg => simp only [Ap, if_neg hc] at h; cases h
  simp only [Ap, if_pos hc] at h
  cases h
  exact bb (aj.cons (ai C0) (aj.cons (ai Xl) (aj.nil PP))) Tryz.func176 (by kernel_rfl) (by kernel_rfl) (by kernel_rfl) (Nat.le_of_ble_eq_true (by kernel_rfl)) (r1 b9) true (tq x.1 x.2.1) (aei x.1 x.2.1 hc)
noncomputable abbrev ao6 : Nat × Bool × (List AV → M AV) := (176, true, da (aC c9 (aC b9 a0)) Ap)
end Go.Proofs.YtidomogemfchpaaGreat
end
section
set_option linter.unusedSimpArgs false
set_option linter.unusedVariables false
namespace Go.Proofs.YtidomogemfchpaaGreat
open Go.Vm
set_option maxRecDepth 2000000
def wm : List Name → Int
  | [] => 0
  | n :: r => if ea n ≠ 0 then ea n else wm r
noncomputable def fh (t : UInt16) (d : ct) : Int :=
  if Fv t = true then 6 else if u7 (ig t) t d = false then 7 else if wm d.names ≠ 0 then wm d.names else if 65535 < (Fq t d).length then 3 else 0
theorem ae6 {l : List Name} {i : Nat} {c : Name} (h : l.drop i = c :: l.drop (i + 1)) : wm (l.drop i) = if ea c ≠ 0 then ea c else wm (l.drop (i + 1)) := by rw [h]; rfl
theorem Zn (t : UInt16) (d : ct) (hd : dn d) : wl PP [aut, Us, awb, dw, S4] 0 (Tryz.f141.body.getD .skip) (de PP Tryz.f141.results.toList (fun r st => (r1 (aw .i64)).get true st.h r = some (fh t d))) (cb 0 [c9.val false t, b9.val false d]) (bp []) := by
  have hs := Q8 t
  have hl := hd.lens
  unfold Tryz.f141
  simp only [lj, dz]
  simp only [↓wR, RA, simprocAttr, TF, Ty]
  unfold fh
  rw [bk]; refine ⟨fun hb => ?_, fun hb => ?_⟩
  · rw [if_pos hb]
    simp only [↓wR, RA, simprocAttr, TF, hb]
  rw [if_neg (by rw [hb]; decide)]
  simp only [↓wR, RA, simprocAttr, TF, hb]
  refine ⟨by kernel_rfl, .inl ?_⟩
  simp only [↓wR, RA, simprocAttr, TF, Ct, Iy, hs, hd]
  refine ⟨by kernel_rfl, ?_⟩
  rw [bk]; refine ⟨fun hf => ?_, fun hf => ?_⟩
  · rw [if_pos (by simpa using hf)]
    simp only [↓wR, RA, simprocAttr, TF, hf]
  have hf' : u7 (ig t) t d = true := by simpa using hf
  rw [if_neg (by rw [hf']; decide)]
  simp only [↓wR, RA, simprocAttr, TF, hf]
  refine c6 [0, 3, 17, 18, 19] (fun (i : Nat) => [.sc (.int .u16 t.toNat), .ptr 0 0, .vl false 1 (d.names.map (ay.val false)), .sc (.int .i64 (d.names.length)), .sc (.int .i64 (i))]) (fun _ => [some (.row [.vl false 1 (d.names.map (ay.val false)), .vl false 1 (d.nums.map (be.val false)), .vl false 1 (d.texts.map (an.val false)), .vl false 1 (d.raw.map (cj.val false))] 0 2 83)]) (fun i => i ≤ d.names.length ∧ wm d.names = wm (d.names.drop i)) (fun i => d.names.length - i) 0 ⟨Nat.zero_le _, rfl⟩ (by simp only [↓wR, RA, simprocAttr, TF] <;> rfl) (by simp only [↓wR, RA, simprocAttr, TF] <;> rfl) ?_
  rintro i ⟨hi, hx⟩
  simp only [↓wR, RA, simprocAttr, TF]
  rw [bf]; refine ⟨fun h => ?_, fun h => ?_⟩
  · obtain ⟨c, hc, hd1, hlt⟩ := di (decide_eq_true h)
    rw [ae6 hd1] at hx
    simp only [↓wR, RA, simprocAttr, TF, h, hc, l7, (hd.name c (List.mem_of_getElem? hc)).fit]
    rw [bk]; refine ⟨fun h1 => ?_, fun h1 => ?_⟩
    · have he : ea c ≠ 0 := by simpa using h1
      rw [if_pos he] at hx
      rw [if_pos (by rw [hx]; exact he), hx]
      simp only [↓wR, RA, simprocAttr, TF, h1]
    · have he : ea c = 0 := by simpa using h1
      rw [if_neg (by omega)] at hx
      simp only [↓wR, RA, simprocAttr, TF, h1]; repeat (simp (disch := omega) only [ah, bu, b7, bw, bz]; try simp only [↓wR, RA, simprocAttr, TF, h1])
      exact ⟨i + 1, ⟨hlt, hx⟩, by omega, by (first | rfl | trivial | omega | ((try (simp (disch := omega) only [ah])); (try (simp only [FB])); first | done | rfl | omega))⟩
  rw [du (decide_eq_false h)] at hx
  rw [if_neg (by rw [hx]; decide)]
  simp only [↓wR, RA, simprocAttr, TF, h, te, hd]
  rw [bf]; refine ⟨fun h2 => ?_, fun h2 => ?_⟩
  · rw [if_pos (by omega)]
    simp only [↓wR, RA, simprocAttr, TF, h2]
  · rw [if_neg (by omega)]
    simp only [↓wR, RA, simprocAttr, TF, h2]
noncomputable def pz (x : UInt16 × ct × Unit) : Option AV := if dn x.2.1 then some ((r1 (aw .i64)).E true (fh x.1 x.2.1)) else none
set_option maxRecDepth 2000000 in
theorem zi (x : UInt16 × ct × Unit) (r : AV) (h : pz x = some r) : bg PP 141 ((aC c9 (aC b9 a0)).E x) r := by
  by_cases hc : dn x.2.1
  case neg => simp only [pz, if_neg hc] at h; cases h
  simp only [pz, if_pos hc] at h
  cases h
  exact bb (aj.cons (ai afa) (aj.cons (ai C0) (aj.cons (ai ajj) (aj.cons (ai ky) (aj.cons (ai Dp) (aj.nil PP)))))) Tryz.func141 (by kernel_rfl) (by kernel_rfl) (by kernel_rfl) (Nat.le_of_ble_eq_true (by kernel_rfl)) (r1 (aw .i64)) true (fh x.1 x.2.1) (Zn x.1 x.2.1 hc)
noncomputable abbrev I5 : Nat × Bool × (List AV → M AV) := (141, true, da (aC c9 (aC b9 a0)) pz)
noncomputable def Fi (t : UInt16) (d : ct) : List UInt8 := if fh t d ≠ 0 then [] else Fq t d
theorem aaq (t : UInt16) (d : ct) (hd : dn d) : wl PP [I5, S4] 0 (Tryz.f175.body.getD .skip) (de PP Tryz.f175.results.toList (fun r st => (r2 (cq cj) (aw .i64)).get true st.h r = some (Fi t d, fh t d))) (cb 0 [c9.val false t, b9.val false d]) (bp []) := by
  unfold Tryz.f175
  simp only [lj, dz]
  simp only [↓wR, RA, simprocAttr, TF, pz, hd]
  unfold Fi
  rw [bk]; refine ⟨fun h => ?_, fun h => ?_⟩
  · have he : fh t d ≠ 0 := by simpa using h
    rw [if_pos he]
    simp only [↓wR, RA, simprocAttr, TF, h]
  · have he : fh t d = 0 := by simpa using h
    rw [if_neg (by omega)]
    simp only [↓wR, RA, simprocAttr, TF, h, te, hd, he]
noncomputable def x0 (x : UInt16 × ct × Unit) : Option AV := if dn x.2.1 then some ((r2 (cq cj) (aw .i64)).E true ((Fi x.1 x.2.1, fh x.1 x.2.1))) else none
set_option maxRecDepth 2000000 in
theorem Up (x : UInt16 × ct × Unit) (r : AV) (h : x0 x = some r) : bg PP 175 ((aC c9 (aC b9 a0)).E x) r := by
  by_cases hc : dn x.2.1
  case neg => simp only [x0, if_neg hc] at h; cases h
  simp only [x0, if_pos hc] at h
  cases h
  exact bb (aj.cons (ai zi) (aj.cons (ai Dp) (aj.nil PP))) Tryz.func175 (by kernel_rfl) (by kernel_rfl) (by kernel_rfl) (Nat.le_of_ble_eq_true (by kernel_rfl)) (r2 (cq cj) (aw .i64)) true ((Fi x.1 x.2.1, fh x.1 x.2.1)) (aaq x.1 x.2.1 hc)
noncomputable abbrev alk : Nat × Bool × (List AV → M AV) := (175, true, da (aC c9 (aC b9 a0)) x0)
end Go.Proofs.YtidomogemfchpaaGreat
end
section
set_option linter.unusedSimpArgs false
set_option linter.unusedVariables false
namespace Go.Proofs.YtidomogemfchpaaGreat
open Go.Vm
set_option maxRecDepth 2000000
theorem aly (args : List AV) : z7 PP 191 args (Cx.g8 args) :=
  Cx.uw (fn := (PP.funcs[191]?).getD default) (by kernel_rfl) (by kernel_rfl) (by kernel_rfl) (by kernel_rfl) (by kernel_rfl) args
noncomputable abbrev au8 : Nat × Bool × (List AV → M AV) := (191, true, Cx.g8)
theorem as8 : aj PP [au8] := aj.cons aly (aj.nil PP)
noncomputable def Z1 (a b : List UInt8) : Int := Lib.compareBytes a b
theorem S0 (a b : List UInt8) : wl PP [au8] 0 (Tryz.f177.body.getD .skip) (de PP Tryz.f177.results.toList (fun r st => (r1 (aw .i64)).get true st.h r = some (Z1 a b))) (cb 0 [(cq cj).val false a, (cq cj).val false b]) (bp []) := by
  unfold Tryz.f177
  simp only [o9]
  simp only [↓wR, RA, simprocAttr, TF, Z1]
noncomputable def v8 (x : List UInt8 × List UInt8 × Unit) : Option AV := some ((r1 (aw .i64)).E true (Z1 x.1 x.2.1))
theorem Mm (x : List UInt8 × List UInt8 × Unit) (r : AV) (h : v8 x = some r) : bg PP 177 ((aC (cq cj) (aC (cq cj) a0)).E x) r := by
  cases h
  exact bb as8 Tryz.func177 (by kernel_rfl) (by kernel_rfl) (by kernel_rfl) (Nat.le_of_ble_eq_true (by kernel_rfl)) (r1 (aw .i64)) true (Z1 x.1 x.2.1) (S0 x.1 x.2.1)
noncomputable abbrev ab6 : Nat × Bool × (List AV → M AV) := (177, true, da (aC (cq cj) (aC (cq cj) a0)) v8)
theorem anr (s : ByteArray) : (fold s).size = s.size := by
  show (s.data.toList.map low).toArray.size = s.data.size
  simp
theorem Tq (n : Name) : ca (gq n) = ca n := by
  unfold ca gq
  rw [List.foldl_map]
  simp only [anr]
theorem an6 (l : List Name) : g9 ca (l.map gq) = g9 ca l := by
  induction l with
  | nil => rfl
  | cons a l ih => simp only [g9, List.map_cons, List.foldr_cons, Tq] at ih ⊢; rw [ih]
theorem dn.fold {d : ct} (h : dn d) (t : UInt16) : dn (tq t d) := by
  unfold tq
  split
  · unfold dn su at *
    simp only [an6]; exact h
  · exact h
noncomputable def O3 (t : UInt16) (a b : ct) : Int := if fh t (tq t a) ≠ 0 ∨ fh t (tq t b) ≠ 0 then 0 else Z1 (Fi t (tq t a)) (Fi t (tq t b))
noncomputable def L6 (t : UInt16) (a b : ct) : Bool := decide (fh t a = 0) && decide (fh t b = 0) && decide (O3 t a b = 0)
theorem Um (t : UInt16) (a b : ct) (ha : dn a) (hb : dn b) : wl PP [ao6, alk, ab6] 0 (Tryz.f153.body.getD .skip) (de PP Tryz.f153.results.toList (fun r st => (r1 (aw .i64)).get true st.h r = some (O3 t a b))) (cb 0 [c9.val false t, b9.val false a, b9.val false b]) (bp []) := by
  have fa := ha.fold t
  have fb := hb.fold t
  unfold Tryz.f153
  simp only [lj, dz]
  simp only [↓wR, RA, simprocAttr, TF, Ap, x0, v8, ha, hb, fa, fb]
  unfold O3
  rw [bk]; refine ⟨fun h => ?_, fun h => ?_⟩
  · have he : fh t (tq t a) ≠ 0 := by simpa using h
    rw [if_pos (.inl he)]
    simp only [↓wR, RA, simprocAttr, TF, h]
  have he : fh t (tq t a) = 0 := by simpa using h
  simp only [↓wR, RA, simprocAttr, TF, h]
  rw [bk]; refine ⟨fun h2 => ?_, fun h2 => ?_⟩
  · have he2 : fh t (tq t b) ≠ 0 := by simpa using h2
    rw [if_pos (.inr he2)]
    simp only [↓wR, RA, simprocAttr, TF, h2]
  · have he2 : fh t (tq t b) = 0 := by simpa using h2
    rw [if_neg (by omega)]
    simp only [↓wR, RA, simprocAttr, TF, h2, v8]
noncomputable def l6 (x : UInt16 × ct × ct × Unit) : Option AV := if dn x.2.1 ∧ dn x.2.2.1 then some ((r1 (aw .i64)).E true (O3 x.1 x.2.1 x.2.2.1)) else none
set_option maxRecDepth 2000000 in
theorem Cw (x : UInt16 × ct × ct × Unit) (r : AV) (h : l6 x = some r) : bg PP 153 ((aC c9 (aC b9 (aC b9 a0))).E x) r := by
  by_cases hc : dn x.2.1 ∧ dn x.2.2.1
  case neg => simp only [l6, if_neg hc] at h; cases h
  simp only [l6, if_pos hc] at h
  cases h
  exact bb (aj.cons (ai X0) (aj.cons (ai Up) (aj.cons (ai Mm) (aj.nil PP)))) Tryz.func153 (by kernel_rfl) (by kernel_rfl) (by kernel_rfl) (Nat.le_of_ble_eq_true (by kernel_rfl)) (r1 (aw .i64)) true (O3 x.1 x.2.1 x.2.2.1) (Um x.1 x.2.1 x.2.2.1 hc.1 hc.2)
noncomputable abbrev E8 : Nat × Bool × (List AV → M AV) := (153, true, da (aC c9 (aC b9 (aC b9 a0))) l6)
theorem aey (t : UInt16) (a b : ct) (ha : dn a) (hb : dn b) : wl PP [I5, E8] 0 (Tryz.f150.body.getD .skip) (de PP Tryz.f150.results.toList (fun r st => (r1 bo).get true st.h r = some (L6 t a b))) (cb 0 [c9.val false t, b9.val false a, b9.val false b]) (bp []) := by
  unfold Tryz.f150
  simp only [lj, dz]
  simp only [↓wR, RA, simprocAttr, TF, pz, ha, hb]
  unfold L6
  rw [dc]; refine ⟨fun ⟨h, e⟩ => ?_, fun ⟨h, e⟩ => ?_⟩
  · rw [decide_eq_true e]
    simp only [↓wR, RA, simprocAttr, TF, h, pz, ha, hb]
    rw [dc]; refine ⟨fun ⟨h2, e2⟩ => ?_, fun ⟨h2, e2⟩ => ?_⟩
    · rw [decide_eq_true e2]
      simp only [↓wR, RA, simprocAttr, TF, h2, l6, ha, hb]
      rfl
    · rw [decide_eq_false e2]
      simp only [↓wR, RA, simprocAttr, TF, h2]
      rfl
  · rw [decide_eq_false e]
    simp only [↓wR, RA, simprocAttr, TF, h]
    rfl
noncomputable def Aj (x : UInt16 × ct × ct × Unit) : Option AV := if dn x.2.1 ∧ dn x.2.2.1 then some ((r1 bo).E true (L6 x.1 x.2.1 x.2.2.1)) else none
set_option maxRecDepth 2000000 in
theorem Xy (x : UInt16 × ct × ct × Unit) (r : AV) (h : Aj x = some r) : bg PP 150 ((aC c9 (aC b9 (aC b9 a0))).E x) r := by
  by_cases hc : dn x.2.1 ∧ dn x.2.2.1
  case neg => simp only [Aj, if_neg hc] at h; cases h
  simp only [Aj, if_pos hc] at h
  cases h
  exact bb (aj.cons (ai zi) (aj.cons (ai Cw) (aj.nil PP))) Tryz.func150 (by kernel_rfl) (by kernel_rfl) (by kernel_rfl) (Nat.le_of_ble_eq_true (by kernel_rfl)) (r1 bo) true (L6 x.1 x.2.1 x.2.2.1) (aey x.1 x.2.1 x.2.2.1 hc.1 hc.2)
noncomputable abbrev apa : Nat × Bool × (List AV → M AV) := (150, true, da (aC c9 (aC b9 (aC b9 a0))) Aj)
end Go.Proofs.YtidomogemfchpaaGreat
end
section
set_option linter.unusedSimpArgs false
set_option linter.unusedVariables false
set_option maxRecDepth 100000
namespace Go.Vm
noncomputable section
theorem Tz {α : Type} (C : c7 α) (fr : Bool) (h : Tr ba) (l : List AV) (ha : C.agg = true) : C.dec fr h l = C.fj fr h (.agg l) := by
  rw [ux _ _ _ _ rfl (by rw [ha]; rfl)]; rfl
theorem ahl {α β : Type} (A : c7 α) (B : c7 β) (fr : Bool) (h : Tr ba) (l : List AV) : (ko A B).dec fr h l = match A.dec fr h (l.take A.sz), B.dec fr h (l.drop A.sz) with | some x, some y => some (x, y) | _, _ => none := rfl
theorem X8 {α : Type} (C : c7 α) (fr h) (x : AV) : (cq C).dec fr h [x] = fy C fr h x := rfl
theorem X4 (fr h) (x : AV) : ay.dec fr h [x] = fy an fr h x := rfl
theorem Ro {P : Program} {T : dy} {l : Nat} {az : Nat} {L : SL} {st : St} {Q : QI} {ps : List Tmp} {ra rb : Code} {L0 : SL} {α : Type} {b : Code} (keep : List Nat) (V : α → List AV) (O : α → List (Option ba)) (I : α → Prop) (μ : α → Nat) (x : α) (hx : I x)
    (hv : tr az (jo az keep L st) (fo az keep L st) (V x) (O x))
    (step : ∀ x, I x → od P T l (ln ps (fun p => wl P T p ra) (fun p => wl P T p rb) L0) az b (xg (v5 az keep (fun vs os => ∃ y, I y ∧ μ y < μ x ∧ vs = V y ∧ os = O y) (fun _ _ _ => False)) Q) none (l5 keep (V x)) (bp (O x))) : od P T l (ln ps (fun p => wl P T p ra) (fun p => wl P T p rb) L0) az (.loop b) Q none L st := by
  have mono : ∀ (Q1 Q2 : QL), (∀ e L st, Q1 e L st → Q2 e L st) → ∀ L st, od P T l (ln ps (fun p => wl P T p ra) (fun p => wl P T p rb) L0) az b (xg Q1 Q) none L st → od P T l (ln ps (fun p => wl P T p ra) (fun p => wl P T p rb) L0) az b (xg Q2 Q) none L st := fun Q1 Q2 h L st hh => Pj (Og P T) b _ _ (fun e pe L st q => by
    cases e with
    | normal => exact ⟨q.1, h _ _ _ q.2⟩
    | ret => exact q
    | exit i => exact q) none L st hh
  refine ⟨rfl, qp.ap5 (B := fun Q' L st => od P T l _ az b (xg Q' Q) none L st) keep V O I μ x hx hv mono (fun x hi => mono _ _ (fun e L' st' hq => ?_) _ _ (step x hi))⟩
  cases e with
  | normal =>
    obtain ⟨y, h1, h2, h3, h4⟩ := hq
    refine ⟨y, h1, h2, ?_⟩
    rw [h3, h4]; exact .refl _ _ _
  | exit i => exact hq.elim
  | ret => exact hq.elim
theorem H9 (k fr h n cells kk st et) (hn : n = cells.length) : nb (aw k) fr h 0 n (.row cells kk st et) = pa (aw k) fr h cells := u9 (aw k) rfl fr h n cells kk st et hn
def gh (n : Nat) (r : AV) (st : St) : List Nat := reach st.h fl (r.names ++ ox st.h (dk 0 n)) (dk 0 n)
def g5 (n : Nat) (r : AV) (st : St) : AV := r.c0 (fun o => idx (gh n r st) o 0)
def gk (n : Nat) (r : AV) (st : St) : St := bp (i3 st.h (fun o => idx (gh n r st) o 0) (gh n r st))
theorem ag7 {g g' : Gh} {st st' : St} {w w' : World} {r : AV} {v : Value} (hn : st.nx ≤ 1000) (hfr : ∀ o, st.nx ≤ o → g.inj o = none) (hs : Step g st.h w st.nx st'.nx g' st'.h w') (hok : Ok g' st'.h w') (hr : Rel g' w' r v) :
    ∃ g'', st.nx ≤ (gk st.nx r st').nx ∧ Step g st.h w st.nx (gk st.nx r st').nx g'' (gk st.nx r st').h w' ∧ Ok g'' (gk st.nx r st').h w' ∧ Rel g'' w' (g5 st.nx r st') v := by
  have hN := Ah st'.h fl (r.names ++ ox st'.h (dk 0 st.nx)) (dk 0 st.nx) (re _ _)
  change (gh st.nx r st').Nodup ∧ (∃ q, gh st.nx r st' = dk 0 st.nx ++ q) ∧ (gh st.nx r st').length ≤ _ at hN
  have hτ : ∀ o p, (fun o => idx (gh st.nx r st') o 0) o = some p → (gh st.nx r st')[p]? = some o := fun o p h => Fl _ o p h
  unfold gk g5
  generalize gh st.nx r st' = N at hN hτ
  obtain ⟨hnd, ⟨rest, hpre⟩, hlen⟩ := hN
  rw [jq] at hlen
  have hlim : N.length ≤ cp := by simp only [fl, cp] at *; omega
  have cw : ∀ i x, (bp (i3 st'.h (fun o => idx N o 0) N)).h.get i = some x → ∃ o y, N[i]? = some o ∧ st'.h.get o = some y ∧ y.c0 (fun o => idx N o 0) = some x := by
    intro i x hx
    simp only [bp] at hx
    rw [uu _ _ _ (by rw [ic]; omega), if_pos (Nat.zero_le _), Nat.sub_zero, u6] at hx
    cases hi : N[i]? with
    | none => rw [hi] at hx; cases hx
    | some o =>
      rw [hi] at hx
      simp only [Option.map_some, Option.join_some] at hx
      cases hy : st'.h.get o with
      | none => rw [hy] at hx; cases hx
      | some y => rw [hy] at hx; exact ⟨o, y, rfl, hy, hx⟩
  have hinj : ∀ i o, N[i]? = some o → (g'.c0 N).inj i = g'.inj o := fun i o h => by simp [Gh.c0, h]
  have hlow : ∀ o, o < st.nx → N[o]? = some o := fun o ho => by rw [hpre, List.getElem?_append_left (by rw [jq]; exact ho), G0 _ _ _ ho, Nat.zero_add]
  have hnx : (bp (i3 st'.h (fun o => idx N o 0) N)).nx = N.length := by simp only [bp, ic]
  have hle : st.nx ≤ N.length := by rw [hpre, List.length_append, jq]; omega
  rw [hnx]
  refine ⟨g'.c0 N, hle, ⟨⟨hs.ext.b0, fun o p ho => ?_, hs.ext.K, hs.ext.cell, hs.ext.yr, hs.ext.lp⟩, hs.size, hs.os, hs.tape, hs.output, hs.frame, fun o ho hr => ?_, fun i b base hi hj => ?_, hs.nk⟩, ⟨hok.size, fun i x hx => ?_, fun i j x y b base base' hij hx hy hb hb' => ?_, hok.K⟩, hr.c0 hτ⟩
  · have hlt : o < st.nx := by
      rcases Nat.lt_or_ge o st.nx with h | h
      · exact h
      · rw [hfr o h] at ho; cases ho
    rw [hinj o o (hlow o hlt)]; exact hs.ext.inj o p ho
  · rcases Nat.lt_or_ge o st.nx with h | h
    · rw [hinj o o (hlow o h)]; exact hs.fresh o ho (by omega)
    · simp [Gh.c0, List.getElem?_eq_none (show N.length ≤ o by omega)]
  · obtain ⟨x, hx⟩ := Option.isSome_iff_exists.1 hi
    obtain ⟨o, y, h1, h2, _⟩ := cw i x hx
    rw [hinj i o h1] at hj
    exact hs.own o b base (by rw [h2]; rfl) hj
  · obtain ⟨o, y, h1, h2, h3⟩ := cw i x hx
    refine (hok.lz o y h2).imp (fun q => ⟨by rw [hinj i o h1]; exact q.1, by obtain ⟨s0, e0, rfl⟩ := q.2; simp only [ba.c0, AV.c0.go, Option.some.injEq] at h3; exact ⟨s0, e0, h3.symm⟩⟩) ?_
    rintro ⟨b, base, q1, q2, q3⟩
    exact ⟨b, base, by rw [hinj i o h1]; exact q1, q2, q3.c0 hτ h3⟩
  · obtain ⟨o, y1, h1, h2, _⟩ := cw i x hx
    obtain ⟨o', y2, h1', h2', _⟩ := cw j y hy
    rw [hinj i o h1] at hb
    rw [hinj j o' h1'] at hb'
    have hne : o ≠ o' := by
      intro e
      subst e
      obtain ⟨hi, ei⟩ := List.getElem?_eq_some_iff.1 h1
      obtain ⟨hj, ej⟩ := List.getElem?_eq_some_iff.1 h1'
      exact hij ((List.getElem_inj hnd).1 (ei.trans ej.symm))
    exact hok.sep o o' _ _ b base base' hne h2 h2' hb hb'
theorem dv {P : Program} {f : Nat} {args : List AV} {st : St} {R : AV → St → Prop} (R0 : AV → St → Prop) (hn : Nat.ble st.nx 1000 = true) (h1 : pf P f args st (fun r st' => R0 (g5 st.nx r st') (gk st.nx r st'))) (h2 : ∀ r st', R0 r st' → R r st') : pf P f args st R := by
  intro g w vs hok hfr hrel
  rcases h1 g w vs hok hfr hrel with ⟨v, w', g', r, st', q1, q2, q3, q4, q5, q6⟩ | ⟨q1, q2⟩
  · obtain ⟨g'', p1, p2, p3, p4⟩ := ag7 (Nat.le_of_ble_eq_true hn) hfr q4 q5 q6
    exact .inl ⟨v, w', g'', _, _, q1, h2 _ _ q2, p1, p2, p3, p4⟩
  · refine .inr ⟨q1, q2.mono ?_⟩
    rintro e w' ⟨v, g', r, st', rfl, q2, q3, q4, q5, q6⟩
    obtain ⟨g'', p1, p2, p3, p4⟩ := ag7 (Nat.le_of_ble_eq_true hn) hfr q4 q5 q6
    exact ⟨v, g'', _, _, rfl, h2 _ _ q2, p1, p2, p3, p4⟩
theorem afj (a b : Operand) : (#[a] ++ (none : Option Operand).toArray ++ (some b).toArray ++ (none : Option Operand).toArray).toList = [a, b] := id rfl
theorem dv4 : 4 / 4 = 1 := rfl
theorem Z2 (fr h) : c9.dec fr h [.sc (.int .u16 0)] = some 0 := rfl
theorem acg (fr h) : be.dec fr h [.sc (.int .u32 0)] = some 0 := rfl
theorem afx (k fr h n) : (aw k).dec fr h [.sc (.int k n)] = some n := (aw k).rt fr h true n (fun _ => rfl)
theorem Hx (l : Bool) (d : ct) : (b9.val l d).cells = [.vl l 1 (d.names.map (ay.val l)), .vl l 1 (d.nums.map (be.val l)), .vl l 1 (d.texts.map (an.val l)), .vl l 1 (d.raw.map (cj.val l))] := id rfl
theorem Jh (fr h l) (n : Name) (hl : (l || !fr) = true) : fy an fr h (ay.val l n) = some n := vi an fr h l n 1 rfl hl
def ac0 {α : Type} (C : c7 α) (h : Tr ba) (off : Nat) (x : ba) : Option α :=
  match x with
  | .row cells _ _ _ => bif Nat.ble (off + C.sz) cells.length then C.dec false h ((cells.drop off).take C.sz) else none
  | _ => none
def To {α : Type} (C : c7 α) (h : Tr ba) (a : AV) : Option α :=
  match a with
  | .fw l => bif Nat.ble C.sz l.length then C.dec false h (l.take C.sz) else none
  | .ptr o off => (h.get o).bind (ac0 C h off)
  | _ => none
theorem Ov {α : Type} (C : c7 α) (h o off) : To C h (.ptr o off) = (h.get o).bind (ac0 C h off) := id rfl
theorem V5 {α : Type} (C : c7 α) (h l) : To C h (.fw l) = bif Nat.ble C.sz l.length then C.dec false h (l.take C.sz) else none := id rfl
theorem Ot {α : Type} (C : c7 α) (h off cells k s e) : ac0 C h off (.row cells k s e) = bif Nat.ble (off + C.sz) cells.length then C.dec false h ((cells.drop off).take C.sz) else none := id rfl
theorem as9 {α : Type} (C : c7 α) {g h w K b0 a v x} (hok : Ok g h w) (hl : qc g h K) (hr : Rel g w a v) (hd : To C h a = some x) : Rel (gK b0 K) w (.fw (C.cells false x)) v := by
  have fin : ∀ (b off : Nat) (vs : List Value), bj g w ((C.cells false x).map fun _ => AV.bad) vs → bj (gK b0 K) w (C.cells false x) vs → (∀ j u, vs[j]? = some u → K b (off + j) ∧ w.cell? ⟨b, off + j, none⟩ = some u) → Rel (gK b0 K) w (.fw (C.cells false x)) (.pointer (some ⟨b, off, none⟩)) := by
    intro b off vs _ hrl hc
    refine .fw _ b off (fun j => vs.getD j undef) (fun j a hj => ?_) (fun j a hj => ?_)
    · obtain ⟨u, hu, _⟩ := hrl.get hj
      have := hc j u hu
      exact ⟨this.1, by rw [this.2, List.getD_eq_getElem?_getD, hu]; rfl⟩
    · obtain ⟨u, hu, hrel⟩ := hrl.get hj
      show Rel _ _ a (vs.getD j undef)
      rw [List.getD_eq_getElem?_getD, hu]; exact hrel
  have bads : ∀ vs : List Value, bj (gK b0 K) w (C.cells false x) vs → bj g w ((C.cells false x).map fun _ => AV.bad) vs := fun vs h => ⟨by simpa using h.1, fun i a v ha _ => by
    rw [List.getElem?_map, Option.map_eq_some_iff] at ha
    obtain ⟨_, _, rfl⟩ := ha
    exact .bad _⟩
  cases hr with
  | fw l b off c h1 h2 =>
    rw [V5] at hd
    cases hb : Nat.ble C.sz l.length with
    | false => rw [hb] at hd; cases hd
    | true =>
      rw [hb, cond_true] at hd
      have hle := Nat.le_of_ble_eq_true hb
      have hlist : bj g w (l.take C.sz) (gw 0 C.sz c) := by
        refine ⟨by simp [gw]; omega, fun i a v ha hv => ?_⟩
        rw [List.getElem?_take] at ha
        by_cases hi : i < C.sz
        · rw [if_pos hi] at ha
          simp only [gw, List.getElem?_map, List.getElem?_range hi, Option.map_some, Option.some.injEq, Nat.zero_add] at hv
          subst hv
          exact h2 i a ha
        · rw [if_neg hi] at ha; cases ha
      have q := C.ok (b0 := b0) hok hl (fun e => by cases e) hlist hd
      refine fin b off _ (bads _ q) q (fun j u hu => ?_)
      have hj : j < C.sz := by have := (List.getElem?_eq_some_iff.1 hu).1; simpa [gw] using this
      simp only [gw, List.getElem?_map, List.getElem?_range hj, Option.map_some, Option.some.injEq, Nat.zero_add] at hu
      subst hu
      have := h1 j _ (List.getElem?_eq_getElem (by omega))
      exact ⟨hl.K _ _ this.1, this.2⟩
  | ptr o off b base hi =>
    rw [Ov, Option.bind_eq_some_iff] at hd
    obtain ⟨y, hy, hd⟩ := hd
    obtain ⟨b', base', hi', hbb, hrow⟩ := hok.obj o y hy
    rw [hi] at hi'; cases hi'
    cases y with
    | map es => cases hd
    | loop => cases hd
    | row cells k st et =>
      rw [Ot] at hd
      cases hle : Nat.ble (off + C.sz) cells.length with
      | false => rw [hle] at hd; cases hd
      | true =>
        rw [hle, cond_true] at hd
        have hle' := Nat.le_of_ble_eq_true hle
        obtain ⟨cs, fz, r1, r2, r3, _⟩ := hrow
        have hpart : bj g w ((cells.drop off).take C.sz) (gw (base + off) C.sz (fun j => cs.getD j undef)) := by
          refine ⟨by simp [gw]; omega, fun i a v ha hv => ?_⟩
          rw [List.getElem?_take, List.getElem?_drop] at ha
          by_cases hil : i < C.sz
          · rw [if_pos hil] at ha
            obtain ⟨u, hu, hrel⟩ := r3 _ a ha
            simp only [gw, List.getElem?_map, List.getElem?_range hil, Option.map_some, Option.some.injEq] at hv
            subst hv
            rw [Array.getD_eq_getD_getElem?, Nat.add_assoc, hu]
            exact hrel
          · rw [if_neg hil] at ha; cases ha
        have q := C.ok (b0 := b0) hok hl (fun e => by cases e) hpart hd
        refine fin b (base + off) _ (bads _ q) q (fun j u hv => ?_)
        have hj : j < C.sz := by have := (List.getElem?_eq_some_iff.1 hv).1; simpa [gw] using this
        simp only [gw, List.getElem?_map, List.getElem?_range hj, Option.map_some, Option.some.injEq] at hv
        obtain ⟨u, hu, _⟩ := r3 (off + j) (cells[off + j]'(by omega)) (by simp)
        have hrows := hl.rows o cells k st et hy b base hi (off + j) (by omega)
        rw [← Nat.add_assoc] at hrows hu
        refine ⟨hrows, ?_⟩
        rw [kz r1, hu, ← hv, Array.getD_eq_getD_getElem?, hu]
        rfl
  | _ => cases hd
def aP {α β : Type} (C : c7 α) (R : AC β) : AC (α × β) where
  E p := .fw (C.cells false p.1) :: R.E p.2
  D h l := match l with
    | [] => none
    | a :: r => match To C h a, R.D h r with
      | some x, some y => some (x, y)
      | _, _ => none
  rt h p := by
    have : To C h (.fw (C.cells false p.1)) = some p.1 := by
      rw [V5, C.len, Nat.ble_self_eq_true, cond_true, List.take_of_length_le (by rw [C.len]; exact Nat.le_refl _)]
      exact C.rt false h false p.1 (fun e => by cases e)
    simp only [this, R.rt]
  ok := by
    intro g h w K b0 l vs x hok hl hr hd
    match l, hd with
    | a :: r, hd =>
      simp only at hd
      split at hd
      · rename_i x1 y1 hx hy
        simp at hd; subst hd
        match vs, hr with
        | [], hr => have := hr.1; simp at this
        | v :: vs, hr => exact bj.cons (as9 C hok hl hr.head hx) (R.ok hok hl hr.tail hy)
      · cases hd
theorem at4 {α β : Type} (C : c7 α) (R : AC β) (h : Tr ba) (a : AV) (r : List AV) : (aP C R).get h (a :: r) = match To C h a, R.get h r with | some x, some y => some (x, y) | _, _ => none := id rfl
theorem Xd (f) (l : List ct) (d : ct) : cellsOf b9 f (l ++ [d]) = cellsOf b9 f l ++ [.vl f 1 (d.names.map (ay.val f)), .vl f 1 (d.nums.map (be.val false)), .vl f 1 (d.texts.map (an.val false)), .vl f 1 (d.raw.map (cj.val false))] := by rw [adp, aew]; rfl
structure br where
  owner : Name
  type : UInt16
  cls : UInt16
  tt : UInt32
  data : List ct
def mkS (owner : Name) (type : UInt16) (cls : UInt16) (tt : UInt32) (data : List ct) : br := ⟨owner, type, cls, tt, data⟩
theorem aff (x : br) : mkS x.owner x.type x.cls x.tt x.data = x := id rfl
def ar : c7 br := xp (ko ay (ko c9 (ko c9 (ko be (cq b9))))) (fun x => (x.owner, x.type, x.cls, x.tt, x.data)) (fun p => ⟨p.1, p.2.1, p.2.2.1, p.2.2.2.1, p.2.2.2.2⟩) (fun _ => rfl) (fun _ => rfl)
theorem jf (l : Bool) (x : br) : ar.val l x = .agg [.vl l 1 (x.owner.map (an.val l)), .sc (.int .u16 x.type.toNat), .sc (.int .u16 x.cls.toNat), .sc (.int .u32 x.tt.toNat), .vl l 4 (x.data.map (b9.val l))] := id rfl
theorem W5 : ar.sz = 5 := id rfl
theorem Ra (fr : Bool) (h : Tr ba) (y0 y1 y2 y3 y4 : AV) : ar.fj fr h (.agg [y0, y1, y2, y3, y4]) = match fy an fr h y0, c9.dec fr h [y1], c9.dec fr h [y2], be.dec fr h [y3], fy b9 fr h y4 with
    | some v0, some v1, some v2, some v3, some v4 => some (mkS v0 v1 v2 v3 v4)
    | _, _, _, _, _ => none := by
  rw [ux _ _ _ _ rfl rfl]
  have h1 : ar.dec fr h (AV.agg [y0, y1, y2, y3, y4]).cells = Option.map (fun p => (⟨p.1, p.2.1, p.2.2.1, p.2.2.2.1, p.2.2.2.2⟩ : br)) ((ko ay (ko c9 (ko c9 (ko be (cq b9))))).dec fr h [y0, y1, y2, y3, y4]) := rfl
  rw [h1]
  simp only [ahl, zd, si, D4, w6, Bn, wy, List.take_succ_cons, List.take_zero, List.drop_succ_cons, List.drop_zero, X8, X4]
  cases (fy an fr h y0) <;> cases (c9.dec fr h [y1]) <;> cases (c9.dec fr h [y2]) <;> cases (be.dec fr h [y3]) <;> cases (fy b9 fr h y4) <;> rfl
structure bh where
  origin : Name
  ak : List br
def mkZ (origin : Name) (ak : List br) : bh := ⟨origin, ak⟩
theorem agb (x : bh) : mkZ x.origin x.ak = x := id rfl
def bn : c7 bh := xp (ko ay (cq ar)) (fun x => (x.origin, x.ak)) (fun p => ⟨p.1, p.2⟩) (fun _ => rfl) (fun _ => rfl)
theorem m5 (l : Bool) (x : bh) : bn.val l x = .agg [.vl l 1 (x.origin.map (an.val l)), .vl l 5 (x.ak.map (ar.val l))] := id rfl
theorem zz (l : Bool) (x : bh) : bn.cells l x = [.vl l 1 (x.origin.map (an.val l)), .vl l 5 (x.ak.map (ar.val l))] := id rfl
theorem Gt : bn.sz = 2 := id rfl
theorem Eu (fr : Bool) (h : Tr ba) (y0 y1 : AV) : bn.fj fr h (.agg [y0, y1]) = match fy an fr h y0, fy ar fr h y1 with
    | some v0, some v1 => some (mkZ v0 v1)
    | _, _ => none := by
  rw [ux _ _ _ _ rfl rfl]
  have h1 : bn.dec fr h (AV.agg [y0, y1]).cells = Option.map (fun p => (⟨p.1, p.2⟩ : bh)) ((ko ay (cq ar)).dec fr h [y0, y1]) := rfl
  rw [h1]
  simp only [ahl, zd, si, D4, w6, Bn, wy, List.take_succ_cons, List.take_zero, List.drop_succ_cons, List.drop_zero, X8, X4]
  cases (fy an fr h y0) <;> cases (fy ar fr h y1) <;> rfl
theorem Ka (fr : Bool) (h : Tr ba) (y0 y1 : AV) : bn.dec fr h [y0, y1] = match fy an fr h y0, fy ar fr h y1 with
    | some v0, some v1 => some (mkZ v0 v1)
    | _, _ => none := (Tz bn fr h _ rfl).trans (Eu fr h y0 y1)
structure tv where
  addr : UInt32
  au : List Int
def dj : c7 tv := xp (ko be (cq (aw .i64))) (fun x => (x.addr, x.au)) (fun p => ⟨p.1, p.2⟩) (fun _ => rfl) (fun _ => rfl)
theorem Nu (l : Bool) (x : tv) : dj.val l x = .agg [.sc (.int .u32 x.addr.toNat), .vl l 1 (x.au.map ((aw .i64).val l))] := id rfl
theorem Pu : dj.sz = 2 := id rfl
structure bc where
  au : List bh
  db : List tv
  hints : List UInt32
def mkW (au : List bh) (db : List tv) (hints : List UInt32) : bc := ⟨au, db, hints⟩
theorem ag0 (x : bc) : mkW x.au x.db x.hints = x := id rfl
def cd : c7 bc := xp (ko (cq bn) (ko (cq dj) (cq be))) (fun x => (x.au, x.db, x.hints)) (fun p => ⟨p.1, p.2.1, p.2.2⟩) (fun _ => rfl) (fun _ => rfl)
theorem eb (l : Bool) (x : bc) : cd.val l x = .agg [.vl l 2 (x.au.map (bn.val l)), .vl l 2 (x.db.map (dj.val l)), .vl l 1 (x.hints.map (be.val l))] := id rfl
theorem J0 (fr : Bool) (h : Tr ba) (y0 y1 y2 : AV) : cd.fj fr h (.agg [y0, y1, y2]) = match fy bn fr h y0, fy dj fr h y1, fy be fr h y2 with
    | some v0, some v1, some v2 => some (mkW v0 v1 v2)
    | _, _, _ => none := by
  rw [ux _ _ _ _ rfl rfl]
  have h1 : cd.dec fr h (AV.agg [y0, y1, y2]).cells = Option.map (fun p => (⟨p.1, p.2.1, p.2.2⟩ : bc)) ((ko (cq bn) (ko (cq dj) (cq be))).dec fr h [y0, y1, y2]) := rfl
  rw [h1]
  simp only [ahl, zd, si, D4, w6, Bn, wy, List.take_succ_cons, List.take_zero, List.drop_succ_cons, List.drop_zero, X8, X4]
  cases (fy bn fr h y0) <;> cases (fy dj fr h y1) <;> cases (fy be fr h y2) <;> rfl
structure Yf where
  kind : Int
  node : Name
  age : Name
def mkP (kind : Int) (node : Name) (age : Name) : Yf := ⟨kind, node, age⟩
structure aho where
  turn : Int
  ak : List br
  to : Name
def Zm (turn : Int) (ak : List br) (to : Name) : aho := ⟨turn, ak, to⟩
structure se where
  z : bh
  e : Int
def mkL (z : bh) (e : Int) : se := ⟨z, e⟩
theorem aqo (z e) : (mkL z e).z = z := id rfl
def lf : c7 se := xp (ko bn (aw .i64)) (fun x => (x.z, x.e)) (fun p => ⟨p.1, p.2⟩) (fun _ => rfl) (fun _ => rfl)
theorem zv (l : Bool) (x : se) : lf.cells l x = [.vl l 1 (x.z.origin.map (an.val l)), .vl l 5 (x.z.ak.map (ar.val l)), .sc (.int .i64 x.e)] := id rfl
theorem Sc : lf.sz = 3 := id rfl
theorem aee (fr : Bool) (h : Tr ba) (y00 y01 y1 : AV) : lf.fj fr h (.agg [y00, y01, y1]) = match bn.fj fr h (.agg [y00, y01]), (aw .i64).dec fr h [y1] with
    | some v0, some v1 => some (mkL v0 v1)
    | _, _ => none := by
  rw [ux _ _ _ _ rfl rfl]
  have h1 : lf.dec fr h (AV.agg [y00, y01, y1]).cells = Option.map (fun p => (⟨p.1, p.2⟩ : se)) ((ko bn (aw .i64)).dec fr h [y00, y01, y1]) := rfl
  rw [h1]
  simp only [ahl, zd, si, D4, w6, Bn, wy, List.take_succ_cons, List.take_zero, List.drop_succ_cons, List.drop_zero, X8, X4, Gt, Tz bn fr h _ rfl]
  cases (bn.fj fr h (.agg [y00, y01])) <;> cases ((aw .i64).dec fr h [y1]) <;> rfl
theorem I3 (fr : Bool) (h : Tr ba) (y00 y01 y1 : AV) : lf.dec fr h [y00, y01, y1] = match bn.fj fr h (.agg [y00, y01]), (aw .i64).dec fr h [y1] with
    | some v0, some v1 => some (mkL v0 v1)
    | _, _ => none := (Tz lf fr h _ rfl).trans (aee fr h y00 y01 y1)
structure Zf where
  aq3 : Int
  aa : Bool
  answer : List br
  authority : List br
  Rs : List br
def W2 (aq3 : Int) (aa : Bool) (answer : List br) (authority : List br) (Rs : List br) : Zf := ⟨aq3, aa, answer, authority, Rs⟩
theorem ae : type_of% @H9 ∧ type_of% @afj ∧ type_of% @dv4 ∧ type_of% @Z2 ∧ type_of% @acg ∧ type_of% @afx ∧ type_of% @Ov ∧ type_of% @Ot ∧ type_of% @at4 ∧ type_of% @Jh ∧ type_of% @Hx ∧ type_of% @Nq ∧ type_of% @z5 ∧ type_of% @Jk ∧ type_of% @aff ∧ type_of% @jf ∧ type_of% @W5 ∧ type_of% @Ra ∧ type_of% @agb ∧ type_of% @Ka ∧ type_of% @m5 ∧ type_of% @Gt ∧ type_of% @Eu ∧ type_of% @Nu ∧ type_of% @Pu ∧ type_of% @ag0 ∧ type_of% @J0 ∧ type_of% @aqo ∧ type_of% @I3 ∧ type_of% @Sc :=
  ⟨@H9, @afj, @dv4, @Z2, @acg, @afx, @Ov, @Ot, @at4, @Jh, @Hx, @Nq, @z5, @Jk, @aff, @jf, @W5, @Ra, @agb, @Ka, @m5, @Gt, @Eu, @Nu, @Pu, @ag0, @J0, @aqo, @I3, @Sc⟩
end
end Go.Vm
end
section
set_option linter.unusedSimpArgs false
set_option linter.unusedVariables false
namespace Go.Proofs.YtidomogemfchpaaGreat
open Go.Vm
set_option maxRecDepth 2000000
noncomputable def zj (t : UInt16) (l : List ct) (d : ct) : Bool := l.any fun x => L6 t x d
theorem aup (t : UInt16) (l : List ct) (d : ct) (hl : ∀ x ∈ l, dn x) (hn : l.length ≤ 16777216) (hd : dn d) : wl PP [] 0 (Tryz.f118.body.getD .skip) (de PP Tryz.f118.results.toList (fun r st => (r1 bo).get true st.h r = some (zj t l d))) (cb 0 [c9.val false t, (cq b9).val false l, b9.val false d]) (bp []) := by
  unfold Tryz.f118
  simp only [o9, lj]
  simp only [↓wR, RA, simprocAttr, TF, ae]
  refine bm (T := []) (aj.nil PP) mixed Tryz.func148 rfl (by kernel_rfl) (by kernel_rfl) (by kernel_rfl) (by kernel_rfl) ?_; unfold Tryz.f148
  simp only [↓wR, RA, simprocAttr, TF, ae]
  refine bm (T := []) (aj.nil PP) mixed Tryz.func174 rfl (by kernel_rfl) (by kernel_rfl) (by kernel_rfl) (by kernel_rfl) ?_; unfold Tryz.f174
  simp only [↓wR, RA, simprocAttr, TF, ae]
  refine c6 [0, 1, 7, 8] (fun (i : Nat) => [.vl false 4 (l.map (b9.val false)), .fn (.func 149) [] [.ptr 0 0, .ptr 1 0], .sc (.int .i64 (l.length)), .sc (.int .i64 (i))]) (fun _ => [some (.row [.sc (.int .u16 t.toNat)] 0 2 28), some (.row [.vl false 1 (d.names.map (ay.val false)), .vl false 1 (d.nums.map (be.val false)), .vl false 1 (d.texts.map (an.val false)), .vl false 1 (d.raw.map (cj.val false))] 0 2 83)]) (fun i => i ≤ l.length ∧ zj t l d = zj t (l.drop i) d) (fun i => l.length - i) 0 ⟨Nat.zero_le _, rfl⟩ (by simp only [↓wR, RA, simprocAttr, TF, ae] <;> rfl) (by simp only [↓wR, RA, simprocAttr, TF, ae] <;> rfl) ?_
  rintro i ⟨hi, hx⟩
  simp only [↓wR, RA, simprocAttr, TF, ae]
  rw [bf]; refine ⟨fun h => ?_, fun h => ?_⟩
  · obtain ⟨c, hc, hd1, hlt⟩ := di (decide_eq_true h)
    have hx' : zj t l d = (L6 t c d || zj t (l.drop (i + 1)) d) := by rw [hx, hd1]; rfl
    simp only [↓wR, RA, simprocAttr, TF, ae, h, hc]; repeat (simp (disch := omega) only [ah, bu, b7, bw, bz]; try simp only [↓wR, RA, simprocAttr, TF, ae, h, hc])
    refine bm (T := [apa]) (aj.cons (ai Xy) (aj.nil PP)) mixed Tryz.func149 rfl (by kernel_rfl) (by kernel_rfl) (by kernel_rfl) (by kernel_rfl) ?_; unfold Tryz.f149
    simp only [↓wR, RA, simprocAttr, TF, ae, Aj, hl c (List.mem_of_getElem? hc), hd]
    rw [bk]; refine ⟨fun h1 => ?_, fun h1 => ?_⟩
    · rw [h1, Bool.true_or] at hx'
      simp only [↓wR, RA, simprocAttr, TF, ae, h1]
      rw [hx']
      done
    · rw [h1, Bool.false_or] at hx'
      simp only [↓wR, RA, simprocAttr, TF, ae, h1]; repeat (simp (disch := omega) only [ah, bu, b7, bw, bz]; try simp only [↓wR, RA, simprocAttr, TF, ae, h1])
      exact ⟨i + 1, ⟨hlt, hx'⟩, by omega, by (first | rfl | trivial | omega | ((try (simp (disch := omega) only [ah])); (try (simp only [FB])); first | done | rfl | omega))⟩
  · rw [du (decide_eq_false h)] at hx
    simp only [↓wR, RA, simprocAttr, TF, ae, h]
    rw [hx]; rfl
def o0 (l : List ct) : Prop := g9 su l ≤ 16777216
instance (l : List ct) : Decidable (o0 l) := inferInstanceAs (Decidable (_ ≤ _))
theorem o0.mem {l : List ct} (h : o0 l) : ∀ x ∈ l, dn x := fun x hx => by
  have h1 : su x < g9 su l := qx hx
  unfold o0 at h; unfold dn; omega
theorem o0.len {l : List ct} (h : o0 l) : l.length ≤ 16777216 := Nat.le_trans (pw su l) h
theorem O7 {α : Type} (f : α → Nat) (l : List α) (i : Nat) : g9 f (l.take i) ≤ g9 f l := by
  induction l generalizing i with
  | nil => simp
  | cons a l ih =>
    cases i with
    | zero => exact Nat.zero_le _
    | succ i => have := ih i; simp only [g9, List.take_succ_cons, List.foldr_cons] at this ⊢; omega
theorem o0.take {l : List ct} (h : o0 l) (i : Nat) : o0 (l.take i) := Nat.le_trans (O7 su l i) h
noncomputable def Mc (x : UInt16 × List ct × ct × Unit) : Option AV := if o0 x.2.1 ∧ dn x.2.2.1 then some ((r1 bo).E true (zj x.1 x.2.1 x.2.2.1)) else none
set_option maxRecDepth 2000000 in
theorem U6 (x : UInt16 × List ct × ct × Unit) (r : AV) (h : Mc x = some r) : bg PP 118 ((aC c9 (aC (cq b9) (aC b9 a0))).E x) r := by
  by_cases hc : o0 x.2.1 ∧ dn x.2.2.1
  case neg => simp only [Mc, if_neg hc] at h; cases h
  simp only [Mc, if_pos hc] at h
  cases h
  exact bb (aj.nil PP) Tryz.func118 (by kernel_rfl) (by kernel_rfl) (by kernel_rfl) (Nat.le_of_ble_eq_true (by kernel_rfl)) (r1 bo) true (zj x.1 x.2.1 x.2.2.1) (aup x.1 x.2.1 x.2.2.1 hc.1.mem hc.1.len hc.2)
noncomputable abbrev aun : Nat × Bool × (List AV → M AV) := (118, true, da (aC c9 (aC (cq b9) (aC b9 a0))) Mc)
def n9 (s : br) : Nat := ca s.owner + g9 su s.data
def dg (s : br) : Prop := n9 s ≤ 16777216
instance (s : br) : Decidable (dg s) := inferInstanceAs (Decidable (_ ≤ _))
theorem dg.owner {s : br} (h : dg s) : bt s.owner := by unfold dg n9 at h; unfold bt; omega
theorem dg.data {s : br} (h : dg s) : o0 s.data := by unfold dg n9 at h; unfold o0; omega
noncomputable def qj (t : UInt16) : List ct → List ct → Int
  | _, [] => 0
  | pre, d :: r => if fh t d ≠ 0 then fh t d else if zj t pre d = true then 10 else qj t (pre ++ [d]) r
noncomputable def qv (s : br) : Int :=
  if ea s.owner ≠ 0 then ea s.owner else if s.data.length = 0 then 9 else if 512 < s.data.length then 3 else qj s.type [] s.data
theorem ad9 (t : UInt16) {l : List ct} {i : Nat} {c : ct} (hc : l[i]? = some c) : qj t (l.take i) (l.drop i) = if fh t c ≠ 0 then fh t c else if zj t (l.take i) c = true then 10 else qj t (l.take (i + 1)) (l.drop (i + 1)) := by
  obtain ⟨hi, rfl⟩ := List.getElem?_eq_some_iff.1 hc
  rw [List.drop_eq_getElem_cons hi, qj, List.take_succ_eq_append_getElem hi]
theorem aek (s : br) (hs : dg s) : wl PP [dw, I5, aun] 0 (Tryz.f151.body.getD .skip) (de PP Tryz.f151.results.toList (fun r st => (r1 (aw .i64)).get true st.h r = some (qv s))) (cb 0 [ar.val false s]) (bp []) := by
  have ho := hs.owner
  have hd := hs.data
  have hn := hd.len
  unfold Tryz.f151
  simp only [jf]
  simp only [↓wR, RA, simprocAttr, TF, ae, l7, ho.fit]
  unfold qv
  rw [bk]; refine ⟨fun h => ?_, fun h => ?_⟩
  · have he : ea s.owner ≠ 0 := by simpa using h
    rw [if_pos he]
    simp only [↓wR, RA, simprocAttr, TF, ae, h]
  have he : ea s.owner = 0 := by simpa using h
  rw [if_neg (by omega)]
  simp only [↓wR, RA, simprocAttr, TF, ae, h]
  rw [dc]; refine ⟨fun ⟨h1, e1⟩ => ?_, fun ⟨h1, e1⟩ => ?_⟩
  · rw [if_pos (by omega)]
    simp only [↓wR, RA, simprocAttr, TF, ae, h1]
  rw [if_neg (by omega)]
  simp only [↓wR, RA, simprocAttr, TF, ae, h1]
  rw [bf]; refine ⟨fun h2 => ?_, fun h2 => ?_⟩
  · rw [if_pos (by omega)]
    simp only [↓wR, RA, simprocAttr, TF, ae, h2]
  rw [if_neg (by omega)]
  simp only [↓wR, RA, simprocAttr, TF, ae, h2]
  refine c6 [1, 24, 25, 26] (fun (i : Nat) => [.ptr 0 0, .vl false 4 (s.data.map (b9.val false)), .sc (.int .i64 (s.data.length)), .sc (.int .i64 (i))]) (fun _ => [some (.row [.vl false 1 (s.owner.map (an.val false)), .sc (.int .u16 s.type.toNat), .sc (.int .u16 s.cls.toNat), .sc (.int .u32 s.tt.toNat), .vl false 4 (s.data.map (b9.val false))] 0 2 40)]) (fun i => i ≤ s.data.length ∧ qj s.type [] s.data = qj s.type (s.data.take i) (s.data.drop i)) (fun i => s.data.length - i) 0 ⟨Nat.zero_le _, rfl⟩ (by simp only [↓wR, RA, simprocAttr, TF, ae] <;> rfl) (by simp only [↓wR, RA, simprocAttr, TF, ae] <;> rfl) ?_
  rintro i ⟨hi, hx⟩
  simp only [↓wR, RA, simprocAttr, TF, ae]
  rw [bf]; refine ⟨fun h3 => ?_, fun h3 => ?_⟩
  · obtain ⟨c, hc, hd1, hlt⟩ := di (decide_eq_true h3)
    rw [ad9 _ hc] at hx
    have hcs := hd.mem c (List.mem_of_getElem? hc)
    simp only [↓wR, RA, simprocAttr, TF, ae, h3, hc, pz, hcs]
    rw [bk]; refine ⟨fun h4 => ?_, fun h4 => ?_⟩
    · have he4 : fh s.type c ≠ 0 := by simpa using h4
      rw [if_pos he4] at hx
      simp only [↓wR, RA, simprocAttr, TF, ae, h4]
      rw [hx]
    · have he4 : fh s.type c = 0 := by simpa using h4
      rw [if_neg (by omega)] at hx
      simp only [↓wR, RA, simprocAttr, TF, ae, h4]
      refine ⟨by kernel_rfl, .inl ?_⟩
      simp only [↓wR, RA, simprocAttr, TF, ae, hi, Mc, hd.take i, hcs]
      refine ⟨by kernel_rfl, ?_⟩
      rw [bk]; refine ⟨fun h5 => ?_, fun h5 => ?_⟩
      · rw [if_pos h5] at hx
        simp only [↓wR, RA, simprocAttr, TF, ae, h5]
        rw [hx]
      · rw [if_neg (by rw [h5]; decide)] at hx
        simp only [↓wR, RA, simprocAttr, TF, ae, h5]; repeat (simp (disch := omega) only [ah, bu, b7, bw, bz]; try simp only [↓wR, RA, simprocAttr, TF, ae, h5])
        exact ⟨i + 1, ⟨hlt, hx⟩, by omega, by (first | rfl | trivial | omega | ((try (simp (disch := omega) only [ah])); (try (simp only [FB])); first | done | rfl | omega))⟩
  · rw [du (decide_eq_false h3)] at hx
    simp only [↓wR, RA, simprocAttr, TF, ae, h3]
    rw [hx]; rfl
noncomputable def xb (x : br × Unit) : Option AV := if dg x.1 then some ((r1 (aw .i64)).E true (qv x.1)) else none
set_option maxRecDepth 2000000 in
theorem Ib (x : br × Unit) (r : AV) (h : xb x = some r) : bg PP 151 ((aC ar a0).E x) r := by
  by_cases hc : dg x.1
  case neg => simp only [xb, if_neg hc] at h; cases h
  simp only [xb, if_pos hc] at h
  cases h
  exact bb (aj.cons (ai ky) (aj.cons (ai zi) (aj.cons (ai U6) (aj.nil PP)))) Tryz.func151 (by kernel_rfl) (by kernel_rfl) (by kernel_rfl) (Nat.le_of_ble_eq_true (by kernel_rfl)) (r1 (aw .i64)) true (qv x.1) (aek x.1 hc)
noncomputable abbrev fm : Nat × Bool × (List AV → M AV) := (151, true, da (aC ar a0) xb)
end Go.Proofs.YtidomogemfchpaaGreat
end
section
set_option linter.unusedSimpArgs false
set_option linter.unusedVariables false
namespace Go.Proofs.YtidomogemfchpaaGreat
open Go.Vm
set_option maxRecDepth 2000000
theorem ajm (s : br) (hs : dg s) : wl PP [yw, apz] 0 (Tryz.f37.body.getD .skip) (de PP Tryz.f37.results.toList (fun r st => (r1 ar).get true st.h r = some s)) (cb 0 [ar.val false s]) (bp []) := by
  have ho := hs.owner
  have hd := hs.data
  have hn := hd.len
  unfold Tryz.f37
  simp only [jf]
  simp only [↓wR, RA, simprocAttr, TF, ae, ng, ho]
  refine nd [2, 13, 14, 15, 3] (fun (x : List ct) => [.ptr 0 0, .vl false 4 (s.data.map (b9.val false)), .sc (.int .i64 (s.data.length)), .sc (.int .i64 (x.length)), .ptr 1 0]) (fun x => [some (.row [.sc (.slice none 0 0), .sc (.int .u16 0), .sc (.int .u16 0), .sc (.int .u32 0), .sc (.slice none 0 0)] 0 2 40), some (.row [ay.val true s.owner, .sc (.int .u16 s.type.toNat), .sc (.int .u16 s.cls.toNat), .sc (.int .u32 s.tt.toNat), .sl 2 0 x.length 4] 0 2 40), some (.row (cellsOf b9 true x) 0 0 83)]) (fun x => x.length ≤ s.data.length ∧ x ++ s.data.drop x.length = s.data) (fun x => s.data.length - x.length) [] ⟨Nat.zero_le _, rfl⟩ (by simp only [↓wR, RA, simprocAttr, TF, ae]; (refine tr.lax [] (by first | exact Nat.le_of_ble_eq_true rfl | (simp [cp]; omega)) ?_ ?_ <;> repeat' first | exact jb.nil | exact dm.nil | exact jl.same _ | exact jl.nil _ _ _ | exact jl.x8 _ _ | exact dm.refl _ _ | apply jb.cons | apply dm.ghost | apply dm.same | apply dm.row)) ?_
  rintro x ⟨hi, hx⟩
  simp only [↓wR, RA, simprocAttr, TF, ae]
  rw [bf]; refine ⟨fun h => ?_, fun h => ?_⟩
  · obtain ⟨c, hc, hd1, hlt⟩ := di (decide_eq_true h)
    rw [hd1] at hx
    have hcs := hd.mem c (List.mem_of_getElem? hc)
    simp only [↓wR, RA, simprocAttr, TF, ae, h, hc]
    refine ⟨by kernel_rfl, .inl ?_⟩
    have hlim : (x.length * 4 + 4) * 96 ≤ 140737488355328 := by omega
    simp only [↓wR, RA, simprocAttr, TF, ae, A2, hcs, hlim]
    refine ⟨by kernel_rfl, x ++ [c], ⟨by simp; omega, by simpa using hx⟩, by simp; omega, by (first | rfl | trivial | omega | ((try (simp (disch := omega) only [ah])); (try (simp only [FB])); first | done | rfl | omega)), ?_⟩
    rw [Xd, List.length_append]; rfl
  · rw [du (decide_eq_false h)] at hx
    rw [List.append_nil] at hx
    subst hx
    simp only [↓wR, RA, simprocAttr, TF, ae, h]
noncomputable def yy (x : br × Unit) : Option AV := if dg x.1 then some ((r1 ar).E true (x.1)) else none
set_option maxRecDepth 2000000 in
theorem Yk (x : br × Unit) (r : AV) (h : yy x = some r) : bg PP 37 ((aC ar a0).E x) r := by
  by_cases hc : dg x.1
  case neg => simp only [yy, if_neg hc] at h; cases h
  simp only [yy, if_pos hc] at h
  cases h
  exact bb (aj.cons (ai pr) (aj.cons (ai Xs) (aj.nil PP))) Tryz.func37 (by kernel_rfl) (by kernel_rfl) (by kernel_rfl) (Nat.le_of_ble_eq_true (by kernel_rfl)) (r1 ar) true (x.1) (ajm x.1 hc)
noncomputable abbrev ar8 : Nat × Bool × (List AV → M AV) := (37, true, da (aC ar a0) yy)
end Go.Proofs.YtidomogemfchpaaGreat
end
section
set_option linter.unusedSimpArgs false
set_option linter.unusedVariables false
namespace Go.Proofs.YtidomogemfchpaaGreat
open Go.Vm
set_option maxRecDepth 2000000
def wu (z : bh) : Nat := ca z.origin + g9 n9 z.ak
def dh (z : bh) : Prop := wu z ≤ 16777216
instance (z : bh) : Decidable (dh z) := inferInstanceAs (Decidable (_ ≤ _))
theorem dh.origin {z : bh} (h : dh z) : bt z.origin := by unfold dh wu at h; unfold bt; omega
theorem dh.set {z : bh} (h : dh z) : ∀ s ∈ z.ak, dg s := fun s hs => by
  have h1 : n9 s < g9 n9 z.ak := qx hs
  unfold dh wu at h; unfold dg; omega
theorem dh.len {z : bh} (h : dh z) : z.ak.length ≤ 16777216 := by have := pw n9 z.ak; unfold dh wu at h; omega
def Cc (n top : Name) : Bool := decide (top.length < n.length) && dp n top
theorem ap4 (n top : Name) (hn : bt n) (ht : bt top) : wl PP [px] 0 (Tryz.f131.body.getD .skip) (de PP Tryz.f131.results.toList (fun r st => (r1 bo).get true st.h r = some (Cc n top))) (cb 0 [ay.val false n, ay.val false top]) (bp []) := by
  unfold Tryz.f131
  simp only [dz]
  simp only [↓wR, RA, simprocAttr, TF, ae]
  unfold Cc
  rw [bf]; refine ⟨fun h => ?_, fun h => ?_⟩
  · rw [decide_eq_true (show top.length < n.length by omega)]
    simp only [↓wR, RA, simprocAttr, TF, ae, h, g7, hn, ht]
  · rw [decide_eq_false (show ¬ top.length < n.length by omega)]
    simp only [↓wR, RA, simprocAttr, TF, ae, h]
    rfl
noncomputable def B2 (x : Name × Name × Unit) : Option AV := if bt x.1 ∧ bt x.2.1 then some ((r1 bo).E true (Cc x.1 x.2.1)) else none
set_option maxRecDepth 2000000 in
theorem M5 (x : Name × Name × Unit) (r : AV) (h : B2 x = some r) : bg PP 131 ((aC ay (aC ay a0)).E x) r := by
  by_cases hc : bt x.1 ∧ bt x.2.1
  case neg => simp only [B2, if_neg hc] at h; cases h
  simp only [B2, if_pos hc] at h
  cases h
  exact bb (aj.cons (ai my) (aj.nil PP)) Tryz.func131 (by kernel_rfl) (by kernel_rfl) (by kernel_rfl) (Nat.le_of_ble_eq_true (by kernel_rfl)) (r1 bo) true (Cc x.1 x.2.1) (ap4 x.1 x.2.1 hc.1 hc.2)
noncomputable abbrev aki : Nat × Bool × (List AV → M AV) := (131, true, da (aC ay (aC ay a0)) B2)
def atV (z : bh) (n : Name) : List br := z.ak.filter fun s => gx s.owner n
theorem ak6 {l : List br} {p : br → Bool} {i : Nat} {c : br} (h : l.drop i = c :: l.drop (i + 1)) : (l.drop i).filter p = (if p c = true then [c] else []) ++ (l.drop (i + 1)).filter p := by
  rw [h, List.filter_cons]; split <;> rfl
theorem ahu {l : List br} (p : br → Bool) : (l.filter p).length ≤ l.length := List.length_filter_le _ _
def Mb (n : Name) (b : Option Name) : Bool := match b with | none => true | some m => decide (n.length < m.length)
def jv (z : bh) (n : Name) (best : Option Name) (s : br) : Option Name :=
  if (decide ((s.type.toNat : Int) = 2) && (Cc s.owner z.origin && (dp n s.owner && Mb s.owner best))) = true then some s.owner else best
def u3 (z : bh) (n : Name) : Option Name := z.ak.foldl (jv z n) none
theorem anz {z : bh} {n : Name} (hz : dh z) : ∀ (l : List br) (b : Option Name), (∀ s ∈ l, s ∈ z.ak) → (∀ m, b = some m → bt m) → ∀ m, l.foldl (jv z n) b = some m → bt m := by
  intro l
  induction l with
  | nil => intro b _ hb m hm; exact hb m hm
  | cons s l ih =>
    intro b hl hb m hm
    refine ih (jv z n b s) (fun x hx => hl x (by simp [hx])) (fun q hq => ?_) m hm
    unfold jv at hq
    split at hq
    · cases hq; exact (hz.set s (hl s (by simp))).owner
    · exact hb q hq
theorem at6 (z : bh) (n : Name) (hz : dh z) (hn : bt n) : wl PP [px, aki, yw] 0 (Tryz.f86.body.getD .skip) (de PP Tryz.f86.results.toList (fun r st => (r2 ay bo).get true st.h r = some ((u3 z n).getD [], (u3 z n).isSome))) (cb 0 [bn.val false z, ay.val false n]) (bp []) := by
  have hl := hz.len
  unfold Tryz.f86
  simp only [m5, dz]
  simp only [↓wR, RA, simprocAttr, TF, ae]
  refine bm (T := []) (aj.nil PP) mixed Tryz.func127 rfl (by kernel_rfl) (by kernel_rfl) (by kernel_rfl) (by kernel_rfl) ?_; unfold Tryz.f127
  simp only [↓wR, RA, simprocAttr, TF, ae]
  refine ⟨[2, 3, 6, 7, 10], ?_⟩
  have hib : sb PP 154 = some (Tryz.f154.ntmps, Tryz.f154.body.getD .skip) := by kernel_rfl
  simp only [↓wR, RA, simprocAttr, TF, ae, hib]
  refine ⟨by kernel_rfl, fun l => ?_⟩
  unfold Tryz.f154
  simp only [↓wR, RA, simprocAttr, TF, ae]
  refine Ro [0, 2, 7, 8, 9] (fun (x : Nat × Option Name) => [.sc (.func (.yield l) #[] #[]), .ptr 5 0, .vl false 5 (z.ak.map (ar.val false)), .sc (.int .i64 (z.ak.length)), .sc (.int .i64 (x.1))]) (fun x => [some (.row [.vl false 1 (z.origin.map (an.val false)), .vl false 5 (z.ak.map (ar.val false))] 0 2 26), some (.row [.vl false 1 (n.map (an.val false))] 0 2 23), some (.row [.vl false 1 ((x.2.getD []).map (an.val false))] 0 2 23), some (.row [.sc (.bool (x.2.isSome))] 0 2 4), some (.row [.vl false 1 (z.origin.map (an.val false)), .vl false 5 (z.ak.map (ar.val false))] 0 2 26), some (.row [.sc (.int .u16 2)] 0 2 28)]) (fun x => x.1 ≤ z.ak.length ∧ u3 z n = (z.ak.drop x.1).foldl (jv z n) x.2 ∧ ∀ m, x.2 = some m → bt m) (fun x => z.ak.length - x.1) (0, none) ⟨Nat.zero_le _, rfl, fun m hm => by cases hm⟩ (by simp only [↓wR, RA, simprocAttr, TF, ae]; (refine tr.lax [] (by first | exact Nat.le_of_ble_eq_true rfl | (simp [cp]; omega)) ?_ ?_ <;> repeat' first | exact jb.nil | exact dm.nil | exact jl.same _ | exact jl.nil _ _ _ | exact jl.x8 _ _ | exact dm.refl _ _ | apply jb.cons | apply dm.ghost | apply dm.same | apply dm.row)) ?_
  rintro ⟨i, b⟩ ⟨hi, hx, hb⟩
  simp only at hi hx hb
  simp only [↓wR, RA, simprocAttr, TF, ae]
  rw [qs]; refine ⟨fun h => ?_, fun h => ?_⟩
  · obtain ⟨c, hc, hd1, hlt⟩ := di h
    have hcs := hz.set c (List.mem_of_getElem? hc)
    have hstep : u3 z n = (z.ak.drop (i + 1)).foldl (jv z n) (jv z n b c) := by rw [hx, hd1]; rfl
    simp only [↓wR, RA, simprocAttr, TF, ae, h, hc]
    rw [qs]; refine ⟨fun h2 => ?_, fun h2 => ?_⟩
    · have e2 : (c.type.toNat : Int) = 2 := by simpa using h2
      simp only [↓wR, RA, simprocAttr, TF, ae, h2]
      refine vh [0, 2, 7, 8, 9, 17, 19] ?_
      simp only [↓wR, RA, simprocAttr, TF, ae, vn, ln, B2, hcs.owner, hz.origin]
      rw [bk]; refine ⟨fun h3 => ?_, fun h3 => ?_⟩
      · simp only [↓wR, RA, simprocAttr, TF, ae, h3, g7, hcs.owner, hn]
        rw [bk]; refine ⟨fun h4 => ?_, fun h4 => ?_⟩
        · cases b with
          | none =>
            have hb2 : jv z n none c = some c.owner := by simp [jv, e2, h3, h4, Mb]
            rw [hb2] at hstep
            simp only [↓wR, RA, simprocAttr, TF, ae, h4, Option.isSome_none]; repeat (simp (disch := omega) only [ah, bu, b7, bw, bz]; try simp only [↓wR, RA, simprocAttr, TF, ae, h4, Option.isSome_none])
            exact ⟨(i + 1, some c.owner), ⟨hlt, hstep, fun m hm => by cases hm; exact hcs.owner⟩, by simp; omega, by (first | rfl | trivial | omega | ((try (simp (disch := omega) only [ah])); (try (simp only [FB])); first | done | rfl | omega)), by (first | rfl | trivial | omega | ((try (simp (disch := omega) only [ah])); (try (simp only [FB])); first | done | rfl | omega))⟩
          | some m =>
            simp only [↓wR, RA, simprocAttr, TF, ae, h4]
            rw [bf]; refine ⟨fun h5 => ?_, fun h5 => ?_⟩
            · have hb2 : jv z n (some m) c = some c.owner := by simp [jv, e2, h3, h4, Mb]; omega
              rw [hb2] at hstep
              simp only [↓wR, RA, simprocAttr, TF, ae, h5]; repeat (simp (disch := omega) only [ah, bu, b7, bw, bz]; try simp only [↓wR, RA, simprocAttr, TF, ae, h5])
              exact ⟨(i + 1, some c.owner), ⟨hlt, hstep, fun m hm => by cases hm; exact hcs.owner⟩, by simp; omega, by (first | rfl | trivial | omega | ((try (simp (disch := omega) only [ah])); (try (simp only [FB])); first | done | rfl | omega)), by (first | rfl | trivial | omega | ((try (simp (disch := omega) only [ah])); (try (simp only [FB])); first | done | rfl | omega))⟩
            · have hb2 : jv z n (some m) c = some m := by simp [jv, e2, h3, h4, Mb]; omega
              rw [hb2] at hstep
              simp only [↓wR, RA, simprocAttr, TF, ae, h5]; repeat (simp (disch := omega) only [ah, bu, b7, bw, bz]; try simp only [↓wR, RA, simprocAttr, TF, ae, h5])
              exact ⟨(i + 1, some m), ⟨hlt, hstep, hb⟩, by simp; omega, by (first | rfl | trivial | omega | ((try (simp (disch := omega) only [ah])); (try (simp only [FB])); first | done | rfl | omega)), by (first | rfl | trivial | omega | ((try (simp (disch := omega) only [ah])); (try (simp only [FB])); first | done | rfl | omega))⟩
        · have hb2 : jv z n b c = b := by simp [jv, h4]
          rw [hb2] at hstep
          simp only [↓wR, RA, simprocAttr, TF, ae, h4]; repeat (simp (disch := omega) only [ah, bu, b7, bw, bz]; try simp only [↓wR, RA, simprocAttr, TF, ae, h4])
          exact ⟨(i + 1, b), ⟨hlt, hstep, hb⟩, by simp; omega, by (first | rfl | trivial | omega | ((try (simp (disch := omega) only [ah])); (try (simp only [FB])); first | done | rfl | omega)), by (first | rfl | trivial | omega | ((try (simp (disch := omega) only [ah])); (try (simp only [FB])); first | done | rfl | omega))⟩
      · have hb2 : jv z n b c = b := by simp [jv, h3]
        rw [hb2] at hstep
        simp only [↓wR, RA, simprocAttr, TF, ae, h3]; repeat (simp (disch := omega) only [ah, bu, b7, bw, bz]; try simp only [↓wR, RA, simprocAttr, TF, ae, h3])
        exact ⟨(i + 1, b), ⟨hlt, hstep, hb⟩, by simp; omega, by (first | rfl | trivial | omega | ((try (simp (disch := omega) only [ah])); (try (simp only [FB])); first | done | rfl | omega)), by (first | rfl | trivial | omega | ((try (simp (disch := omega) only [ah])); (try (simp only [FB])); first | done | rfl | omega))⟩
    · have e2 : ¬ (c.type.toNat : Int) = 2 := by simpa using h2
      have hb2 : jv z n b c = b := by simp [jv, e2]
      rw [hb2] at hstep
      simp only [↓wR, RA, simprocAttr, TF, ae, h2]; repeat (simp (disch := omega) only [ah, bu, b7, bw, bz]; try simp only [↓wR, RA, simprocAttr, TF, ae, h2])
      exact ⟨(i + 1, b), ⟨hlt, hstep, hb⟩, by simp; omega, by (first | rfl | trivial | omega | ((try (simp (disch := omega) only [ah])); (try (simp only [FB])); first | done | rfl | omega)), by (first | rfl | trivial | omega | ((try (simp (disch := omega) only [ah])); (try (simp only [FB])); first | done | rfl | omega))⟩
  · rw [du h] at hx
    simp only [↓wR, RA, simprocAttr, TF, ae, h]
    cases b with
    | none =>
      have hc0 : u3 z n = none := hx
      simp only [↓wR, RA, simprocAttr, TF, ae, Option.isSome_none]
      rw [hc0]
      rfl
    | some m =>
      have hc0 : u3 z n = some m := hx
      simp only [↓wR, RA, simprocAttr, TF, ae, ng, hb m rfl]
      rw [hc0]
      rfl
noncomputable def Ha (x : bh × Name × Unit) : Option AV := if dh x.1 ∧ bt x.2.1 then some ((r2 ay bo).E true (((u3 x.1 x.2.1).getD [], (u3 x.1 x.2.1).isSome))) else none
set_option maxRecDepth 2000000 in
theorem Vb (x : bh × Name × Unit) (r : AV) (h : Ha x = some r) : bg PP 86 ((aC bn (aC ay a0)).E x) r := by
  by_cases hc : dh x.1 ∧ bt x.2.1
  case neg => simp only [Ha, if_neg hc] at h; cases h
  simp only [Ha, if_pos hc] at h
  cases h
  exact bb (aj.cons (ai my) (aj.cons (ai M5) (aj.cons (ai pr) (aj.nil PP)))) Tryz.func86 (by kernel_rfl) (by kernel_rfl) (by kernel_rfl) (Nat.le_of_ble_eq_true (by kernel_rfl)) (r2 ay bo) true (((u3 x.1 x.2.1).getD [], (u3 x.1 x.2.1).isSome)) (at6 x.1 x.2.1 hc.1 hc.2)
noncomputable abbrev auv : Nat × Bool × (List AV → M AV) := (86, true, da (aC bn (aC ay a0)) Ha)
end Go.Proofs.YtidomogemfchpaaGreat
end
section
set_option linter.unusedSimpArgs false
set_option linter.unusedVariables false
namespace Go.Proofs.YtidomogemfchpaaGreat
open Go.Vm
set_option maxRecDepth 2000000
def aju (z : bh) (n : Name) : Bool := dp n z.origin && (gx n z.origin || z.ak.any fun s => dp s.owner n)
theorem axe (z : bh) (n : Name) (hz : dh z) (hn : bt n) : wl PP [px, dx] 0 (Tryz.f109.body.getD .skip) (de PP Tryz.f109.results.toList (fun r st => (r1 bo).get true st.h r = some (aju z n))) (cb 0 [bn.val false z, ay.val false n]) (bp []) := by
  have hl := hz.len
  unfold Tryz.f109
  simp only [m5, dz]
  simp only [↓wR, RA, simprocAttr, TF, ae, g7, hn, hz.origin]
  unfold aju
  rw [bk]; refine ⟨fun h => ?_, fun h => ?_⟩
  · have h' : dp n z.origin = false := by simpa using h
    simp only [↓wR, RA, simprocAttr, TF, ae, h, h']
    rfl
  have h' : dp n z.origin = true := by simpa using h
  simp only [↓wR, RA, simprocAttr, TF, ae, h, h', iy, hn, hz.origin]
  rw [bk]; refine ⟨fun h2 => ?_, fun h2 => ?_⟩
  · simp only [↓wR, RA, simprocAttr, TF, ae, h2]
  simp only [↓wR, RA, simprocAttr, TF, ae, h2]
  refine bm (T := []) (aj.nil PP) mixed Tryz.func112 rfl (by kernel_rfl) (by kernel_rfl) (by kernel_rfl) (by kernel_rfl) ?_; unfold Tryz.f112
  simp only [↓wR, RA, simprocAttr, TF, ae]
  refine bm (T := []) (aj.nil PP) mixed Tryz.func147 rfl (by kernel_rfl) (by kernel_rfl) (by kernel_rfl) (by kernel_rfl) ?_; unfold Tryz.f147
  simp only [↓wR, RA, simprocAttr, TF, ae]
  refine c6 [0, 1, 7, 8] (fun (i : Nat) => [.vl false 5 (z.ak.map (ar.val false)), .fn (.func 145) [] [.ptr 1 0], .sc (.int .i64 (z.ak.length)), .sc (.int .i64 (i))]) (fun _ => [some (.row [.vl false 1 (z.origin.map (an.val false)), .vl false 5 (z.ak.map (ar.val false))] 0 2 26), some (.row [.vl false 1 (n.map (an.val false))] 0 2 23)]) (fun i => i ≤ z.ak.length ∧ (z.ak.any fun s => dp s.owner n) = ((z.ak.drop i).any fun s => dp s.owner n)) (fun i => z.ak.length - i) 0 ⟨Nat.zero_le _, rfl⟩ (by simp only [↓wR, RA, simprocAttr, TF, ae] <;> rfl) (by simp only [↓wR, RA, simprocAttr, TF, ae] <;> rfl) ?_
  rintro i ⟨hi, hx⟩
  simp only [↓wR, RA, simprocAttr, TF, ae]
  rw [bf]; refine ⟨fun h3 => ?_, fun h3 => ?_⟩
  · obtain ⟨c, hc, hd1, hlt⟩ := di (decide_eq_true h3)
    rw [hd1, List.any_cons] at hx
    have hcs := hz.set c (List.mem_of_getElem? hc)
    simp only [↓wR, RA, simprocAttr, TF, ae, h3, hc]; repeat (simp (disch := omega) only [ah, bu, b7, bw, bz]; try simp only [↓wR, RA, simprocAttr, TF, ae, h3, hc])
    refine bm (T := [px]) (aj.cons (ai my) (aj.nil PP)) mixed Tryz.func145 rfl (by kernel_rfl) (by kernel_rfl) (by kernel_rfl) (by kernel_rfl) ?_; unfold Tryz.f145
    simp only [↓wR, RA, simprocAttr, TF, ae, g7, hcs.owner, hn]
    rw [bk]; refine ⟨fun h4 => ?_, fun h4 => ?_⟩
    · rw [h4, Bool.true_or] at hx
      simp only [↓wR, RA, simprocAttr, TF, ae, h4]
      rw [hx]
    · rw [h4, Bool.false_or] at hx
      simp only [↓wR, RA, simprocAttr, TF, ae, h4]; repeat (simp (disch := omega) only [ah, bu, b7, bw, bz]; try simp only [↓wR, RA, simprocAttr, TF, ae, h4])
      exact ⟨i + 1, ⟨hlt, hx⟩, by omega, by (first | rfl | trivial | omega | ((try (simp (disch := omega) only [ah])); (try (simp only [FB])); first | done | rfl | omega))⟩
  · rw [du (decide_eq_false h3), List.any_nil] at hx
    simp only [↓wR, RA, simprocAttr, TF, ae, h3]
    rw [hx] <;> rfl
theorem amd (t : UInt16) : wl PP [] 0 (Tryz.f188.body.getD .skip) (de PP Tryz.f188.results.toList (fun r st => (r1 bo).get true st.h r = some false)) (cb 0 [c9.val false t]) (bp []) := by
  unfold Tryz.f188
  simp only [↓wR, RA, simprocAttr, TF, ae, bne_self_eq_false]
noncomputable def Uf (x : UInt16 × Unit) : Option AV := some ((r1 bo).E true (false))
set_option maxRecDepth 2000000 in
theorem aem (x : UInt16 × Unit) (r : AV) (h : Uf x = some r) : bg PP 188 ((aC c9 a0).E x) r := by
  cases h
  exact bb (aj.nil PP) Tryz.func188 (by kernel_rfl) (by kernel_rfl) (by kernel_rfl) (Nat.le_of_ble_eq_true (by kernel_rfl)) (r1 bo) true (false) (amd x.1)
noncomputable abbrev avb : Nat × Bool × (List AV → M AV) := (188, true, da (aC c9 a0) Uf)
def Y3 (a b : UInt16) : Int := if (a.toNat : Int) < b.toNat then -1 else if (b.toNat : Int) < a.toNat then 1 else 0
theorem asu (a b : UInt16) : wl PP [avb] 0 (Tryz.f170.body.getD .skip) (de PP Tryz.f170.results.toList (fun r st => (r1 (aw .i64)).get true st.h r = some (Y3 a b))) (cb 0 [c9.val false a, c9.val false b]) (bp []) := by
  unfold Tryz.f170
  unfold Y3
  simp only [↓wR, RA, simprocAttr, TF, ae, Uf]
  rw [bf]; refine ⟨fun h => ?_, fun h => ?_⟩
  · rw [if_pos h]
    simp only [↓wR, RA, simprocAttr, TF, ae, h]
  · rw [if_neg h]
    simp only [↓wR, RA, simprocAttr, TF, ae, h]
    rw [bf]; refine ⟨fun h2 => ?_, fun h2 => ?_⟩
    · rw [if_pos h2]
      simp only [↓wR, RA, simprocAttr, TF, ae, h2]
    · rw [if_neg h2]
      simp only [↓wR, RA, simprocAttr, TF, ae, h2]
noncomputable def Zq (x : UInt16 × UInt16 × Unit) : Option AV := some ((r1 (aw .i64)).E true (Y3 x.1 x.2.1))
set_option maxRecDepth 2000000 in
theorem ahv (x : UInt16 × UInt16 × Unit) (r : AV) (h : Zq x = some r) : bg PP 170 ((aC c9 (aC c9 a0)).E x) r := by
  cases h
  exact bb (aj.cons (ai aem) (aj.nil PP)) Tryz.func170 (by kernel_rfl) (by kernel_rfl) (by kernel_rfl) (Nat.le_of_ble_eq_true (by kernel_rfl)) (r1 (aw .i64)) true (Y3 x.1 x.2.1) (asu x.1 x.2.1)
noncomputable abbrev av8 : Nat × Bool × (List AV → M AV) := (170, true, da (aC c9 (aC c9 a0)) Zq)
def Wh : List Int → Int
  | [] => 0
  | a :: r => if a ≠ 0 then a else Wh r
theorem avt (l : List Int) (hl : l.length ≤ 16777216) : wl PP [] 0 (Tryz.f168.body.getD .skip) (de PP Tryz.f168.results.toList (fun r st => (r1 (aw .i64)).get true st.h r = some (Wh l))) (cb 0 [(cq (aw .i64)).val false l]) (bp []) := by
  unfold Tryz.f168
  rw [o9]
  simp only [↓wR, RA, simprocAttr, TF, ae]
  refine c6 [3, 6, 7, 8] (fun (i : Nat) => [.sc (.int .i64 (0)), .vl false 1 (l.map ((aw .i64).val false)), .sc (.int .i64 (l.length)), .sc (.int .i64 (i))]) (fun _ => []) (fun i => i ≤ l.length ∧ Wh l = Wh (l.drop i)) (fun i => l.length - i) 0 ⟨Nat.zero_le _, rfl⟩ (by simp only [↓wR, RA, simprocAttr, TF, ae] <;> rfl) (by simp only [↓wR, RA, simprocAttr, TF, ae] <;> rfl) ?_
  rintro i ⟨hi, hx⟩
  simp only [↓wR, RA, simprocAttr, TF, ae]
  rw [bf]; refine ⟨fun h => ?_, fun h => ?_⟩
  · obtain ⟨c, hc, hd1, hlt⟩ := di (decide_eq_true h)
    rw [hd1, Wh] at hx
    simp only [↓wR, RA, simprocAttr, TF, ae, h, hc]
    rw [gu]; refine ⟨fun ⟨h2, e2⟩ => ?_, fun ⟨h2, e2⟩ => ?_⟩
    · rw [if_pos e2] at hx
      simp only [↓wR, RA, simprocAttr, TF, ae, h2]
      rw [hx]
    · rw [if_neg (by omega)] at hx
      simp only [↓wR, RA, simprocAttr, TF, ae, h2]; repeat (simp (disch := omega) only [ah, bu, b7, bw, bz]; try simp only [↓wR, RA, simprocAttr, TF, ae, h2])
      exact ⟨i + 1, ⟨hlt, hx⟩, by omega, by (first | rfl | trivial | omega | ((try (simp (disch := omega) only [ah])); (try (simp only [FB])); first | done | rfl | omega))⟩
  · rw [du (decide_eq_false h)] at hx
    simp only [↓wR, RA, simprocAttr, TF, ae, h]
    rw [hx]; rfl
noncomputable def abj (x : List Int × Unit) : Option AV := if x.1.length ≤ 16777216 then some ((r1 (aw .i64)).E true (Wh x.1)) else none
set_option maxRecDepth 2000000 in
theorem apr (x : List Int × Unit) (r : AV) (h : abj x = some r) : bg PP 168 ((aC (cq (aw .i64)) a0).E x) r := by
  by_cases hc : x.1.length ≤ 16777216
  case neg => simp only [abj, if_neg hc] at h; cases h
  simp only [abj, if_pos hc] at h
  cases h
  exact bb (aj.nil PP) Tryz.func168 (by kernel_rfl) (by kernel_rfl) (by kernel_rfl) (Nat.le_of_ble_eq_true (by kernel_rfl)) (r1 (aw .i64)) true (Wh x.1) (avt x.1 hc)
noncomputable abbrev orC : Nat × Bool × (List AV → M AV) := (168, true, da (aC (cq (aw .i64)) a0) abj)
noncomputable def Lp (a b : br) : Int := Wh [adh a.owner b.owner, Y3 a.type b.type]
theorem aip (a b : br) (ha : dg a) (hb : dg b) : wl PP [aep, av8, orC] 0 (Tryz.f152.body.getD .skip) (de PP Tryz.f152.results.toList (fun r st => (r1 (aw .i64)).get true st.h r = some (Lp a b))) (cb 0 [ar.val false a, ar.val false b]) (bp []) := by
  unfold Tryz.f152
  simp only [jf]
  simp only [↓wR, RA, simprocAttr, TF, ae]
  refine ⟨by kernel_rfl, .inl ?_⟩
  simp only [↓wR, RA, simprocAttr, TF, ae, ue, Zq, abj, ha.owner, hb.owner]
  exact ⟨by kernel_rfl, rfl⟩
noncomputable def wv (x : br × br × Unit) : Option AV := if dg x.1 ∧ dg x.2.1 then some ((r1 (aw .i64)).E true (Lp x.1 x.2.1)) else none
set_option maxRecDepth 2000000 in
theorem Xm (x : br × br × Unit) (r : AV) (h : wv x = some r) : bg PP 152 ((aC ar (aC ar a0)).E x) r := by
  by_cases hc : dg x.1 ∧ dg x.2.1
  case neg => simp only [wv, if_neg hc] at h; cases h
  simp only [wv, if_pos hc] at h
  cases h
  exact bb (aj.cons (ai Oo) (aj.cons (ai ahv) (aj.cons (ai apr) (aj.nil PP)))) Tryz.func152 (by kernel_rfl) (by kernel_rfl) (by kernel_rfl) (Nat.le_of_ble_eq_true (by kernel_rfl)) (r1 (aw .i64)) true (Lp x.1 x.2.1) (aip x.1 x.2.1 hc.1 hc.2)
noncomputable abbrev Y7 : Nat × Bool × (List AV → M AV) := (152, true, da (aC ar (aC ar a0)) wv)
end Go.Proofs.YtidomogemfchpaaGreat
end
section
set_option linter.unusedSimpArgs false
set_option linter.unusedVariables false
namespace Go.Proofs.YtidomogemfchpaaGreat
open Go.Vm
set_option maxRecDepth 2000000
noncomputable def uj (t : UInt16) : List ct → Bool
  | a :: b :: r => if 0 ≤ O3 t a b then false else uj t (b :: r)
  | _ => true
noncomputable def jy (z : bh) (i : Nat) (s : br) : Bool :=
  (match i with | 0 => true | k + 1 => match z.ak[k]? with | some a => decide (¬ (Lp a s ≥ 0)) | none => true) && uj s.type s.data
theorem Bf (k : Nat) : ((k : Int) + 1).toNat = k + 1 := by omega
theorem Lt (k : Nat) : (0 : Int) ≤ (k : Int) + 1 := by omega
theorem W3 (t : UInt16) {l : List ct} {k : Nat} {a b : ct} (ha : l[k]? = some a) (hb : l[k + 1]? = some b) : uj t (l.drop k) = if 0 ≤ O3 t a b then false else uj t (l.drop (k + 1)) := by
  rw [F6 ha, F6 hb]; rfl
theorem Rx (t : UInt16) {l : List ct} {k : Nat} (h : l.length ≤ k + 1) : uj t (l.drop k) = true := by
  have : (l.drop k).length ≤ 1 := by rw [List.length_drop]; omega
  match hd : l.drop k with
  | [] => rfl
  | [a] => rfl
  | a :: b :: r => rw [hd] at this; simp at this
theorem apb (l : se) (i : Nat) (s : br) (hz : dh l.z) (hs : dg s) (hi : i ≤ l.z.ak.length) : wl PP [Y7, E8] 0 (Tryz.f122.body.getD .skip) (de PP Tryz.f122.results.toList (fun r st => (r1 bo).get true st.h r = some (jy l.z i s))) (cb 0 [.fw (lf.cells false l), (aw .i64).val false i, ar.val false s]) (bp []) := by
  have hd := hs.data
  have hn := hd.len
  have hl := hz.len
  unfold Tryz.f122
  simp only [jf]
  simp only [↓wR, RA, simprocAttr, TF, ae, zv]
  refine ⟨by kernel_rfl, .inl ?_⟩
  rw [bf]; refine ⟨fun h => ?_, fun h => ?_⟩
  · cases i with
    | zero => omega
    | succ k =>
    obtain ⟨a, ha⟩ : ∃ a, l.z.ak[k]? = some a := ⟨_, List.getElem?_eq_getElem (by omega)⟩
    have has := hz.set a (List.mem_of_getElem? ha)
    simp only [↓wR, RA, simprocAttr, TF, ae, h, ha, Int.natCast_add, Int.add_sub_cancel, wv, has, hs]; repeat (simp (disch := omega) only [ah, bu, b7, bw, bz]; try simp only [↓wR, RA, simprocAttr, TF, ae, h, ha, Int.natCast_add, Int.add_sub_cancel, wv, has, hs])
    refine ⟨by kernel_rfl, ?_⟩
    rw [bf]; refine ⟨fun h2 => ?_, fun h2 => ?_⟩
    · have hv : jy l.z (k + 1) s = false := by simp only [jy, ha]; simp [h2]
      simp only [↓wR, RA, simprocAttr, TF, ae, h2]
      rw [hv]
    have hv : jy l.z (k + 1) s = uj s.type s.data := by simp only [jy, ha]; simp [h2]
    clear ha
    simp only [↓wR, RA, simprocAttr, TF, ae, h2]
    refine c6 [5, 7] (fun (k : Nat) => [.ptr 0 0, .sc (.int .i64 ((k : Int) + 1))]) (fun _ => [some (.row [.vl false 1 (s.owner.map (an.val false)), .sc (.int .u16 s.type.toNat), .sc (.int .u16 s.cls.toNat), .sc (.int .u32 s.tt.toNat), .vl false 4 (s.data.map (b9.val false))] 0 2 40)]) (fun k => (k = 0 ∨ k + 1 ≤ s.data.length) ∧ uj s.type s.data = uj s.type (s.data.drop k)) (fun k => s.data.length - k) 0 ⟨.inl rfl, rfl⟩ (by simp only [↓wR, RA, simprocAttr, TF, ae] <;> rfl) (by simp only [↓wR, RA, simprocAttr, TF, ae] <;> rfl) ?_
    rintro k ⟨hk, hx⟩
    simp only [↓wR, RA, simprocAttr, TF, ae]
    rw [bf]; refine ⟨fun h5 => ?_, fun h5 => ?_⟩
    · obtain ⟨a, ha⟩ : ∃ a, s.data[k]? = some a := ⟨_, List.getElem?_eq_getElem (by omega)⟩
      obtain ⟨b, hb⟩ : ∃ b, s.data[k + 1]? = some b := ⟨_, List.getElem?_eq_getElem (by omega)⟩
      rw [W3 _ ha hb] at hx
      have has := hd.mem a (List.mem_of_getElem? ha)
      have hbs := hd.mem b (List.mem_of_getElem? hb)
      simp only [↓wR, RA, simprocAttr, TF, ae, h5]
      refine ⟨by kernel_rfl, .inl ?_⟩
      simp only [↓wR, RA, simprocAttr, TF, ae, ha, hb, Int.add_sub_cancel, Bf, Lt, l6, has, hbs]; repeat (simp (disch := omega) only [ah, bu, b7, bw, bz]; try simp only [↓wR, RA, simprocAttr, TF, ae, ha, hb, Int.add_sub_cancel, Bf, Lt, l6, has, hbs])
      refine ⟨by kernel_rfl, ?_⟩
      rw [bf]; refine ⟨fun h6 => ?_, fun h6 => ?_⟩
      · rw [if_pos h6] at hx
        simp only [↓wR, RA, simprocAttr, TF, ae, h6]
        rw [hv, hx]
      · rw [if_neg h6] at hx
        simp only [↓wR, RA, simprocAttr, TF, ae, h6]; repeat (simp (disch := omega) only [ah, bu, b7, bw, bz]; try simp only [↓wR, RA, simprocAttr, TF, ae, h6])
        exact ⟨k + 1, ⟨.inr (by omega), hx⟩, by omega, by (first | rfl | trivial | omega | ((try (simp (disch := omega) only [ah])); (try (simp only [FB])); first | done | rfl | omega))⟩
    · rw [Rx _ (by omega)] at hx
      simp only [↓wR, RA, simprocAttr, TF, ae, h5]
      rw [hv, hx]
  · simp only [↓wR, RA, simprocAttr, TF, ae, h]
    have hi0 : i = 0 := by omega
    have hv : jy l.z i s = uj s.type s.data := by rw [hi0]; simp [jy]
    refine ⟨by kernel_rfl, ?_⟩
    refine c6 [5, 7] (fun (k : Nat) => [.ptr 0 0, .sc (.int .i64 ((k : Int) + 1))]) (fun _ => [some (.row [.vl false 1 (s.owner.map (an.val false)), .sc (.int .u16 s.type.toNat), .sc (.int .u16 s.cls.toNat), .sc (.int .u32 s.tt.toNat), .vl false 4 (s.data.map (b9.val false))] 0 2 40)]) (fun k => (k = 0 ∨ k + 1 ≤ s.data.length) ∧ uj s.type s.data = uj s.type (s.data.drop k)) (fun k => s.data.length - k) 0 ⟨.inl rfl, rfl⟩ (by simp only [↓wR, RA, simprocAttr, TF, ae] <;> rfl) (by simp only [↓wR, RA, simprocAttr, TF, ae] <;> rfl) ?_
    rintro k ⟨hk, hx⟩
    simp only [↓wR, RA, simprocAttr, TF, ae]
    rw [bf]; refine ⟨fun h5 => ?_, fun h5 => ?_⟩
    · obtain ⟨a, ha⟩ : ∃ a, s.data[k]? = some a := ⟨_, List.getElem?_eq_getElem (by omega)⟩
      obtain ⟨b, hb⟩ : ∃ b, s.data[k + 1]? = some b := ⟨_, List.getElem?_eq_getElem (by omega)⟩
      rw [W3 _ ha hb] at hx
      have has := hd.mem a (List.mem_of_getElem? ha)
      have hbs := hd.mem b (List.mem_of_getElem? hb)
      simp only [↓wR, RA, simprocAttr, TF, ae, h5]
      refine ⟨by kernel_rfl, .inl ?_⟩
      simp only [↓wR, RA, simprocAttr, TF, ae, ha, hb, Int.add_sub_cancel, Bf, Lt, l6, has, hbs]; repeat (simp (disch := omega) only [ah, bu, b7, bw, bz]; try simp only [↓wR, RA, simprocAttr, TF, ae, ha, hb, Int.add_sub_cancel, Bf, Lt, l6, has, hbs])
      refine ⟨by kernel_rfl, ?_⟩
      rw [bf]; refine ⟨fun h6 => ?_, fun h6 => ?_⟩
      · rw [if_pos h6] at hx
        simp only [↓wR, RA, simprocAttr, TF, ae, h6]
        rw [hv, hx]
      · rw [if_neg h6] at hx
        simp only [↓wR, RA, simprocAttr, TF, ae, h6]; repeat (simp (disch := omega) only [ah, bu, b7, bw, bz]; try simp only [↓wR, RA, simprocAttr, TF, ae, h6])
        exact ⟨k + 1, ⟨.inr (by omega), hx⟩, by omega, by (first | rfl | trivial | omega | ((try (simp (disch := omega) only [ah])); (try (simp only [FB])); first | done | rfl | omega))⟩
    · rw [Rx _ (by omega)] at hx
      simp only [↓wR, RA, simprocAttr, TF, ae, h5]
      rw [hv, hx]
theorem anh (l : se) (i : Int) (s : br) (hz : dh l.z) (hs : dg s) (hi : 0 ≤ i ∧ i ≤ l.z.ak.length) : wl PP [Y7, E8] 0 (Tryz.f122.body.getD .skip) (de PP Tryz.f122.results.toList (fun r st => (r1 bo).get true st.h r = some (jy l.z i.toNat s))) (cb 0 [.fw (lf.cells false l), (aw .i64).val false i, ar.val false s]) (bp []) := by
  have := apb l i.toNat s hz hs (by omega)
  rwa [Int.toNat_of_nonneg hi.1] at this
noncomputable def Gi (x : se × Int × br × Unit) : Option AV := if (dh x.1.z ∧ dg x.2.2.1) ∧ 0 ≤ x.2.1 ∧ x.2.1 ≤ x.1.z.ak.length then some ((r1 bo).E true (jy x.1.z x.2.1.toNat x.2.2.1)) else none
set_option maxRecDepth 2000000 in
theorem Ng (x : se × Int × br × Unit) (r : AV) (h : Gi x = some r) : bg PP 122 ((aP lf (aC (aw .i64) (aC ar a0))).E x) r := by
  by_cases hc : (dh x.1.z ∧ dg x.2.2.1) ∧ 0 ≤ x.2.1 ∧ x.2.1 ≤ x.1.z.ak.length
  case neg => simp only [Gi, if_neg hc] at h; cases h
  simp only [Gi, if_pos hc] at h
  cases h
  exact bb (aj.cons (ai Xm) (aj.cons (ai Cw) (aj.nil PP))) Tryz.func122 (by kernel_rfl) (by kernel_rfl) (by kernel_rfl) (Nat.le_of_ble_eq_true (by kernel_rfl)) (r1 bo) true (jy x.1.z x.2.1.toNat x.2.2.1) (anh x.1 x.2.1 x.2.2.1 hc.1.1 hc.1.2 hc.2)
noncomputable abbrev iw : Nat × Bool × (List AV → M AV) := (122, true, da (aP lf (aC (aw .i64) (aC ar a0))) Gi)
end Go.Proofs.YtidomogemfchpaaGreat
end
section
set_option linter.unusedSimpArgs false
set_option linter.unusedVariables false
namespace Go.Proofs.YtidomogemfchpaaGreat
open Go.Vm
set_option maxRecDepth 2000000
def Ca (i : Nat) (n : Name) : Nat → List br → Bool
  | _, [] => false
  | k, o :: r => (decide (¬ (k : Int) = i) && gx o.owner n) || Ca i n (k + 1) r
def ik (z : bh) (i : Nat) (s : br) : Bool :=
  if ¬ (s.type.toNat : Int) = 5 then true else if ¬ (s.data.length : Int) = 1 then false else if gx s.owner z.origin = true then false else !Ca i s.owner 0 z.ak
theorem aqf (l : se) (i : Nat) (s : br) (hz : dh l.z) (hs : dg s) : wl PP [dx] 0 (Tryz.f128.body.getD .skip) (de PP Tryz.f128.results.toList (fun r st => (r1 bo).get true st.h r = some (ik l.z i s))) (cb 0 [.fw (lf.cells false l), (aw .i64).val false i, ar.val false s]) (bp []) := by
  have hl := hz.len
  unfold Tryz.f128
  simp only [jf]
  simp only [↓wR, RA, simprocAttr, TF, ae, zv]
  unfold ik
  rw [gu]; refine ⟨fun ⟨h, e⟩ => ?_, fun ⟨h, e⟩ => ?_⟩
  · rw [if_pos e]
    simp only [↓wR, RA, simprocAttr, TF, ae, h]
  rw [if_neg (by omega)]
  simp only [↓wR, RA, simprocAttr, TF, ae, h]
  refine ⟨by kernel_rfl, .inl ?_⟩
  rw [gu]; refine ⟨fun ⟨h2, e2⟩ => ?_, fun ⟨h2, e2⟩ => ?_⟩
  · rw [if_pos e2]
    simp only [↓wR, RA, simprocAttr, TF, ae, h2]
    exact by kernel_rfl
  rw [if_neg (by omega)]
  simp only [↓wR, RA, simprocAttr, TF, ae, h2, iy, hs.owner, hz.origin]
  refine ⟨by kernel_rfl, ?_⟩
  rw [bk]; refine ⟨fun h3 => ?_, fun h3 => ?_⟩
  · rw [if_pos h3]
    simp only [↓wR, RA, simprocAttr, TF, ae, h3]
  rw [if_neg (by rw [h3]; decide)]
  simp only [↓wR, RA, simprocAttr, TF, ae, h3]
  refine c6 [1, 5, 30, 31, 32] (fun (k : Nat) => [.sc (.int .i64 (i)), .ptr 0 0, .vl false 5 (l.z.ak.map (ar.val false)), .sc (.int .i64 (l.z.ak.length)), .sc (.int .i64 (k))]) (fun _ => [some (.row [.vl false 1 (s.owner.map (an.val false)), .sc (.int .u16 s.type.toNat), .sc (.int .u16 s.cls.toNat), .sc (.int .u32 s.tt.toNat), .vl false 4 (s.data.map (b9.val false))] 0 2 40)]) (fun k => k ≤ l.z.ak.length ∧ Ca i s.owner 0 l.z.ak = Ca i s.owner k (l.z.ak.drop k)) (fun k => l.z.ak.length - k) 0 ⟨Nat.zero_le _, rfl⟩ (by simp only [↓wR, RA, simprocAttr, TF, ae] <;> rfl) (by simp only [↓wR, RA, simprocAttr, TF, ae] <;> rfl) ?_
  rintro k ⟨hk, hx⟩
  simp only [↓wR, RA, simprocAttr, TF, ae]
  rw [bf]; refine ⟨fun h4 => ?_, fun h4 => ?_⟩
  · obtain ⟨c, hc, hd1, hlt⟩ := di (decide_eq_true h4)
    rw [hd1, Ca] at hx
    have hcs := hz.set c (List.mem_of_getElem? hc)
    simp only [↓wR, RA, simprocAttr, TF, ae, h4, hc]
    rw [gu]; refine ⟨fun ⟨h5, e5⟩ => ?_, fun ⟨h5, e5⟩ => ?_⟩
    · rw [decide_eq_true e5, Bool.true_and] at hx
      simp only [↓wR, RA, simprocAttr, TF, ae, h5, iy, hcs.owner, hs.owner]
      rw [bk]; refine ⟨fun h6 => ?_, fun h6 => ?_⟩
      · rw [h6, Bool.true_or] at hx
        simp only [↓wR, RA, simprocAttr, TF, ae, h6]
        rw [hx]; rfl
      · rw [h6, Bool.false_or] at hx
        simp only [↓wR, RA, simprocAttr, TF, ae, h6]; repeat (simp (disch := omega) only [ah, bu, b7, bw, bz]; try simp only [↓wR, RA, simprocAttr, TF, ae, h6])
        exact ⟨k + 1, ⟨hlt, hx⟩, by omega, by (first | rfl | trivial | omega | ((try (simp (disch := omega) only [ah])); (try (simp only [FB])); first | done | rfl | omega))⟩
    · rw [decide_eq_false (by omega), Bool.false_and, Bool.false_or] at hx
      simp only [↓wR, RA, simprocAttr, TF, ae, h5]; repeat (simp (disch := omega) only [ah, bu, b7, bw, bz]; try simp only [↓wR, RA, simprocAttr, TF, ae, h5])
      exact ⟨k + 1, ⟨hlt, hx⟩, by omega, by (first | rfl | trivial | omega | ((try (simp (disch := omega) only [ah])); (try (simp only [FB])); first | done | rfl | omega))⟩
  · rw [du (decide_eq_false h4), Ca] at hx
    simp only [↓wR, RA, simprocAttr, TF, ae, h4]
    rw [hx]; rfl
theorem am5 (l : se) (i : Int) (s : br) (hz : dh l.z) (hs : dg s) (hi : 0 ≤ i) : wl PP [dx] 0 (Tryz.f128.body.getD .skip) (de PP Tryz.f128.results.toList (fun r st => (r1 bo).get true st.h r = some (ik l.z i.toNat s))) (cb 0 [.fw (lf.cells false l), (aw .i64).val false i, ar.val false s]) (bp []) := by
  have := aqf l i.toNat s hz hs
  rwa [Int.toNat_of_nonneg hi] at this
noncomputable def Cb (x : se × Int × br × Unit) : Option AV := if (dh x.1.z ∧ dg x.2.2.1) ∧ 0 ≤ x.2.1 then some ((r1 bo).E true (ik x.1.z x.2.1.toNat x.2.2.1)) else none
set_option maxRecDepth 2000000 in
theorem Mp (x : se × Int × br × Unit) (r : AV) (h : Cb x = some r) : bg PP 128 ((aP lf (aC (aw .i64) (aC ar a0))).E x) r := by
  by_cases hc : (dh x.1.z ∧ dg x.2.2.1) ∧ 0 ≤ x.2.1
  case neg => simp only [Cb, if_neg hc] at h; cases h
  simp only [Cb, if_pos hc] at h
  cases h
  exact bb (aj.cons (ai i7) (aj.nil PP)) Tryz.func128 (by kernel_rfl) (by kernel_rfl) (by kernel_rfl) (Nat.le_of_ble_eq_true (by kernel_rfl)) (r1 bo) true (ik x.1.z x.2.1.toNat x.2.2.1) (am5 x.1 x.2.1 x.2.2.1 hc.1.1 hc.1.2 hc.2)
noncomputable abbrev iu : Nat × Bool × (List AV → M AV) := (128, true, da (aP lf (aC (aw .i64) (aC ar a0))) Cb)
def mu (s : br) : Bool := if ¬ (s.cls.toNat : Int) = 1 then false else if (s.type.toNat : Int) = 0 then false else if (s.type.toNat : Int) = 41 then false else !decide ((s.type.toNat : Int) = 255)
theorem apn (i : Int) (s : br) : wl PP [] 0 (Tryz.f123.body.getD .skip) (de PP Tryz.f123.results.toList (fun r st => (r1 bo).get true st.h r = some (mu s))) (cb 0 [(aw .i64).val false i, ar.val false s]) (bp []) := by
  unfold Tryz.f123
  simp only [jf]
  simp only [↓wR, RA, simprocAttr, TF, ae]
  unfold mu
  rw [dc]; refine ⟨fun ⟨h, e⟩ => ?_, fun ⟨h, e⟩ => ?_⟩
  · rw [if_neg (by omega)]
    simp only [↓wR, RA, simprocAttr, TF, ae, h]
    rw [gu]; refine ⟨fun ⟨h2, e2⟩ => ?_, fun ⟨h2, e2⟩ => ?_⟩
    · rw [if_neg e2]
      simp only [↓wR, RA, simprocAttr, TF, ae, h2]
      rw [gu]; refine ⟨fun ⟨h3, e3⟩ => ?_, fun ⟨h3, e3⟩ => ?_⟩
      · rw [if_neg e3]
        simp only [↓wR, RA, simprocAttr, TF, ae, h3]
        rfl
      · rw [if_pos e3]
        simp only [↓wR, RA, simprocAttr, TF, ae, h3]
    · rw [if_pos e2]
      simp only [↓wR, RA, simprocAttr, TF, ae, h2]
  · rw [if_pos e]
    simp only [↓wR, RA, simprocAttr, TF, ae, h]
noncomputable def T4 (x : Int × br × Unit) : Option AV := some ((r1 bo).E true (mu x.2.1))
set_option maxRecDepth 2000000 in
theorem Oa (x : Int × br × Unit) (r : AV) (h : T4 x = some r) : bg PP 123 ((aC (aw .i64) (aC ar a0)).E x) r := by
  cases h
  exact bb (aj.nil PP) Tryz.func123 (by kernel_rfl) (by kernel_rfl) (by kernel_rfl) (Nat.le_of_ble_eq_true (by kernel_rfl)) (r1 bo) true (mu x.2.1) (apn x.1 x.2.1)
noncomputable abbrev iz : Nat × Bool × (List AV → M AV) := (123, true, da (aC (aw .i64) (aC ar a0)) T4)
theorem ale (i : Int) (s : br) (z : bh) (hs : dg s) (hz : dh z) : wl PP [px] 0 (Tryz.f124.body.getD .skip) (de PP Tryz.f124.results.toList (fun r st => (r1 bo).get true st.h r = some (dp s.owner z.origin))) (cb 0 [(aw .i64).val false i, ar.val false s, .fw (bn.cells false z)]) (bp []) := by
  unfold Tryz.f124
  simp only [jf]
  simp only [↓wR, RA, simprocAttr, TF, ae, zz, g7, hs.owner, hz.origin]
noncomputable def C5 (x : Int × br × bh × Unit) : Option AV := if dg x.2.1 ∧ dh x.2.2.1 then some ((r1 bo).E true (dp x.2.1.owner x.2.2.1.origin)) else none
set_option maxRecDepth 2000000 in
theorem Kv (x : Int × br × bh × Unit) (r : AV) (h : C5 x = some r) : bg PP 124 ((aC (aw .i64) (aC ar (aP bn a0))).E x) r := by
  by_cases hc : dg x.2.1 ∧ dh x.2.2.1
  case neg => simp only [C5, if_neg hc] at h; cases h
  simp only [C5, if_pos hc] at h
  cases h
  exact bb (aj.cons (ai my) (aj.nil PP)) Tryz.func124 (by kernel_rfl) (by kernel_rfl) (by kernel_rfl) (Nat.le_of_ble_eq_true (by kernel_rfl)) (r1 bo) true (dp x.2.1.owner x.2.2.1.origin) (ale x.1 x.2.1 x.2.2.1 hc.1 hc.2)
noncomputable abbrev gv : Nat × Bool × (List AV → M AV) := (124, true, da (aC (aw .i64) (aC ar (aP bn a0))) C5)
end Go.Proofs.YtidomogemfchpaaGreat
end
section
set_option linter.unusedSimpArgs false
set_option linter.unusedVariables false
namespace Go.Proofs.YtidomogemfchpaaGreat
open Go.Vm
set_option maxRecDepth 2000000
def j7 (s : br) : Bool := if ¬ (s.type.toNat : Int) = 2 then true else match s.owner[0]? with | none => true | some a => !decide (a = aiy)
theorem asj (i : Int) (s : br) (hs : dg s) : wl PP [] 0 (Tryz.f129.body.getD .skip) (de PP Tryz.f129.results.toList (fun r st => (r1 bo).get true st.h r = some (j7 s))) (cb 0 [(aw .i64).val false i, ar.val false s]) (bp []) := by
  have hn := hs.owner.lt
  unfold Tryz.f129
  simp only [jf]
  simp only [↓wR, RA, simprocAttr, TF, ae]
  unfold j7
  rw [gu]; refine ⟨fun ⟨h, e⟩ => ?_, fun ⟨h, e⟩ => ?_⟩
  · rw [if_pos e]
    simp only [↓wR, RA, simprocAttr, TF, ae, h]
  rw [if_neg (by omega)]
  simp only [↓wR, RA, simprocAttr, TF, ae, h]
  rw [dc]; refine ⟨fun ⟨h2, e2⟩ => ?_, fun ⟨h2, e2⟩ => ?_⟩
  · have hnil : s.owner = [] := List.eq_nil_of_length_eq_zero (by omega)
    have h0 : s.owner[0]? = none := by rw [hnil]; rfl
    rw [h0]
    simp only [↓wR, RA, simprocAttr, TF, ae, h2]
  · obtain ⟨a, ha⟩ : ∃ a, s.owner[0]? = some a := ⟨_, List.getElem?_eq_getElem (by omega)⟩
    have h0 : 0 < s.owner.length := by omega
    rw [ha]
    simp only [↓wR, RA, simprocAttr, TF, ae, h2, ha, h0]
    rfl
noncomputable def Gd (x : Int × br × Unit) : Option AV := if dg x.2.1 then some ((r1 bo).E true (j7 x.2.1)) else none
set_option maxRecDepth 2000000 in
theorem Rw (x : Int × br × Unit) (r : AV) (h : Gd x = some r) : bg PP 129 ((aC (aw .i64) (aC ar a0)).E x) r := by
  by_cases hc : dg x.2.1
  case neg => simp only [Gd, if_neg hc] at h; cases h
  simp only [Gd, if_pos hc] at h
  cases h
  exact bb (aj.nil PP) Tryz.func129 (by kernel_rfl) (by kernel_rfl) (by kernel_rfl) (Nat.le_of_ble_eq_true (by kernel_rfl)) (r1 bo) true (j7 x.2.1) (asj x.1 x.2.1 hc)
noncomputable abbrev j8 : Nat × Bool × (List AV → M AV) := (129, true, da (aC (aw .i64) (aC ar a0)) Gd)
def oi (z : bh) (s : br) : Bool :=
  match u3 z s.owner with
  | none => true
  | some c => if (s.type.toNat : Int) = 1 then true else if (s.type.toNat : Int) = 28 then true else if (s.type.toNat : Int) = 2 then gx c s.owner else false
theorem auc (i : Int) (s : br) (z : bh) (hs : dg s) (hz : dh z) : wl PP [auv, dx] 0 (Tryz.f130.body.getD .skip) (de PP Tryz.f130.results.toList (fun r st => (r1 bo).get true st.h r = some (oi z s))) (cb 0 [(aw .i64).val false i, ar.val false s, .fw (bn.cells false z)]) (bp []) := by
  have hsm := anz (n := s.owner) hz z.ak none (fun _ h => h) (fun m hm => by cases hm)
  change ∀ m, u3 z s.owner = some m → bt m at hsm
  unfold Tryz.f130
  simp only [jf]
  unfold oi
  cases hc : u3 z s.owner with
  | none =>
    simp only [↓wR, RA, simprocAttr, TF, ae, zz, Ha, hs.owner, hz, hc, Option.isSome_none]
    done
  | some c =>
    simp only [↓wR, RA, simprocAttr, TF, ae, zz, Ha, hs.owner, hz, hc]
    rw [dc]; refine ⟨fun ⟨h, e⟩ => ?_, fun ⟨h, e⟩ => ?_⟩
    · rw [if_pos e]
      simp only [↓wR, RA, simprocAttr, TF, ae, h]
    rw [if_neg e]
    simp only [↓wR, RA, simprocAttr, TF, ae, h]
    rw [dc]; refine ⟨fun ⟨h2, e2⟩ => ?_, fun ⟨h2, e2⟩ => ?_⟩
    · rw [if_pos e2]
      simp only [↓wR, RA, simprocAttr, TF, ae, h2]
    rw [if_neg e2]
    simp only [↓wR, RA, simprocAttr, TF, ae, h2]
    rw [dc]; refine ⟨fun ⟨h3, e3⟩ => ?_, fun ⟨h3, e3⟩ => ?_⟩
    · rw [if_pos e3]
      simp only [↓wR, RA, simprocAttr, TF, ae, h3, iy, hs.owner, hsm c hc]
    · rw [if_neg e3]
      simp only [↓wR, RA, simprocAttr, TF, ae, h3]
noncomputable def Mf (x : Int × br × bh × Unit) : Option AV := if dg x.2.1 ∧ dh x.2.2.1 then some ((r1 bo).E true (oi x.2.2.1 x.2.1)) else none
set_option maxRecDepth 2000000 in
theorem V6 (x : Int × br × bh × Unit) (r : AV) (h : Mf x = some r) : bg PP 130 ((aC (aw .i64) (aC ar (aP bn a0))).E x) r := by
  by_cases hc : dg x.2.1 ∧ dh x.2.2.1
  case neg => simp only [Mf, if_neg hc] at h; cases h
  simp only [Mf, if_pos hc] at h
  cases h
  exact bb (aj.cons (ai Vb) (aj.cons (ai i7) (aj.nil PP))) Tryz.func130 (by kernel_rfl) (by kernel_rfl) (by kernel_rfl) (Nat.le_of_ble_eq_true (by kernel_rfl)) (r1 bo) true (oi x.2.2.1 x.2.1) (auc x.1 x.2.1 x.2.2.1 hc.1 hc.2)
noncomputable abbrev m9 : Nat × Bool × (List AV → M AV) := (130, true, da (aC (aw .i64) (aC ar (aP bn a0))) Mf)
def nq (z : bh) (p : Nat × Nat) (s : br) : Nat × Nat :=
  if (s.type.toNat : Int) = 6 then (p.1 + 1, if (gx s.owner z.origin && decide ((s.data.length : Int) = 1)) = true then p.2 + 1 else p.2) else p
def fp (z : bh) : Nat × Nat := z.ak.foldl (nq z) (0, 0)
theorem ath (k : se) (hz : dh k.z) : wl PP [dx] 0 (Tryz.f125.body.getD .skip) (de PP Tryz.f125.results.toList (fun r st => (r2 (aw .i64) (aw .i64)).get true st.h r = some (((fp k.z).1 : Int), ((fp k.z).2 : Int)))) (cb 0 [.fw (lf.cells false k)]) (bp []) := by
  have hl := hz.len
  unfold Tryz.f125
  simp only [↓wR, RA, simprocAttr, TF, ae, zv]
  refine bm (T := []) (aj.nil PP) mixed Tryz.func127 rfl (by kernel_rfl) (by kernel_rfl) (by kernel_rfl) (by kernel_rfl) ?_; unfold Tryz.f127
  simp only [↓wR, RA, simprocAttr, TF, ae]
  refine ⟨[1, 4, 5, 11], ?_⟩
  have hib : sb PP 154 = some (Tryz.f154.ntmps, Tryz.f154.body.getD .skip) := by kernel_rfl
  simp only [↓wR, RA, simprocAttr, TF, ae, hib]
  refine ⟨by kernel_rfl, fun l => ?_⟩
  unfold Tryz.f154
  simp only [↓wR, RA, simprocAttr, TF, ae]
  refine D9 [0, 2, 7, 8, 9] (fun (x : Nat × Nat × Nat) => [.sc (.func (.yield l) #[] #[]), .ptr 4 0, .vl false 5 (k.z.ak.map (ar.val false)), .sc (.int .i64 (k.z.ak.length)), .sc (.int .i64 (x.1))]) (fun x => [some (.row [.fw [.vl false 1 (k.z.origin.map (an.val false)), .vl false 5 (k.z.ak.map (ar.val false)), .sc (.int .i64 (k.e))]] 0 2 178), some (.row [.sc (.int .i64 (x.2.1 : Int))] 0 2 3), some (.row [.sc (.int .i64 (x.2.2 : Int))] 0 2 3), some (.row [.vl false 1 (k.z.origin.map (an.val false)), .vl false 5 (k.z.ak.map (ar.val false))] 0 2 26), some (.row [.sc (.int .u16 6)] 0 2 28)]) (fun x => x.1 ≤ k.z.ak.length ∧ x.2.1 ≤ x.1 ∧ x.2.2 ≤ x.1 ∧ fp k.z = (k.z.ak.drop x.1).foldl (nq k.z) x.2) (fun x => k.z.ak.length - x.1) (0, 0, 0) ⟨Nat.zero_le _, Nat.le_refl _, Nat.le_refl _, rfl⟩ (by simp only [↓wR, RA, simprocAttr, TF, ae] <;> rfl) (by simp only [↓wR, RA, simprocAttr, TF, ae] <;> rfl) ?_
  rintro ⟨i, n, m⟩ ⟨hi, hn, hm, hx⟩
  simp only at hi hn hm hx
  simp only [↓wR, RA, simprocAttr, TF, ae]
  rw [qs]; refine ⟨fun h => ?_, fun h => ?_⟩
  · obtain ⟨c, hc, hd1, hlt⟩ := di h
    have hcs := hz.set c (List.mem_of_getElem? hc)
    have hstep : fp k.z = (k.z.ak.drop (i + 1)).foldl (nq k.z) (nq k.z (n, m) c) := by rw [hx, hd1]; rfl
    simp only [↓wR, RA, simprocAttr, TF, ae, h, hc]
    rw [qs]; refine ⟨fun h2 => ?_, fun h2 => ?_⟩
    · have e2 : (c.type.toNat : Int) = 6 := by simpa using h2
      simp only [↓wR, RA, simprocAttr, TF, ae, h2]
      refine vh [0, 2, 7, 8, 9, 17, 19] ?_
      simp only [↓wR, RA, simprocAttr, TF, ae, vn, ln]; repeat (simp (disch := omega) only [ah, bu, b7, bw, bz]; try simp only [↓wR, RA, simprocAttr, TF, ae, vn, ln])
      refine ⟨by kernel_rfl, .inl ?_⟩
      simp only [↓wR, RA, simprocAttr, TF, ae, iy, hcs.owner, hz.origin]
      have fin : ∀ q, nq k.z (n, m) c = (n + 1, q) → q ≤ i + 1 → fp k.z = (k.z.ak.drop (i + 1)).foldl (nq k.z) (n + 1, q) := fun q hq _ => by rw [hstep, hq]
      rw [bk]; refine ⟨fun h3 => ?_, fun h3 => ?_⟩
      · simp only [↓wR, RA, simprocAttr, TF, ae, h3]
        refine ⟨by kernel_rfl, ?_⟩
        rw [dc]; refine ⟨fun ⟨h4, e4⟩ => ?_, fun ⟨h4, e4⟩ => ?_⟩
        · have hq : nq k.z (n, m) c = (n + 1, m + 1) := by simp [nq, e2, h3, e4]
          simp only [↓wR, RA, simprocAttr, TF, ae, h4]; repeat (simp (disch := omega) only [ah, bu, b7, bw, bz]; try simp only [↓wR, RA, simprocAttr, TF, ae, h4])
          exact ⟨(i + 1, n + 1, m + 1), ⟨hlt, by simp; omega, by simp; omega, fin _ hq (by omega)⟩, by simp; omega, by (first | rfl | trivial | omega | ((try (simp (disch := omega) only [ah])); (try (simp only [FB])); first | done | rfl | omega)), by (first | rfl | trivial | omega | ((try (simp (disch := omega) only [ah])); (try (simp only [FB])); first | done | rfl | omega))⟩
        · have hq : nq k.z (n, m) c = (n + 1, m) := by simp [nq, e2, h3, e4]
          simp only [↓wR, RA, simprocAttr, TF, ae, h4]; repeat (simp (disch := omega) only [ah, bu, b7, bw, bz]; try simp only [↓wR, RA, simprocAttr, TF, ae, h4])
          exact ⟨(i + 1, n + 1, m), ⟨hlt, by simp; omega, by simp; omega, fin _ hq (by omega)⟩, by simp; omega, by (first | rfl | trivial | omega | ((try (simp (disch := omega) only [ah])); (try (simp only [FB])); first | done | rfl | omega)), by (first | rfl | trivial | omega | ((try (simp (disch := omega) only [ah])); (try (simp only [FB])); first | done | rfl | omega))⟩
      · have hq : nq k.z (n, m) c = (n + 1, m) := by simp [nq, e2, h3]
        simp only [↓wR, RA, simprocAttr, TF, ae, h3]
        refine ⟨by kernel_rfl, ?_⟩
        exact ⟨(i + 1, n + 1, m), ⟨hlt, by simp; omega, by simp; omega, fin _ hq (by omega)⟩, by simp; omega, by (first | rfl | trivial | omega | ((try (simp (disch := omega) only [ah])); (try (simp only [FB])); first | done | rfl | omega)), by (first | rfl | trivial | omega | ((try (simp (disch := omega) only [ah])); (try (simp only [FB])); first | done | rfl | omega))⟩
    · have e2 : ¬ (c.type.toNat : Int) = 6 := by simpa using h2
      have hb2 : nq k.z (n, m) c = (n, m) := by simp [nq, e2]
      rw [hb2] at hstep
      simp only [↓wR, RA, simprocAttr, TF, ae, h2]; repeat (simp (disch := omega) only [ah, bu, b7, bw, bz]; try simp only [↓wR, RA, simprocAttr, TF, ae, h2])
      exact ⟨(i + 1, n, m), ⟨hlt, by simp; omega, by simp; omega, hstep⟩, by simp; omega, by (first | rfl | trivial | omega | ((try (simp (disch := omega) only [ah])); (try (simp only [FB])); first | done | rfl | omega)), by (first | rfl | trivial | omega | ((try (simp (disch := omega) only [ah])); (try (simp only [FB])); first | done | rfl | omega))⟩
  · rw [du h] at hx
    simp only [↓wR, RA, simprocAttr, TF, ae, h]
    refine ⟨by kernel_rfl, .inl ?_⟩
    refine ⟨by kernel_rfl, ?_⟩
    rw [hx]; rfl
noncomputable def Ja (x : se × Unit) : Option AV := if dh x.1.z then some ((r2 (aw .i64) (aw .i64)).E true ((((fp x.1.z).1 : Int), ((fp x.1.z).2 : Int)))) else none
set_option maxRecDepth 2000000 in
theorem Pq (x : se × Unit) (r : AV) (h : Ja x = some r) : bg PP 125 ((aP lf a0).E x) r := by
  by_cases hc : dh x.1.z
  case neg => simp only [Ja, if_neg hc] at h; cases h
  simp only [Ja, if_pos hc] at h
  cases h
  exact bb (aj.cons (ai i7) (aj.nil PP)) Tryz.func125 (by kernel_rfl) (by kernel_rfl) (by kernel_rfl) (Nat.le_of_ble_eq_true (by kernel_rfl)) (r2 (aw .i64) (aw .i64)) true ((((fp x.1.z).1 : Int), ((fp x.1.z).2 : Int))) (ath x.1 hc)
noncomputable abbrev ka : Nat × Bool × (List AV → M AV) := (125, true, da (aP lf a0) Ja)
end Go.Proofs.YtidomogemfchpaaGreat
end
section
set_option linter.unusedSimpArgs false
set_option linter.unusedVariables false
namespace Go.Proofs.YtidomogemfchpaaGreat
open Go.Vm
set_option maxRecDepth 2000000
def cx (b : Bool) (err e : Int) : Int := if e = 0 ∧ b = false then err else e
def fc (err : Int) (p : Nat → br → Bool) : Nat → List br → Int → Int
  | _, [], e => e
  | i, s :: r, e => if e ≠ 0 then e else fc err p (i + 1) r (cx (p i s) err e)
def mh (l : List br) : Nat := l.foldl (fun n s => n + s.data.length) 0
noncomputable def Ei : List br → Int → Int
  | [], e => e
  | s :: r, e => Ei r (if e = 0 then qv s else e)
noncomputable def so (z : bh) : Int := if ea z.origin ≠ 0 then ea z.origin else Ei z.ak (cx (decide (mh z.ak ≤ 2048)) 3 0)
def Hp (z : bh) (l : List br) : Bool := l.any fun s => decide ((s.type.toNat : Int) = 2) && gx s.owner z.origin
def ga (z : bh) : Bool := Hp z z.ak
theorem aag {z : bh} {l : List br} {i : Nat} {c : br} (h : l.drop i = c :: l.drop (i + 1)) : Hp z (l.drop i) = ((decide ((c.type.toNat : Int) = 2) && gx c.owner z.origin) || Hp z (l.drop (i + 1))) := by rw [h]; rfl
noncomputable def P7 (z : bh) : Int := fc 260 (jy z) 0 z.ak (so z)
noncomputable def Qi (z : bh) : Int := fc 261 (fun _ s => mu s) 0 z.ak (P7 z)
noncomputable def qb (z : bh) : Int := fc 262 (fun _ s => dp s.owner z.origin) 0 z.ak (Qi z)
noncomputable def l8 (z : bh) : Int := cx (decide ((fp z).1 = 1) && decide ((fp z).2 = 1)) 263 (qb z)
noncomputable def Cz (z : bh) : Int := cx (ga z) 264 (l8 z)
noncomputable def Cq (z : bh) : Int := fc 265 (ik z) 0 z.ak (Cz z)
noncomputable def Jz (z : bh) : Int := fc 266 (fun _ s => j7 s) 0 z.ak (Cq z)
noncomputable def auo (z : bh) : Int := fc 267 (fun _ s => oi z s) 0 z.ak (Jz z)
noncomputable def k9 (z : bh) : Int := if so z ≠ 0 then so z else auo z
theorem aav (l : List br) (i : Nat) (c : br) (h : l[i]? = some c) : mh (l.take (i + 1)) = mh (l.take i) + c.data.length := by
  obtain ⟨hk, rfl⟩ := List.getElem?_eq_some_iff.1 h
  rw [List.take_succ_eq_append_getElem hk]; simp only [mh, List.foldl_append, List.foldl_cons, List.foldl_nil]
theorem Yq (l : List br) : ∀ k, l.foldl (fun n s => n + s.data.length) k ≤ k + g9 n9 l := by
  induction l with
  | nil => intro k; exact Nat.le_refl _
  | cons a l ih =>
    intro k
    have h1 := ih (k + a.data.length)
    have h2 := pw su a.data
    simp only [g9, List.foldr_cons, List.foldl_cons, n9] at h1 ⊢
    unfold g9 at h2
    omega
theorem ahe (l : List br) : mh l ≤ g9 n9 l := by have := Yq l 0; unfold mh; omega
theorem aps {l : List br} {i : Nat} {c : br} (h : l.drop i = c :: l.drop (i + 1)) (e : Int) : Ei (l.drop i) e = Ei (l.drop (i + 1)) (if e = 0 then qv c else e) := by rw [h]; rfl
theorem rq {l : List br} {i : Nat} {c : br} (h : l.drop i = c :: l.drop (i + 1)) (err : Int) (p : Nat → br → Bool) (e : Int) : fc err p i (l.drop i) e = if e ≠ 0 then e else fc err p (i + 1) (l.drop (i + 1)) (cx (p i c) err e) := by rw [h]; rfl
set_option maxHeartbeats 4000000 in
theorem abb (z : bh) (hz : dh z) : wl PP [dw, dx, fm, iw, iu, iz, gv, j8, m9, ka] 0 (Tryz.f82.body.getD .skip) (de PP Tryz.f82.results.toList (fun r st => (r1 (aw .i64)).get true st.h r = some (k9 z))) (cb 0 [bn.val false z]) (bp []) := by
  have hl := hz.len
  have ok : aj PP [dw, dx, fm, iw, iu, iz, gv, j8, m9, ka] := aj.cons (ai ky) (aj.cons (ai i7) (aj.cons (ai Ib) (aj.cons (ai Ng) (aj.cons (ai Mp) (aj.cons (ai Oa) (aj.cons (ai Kv) (aj.cons (ai Rw) (aj.cons (ai V6) (aj.cons (ai Pq) (aj.nil PP))))))))))
  unfold Tryz.f82
  simp only [m5]
  simp only [↓wR, RA, simprocAttr, TF, ae]
  refine dv (fun r st' => r = .eu [] ∧ st' = bp [some (.row [.vl false 1 (z.origin.map (an.val false)), .vl false 5 (z.ak.map (ar.val false))] 0 2 26), some (.row [.vl false 1 (z.origin.map (an.val false)), .vl false 5 (z.ak.map (ar.val false)), .sc (.int .i64 (so z))] 0 2 180)]) rfl ?_ ?_
  · refine bm (T := [dw, dx, fm, iw, iu, iz, gv, j8, m9, ka]) ok mixed Tryz.func120 rfl (by kernel_rfl) (by kernel_rfl) (by kernel_rfl) (by kernel_rfl) ?_; unfold Tryz.f120
    simp only [↓wR, RA, simprocAttr, TF, ae, l7, hz.origin.fit]
    unfold so
    rw [bk]; refine ⟨fun h => ?_, fun h => ?_⟩
    · have he : ea z.origin ≠ 0 := by simpa using h
      rw [if_pos he]
      simp only [↓wR, RA, simprocAttr, TF, ae, h, g5, gk, gh]
    have he : ea z.origin = 0 := by simpa using h
    rw [if_neg (by omega)]
    simp only [↓wR, RA, simprocAttr, TF, ae, h, he]
    refine c6 [0, 2, 25, 26, 27] (fun (i : Nat) => [.ptr 1 0, .sc (.int .i64 (mh (z.ak.take i))), .vl false 5 (z.ak.map (ar.val false)), .sc (.int .i64 (z.ak.length)), .sc (.int .i64 (i))]) (fun _ => [some (.row [.vl false 1 (z.origin.map (an.val false)), .vl false 5 (z.ak.map (ar.val false))] 0 2 26), some (.row [.vl false 1 (z.origin.map (an.val false)), .vl false 5 (z.ak.map (ar.val false)), .sc (.int .i64 (0))] 0 2 180)]) (fun i => i ≤ z.ak.length) (fun i => z.ak.length - i) 0 (Nat.zero_le _) (by simp only [↓wR, RA, simprocAttr, TF, ae] <;> rfl) (by simp only [↓wR, RA, simprocAttr, TF, ae] <;> rfl) ?_
    clear h
    intro i hi
    have hsum := ahe (z.ak.take i)
    have hsum2 := O7 n9 z.ak i
    have hzz : g9 n9 z.ak ≤ 16777216 := by unfold dh wu at hz; omega
    simp only [↓wR, RA, simprocAttr, TF, ae]
    rw [bf]; refine ⟨fun h => ?_, fun h => ?_⟩
    · obtain ⟨c, hc, hd1, hlt⟩ := di (decide_eq_true h)
      have hst := aav z.ak i c hc
      have hcl := (hz.set c (List.mem_of_getElem? hc)).data.len
      simp only [↓wR, RA, simprocAttr, TF, ae, h, hc]; repeat (simp (disch := omega) only [ah, bu, b7, bw, bz]; try simp only [↓wR, RA, simprocAttr, TF, ae, h, hc])
      exact ⟨i + 1, hlt, by omega, by rw [hst]; (first | rfl | trivial | omega | ((try (simp (disch := omega) only [ah])); (try (simp only [FB])); first | done | rfl | omega))⟩
    have hin : i = z.ak.length := by omega
    rw [hin, List.take_length] at hsum ⊢
    simp only [↓wR, RA, simprocAttr, TF, ae, h]
    have hd : decide ((mh z.ak : Int) ≤ 2048) = decide (mh z.ak ≤ 2048) := by rw [decide_eq_decide]; omega
    rw [hd]
    refine dv (fun r st' => r = .eu [] ∧ st' = bp [some (.row [.vl false 1 (z.origin.map (an.val false)), .vl false 5 (z.ak.map (ar.val false))] 0 2 26), some (.row [.vl false 1 (z.origin.map (an.val false)), .vl false 5 (z.ak.map (ar.val false)), .sc (.int .i64 (cx (decide (mh z.ak ≤ 2048)) 3 (0)))] 0 2 180)]) rfl ?_ ?_
    · refine bm (T := [dw, dx, fm, iw, iu, iz, gv, j8, m9, ka]) ok mixed Tryz.func126 rfl (by kernel_rfl) (by kernel_rfl) (by kernel_rfl) (by kernel_rfl) ?_; unfold Tryz.f126
      simp only [↓wR, RA, simprocAttr, TF, ae]
      rw [bk]; refine ⟨fun hn2 => ?_, fun hn2 => ?_⟩
      · have hb : (decide (mh z.ak ≤ 2048)) = false := by simpa only [Bool.not_eq_true'] using hn2
        have hv : cx (decide (mh z.ak ≤ 2048)) 3 (0) = 3 := by unfold cx; rw [if_pos ⟨rfl, hb⟩]
        simp only [↓wR, RA, simprocAttr, TF, ae, hn2, g5, gk, gh]
        try rw [hv]
      · have hb : (decide (mh z.ak ≤ 2048)) = true := by simpa only [Bool.not_eq_false'] using hn2
        have hv : cx (decide (mh z.ak ≤ 2048)) 3 (0) = 0 := by unfold cx; rw [if_neg (fun q => by rw [hb] at q; cases q.2)]
        simp only [↓wR, RA, simprocAttr, TF, ae, hn2, g5, gk, gh]
        try rw [hv]
    rintro _ _ ⟨rfl, rfl⟩
    simp only [↓wR, RA, simprocAttr, TF, ae, gi]
    refine c6 [0, 45, 46, 47] (fun (x : Nat × Int) => [.ptr 1 0, .vl false 5 (z.ak.map (ar.val false)), .sc (.int .i64 (z.ak.length)), .sc (.int .i64 (x.1))]) (fun x => [some (.row [.vl false 1 (z.origin.map (an.val false)), .vl false 5 (z.ak.map (ar.val false))] 0 2 26), some (.row [.vl false 1 (z.origin.map (an.val false)), .vl false 5 (z.ak.map (ar.val false)), .sc (.int .i64 (x.2))] 0 2 180)]) (fun x => x.1 ≤ z.ak.length ∧ Ei z.ak (cx (decide (mh z.ak ≤ 2048)) 3 0) = Ei (z.ak.drop x.1) x.2) (fun x => z.ak.length - x.1) (0, cx (decide (mh z.ak ≤ 2048)) 3 0) ⟨Nat.zero_le _, rfl⟩ (by simp only [↓wR, RA, simprocAttr, TF, ae] <;> rfl) (by simp only [↓wR, RA, simprocAttr, TF, ae] <;> rfl) ?_
    clear h hi hin hd
    rintro ⟨i, e⟩ ⟨hi, hx⟩
    simp only at hi hx
    simp only [↓wR, RA, simprocAttr, TF, ae]
    rw [bf]; refine ⟨fun h => ?_, fun h => ?_⟩
    · obtain ⟨c, hc, hd1, hlt⟩ := di (decide_eq_true h)
      rw [aps hd1] at hx
      have hcs := hz.set c (List.mem_of_getElem? hc)
      simp only [↓wR, RA, simprocAttr, TF, ae, h, hc]
      rw [dc]; refine ⟨fun ⟨h1, e1⟩ => ?_, fun ⟨h1, e1⟩ => ?_⟩
      · rw [if_pos e1] at hx
        simp only [↓wR, RA, simprocAttr, TF, ae, h1, xb, hcs]; repeat (simp (disch := omega) only [ah, bu, b7, bw, bz]; try simp only [↓wR, RA, simprocAttr, TF, ae, h1, xb, hcs])
        exact ⟨(i + 1, qv c), ⟨hlt, hx⟩, by simp; omega, by (first | rfl | trivial | omega | ((try (simp (disch := omega) only [ah])); (try (simp only [FB])); first | done | rfl | omega)), by (first | rfl | trivial | omega | ((try (simp (disch := omega) only [ah])); (try (simp only [FB])); first | done | rfl | omega))⟩
      · rw [if_neg e1] at hx
        simp only [↓wR, RA, simprocAttr, TF, ae, h1]; repeat (simp (disch := omega) only [ah, bu, b7, bw, bz]; try simp only [↓wR, RA, simprocAttr, TF, ae, h1])
        exact ⟨(i + 1, e), ⟨hlt, hx⟩, by simp; omega, by (first | rfl | trivial | omega | ((try (simp (disch := omega) only [ah])); (try (simp only [FB])); first | done | rfl | omega)), by (first | rfl | trivial | omega | ((try (simp (disch := omega) only [ah])); (try (simp only [FB])); first | done | rfl | omega))⟩
    · rw [du (decide_eq_false h)] at hx
      simp only [↓wR, RA, simprocAttr, TF, ae, h, g5, gk, gh]
      rw [hx]; rfl
  rintro _ _ ⟨rfl, rfl⟩
  simp only [↓wR, RA, simprocAttr, TF, ae, gi]
  unfold k9
  rw [bk]; refine ⟨fun h => ?_, fun h => ?_⟩
  · have he : so z ≠ 0 := by simpa using h
    rw [if_pos he]
    simp only [↓wR, RA, simprocAttr, TF, ae, h]
  have he : so z = 0 := by simpa using h
  rw [if_neg (by omega)]
  simp only [↓wR, RA, simprocAttr, TF, ae, h]
  clear h he
  obtain ⟨e0, he0⟩ : ∃ e0, so z = e0 := ⟨_, rfl⟩
  rw [he0]
  refine dv (fun r st' => r = .eu [] ∧ st' = bp [some (.row [.vl false 1 (z.origin.map (an.val false)), .vl false 5 (z.ak.map (ar.val false))] 0 2 26), some (.row [.vl false 1 (z.origin.map (an.val false)), .vl false 5 (z.ak.map (ar.val false)), .sc (.int .i64 (fc 260 (jy z) 0 z.ak e0))] 0 2 180)]) rfl ?_ ?_
  · refine bm (T := [dw, dx, fm, iw, iu, iz, gv, j8, m9, ka]) ok mixed Tryz.func121 rfl (by kernel_rfl) (by kernel_rfl) (by kernel_rfl) (by kernel_rfl) ?_; unfold Tryz.f121
    simp only [↓wR, RA, simprocAttr, TF, ae]
    refine c6 [0, 1, 2, 12, 13, 14] (fun (x : Nat × Int) => [.ptr 1 0, .sc (.int .i64 (260)), .fn (.func 122) [.ptr 1 0] [], .vl false 5 (z.ak.map (ar.val false)), .sc (.int .i64 (z.ak.length)), .sc (.int .i64 (x.1))]) (fun x => [some (.row [.vl false 1 (z.origin.map (an.val false)), .vl false 5 (z.ak.map (ar.val false))] 0 2 26), some (.row [.vl false 1 (z.origin.map (an.val false)), .vl false 5 (z.ak.map (ar.val false)), .sc (.int .i64 (x.2))] 0 2 180)]) (fun x => x.1 ≤ z.ak.length ∧ fc 260 (jy z) 0 z.ak e0 = fc 260 (jy z) x.1 (z.ak.drop x.1) x.2) (fun x => z.ak.length - x.1) (0, e0) ⟨Nat.zero_le _, rfl⟩ (by simp only [↓wR, RA, simprocAttr, TF, ae] <;> rfl) (by simp only [↓wR, RA, simprocAttr, TF, ae] <;> rfl) ?_
    rintro ⟨i, e⟩ ⟨hi, hx⟩
    simp only at hi hx
    simp only [↓wR, RA, simprocAttr, TF, ae]
    rw [bf]; refine ⟨fun h => ?_, fun h => ?_⟩
    · obtain ⟨c, hc, hd1, hlt⟩ := di (decide_eq_true h)
      rw [rq hd1] at hx
      have hcs := hz.set c (List.mem_of_getElem? hc)
      have hi2 : (0 : Int) ≤ i ∧ (i : Int) ≤ z.ak.length := by omega
      simp only [↓wR, RA, simprocAttr, TF, ae, h, hc]
      rw [gu]; refine ⟨fun ⟨h1, e1⟩ => ?_, fun ⟨h1, e1⟩ => ?_⟩
      · rw [if_pos e1] at hx
        simp only [↓wR, RA, simprocAttr, TF, ae, h1, g5, gk, gh]
        rw [hx]
      · rw [if_neg (by omega)] at hx
        simp only [↓wR, RA, simprocAttr, TF, ae, h1, hcs, hz, hi2, Gi]
        refine dv (fun r st' => r = .eu [] ∧ st' = bp [some (.row [.vl false 1 (z.origin.map (an.val false)), .vl false 5 (z.ak.map (ar.val false))] 0 2 26), some (.row [.vl false 1 (z.origin.map (an.val false)), .vl false 5 (z.ak.map (ar.val false)), .sc (.int .i64 (cx ((jy z) i c) 260 e))] 0 2 180), some (.row [.vl false 1 (c.owner.map (an.val false)), .sc (.int .u16 c.type.toNat), .sc (.int .u16 c.cls.toNat), .sc (.int .u32 c.tt.toNat), .vl false 4 (c.data.map (b9.val false))] 0 2 40)]) rfl ?_ ?_
        · refine bm (T := [dw, dx, fm, iw, iu, iz, gv, j8, m9, ka]) ok mixed Tryz.func126 rfl (by kernel_rfl) (by kernel_rfl) (by kernel_rfl) (by kernel_rfl) ?_; unfold Tryz.f126
          simp only [↓wR, RA, simprocAttr, TF, ae, e1]
          rw [bk]; refine ⟨fun hn2 => ?_, fun hn2 => ?_⟩
          · have hb : ((jy z) i c) = false := by simpa only [Bool.not_eq_true'] using hn2
            have hv : cx ((jy z) i c) 260 0 = 260 := by unfold cx; rw [if_pos ⟨rfl, hb⟩]
            simp only [↓wR, RA, simprocAttr, TF, ae, hn2, g5, gk, gh]
            try rw [hv]
          · have hb : ((jy z) i c) = true := by simpa only [Bool.not_eq_false'] using hn2
            have hv : cx ((jy z) i c) 260 0 = 0 := by unfold cx; rw [if_neg (fun q => by rw [hb] at q; cases q.2)]
            simp only [↓wR, RA, simprocAttr, TF, ae, hn2, g5, gk, gh]
            try rw [hv]
        rintro _ _ ⟨rfl, rfl⟩
        simp only [↓wR, RA, simprocAttr, TF, ae, gi]; repeat (simp (disch := omega) only [ah, bu, b7, bw, bz]; try simp only [↓wR, RA, simprocAttr, TF, ae, gi])
        exact ⟨(i + 1, cx ((jy z) i c) 260 e), ⟨hlt, hx⟩, by simp; omega, by (first | rfl | trivial | omega | ((try (simp (disch := omega) only [ah])); (try (simp only [FB])); first | done | rfl | omega)), by (first | rfl | trivial | omega | ((try (simp (disch := omega) only [ah])); (try (simp only [FB])); first | done | rfl | omega))⟩
    · rw [du (decide_eq_false h)] at hx
      simp only [↓wR, RA, simprocAttr, TF, ae, h, g5, gk, gh]
      rw [hx]; rfl
  rintro _ _ ⟨rfl, rfl⟩
  rw [← he0]
  clear he0
  simp only [↓wR, RA, simprocAttr, TF, ae, gi]
  rw [show fc 260 (jy z) 0 z.ak (so z) = P7 z from rfl]
  obtain ⟨e0, he0⟩ : ∃ e0, P7 z = e0 := ⟨_, rfl⟩
  rw [he0]
  refine dv (fun r st' => r = .eu [] ∧ st' = bp [some (.row [.vl false 1 (z.origin.map (an.val false)), .vl false 5 (z.ak.map (ar.val false))] 0 2 26), some (.row [.vl false 1 (z.origin.map (an.val false)), .vl false 5 (z.ak.map (ar.val false)), .sc (.int .i64 (fc 261 (fun _ s => mu s) 0 z.ak e0))] 0 2 180)]) rfl ?_ ?_
  · refine bm (T := [dw, dx, fm, iw, iu, iz, gv, j8, m9, ka]) ok mixed Tryz.func121 rfl (by kernel_rfl) (by kernel_rfl) (by kernel_rfl) (by kernel_rfl) ?_; unfold Tryz.f121
    simp only [↓wR, RA, simprocAttr, TF, ae]
    refine c6 [0, 1, 2, 12, 13, 14] (fun (x : Nat × Int) => [.ptr 1 0, .sc (.int .i64 (261)), .sc (.func (.func 123) #[] #[]), .vl false 5 (z.ak.map (ar.val false)), .sc (.int .i64 (z.ak.length)), .sc (.int .i64 (x.1))]) (fun x => [some (.row [.vl false 1 (z.origin.map (an.val false)), .vl false 5 (z.ak.map (ar.val false))] 0 2 26), some (.row [.vl false 1 (z.origin.map (an.val false)), .vl false 5 (z.ak.map (ar.val false)), .sc (.int .i64 (x.2))] 0 2 180)]) (fun x => x.1 ≤ z.ak.length ∧ fc 261 (fun _ s => mu s) 0 z.ak e0 = fc 261 (fun _ s => mu s) x.1 (z.ak.drop x.1) x.2) (fun x => z.ak.length - x.1) (0, e0) ⟨Nat.zero_le _, rfl⟩ (by simp only [↓wR, RA, simprocAttr, TF, ae] <;> rfl) (by simp only [↓wR, RA, simprocAttr, TF, ae] <;> rfl) ?_
    rintro ⟨i, e⟩ ⟨hi, hx⟩
    simp only at hi hx
    simp only [↓wR, RA, simprocAttr, TF, ae]
    rw [bf]; refine ⟨fun h => ?_, fun h => ?_⟩
    · obtain ⟨c, hc, hd1, hlt⟩ := di (decide_eq_true h)
      rw [rq hd1] at hx
      have hcs := hz.set c (List.mem_of_getElem? hc)
      have hi2 : (0 : Int) ≤ i ∧ (i : Int) ≤ z.ak.length := by omega
      simp only [↓wR, RA, simprocAttr, TF, ae, h, hc]
      rw [gu]; refine ⟨fun ⟨h1, e1⟩ => ?_, fun ⟨h1, e1⟩ => ?_⟩
      · rw [if_pos e1] at hx
        simp only [↓wR, RA, simprocAttr, TF, ae, h1, g5, gk, gh]
        rw [hx]
      · rw [if_neg (by omega)] at hx
        simp only [↓wR, RA, simprocAttr, TF, ae, h1, hcs, hz, hi2, T4]
        refine dv (fun r st' => r = .eu [] ∧ st' = bp [some (.row [.vl false 1 (z.origin.map (an.val false)), .vl false 5 (z.ak.map (ar.val false))] 0 2 26), some (.row [.vl false 1 (z.origin.map (an.val false)), .vl false 5 (z.ak.map (ar.val false)), .sc (.int .i64 (cx ((fun _ s => mu s) i c) 261 e))] 0 2 180), some (.row [.vl false 1 (c.owner.map (an.val false)), .sc (.int .u16 c.type.toNat), .sc (.int .u16 c.cls.toNat), .sc (.int .u32 c.tt.toNat), .vl false 4 (c.data.map (b9.val false))] 0 2 40)]) rfl ?_ ?_
        · refine bm (T := [dw, dx, fm, iw, iu, iz, gv, j8, m9, ka]) ok mixed Tryz.func126 rfl (by kernel_rfl) (by kernel_rfl) (by kernel_rfl) (by kernel_rfl) ?_; unfold Tryz.f126
          simp only [↓wR, RA, simprocAttr, TF, ae, e1]
          rw [bk]; refine ⟨fun hn2 => ?_, fun hn2 => ?_⟩
          · have hb : ((fun _ s => mu s) i c) = false := by simpa only [Bool.not_eq_true'] using hn2
            have hv : cx ((fun _ s => mu s) i c) 261 0 = 261 := by unfold cx; rw [if_pos ⟨rfl, hb⟩]
            simp only [↓wR, RA, simprocAttr, TF, ae, hn2, g5, gk, gh]
            try rw [hv]
          · have hb : ((fun _ s => mu s) i c) = true := by simpa only [Bool.not_eq_false'] using hn2
            have hv : cx ((fun _ s => mu s) i c) 261 0 = 0 := by unfold cx; rw [if_neg (fun q => by rw [hb] at q; cases q.2)]
            simp only [↓wR, RA, simprocAttr, TF, ae, hn2, g5, gk, gh]
            try rw [hv]
        rintro _ _ ⟨rfl, rfl⟩
        simp only [↓wR, RA, simprocAttr, TF, ae, gi]; repeat (simp (disch := omega) only [ah, bu, b7, bw, bz]; try simp only [↓wR, RA, simprocAttr, TF, ae, gi])
        exact ⟨(i + 1, cx ((fun _ s => mu s) i c) 261 e), ⟨hlt, hx⟩, by simp; omega, by (first | rfl | trivial | omega | ((try (simp (disch := omega) only [ah])); (try (simp only [FB])); first | done | rfl | omega)), by (first | rfl | trivial | omega | ((try (simp (disch := omega) only [ah])); (try (simp only [FB])); first | done | rfl | omega))⟩
    · rw [du (decide_eq_false h)] at hx
      simp only [↓wR, RA, simprocAttr, TF, ae, h, g5, gk, gh]
      rw [hx]; rfl
  rintro _ _ ⟨rfl, rfl⟩
  rw [← he0]
  clear he0
  simp only [↓wR, RA, simprocAttr, TF, ae, gi]
  rw [show fc 261 (fun _ s => mu s) 0 z.ak (P7 z) = Qi z from rfl]
  obtain ⟨e0, he0⟩ : ∃ e0, Qi z = e0 := ⟨_, rfl⟩
  rw [he0]
  refine dv (fun r st' => r = .eu [] ∧ st' = bp [some (.row [.vl false 1 (z.origin.map (an.val false)), .vl false 5 (z.ak.map (ar.val false))] 0 2 26), some (.row [.vl false 1 (z.origin.map (an.val false)), .vl false 5 (z.ak.map (ar.val false)), .sc (.int .i64 (fc 262 (fun _ s => dp s.owner z.origin) 0 z.ak e0))] 0 2 180)]) rfl ?_ ?_
  · refine bm (T := [dw, dx, fm, iw, iu, iz, gv, j8, m9, ka]) ok mixed Tryz.func121 rfl (by kernel_rfl) (by kernel_rfl) (by kernel_rfl) (by kernel_rfl) ?_; unfold Tryz.f121
    simp only [↓wR, RA, simprocAttr, TF, ae]
    refine c6 [0, 1, 2, 12, 13, 14] (fun (x : Nat × Int) => [.ptr 1 0, .sc (.int .i64 (262)), .fn (.func 124) [] [.ptr 0 0], .vl false 5 (z.ak.map (ar.val false)), .sc (.int .i64 (z.ak.length)), .sc (.int .i64 (x.1))]) (fun x => [some (.row [.vl false 1 (z.origin.map (an.val false)), .vl false 5 (z.ak.map (ar.val false))] 0 2 26), some (.row [.vl false 1 (z.origin.map (an.val false)), .vl false 5 (z.ak.map (ar.val false)), .sc (.int .i64 (x.2))] 0 2 180)]) (fun x => x.1 ≤ z.ak.length ∧ fc 262 (fun _ s => dp s.owner z.origin) 0 z.ak e0 = fc 262 (fun _ s => dp s.owner z.origin) x.1 (z.ak.drop x.1) x.2) (fun x => z.ak.length - x.1) (0, e0) ⟨Nat.zero_le _, rfl⟩ (by simp only [↓wR, RA, simprocAttr, TF, ae] <;> rfl) (by simp only [↓wR, RA, simprocAttr, TF, ae] <;> rfl) ?_
    rintro ⟨i, e⟩ ⟨hi, hx⟩
    simp only at hi hx
    simp only [↓wR, RA, simprocAttr, TF, ae]
    rw [bf]; refine ⟨fun h => ?_, fun h => ?_⟩
    · obtain ⟨c, hc, hd1, hlt⟩ := di (decide_eq_true h)
      rw [rq hd1] at hx
      have hcs := hz.set c (List.mem_of_getElem? hc)
      have hi2 : (0 : Int) ≤ i ∧ (i : Int) ≤ z.ak.length := by omega
      simp only [↓wR, RA, simprocAttr, TF, ae, h, hc]
      rw [gu]; refine ⟨fun ⟨h1, e1⟩ => ?_, fun ⟨h1, e1⟩ => ?_⟩
      · rw [if_pos e1] at hx
        simp only [↓wR, RA, simprocAttr, TF, ae, h1, g5, gk, gh]
        rw [hx]
      · rw [if_neg (by omega)] at hx
        simp only [↓wR, RA, simprocAttr, TF, ae, h1, hcs, hz, hi2, C5]
        refine dv (fun r st' => r = .eu [] ∧ st' = bp [some (.row [.vl false 1 (z.origin.map (an.val false)), .vl false 5 (z.ak.map (ar.val false))] 0 2 26), some (.row [.vl false 1 (z.origin.map (an.val false)), .vl false 5 (z.ak.map (ar.val false)), .sc (.int .i64 (cx ((fun _ s => dp s.owner z.origin) i c) 262 e))] 0 2 180), some (.row [.vl false 1 (c.owner.map (an.val false)), .sc (.int .u16 c.type.toNat), .sc (.int .u16 c.cls.toNat), .sc (.int .u32 c.tt.toNat), .vl false 4 (c.data.map (b9.val false))] 0 2 40)]) rfl ?_ ?_
        · refine bm (T := [dw, dx, fm, iw, iu, iz, gv, j8, m9, ka]) ok mixed Tryz.func126 rfl (by kernel_rfl) (by kernel_rfl) (by kernel_rfl) (by kernel_rfl) ?_; unfold Tryz.f126
          simp only [↓wR, RA, simprocAttr, TF, ae, e1]
          rw [bk]; refine ⟨fun hn2 => ?_, fun hn2 => ?_⟩
          · have hb : ((fun _ s => dp s.owner z.origin) i c) = false := by simpa only [Bool.not_eq_true'] using hn2
            have hv : cx ((fun _ s => dp s.owner z.origin) i c) 262 0 = 262 := by unfold cx; rw [if_pos ⟨rfl, hb⟩]
            simp only [↓wR, RA, simprocAttr, TF, ae, hn2, g5, gk, gh]
            try rw [hv]
          · have hb : ((fun _ s => dp s.owner z.origin) i c) = true := by simpa only [Bool.not_eq_false'] using hn2
            have hv : cx ((fun _ s => dp s.owner z.origin) i c) 262 0 = 0 := by unfold cx; rw [if_neg (fun q => by rw [hb] at q; cases q.2)]
            simp only [↓wR, RA, simprocAttr, TF, ae, hn2, g5, gk, gh]
            try rw [hv]
        rintro _ _ ⟨rfl, rfl⟩
        simp only [↓wR, RA, simprocAttr, TF, ae, gi]; repeat (simp (disch := omega) only [ah, bu, b7, bw, bz]; try simp only [↓wR, RA, simprocAttr, TF, ae, gi])
        exact ⟨(i + 1, cx ((fun _ s => dp s.owner z.origin) i c) 262 e), ⟨hlt, hx⟩, by simp; omega, by (first | rfl | trivial | omega | ((try (simp (disch := omega) only [ah])); (try (simp only [FB])); first | done | rfl | omega)), by (first | rfl | trivial | omega | ((try (simp (disch := omega) only [ah])); (try (simp only [FB])); first | done | rfl | omega))⟩
    · rw [du (decide_eq_false h)] at hx
      simp only [↓wR, RA, simprocAttr, TF, ae, h, g5, gk, gh]
      rw [hx]; rfl
  rintro _ _ ⟨rfl, rfl⟩
  rw [← he0]
  clear he0
  simp only [↓wR, RA, simprocAttr, TF, ae, gi, Ja, hz]
  rw [show fc 262 (fun _ s => dp s.owner z.origin) 0 z.ak (Qi z) = qb z from rfl]
  rw [dc]; refine ⟨fun ⟨hs1, es1⟩ => ?_, fun ⟨hs1, es1⟩ => ?_⟩
  · simp only [↓wR, RA, simprocAttr, TF, ae, hs1]
    rw [show (((fp z).2 : Int) == 1) = (decide ((fp z).1 = 1) && decide ((fp z).2 = 1)) from by rw [decide_eq_true (show (fp z).1 = 1 by omega), Bool.true_and, Bool.eq_iff_iff]; simp; omega]
    refine dv (fun r st' => r = .eu [] ∧ st' = bp [some (.row [.vl false 1 (z.origin.map (an.val false)), .vl false 5 (z.ak.map (ar.val false))] 0 2 26), some (.row [.vl false 1 (z.origin.map (an.val false)), .vl false 5 (z.ak.map (ar.val false)), .sc (.int .i64 (cx (decide ((fp z).1 = 1) && decide ((fp z).2 = 1)) 263 (qb z)))] 0 2 180)]) rfl ?_ ?_
    · refine bm (T := [dw, dx, fm, iw, iu, iz, gv, j8, m9, ka]) ok mixed Tryz.func126 rfl (by kernel_rfl) (by kernel_rfl) (by kernel_rfl) (by kernel_rfl) ?_; unfold Tryz.f126
      simp only [↓wR, RA, simprocAttr, TF, ae]
      rw [dc]; refine ⟨fun ⟨hn1, en1⟩ => ?_, fun ⟨hn1, en1⟩ => ?_⟩
      · simp only [↓wR, RA, simprocAttr, TF, ae, hn1]
        rw [bk]; refine ⟨fun hn2 => ?_, fun hn2 => ?_⟩
        · have hb : (decide ((fp z).1 = 1) && decide ((fp z).2 = 1)) = false := by simpa only [Bool.not_eq_true'] using hn2
          have hv : cx (decide ((fp z).1 = 1) && decide ((fp z).2 = 1)) 263 (qb z) = 263 := by unfold cx; rw [if_pos ⟨en1, hb⟩]
          simp only [↓wR, RA, simprocAttr, TF, ae, hn1, hn2, g5, gk, gh]
          try rw [hv]
        · have hb : (decide ((fp z).1 = 1) && decide ((fp z).2 = 1)) = true := by simpa only [Bool.not_eq_false'] using hn2
          have hv : cx (decide ((fp z).1 = 1) && decide ((fp z).2 = 1)) 263 (qb z) = qb z := by unfold cx; rw [if_neg (fun q => by rw [hb] at q; cases q.2)]
          simp only [↓wR, RA, simprocAttr, TF, ae, hn1, hn2, g5, gk, gh]
          try rw [hv]
      · have hv : cx (decide ((fp z).1 = 1) && decide ((fp z).2 = 1)) 263 (qb z) = qb z := by unfold cx; rw [if_neg (fun q => en1 q.1)]
        simp only [↓wR, RA, simprocAttr, TF, ae, hn1, g5, gk, gh]
        try rw [hv]
    rintro _ _ ⟨rfl, rfl⟩
    rw [show cx (decide ((fp z).1 = 1) && decide ((fp z).2 = 1)) 263 (qb z) = l8 z from rfl]
    simp only [↓wR, RA, simprocAttr, TF, ae, gi]
    refine bm (T := []) (aj.nil PP) mixed Tryz.func127 rfl (by kernel_rfl) (by kernel_rfl) (by kernel_rfl) (by kernel_rfl) ?_; unfold Tryz.f127
    simp only [↓wR, RA, simprocAttr, TF, ae]
    refine ⟨[1, 3, 6, 45], ?_⟩
    have hib : sb PP 154 = some (Tryz.f154.ntmps, Tryz.f154.body.getD .skip) := by kernel_rfl
    simp only [↓wR, RA, simprocAttr, TF, ae, hib]
    refine ⟨by kernel_rfl, fun l => ?_⟩
    unfold Tryz.f154
    simp only [↓wR, RA, simprocAttr, TF, ae]
    refine D9 [0, 2, 7, 8, 9] (fun (x : Nat × Bool) => [.sc (.func (.yield l) #[] #[]), .ptr 4 0, .vl false 5 (z.ak.map (ar.val false)), .sc (.int .i64 (z.ak.length)), .sc (.int .i64 (x.1))]) (fun x => [some (.row [.vl false 1 (z.origin.map (an.val false)), .vl false 5 (z.ak.map (ar.val false))] 0 2 26), some (.row [.vl false 1 (z.origin.map (an.val false)), .vl false 5 (z.ak.map (ar.val false)), .sc (.int .i64 (l8 z))] 0 2 180), some (.row [.sc (.bool (x.2))] 0 2 4), some (.row [.vl false 1 (z.origin.map (an.val false)), .vl false 5 (z.ak.map (ar.val false))] 0 2 26), some (.row [.sc (.int .u16 2)] 0 2 28)]) (fun x => x.1 ≤ z.ak.length ∧ ga z = (x.2 || Hp z (z.ak.drop x.1))) (fun x => z.ak.length - x.1) (0, false) ⟨Nat.zero_le _, by rw [Bool.false_or]; rfl⟩ (by simp only [↓wR, RA, simprocAttr, TF, ae] <;> rfl) (by simp only [↓wR, RA, simprocAttr, TF, ae] <;> rfl) ?_
    rintro ⟨i, b⟩ ⟨hi, hx⟩
    simp only at hi hx
    simp only [↓wR, RA, simprocAttr, TF, ae]
    rw [qs]; refine ⟨fun h => ?_, fun h => ?_⟩
    · obtain ⟨c, hc, hd1, hlt⟩ := di h
      have hcs := hz.set c (List.mem_of_getElem? hc)
      rw [aag hd1] at hx
      simp only [↓wR, RA, simprocAttr, TF, ae, h, hc]
      rw [qs]; refine ⟨fun h2 => ?_, fun h2 => ?_⟩
      · have e2 : (c.type.toNat : Int) = 2 := by simpa using h2
        rw [decide_eq_true e2, Bool.true_and] at hx
        simp only [↓wR, RA, simprocAttr, TF, ae, h2]
        refine vh [0, 2, 7, 8, 9, 17, 19] ?_
        simp only [↓wR, RA, simprocAttr, TF, ae, vn, ln]
        cases b with
        | true =>
          simp only [↓wR, RA, simprocAttr, TF, ae]; repeat (simp (disch := omega) only [ah, bu, b7, bw, bz]; try simp only [↓wR, RA, simprocAttr, TF, ae])
          exact ⟨(i + 1, true), ⟨hlt, by rw [hx]; rfl⟩, by simp; omega, by (first | rfl | trivial | omega | ((try (simp (disch := omega) only [ah])); (try (simp only [FB])); first | done | rfl | omega)), by (first | rfl | trivial | omega | ((try (simp (disch := omega) only [ah])); (try (simp only [FB])); first | done | rfl | omega))⟩
        | false =>
          simp only [↓wR, RA, simprocAttr, TF, ae, iy, hcs.owner, hz.origin]; repeat (simp (disch := omega) only [ah, bu, b7, bw, bz]; try simp only [↓wR, RA, simprocAttr, TF, ae, iy, hcs.owner, hz.origin])
          exact ⟨(i + 1, gx c.owner z.origin), ⟨hlt, by rw [hx, Bool.false_or]⟩, by simp; omega, by (first | rfl | trivial | omega | ((try (simp (disch := omega) only [ah])); (try (simp only [FB])); first | done | rfl | omega)), by (first | rfl | trivial | omega | ((try (simp (disch := omega) only [ah])); (try (simp only [FB])); first | done | rfl | omega))⟩
      · have e2 : ¬ (c.type.toNat : Int) = 2 := by simpa using h2
        rw [decide_eq_false e2, Bool.false_and, Bool.false_or] at hx
        simp only [↓wR, RA, simprocAttr, TF, ae, h2]; repeat (simp (disch := omega) only [ah, bu, b7, bw, bz]; try simp only [↓wR, RA, simprocAttr, TF, ae, h2])
        exact ⟨(i + 1, b), ⟨hlt, hx⟩, by simp; omega, by (first | rfl | trivial | omega | ((try (simp (disch := omega) only [ah])); (try (simp only [FB])); first | done | rfl | omega)), by (first | rfl | trivial | omega | ((try (simp (disch := omega) only [ah])); (try (simp only [FB])); first | done | rfl | omega))⟩
    rw [du h] at hx
    have hb : b = ga z := by rw [hx]; simp [Hp]
    simp only [↓wR, RA, simprocAttr, TF, ae, h]
    rw [hb]
    clear h hx hb
    refine dv (fun r st' => r = .eu [] ∧ st' = bp [some (.row [.vl false 1 (z.origin.map (an.val false)), .vl false 5 (z.ak.map (ar.val false))] 0 2 26), some (.row [.vl false 1 (z.origin.map (an.val false)), .vl false 5 (z.ak.map (ar.val false)), .sc (.int .i64 (cx (ga z) 264 (l8 z)))] 0 2 180), some (.row [.sc (.bool (ga z))] 0 2 4), some (.row [.vl false 1 (z.origin.map (an.val false)), .vl false 5 (z.ak.map (ar.val false))] 0 2 26), some (.row [.sc (.int .u16 2)] 0 2 28)]) rfl ?_ ?_
    · refine bm (T := [dw, dx, fm, iw, iu, iz, gv, j8, m9, ka]) ok mixed Tryz.func126 rfl (by kernel_rfl) (by kernel_rfl) (by kernel_rfl) (by kernel_rfl) ?_; unfold Tryz.f126
      simp only [↓wR, RA, simprocAttr, TF, ae]
      rw [dc]; refine ⟨fun ⟨hn1, en1⟩ => ?_, fun ⟨hn1, en1⟩ => ?_⟩
      · simp only [↓wR, RA, simprocAttr, TF, ae, hn1]
        rw [bk]; refine ⟨fun hn2 => ?_, fun hn2 => ?_⟩
        · have hb : (ga z) = false := by simpa only [Bool.not_eq_true'] using hn2
          have hv : cx (ga z) 264 (l8 z) = 264 := by unfold cx; rw [if_pos ⟨en1, hb⟩]
          simp only [↓wR, RA, simprocAttr, TF, ae, hn1, hn2, g5, gk, gh]
          try rw [hv]
        · have hb : (ga z) = true := by simpa only [Bool.not_eq_false'] using hn2
          have hv : cx (ga z) 264 (l8 z) = l8 z := by unfold cx; rw [if_neg (fun q => by rw [hb] at q; cases q.2)]
          simp only [↓wR, RA, simprocAttr, TF, ae, hn1, hn2, g5, gk, gh]
          try rw [hv]
      · have hv : cx (ga z) 264 (l8 z) = l8 z := by unfold cx; rw [if_neg (fun q => en1 q.1)]
        simp only [↓wR, RA, simprocAttr, TF, ae, hn1, g5, gk, gh]
        try rw [hv]
    rintro _ _ ⟨rfl, rfl⟩
    rw [show cx (ga z) 264 (l8 z) = Cz z from rfl]
    simp only [↓wR, RA, simprocAttr, TF, ae, gi]
    obtain ⟨e0, he0⟩ : ∃ e0, Cz z = e0 := ⟨_, rfl⟩
    rw [he0]
    refine dv (fun r st' => r = .eu [] ∧ st' = bp [some (.row [.vl false 1 (z.origin.map (an.val false)), .vl false 5 (z.ak.map (ar.val false))] 0 2 26), some (.row [.vl false 1 (z.origin.map (an.val false)), .vl false 5 (z.ak.map (ar.val false)), .sc (.int .i64 (fc 265 (ik z) 0 z.ak e0))] 0 2 180), some (.row [.sc (.bool (ga z))] 0 2 4), some (.row [.vl false 1 (z.origin.map (an.val false)), .vl false 5 (z.ak.map (ar.val false))] 0 2 26), some (.row [.sc (.int .u16 2)] 0 2 28)]) rfl ?_ ?_
    · refine bm (T := [dw, dx, fm, iw, iu, iz, gv, j8, m9, ka]) ok mixed Tryz.func121 rfl (by kernel_rfl) (by kernel_rfl) (by kernel_rfl) (by kernel_rfl) ?_; unfold Tryz.f121
      simp only [↓wR, RA, simprocAttr, TF, ae]
      refine c6 [0, 1, 2, 12, 13, 14] (fun (x : Nat × Int) => [.ptr 1 0, .sc (.int .i64 (265)), .fn (.func 128) [.ptr 1 0] [], .vl false 5 (z.ak.map (ar.val false)), .sc (.int .i64 (z.ak.length)), .sc (.int .i64 (x.1))]) (fun x => [some (.row [.vl false 1 (z.origin.map (an.val false)), .vl false 5 (z.ak.map (ar.val false))] 0 2 26), some (.row [.vl false 1 (z.origin.map (an.val false)), .vl false 5 (z.ak.map (ar.val false)), .sc (.int .i64 (x.2))] 0 2 180), some (.row [.sc (.bool (ga z))] 0 2 4), some (.row [.vl false 1 (z.origin.map (an.val false)), .vl false 5 (z.ak.map (ar.val false))] 0 2 26), some (.row [.sc (.int .u16 2)] 0 2 28)]) (fun x => x.1 ≤ z.ak.length ∧ fc 265 (ik z) 0 z.ak e0 = fc 265 (ik z) x.1 (z.ak.drop x.1) x.2) (fun x => z.ak.length - x.1) (0, e0) ⟨Nat.zero_le _, rfl⟩ (by simp only [↓wR, RA, simprocAttr, TF, ae] <;> rfl) (by simp only [↓wR, RA, simprocAttr, TF, ae] <;> rfl) ?_
      rintro ⟨i, e⟩ ⟨hi, hx⟩
      simp only at hi hx
      simp only [↓wR, RA, simprocAttr, TF, ae]
      rw [bf]; refine ⟨fun h => ?_, fun h => ?_⟩
      · obtain ⟨c, hc, hd1, hlt⟩ := di (decide_eq_true h)
        rw [rq hd1] at hx
        have hcs := hz.set c (List.mem_of_getElem? hc)
        have hi2 : (0 : Int) ≤ i ∧ (i : Int) ≤ z.ak.length := by omega
        simp only [↓wR, RA, simprocAttr, TF, ae, h, hc]
        rw [gu]; refine ⟨fun ⟨h1, e1⟩ => ?_, fun ⟨h1, e1⟩ => ?_⟩
        · rw [if_pos e1] at hx
          simp only [↓wR, RA, simprocAttr, TF, ae, h1, g5, gk, gh]
          rw [hx]
        · rw [if_neg (by omega)] at hx
          simp only [↓wR, RA, simprocAttr, TF, ae, h1, hcs, hz, hi2, Cb]
          refine dv (fun r st' => r = .eu [] ∧ st' = bp [some (.row [.vl false 1 (z.origin.map (an.val false)), .vl false 5 (z.ak.map (ar.val false))] 0 2 26), some (.row [.vl false 1 (z.origin.map (an.val false)), .vl false 5 (z.ak.map (ar.val false)), .sc (.int .i64 (cx ((ik z) i c) 265 e))] 0 2 180), some (.row [.sc (.bool (ga z))] 0 2 4), some (.row [.vl false 1 (z.origin.map (an.val false)), .vl false 5 (z.ak.map (ar.val false))] 0 2 26), some (.row [.sc (.int .u16 2)] 0 2 28), some (.row [.vl false 1 (c.owner.map (an.val false)), .sc (.int .u16 c.type.toNat), .sc (.int .u16 c.cls.toNat), .sc (.int .u32 c.tt.toNat), .vl false 4 (c.data.map (b9.val false))] 0 2 40)]) rfl ?_ ?_
          · refine bm (T := [dw, dx, fm, iw, iu, iz, gv, j8, m9, ka]) ok mixed Tryz.func126 rfl (by kernel_rfl) (by kernel_rfl) (by kernel_rfl) (by kernel_rfl) ?_; unfold Tryz.f126
            simp only [↓wR, RA, simprocAttr, TF, ae, e1]
            rw [bk]; refine ⟨fun hn2 => ?_, fun hn2 => ?_⟩
            · have hb : ((ik z) i c) = false := by simpa only [Bool.not_eq_true'] using hn2
              have hv : cx ((ik z) i c) 265 0 = 265 := by unfold cx; rw [if_pos ⟨rfl, hb⟩]
              simp only [↓wR, RA, simprocAttr, TF, ae, hn2, g5, gk, gh]
              try rw [hv]
            · have hb : ((ik z) i c) = true := by simpa only [Bool.not_eq_false'] using hn2
              have hv : cx ((ik z) i c) 265 0 = 0 := by unfold cx; rw [if_neg (fun q => by rw [hb] at q; cases q.2)]
              simp only [↓wR, RA, simprocAttr, TF, ae, hn2, g5, gk, gh]
              try rw [hv]
          rintro _ _ ⟨rfl, rfl⟩
          simp only [↓wR, RA, simprocAttr, TF, ae, gi]; repeat (simp (disch := omega) only [ah, bu, b7, bw, bz]; try simp only [↓wR, RA, simprocAttr, TF, ae, gi])
          exact ⟨(i + 1, cx ((ik z) i c) 265 e), ⟨hlt, hx⟩, by simp; omega, by (first | rfl | trivial | omega | ((try (simp (disch := omega) only [ah])); (try (simp only [FB])); first | done | rfl | omega)), by (first | rfl | trivial | omega | ((try (simp (disch := omega) only [ah])); (try (simp only [FB])); first | done | rfl | omega))⟩
      · rw [du (decide_eq_false h)] at hx
        simp only [↓wR, RA, simprocAttr, TF, ae, h, g5, gk, gh]
        rw [hx]; rfl
    rintro _ _ ⟨rfl, rfl⟩
    rw [← he0]
    clear he0
    simp only [↓wR, RA, simprocAttr, TF, ae, gi]
    rw [show fc 265 (ik z) 0 z.ak (Cz z) = Cq z from rfl]
    obtain ⟨e0, he0⟩ : ∃ e0, Cq z = e0 := ⟨_, rfl⟩
    rw [he0]
    refine dv (fun r st' => r = .eu [] ∧ st' = bp [some (.row [.vl false 1 (z.origin.map (an.val false)), .vl false 5 (z.ak.map (ar.val false))] 0 2 26), some (.row [.vl false 1 (z.origin.map (an.val false)), .vl false 5 (z.ak.map (ar.val false)), .sc (.int .i64 (fc 266 (fun _ s => j7 s) 0 z.ak e0))] 0 2 180), some (.row [.sc (.bool (ga z))] 0 2 4), some (.row [.vl false 1 (z.origin.map (an.val false)), .vl false 5 (z.ak.map (ar.val false))] 0 2 26), some (.row [.sc (.int .u16 2)] 0 2 28)]) rfl ?_ ?_
    · refine bm (T := [dw, dx, fm, iw, iu, iz, gv, j8, m9, ka]) ok mixed Tryz.func121 rfl (by kernel_rfl) (by kernel_rfl) (by kernel_rfl) (by kernel_rfl) ?_; unfold Tryz.f121
      simp only [↓wR, RA, simprocAttr, TF, ae]
      refine c6 [0, 1, 2, 12, 13, 14] (fun (x : Nat × Int) => [.ptr 1 0, .sc (.int .i64 (266)), .sc (.func (.func 129) #[] #[]), .vl false 5 (z.ak.map (ar.val false)), .sc (.int .i64 (z.ak.length)), .sc (.int .i64 (x.1))]) (fun x => [some (.row [.vl false 1 (z.origin.map (an.val false)), .vl false 5 (z.ak.map (ar.val false))] 0 2 26), some (.row [.vl false 1 (z.origin.map (an.val false)), .vl false 5 (z.ak.map (ar.val false)), .sc (.int .i64 (x.2))] 0 2 180), some (.row [.sc (.bool (ga z))] 0 2 4), some (.row [.vl false 1 (z.origin.map (an.val false)), .vl false 5 (z.ak.map (ar.val false))] 0 2 26), some (.row [.sc (.int .u16 2)] 0 2 28)]) (fun x => x.1 ≤ z.ak.length ∧ fc 266 (fun _ s => j7 s) 0 z.ak e0 = fc 266 (fun _ s => j7 s) x.1 (z.ak.drop x.1) x.2) (fun x => z.ak.length - x.1) (0, e0) ⟨Nat.zero_le _, rfl⟩ (by simp only [↓wR, RA, simprocAttr, TF, ae] <;> rfl) (by simp only [↓wR, RA, simprocAttr, TF, ae] <;> rfl) ?_
      rintro ⟨i, e⟩ ⟨hi, hx⟩
      simp only at hi hx
      simp only [↓wR, RA, simprocAttr, TF, ae]
      rw [bf]; refine ⟨fun h => ?_, fun h => ?_⟩
      · obtain ⟨c, hc, hd1, hlt⟩ := di (decide_eq_true h)
        rw [rq hd1] at hx
        have hcs := hz.set c (List.mem_of_getElem? hc)
        have hi2 : (0 : Int) ≤ i ∧ (i : Int) ≤ z.ak.length := by omega
        simp only [↓wR, RA, simprocAttr, TF, ae, h, hc]
        rw [gu]; refine ⟨fun ⟨h1, e1⟩ => ?_, fun ⟨h1, e1⟩ => ?_⟩
        · rw [if_pos e1] at hx
          simp only [↓wR, RA, simprocAttr, TF, ae, h1, g5, gk, gh]
          rw [hx]
        · rw [if_neg (by omega)] at hx
          simp only [↓wR, RA, simprocAttr, TF, ae, h1, hcs, hz, hi2, Gd]
          refine dv (fun r st' => r = .eu [] ∧ st' = bp [some (.row [.vl false 1 (z.origin.map (an.val false)), .vl false 5 (z.ak.map (ar.val false))] 0 2 26), some (.row [.vl false 1 (z.origin.map (an.val false)), .vl false 5 (z.ak.map (ar.val false)), .sc (.int .i64 (cx ((fun _ s => j7 s) i c) 266 e))] 0 2 180), some (.row [.sc (.bool (ga z))] 0 2 4), some (.row [.vl false 1 (z.origin.map (an.val false)), .vl false 5 (z.ak.map (ar.val false))] 0 2 26), some (.row [.sc (.int .u16 2)] 0 2 28), some (.row [.vl false 1 (c.owner.map (an.val false)), .sc (.int .u16 c.type.toNat), .sc (.int .u16 c.cls.toNat), .sc (.int .u32 c.tt.toNat), .vl false 4 (c.data.map (b9.val false))] 0 2 40)]) rfl ?_ ?_
          · refine bm (T := [dw, dx, fm, iw, iu, iz, gv, j8, m9, ka]) ok mixed Tryz.func126 rfl (by kernel_rfl) (by kernel_rfl) (by kernel_rfl) (by kernel_rfl) ?_; unfold Tryz.f126
            simp only [↓wR, RA, simprocAttr, TF, ae, e1]
            rw [bk]; refine ⟨fun hn2 => ?_, fun hn2 => ?_⟩
            · have hb : ((fun _ s => j7 s) i c) = false := by simpa only [Bool.not_eq_true'] using hn2
              have hv : cx ((fun _ s => j7 s) i c) 266 0 = 266 := by unfold cx; rw [if_pos ⟨rfl, hb⟩]
              simp only [↓wR, RA, simprocAttr, TF, ae, hn2, g5, gk, gh]
              try rw [hv]
            · have hb : ((fun _ s => j7 s) i c) = true := by simpa only [Bool.not_eq_false'] using hn2
              have hv : cx ((fun _ s => j7 s) i c) 266 0 = 0 := by unfold cx; rw [if_neg (fun q => by rw [hb] at q; cases q.2)]
              simp only [↓wR, RA, simprocAttr, TF, ae, hn2, g5, gk, gh]
              try rw [hv]
          rintro _ _ ⟨rfl, rfl⟩
          simp only [↓wR, RA, simprocAttr, TF, ae, gi]; repeat (simp (disch := omega) only [ah, bu, b7, bw, bz]; try simp only [↓wR, RA, simprocAttr, TF, ae, gi])
          exact ⟨(i + 1, cx ((fun _ s => j7 s) i c) 266 e), ⟨hlt, hx⟩, by simp; omega, by (first | rfl | trivial | omega | ((try (simp (disch := omega) only [ah])); (try (simp only [FB])); first | done | rfl | omega)), by (first | rfl | trivial | omega | ((try (simp (disch := omega) only [ah])); (try (simp only [FB])); first | done | rfl | omega))⟩
      · rw [du (decide_eq_false h)] at hx
        simp only [↓wR, RA, simprocAttr, TF, ae, h, g5, gk, gh]
        rw [hx]; rfl
    rintro _ _ ⟨rfl, rfl⟩
    rw [← he0]
    clear he0
    simp only [↓wR, RA, simprocAttr, TF, ae, gi]
    rw [show fc 266 (fun _ s => j7 s) 0 z.ak (Cq z) = Jz z from rfl]
    obtain ⟨e0, he0⟩ : ∃ e0, Jz z = e0 := ⟨_, rfl⟩
    rw [he0]
    refine dv (fun r st' => r = .eu [] ∧ st' = bp [some (.row [.vl false 1 (z.origin.map (an.val false)), .vl false 5 (z.ak.map (ar.val false))] 0 2 26), some (.row [.vl false 1 (z.origin.map (an.val false)), .vl false 5 (z.ak.map (ar.val false)), .sc (.int .i64 (fc 267 (fun _ s => oi z s) 0 z.ak e0))] 0 2 180), some (.row [.sc (.bool (ga z))] 0 2 4), some (.row [.vl false 1 (z.origin.map (an.val false)), .vl false 5 (z.ak.map (ar.val false))] 0 2 26), some (.row [.sc (.int .u16 2)] 0 2 28)]) rfl ?_ ?_
    · refine bm (T := [dw, dx, fm, iw, iu, iz, gv, j8, m9, ka]) ok mixed Tryz.func121 rfl (by kernel_rfl) (by kernel_rfl) (by kernel_rfl) (by kernel_rfl) ?_; unfold Tryz.f121
      simp only [↓wR, RA, simprocAttr, TF, ae]
      refine c6 [0, 1, 2, 12, 13, 14] (fun (x : Nat × Int) => [.ptr 1 0, .sc (.int .i64 (267)), .fn (.func 130) [] [.ptr 0 0], .vl false 5 (z.ak.map (ar.val false)), .sc (.int .i64 (z.ak.length)), .sc (.int .i64 (x.1))]) (fun x => [some (.row [.vl false 1 (z.origin.map (an.val false)), .vl false 5 (z.ak.map (ar.val false))] 0 2 26), some (.row [.vl false 1 (z.origin.map (an.val false)), .vl false 5 (z.ak.map (ar.val false)), .sc (.int .i64 (x.2))] 0 2 180), some (.row [.sc (.bool (ga z))] 0 2 4), some (.row [.vl false 1 (z.origin.map (an.val false)), .vl false 5 (z.ak.map (ar.val false))] 0 2 26), some (.row [.sc (.int .u16 2)] 0 2 28)]) (fun x => x.1 ≤ z.ak.length ∧ fc 267 (fun _ s => oi z s) 0 z.ak e0 = fc 267 (fun _ s => oi z s) x.1 (z.ak.drop x.1) x.2) (fun x => z.ak.length - x.1) (0, e0) ⟨Nat.zero_le _, rfl⟩ (by simp only [↓wR, RA, simprocAttr, TF, ae] <;> rfl) (by simp only [↓wR, RA, simprocAttr, TF, ae] <;> rfl) ?_
      rintro ⟨i, e⟩ ⟨hi, hx⟩
      simp only at hi hx
      simp only [↓wR, RA, simprocAttr, TF, ae]
      rw [bf]; refine ⟨fun h => ?_, fun h => ?_⟩
      · obtain ⟨c, hc, hd1, hlt⟩ := di (decide_eq_true h)
        rw [rq hd1] at hx
        have hcs := hz.set c (List.mem_of_getElem? hc)
        have hi2 : (0 : Int) ≤ i ∧ (i : Int) ≤ z.ak.length := by omega
        simp only [↓wR, RA, simprocAttr, TF, ae, h, hc]
        rw [gu]; refine ⟨fun ⟨h1, e1⟩ => ?_, fun ⟨h1, e1⟩ => ?_⟩
        · rw [if_pos e1] at hx
          simp only [↓wR, RA, simprocAttr, TF, ae, h1, g5, gk, gh]
          rw [hx]
        · rw [if_neg (by omega)] at hx
          simp only [↓wR, RA, simprocAttr, TF, ae, h1, hcs, hz, hi2, Mf]
          refine dv (fun r st' => r = .eu [] ∧ st' = bp [some (.row [.vl false 1 (z.origin.map (an.val false)), .vl false 5 (z.ak.map (ar.val false))] 0 2 26), some (.row [.vl false 1 (z.origin.map (an.val false)), .vl false 5 (z.ak.map (ar.val false)), .sc (.int .i64 (cx ((fun _ s => oi z s) i c) 267 e))] 0 2 180), some (.row [.sc (.bool (ga z))] 0 2 4), some (.row [.vl false 1 (z.origin.map (an.val false)), .vl false 5 (z.ak.map (ar.val false))] 0 2 26), some (.row [.sc (.int .u16 2)] 0 2 28), some (.row [.vl false 1 (c.owner.map (an.val false)), .sc (.int .u16 c.type.toNat), .sc (.int .u16 c.cls.toNat), .sc (.int .u32 c.tt.toNat), .vl false 4 (c.data.map (b9.val false))] 0 2 40)]) rfl ?_ ?_
          · refine bm (T := [dw, dx, fm, iw, iu, iz, gv, j8, m9, ka]) ok mixed Tryz.func126 rfl (by kernel_rfl) (by kernel_rfl) (by kernel_rfl) (by kernel_rfl) ?_; unfold Tryz.f126
            simp only [↓wR, RA, simprocAttr, TF, ae, e1]
            rw [bk]; refine ⟨fun hn2 => ?_, fun hn2 => ?_⟩
            · have hb : ((fun _ s => oi z s) i c) = false := by simpa only [Bool.not_eq_true'] using hn2
              have hv : cx ((fun _ s => oi z s) i c) 267 0 = 267 := by unfold cx; rw [if_pos ⟨rfl, hb⟩]
              simp only [↓wR, RA, simprocAttr, TF, ae, hn2, g5, gk, gh]
              try rw [hv]
            · have hb : ((fun _ s => oi z s) i c) = true := by simpa only [Bool.not_eq_false'] using hn2
              have hv : cx ((fun _ s => oi z s) i c) 267 0 = 0 := by unfold cx; rw [if_neg (fun q => by rw [hb] at q; cases q.2)]
              simp only [↓wR, RA, simprocAttr, TF, ae, hn2, g5, gk, gh]
              try rw [hv]
          rintro _ _ ⟨rfl, rfl⟩
          simp only [↓wR, RA, simprocAttr, TF, ae, gi]; repeat (simp (disch := omega) only [ah, bu, b7, bw, bz]; try simp only [↓wR, RA, simprocAttr, TF, ae, gi])
          exact ⟨(i + 1, cx ((fun _ s => oi z s) i c) 267 e), ⟨hlt, hx⟩, by simp; omega, by (first | rfl | trivial | omega | ((try (simp (disch := omega) only [ah])); (try (simp only [FB])); first | done | rfl | omega)), by (first | rfl | trivial | omega | ((try (simp (disch := omega) only [ah])); (try (simp only [FB])); first | done | rfl | omega))⟩
      · rw [du (decide_eq_false h)] at hx
        simp only [↓wR, RA, simprocAttr, TF, ae, h, g5, gk, gh]
        rw [hx]; rfl
    rintro _ _ ⟨rfl, rfl⟩
    rw [← he0]
    clear he0
    simp only [↓wR, RA, simprocAttr, TF, ae, gi]
    rfl
  · simp only [↓wR, RA, simprocAttr, TF, ae, hs1]
    have hbf : (decide ((fp z).1 = 1) && decide ((fp z).2 = 1)) = false := by rw [decide_eq_false (show ¬ (fp z).1 = 1 by omega), Bool.false_and]
    refine dv (fun r st' => r = .eu [] ∧ st' = bp [some (.row [.vl false 1 (z.origin.map (an.val false)), .vl false 5 (z.ak.map (ar.val false))] 0 2 26), some (.row [.vl false 1 (z.origin.map (an.val false)), .vl false 5 (z.ak.map (ar.val false)), .sc (.int .i64 (cx (decide ((fp z).1 = 1) && decide ((fp z).2 = 1)) 263 (qb z)))] 0 2 180)]) rfl ?_ ?_
    · refine bm (T := [dw, dx, fm, iw, iu, iz, gv, j8, m9, ka]) ok mixed Tryz.func126 rfl (by kernel_rfl) (by kernel_rfl) (by kernel_rfl) (by kernel_rfl) ?_; unfold Tryz.f126
      simp only [↓wR, RA, simprocAttr, TF, ae]
      rw [dc]; refine ⟨fun ⟨hn1, en1⟩ => ?_, fun ⟨hn1, en1⟩ => ?_⟩
      · have hv : cx (decide ((fp z).1 = 1) && decide ((fp z).2 = 1)) 263 (qb z) = 263 := by unfold cx; rw [if_pos ⟨en1, hbf⟩]
        simp only [↓wR, RA, simprocAttr, TF, ae, hn1, g5, gk, gh]
        try rw [hv]
      · have hv : cx (decide ((fp z).1 = 1) && decide ((fp z).2 = 1)) 263 (qb z) = qb z := by unfold cx; rw [if_neg (fun q => en1 q.1)]
        simp only [↓wR, RA, simprocAttr, TF, ae, hn1, g5, gk, gh]
        try rw [hv]
    rintro _ _ ⟨rfl, rfl⟩
    rw [show cx (decide ((fp z).1 = 1) && decide ((fp z).2 = 1)) 263 (qb z) = l8 z from rfl]
    simp only [↓wR, RA, simprocAttr, TF, ae, gi]
    refine bm (T := []) (aj.nil PP) mixed Tryz.func127 rfl (by kernel_rfl) (by kernel_rfl) (by kernel_rfl) (by kernel_rfl) ?_; unfold Tryz.f127
    simp only [↓wR, RA, simprocAttr, TF, ae]
    refine ⟨[1, 3, 6, 45], ?_⟩
    have hib : sb PP 154 = some (Tryz.f154.ntmps, Tryz.f154.body.getD .skip) := by kernel_rfl
    simp only [↓wR, RA, simprocAttr, TF, ae, hib]
    refine ⟨by kernel_rfl, fun l => ?_⟩
    unfold Tryz.f154
    simp only [↓wR, RA, simprocAttr, TF, ae]
    refine D9 [0, 2, 7, 8, 9] (fun (x : Nat × Bool) => [.sc (.func (.yield l) #[] #[]), .ptr 4 0, .vl false 5 (z.ak.map (ar.val false)), .sc (.int .i64 (z.ak.length)), .sc (.int .i64 (x.1))]) (fun x => [some (.row [.vl false 1 (z.origin.map (an.val false)), .vl false 5 (z.ak.map (ar.val false))] 0 2 26), some (.row [.vl false 1 (z.origin.map (an.val false)), .vl false 5 (z.ak.map (ar.val false)), .sc (.int .i64 (l8 z))] 0 2 180), some (.row [.sc (.bool (x.2))] 0 2 4), some (.row [.vl false 1 (z.origin.map (an.val false)), .vl false 5 (z.ak.map (ar.val false))] 0 2 26), some (.row [.sc (.int .u16 2)] 0 2 28)]) (fun x => x.1 ≤ z.ak.length ∧ ga z = (x.2 || Hp z (z.ak.drop x.1))) (fun x => z.ak.length - x.1) (0, false) ⟨Nat.zero_le _, by rw [Bool.false_or]; rfl⟩ (by simp only [↓wR, RA, simprocAttr, TF, ae] <;> rfl) (by simp only [↓wR, RA, simprocAttr, TF, ae] <;> rfl) ?_
    rintro ⟨i, b⟩ ⟨hi, hx⟩
    simp only at hi hx
    simp only [↓wR, RA, simprocAttr, TF, ae]
    rw [qs]; refine ⟨fun h => ?_, fun h => ?_⟩
    · obtain ⟨c, hc, hd1, hlt⟩ := di h
      have hcs := hz.set c (List.mem_of_getElem? hc)
      rw [aag hd1] at hx
      simp only [↓wR, RA, simprocAttr, TF, ae, h, hc]
      rw [qs]; refine ⟨fun h2 => ?_, fun h2 => ?_⟩
      · have e2 : (c.type.toNat : Int) = 2 := by simpa using h2
        rw [decide_eq_true e2, Bool.true_and] at hx
        simp only [↓wR, RA, simprocAttr, TF, ae, h2]
        refine vh [0, 2, 7, 8, 9, 17, 19] ?_
        simp only [↓wR, RA, simprocAttr, TF, ae, vn, ln]
        cases b with
        | true =>
          simp only [↓wR, RA, simprocAttr, TF, ae]; repeat (simp (disch := omega) only [ah, bu, b7, bw, bz]; try simp only [↓wR, RA, simprocAttr, TF, ae])
          exact ⟨(i + 1, true), ⟨hlt, by rw [hx]; rfl⟩, by simp; omega, by (first | rfl | trivial | omega | ((try (simp (disch := omega) only [ah])); (try (simp only [FB])); first | done | rfl | omega)), by (first | rfl | trivial | omega | ((try (simp (disch := omega) only [ah])); (try (simp only [FB])); first | done | rfl | omega))⟩
        | false =>
          simp only [↓wR, RA, simprocAttr, TF, ae, iy, hcs.owner, hz.origin]; repeat (simp (disch := omega) only [ah, bu, b7, bw, bz]; try simp only [↓wR, RA, simprocAttr, TF, ae, iy, hcs.owner, hz.origin])
          exact ⟨(i + 1, gx c.owner z.origin), ⟨hlt, by rw [hx, Bool.false_or]⟩, by simp; omega, by (first | rfl | trivial | omega | ((try (simp (disch := omega) only [ah])); (try (simp only [FB])); first | done | rfl | omega)), by (first | rfl | trivial | omega | ((try (simp (disch := omega) only [ah])); (try (simp only [FB])); first | done | rfl | omega))⟩
      · have e2 : ¬ (c.type.toNat : Int) = 2 := by simpa using h2
        rw [decide_eq_false e2, Bool.false_and, Bool.false_or] at hx
        simp only [↓wR, RA, simprocAttr, TF, ae, h2]; repeat (simp (disch := omega) only [ah, bu, b7, bw, bz]; try simp only [↓wR, RA, simprocAttr, TF, ae, h2])
        exact ⟨(i + 1, b), ⟨hlt, hx⟩, by simp; omega, by (first | rfl | trivial | omega | ((try (simp (disch := omega) only [ah])); (try (simp only [FB])); first | done | rfl | omega)), by (first | rfl | trivial | omega | ((try (simp (disch := omega) only [ah])); (try (simp only [FB])); first | done | rfl | omega))⟩
    rw [du h] at hx
    have hb : b = ga z := by rw [hx]; simp [Hp]
    simp only [↓wR, RA, simprocAttr, TF, ae, h]
    rw [hb]
    clear h hx hb
    refine dv (fun r st' => r = .eu [] ∧ st' = bp [some (.row [.vl false 1 (z.origin.map (an.val false)), .vl false 5 (z.ak.map (ar.val false))] 0 2 26), some (.row [.vl false 1 (z.origin.map (an.val false)), .vl false 5 (z.ak.map (ar.val false)), .sc (.int .i64 (cx (ga z) 264 (l8 z)))] 0 2 180), some (.row [.sc (.bool (ga z))] 0 2 4), some (.row [.vl false 1 (z.origin.map (an.val false)), .vl false 5 (z.ak.map (ar.val false))] 0 2 26), some (.row [.sc (.int .u16 2)] 0 2 28)]) rfl ?_ ?_
    · refine bm (T := [dw, dx, fm, iw, iu, iz, gv, j8, m9, ka]) ok mixed Tryz.func126 rfl (by kernel_rfl) (by kernel_rfl) (by kernel_rfl) (by kernel_rfl) ?_; unfold Tryz.f126
      simp only [↓wR, RA, simprocAttr, TF, ae]
      rw [dc]; refine ⟨fun ⟨hn1, en1⟩ => ?_, fun ⟨hn1, en1⟩ => ?_⟩
      · simp only [↓wR, RA, simprocAttr, TF, ae, hn1]
        rw [bk]; refine ⟨fun hn2 => ?_, fun hn2 => ?_⟩
        · have hb : (ga z) = false := by simpa only [Bool.not_eq_true'] using hn2
          have hv : cx (ga z) 264 (l8 z) = 264 := by unfold cx; rw [if_pos ⟨en1, hb⟩]
          simp only [↓wR, RA, simprocAttr, TF, ae, hn1, hn2, g5, gk, gh]
          try rw [hv]
        · have hb : (ga z) = true := by simpa only [Bool.not_eq_false'] using hn2
          have hv : cx (ga z) 264 (l8 z) = l8 z := by unfold cx; rw [if_neg (fun q => by rw [hb] at q; cases q.2)]
          simp only [↓wR, RA, simprocAttr, TF, ae, hn1, hn2, g5, gk, gh]
          try rw [hv]
      · have hv : cx (ga z) 264 (l8 z) = l8 z := by unfold cx; rw [if_neg (fun q => en1 q.1)]
        simp only [↓wR, RA, simprocAttr, TF, ae, hn1, g5, gk, gh]
        try rw [hv]
    rintro _ _ ⟨rfl, rfl⟩
    rw [show cx (ga z) 264 (l8 z) = Cz z from rfl]
    simp only [↓wR, RA, simprocAttr, TF, ae, gi]
    obtain ⟨e0, he0⟩ : ∃ e0, Cz z = e0 := ⟨_, rfl⟩
    rw [he0]
    refine dv (fun r st' => r = .eu [] ∧ st' = bp [some (.row [.vl false 1 (z.origin.map (an.val false)), .vl false 5 (z.ak.map (ar.val false))] 0 2 26), some (.row [.vl false 1 (z.origin.map (an.val false)), .vl false 5 (z.ak.map (ar.val false)), .sc (.int .i64 (fc 265 (ik z) 0 z.ak e0))] 0 2 180), some (.row [.sc (.bool (ga z))] 0 2 4), some (.row [.vl false 1 (z.origin.map (an.val false)), .vl false 5 (z.ak.map (ar.val false))] 0 2 26), some (.row [.sc (.int .u16 2)] 0 2 28)]) rfl ?_ ?_
    · refine bm (T := [dw, dx, fm, iw, iu, iz, gv, j8, m9, ka]) ok mixed Tryz.func121 rfl (by kernel_rfl) (by kernel_rfl) (by kernel_rfl) (by kernel_rfl) ?_; unfold Tryz.f121
      simp only [↓wR, RA, simprocAttr, TF, ae]
      refine c6 [0, 1, 2, 12, 13, 14] (fun (x : Nat × Int) => [.ptr 1 0, .sc (.int .i64 (265)), .fn (.func 128) [.ptr 1 0] [], .vl false 5 (z.ak.map (ar.val false)), .sc (.int .i64 (z.ak.length)), .sc (.int .i64 (x.1))]) (fun x => [some (.row [.vl false 1 (z.origin.map (an.val false)), .vl false 5 (z.ak.map (ar.val false))] 0 2 26), some (.row [.vl false 1 (z.origin.map (an.val false)), .vl false 5 (z.ak.map (ar.val false)), .sc (.int .i64 (x.2))] 0 2 180), some (.row [.sc (.bool (ga z))] 0 2 4), some (.row [.vl false 1 (z.origin.map (an.val false)), .vl false 5 (z.ak.map (ar.val false))] 0 2 26), some (.row [.sc (.int .u16 2)] 0 2 28)]) (fun x => x.1 ≤ z.ak.length ∧ fc 265 (ik z) 0 z.ak e0 = fc 265 (ik z) x.1 (z.ak.drop x.1) x.2) (fun x => z.ak.length - x.1) (0, e0) ⟨Nat.zero_le _, rfl⟩ (by simp only [↓wR, RA, simprocAttr, TF, ae] <;> rfl) (by simp only [↓wR, RA, simprocAttr, TF, ae] <;> rfl) ?_
      rintro ⟨i, e⟩ ⟨hi, hx⟩
      simp only at hi hx
      simp only [↓wR, RA, simprocAttr, TF, ae]
      rw [bf]; refine ⟨fun h => ?_, fun h => ?_⟩
      · obtain ⟨c, hc, hd1, hlt⟩ := di (decide_eq_true h)
        rw [rq hd1] at hx
        have hcs := hz.set c (List.mem_of_getElem? hc)
        have hi2 : (0 : Int) ≤ i ∧ (i : Int) ≤ z.ak.length := by omega
        simp only [↓wR, RA, simprocAttr, TF, ae, h, hc]
        rw [gu]; refine ⟨fun ⟨h1, e1⟩ => ?_, fun ⟨h1, e1⟩ => ?_⟩
        · rw [if_pos e1] at hx
          simp only [↓wR, RA, simprocAttr, TF, ae, h1, g5, gk, gh]
          rw [hx]
        · rw [if_neg (by omega)] at hx
          simp only [↓wR, RA, simprocAttr, TF, ae, h1, hcs, hz, hi2, Cb]
          refine dv (fun r st' => r = .eu [] ∧ st' = bp [some (.row [.vl false 1 (z.origin.map (an.val false)), .vl false 5 (z.ak.map (ar.val false))] 0 2 26), some (.row [.vl false 1 (z.origin.map (an.val false)), .vl false 5 (z.ak.map (ar.val false)), .sc (.int .i64 (cx ((ik z) i c) 265 e))] 0 2 180), some (.row [.sc (.bool (ga z))] 0 2 4), some (.row [.vl false 1 (z.origin.map (an.val false)), .vl false 5 (z.ak.map (ar.val false))] 0 2 26), some (.row [.sc (.int .u16 2)] 0 2 28), some (.row [.vl false 1 (c.owner.map (an.val false)), .sc (.int .u16 c.type.toNat), .sc (.int .u16 c.cls.toNat), .sc (.int .u32 c.tt.toNat), .vl false 4 (c.data.map (b9.val false))] 0 2 40)]) rfl ?_ ?_
          · refine bm (T := [dw, dx, fm, iw, iu, iz, gv, j8, m9, ka]) ok mixed Tryz.func126 rfl (by kernel_rfl) (by kernel_rfl) (by kernel_rfl) (by kernel_rfl) ?_; unfold Tryz.f126
            simp only [↓wR, RA, simprocAttr, TF, ae, e1]
            rw [bk]; refine ⟨fun hn2 => ?_, fun hn2 => ?_⟩
            · have hb : ((ik z) i c) = false := by simpa only [Bool.not_eq_true'] using hn2
              have hv : cx ((ik z) i c) 265 0 = 265 := by unfold cx; rw [if_pos ⟨rfl, hb⟩]
              simp only [↓wR, RA, simprocAttr, TF, ae, hn2, g5, gk, gh]
              try rw [hv]
            · have hb : ((ik z) i c) = true := by simpa only [Bool.not_eq_false'] using hn2
              have hv : cx ((ik z) i c) 265 0 = 0 := by unfold cx; rw [if_neg (fun q => by rw [hb] at q; cases q.2)]
              simp only [↓wR, RA, simprocAttr, TF, ae, hn2, g5, gk, gh]
              try rw [hv]
          rintro _ _ ⟨rfl, rfl⟩
          simp only [↓wR, RA, simprocAttr, TF, ae, gi]; repeat (simp (disch := omega) only [ah, bu, b7, bw, bz]; try simp only [↓wR, RA, simprocAttr, TF, ae, gi])
          exact ⟨(i + 1, cx ((ik z) i c) 265 e), ⟨hlt, hx⟩, by simp; omega, by (first | rfl | trivial | omega | ((try (simp (disch := omega) only [ah])); (try (simp only [FB])); first | done | rfl | omega)), by (first | rfl | trivial | omega | ((try (simp (disch := omega) only [ah])); (try (simp only [FB])); first | done | rfl | omega))⟩
      · rw [du (decide_eq_false h)] at hx
        simp only [↓wR, RA, simprocAttr, TF, ae, h, g5, gk, gh]
        rw [hx]; rfl
    rintro _ _ ⟨rfl, rfl⟩
    rw [← he0]
    clear he0
    simp only [↓wR, RA, simprocAttr, TF, ae, gi]
    rw [show fc 265 (ik z) 0 z.ak (Cz z) = Cq z from rfl]
    obtain ⟨e0, he0⟩ : ∃ e0, Cq z = e0 := ⟨_, rfl⟩
    rw [he0]
    refine dv (fun r st' => r = .eu [] ∧ st' = bp [some (.row [.vl false 1 (z.origin.map (an.val false)), .vl false 5 (z.ak.map (ar.val false))] 0 2 26), some (.row [.vl false 1 (z.origin.map (an.val false)), .vl false 5 (z.ak.map (ar.val false)), .sc (.int .i64 (fc 266 (fun _ s => j7 s) 0 z.ak e0))] 0 2 180), some (.row [.sc (.bool (ga z))] 0 2 4), some (.row [.vl false 1 (z.origin.map (an.val false)), .vl false 5 (z.ak.map (ar.val false))] 0 2 26), some (.row [.sc (.int .u16 2)] 0 2 28)]) rfl ?_ ?_
    · refine bm (T := [dw, dx, fm, iw, iu, iz, gv, j8, m9, ka]) ok mixed Tryz.func121 rfl (by kernel_rfl) (by kernel_rfl) (by kernel_rfl) (by kernel_rfl) ?_; unfold Tryz.f121
      simp only [↓wR, RA, simprocAttr, TF, ae]
      refine c6 [0, 1, 2, 12, 13, 14] (fun (x : Nat × Int) => [.ptr 1 0, .sc (.int .i64 (266)), .sc (.func (.func 129) #[] #[]), .vl false 5 (z.ak.map (ar.val false)), .sc (.int .i64 (z.ak.length)), .sc (.int .i64 (x.1))]) (fun x => [some (.row [.vl false 1 (z.origin.map (an.val false)), .vl false 5 (z.ak.map (ar.val false))] 0 2 26), some (.row [.vl false 1 (z.origin.map (an.val false)), .vl false 5 (z.ak.map (ar.val false)), .sc (.int .i64 (x.2))] 0 2 180), some (.row [.sc (.bool (ga z))] 0 2 4), some (.row [.vl false 1 (z.origin.map (an.val false)), .vl false 5 (z.ak.map (ar.val false))] 0 2 26), some (.row [.sc (.int .u16 2)] 0 2 28)]) (fun x => x.1 ≤ z.ak.length ∧ fc 266 (fun _ s => j7 s) 0 z.ak e0 = fc 266 (fun _ s => j7 s) x.1 (z.ak.drop x.1) x.2) (fun x => z.ak.length - x.1) (0, e0) ⟨Nat.zero_le _, rfl⟩ (by simp only [↓wR, RA, simprocAttr, TF, ae] <;> rfl) (by simp only [↓wR, RA, simprocAttr, TF, ae] <;> rfl) ?_
      rintro ⟨i, e⟩ ⟨hi, hx⟩
      simp only at hi hx
      simp only [↓wR, RA, simprocAttr, TF, ae]
      rw [bf]; refine ⟨fun h => ?_, fun h => ?_⟩
      · obtain ⟨c, hc, hd1, hlt⟩ := di (decide_eq_true h)
        rw [rq hd1] at hx
        have hcs := hz.set c (List.mem_of_getElem? hc)
        have hi2 : (0 : Int) ≤ i ∧ (i : Int) ≤ z.ak.length := by omega
        simp only [↓wR, RA, simprocAttr, TF, ae, h, hc]
        rw [gu]; refine ⟨fun ⟨h1, e1⟩ => ?_, fun ⟨h1, e1⟩ => ?_⟩
        · rw [if_pos e1] at hx
          simp only [↓wR, RA, simprocAttr, TF, ae, h1, g5, gk, gh]
          rw [hx]
        · rw [if_neg (by omega)] at hx
          simp only [↓wR, RA, simprocAttr, TF, ae, h1, hcs, hz, hi2, Gd]
          refine dv (fun r st' => r = .eu [] ∧ st' = bp [some (.row [.vl false 1 (z.origin.map (an.val false)), .vl false 5 (z.ak.map (ar.val false))] 0 2 26), some (.row [.vl false 1 (z.origin.map (an.val false)), .vl false 5 (z.ak.map (ar.val false)), .sc (.int .i64 (cx ((fun _ s => j7 s) i c) 266 e))] 0 2 180), some (.row [.sc (.bool (ga z))] 0 2 4), some (.row [.vl false 1 (z.origin.map (an.val false)), .vl false 5 (z.ak.map (ar.val false))] 0 2 26), some (.row [.sc (.int .u16 2)] 0 2 28), some (.row [.vl false 1 (c.owner.map (an.val false)), .sc (.int .u16 c.type.toNat), .sc (.int .u16 c.cls.toNat), .sc (.int .u32 c.tt.toNat), .vl false 4 (c.data.map (b9.val false))] 0 2 40)]) rfl ?_ ?_
          · refine bm (T := [dw, dx, fm, iw, iu, iz, gv, j8, m9, ka]) ok mixed Tryz.func126 rfl (by kernel_rfl) (by kernel_rfl) (by kernel_rfl) (by kernel_rfl) ?_; unfold Tryz.f126
            simp only [↓wR, RA, simprocAttr, TF, ae, e1]
            rw [bk]; refine ⟨fun hn2 => ?_, fun hn2 => ?_⟩
            · have hb : ((fun _ s => j7 s) i c) = false := by simpa only [Bool.not_eq_true'] using hn2
              have hv : cx ((fun _ s => j7 s) i c) 266 0 = 266 := by unfold cx; rw [if_pos ⟨rfl, hb⟩]
              simp only [↓wR, RA, simprocAttr, TF, ae, hn2, g5, gk, gh]
              try rw [hv]
            · have hb : ((fun _ s => j7 s) i c) = true := by simpa only [Bool.not_eq_false'] using hn2
              have hv : cx ((fun _ s => j7 s) i c) 266 0 = 0 := by unfold cx; rw [if_neg (fun q => by rw [hb] at q; cases q.2)]
              simp only [↓wR, RA, simprocAttr, TF, ae, hn2, g5, gk, gh]
              try rw [hv]
          rintro _ _ ⟨rfl, rfl⟩
          simp only [↓wR, RA, simprocAttr, TF, ae, gi]; repeat (simp (disch := omega) only [ah, bu, b7, bw, bz]; try simp only [↓wR, RA, simprocAttr, TF, ae, gi])
          exact ⟨(i + 1, cx ((fun _ s => j7 s) i c) 266 e), ⟨hlt, hx⟩, by simp; omega, by (first | rfl | trivial | omega | ((try (simp (disch := omega) only [ah])); (try (simp only [FB])); first | done | rfl | omega)), by (first | rfl | trivial | omega | ((try (simp (disch := omega) only [ah])); (try (simp only [FB])); first | done | rfl | omega))⟩
      · rw [du (decide_eq_false h)] at hx
        simp only [↓wR, RA, simprocAttr, TF, ae, h, g5, gk, gh]
        rw [hx]; rfl
    rintro _ _ ⟨rfl, rfl⟩
    rw [← he0]
    clear he0
    simp only [↓wR, RA, simprocAttr, TF, ae, gi]
    rw [show fc 266 (fun _ s => j7 s) 0 z.ak (Cq z) = Jz z from rfl]
    obtain ⟨e0, he0⟩ : ∃ e0, Jz z = e0 := ⟨_, rfl⟩
    rw [he0]
    refine dv (fun r st' => r = .eu [] ∧ st' = bp [some (.row [.vl false 1 (z.origin.map (an.val false)), .vl false 5 (z.ak.map (ar.val false))] 0 2 26), some (.row [.vl false 1 (z.origin.map (an.val false)), .vl false 5 (z.ak.map (ar.val false)), .sc (.int .i64 (fc 267 (fun _ s => oi z s) 0 z.ak e0))] 0 2 180), some (.row [.sc (.bool (ga z))] 0 2 4), some (.row [.vl false 1 (z.origin.map (an.val false)), .vl false 5 (z.ak.map (ar.val false))] 0 2 26), some (.row [.sc (.int .u16 2)] 0 2 28)]) rfl ?_ ?_
    · refine bm (T := [dw, dx, fm, iw, iu, iz, gv, j8, m9, ka]) ok mixed Tryz.func121 rfl (by kernel_rfl) (by kernel_rfl) (by kernel_rfl) (by kernel_rfl) ?_; unfold Tryz.f121
      simp only [↓wR, RA, simprocAttr, TF, ae]
      refine c6 [0, 1, 2, 12, 13, 14] (fun (x : Nat × Int) => [.ptr 1 0, .sc (.int .i64 (267)), .fn (.func 130) [] [.ptr 0 0], .vl false 5 (z.ak.map (ar.val false)), .sc (.int .i64 (z.ak.length)), .sc (.int .i64 (x.1))]) (fun x => [some (.row [.vl false 1 (z.origin.map (an.val false)), .vl false 5 (z.ak.map (ar.val false))] 0 2 26), some (.row [.vl false 1 (z.origin.map (an.val false)), .vl false 5 (z.ak.map (ar.val false)), .sc (.int .i64 (x.2))] 0 2 180), some (.row [.sc (.bool (ga z))] 0 2 4), some (.row [.vl false 1 (z.origin.map (an.val false)), .vl false 5 (z.ak.map (ar.val false))] 0 2 26), some (.row [.sc (.int .u16 2)] 0 2 28)]) (fun x => x.1 ≤ z.ak.length ∧ fc 267 (fun _ s => oi z s) 0 z.ak e0 = fc 267 (fun _ s => oi z s) x.1 (z.ak.drop x.1) x.2) (fun x => z.ak.length - x.1) (0, e0) ⟨Nat.zero_le _, rfl⟩ (by simp only [↓wR, RA, simprocAttr, TF, ae] <;> rfl) (by simp only [↓wR, RA, simprocAttr, TF, ae] <;> rfl) ?_
      rintro ⟨i, e⟩ ⟨hi, hx⟩
      simp only at hi hx
      simp only [↓wR, RA, simprocAttr, TF, ae]
      rw [bf]; refine ⟨fun h => ?_, fun h => ?_⟩
      · obtain ⟨c, hc, hd1, hlt⟩ := di (decide_eq_true h)
        rw [rq hd1] at hx
        have hcs := hz.set c (List.mem_of_getElem? hc)
        have hi2 : (0 : Int) ≤ i ∧ (i : Int) ≤ z.ak.length := by omega
        simp only [↓wR, RA, simprocAttr, TF, ae, h, hc]
        rw [gu]; refine ⟨fun ⟨h1, e1⟩ => ?_, fun ⟨h1, e1⟩ => ?_⟩
        · rw [if_pos e1] at hx
          simp only [↓wR, RA, simprocAttr, TF, ae, h1, g5, gk, gh]
          rw [hx]
        · rw [if_neg (by omega)] at hx
          simp only [↓wR, RA, simprocAttr, TF, ae, h1, hcs, hz, hi2, Mf]
          refine dv (fun r st' => r = .eu [] ∧ st' = bp [some (.row [.vl false 1 (z.origin.map (an.val false)), .vl false 5 (z.ak.map (ar.val false))] 0 2 26), some (.row [.vl false 1 (z.origin.map (an.val false)), .vl false 5 (z.ak.map (ar.val false)), .sc (.int .i64 (cx ((fun _ s => oi z s) i c) 267 e))] 0 2 180), some (.row [.sc (.bool (ga z))] 0 2 4), some (.row [.vl false 1 (z.origin.map (an.val false)), .vl false 5 (z.ak.map (ar.val false))] 0 2 26), some (.row [.sc (.int .u16 2)] 0 2 28), some (.row [.vl false 1 (c.owner.map (an.val false)), .sc (.int .u16 c.type.toNat), .sc (.int .u16 c.cls.toNat), .sc (.int .u32 c.tt.toNat), .vl false 4 (c.data.map (b9.val false))] 0 2 40)]) rfl ?_ ?_
          · refine bm (T := [dw, dx, fm, iw, iu, iz, gv, j8, m9, ka]) ok mixed Tryz.func126 rfl (by kernel_rfl) (by kernel_rfl) (by kernel_rfl) (by kernel_rfl) ?_; unfold Tryz.f126
            simp only [↓wR, RA, simprocAttr, TF, ae, e1]
            rw [bk]; refine ⟨fun hn2 => ?_, fun hn2 => ?_⟩
            · have hb : ((fun _ s => oi z s) i c) = false := by simpa only [Bool.not_eq_true'] using hn2
              have hv : cx ((fun _ s => oi z s) i c) 267 0 = 267 := by unfold cx; rw [if_pos ⟨rfl, hb⟩]
              simp only [↓wR, RA, simprocAttr, TF, ae, hn2, g5, gk, gh]
              try rw [hv]
            · have hb : ((fun _ s => oi z s) i c) = true := by simpa only [Bool.not_eq_false'] using hn2
              have hv : cx ((fun _ s => oi z s) i c) 267 0 = 0 := by unfold cx; rw [if_neg (fun q => by rw [hb] at q; cases q.2)]
              simp only [↓wR, RA, simprocAttr, TF, ae, hn2, g5, gk, gh]
              try rw [hv]
          rintro _ _ ⟨rfl, rfl⟩
          simp only [↓wR, RA, simprocAttr, TF, ae, gi]; repeat (simp (disch := omega) only [ah, bu, b7, bw, bz]; try simp only [↓wR, RA, simprocAttr, TF, ae, gi])
          exact ⟨(i + 1, cx ((fun _ s => oi z s) i c) 267 e), ⟨hlt, hx⟩, by simp; omega, by (first | rfl | trivial | omega | ((try (simp (disch := omega) only [ah])); (try (simp only [FB])); first | done | rfl | omega)), by (first | rfl | trivial | omega | ((try (simp (disch := omega) only [ah])); (try (simp only [FB])); first | done | rfl | omega))⟩
      · rw [du (decide_eq_false h)] at hx
        simp only [↓wR, RA, simprocAttr, TF, ae, h, g5, gk, gh]
        rw [hx]; rfl
    rintro _ _ ⟨rfl, rfl⟩
    rw [← he0]
    clear he0
    simp only [↓wR, RA, simprocAttr, TF, ae, gi]
    rfl
noncomputable def F2 (x : bh × Unit) : Option AV := if dh x.1 then some ((r1 (aw .i64)).E true (k9 x.1)) else none
set_option maxRecDepth 2000000 in
theorem aev (x : bh × Unit) (r : AV) (h : F2 x = some r) : bg PP 82 ((aC bn a0).E x) r := by
  by_cases hc : dh x.1
  case neg => simp only [F2, if_neg hc] at h; cases h
  simp only [F2, if_pos hc] at h
  cases h
  exact bb (aj.cons (ai ky) (aj.cons (ai i7) (aj.cons (ai Ib) (aj.cons (ai Ng) (aj.cons (ai Mp) (aj.cons (ai Oa) (aj.cons (ai Kv) (aj.cons (ai Rw) (aj.cons (ai V6) (aj.cons (ai Pq) (aj.nil PP))))))))))) Tryz.func82 (by kernel_rfl) (by kernel_rfl) (by kernel_rfl) (Nat.le_of_ble_eq_true (by kernel_rfl)) (r1 (aw .i64)) true (k9 x.1) (abb x.1 hc)
noncomputable abbrev auf : Nat × Bool × (List AV → M AV) := (82, true, da (aC bn a0) F2)
end Go.Proofs.YtidomogemfchpaaGreat
end
section
set_option linter.unusedSimpArgs false
set_option linter.unusedVariables false
namespace Go.Proofs.YtidomogemfchpaaGreat
open Go.Vm
set_option maxRecDepth 2000000
def adb (l : List br) : Bool := l.all fun s => !decide ((20 : Int) < s.data.length)
def Kj (z : bh) : Bool := adb z.ak && decide ((z.ak.length : Int) ≤ 40)
theorem att (z : bh) (hz : dh z) : wl PP [] 0 (Tryz.f9.body.getD .skip) (de PP Tryz.f9.results.toList (fun r st => (r1 bo).get true st.h r = some (Kj z))) (cb 0 [bn.val false z]) (bp []) := by
  have hl := hz.len
  unfold Tryz.f9
  simp only [m5]
  simp only [↓wR, RA, simprocAttr, TF, ae]
  refine c6 [1, 3] (fun (i : Nat) => [.ptr 0 0, .sc (.int .i64 (i))]) (fun _ => [some (.row [.vl false 1 (z.origin.map (an.val false)), .vl false 5 (z.ak.map (ar.val false))] 0 2 26)]) (fun i => i ≤ z.ak.length ∧ adb z.ak = adb (z.ak.drop i)) (fun i => z.ak.length - i) 0 ⟨Nat.zero_le _, rfl⟩ (by simp only [↓wR, RA, simprocAttr, TF, ae] <;> rfl) (by simp only [↓wR, RA, simprocAttr, TF, ae] <;> rfl) ?_
  rintro i ⟨hi, hx⟩
  simp only [↓wR, RA, simprocAttr, TF, ae]
  rw [bf]; refine ⟨fun h => ?_, fun h => ?_⟩
  · obtain ⟨c, hc, hd1, hlt⟩ := di (decide_eq_true h)
    have hx' : adb z.ak = (!decide ((20 : Int) < c.data.length) && adb (z.ak.drop (i + 1))) := by rw [hx, hd1]; rfl
    simp only [↓wR, RA, simprocAttr, TF, ae, h, hc]; repeat (simp (disch := omega) only [ah, bu, b7, bw, bz]; try simp only [↓wR, RA, simprocAttr, TF, ae, h, hc])
    rw [bf]; refine ⟨fun h2 => ?_, fun h2 => ?_⟩
    · rw [decide_eq_true h2, Bool.not_true, Bool.false_and] at hx'
      simp only [↓wR, RA, simprocAttr, TF, ae, h2]; repeat (simp (disch := omega) only [ah, bu, b7, bw, bz]; try simp only [↓wR, RA, simprocAttr, TF, ae, h2])
      rw [Kj, hx']; rfl
    · rw [decide_eq_false h2, Bool.not_false, Bool.true_and] at hx'
      simp only [↓wR, RA, simprocAttr, TF, ae, h2]; repeat (simp (disch := omega) only [ah, bu, b7, bw, bz]; try simp only [↓wR, RA, simprocAttr, TF, ae, h2])
      exact ⟨i + 1, ⟨hlt, hx'⟩, by omega, by (first | rfl | trivial | omega | ((try (simp (disch := omega) only [ah])); (try (simp only [FB])); first | done | rfl | omega))⟩
  · rw [du (decide_eq_false h)] at hx
    simp only [↓wR, RA, simprocAttr, TF, ae, h]
    rw [Kj, hx]; rfl
noncomputable def Md (x : bh × Unit) : Option AV := if dh x.1 then some ((r1 bo).E true (Kj x.1)) else none
set_option maxRecDepth 2000000 in
theorem akz (x : bh × Unit) (r : AV) (h : Md x = some r) : bg PP 9 ((aC bn a0).E x) r := by
  by_cases hc : dh x.1
  case neg => simp only [Md, if_neg hc] at h; cases h
  simp only [Md, if_pos hc] at h
  cases h
  exact bb (aj.nil PP) Tryz.func9 (by kernel_rfl) (by kernel_rfl) (by kernel_rfl) (Nat.le_of_ble_eq_true (by kernel_rfl)) (r1 bo) true (Kj x.1) (att x.1 hc)
noncomputable abbrev aw4 : Nat × Bool × (List AV → M AV) := (9, true, da (aC bn a0) Md)
end Go.Proofs.YtidomogemfchpaaGreat
end
section
set_option linter.unusedSimpArgs false
set_option linter.unusedVariables false
namespace Go.Proofs.YtidomogemfchpaaGreat
open Go.Vm
set_option maxRecDepth 2000000
noncomputable def acr (z : bh) (n : Name) : Int := if k9 z ≠ 0 then k9 z else if ea n ≠ 0 then ea n else if dp n z.origin = false then 2 else 0
def uz (z : bh) : Name → Name
  | [] => []
  | a :: r => if aju z (a :: r) = true then a :: r else uz z r
noncomputable def ait (z : bh) (n : Name) : Yf × Int :=
  if acr z n ≠ 0 then (mkP 0 [] [], acr z n)
  else match u3 z n with
    | some c => (mkP 4 c [], 0)
    | none =>
      if 0 < (atV z n).length then (mkP 1 n (uz z n), 0)
      else if (uz z n).length = n.length then (mkP 2 [] (uz z n), 0)
      else if aju z (aiy :: uz z n) = true then (mkP 3 (aiy :: uz z n) (uz z n), 0)
      else (mkP 0 [] (uz z n), 0)
end Go.Proofs.YtidomogemfchpaaGreat
end
section
namespace Go.Proofs.YtidomogemfchpaaGreat
open Go.Vm
theorem ve {err : Int} (he : err ≠ 0) (p : Nat → br → Bool) : ∀ (l : List br) (i : Nat) (e : Int), fc err p i l e = 0 → e = 0 ∧ ∀ k s, l[k]? = some s → p (i + k) s = true := by
  intro l
  induction l with
  | nil => intro i e h; exact ⟨h, fun k s hs => by simp at hs⟩
  | cons a l ih =>
    intro i e h
    rw [fc] at h
    split at h
    · contradiction
    · rename_i h0
      have h0 : e = 0 := by omega
      obtain ⟨h1, h2⟩ := ih (i + 1) _ h
      refine ⟨h0, fun k s hs => ?_⟩
      cases k with
      | zero =>
        simp at hs
        subst hs
        cases hp : p i a with
        | true => simp [hp]
        | false => rw [cx, if_pos ⟨h0, hp⟩] at h1; exact (he h1).elim
      | succ k =>
        have := h2 k s (by simpa using hs)
        rwa [show i + 1 + k = i + (k + 1) from by omega] at this
theorem Q0 {b : Bool} {err e : Int} (he : err ≠ 0) (h : cx b err e = 0) : e = 0 ∧ b = true := by
  unfold cx at h
  split at h
  · exact (he h).elim
  · rename_i hn
    refine ⟨h, ?_⟩
    cases b with
    | true => rfl
    | false => exact (hn ⟨h, rfl⟩).elim
structure avo (z : bh) : Prop where
  first : so z = 0
  axq : ∀ k s, z.ak[k]? = some s → jy z k s = true
  cls : ∀ s ∈ z.ak, mu s = true
  inside : ∀ s ∈ z.ak, dp s.owner z.origin = true
  axr : (fp z).1 = 1 ∧ (fp z).2 = 1
  aw3 : ga z = true
  alone : ∀ k s, z.ak[k]? = some s → ik z k s = true
  star : ∀ s ∈ z.ak, j7 s = true
  occ : ∀ s ∈ z.ak, oi z s = true
theorem aiq {z : bh} (h : k9 z = 0) : avo z := by
  unfold k9 at h
  split at h
  · contradiction
  rename_i h0
  obtain ⟨h7, p8⟩ := ve (by decide) _ _ _ _ h
  obtain ⟨h6, p7⟩ := ve (by decide) _ _ _ _ h7
  obtain ⟨h5, p6⟩ := ve (by decide) _ _ _ _ h6
  obtain ⟨h4, p5⟩ := Q0 (by decide) h5
  obtain ⟨h3, p4⟩ := Q0 (by decide) h4
  obtain ⟨h2, p3⟩ := ve (by decide) _ _ _ _ h3
  obtain ⟨h1, p2⟩ := ve (by decide) _ _ _ _ h2
  obtain ⟨_, p1⟩ := ve (by decide) _ _ _ _ h1
  have mem : ∀ (p : br → Bool), (∀ k s, z.ak[k]? = some s → p s = true) → ∀ s ∈ z.ak, p s = true := fun p hp s hs => by
    obtain ⟨k, hk, rfl⟩ := List.getElem_of_mem hs
    exact hp k _ (List.getElem?_eq_getElem hk)
  simp only [Bool.and_eq_true, decide_eq_true_eq] at p4
  exact ⟨by omega, fun k s hs => by simpa using p1 k s hs, mem _ p2, mem _ p3, p4, p5, fun k s hs => by simpa using p6 k s hs, mem _ p7, mem _ p8⟩
theorem I2 {a b : Name} : gx a b = true ↔ gq a = gq b := by simp [gx]
theorem qe {a b : Name} : dp a b = true ↔ gq b <:+ gq a := by simp [dp]
theorem aeu {a b c : Name} (h1 : dp a b = true) (h2 : dp b c = true) : dp a c = true := qe.2 ((qe.1 h2).trans (qe.1 h1))
theorem alf {a b : Name} (h : gx a b = true) : gx b a = true := I2.2 (I2.1 h).symm
end Go.Proofs.YtidomogemfchpaaGreat
end
section
set_option linter.unusedSimpArgs false
set_option linter.unusedVariables false
namespace Go.Proofs.YtidomogemfchpaaGreat
open Go.Vm
set_option maxRecDepth 2000000
def Ar (l : List br) : Prop := g9 n9 l ≤ 16777216
instance (l : List br) : Decidable (Ar l) := inferInstanceAs (Decidable (_ ≤ _))
theorem Ar.mem {l : List br} (h : Ar l) : ∀ s ∈ l, dg s := fun s hs => by
  have h1 : n9 s < g9 n9 l := qx hs
  unfold Ar at h; unfold dg; omega
theorem Ar.len {l : List br} (h : Ar l) : l.length ≤ 16777216 := Nat.le_trans (pw n9 l) h
theorem dh.ak {z : bh} (h : dh z) : Ar z.ak := by unfold dh wu at h; unfold Ar; omega
def Z7 (l : List br) : Prop := l.length ≤ 281474976710656 ∧ ∀ s ∈ l, dg s
instance (l : List br) : Decidable (Z7 l) := inferInstanceAs (Decidable (_ ∧ _))
theorem dh.mid {z : bh} (h : dh z) : Z7 z.ak := ⟨Nat.le_trans h.ak.len (by decide), h.ak.mem⟩
def v9 (n : Name) (t : UInt16) (s : br) : Bool := decide ((s.type.toNat : Int) = t.toNat) && (decide ((s.cls.toNat : Int) = 1) && gx s.owner n)
def ib (l : List br) (n : Name) (t : UInt16) : Option br := l.find? (v9 n t)
def mj : br := mkS [] 0 0 0 []
theorem atb {l : List br} {p : br → Bool} {i : Nat} {c : br} (h : l.drop i = c :: l.drop (i + 1)) : (l.drop i).find? p = if p c = true then some c else (l.drop (i + 1)).find? p := by
  rw [h, List.find?_cons]; split <;> simp_all
theorem an0 (l : List br) (n : Name) (t : UInt16) (hl : Z7 l) (hn : bt n) : wl PP [dx, ar8] 0 (Tryz.f11.body.getD .skip) (de PP Tryz.f11.results.toList (fun r st => (r2 ar bo).get true st.h r = some ((ib l n t).getD mj, (ib l n t).isSome))) (cb 0 [(cq ar).val false l, ay.val false n, c9.val false t]) (bp []) := by
  have hlen := hl.1
  unfold Tryz.f11
  simp only [dz]
  simp only [↓wR, RA, simprocAttr, TF, ae]
  refine c6 [1, 2, 6, 10, 11, 12] (fun (i : Nat) => [.vl false 1 (n.map (an.val false)), .sc (.int .u16 t.toNat), .ptr 0 0, .vl false 5 (l.map (ar.val false)), .sc (.int .i64 (l.length)), .sc (.int .i64 (i))]) (fun _ => [some (.row [.sc (.slice none 0 0), .sc (.int .u16 0), .sc (.int .u16 0), .sc (.int .u32 0), .sc (.slice none 0 0)] 0 2 40)]) (fun i => i ≤ l.length ∧ ib l n t = (l.drop i).find? (v9 n t)) (fun i => l.length - i) 0 ⟨Nat.zero_le _, rfl⟩ (by simp only [↓wR, RA, simprocAttr, TF, ae] <;> rfl) (by simp only [↓wR, RA, simprocAttr, TF, ae] <;> rfl) ?_
  rintro i ⟨hi, hx⟩
  simp only [↓wR, RA, simprocAttr, TF, ae]
  rw [bf]; refine ⟨fun h => ?_, fun h => ?_⟩
  · obtain ⟨c, hc, hd1, hlt⟩ := di (decide_eq_true h)
    rw [atb hd1] at hx
    have hcs := hl.2 c (List.mem_of_getElem? hc)
    simp only [↓wR, RA, simprocAttr, TF, ae, h, hc]
    rw [dc]; refine ⟨fun ⟨h1, e1⟩ => ?_, fun ⟨h1, e1⟩ => ?_⟩
    · simp only [↓wR, RA, simprocAttr, TF, ae, h1]
      rw [dc]; refine ⟨fun ⟨h2, e2⟩ => ?_, fun ⟨h2, e2⟩ => ?_⟩
      · simp only [↓wR, RA, simprocAttr, TF, ae, h2, iy, hcs.owner, hn]
        rw [bk]; refine ⟨fun h3 => ?_, fun h3 => ?_⟩
        · have hp : v9 n t c = true := by simp [v9, e1, e2, h3]
          rw [if_pos hp] at hx
          simp only [↓wR, RA, simprocAttr, TF, ae, h3, yy, hcs, hx]; repeat (simp (disch := omega) only [ah, bu, b7, bw, bz]; try simp only [↓wR, RA, simprocAttr, TF, ae, h3, yy, hcs, hx])
        · have hp : v9 n t c = false := by simp [v9, h3]
          rw [hp, if_neg (by decide)] at hx
          simp only [↓wR, RA, simprocAttr, TF, ae, h3]; repeat (simp (disch := omega) only [ah, bu, b7, bw, bz]; try simp only [↓wR, RA, simprocAttr, TF, ae, h3])
          exact ⟨i + 1, ⟨hlt, hx⟩, by omega, by (first | rfl | trivial | omega | ((try (simp (disch := omega) only [ah])); (try (simp only [FB])); first | done | rfl | omega))⟩
      · have hp : v9 n t c = false := by simp [v9, e2]
        rw [hp, if_neg (by decide)] at hx
        simp only [↓wR, RA, simprocAttr, TF, ae, h2]; repeat (simp (disch := omega) only [ah, bu, b7, bw, bz]; try simp only [↓wR, RA, simprocAttr, TF, ae, h2])
        exact ⟨i + 1, ⟨hlt, hx⟩, by omega, by (first | rfl | trivial | omega | ((try (simp (disch := omega) only [ah])); (try (simp only [FB])); first | done | rfl | omega))⟩
    · have hp : v9 n t c = false := by simp [v9, e1]
      rw [hp, if_neg (by decide)] at hx
      simp only [↓wR, RA, simprocAttr, TF, ae, h1]; repeat (simp (disch := omega) only [ah, bu, b7, bw, bz]; try simp only [↓wR, RA, simprocAttr, TF, ae, h1])
      exact ⟨i + 1, ⟨hlt, hx⟩, by omega, by (first | rfl | trivial | omega | ((try (simp (disch := omega) only [ah])); (try (simp only [FB])); first | done | rfl | omega))⟩
  · rw [du (decide_eq_false h), List.find?_nil] at hx
    simp only [↓wR, RA, simprocAttr, TF, ae, h, hx]
    rfl
noncomputable def u5 (x : List br × Name × UInt16 × Unit) : Option AV := if Z7 x.1 ∧ bt x.2.1 then some ((r2 ar bo).E true (((ib x.1 x.2.1 x.2.2.1).getD mj, (ib x.1 x.2.1 x.2.2.1).isSome))) else none
set_option maxRecDepth 2000000 in
theorem Af (x : List br × Name × UInt16 × Unit) (r : AV) (h : u5 x = some r) : bg PP 11 ((aC (cq ar) (aC ay (aC c9 a0))).E x) r := by
  by_cases hc : Z7 x.1 ∧ bt x.2.1
  case neg => simp only [u5, if_neg hc] at h; cases h
  simp only [u5, if_pos hc] at h
  cases h
  exact bb (aj.cons (ai i7) (aj.cons (ai Yk) (aj.nil PP))) Tryz.func11 (by kernel_rfl) (by kernel_rfl) (by kernel_rfl) (Nat.le_of_ble_eq_true (by kernel_rfl)) (r2 ar bo) true (((ib x.1 x.2.1 x.2.2.1).getD mj, (ib x.1 x.2.1 x.2.2.1).isSome)) (an0 x.1 x.2.1 x.2.2.1 hc.1 hc.2)
noncomputable abbrev P2 : Nat × Bool × (List AV → M AV) := (11, true, da (aC (cq ar) (aC ay (aC c9 a0))) u5)
theorem aix (fr h) : c9.fj fr h (.sc (.int .u16 1)) = some 1 := uv fr h 1
theorem aq9 (fr h) : c9.fj fr h (.sc (.int .u16 2)) = some 2 := uv fr h 2
theorem aq7 (fr h) : c9.fj fr h (.sc (.int .u16 5)) = some 5 := uv fr h 5
theorem aqk (fr h) : c9.fj fr h (.sc (.int .u16 6)) = some 6 := uv fr h 6
theorem ame (fr h) : c9.fj fr h (.sc (.int .u16 28)) = some 28 := uv fr h 28
theorem T5 : type_of% @aix ∧ type_of% @aq9 ∧ type_of% @aq7 ∧ type_of% @aqk ∧ type_of% @ame := ⟨@aix, @aq9, @aq7, @aqk, @ame⟩
noncomputable def ald (z : bh) (n : Name) (t : UInt16) : Yf × Int :=
  if (ait z n).2 = 0 ∧ ((t.toNat : Int) = 0 ∨ (t.toNat : Int) = 41) then (mkP 0 [] [], 6) else ait z n
theorem Oc {s : br} (h : qv s = 0) : ∃ d, s.data[0]? = some d ∧ fh s.type d = 0 := by
  unfold qv at h
  split at h
  · contradiction
  split at h
  · cases h
  rename_i _ q
  split at h
  · cases h
  cases hd : s.data with
  | nil => exact (q (by rw [hd]; rfl)).elim
  | cons d r =>
    rw [hd, qj] at h
    split at h
    · contradiction
    · rename_i q; exact ⟨d, rfl, by omega⟩
theorem G6 {s : br} (h : qv s = 0) : ∀ d ∈ s.data, fh s.type d = 0 := by
  have key : ∀ (l pre : List ct), qj s.type pre l = 0 → ∀ d ∈ l, fh s.type d = 0 := by
    intro l
    induction l with
    | nil => intro pre _ d hd; cases hd
    | cons a l ih =>
      intro pre h d hd
      rw [qj] at h
      split at h
      · contradiction
      split at h
      · cases h
      rcases List.mem_cons.1 hd with rfl | hd
      · omega
      · exact ih _ h d hd
  unfold qv at h
  split at h
  · contradiction
  split at h
  · cases h
  split at h
  · cases h
  exact key _ _ h
theorem Qo {t : UInt16} {d : ct} (h : fh t d = 0) : (d.names.length : Int) = (ig t).names ∧ (d.nums.length : Int) = (ig t).nums := by
  have hf : u7 (ig t) t d = true := by
    unfold fh at h
    split at h
    · cases h
    split at h
    · cases h
    · rename_i q; simpa using q
  unfold u7 at hf
  split at hf
  · cases hf
  · rename_i q
    exact ⟨Decidable.byContradiction fun e => q (.inl e), Decidable.byContradiction fun e => q (.inr (.inl e))⟩
theorem J4 {z : bh} (h : k9 z = 0) : ∀ s ∈ z.ak, qv s = 0 := by
  have hf := (aiq h).first
  unfold so at hf
  split at hf
  · contradiction
  have key : ∀ (l : List br) (e : Int), Ei l e = 0 → e = 0 ∧ ∀ s ∈ l, qv s = 0 := by
    intro l
    induction l with
    | nil => intro e h; exact ⟨h, fun s hs => by cases hs⟩
    | cons a l ih =>
      intro e h
      rw [Ei] at h
      obtain ⟨h1, h2⟩ := ih _ h
      split at h1
      · rename_i e0
        exact ⟨e0, fun s hs => (List.mem_cons.1 hs).elim (fun q => q ▸ h1) (h2 s)⟩
      · rename_i e0; exact (e0 h1).elim
  exact (key _ _ hf).2
theorem xr {l : List br} {n : Name} {t : UInt16} {s : br} (h : ib l n t = some s) : s ∈ l ∧ (s.type.toNat : Int) = t.toNat ∧ (s.cls.toNat : Int) = 1 ∧ gx s.owner n = true := by
  have h1 := List.mem_of_find?_eq_some h
  have h2 := List.find?_some h
  simp only [v9, Bool.and_eq_true, decide_eq_true_eq] at h2
  exact ⟨h1, h2.1, h2.2.1, h2.2.2⟩
def aw8 (n : Name) (s : br) : br := mkS n s.type s.cls s.tt s.data
end Go.Proofs.YtidomogemfchpaaGreat
end
section
set_option linter.unusedSimpArgs false
set_option linter.unusedVariables false
namespace Go.Proofs.YtidomogemfchpaaGreat
open Go.Vm
set_option maxRecDepth 2000000
def avv (t : UInt16) (l : List br) : aho :=
  if (t.toNat : Int) = 255 ∧ 0 < l.length then Zm 0 l []
  else match l.find? (fun s => decide ((s.type.toNat : Int) = t.toNat)) with
    | some x => Zm 0 [x] []
    | none => match l.find? (fun s => decide ((s.type.toNat : Int) = 5) && decide ((t.toNat : Int) ≠ 255)) with
      | some x => Zm 1 [x] (((x.data[0]?).bind fun d => d.names[0]?).getD [])
      | none => Zm 2 [] []
noncomputable def av1 (z : bh) (n : Name) (t : UInt16) (s : Yf) : aho :=
  if s.kind = 4 then Zm 4 [(ib z.ak s.node 2).getD mj] []
  else if s.kind = 0 then Zm 3 [] []
  else if s.kind = 2 then Zm 2 [] []
  else avv t (if s.kind = 3 then (atV z s.node).map (aw8 n) else atV z s.node)
end Go.Proofs.YtidomogemfchpaaGreat
end
section
set_option linter.unusedSimpArgs false
set_option linter.unusedVariables false
namespace Go.Proofs.YtidomogemfchpaaGreat
open Go.Vm
set_option maxRecDepth 2000000
def aw0 (a b : UInt32) : UInt32 := if (a.toNat : Int) ≤ b.toNat then a else b
def agl (z : bh) : br :=
  let s := (ib z.ak z.origin 6).getD mj
  mkS s.owner s.type s.cls (aw0 s.tt (((s.data[0]?).bind fun d => d.nums[4]?).getD 0)) s.data
theorem ao8 {s : br} (h : mu s = true) : (s.cls.toNat : Int) = 1 ∧ (s.type.toNat : Int) ≠ 255 := by
  unfold mu at h
  split at h
  · cases h
  split at h
  · cases h
  split at h
  · cases h
  · rename_i q _ _; exact ⟨by omega, by simpa using h⟩
def avn (n : Name) (s : br) : Bool := (decide ((s.type.toNat : Int) = 1) || decide ((s.type.toNat : Int) = 28)) && gx s.owner n
def aq8 (z : bh) : List Name → List Name → List br
  | _, [] => []
  | pre, n :: r => (if pre.any (fun m => gx m n) = true then [] else z.ak.filter (avn n)) ++ aq8 z (pre ++ [n]) r
def avm (z : bh) (l : List Name) : List br := aq8 z [] l
def ass (l : List Name) : Prop := g9 ca l ≤ 16777216
instance (l : List Name) : Decidable (ass l) := inferInstanceAs (Decidable (_ ≤ _))
end Go.Proofs.YtidomogemfchpaaGreat
end
section
set_option linter.unusedVariables false
set_option linter.unusedSimpArgs false
namespace Go.Vm
noncomputable section
def rm (D : List Nat) (nx i : Nat) : Nat := match D[i]? with | some o => o | none => nx + (i - D.length)
def Kf (D : List Nat) (nx n0 i : Nat) : Option Nat := bif Nat.blt i n0 then some (rm D nx i) else none
def Az (D : List Nat) (nx n0 : Nat) (h0 : Tr ba) : List Nat → Tr ba → Tr ba
  | [], h => h
  | i :: r, h => Az D nx n0 h0 r (Tr.set depth h (rm D nx i) ((h0.get i).bind (ba.c0 (Kf D nx n0))))
def sn (D : List Nat) (st st0 : St) : St := { h := Az D st.nx st0.nx st0.h (dk 0 st0.nx) st.h, nx := st.nx + (st0.nx - D.length), rl := [], wl := [] }
theorem xx {D : List Nat} {nx i o : Nat} (h : D[i]? = some o) : rm D nx i = o := by unfold rm; rw [h]
theorem A4 {D : List Nat} {nx i : Nat} (h : D.length ≤ i) : rm D nx i = nx + (i - D.length) := by unfold rm; rw [List.getElem?_eq_none h]
theorem ar5 {D : List Nat} {nx : Nat} (hD : D.Nodup) (hlt : ∀ o ∈ D, o < nx) {i j : Nat} (h : rm D nx i = rm D nx j) : i = j := by
  rcases Nat.lt_or_ge i D.length with hi | hi <;> rcases Nat.lt_or_ge j D.length with hj | hj
  · rw [xx (List.getElem?_eq_getElem hi), xx (List.getElem?_eq_getElem hj)] at h
    exact (List.getElem_inj hD).1 h
  · rw [xx (List.getElem?_eq_getElem hi), A4 hj] at h
    have := hlt _ (List.getElem_mem hi); omega
  · rw [A4 hi, xx (List.getElem?_eq_getElem hj)] at h
    have := hlt _ (List.getElem_mem hj); omega
  · rw [A4 hi, A4 hj] at h; omega
theorem atp {D : List Nat} {nx n0 i : Nat} (hlt : ∀ o ∈ D, o < nx) (hi : i < n0) : rm D nx i ≤ nx + n0 := by
  rcases Nat.lt_or_ge i D.length with h | h
  · rw [xx (List.getElem?_eq_getElem h)]; have := hlt _ (List.getElem_mem h); omega
  · rw [A4 h]; omega
theorem Hf {D : List Nat} {nx n0 : Nat} {h0 : Tr ba} {o : Nat} : ∀ (l : List Nat) (h : Tr ba), (∀ i ∈ l, rm D nx i ≤ cp) → (∀ i ∈ l, rm D nx i ≠ o) → (Az D nx n0 h0 l h).get o = h.get o
  | [], h, _, _ => rfl
  | i :: r, h, hl, ho => by
    rw [Az, Hf r _ (fun j hj => hl j (by simp [hj])) (fun j hj => ho j (by simp [hj])), ee _ _ _ _ (hl i (by simp)), if_neg (fun e => ho i (by simp) e.symm)]
theorem Vu {D : List Nat} {nx n0 : Nat} {h0 : Tr ba} (hinj : ∀ i j, rm D nx i = rm D nx j → i = j) {i : Nat} : ∀ (l : List Nat) (h : Tr ba), (∀ j ∈ l, rm D nx j ≤ cp) → i ∈ l → (Az D nx n0 h0 l h).get (rm D nx i) = (h0.get i).bind (ba.c0 (Kf D nx n0))
  | [], _, _, hi => by cases hi
  | j :: r, h, hl, hi => by
    rw [Az]
    by_cases hr : i ∈ r
    · exact Vu hinj r _ (fun k hk => hl k (by simp [hk])) hr
    · have hij : i = j := by rcases List.mem_cons.1 hi with e | e; exact e; exact (hr e).elim
      subst hij
      rw [Hf r _ (fun k hk => hl k (by simp [hk])) (fun k hk e => hr (hinj k i e ▸ hk)), ee _ _ _ _ (hl i (by simp)), if_pos rfl]
theorem aoq {n i : Nat} (h : i < n) : i ∈ dk 0 n := (gn n 0 i).2 ⟨Nat.zero_le _, by omega⟩
theorem Py {n i : Nat} (h : i ∈ dk 0 n) : i < n := by have := ((gn n 0 i).1 h).2; omega
theorem Y4 : ∀ (l : List Nat) (o i : Nat), idx l o i = none → o ∉ l
  | [], o, i, _ => by simp
  | a :: l, o, i, h => by
    rw [G3] at h
    split at h
    · cases h
    · rename_i ne
      have := Y4 l o (i + 1) h
      simp only [List.mem_cons, not_or]
      exact ⟨fun e => ne e.symm, this⟩
theorem Y5 {D : List Nat} {g g0' : Gh} {st st0' : St} {h0 : Tr ba} {w w' : World} {r : AV} {v : Value} (hD : D.Nodup) (hlt : ∀ o ∈ D, o < st.nx) (hp : ∀ o ∈ D, (st.h.get o).isSome = true)
    (hok : Ok g st.h w) (hfr : ∀ o, st.nx ≤ o → g.inj o = none) (hk : D.length ≤ st0'.nx) (hb : st.nx + st0'.nx ≤ cp)
    (s0 : Step (g.c0 D) h0 w D.length st0'.nx g0' st0'.h w') (ok0 : Ok g0' st0'.h w') (hr : Rel g0' w' r v) :
    ∃ g', st.nx ≤ (sn D st st0').nx ∧ Step g st.h w st.nx (sn D st st0').nx g' (sn D st st0').h w' ∧ Ok g' (sn D st st0').h w' ∧ Rel g' w' (r.c0 (Kf D st.nx st0'.nx)) v := by
  obtain ⟨n0, hn0⟩ : ∃ n0, n0 = st0'.nx := ⟨_, rfl⟩
  have hinj := fun i j => ar5 (nx := st.nx) hD hlt (i := i) (j := j)
  have hule : ∀ i ∈ dk 0 st0'.nx, rm D st.nx i ≤ cp := fun i hi => Nat.le_trans (atp hlt (Py hi)) hb
  have hin : ∀ i, i < st0'.nx → (sn D st st0').h.get (rm D st.nx i) = (st0'.h.get i).bind (ba.c0 (Kf D st.nx st0'.nx)) := fun i hi => Vu hinj _ _ hule (aoq hi)
  have hout : ∀ o, (∀ i, i < st0'.nx → rm D st.nx i ≠ o) → (sn D st st0').h.get o = st.h.get o := fun o ho => Hf _ _ hule (fun i hi => ho i (Py hi))
  have hren : ∀ i, (g.c0 D).inj i = (D[i]?).bind g.inj := fun _ => rfl
  have hold : ∀ i b base, (g.c0 D).inj i = some (b, base) → ∃ o ∈ D, g.inj o = some (b, base) ∧ (st.h.get o).isSome = true := fun i b base hi => by
    rw [hren] at hi
    cases hd : D[i]? with
    | none => rw [hd] at hi; cases hi
    | some o => rw [hd] at hi; exact ⟨o, List.mem_of_getElem? hd, hi, hp o (List.mem_of_getElem? hd)⟩
  have hno : ∀ i, st0'.nx ≤ i → g0'.inj i = none := fun i hi => s0.fresh i (by rw [hren, List.getElem?_eq_none (by omega)]; rfl) (by omega)
  let g' : Gh := { b0 := g.b0, inj := fun o => if o < st.nx then g.inj o else g0'.inj (D.length + (o - st.nx)), K := g0'.K }
  have gl : ∀ o, o < st.nx → g'.inj o = g.inj o := fun o ho => if_pos ho
  have gg : ∀ o, st.nx ≤ o → g'.inj o = g0'.inj (D.length + (o - st.nx)) := fun o ho => if_neg (by omega)
  have F1 : ∀ i, g'.inj (rm D st.nx i) = g0'.inj i := fun i => by
    rcases Nat.lt_or_ge i D.length with hi | hi
    · have hd := List.getElem?_eq_getElem hi
      rw [xx hd, gl _ (hlt _ (List.getElem_mem hi))]
      have h1 : (g.c0 D).inj i = g.inj D[i] := by rw [hren, hd]; rfl
      cases hg : g.inj D[i] with
      | some p => exact (s0.ext.inj i p (h1.trans hg)).symm
      | none => exact (s0.fresh i (h1.trans hg) (by omega)).symm
    · rw [A4 hi, gg _ (by omega)]
      congr 1; omega
  let N : List Nat := (List.range (st.nx + st0'.nx)).map fun o => if o < st.nx then (idx D o 0).getD st0'.nx else D.length + (o - st.nx)
  have hNg : ∀ p, p < st.nx + st0'.nx → N[p]? = some (if p < st.nx then (idx D p 0).getD st0'.nx else D.length + (p - st.nx)) := fun p hp => by
    simp only [N, List.getElem?_map, List.getElem?_range hp, Option.map_some]
  have hidx : ∀ i o, D[i]? = some o → idx D o 0 = some i := fun i o hi => by
    cases hx : idx D o 0 with
    | some p =>
      have h1 := Fl D o p hx
      obtain ⟨hi', ei⟩ := List.getElem?_eq_some_iff.1 hi
      obtain ⟨hp', ep⟩ := List.getElem?_eq_some_iff.1 h1
      rw [(List.getElem_inj hD).1 (ei.trans ep.symm)]
    | none => exact absurd (List.mem_of_getElem? hi) (Y4 D o 0 hx)
  have hτ : ∀ o p, Kf D st.nx st0'.nx o = some p → N[p]? = some o := fun i p h => by
    unfold Kf at h
    cases hlt2 : Nat.blt i st0'.nx with
    | false => rw [hlt2] at h; cases h
    | true =>
      rw [hlt2] at h
      cases h
      have hi : i < st0'.nx := Nat.le_of_ble_eq_true hlt2
      rcases Nat.lt_or_ge i D.length with hi2 | hi2
      · have hd := List.getElem?_eq_getElem hi2
        rw [xx hd, hNg _ (by have := hlt _ (List.getElem_mem hi2); omega), if_pos (hlt _ (List.getElem_mem hi2)), hidx i _ hd]; rfl
      · rw [A4 hi2, hNg _ (by omega), if_neg (by omega)]
        congr 1; omega
  have hext : Ext (g0'.c0 N) w' g' w' := by
    refine ⟨s0.ext.b0.symm, fun p q hq => ?_, fun _ _ h => h, fun _ _ _ => rfl, fun b cs e fr h => ⟨cs, fr, h, rfl⟩, fun b l h => ⟨l, h⟩⟩
    have hq' : (N[p]?).bind g0'.inj = some q := hq
    rcases Nat.lt_or_ge p (st.nx + st0'.nx) with hpl | hpl
    · rw [hNg p hpl, Option.bind_some] at hq'
      by_cases hpn : p < st.nx
      · rw [if_pos hpn] at hq'
        cases hx : idx D p 0 with
        | none => rw [hx, Option.getD_none, hno _ (Nat.le_refl _)] at hq'; cases hq'
        | some i =>
          rw [hx, Option.getD_some] at hq'
          rw [← xx (nx := st.nx) (Fl D p i hx), F1]; exact hq'
      · rw [if_neg hpn] at hq'
        rw [gg p (by omega)]; exact hq'
    · have : N[p]? = none := List.getElem?_eq_none (by simp only [N, List.length_map, List.length_range]; exact hpl)
      rw [this] at hq'; cases hq'
  have himg : ∀ o, (∃ i, i < st0'.nx ∧ rm D st.nx i = o) ∨ (∀ i, i < st0'.nx → rm D st.nx i ≠ o) := fun o => by
    by_cases h : ∃ i, i < st0'.nx ∧ rm D st.nx i = o
    · exact .inl h
    · exact .inr fun i hi e => h ⟨i, hi, e⟩
  have cw : ∀ i x, i < st0'.nx → (sn D st st0').h.get (rm D st.nx i) = some x → ∃ y, st0'.h.get i = some y ∧ y.c0 (Kf D st.nx st0'.nx) = some x := fun i x hi hx => by
    rw [hin i hi] at hx
    cases hy : st0'.h.get i with
    | none => rw [hy] at hx; cases hx
    | some y => rw [hy] at hx; exact ⟨y, rfl, hx⟩
  have hfar : ∀ o b base, (∀ i, i < st0'.nx → rm D st.nx i ≠ o) → g'.inj o = some (b, base) → o < st.nx ∧ o ∉ D ∧ g.inj o = some (b, base) := fun o b base ho hi => by
    rcases Nat.lt_or_ge o st.nx with h1 | h1
    · refine ⟨h1, fun hd => ?_, by rw [← gl o h1]; exact hi⟩
      obtain ⟨i, hil, e⟩ := List.getElem_of_mem hd
      exact ho i (by omega) (by rw [xx (List.getElem?_eq_getElem hil)]; exact e)
    · rw [gg o h1] at hi
      rcases Nat.lt_or_ge (D.length + (o - st.nx)) st0'.nx with h2 | h2
      · exact (ho _ h2 (by rw [A4 (by omega)]; omega)).elim
      · rw [hno _ h2] at hi; cases hi
  have hsame : ∀ o x b base, o ∉ D → st.h.get o = some x → g.inj o = some (b, base) → b < w.heap.size → w'.heap[b]? = w.heap[b]? ∧ (∀ i base', g0'.inj i = some (b, base') → (st0'.h.get i).isSome = true → False) ∧ (∀ j, g0'.K b j → g.K b j) := fun o x b base ho hx hi hbs => by
    have hnot : ∀ i base', (g.c0 D).inj i ≠ some (b, base') := fun i base' e => by
      obtain ⟨o2, hd, hi2, hs2⟩ := hold i b base' e
      obtain ⟨x2, hx2⟩ := Option.isSome_iff_exists.1 hs2
      exact hok.sep o o2 x x2 b base base' (fun e => ho (e ▸ hd)) hx hx2 hi hi2
    refine ⟨s0.frame b hbs fun i base' _ => hnot i base', fun i base' e hs => ?_, fun j hj => ?_⟩
    · rcases s0.own i b base' hs e with h1 | ⟨o', base2, _, h2⟩
      · omega
      · exact hnot o' base2 h2
    · rcases s0.nk b j hj with h1 | h1 | ⟨o', base2, _, h2⟩
      · exact h1
      · omega
      · exact (hnot o' base2 h2).elim
  have hblk : ∀ o x b base, st.h.get o = some x → g.inj o = some (b, base) → l0 g w b base x := fun o x b base hx hi => by
    rcases hok.lz o x hx with ⟨h1, _⟩ | ⟨b', base', h1, _, h2⟩
    · rw [h1] at hi; cases hi
    · rw [h1] at hi; cases hi; exact h2
  have hsz : ∀ b base x, l0 g w b base x → b < w.heap.size := fun b base x hx => by
    have hs : ∃ q, w.heap[b]? = some q := by
      cases x with
      | row cells k st et => obtain ⟨cs, fr, h1, _⟩ := hx; exact ⟨_, h1⟩
      | map es => obtain ⟨_, ms, clock, h1, _⟩ := hx; exact ⟨_, h1⟩
      | loop slots nt params assign body state pending => obtain ⟨_, l, h1, _⟩ := hx; exact ⟨_, h1⟩
    obtain ⟨q, hq⟩ := hs
    exact (Array.getElem?_eq_some_iff.1 hq).1
  have hE : Ext g w g' w' := by
    refine ⟨rfl, fun o p hp => ?_, fun b j h => s0.ext.K b j h, fun b j h => s0.ext.cell b j h, s0.ext.yr, s0.ext.lp⟩
    rcases Nat.lt_or_ge o st.nx with h1 | h1
    · rw [gl o h1]; exact hp
    · rw [hfr o h1] at hp; cases hp
  refine ⟨g', Nat.le_add_right _ _, ⟨hE, s0.size, s0.os, s0.tape, s0.output, fun b hbs hn => ?_, fun o ho hr2 => ?_, fun o b base ho hi => ?_, fun b j hK => ?_⟩, ⟨?_, fun o x hx => ?_, fun o o' x x' b base base' hne hx hx' hi hi' => ?_, ok0.K⟩, (hr.c0 hτ).ext hext⟩
  · refine s0.frame b hbs fun i base _ e => ?_
    obtain ⟨o, _, h1, h2⟩ := hold i b base e
    exact hn o base h2 h1
  · rcases Nat.lt_or_ge o st.nx with h1 | h1
    · rw [gl o h1]; exact ho
    · rw [gg o h1]
      exact hno _ (by simp only [sn] at hr2; omega)
  · rcases himg o with ⟨i, hi0, rfl⟩ | ho2
    · obtain ⟨x, hx⟩ := Option.isSome_iff_exists.1 ho
      obtain ⟨y, hy, _⟩ := cw i x hi0 hx
      rw [F1] at hi
      rcases s0.own i b base (by rw [hy]; rfl) hi with h1 | ⟨o', base', _, h2⟩
      · exact .inl h1
      · obtain ⟨o2, _, h3, h4⟩ := hold o' b base' h2
        exact .inr ⟨o2, base', h4, h3⟩
    · obtain ⟨_, _, h3⟩ := hfar o b base ho2 hi
      rw [hout o ho2] at ho
      exact .inr ⟨o, base, ho, h3⟩
  · rcases s0.nk b j hK with h1 | h1 | ⟨o', base', _, h2⟩
    · exact .inl h1
    · exact .inr (.inl h1)
    · obtain ⟨o2, _, h3, h4⟩ := hold o' b base' h2
      exact .inr (.inr ⟨o2, base', h4, h3⟩)
  · exact Nat.le_trans hok.size s0.size
  · rcases himg o with ⟨i, hi0, rfl⟩ | ho2
    · obtain ⟨y, hy, hyx⟩ := cw i x hi0 hx
      refine (ok0.lz i y hy).imp (fun q => ⟨by rw [F1]; exact q.1, by obtain ⟨s1, e1, rfl⟩ := q.2; simp only [ba.c0, AV.c0.go, Option.some.injEq] at hyx; exact ⟨s1, e1, hyx.symm⟩⟩) ?_
      rintro ⟨b, base, q1, q2, q3⟩
      refine ⟨b, base, by rw [F1]; exact q1, by show g.b0 ≤ b; have := s0.ext.b0; have e : g0'.b0 = g.b0 := this; omega, (q3.c0 hτ hyx).ext hext rfl (fun j hj => hj)⟩
    · rw [hout o ho2] at hx
      cases hg : g'.inj o with
      | none =>
        refine .inl ⟨rfl, ?_⟩
        rcases Nat.lt_or_ge o st.nx with h1 | h1
        · rw [gl o h1] at hg
          rcases hok.lz o x hx with ⟨_, h2⟩ | ⟨b, base, h2, _⟩
          · exact h2
          · rw [hg] at h2; cases h2
        · rcases hok.lz o x hx with ⟨_, h2⟩ | ⟨b, base, h2, _⟩
          · exact h2
          · rw [hfr o h1] at h2; cases h2
      | some p =>
        obtain ⟨b, base⟩ := p
        obtain ⟨h1, h2, h3⟩ := hfar o b base ho2 hg
        have hor := hblk o x b base hx h3
        obtain ⟨e1, _, e3⟩ := hsame o x b base h2 hx h3 (hsz b base x hor)
        refine .inr ⟨b, base, rfl, ?_, hor.ext hE e1 e3⟩
        rcases hok.lz o x hx with ⟨h4, _⟩ | ⟨b', base', h4, h5, _⟩
        · rw [h4] at h3; cases h3
        · rw [h4] at h3; cases h3; exact h5
  · rcases himg o with ⟨i, hi0, rfl⟩ | ho2 <;> rcases himg o' with ⟨i', hi0', rfl⟩ | ho2'
    · obtain ⟨y, hy, _⟩ := cw i x hi0 hx
      obtain ⟨y', hy', _⟩ := cw i' x' hi0' hx'
      rw [F1] at hi hi'
      exact ok0.sep i i' y y' b base base' (fun e => hne (by rw [e])) hy hy' hi hi'
    · obtain ⟨y, hy, _⟩ := cw i x hi0 hx
      obtain ⟨h1, h2, h3⟩ := hfar o' b base' ho2' hi'
      rw [hout o' ho2'] at hx'
      rw [F1] at hi
      exact (hsame o' x' b base' h2 hx' h3 (hsz b base' x' (hblk o' x' b base' hx' h3))).2.1 i base hi (by rw [hy]; rfl)
    · obtain ⟨y, hy, _⟩ := cw i' x' hi0' hx'
      obtain ⟨h1, h2, h3⟩ := hfar o b base ho2 hi
      rw [hout o ho2] at hx
      rw [F1] at hi'
      exact (hsame o x b base h2 hx h3 (hsz b base x (hblk o x b base hx h3))).2.1 i' base' hi' (by rw [hy]; rfl)
    · obtain ⟨h1, h2, h3⟩ := hfar o b base ho2 hi
      obtain ⟨h1', h2', h3'⟩ := hfar o' b base' ho2' hi'
      rw [hout o ho2] at hx
      rw [hout o' ho2'] at hx'
      exact hok.sep o o' x x' b base base' hne hx hx' h3 h3'
theorem Zg {P : Program} {f : Nat} {args : List AV} {st : St} {R : AV → St → Prop} (D : List Nat) (hD : D.Nodup) (hlt : ∀ o ∈ D, o < st.nx) (hp : ∀ o ∈ D, (st.h.get o).isSome = true) (hl : D.length ≤ cp)
    (h : pf P f (AV.c0.go (fun o => idx D o 0) args) (bp (i3 st.h (fun o => idx D o 0) D)) (fun r st' => (D.length ≤ st'.nx ∧ st.nx + st'.nx ≤ cp) ∧ R (r.c0 (Kf D st.nx st'.nx)) (sn D st st'))) : pf P f args st R := by
  intro g w vs hok hfr hrel
  have hτ : ∀ o p, (fun o => idx D o 0) o = some p → D[p]? = some o := fun o p h => Fl _ o p h
  have hnx : (bp (i3 st.h (fun o => idx D o 0) D)).nx = D.length := by simp only [bp, ic]
  have hinj : ∀ i o, D[i]? = some o → (g.c0 D).inj i = g.inj o := fun i o h => by simp [Gh.c0, h]
  have cw : ∀ i x, (bp (i3 st.h (fun o => idx D o 0) D)).h.get i = some x → ∃ o y, D[i]? = some o ∧ st.h.get o = some y ∧ y.c0 (fun o => idx D o 0) = some x := by
    intro i x hx
    simp only [bp] at hx
    rw [uu _ _ _ (by rw [ic]; omega), if_pos (Nat.zero_le _), Nat.sub_zero, u6] at hx
    cases hi : D[i]? with
    | none => rw [hi] at hx; cases hx
    | some o =>
      rw [hi] at hx
      simp only [Option.map_some, Option.join_some] at hx
      cases hy : st.h.get o with
      | none => rw [hy] at hx; cases hx
      | some y => rw [hy] at hx; exact ⟨o, y, rfl, hy, hx⟩
  have hok0 : Ok (g.c0 D) (bp (i3 st.h (fun o => idx D o 0) D)).h w := by
    refine ⟨hok.size, fun i x hx => ?_, fun i j x y b base base' hij hx hy hb hb' => ?_, hok.K⟩
    · obtain ⟨o, y, h1, h2, h3⟩ := cw i x hx
      refine (hok.lz o y h2).imp (fun q => ⟨by rw [hinj i o h1]; exact q.1, by obtain ⟨s0, e0, rfl⟩ := q.2; simp only [ba.c0, AV.c0.go, Option.some.injEq] at h3; exact ⟨s0, e0, h3.symm⟩⟩) ?_
      rintro ⟨b, base, q1, q2, q3⟩
      exact ⟨b, base, by rw [hinj i o h1]; exact q1, q2, q3.c0 hτ h3⟩
    · obtain ⟨o, y1, h1, h2, _⟩ := cw i x hx
      obtain ⟨o', y2, h1', h2', _⟩ := cw j y hy
      rw [hinj i o h1] at hb
      rw [hinj j o' h1'] at hb'
      have hne : o ≠ o' := by
        intro e
        subst e
        obtain ⟨hi, ei⟩ := List.getElem?_eq_some_iff.1 h1
        obtain ⟨hj, ej⟩ := List.getElem?_eq_some_iff.1 h1'
        exact hij ((List.getElem_inj hD).1 (ei.trans ej.symm))
      exact hok.sep o o' _ _ b base base' hne h2 h2' hb hb'
  have hfr0 : ∀ o, (bp (i3 st.h (fun o => idx D o 0) D)).nx ≤ o → (g.c0 D).inj o = none := fun o ho => by
    rw [hnx] at ho; simp [Gh.c0, List.getElem?_eq_none ho]
  have hrel0 : bj (g.c0 D) w (AV.c0.go (fun o => idx D o 0) args) vs := by
    rw [j9]
    refine ⟨by rw [List.length_map]; exact hrel.1, fun i a v ha hv => ?_⟩
    rw [List.getElem?_map] at ha
    cases hx : args[i]? with
    | none => rw [hx] at ha; cases ha
    | some a0 => rw [hx] at ha; cases ha; exact (hrel.2 i a0 v hx hv).c0 hτ
  rcases h (g.c0 D) w vs hok0 hfr0 hrel0 with ⟨v, w', g', r, st', q1, q2, q3, q4, q5, q6⟩ | ⟨q1, q2⟩
  · rw [hnx] at q4
    obtain ⟨g'', p1, p2, p3, p4⟩ := Y5 hD hlt hp hok hfr q2.1.1 q2.1.2 q4 q5 q6
    exact .inl ⟨v, w', g'', _, _, q1, q2.2, p1, p2, p3, p4⟩
  · refine .inr ⟨q1, q2.mono ?_⟩
    rintro e w' ⟨v, g', r, st', rfl, q2, q3, q4, q5, q6⟩
    rw [hnx] at q4
    obtain ⟨g'', p1, p2, p3, p4⟩ := Y5 hD hlt hp hok hfr q2.1.1 q2.1.2 q4 q5 q6
    exact ⟨v, g'', _, _, rfl, q2.2, p1, p2, p3, p4⟩
theorem P3 {P : Program} {f : Nat} {args : List AV} {st : St} {R : AV → St → Prop} (D : List Nat) {args0 : List AV} {objs0 : List (Option ba)} {r0 : AV} {objs1 : List (Option ba)}
    (hc : pf P f args0 (bp objs0) (fun r st' => r = r0 ∧ st' = bp objs1)) (hD : D.Nodup)
    (hlt : (D.all fun o => Nat.blt o st.nx) = true) (hp : (D.all fun o => (st.h.get o).isSome) = true) (hl : D.length ≤ cp)
    (ha : AV.c0.go (fun o => idx D o 0) args = args0) (hs : i3 st.h (fun o => idx D o 0) D = objs0) (hb : D.length ≤ objs1.length ∧ st.nx + objs1.length ≤ cp)
    (h : R (r0.c0 (Kf D st.nx objs1.length)) (sn D st (bp objs1))) : pf P f args st R := by
  refine Zg D hD (fun o ho => Nat.le_of_ble_eq_true (List.all_eq_true.1 hlt o ho)) (fun o ho => List.all_eq_true.1 hp o ho) hl ?_
  rw [ha, hs]
  intro g w vs hok hfr hrel
  rcases hc g w vs hok hfr hrel with ⟨v, w', g', r, st', q1, ⟨rfl, rfl⟩, q3⟩ | ⟨q1, q2⟩
  · exact .inl ⟨v, w', g', _, _, q1, ⟨hb, h⟩, q3⟩
  · refine .inr ⟨q1, q2.mono ?_⟩
    rintro e w' ⟨v, g', r, st', e1, ⟨rfl, rfl⟩, q3⟩
    exact ⟨v, g', _, _, e1, ⟨hb, h⟩, q3⟩
end
end Go.Vm
end
section
set_option linter.unusedSimpArgs false
set_option linter.unusedVariables false
namespace Go.Proofs.YtidomogemfchpaaGreat
open Go.Vm
set_option maxRecDepth 2000000
def avx (s : br) : Bool := decide ((s.type.toNat : Int) = 2) || (decide ((s.type.toNat : Int) = 15) || decide ((s.type.toNat : Int) = 33))
def ja (l : List ct) : List Name := l.flatMap fun d => d.names
def ap0 (s : br) : List Name := if avx s = true then ja s.data else []
def atm (l : List br) : List Name := l.flatMap ap0
def awd (ans : List br) (s : br) : Bool := ans.any fun x => decide ((x.type.toNat : Int) = s.type.toNat) && gx x.owner s.owner
def aqr (z : bh) (ans l : List br) : List br := (avm z (atm l)).filter fun s => !awd ans s
def aw1 (l : List Name) (n : Name) : Bool := l.any fun m => gx m n
noncomputable def ane (z : bh) (t : UInt16) : Nat → Name → List Name → List br → Zf
  | 0, _, _, ans => W2 0 true ans [] []
  | k + 1, n, seen, ans =>
    let x := av1 z n t (ait z n).1
    if x.turn = 0 then W2 0 true (ans ++ x.ak) [] (aqr z (ans ++ x.ak) x.ak)
    else if x.turn = 3 then W2 3 true ans [agl z] []
    else if x.turn = 2 then W2 0 true ans [agl z] []
    else if x.turn = 4 then W2 0 (decide (0 < ans.length)) ans x.ak (aqr z ans x.ak)
    else if dp x.to z.origin = false then W2 0 true (ans ++ x.ak) [] []
    else if aw1 (seen ++ [n]) x.to = true then W2 0 true (ans ++ x.ak) [] []
    else ane z t k x.to (seen ++ [n]) (ans ++ x.ak)
noncomputable def ofV (z : bh) (n : Name) (t : UInt16) : Zf × Int :=
  if (ald z n t).2 ≠ 0 then (W2 0 false [] [] [], (ald z n t).2) else (ane z t 16 n [] [], 0)
end Go.Proofs.YtidomogemfchpaaGreat
end
section
set_option linter.unusedSimpArgs false
set_option linter.unusedVariables false
namespace Go.Proofs.YtidomogemfchpaaGreat
open Go.Vm
set_option maxRecDepth 2000000
theorem F0 {l : List ct} {i : Nat} {c : ct} (hc : l[i]? = some c) : ja (l.take (i + 1)) = ja (l.take i) ++ c.names := by
  obtain ⟨hi, rfl⟩ := List.getElem?_eq_some_iff.1 hc
  rw [List.take_succ_eq_append_getElem hi, ja, List.flatMap_append]; simp [ja]
end Go.Proofs.YtidomogemfchpaaGreat
end
section
namespace Go.Proofs.YtidomogemfchpaaGreat
open Go.Vm
theorem art {α : Type} (f : α → Nat) (a b : List α) : g9 f (a ++ b) = g9 f a + g9 f b := by
  induction a with
  | nil => simp [g9]
  | cons x a ih => simp only [g9, List.cons_append, List.foldr_cons] at ih ⊢; omega
theorem La (l : List ct) : g9 ca (ja l) ≤ g9 su l := by
  induction l with
  | nil => exact Nat.le_refl _
  | cons d l ih =>
    have h : ja (d :: l) = d.names ++ ja l := by simp [ja]
    rw [h, art]
    have h2 : g9 ca d.names ≤ su d := by unfold su; omega
    simp only [g9, List.foldr_cons] at ih h2 ⊢; omega
end Go.Proofs.YtidomogemfchpaaGreat
end
section
set_option linter.unusedSimpArgs false
set_option linter.unusedVariables false
namespace Go.Proofs.YtidomogemfchpaaGreat
open Go.Vm
set_option maxRecDepth 2000000
noncomputable def Ce (a b : br) : Bool := a.data.all fun d => zj a.type b.data d
theorem al4 (a b : br) (ha : dg a) (hb : dg b) : wl PP [aun] 0 (Tryz.f77.body.getD .skip) (de PP Tryz.f77.results.toList (fun r st => (r1 bo).get true st.h r = some (Ce a b))) (cb 0 [ar.val false a, ar.val false b]) (bp []) := by
  have hl := ha.data.len
  unfold Tryz.f77
  simp only [jf]
  simp only [↓wR, RA, simprocAttr, TF, ae]
  refine c6 [2, 3, 8, 9, 10] (fun (i : Nat) => [.ptr 0 0, .ptr 1 0, .vl false 4 (a.data.map (b9.val false)), .sc (.int .i64 (a.data.length)), .sc (.int .i64 (i))]) (fun _ => [some (.row [.vl false 1 (a.owner.map (an.val false)), .sc (.int .u16 a.type.toNat), .sc (.int .u16 a.cls.toNat), .sc (.int .u32 a.tt.toNat), .vl false 4 (a.data.map (b9.val false))] 0 2 40), some (.row [.vl false 1 (b.owner.map (an.val false)), .sc (.int .u16 b.type.toNat), .sc (.int .u16 b.cls.toNat), .sc (.int .u32 b.tt.toNat), .vl false 4 (b.data.map (b9.val false))] 0 2 40)]) (fun i => i ≤ a.data.length ∧ Ce a b = (a.data.drop i).all fun d => zj a.type b.data d) (fun i => a.data.length - i) 0 ⟨Nat.zero_le _, rfl⟩ (by simp only [↓wR, RA, simprocAttr, TF, ae] <;> rfl) (by simp only [↓wR, RA, simprocAttr, TF, ae] <;> rfl) ?_
  rintro i ⟨hi, hx⟩
  simp only [↓wR, RA, simprocAttr, TF, ae]
  rw [bf]; refine ⟨fun h => ?_, fun h => ?_⟩
  · obtain ⟨c, hc, hd1, hlt⟩ := di (decide_eq_true h)
    rw [hd1, List.all_cons] at hx
    have hcs := ha.data.mem c (List.mem_of_getElem? hc)
    simp only [↓wR, RA, simprocAttr, TF, ae, h, hc, Mc, hb.data, hcs]
    rw [bk]; refine ⟨fun h1 => ?_, fun h1 => ?_⟩
    · have h1' : zj a.type b.data c = false := by simpa only [Bool.not_eq_true'] using h1
      rw [h1', Bool.false_and] at hx
      simp only [↓wR, RA, simprocAttr, TF, ae, h1]
      rw [hx] <;> rfl
    · have h1' : zj a.type b.data c = true := by simpa only [Bool.not_eq_false'] using h1
      rw [h1', Bool.true_and] at hx
      simp only [↓wR, RA, simprocAttr, TF, ae, h1]; repeat (simp (disch := omega) only [ah, bu, b7, bw, bz]; try simp only [↓wR, RA, simprocAttr, TF, ae, h1])
      exact ⟨i + 1, ⟨hlt, hx⟩, by omega, by (first | rfl | trivial | omega | ((try (simp (disch := omega) only [ah])); (try (simp only [FB])); first | done | rfl | omega))⟩
  · rw [du (decide_eq_false h), List.all_nil] at hx
    simp only [↓wR, RA, simprocAttr, TF, ae, h]
    rw [hx] <;> rfl
noncomputable def zm (x : br × br × Unit) : Option AV := if dg x.1 ∧ dg x.2.1 then some ((r1 bo).E true (Ce x.1 x.2.1)) else none
set_option maxRecDepth 2000000 in
theorem aaa (x : br × br × Unit) (r : AV) (h : zm x = some r) : bg PP 77 ((aC ar (aC ar a0)).E x) r := by
  by_cases hc : dg x.1 ∧ dg x.2.1
  case neg => simp only [zm, if_neg hc] at h; cases h
  simp only [zm, if_pos hc] at h
  cases h
  exact bb (aj.cons (ai U6) (aj.nil PP)) Tryz.func77 (by kernel_rfl) (by kernel_rfl) (by kernel_rfl) (Nat.le_of_ble_eq_true (by kernel_rfl)) (r1 bo) true (Ce x.1 x.2.1) (al4 x.1 x.2.1 hc.1 hc.2)
noncomputable abbrev asb : Nat × Bool × (List AV → M AV) := (77, true, da (aC ar (aC ar a0)) zm)
noncomputable def s5 (a b : br) : Bool := decide ((a.type.toNat : Int) = b.type.toNat) && (decide ((a.cls.toNat : Int) = b.cls.toNat) && (gx a.owner b.owner && (Ce a b && Ce b a)))
theorem ae4 (a b : br) (ha : dg a) (hb : dg b) : wl PP [dx, asb] 0 (Tryz.f38.body.getD .skip) (de PP Tryz.f38.results.toList (fun r st => (r1 bo).get true st.h r = some (s5 a b))) (cb 0 [ar.val false a, ar.val false b]) (bp []) := by
  unfold Tryz.f38
  simp only [jf]
  unfold s5
  simp only [↓wR, RA, simprocAttr, TF, ae]
  rw [dc]; refine ⟨fun ⟨h1, e1⟩ => ?_, fun ⟨h1, e1⟩ => ?_⟩
  · rw [decide_eq_true e1, Bool.true_and]
    simp only [↓wR, RA, simprocAttr, TF, ae, h1]
    rw [dc]; refine ⟨fun ⟨h2, e2⟩ => ?_, fun ⟨h2, e2⟩ => ?_⟩
    · rw [decide_eq_true e2, Bool.true_and]
      simp only [↓wR, RA, simprocAttr, TF, ae, h2, iy, ha.owner, hb.owner]
      rw [bk]; refine ⟨fun h3 => ?_, fun h3 => ?_⟩
      · rw [h3, Bool.true_and]
        simp only [↓wR, RA, simprocAttr, TF, ae, h3, zm, ha, hb]
        rw [bk]; refine ⟨fun h4 => ?_, fun h4 => ?_⟩
        · rw [h4, Bool.true_and]
          simp only [↓wR, RA, simprocAttr, TF, ae, h4, zm, ha, hb]
        · rw [h4, Bool.false_and]
          simp only [↓wR, RA, simprocAttr, TF, ae, h4]
      · rw [h3, Bool.false_and]
        simp only [↓wR, RA, simprocAttr, TF, ae, h3]
    · rw [decide_eq_false e2, Bool.false_and]
      simp only [↓wR, RA, simprocAttr, TF, ae, h2]
  · rw [decide_eq_false e1, Bool.false_and]
    simp only [↓wR, RA, simprocAttr, TF, ae, h1]
noncomputable def B5 (x : br × br × Unit) : Option AV := if dg x.1 ∧ dg x.2.1 then some ((r1 bo).E true (s5 x.1 x.2.1)) else none
set_option maxRecDepth 2000000 in
theorem Mx (x : br × br × Unit) (r : AV) (h : B5 x = some r) : bg PP 38 ((aC ar (aC ar a0)).E x) r := by
  by_cases hc : dg x.1 ∧ dg x.2.1
  case neg => simp only [B5, if_neg hc] at h; cases h
  simp only [B5, if_pos hc] at h
  cases h
  exact bb (aj.cons (ai i7) (aj.cons (ai aaa) (aj.nil PP))) Tryz.func38 (by kernel_rfl) (by kernel_rfl) (by kernel_rfl) (Nat.le_of_ble_eq_true (by kernel_rfl)) (r1 bo) true (s5 x.1 x.2.1) (ae4 x.1 x.2.1 hc.1 hc.2)
noncomputable abbrev akj : Nat × Bool × (List AV → M AV) := (38, true, da (aC ar (aC ar a0)) B5)
end Go.Proofs.YtidomogemfchpaaGreat
end
