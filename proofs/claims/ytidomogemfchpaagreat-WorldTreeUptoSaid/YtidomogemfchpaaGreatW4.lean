/- A piece of the proof. Proved: where the arguments are together of bulk at most 1048576, the law WorldTree returns true (each name has one zone, and the root is reached), and what it was given reads afterwards as it did before. No other conditions. -/
import Derived.WalkKit
import Derived.CallsIn
import Derived.RangeFuncIn
import Derived.RangeFuncLeaves
import Derived.Orders
import Derived.OrdersIn
import Derived.Scope
import Derived.RangeFuncOwn
import Derived.Stop.SameAnswer
import Derived.Laws.Externs
import Derived.Lib.Bytealg
import Derived.ProofKit
import Derived.OpenShut
import Derived.ReadAgain
import Derived.Deep.Slices
import Derived.ChangeSame
import Derived.Test.YtidomogemfchpaaGreatProg
import Derived.KernelRfl
import Derived.Test.YtidomogemfchpaaGreatRows
import Derived.Maps.RangeRun
import Derived.JoinedCond
import Derived.Test.YtidomogemfchpaaGreatW3
set_option linter.unusedSimpArgs false
set_option linter.unusedVariables false
section
set_option linter.unusedSimpArgs false
set_option linter.unusedVariables false
namespace Go.Proofs.YtidomogemfchpaaGreat
open Go.Vm
set_option maxRecDepth 2000000
def Wn (w : bc) : Nat := g9 wu w.au + (g9 (fun h : tv => h.au.length) w.db + w.hints.length)
def cy (w : bc) : Prop := Wn w ≤ 5242880
instance (w : bc) : Decidable (cy w) := inferInstanceAs (Decidable (_ ≤ _))
theorem cy.zone {w : bc} (h : cy w) : ∀ z ∈ w.au, dh z := fun z hz => by
  have h1 : wu z < g9 wu w.au := qx hz
  unfold cy Wn at h; unfold dh; omega
theorem cy.wt {w : bc} (h : cy w) : ∀ z ∈ w.au, wu z ≤ 5242880 := fun z hz => by
  have h1 : wu z < g9 wu w.au := qx hz
  unfold cy Wn at h; omega
theorem cy.Dd {w : bc} (h : cy w) : w.au.length ≤ 16777216 := by have := pw wu w.au; unfold cy Wn at h; omega
theorem cy.hlen {w : bc} (h : cy w) : w.db.length ≤ 16777216 := by have := pw (fun h : tv => h.au.length) w.db; unfold cy Wn at h; omega
theorem cy.axb {w : bc} (h : cy w) : w.hints.length ≤ 16777216 := by unfold cy Wn at h; omega
theorem cy.host {w : bc} (h : cy w) : ∀ x ∈ w.db, x.au.length ≤ 16777216 := fun x hx => by
  have h1 : x.au.length < g9 (fun h : tv => h.au.length) w.db := qx (f := fun h : tv => h.au.length) hx
  unfold cy Wn at h; omega
def Fu (b : Option (Nat × Nat)) (k : Nat) : Bool := match b with | none => true | some p => decide (p.2 < k)
def np (n : Name) (b : Option (Nat × Nat)) (i : Nat) (z : bh) : Option (Nat × Nat) :=
  if (dp n z.origin && Fu b z.origin.length) = true then some (i, z.origin.length) else b
def Ey (n : Name) : List bh → Nat → Option (Nat × Nat) → Option (Nat × Nat)
  | [], _, b => b
  | z :: r, i, b => Ey n r (i + 1) (np n b i z)
def Tt (w : bc) (n : Name) : Option (Nat × Nat) := Ey n w.au 0 none
def T2 (b : Option (Nat × Nat)) : Int := match b with | none => -1 | some p => (p.1 : Int)
def qh (w : bc) (n : Name) : Int := T2 (Tt w n)
theorem asy {l : List bh} {i : Nat} {c : bh} (n : Name) (k : Nat) (b) (h : l.drop i = c :: l.drop (i + 1)) : Ey n (l.drop i) k b = Ey n (l.drop (i + 1)) (k + 1) (np n b k c) := by rw [h]; rfl
theorem Ul (k : Nat) : decide ((k : Int) < 0) = false := decide_eq_false (by omega)
set_option maxHeartbeats 4000000 in
theorem ap1 (w : bc) (n : Name) (hw : cy w) (hn : bt n) : wl PP [px] 0 (Tryz.f52.body.getD .skip) (de PP Tryz.f52.results.toList (fun r st => (r1 (aw .i64)).get true st.h r = some (qh w n))) (cb 0 [cd.val false w, ay.val false n]) (bp []) := by
  have hl := hw.Dd
  have hq : ∀ a b c d, fv a b c = d → fv a b c = d := fun _ _ _ _ h => h
  unfold Tryz.f52
  simp only [eb, dz]
  simp only [↓wR, RA, simprocAttr, TF, ae]
  refine c6 [1, 2, 5, 9, 10, 11] (fun (x : Nat × Option (Nat × Nat)) => [.vl false 1 (n.map (an.val false)), .ptr 0 0, .sc (.int .i64 (T2 x.2)), .vl false 2 (w.au.map (bn.val false)), .sc (.int .i64 (w.au.length)), .sc (.int .i64 (x.1))]) (fun _ => [some (.row [.vl false 2 (w.au.map (bn.val false)), .vl false 2 (w.db.map (dj.val false)), .vl false 1 (w.hints.map (be.val false))] 0 2 50)]) (fun x => x.1 ≤ w.au.length ∧ Tt w n = Ey n (w.au.drop x.1) x.1 x.2 ∧ ∀ p, x.2 = some p → ∃ y, w.au[p.1]? = some y ∧ y.origin.length = p.2) (fun x => w.au.length - x.1) (0, none) ⟨Nat.zero_le _, rfl, fun p h => by cases h⟩ (by simp only [↓wR, RA, simprocAttr, TF, ae, T2] <;> rfl) (by simp only [↓wR, RA, simprocAttr, TF, ae] <;> rfl) ?_
  rintro ⟨i, b⟩ ⟨hi, hx, hb⟩
  simp only at hi hx hb
  simp only [↓wR, RA, simprocAttr, TF, ae]
  rw [bf]; refine ⟨fun h => ?_, fun h => ?_⟩
  · obtain ⟨c, hc, hd1, hlt⟩ := di (decide_eq_true h)
    rw [asy n i b hd1] at hx
    have hcs := (hw.zone c (List.mem_of_getElem? hc)).origin
    have step : ∀ b', np n b i c = b' → Tt w n = Ey n (w.au.drop (i + 1)) (i + 1) b' := fun b' e => by rw [hx, e]
    simp only [↓wR, RA, simprocAttr, TF, ae, h, hc]
    refine ⟨by kernel_rfl, .inl ?_⟩
    simp only [↓wR, RA, simprocAttr, TF, ae, g7, hn, hcs]
    rw [bk]; refine ⟨fun h1 => ?_, fun h1 => ?_⟩
    · cases b with
      | none =>
        have st := step (some (i, c.origin.length)) (by simp [np, h1, Fu])
        simp only [↓wR, RA, simprocAttr, TF, ae, h1, T2]; repeat (simp (disch := omega) only [ah, bu, b7, bw, bz]; try simp only [↓wR, RA, simprocAttr, TF, ae, h1, T2])
        exact ⟨by apply hq; kernel_rfl, (i + 1, some (i, c.origin.length)), ⟨hlt, st, fun p hp => by cases hp; exact ⟨c, hc, rfl⟩⟩, by simp; omega, by (first | rfl | trivial | omega | ((try (simp (disch := omega) only [ah])); (try (simp only [FB])); first | done | rfl | omega))⟩
      | some p =>
        obtain ⟨k, m⟩ := p
        obtain ⟨y, hy, hym⟩ := hb _ rfl
        simp only at hy hym
        have hyl := List.mem_of_getElem? hy
        simp only [↓wR, RA, simprocAttr, TF, ae, h1, T2, Ul, hy]
        refine ⟨by apply hq; kernel_rfl, ?_⟩
        rw [bf]; refine ⟨fun h2 => ?_, fun h2 => ?_⟩
        · have st := step (some (i, c.origin.length)) (by simp [np, h1, Fu]; omega)
          simp only [↓wR, RA, simprocAttr, TF, ae, h2]; repeat (simp (disch := omega) only [ah, bu, b7, bw, bz]; try simp only [↓wR, RA, simprocAttr, TF, ae, h2])
          exact ⟨(i + 1, some (i, c.origin.length)), ⟨hlt, st, fun p hp => by cases hp; exact ⟨c, hc, rfl⟩⟩, by simp; omega, by (first | rfl | trivial | omega | ((try (simp (disch := omega) only [ah])); (try (simp only [FB])); first | done | rfl | omega))⟩
        · have st := step (some (k, m)) (by simp [np, h1, Fu]; omega)
          simp only [↓wR, RA, simprocAttr, TF, ae, h2]; repeat (simp (disch := omega) only [ah, bu, b7, bw, bz]; try simp only [↓wR, RA, simprocAttr, TF, ae, h2])
          exact ⟨(i + 1, some (k, m)), ⟨hlt, st, hb⟩, by simp; omega, by (first | rfl | trivial | omega | ((try (simp (disch := omega) only [ah])); (try (simp only [FB])); first | done | rfl | omega))⟩
    · have st := step b (by simp [np, h1])
      simp only [↓wR, RA, simprocAttr, TF, ae, h1]; repeat (simp (disch := omega) only [ah, bu, b7, bw, bz]; try simp only [↓wR, RA, simprocAttr, TF, ae, h1])
      exact ⟨by apply hq; kernel_rfl, (i + 1, b), ⟨hlt, st, hb⟩, by simp; omega, by (first | rfl | trivial | omega | ((try (simp (disch := omega) only [ah])); (try (simp only [FB])); first | done | rfl | omega))⟩
  · rw [du (decide_eq_false h)] at hx
    simp only [↓wR, RA, simprocAttr, TF, ae, h]
    rw [qh, hx] <;> rfl
noncomputable def xa (x : bc × Name × Unit) : Option AV := if cy x.1 ∧ bt x.2.1 then some ((r1 (aw .i64)).E true (qh x.1 x.2.1)) else none
set_option maxRecDepth 2000000 in
theorem Ac (x : bc × Name × Unit) (r : AV) (h : xa x = some r) : bg PP 52 ((aC cd (aC ay a0)).E x) r := by
  by_cases hc : cy x.1 ∧ bt x.2.1
  case neg => simp only [xa, if_neg hc] at h; cases h
  simp only [xa, if_pos hc] at h
  cases h
  exact bb (aj.cons (ai my) (aj.nil PP)) Tryz.func52 (by kernel_rfl) (by kernel_rfl) (by kernel_rfl) (Nat.le_of_ble_eq_true (by kernel_rfl)) (r1 (aw .i64)) true (qh x.1 x.2.1) (ap1 x.1 x.2.1 hc.1 hc.2)
noncomputable abbrev S1 : Nat × Bool × (List AV → M AV) := (52, true, da (aC cd (aC ay a0)) xa)
def mb (w : bc) (i : Int) : Option bh := if 0 ≤ i then w.au[i.toNat]? else none
theorem Yv {w : bc} {n : Name} {p : Nat × Nat} (h : Tt w n = some p) : ∃ y, w.au[p.1]? = some y ∧ y.origin.length = p.2 ∧ dp n y.origin = true := by
  have key : ∀ (l : List bh) (i : Nat) (b : Option (Nat × Nat)), (∀ k z, l[k]? = some z → w.au[i + k]? = some z) → (∀ p, b = some p → ∃ y, w.au[p.1]? = some y ∧ y.origin.length = p.2 ∧ dp n y.origin = true) → ∀ p, Ey n l i b = some p → ∃ y, w.au[p.1]? = some y ∧ y.origin.length = p.2 ∧ dp n y.origin = true := by
    intro l
    induction l with
    | nil => intro i b _ hb p hp; exact hb p hp
    | cons z l ih =>
      intro i b hl hb p hp
      refine ih (i + 1) (np n b i z) (fun k y hy => by rw [show i + 1 + k = i + (k + 1) from by omega]; exact hl (k + 1) y (by simpa using hy)) (fun q hq => ?_) p hp
      unfold np at hq
      split at hq
      · rename_i h1
        rw [Bool.and_eq_true] at h1
        cases hq
        exact ⟨z, hl 0 z rfl, rfl, h1.1⟩
      · exact hb q hq
  exact key w.au 0 none (fun k z hz => by rw [Nat.zero_add]; exact hz) (fun p h => by cases h) p h
theorem amz {w : bc} {n : Name} (h : ¬ qh w n < 0) : ∃ (k : Nat) (y : bh), qh w n = (k : Int) ∧ w.au[k]? = some y ∧ dp n y.origin = true := by
  unfold qh at h ⊢
  cases ho : Tt w n with
  | none => rw [ho] at h; exact (h (by decide)).elim
  | some p =>
    obtain ⟨y, h1, _, h2⟩ := Yv ho
    exact ⟨p.1, y, rfl, h1, h2⟩
def Gg (w : bc) (n : Name) : Int × Int := if ea n ≠ 0 then (0, ea n) else if qh w n < 0 then (0, 9) else (qh w n, 0)
theorem akq (w : bc) (n : Name) (hw : cy w) (hn : bt n) : wl PP [dw, S1] 0 (Tryz.f18.body.getD .skip) (de PP Tryz.f18.results.toList (fun r st => (r2 (aw .i64) (aw .i64)).get true st.h r = some (Gg w n))) (cb 0 [cd.val false w, ay.val false n]) (bp []) := by
  unfold Tryz.f18
  simp only [eb, dz]
  simp only [↓wR, RA, simprocAttr, TF, ae, l7, hn.fit]
  unfold Gg
  rw [bk]; refine ⟨fun h => ?_, fun h => ?_⟩
  · have he : ea n ≠ 0 := by simpa using h
    rw [if_pos he]
    simp only [↓wR, RA, simprocAttr, TF, ae, h]
  have he : ea n = 0 := by simpa using h
  rw [if_neg (by omega)]
  simp only [↓wR, RA, simprocAttr, TF, ae, h, xa, hw, hn]
  rw [bf]; refine ⟨fun h2 => ?_, fun h2 => ?_⟩
  · rw [if_pos h2]
    simp only [↓wR, RA, simprocAttr, TF, ae, h2]
  · rw [if_neg h2]
    simp only [↓wR, RA, simprocAttr, TF, ae, h2]
noncomputable def Cn (x : bc × Name × Unit) : Option AV := if cy x.1 ∧ bt x.2.1 then some ((r2 (aw .i64) (aw .i64)).E true (Gg x.1 x.2.1)) else none
set_option maxRecDepth 2000000 in
theorem Zx (x : bc × Name × Unit) (r : AV) (h : Cn x = some r) : bg PP 18 ((aC cd (aC ay a0)).E x) r := by
  by_cases hc : cy x.1 ∧ bt x.2.1
  case neg => simp only [Cn, if_neg hc] at h; cases h
  simp only [Cn, if_pos hc] at h
  cases h
  exact bb (aj.cons (ai ky) (aj.cons (ai Ac) (aj.nil PP))) Tryz.func18 (by kernel_rfl) (by kernel_rfl) (by kernel_rfl) (Nat.le_of_ble_eq_true (by kernel_rfl)) (r2 (aw .i64) (aw .i64)) true (Gg x.1 x.2.1) (akq x.1 x.2.1 hc.1 hc.2)
noncomputable abbrev af4 : Nat × Bool × (List AV → M AV) := (18, true, da (aC cd (aC ay a0)) Cn)
def o8 (w : bc) (i : Int) : Int × Int :=
  match mb w i with
  | none => (0, 9)
  | some z => if (jr z.origin).2 ≠ 0 then (0, 9) else if qh w (jr z.origin).1 < 0 then (0, 9) else (qh w (jr z.origin).1, 0)
theorem lr (w : bc) (k : Nat) : mb w (k : Int) = w.au[k]? := by unfold mb; rw [if_pos (by omega), Int.toNat_natCast]
theorem Bs {w : bc} {i : Int} (h : i < 0) : mb w i = none := by unfold mb; rw [if_neg (by omega)]
theorem Gs {w : bc} {i : Int} (h : (w.au.length : Int) ≤ i) : mb w i = none := by unfold mb; rw [if_pos (by omega)]; exact List.getElem?_eq_none (by omega)
theorem Ld {w : bc} {i : Int} (h : ¬ i < 0) (h2 : ¬ i ≥ (w.au.length : Int)) : ∃ (k : Nat) (z : bh), i = (k : Int) ∧ w.au[k]? = some z := ⟨i.toNat, w.au[i.toNat]'(by omega), by omega, List.getElem?_eq_getElem _⟩
theorem ado {n : Name} (h : bt n) : bt (jr n).1 := by
  unfold jr
  split
  · show ca [] ≤ 16777216; decide
  · split
    · show ca [] ≤ 16777216; decide
    · cases n with
      | nil => exact h
      | cons a r =>
        have h1 := l9 [a] r
        have h2 : ca [a] = a.size + 2 := by simp [ca]; omega
        have h3 := (oq r 0).2
        simp only [List.singleton_append] at h1
        unfold bt at *
        show ca r ≤ 16777216
        omega
set_option maxHeartbeats 4000000 in
theorem aj7 (w : bc) (i : Int) (hw : cy w) : wl PP [aiz, S1] 0 (Tryz.f20.body.getD .skip) (de PP Tryz.f20.results.toList (fun r st => (r2 (aw .i64) (aw .i64)).get true st.h r = some (o8 w i))) (cb 0 [cd.val false w, (aw .i64).val false i]) (bp []) := by
  unfold Tryz.f20
  simp only [eb]
  unfold o8
  simp only [↓wR, RA, simprocAttr, TF, ae]
  rw [bf]; refine ⟨fun h => ?_, fun h => ?_⟩
  · rw [Bs h]
    simp only [↓wR, RA, simprocAttr, TF, ae, h]
  simp only [↓wR, RA, simprocAttr, TF, ae, h]
  rw [bf]; refine ⟨fun h2 => ?_, fun h2 => ?_⟩
  · rw [Gs h2]
    simp only [↓wR, RA, simprocAttr, TF, ae, h2]
  obtain ⟨k, z, rfl, hz⟩ := Ld h h2
  have hzs := (hw.zone z (List.mem_of_getElem? hz)).origin
  have hps := ado hzs
  rw [lr, hz]
  simp only
  rcases hp : jr z.origin with ⟨up, e⟩
  rw [hp] at hps
  simp only [↓wR, RA, simprocAttr, TF, ae, h2, hz, vv, hzs, hp]
  rw [bk]; refine ⟨fun h3 => ?_, fun h3 => ?_⟩
  · have he : e ≠ 0 := by simpa using h3
    rw [if_pos he]
    simp only [↓wR, RA, simprocAttr, TF, ae, h3]
  have he : e = 0 := by simpa using h3
  rw [if_neg (by omega)]
  simp only [↓wR, RA, simprocAttr, TF, ae, h3, xa, hw, hps]
  rw [bf]; refine ⟨fun h4 => ?_, fun h4 => ?_⟩
  · rw [if_pos h4]
    simp only [↓wR, RA, simprocAttr, TF, ae, h4]
  · rw [if_neg h4]
    simp only [↓wR, RA, simprocAttr, TF, ae, h4]
noncomputable def yu (x : bc × Int × Unit) : Option AV := if cy x.1 then some ((r2 (aw .i64) (aw .i64)).E true (o8 x.1 x.2.1)) else none
set_option maxRecDepth 2000000 in
theorem Kx (x : bc × Int × Unit) (r : AV) (h : yu x = some r) : bg PP 20 ((aC cd (aC (aw .i64) a0)).E x) r := by
  by_cases hc : cy x.1
  case neg => simp only [yu, if_neg hc] at h; cases h
  simp only [yu, if_pos hc] at h
  cases h
  exact bb (aj.cons (ai Qf) (aj.cons (ai Ac) (aj.nil PP))) Tryz.func20 (by kernel_rfl) (by kernel_rfl) (by kernel_rfl) (Nat.le_of_ble_eq_true (by kernel_rfl)) (r2 (aw .i64) (aw .i64)) true (o8 x.1 x.2.1) (aj7 x.1 x.2.1 hc)
noncomputable abbrev Uo : Nat × Bool × (List AV → M AV) := (20, true, da (aC cd (aC (aw .i64) a0)) yu)
def ji (w : bc) (n : Name) (t : UInt16) : Option br := match mb w (qh w n) with | none => none | some z => ib z.ak n t
theorem asa (w : bc) (n : Name) (t : UInt16) (hw : cy w) (hn : bt n) : wl PP [S1, P2] 0 (Tryz.f88.body.getD .skip) (de PP Tryz.f88.results.toList (fun r st => (r2 ar bo).get true st.h r = some ((ji w n t).getD mj, (ji w n t).isSome))) (cb 0 [cd.val false w, ay.val false n, c9.val false t]) (bp []) := by
  unfold Tryz.f88
  simp only [eb, dz]
  simp only [↓wR, RA, simprocAttr, TF, ae, xa, hw, hn]
  unfold ji
  rw [bf]; refine ⟨fun h => ?_, fun h => ?_⟩
  · rw [Bs h]
    simp only [↓wR, RA, simprocAttr, TF, ae, h]
    rfl
  obtain ⟨k, z, hk, hz, _⟩ := amz h
  have hzs := hw.zone z (List.mem_of_getElem? hz)
  rw [hk] at h ⊢
  rw [lr, hz]
  simp only [↓wR, RA, simprocAttr, TF, ae, h, hz, u5, hzs.mid, hn]
noncomputable def Au (x : bc × Name × UInt16 × Unit) : Option AV := if cy x.1 ∧ bt x.2.1 then some ((r2 ar bo).E true (((ji x.1 x.2.1 x.2.2.1).getD mj, (ji x.1 x.2.1 x.2.2.1).isSome))) else none
set_option maxRecDepth 2000000 in
theorem Bk (x : bc × Name × UInt16 × Unit) (r : AV) (h : Au x = some r) : bg PP 88 ((aC cd (aC ay (aC c9 a0))).E x) r := by
  by_cases hc : cy x.1 ∧ bt x.2.1
  case neg => simp only [Au, if_neg hc] at h; cases h
  simp only [Au, if_pos hc] at h
  cases h
  exact bb (aj.cons (ai Ac) (aj.cons (ai Af) (aj.nil PP))) Tryz.func88 (by kernel_rfl) (by kernel_rfl) (by kernel_rfl) (Nat.le_of_ble_eq_true (by kernel_rfl)) (r2 ar bo) true (((ji x.1 x.2.1 x.2.2.1).getD mj, (ji x.1 x.2.1 x.2.2.1).isSome)) (asa x.1 x.2.1 x.2.2.1 hc.1 hc.2)
noncomputable abbrev Rm : Nat × Bool × (List AV → M AV) := (88, true, da (aC cd (aC ay (aC c9 a0))) Au)
def zq (l : List UInt8) : Nat := l.foldl (fun n c => 256 * n + c.toNat) 0
theorem Wm (l : List UInt8) (c : UInt8) : zq (l ++ [c]) = 256 * zq l + c.toNat := by simp [zq]
theorem K9 (l : List UInt8) : ∀ k, k ≤ l.length → zq (l.take k) < 256 ^ k
  | 0, _ => by simp [zq]
  | k + 1, h => by
    have ih := K9 l k (by omega)
    rw [List.take_succ_eq_append_getElem (by omega), Wm, Nat.pow_succ]
    have := (l[k]'(by omega)).toNat_lt
    omega
theorem at5 (a c : Nat) (hc : c < 256) : 256 * a ||| c = 256 * a + c := by
  have := Nat.two_pow_add_eq_or_of_lt (i := 8) hc a
  simpa using this.symm
def ub (d : ct) : UInt32 × Bool := if d.raw.length = 4 then (UInt32.ofNat (zq d.raw), true) else (0, false)
theorem wrap_u32' (x : Int) (h0 : 0 ≤ x) (h1 : x < 4294967296) : IntKind.u32.wrap x = x := by
  simp [IntKind.wrap, IntKind.bits, IntKind.signed]; omega
theorem apj (d : ct) : wl PP [] 0 (Tryz.f92.body.getD .skip) (de PP Tryz.f92.results.toList (fun r st => (r2 be bo).get true st.h r = some (ub d))) (cb 0 [b9.val false d]) (bp []) := by
  unfold Tryz.f92
  simp only [lj]
  unfold ub
  simp only [↓wR, RA, simprocAttr, TF, ae]
  rw [gu]; refine ⟨fun ⟨h, e⟩ => ?_, fun ⟨h, e⟩ => ?_⟩
  · rw [if_neg (by omega)]
    simp only [↓wR, RA, simprocAttr, TF, ae, h, Ry]
  have h4 : d.raw.length = 4 := by omega
  rw [if_pos h4]
  simp only [↓wR, RA, simprocAttr, TF, ae, h]
  refine c6 [4, 12, 13, 14] (fun (x : Nat) => [.sc (.int .u32 (zq (d.raw.take x))), .vl false 1 (d.raw.map (cj.val false)), .sc (.int .i64 (d.raw.length)), .sc (.int .i64 (x))]) (fun _ => []) (fun x => x ≤ 4) (fun x => 4 - x) 0 (by simp) (by simp only [↓wR, RA, simprocAttr, TF, ae] <;> rfl) (by simp only [↓wR, RA, simprocAttr, TF, ae] <;> rfl) ?_
  intro i hi
  simp only [↓wR, RA, simprocAttr, TF, ae]
  rw [bf]; refine ⟨fun h2 => ?_, fun h2 => ?_⟩
  · obtain ⟨c, hc, hd1, hlt⟩ := di (decide_eq_true h2)
    have e1 := K9 d.raw i (by omega)
    have e2 : zq (d.raw.take (i + 1)) = 256 * zq (d.raw.take i) + c.toNat := by
      obtain ⟨hk, rfl⟩ := List.getElem?_eq_some_iff.1 hc
      rw [List.take_succ_eq_append_getElem hk, Wm]
    have e3 := c.toNat_lt
    have e4 : 256 ^ i ≤ 256 ^ 3 := Nat.pow_le_pow_right (by omega) (by omega)
    have n1 : ((↑(zq (d.raw.take i)) * 256 : Int) % 4294967296).toNat = 256 * zq (d.raw.take i) := by omega
    have n2 : ((c.toNat : Int) % 4294967296).toNat = c.toNat := by omega
    simp only [↓wR, RA, simprocAttr, TF, ae, h2, hc]; repeat (simp (disch := omega) only [ah, bu, b7, bw, bz]; try simp only [↓wR, RA, simprocAttr, TF, ae, h2, hc])
    refine ⟨i + 1, by omega, by omega, ?_⟩
    rw [e2, wrap_u32' (_ * 256) (by omega) (by omega), n1]
    have n3 : ((((UInt32.ofNat c.toNat).toNat : Nat) : Int) % 4294967296).toNat = c.toNat := by simp; omega
    have n4 : (UInt32.ofNat (256 * zq (d.raw.take i) + c.toNat)).toNat = 256 * zq (d.raw.take i) + c.toNat := by simp; omega
    rw [n3, at5 _ _ (by omega), n4]
    rfl
  · have h5 : i = 4 := by omega
    subst h5
    have e1 := K9 d.raw 4 (by omega)
    simp only [↓wR, RA, simprocAttr, TF, ae, h2]
    rw [List.take_of_length_le (by omega)] at e1 ⊢
    rw [Ry _ _ _ (by omega) (by omega)]
    simp
noncomputable def Zu (x : ct × Unit) : Option AV := some ((r2 be bo).E true (ub x.1))
set_option maxRecDepth 2000000 in
theorem ah7 (x : ct × Unit) (r : AV) (h : Zu x = some r) : bg PP 92 ((aC b9 a0).E x) r := by
  cases h
  exact bb (aj.nil PP) Tryz.func92 (by kernel_rfl) (by kernel_rfl) (by kernel_rfl) (Nat.le_of_ble_eq_true (by kernel_rfl)) (r2 be bo) true (ub x.1) (apj x.1)
noncomputable abbrev ari : Nat × Bool × (List AV → M AV) := (92, true, da (aC b9 a0) Zu)
def ml (z : bh) : List Name := ja ((ib z.ak z.origin 2).getD mj).data
theorem E3 {z : bh} (hz : dh z) (n : Name) (t : UInt16) : dg ((ib z.ak n t).getD mj) := by
  cases h : ib z.ak n t with
  | none => show dg mj; decide
  | some s => exact hz.set s (xr h).1
theorem Xo (l : List ct) : (ja l).length ≤ g9 su l := by have := pw ca (ja l); have := La l; omega
theorem asz (z : bh) (hz : dh z) : wl PP [P2] 0 (Tryz.f89.body.getD .skip) (de PP Tryz.f89.results.toList (fun r st => (r1 (cq ay)).get true st.h r = some (ml z))) (cb 0 [bn.val false z]) (bp []) := by
  unfold Tryz.f89
  simp only [m5]
  have hs := E3 hz z.origin 2
  unfold ml
  simp only [↓wR, RA, simprocAttr, TF, ae, T5, u5, hz.mid, hz.origin]
  obtain ⟨s, hsd⟩ : ∃ s, s = (ib z.ak z.origin 2).getD mj := ⟨_, rfl⟩
  rw [← hsd] at hs ⊢
  have hdl := hs.data.len
  refine nd [17, 18, 19, 5] (fun (x : Nat × List Name) => [.vl true 4 (s.data.map (b9.val true)), .sc (.int .i64 (s.data.length)), .sc (.int .i64 (x.1)), .sl 0 0 x.2.length 1]) (fun x => [some (.row (x.2.map (ay.val true)) 0 0 23)]) (fun x => x.1 ≤ s.data.length ∧ x.2 = ja (s.data.take x.1)) (fun x => s.data.length - x.1) (0, []) ⟨Nat.zero_le _, rfl⟩ (by simp only [↓wR, RA, simprocAttr, TF, ae]; (refine tr.lax [] (by first | exact Nat.le_of_ble_eq_true rfl | (simp [cp]; omega)) ?_ ?_ <;> repeat' first | exact jb.nil | exact dm.nil | exact jl.same _ | exact jl.nil _ _ _ | exact jl.x8 _ _ | exact dm.refl _ _ | apply jb.cons | apply dm.ghost | apply dm.same | apply dm.row)) ?_
  rintro ⟨i, x⟩ ⟨hi, hx⟩
  simp only at hi hx
  simp only [↓wR, RA, simprocAttr, TF, ae]
  rw [bf]; refine ⟨fun h => ?_, fun h => ?_⟩
  · obtain ⟨d, hd, hd1, hlt⟩ := di (decide_eq_true h)
    have hle : (ja (s.data.take (i + 1))).length ≤ 16777216 := by
      have h1 := Xo (s.data.take (i + 1))
      have h2 := O7 su s.data (i + 1)
      have h3 : g9 su s.data ≤ 16777216 := hs.data
      omega
    rw [F0 hd, ← hx, List.length_append] at hle
    have hlim : (x.length + d.names.length) * 24 ≤ 140737488355328 := by omega
    simp only [↓wR, RA, simprocAttr, TF, ae, h, hd, hlim]; repeat (simp (disch := omega) only [ah, bu, b7, bw, bz]; try simp only [↓wR, RA, simprocAttr, TF, ae, h, hd, hlim])
    exact ⟨(i + 1, x ++ d.names), ⟨hlt, by rw [F0 hd, ← hx]⟩, by simp; omega, by (first | rfl | trivial | omega | ((try (simp (disch := omega) only [ah])); (try (simp only [FB])); first | done | rfl | omega)), by (first | rfl | trivial | omega | ((try (simp (disch := omega) only [ah])); (try (simp only [FB])); first | done | rfl | omega))⟩
  · have hil : i = s.data.length := by omega
    subst hil
    rw [List.take_length] at hx
    subst hx
    simp only [↓wR, RA, simprocAttr, TF, ae, h]
noncomputable def Fx (x : bh × Unit) : Option AV := if dh x.1 then some ((r1 (cq ay)).E true (ml x.1)) else none
set_option maxRecDepth 2000000 in
theorem Qs (x : bh × Unit) (r : AV) (h : Fx x = some r) : bg PP 89 ((aC bn a0).E x) r := by
  by_cases hc : dh x.1
  case neg => simp only [Fx, if_neg hc] at h; cases h
  simp only [Fx, if_pos hc] at h
  cases h
  exact bb (aj.cons (ai Af) (aj.nil PP)) Tryz.func89 (by kernel_rfl) (by kernel_rfl) (by kernel_rfl) (Nat.le_of_ble_eq_true (by kernel_rfl)) (r1 (cq ay)) true (ml x.1) (asz x.1 hc)
noncomputable abbrev aim : Nat × Bool × (List AV → M AV) := (89, true, da (aC bn a0) Fx)
theorem Yh (l : List Int) (a : Int) (hl : l.length ≤ 281474976710656) : wl PP [] 0 (Tryz.f58.body.getD .skip) (de PP Tryz.f58.results.toList (fun r st => (r1 bo).get true st.h r = some (l.contains a))) (cb 0 [(cq (aw .i64)).val false l, (aw .i64).val false a]) (bp []) := by
  unfold Tryz.f58
  rw [o9]
  simp only [↓wR, RA, simprocAttr, TF, ae]
  refine bm (T := []) (aj.nil PP) mixed Tryz.func95 rfl (by kernel_rfl) (by kernel_rfl) (by kernel_rfl) (by kernel_rfl) ?_; unfold Tryz.f95
  simp only [↓wR, RA, simprocAttr, TF, ae]
  refine c6 [0, 1, 7, 8] (fun (i : Nat) => [.vl false 1 (l.map ((aw .i64).val false)), .sc (.int .i64 (a)), .sc (.int .i64 (l.length)), .sc (.int .i64 (i))]) (fun _ => []) (fun i => i ≤ l.length ∧ l.contains a = (l.drop i).contains a) (fun i => l.length - i) 0 ⟨Nat.zero_le _, rfl⟩ (by simp only [↓wR, RA, simprocAttr, TF, ae] <;> rfl) (by simp only [↓wR, RA, simprocAttr, TF, ae] <;> rfl) ?_
  rintro i ⟨hi, hx⟩
  simp only [↓wR, RA, simprocAttr, TF, ae]
  rw [bf]; refine ⟨fun h => ?_, fun h => ?_⟩
  · obtain ⟨c, hc, hd1, hlt⟩ := di (decide_eq_true h)
    rw [hd1, List.contains_cons] at hx
    simp only [↓wR, RA, simprocAttr, TF, ae, h, hc]; repeat (simp (disch := omega) only [ah, bu, b7, bw, bz]; try simp only [↓wR, RA, simprocAttr, TF, ae, h, hc])
    rw [dc]; refine ⟨fun ⟨h2, e2⟩ => ?_, fun ⟨h2, e2⟩ => ?_⟩
    · subst e2
      rw [beq_self_eq_true, Bool.true_or] at hx
      simp only [↓wR, RA, simprocAttr, TF, ae, h2]
      rw [hx]
    · rw [beq_eq_false_iff_ne.2 e2, Bool.false_or] at hx
      simp only [↓wR, RA, simprocAttr, TF, ae, h2]; repeat (simp (disch := omega) only [ah, bu, b7, bw, bz]; try simp only [↓wR, RA, simprocAttr, TF, ae, h2])
      exact ⟨i + 1, ⟨hlt, hx⟩, by omega, by (first | rfl | trivial | omega | ((try (simp (disch := omega) only [ah])); (try (simp only [FB])); first | done | rfl | omega))⟩
  · rw [du (decide_eq_false h)] at hx
    simp only [↓wR, RA, simprocAttr, TF, ae, h]
    rw [hx] <;> rfl
noncomputable def Gw (x : List Int × Int × Unit) : Option AV := if x.1.length ≤ 281474976710656 then some ((r1 bo).E true (x.1.contains x.2.1)) else none
set_option maxRecDepth 2000000 in
theorem Ay (x : List Int × Int × Unit) (r : AV) (h : Gw x = some r) : bg PP 58 ((aC (cq (aw .i64)) (aC (aw .i64) a0)).E x) r := by
  by_cases hc : x.1.length ≤ 281474976710656
  case neg => simp only [Gw, if_neg hc] at h; cases h
  simp only [Gw, if_pos hc] at h
  cases h
  exact bb (aj.nil PP) Tryz.func58 (by kernel_rfl) (by kernel_rfl) (by kernel_rfl) (Nat.le_of_ble_eq_true (by kernel_rfl)) (r1 bo) true (x.1.contains x.2.1) (Yh x.1 x.2.1 hc)
noncomputable abbrev aac : Nat × Bool × (List AV → M AV) := (58, true, da (aC (cq (aw .i64)) (aC (aw .i64) a0)) Gw)
theorem aby (l : List UInt32) (a : UInt32) (hl : l.length ≤ 281474976710656) : wl PP [] 0 (Tryz.f93.body.getD .skip) (de PP Tryz.f93.results.toList (fun r st => (r1 bo).get true st.h r = some (l.contains a))) (cb 0 [(cq be).val false l, be.val false a]) (bp []) := by
  unfold Tryz.f93
  rw [o9]
  simp only [↓wR, RA, simprocAttr, TF, ae]
  refine bm (T := []) (aj.nil PP) mixed Tryz.func134 rfl (by kernel_rfl) (by kernel_rfl) (by kernel_rfl) (by kernel_rfl) ?_; unfold Tryz.f134
  simp only [↓wR, RA, simprocAttr, TF, ae]
  refine c6 [0, 1, 7, 8] (fun (i : Nat) => [.vl false 1 (l.map (be.val false)), .sc (.int .u32 a.toNat), .sc (.int .i64 (l.length)), .sc (.int .i64 (i))]) (fun _ => []) (fun i => i ≤ l.length ∧ l.contains a = (l.drop i).contains a) (fun i => l.length - i) 0 ⟨Nat.zero_le _, rfl⟩ (by simp only [↓wR, RA, simprocAttr, TF, ae] <;> rfl) (by simp only [↓wR, RA, simprocAttr, TF, ae] <;> rfl) ?_
  rintro i ⟨hi, hx⟩
  simp only [↓wR, RA, simprocAttr, TF, ae]
  rw [bf]; refine ⟨fun h => ?_, fun h => ?_⟩
  · obtain ⟨c, hc, hd1, hlt⟩ := di (decide_eq_true h)
    rw [hd1, List.contains_cons] at hx
    simp only [↓wR, RA, simprocAttr, TF, ae, h, hc]; repeat (simp (disch := omega) only [ah, bu, b7, bw, bz]; try simp only [↓wR, RA, simprocAttr, TF, ae, h, hc])
    rw [dc]; refine ⟨fun ⟨h2, e2⟩ => ?_, fun ⟨h2, e2⟩ => ?_⟩
    · have e3 : a = c := UInt32.toNat_inj.1 (by omega)
      subst e3
      rw [beq_self_eq_true, Bool.true_or] at hx
      simp only [↓wR, RA, simprocAttr, TF, ae, h2]
      rw [hx]
    · have e3 : ¬ a = c := fun q => e2 (by rw [q])
      rw [beq_eq_false_iff_ne.2 e3, Bool.false_or] at hx
      simp only [↓wR, RA, simprocAttr, TF, ae, h2]; repeat (simp (disch := omega) only [ah, bu, b7, bw, bz]; try simp only [↓wR, RA, simprocAttr, TF, ae, h2])
      exact ⟨i + 1, ⟨hlt, hx⟩, by omega, by (first | rfl | trivial | omega | ((try (simp (disch := omega) only [ah])); (try (simp only [FB])); first | done | rfl | omega))⟩
  · rw [du (decide_eq_false h)] at hx
    simp only [↓wR, RA, simprocAttr, TF, ae, h]
    rw [hx] <;> rfl
noncomputable def Rr (x : List UInt32 × UInt32 × Unit) : Option AV := if x.1.length ≤ 281474976710656 then some ((r1 bo).E true (x.1.contains x.2.1)) else none
set_option maxRecDepth 2000000 in
theorem am6 (x : List UInt32 × UInt32 × Unit) (r : AV) (h : Rr x = some r) : bg PP 93 ((aC (cq be) (aC be a0)).E x) r := by
  by_cases hc : x.1.length ≤ 281474976710656
  case neg => simp only [Rr, if_neg hc] at h; cases h
  simp only [Rr, if_pos hc] at h
  cases h
  exact bb (aj.nil PP) Tryz.func93 (by kernel_rfl) (by kernel_rfl) (by kernel_rfl) (Nat.le_of_ble_eq_true (by kernel_rfl)) (r1 bo) true (x.1.contains x.2.1) (aby x.1 x.2.1 hc)
noncomputable abbrev auj : Nat × Bool × (List AV → M AV) := (93, true, da (aC (cq be) (aC be a0)) Rr)
def qk (acc : List UInt32) (d : ct) : List UInt32 := if ((ub d).2 && !acc.contains (ub d).1) = true then acc ++ [(ub d).1] else acc
def wo (w : bc) (acc : List UInt32) (n : Name) : List UInt32 := ((ji w n 1).getD mj).data.foldl qk acc
def gy (w : bc) (z : bh) : List UInt32 := (ml z).foldl (wo w) []
theorem ag3 {α β : Type} {l : List α} {i : Nat} {c : α} (f : β → α → β) (b : β) (h : l.drop i = c :: l.drop (i + 1)) : (l.drop i).foldl f b = (l.drop (i + 1)).foldl f (f b c) := by rw [h]; rfl
theorem Gy {z : bh} (hz : wu z ≤ 5242880) : (ml z).length ≤ 5242880 ∧ ∀ n ∈ ml z, bt n := by
  have hs : n9 ((ib z.ak z.origin 2).getD mj) ≤ 5242880 := by
    cases h : ib z.ak z.origin 2 with
    | none => show n9 mj ≤ 5242880; decide
    | some s =>
      have h1 : n9 s < g9 n9 z.ak := qx (xr h).1
      unfold wu at hz
      show n9 s ≤ 5242880; omega
  have h1 := pw ca (ml z)
  have h2 : g9 ca (ml z) ≤ g9 su _ := La ((ib z.ak z.origin 2).getD mj).data
  unfold n9 at hs
  refine ⟨by omega, fun n hn => ?_⟩
  have h3 : ca n < g9 ca (ml z) := qx hn
  unfold bt; omega
theorem Hi {w : bc} (hw : cy w) (n : Name) (t : UInt16) : n9 ((ji w n t).getD mj) ≤ 5242880 := by
  have h0 : n9 mj ≤ 5242880 := by decide
  cases hz : mb w (qh w n) with
  | none => unfold ji; rw [hz]; exact h0
  | some z =>
    have hv : ji w n t = ib z.ak n t := by unfold ji; rw [hz]
    rw [hv]
    cases h : ib z.ak n t with
    | none => exact h0
    | some s =>
      have hm : z ∈ w.au := by
        unfold mb at hz
        split at hz
        · exact List.mem_of_getElem? hz
        · cases hz
      have h1 : n9 s < g9 n9 z.ak := qx (xr h).1
      have h2 := hw.wt z hm
      unfold wu at h2
      show n9 s ≤ 5242880; omega
end Go.Proofs.YtidomogemfchpaaGreat
end
section
set_option linter.unusedSimpArgs false
set_option linter.unusedVariables false
namespace Go.Proofs.YtidomogemfchpaaGreat
open Go.Vm
set_option maxRecDepth 2000000
set_option maxHeartbeats 4000000 in
theorem aj0 (w : bc) (k : Nat) (z : bh) (hw : cy w) (hz : w.au[k]? = some z) : wl PP [aim, Rm, ari, auj] 0 (Tryz.f55.body.getD .skip) (de PP Tryz.f55.results.toList (fun r st => (r1 (cq be)).get true st.h r = some (gy w z))) (cb 0 [cd.val false w, (aw .i64).val false k]) (bp []) := by
  have hm := List.mem_of_getElem? hz
  have hzs := hw.zone z hm
  obtain ⟨hal, han⟩ := Gy (hw.wt z hm)
  have hq : ∀ a b c d, fv a b c = d → fv a b c = d := fun _ _ _ _ h => h
  unfold Tryz.f55
  simp only [eb]
  simp only [↓wR, RA, simprocAttr, TF, ae, hz, Fx, hzs]
  unfold gy
  obtain ⟨ns, hns⟩ : ∃ ns, ns = ml z := ⟨_, rfl⟩
  rw [← hns] at hal han ⊢
  refine nd [2, 19, 20, 21, 5] (fun (x : Nat × List UInt32) => [.ptr 0 0, .vl true 1 (ns.map (ay.val true)), .sc (.int .i64 (ns.length)), .sc (.int .i64 (x.1)), .sl 1 0 x.2.length 1]) (fun x => [some (.row [.vl false 2 (w.au.map (bn.val false)), .vl false 2 (w.db.map (dj.val false)), .vl false 1 (w.hints.map (be.val false))] 0 2 50), some (.row ((x.2).map (be.val false)) 0 0 37)]) (fun x => (x.1 ≤ ns.length ∧ ns.foldl (wo w) [] = (ns.drop x.1).foldl (wo w) x.2) ∧ (x.2.length : Int) ≤ (x.1 : Int) * 5242880) (fun x => ns.length - x.1) (0, []) ⟨⟨Nat.zero_le _, rfl⟩, by simp only [List.length_nil]; omega⟩ (by simp only [↓wR, RA, simprocAttr, TF, ae]; (refine tr.lax [] (by first | exact Nat.le_of_ble_eq_true rfl | (simp [cp]; omega)) ?_ ?_ <;> repeat' first | exact jb.nil | exact dm.nil | exact jl.same _ | exact jl.nil _ _ _ | exact jl.x8 _ _ | exact dm.refl _ _ | apply jb.cons | apply dm.ghost | apply dm.same | apply dm.row)) ?_
  rintro ⟨i, x⟩ ⟨⟨hi, hx⟩, hb⟩
  simp only at hi hx hb
  simp only [↓wR, RA, simprocAttr, TF, ae]
  rw [bf]; refine ⟨fun h => ?_, fun h => ?_⟩
  · obtain ⟨n, hn, hd1, hlt⟩ := di (decide_eq_true h)
    rw [ag3 _ _ hd1] at hx
    have hnn := han n (List.mem_of_getElem? hn)
    have hts := Hi hw n 1
    simp only [↓wR, RA, simprocAttr, TF, ae, h, hn, T5, Au, hw, hnn]
    obtain ⟨s, hs⟩ : ∃ s, s = (ji w n 1).getD mj := ⟨_, rfl⟩
    have hsrv : wo w x n = s.data.foldl qk x := by unfold wo; rw [← hs]
    rw [← hs] at hts ⊢
    rw [hsrv] at hx
    have hsl : s.data.length ≤ 5242880 := by have := pw su s.data; unfold n9 at hts; omega
    refine nd [2, 19, 20, 21, 32, 33, 34, 5] (fun (y : Nat × List UInt32) => [.ptr 0 0, .vl true 1 (ns.map (ay.val true)), .sc (.int .i64 (ns.length)), .sc (.int .i64 (i)), .vl true 4 (s.data.map (b9.val true)), .sc (.int .i64 (s.data.length)), .sc (.int .i64 (y.1)), .sl 1 0 y.2.length 1]) (fun y => [some (.row [.vl false 2 (w.au.map (bn.val false)), .vl false 2 (w.db.map (dj.val false)), .vl false 1 (w.hints.map (be.val false))] 0 2 50), some (.row ((y.2).map (be.val false)) 0 0 37)]) (fun y => (y.1 ≤ s.data.length ∧ s.data.foldl qk x = (s.data.drop y.1).foldl qk y.2) ∧ (y.2.length : Int) ≤ (i : Int) * 5242880 + (y.1 : Int)) (fun y => s.data.length - y.1) (0, x) ⟨⟨Nat.zero_le _, rfl⟩, by simp only; omega⟩ (by simp only [↓wR, RA, simprocAttr, TF, ae]; (refine tr.lax [] (by first | exact Nat.le_of_ble_eq_true rfl | (simp [cp]; omega)) ?_ ?_ <;> repeat' first | exact jb.nil | exact dm.nil | exact jl.same _ | exact jl.nil _ _ _ | exact jl.x8 _ _ | exact dm.refl _ _ | apply jb.cons | apply dm.ghost | apply dm.same | apply dm.row)) ?_
    rintro ⟨k, y⟩ ⟨⟨hk, hy⟩, hyb⟩
    simp only at hk hy hyb
    simp only [↓wR, RA, simprocAttr, TF, ae]
    rw [bf]; refine ⟨fun h2 => ?_, fun h2 => ?_⟩
    · obtain ⟨d, hd, hd2, hlt2⟩ := di (decide_eq_true h2)
      rw [ag3 _ _ hd2] at hy
      have hyl : y.length ≤ 281474976710656 := by omega
      simp only [↓wR, RA, simprocAttr, TF, ae, h2, hd, Zu]
      rw [bk]; refine ⟨fun h3 => ?_, fun h3 => ?_⟩
      · simp only [↓wR, RA, simprocAttr, TF, ae, h3, Rr, hyl]
        rw [bk]; refine ⟨fun h4 => ?_, fun h4 => ?_⟩
        · have h4' : y.contains (ub d).1 = false := by simpa only [Bool.not_eq_true'] using h4
          have hlim : (y.length + 1) * 4 ≤ 140737488355328 := by omega
          rw [show qk y d = y ++ [(ub d).1] from by unfold qk; rw [h3, h4']; rfl] at hy
          simp only [↓wR, RA, simprocAttr, TF, ae, h4, hlim]; repeat (simp (disch := omega) only [ah, bu, b7, bw, bz]; try simp only [↓wR, RA, simprocAttr, TF, ae, h4, hlim])
          exact ⟨(k + 1, y ++ [(ub d).1]), ⟨⟨hlt2, hy⟩, by simp only [List.length_append, List.length_singleton]; omega⟩, by simp; omega, by (first | rfl | trivial | omega | ((try (simp (disch := omega) only [ah])); (try (simp only [FB])); first | done | rfl | omega)), by (first | rfl | trivial | omega | ((try (simp (disch := omega) only [ah])); (try (simp only [FB])); first | done | rfl | omega))⟩
        · have h4' : y.contains (ub d).1 = true := by simpa only [Bool.not_eq_false'] using h4
          rw [show qk y d = y from by unfold qk; rw [h3, h4']; rfl] at hy
          simp only [↓wR, RA, simprocAttr, TF, ae, h4]; repeat (simp (disch := omega) only [ah, bu, b7, bw, bz]; try simp only [↓wR, RA, simprocAttr, TF, ae, h4])
          exact ⟨(k + 1, y), ⟨⟨hlt2, hy⟩, by simp only; omega⟩, by simp; omega, by (first | rfl | trivial | omega | ((try (simp (disch := omega) only [ah])); (try (simp only [FB])); first | done | rfl | omega)), by (first | rfl | trivial | omega | ((try (simp (disch := omega) only [ah])); (try (simp only [FB])); first | done | rfl | omega))⟩
      · rw [show qk y d = y from by unfold qk; rw [h3]; rfl] at hy
        simp only [↓wR, RA, simprocAttr, TF, ae, h3]; repeat (simp (disch := omega) only [ah, bu, b7, bw, bz]; try simp only [↓wR, RA, simprocAttr, TF, ae, h3])
        exact ⟨(k + 1, y), ⟨⟨hlt2, hy⟩, by simp only; omega⟩, by simp; omega, by (first | rfl | trivial | omega | ((try (simp (disch := omega) only [ah])); (try (simp only [FB])); first | done | rfl | omega)), by (first | rfl | trivial | omega | ((try (simp (disch := omega) only [ah])); (try (simp only [FB])); first | done | rfl | omega))⟩
    · rw [du (decide_eq_false h2), List.foldl_nil] at hy
      rw [hy] at hx
      have hkl : k = s.data.length := by omega
      simp only [↓wR, RA, simprocAttr, TF, ae, h2]; repeat (simp (disch := omega) only [ah, bu, b7, bw, bz]; try simp only [↓wR, RA, simprocAttr, TF, ae, h2])
      exact ⟨(i + 1, y), ⟨⟨hlt, hx⟩, by simp only; omega⟩, by simp; omega, by (first | rfl | trivial | omega | ((try (simp (disch := omega) only [ah])); (try (simp only [FB])); first | done | rfl | omega)), by (first | rfl | trivial | omega | ((try (simp (disch := omega) only [ah])); (try (simp only [FB])); first | done | rfl | omega))⟩
  · rw [du (decide_eq_false h), List.foldl_nil] at hx
    subst hx
    simp only [↓wR, RA, simprocAttr, TF, ae, h]
def sg (w : bc) (i : Int) : List UInt32 := match mb w i with | none => [] | some z => gy w z
theorem ae8 (w : bc) (i : Int) (hw : cy w) (hi : (mb w i).isSome = true) : wl PP [aim, Rm, ari, auj] 0 (Tryz.f55.body.getD .skip) (de PP Tryz.f55.results.toList (fun r st => (r1 (cq be)).get true st.h r = some (sg w i))) (cb 0 [cd.val false w, (aw .i64).val false i]) (bp []) := by
  have h1 : ¬ i < 0 := fun h => by rw [Bs h] at hi; cases hi
  have h2 : ¬ i ≥ (w.au.length : Int) := fun h => by rw [Gs h] at hi; cases hi
  obtain ⟨k, z, rfl, hz⟩ := Ld h1 h2
  have hv : sg w (k : Int) = gy w z := by unfold sg; rw [lr, hz]
  rw [hv]
  exact aj0 w k z hw hz
noncomputable def Lj (x : bc × Int × Unit) : Option AV := if cy x.1 ∧ (mb x.1 x.2.1).isSome = true then some ((r1 (cq be)).E true (sg x.1 x.2.1)) else none
set_option maxRecDepth 2000000 in
theorem Va (x : bc × Int × Unit) (r : AV) (h : Lj x = some r) : bg PP 55 ((aC cd (aC (aw .i64) a0)).E x) r := by
  by_cases hc : cy x.1 ∧ (mb x.1 x.2.1).isSome = true
  case neg => simp only [Lj, if_neg hc] at h; cases h
  simp only [Lj, if_pos hc] at h
  cases h
  exact bb (aj.cons (ai Qs) (aj.cons (ai Bk) (aj.cons (ai ah7) (aj.cons (ai am6) (aj.nil PP))))) Tryz.func55 (by kernel_rfl) (by kernel_rfl) (by kernel_rfl) (Nat.le_of_ble_eq_true (by kernel_rfl)) (r1 (cq be)) true (sg x.1 x.2.1) (ae8 x.1 x.2.1 hc.1 hc.2)
noncomputable abbrev au2 : Nat × Bool × (List AV → M AV) := (55, true, da (aC cd (aC (aw .i64) a0)) Lj)
def mz (w : bc) (a : UInt32) (i : Int) : Bool := w.db.any fun h => decide ((h.addr.toNat : Int) = a.toNat) && h.au.contains i
theorem ama (w : bc) (a : UInt32) (i : Int) (hw : cy w) : wl PP [aac] 0 (Tryz.f22.body.getD .skip) (de PP Tryz.f22.results.toList (fun r st => (r1 bo).get true st.h r = some (mz w a i))) (cb 0 [cd.val false w, be.val false a, (aw .i64).val false i]) (bp []) := by
  have hl := hw.hlen
  unfold Tryz.f22
  simp only [eb]
  simp only [↓wR, RA, simprocAttr, TF, ae]
  refine bm (T := []) (aj.nil PP) mixed Tryz.func56 rfl (by kernel_rfl) (by kernel_rfl) (by kernel_rfl) (by kernel_rfl) ?_; unfold Tryz.f56
  simp only [↓wR, RA, simprocAttr, TF, ae]
  refine bm (T := []) (aj.nil PP) mixed Tryz.func94 rfl (by kernel_rfl) (by kernel_rfl) (by kernel_rfl) (by kernel_rfl) ?_; unfold Tryz.f94
  simp only [↓wR, RA, simprocAttr, TF, ae]
  refine c6 [0, 1, 7, 8] (fun (k : Nat) => [.vl false 2 (w.db.map (dj.val false)), .fn (.func 57) [] [.ptr 1 0, .ptr 2 0], .sc (.int .i64 (w.db.length)), .sc (.int .i64 (k))]) (fun _ => [some (.row [.vl false 2 (w.au.map (bn.val false)), .vl false 2 (w.db.map (dj.val false)), .vl false 1 (w.hints.map (be.val false))] 0 2 50), some (.row [.sc (.int .u32 a.toNat)] 0 2 37), some (.row [.sc (.int .i64 i)] 0 2 3)]) (fun k => k ≤ w.db.length ∧ mz w a i = ((w.db.drop k).any fun h => decide ((h.addr.toNat : Int) = a.toNat) && h.au.contains i)) (fun k => w.db.length - k) 0 ⟨Nat.zero_le _, rfl⟩ (by simp only [↓wR, RA, simprocAttr, TF, ae] <;> rfl) (by simp only [↓wR, RA, simprocAttr, TF, ae] <;> rfl) ?_
  rintro k ⟨hk, hx⟩
  simp only [↓wR, RA, simprocAttr, TF, ae]
  rw [bf]; refine ⟨fun h3 => ?_, fun h3 => ?_⟩
  · obtain ⟨c, hc, hd1, hlt⟩ := di (decide_eq_true h3)
    rw [hd1, List.any_cons] at hx
    have hcz : c.au.length ≤ 281474976710656 := by have := hw.host c (List.mem_of_getElem? hc); omega
    simp only [↓wR, RA, simprocAttr, TF, ae, h3, hc]; repeat (simp (disch := omega) only [ah, bu, b7, bw, bz]; try simp only [↓wR, RA, simprocAttr, TF, ae, h3, hc])
    refine bm (T := [aac]) (aj.cons (ai Ay) (aj.nil PP)) mixed Tryz.func57 rfl (by kernel_rfl) (by kernel_rfl) (by kernel_rfl) (by kernel_rfl) ?_; unfold Tryz.f57
    simp only [↓wR, RA, simprocAttr, TF, ae]
    rw [dc]; refine ⟨fun ⟨h4, e4⟩ => ?_, fun ⟨h4, e4⟩ => ?_⟩
    · rw [decide_eq_true e4, Bool.true_and] at hx
      simp only [↓wR, RA, simprocAttr, TF, ae, h4, Gw, hcz]
      rw [bk]; refine ⟨fun h5 => ?_, fun h5 => ?_⟩
      · rw [h5, Bool.true_or] at hx
        simp only [↓wR, RA, simprocAttr, TF, ae, h5]
        rw [hx]
      · rw [h5, Bool.false_or] at hx
        simp only [↓wR, RA, simprocAttr, TF, ae, h5]; repeat (simp (disch := omega) only [ah, bu, b7, bw, bz]; try simp only [↓wR, RA, simprocAttr, TF, ae, h5])
        exact ⟨k + 1, ⟨hlt, hx⟩, by omega, by (first | rfl | trivial | omega | ((try (simp (disch := omega) only [ah])); (try (simp only [FB])); first | done | rfl | omega))⟩
    · rw [decide_eq_false e4, Bool.false_and, Bool.false_or] at hx
      simp only [↓wR, RA, simprocAttr, TF, ae, h4]; repeat (simp (disch := omega) only [ah, bu, b7, bw, bz]; try simp only [↓wR, RA, simprocAttr, TF, ae, h4])
      exact ⟨k + 1, ⟨hlt, hx⟩, by omega, by (first | rfl | trivial | omega | ((try (simp (disch := omega) only [ah])); (try (simp only [FB])); first | done | rfl | omega))⟩
  · rw [du (decide_eq_false h3), List.any_nil] at hx
    simp only [↓wR, RA, simprocAttr, TF, ae, h3]
    rw [hx] <;> rfl
noncomputable def ug (x : bc × UInt32 × Int × Unit) : Option AV := if cy x.1 then some ((r1 bo).E true (mz x.1 x.2.1 x.2.2.1)) else none
set_option maxRecDepth 2000000 in
theorem Cj (x : bc × UInt32 × Int × Unit) (r : AV) (h : ug x = some r) : bg PP 22 ((aC cd (aC be (aC (aw .i64) a0))).E x) r := by
  by_cases hc : cy x.1
  case neg => simp only [ug, if_neg hc] at h; cases h
  simp only [ug, if_pos hc] at h
  cases h
  exact bb (aj.cons (ai Ay) (aj.nil PP)) Tryz.func22 (by kernel_rfl) (by kernel_rfl) (by kernel_rfl) (Nat.le_of_ble_eq_true (by kernel_rfl)) (r1 bo) true (mz x.1 x.2.1 x.2.2.1) (ama x.1 x.2.1 x.2.2.1 hc)
noncomputable abbrev Lq : Nat × Bool × (List AV → M AV) := (22, true, da (aC cd (aC be (aC (aw .i64) a0))) ug)
end Go.Proofs.YtidomogemfchpaaGreat
end
section
set_option linter.unusedSimpArgs false
set_option linter.unusedVariables false
namespace Go.Proofs.YtidomogemfchpaaGreat
open Go.Vm
set_option maxRecDepth 2000000
def ze (w : bc) (i : Int) : List UInt32 × Int := match mb w i with | none => ([], 9) | some z => (gy w z, 0)
theorem adq (w : bc) (i : Int) (hw : cy w) : wl PP [au2] 0 (Tryz.f21.body.getD .skip) (de PP Tryz.f21.results.toList (fun r st => (r2 (cq be) (aw .i64)).get true st.h r = some (ze w i))) (cb 0 [cd.val false w, (aw .i64).val false i]) (bp []) := by
  unfold Tryz.f21
  simp only [eb]
  unfold ze
  simp only [↓wR, RA, simprocAttr, TF, ae]
  rw [bf]; refine ⟨fun h => ?_, fun h => ?_⟩
  · rw [Bs h]
    simp only [↓wR, RA, simprocAttr, TF, ae, h]
  simp only [↓wR, RA, simprocAttr, TF, ae, h]
  rw [bf]; refine ⟨fun h2 => ?_, fun h2 => ?_⟩
  · rw [Gs h2]
    simp only [↓wR, RA, simprocAttr, TF, ae, h2]
  obtain ⟨k, z, rfl, hz⟩ := Ld h h2
  have hv : sg w (k : Int) = gy w z := by unfold sg; rw [lr, hz]
  have hs : (mb w (k : Int)).isSome = true := by rw [lr, hz]; rfl
  simp only [↓wR, RA, simprocAttr, TF, ae, h2, Lj, hw, hs, hv]
  rw [lr, hz]
noncomputable def Ag (x : bc × Int × Unit) : Option AV := if cy x.1 then some ((r2 (cq be) (aw .i64)).E true (ze x.1 x.2.1)) else none
set_option maxRecDepth 2000000 in
theorem Xq (x : bc × Int × Unit) (r : AV) (h : Ag x = some r) : bg PP 21 ((aC cd (aC (aw .i64) a0)).E x) r := by
  by_cases hc : cy x.1
  case neg => simp only [Ag, if_neg hc] at h; cases h
  simp only [Ag, if_pos hc] at h
  cases h
  exact bb (aj.cons (ai Va) (aj.nil PP)) Tryz.func21 (by kernel_rfl) (by kernel_rfl) (by kernel_rfl) (Nat.le_of_ble_eq_true (by kernel_rfl)) (r2 (cq be) (aw .i64)) true (ze x.1 x.2.1) (adq x.1 x.2.1 hc)
noncomputable abbrev abn : Nat × Bool × (List AV → M AV) := (21, true, da (aC cd (aC (aw .i64) a0)) Ag)
end Go.Proofs.YtidomogemfchpaaGreat
end
section
set_option linter.unusedSimpArgs false
set_option linter.unusedVariables false
namespace Go.Proofs.YtidomogemfchpaaGreat
open Go.Vm
set_option maxRecDepth 2000000
def Ej (w : bc) : Int := if (w.au.length : Int) > 32 ∨ (w.db.length : Int) > 64 then 3 else 0
theorem as6 (w : bc) : wl PP [] 0 (Tryz.f40.body.getD .skip) (de PP Tryz.f40.results.toList (fun r st => (r1 (aw .i64)).get true st.h r = some (Ej w))) (cb 0 [cd.val false w]) (bp []) := by
  unfold Tryz.f40
  simp only [eb]
  unfold Ej
  simp only [↓wR, RA, simprocAttr, TF, ae]
  rw [bf]; refine ⟨fun h => ?_, fun h => ?_⟩
  · rw [if_pos (.inl h)]
    simp only [↓wR, RA, simprocAttr, TF, ae, h]
  by_cases h2 : (w.db.length : Int) > 64
  · rw [if_pos (.inr h2)]
    simp only [↓wR, RA, simprocAttr, TF, ae, h, h2]
  · rw [if_neg (fun q => q.elim h h2)]
    simp only [↓wR, RA, simprocAttr, TF, ae, h, h2]
noncomputable def Zw (x : bc × Unit) : Option AV := some ((r1 (aw .i64)).E true (Ej x.1))
set_option maxRecDepth 2000000 in
theorem aid (x : bc × Unit) (r : AV) (h : Zw x = some r) : bg PP 40 ((aC cd a0).E x) r := by
  cases h
  exact bb (aj.nil PP) Tryz.func40 (by kernel_rfl) (by kernel_rfl) (by kernel_rfl) (Nat.le_of_ble_eq_true (by kernel_rfl)) (r1 (aw .i64)) true (Ej x.1) (as6 x.1)
noncomputable abbrev av4 : Nat × Bool × (List AV → M AV) := (40, true, da (aC cd a0) Zw)
def uy (l : List bh) (n : Name) : Bool := l.any fun x => gx x.origin n
def Bl : List bh → Bool → List bh → Int
  | _, b, [] => if b = true then 0 else 300
  | pre, b, z :: r => if uy pre z.origin = true then 300 else Bl (pre ++ [z]) (b || decide ((z.origin.length : Int) = 0)) r
def Bi (w : bc) : Int := Bl [] false w.au
theorem aqd {l : List bh} {i : Nat} {c : bh} (b : Bool) (hc : l[i]? = some c) : Bl (l.take i) b (l.drop i) = if uy (l.take i) c.origin = true then 300 else Bl (l.take (i + 1)) (b || decide ((c.origin.length : Int) = 0)) (l.drop (i + 1)) := by
  obtain ⟨hi, rfl⟩ := List.getElem?_eq_some_iff.1 hc
  rw [List.drop_eq_getElem_cons hi, Bl, List.take_succ_eq_append_getElem hi]
theorem Od {l : List bh} {i : Nat} {c : bh} (n : Name) (h : l.drop i = c :: l.drop (i + 1)) : uy (l.drop i) n = (gx c.origin n || uy (l.drop (i + 1)) n) := by rw [h]; rfl
theorem ap7 (l : List bh) (n : Name) (ss : List br) (hl : l.length ≤ 16777216) (hz : ∀ z ∈ l, bt z.origin) (hn : bt n) : pf PP 80 [.vl false 2 (l.map (bn.val false)), .fn (.func 81) [] [.ptr 0 0]] (bp [some (.row [.vl false 1 (n.map (an.val false)), .vl false 5 (ss.map (ar.val false))] 0 2 26)]) (fun r st' => r = .sc (.bool (uy l n)) ∧ st' = bp [some (.row [.vl false 1 (n.map (an.val false)), .vl false 5 (ss.map (ar.val false))] 0 2 26)]) := by
  refine dv _ rfl ?_ (fun r st' h => h)
  refine bm (T := []) (aj.nil PP) mixed Tryz.func80 rfl (by kernel_rfl) (by kernel_rfl) (by kernel_rfl) (by kernel_rfl) ?_; unfold Tryz.f80
  simp only [↓wR, RA, simprocAttr, TF, ae]
  refine bm (T := []) (aj.nil PP) mixed Tryz.func119 rfl (by kernel_rfl) (by kernel_rfl) (by kernel_rfl) (by kernel_rfl) ?_; unfold Tryz.f119
  simp only [↓wR, RA, simprocAttr, TF, ae]
  refine c6 [0, 1, 7, 8] (fun (k : Nat) => [.vl false 2 (l.map (bn.val false)), .fn (.func 81) [] [.ptr 0 0], .sc (.int .i64 (l.length)), .sc (.int .i64 (k))]) (fun _ => [some (.row [.vl false 1 (n.map (an.val false)), .vl false 5 (ss.map (ar.val false))] 0 2 26)]) (fun k => k ≤ l.length ∧ uy l n = uy (l.drop k) n) (fun k => l.length - k) 0 ⟨Nat.zero_le _, rfl⟩ (by simp only [↓wR, RA, simprocAttr, TF, ae] <;> rfl) (by simp only [↓wR, RA, simprocAttr, TF, ae] <;> rfl) ?_
  rintro k ⟨hk, hx⟩
  simp only [↓wR, RA, simprocAttr, TF, ae]
  rw [bf]; refine ⟨fun h3 => ?_, fun h3 => ?_⟩
  · obtain ⟨q, hq, hd2, hlt2⟩ := di (decide_eq_true h3)
    rw [Od n hd2] at hx
    have hqo := hz q (List.mem_of_getElem? hq)
    simp only [↓wR, RA, simprocAttr, TF, ae, h3, hq]; repeat (simp (disch := omega) only [ah, bu, b7, bw, bz]; try simp only [↓wR, RA, simprocAttr, TF, ae, h3, hq])
    refine bm (T := [dx]) (aj.cons (ai i7) (aj.nil PP)) mixed Tryz.func81 rfl (by kernel_rfl) (by kernel_rfl) (by kernel_rfl) (by kernel_rfl) ?_; unfold Tryz.f81
    simp only [↓wR, RA, simprocAttr, TF, ae, iy, hqo, hn]
    rw [bk]; refine ⟨fun h5 => ?_, fun h5 => ?_⟩
    · rw [h5, Bool.true_or] at hx
      simp only [↓wR, RA, simprocAttr, TF, ae, h5, g5, gk, gh, hx]
    · rw [h5, Bool.false_or] at hx
      simp only [↓wR, RA, simprocAttr, TF, ae, h5]; repeat (simp (disch := omega) only [ah, bu, b7, bw, bz]; try simp only [↓wR, RA, simprocAttr, TF, ae, h5])
      exact ⟨k + 1, ⟨hlt2, hx⟩, by omega, by (first | rfl | trivial | omega | ((try (simp (disch := omega) only [ah])); (try (simp only [FB])); first | done | rfl | omega))⟩
  · rw [du (decide_eq_false h3)] at hx
    have hx' : uy l n = false := hx
    simp only [↓wR, RA, simprocAttr, TF, ae, h3, g5, gk, gh, hx']
theorem ai1 (l : List bh) (n : Name) (hl : l.length ≤ 16777216) (hz : ∀ z ∈ l, bt z.origin) (hn : bt n) : pf PP 80 [.vl false 2 (l.map (bn.val false)), .fn (.func 85) [] [.ptr 0 0]] (bp [some (.row [ay.val true n] 0 2 23)]) (fun r st' => r = .sc (.bool (uy l n)) ∧ st' = bp [some (.row [ay.val true n] 0 2 23)]) := by
  refine dv _ rfl ?_ (fun r st' h => h)
  refine bm (T := []) (aj.nil PP) mixed Tryz.func80 rfl (by kernel_rfl) (by kernel_rfl) (by kernel_rfl) (by kernel_rfl) ?_; unfold Tryz.f80
  simp only [↓wR, RA, simprocAttr, TF, ae]
  refine bm (T := []) (aj.nil PP) mixed Tryz.func119 rfl (by kernel_rfl) (by kernel_rfl) (by kernel_rfl) (by kernel_rfl) ?_; unfold Tryz.f119
  simp only [↓wR, RA, simprocAttr, TF, ae]
  refine c6 [0, 1, 7, 8] (fun (k : Nat) => [.vl false 2 (l.map (bn.val false)), .fn (.func 85) [] [.ptr 0 0], .sc (.int .i64 (l.length)), .sc (.int .i64 (k))]) (fun _ => [some (.row [ay.val true n] 0 2 23)]) (fun k => k ≤ l.length ∧ uy l n = uy (l.drop k) n) (fun k => l.length - k) 0 ⟨Nat.zero_le _, rfl⟩ (by simp only [↓wR, RA, simprocAttr, TF, ae] <;> rfl) (by simp only [↓wR, RA, simprocAttr, TF, ae] <;> rfl) ?_
  rintro k ⟨hk, hx⟩
  simp only [↓wR, RA, simprocAttr, TF, ae]
  rw [bf]; refine ⟨fun h3 => ?_, fun h3 => ?_⟩
  · obtain ⟨q, hq, hd2, hlt2⟩ := di (decide_eq_true h3)
    rw [Od n hd2] at hx
    have hqo := hz q (List.mem_of_getElem? hq)
    simp only [↓wR, RA, simprocAttr, TF, ae, h3, hq]; repeat (simp (disch := omega) only [ah, bu, b7, bw, bz]; try simp only [↓wR, RA, simprocAttr, TF, ae, h3, hq])
    refine bm (T := [dx]) (aj.cons (ai i7) (aj.nil PP)) mixed Tryz.func85 rfl (by kernel_rfl) (by kernel_rfl) (by kernel_rfl) (by kernel_rfl) ?_; unfold Tryz.f85
    simp only [↓wR, RA, simprocAttr, TF, ae, iy, hqo, hn]
    rw [bk]; refine ⟨fun h5 => ?_, fun h5 => ?_⟩
    · rw [h5, Bool.true_or] at hx
      simp only [↓wR, RA, simprocAttr, TF, ae, h5, g5, gk, gh, hx]
    · rw [h5, Bool.false_or] at hx
      simp only [↓wR, RA, simprocAttr, TF, ae, h5]; repeat (simp (disch := omega) only [ah, bu, b7, bw, bz]; try simp only [↓wR, RA, simprocAttr, TF, ae, h5])
      exact ⟨k + 1, ⟨hlt2, hx⟩, by omega, by (first | rfl | trivial | omega | ((try (simp (disch := omega) only [ah])); (try (simp only [FB])); first | done | rfl | omega))⟩
  · rw [du (decide_eq_false h3)] at hx
    have hx' : uy l n = false := hx
    simp only [↓wR, RA, simprocAttr, TF, ae, h3, g5, gk, gh, hx']
set_option maxHeartbeats 4000000 in
theorem asx (w : bc) (hw : cy w) : wl PP [dx] 0 (Tryz.f41.body.getD .skip) (de PP Tryz.f41.results.toList (fun r st => (r1 (aw .i64)).get true st.h r = some (Bi w))) (cb 0 [cd.val false w]) (bp []) := by
  have hl := hw.Dd
  unfold Tryz.f41
  simp only [eb]
  simp only [↓wR, RA, simprocAttr, TF, ae]
  refine c6 [1, 3, 8, 9, 10] (fun (x : Nat × Bool) => [.ptr 0 0, .sc (.bool x.2), .vl false 2 (w.au.map (bn.val false)), .sc (.int .i64 (w.au.length)), .sc (.int .i64 (x.1))]) (fun _ => [some (.row [.vl false 2 (w.au.map (bn.val false)), .vl false 2 (w.db.map (dj.val false)), .vl false 1 (w.hints.map (be.val false))] 0 2 100)]) (fun x => x.1 ≤ w.au.length ∧ Bi w = Bl (w.au.take x.1) x.2 (w.au.drop x.1)) (fun x => w.au.length - x.1) (0, false) ⟨Nat.zero_le _, rfl⟩ (by simp only [↓wR, RA, simprocAttr, TF, ae] <;> rfl) (by simp only [↓wR, RA, simprocAttr, TF, ae] <;> rfl) ?_
  rintro ⟨i, b⟩ ⟨hi, hx⟩
  simp only at hi hx
  simp only [↓wR, RA, simprocAttr, TF, ae]
  rw [bf]; refine ⟨fun h => ?_, fun h => ?_⟩
  · obtain ⟨c, hc, hd1, hlt⟩ := di (decide_eq_true h)
    rw [aqd b hc] at hx
    have hcs := (hw.zone c (List.mem_of_getElem? hc)).origin
    obtain ⟨b', hb'⟩ : ∃ b', b' = (b || decide ((c.origin.length : Int) = 0)) := ⟨_, rfl⟩
    rw [← hb'] at hx
    have hdec : ((c.origin.length : Int) == 0) = decide ((c.origin.length : Int) = 0) := by rw [Bool.eq_iff_iff]; simp
    have hwt : ∀ z ∈ w.au.take i, bt z.origin := fun z hz => (hw.zone z (List.mem_of_mem_take hz)).origin
    simp only [↓wR, RA, simprocAttr, TF, ae, h, hc]
    have htl : (w.au.take i).length ≤ 16777216 := by rw [List.length_take]; omega
    cases b <;> simp only [↓wR, RA, simprocAttr, TF, ae, hi, hdec]
    all_goals
      refine P3 [1] (ap7 (w.au.take i) c.origin c.ak htl hwt hcs) (by decide) (by simp only [↓wR, RA, simprocAttr, TF, ae]) (by simp only [↓wR, RA, simprocAttr, TF, ae]) (Nat.le_of_ble_eq_true rfl) (by simp only [↓wR, RA, simprocAttr, TF, ae]) (by simp only [↓wR, RA, simprocAttr, TF, ae]) ⟨Nat.le_of_ble_eq_true rfl, Nat.le_of_ble_eq_true rfl⟩ ?_
      simp only [↓wR, RA, simprocAttr, TF, ae, gi, sn, Az, rm, Kf]
      rw [bk]; refine ⟨fun h2 => ?_, fun h2 => ?_⟩
      · rw [if_pos h2] at hx
        simp only [↓wR, RA, simprocAttr, TF, ae, h2]
        rw [hx]
      · rw [if_neg (by rw [h2]; decide)] at hx
        simp only [↓wR, RA, simprocAttr, TF, ae, h2]; repeat (simp (disch := omega) only [ah, bu, b7, bw, bz]; try simp only [↓wR, RA, simprocAttr, TF, ae, h2])
        exact ⟨(i + 1, b'), ⟨hlt, hx⟩, by simp; omega, by rw [hb']; (first | rfl | trivial | omega | ((try (simp (disch := omega) only [ah])); (try (simp only [FB])); first | done | rfl | omega))⟩
  · rw [du (decide_eq_false h)] at hx
    simp only [↓wR, RA, simprocAttr, TF, ae, h]
    rw [hx]
    rw [bk]; refine ⟨fun h2 => ?_, fun h2 => ?_⟩
    · have hb : b = false := by simpa using h2
      simp only [↓wR, RA, simprocAttr, TF, ae, h2]
      rw [hb] <;> rfl
    · have hb : b = true := by simpa using h2
      simp only [↓wR, RA, simprocAttr, TF, ae, h2]
      rw [hb] <;> rfl
noncomputable def Jt (x : bc × Unit) : Option AV := if cy x.1 then some ((r1 (aw .i64)).E true (Bi x.1)) else none
set_option maxRecDepth 2000000 in
theorem ai3 (x : bc × Unit) (r : AV) (h : Jt x = some r) : bg PP 41 ((aC cd a0).E x) r := by
  by_cases hc : cy x.1
  case neg => simp only [Jt, if_neg hc] at h; cases h
  simp only [Jt, if_pos hc] at h
  cases h
  exact bb (aj.cons (ai i7) (aj.nil PP)) Tryz.func41 (by kernel_rfl) (by kernel_rfl) (by kernel_rfl) (Nat.le_of_ble_eq_true (by kernel_rfl)) (r1 (aw .i64)) true (Bi x.1) (asx x.1 hc)
noncomputable abbrev av0 : Nat × Bool × (List AV → M AV) := (41, true, da (aC cd a0) Jt)
end Go.Proofs.YtidomogemfchpaaGreat
end
section
set_option linter.unusedSimpArgs false
set_option linter.unusedVariables false
namespace Go.Proofs.YtidomogemfchpaaGreat
open Go.Vm
set_option maxRecDepth 2000000
def qy (f : bh → Int) : List bh → Int
  | [] => 0
  | z :: r => if f z ≠ 0 then f z else qy f r
theorem Kq {l : List bh} {i : Nat} {c : bh} (f : bh → Int) (h : l.drop i = c :: l.drop (i + 1)) : qy f (l.drop i) = if f c ≠ 0 then f c else qy f (l.drop (i + 1)) := by rw [h]; rfl
noncomputable def s6 (w : bc) : Int := qy k9 w.au
theorem aoo (w : bc) (hw : cy w) : wl PP [auf] 0 (Tryz.f42.body.getD .skip) (de PP Tryz.f42.results.toList (fun r st => (r1 (aw .i64)).get true st.h r = some (s6 w))) (cb 0 [cd.val false w]) (bp []) := by
  have hl := hw.Dd
  unfold Tryz.f42
  simp only [eb]
  simp only [↓wR, RA, simprocAttr, TF, ae]
  refine c6 [8, 9, 10] (fun (i : Nat) => [.vl false 2 (w.au.map (bn.val false)), .sc (.int .i64 (w.au.length)), .sc (.int .i64 (i))]) (fun _ => []) (fun i => i ≤ w.au.length ∧ s6 w = qy k9 (w.au.drop i)) (fun i => w.au.length - i) 0 ⟨Nat.zero_le _, rfl⟩ (by simp only [↓wR, RA, simprocAttr, TF, ae] <;> rfl) (by simp only [↓wR, RA, simprocAttr, TF, ae] <;> rfl) ?_
  rintro i ⟨hi, hx⟩
  simp only [↓wR, RA, simprocAttr, TF, ae]
  rw [bf]; refine ⟨fun h => ?_, fun h => ?_⟩
  · obtain ⟨c, hc, hd1, hlt⟩ := di (decide_eq_true h)
    rw [Kq _ hd1] at hx
    simp only [↓wR, RA, simprocAttr, TF, ae, h, hc, F2, hw.zone c (List.mem_of_getElem? hc)]
    rw [bk]; refine ⟨fun h1 => ?_, fun h1 => ?_⟩
    · have he : k9 c ≠ 0 := by simpa using h1
      rw [if_pos he] at hx
      simp only [↓wR, RA, simprocAttr, TF, ae, h1]
      rw [hx]
    · have he : k9 c = 0 := by simpa using h1
      rw [if_neg (by omega)] at hx
      simp only [↓wR, RA, simprocAttr, TF, ae, h1]; repeat (simp (disch := omega) only [ah, bu, b7, bw, bz]; try simp only [↓wR, RA, simprocAttr, TF, ae, h1])
      exact ⟨i + 1, ⟨hlt, hx⟩, by omega, by (first | rfl | trivial | omega | ((try (simp (disch := omega) only [ah])); (try (simp only [FB])); first | done | rfl | omega))⟩
  · rw [du (decide_eq_false h)] at hx
    simp only [↓wR, RA, simprocAttr, TF, ae, h]
    rw [hx] <;> rfl
noncomputable def Fm (x : bc × Unit) : Option AV := if cy x.1 then some ((r1 (aw .i64)).E true (s6 x.1)) else none
set_option maxRecDepth 2000000 in
theorem aet (x : bc × Unit) (r : AV) (h : Fm x = some r) : bg PP 42 ((aC cd a0).E x) r := by
  by_cases hc : cy x.1
  case neg => simp only [Fm, if_neg hc] at h; cases h
  simp only [Fm, if_pos hc] at h
  cases h
  exact bb (aj.cons (ai aev) (aj.nil PP)) Tryz.func42 (by kernel_rfl) (by kernel_rfl) (by kernel_rfl) (Nat.le_of_ble_eq_true (by kernel_rfl)) (r1 (aw .i64)) true (s6 x.1) (aoo x.1 hc)
noncomputable abbrev atz : Nat × Bool × (List AV → M AV) := (42, true, da (aC cd a0) Fm)
def Gj (w : bc) (i : Int) : Bool := w.db.any fun h => h.au.contains i
noncomputable def Gm (w : bc) : Nat → Nat → Int
  | 0, _ => 0
  | k + 1, i => if Gj w (i : Int) = true then Gm w k (i + 1) else 302
noncomputable def wq (w : bc) : Int := Gm w w.au.length 0
theorem als (w : bc) (hw : cy w) : wl PP [aac] 0 (Tryz.f44.body.getD .skip) (de PP Tryz.f44.results.toList (fun r st => (r1 (aw .i64)).get true st.h r = some (wq w))) (cb 0 [cd.val false w]) (bp []) := by
  have hl := hw.Dd
  have hhl := hw.hlen
  unfold Tryz.f44
  simp only [eb]
  simp only [↓wR, RA, simprocAttr, TF, ae]
  refine c6 [1, 7, 8] (fun (i : Nat) => [.ptr 0 0, .sc (.int .i64 (w.au.length)), .sc (.int .i64 (i))]) (fun _ => [some (.row [.vl false 2 (w.au.map (bn.val false)), .vl false 2 (w.db.map (dj.val false)), .vl false 1 (w.hints.map (be.val false))] 0 2 100)]) (fun i => i ≤ w.au.length ∧ wq w = Gm w (w.au.length - i) i) (fun i => w.au.length - i) 0 ⟨Nat.zero_le _, rfl⟩ (by simp only [↓wR, RA, simprocAttr, TF, ae] <;> rfl) (by simp only [↓wR, RA, simprocAttr, TF, ae] <;> rfl) ?_
  rintro i ⟨hi, hx⟩
  simp only [↓wR, RA, simprocAttr, TF, ae]
  rw [bf]; refine ⟨fun h => ?_, fun h => ?_⟩
  · obtain ⟨m, hm⟩ : ∃ m, w.au.length - i = m + 1 := ⟨w.au.length - i - 1, by omega⟩
    have hm' : w.au.length - (i + 1) = m := by omega
    rw [hm, Gm] at hx
    simp only [↓wR, RA, simprocAttr, TF, ae, h]
    refine dv (fun r st' => r = .sc (.bool (Gj w i)) ∧ st' = bp [some (.row [.vl false 2 (w.au.map (bn.val false)), .vl false 2 (w.db.map (dj.val false)), .vl false 1 (w.hints.map (be.val false))] 0 2 100), some (.row [.sc (.int .i64 i)] 0 2 3)]) rfl ?_ ?_
    · refine bm (T := []) (aj.nil PP) mixed Tryz.func56 rfl (by kernel_rfl) (by kernel_rfl) (by kernel_rfl) (by kernel_rfl) ?_; unfold Tryz.f56
      simp only [↓wR, RA, simprocAttr, TF, ae]
      refine bm (T := []) (aj.nil PP) mixed Tryz.func94 rfl (by kernel_rfl) (by kernel_rfl) (by kernel_rfl) (by kernel_rfl) ?_; unfold Tryz.f94
      simp only [↓wR, RA, simprocAttr, TF, ae]
      refine c6 [0, 1, 7, 8] (fun (k : Nat) => [.vl false 2 (w.db.map (dj.val false)), .fn (.func 83) [] [.ptr 1 0], .sc (.int .i64 (w.db.length)), .sc (.int .i64 (k))]) (fun _ => [some (.row [.vl false 2 (w.au.map (bn.val false)), .vl false 2 (w.db.map (dj.val false)), .vl false 1 (w.hints.map (be.val false))] 0 2 100), some (.row [.sc (.int .i64 i)] 0 2 3)]) (fun k => k ≤ w.db.length ∧ Gj w i = ((w.db.drop k).any fun h => h.au.contains i)) (fun k => w.db.length - k) 0 ⟨Nat.zero_le _, rfl⟩ (by simp only [↓wR, RA, simprocAttr, TF, ae] <;> rfl) (by simp only [↓wR, RA, simprocAttr, TF, ae] <;> rfl) ?_
      rintro k ⟨hk, hy⟩
      simp only [↓wR, RA, simprocAttr, TF, ae]
      rw [bf]; refine ⟨fun h3 => ?_, fun h3 => ?_⟩
      · obtain ⟨c, hc, hd1, hlt⟩ := di (decide_eq_true h3)
        rw [hd1, List.any_cons] at hy
        have hcz : c.au.length ≤ 281474976710656 := by have := hw.host c (List.mem_of_getElem? hc); omega
        simp only [↓wR, RA, simprocAttr, TF, ae, h3, hc]; repeat (simp (disch := omega) only [ah, bu, b7, bw, bz]; try simp only [↓wR, RA, simprocAttr, TF, ae, h3, hc])
        refine bm (T := [aac]) (aj.cons (ai Ay) (aj.nil PP)) mixed Tryz.func83 rfl (by kernel_rfl) (by kernel_rfl) (by kernel_rfl) (by kernel_rfl) ?_; unfold Tryz.f83
        simp only [↓wR, RA, simprocAttr, TF, ae, Gw, hcz]
        rw [bk]; refine ⟨fun h5 => ?_, fun h5 => ?_⟩
        · rw [h5, Bool.true_or] at hy
          simp only [↓wR, RA, simprocAttr, TF, ae, h5, g5, gk, gh, hy]
        · rw [h5, Bool.false_or] at hy
          simp only [↓wR, RA, simprocAttr, TF, ae, h5]; repeat (simp (disch := omega) only [ah, bu, b7, bw, bz]; try simp only [↓wR, RA, simprocAttr, TF, ae, h5])
          exact ⟨k + 1, ⟨hlt, hy⟩, by omega, by (first | rfl | trivial | omega | ((try (simp (disch := omega) only [ah])); (try (simp only [FB])); first | done | rfl | omega))⟩
      · rw [du (decide_eq_false h3), List.any_nil] at hy
        simp only [↓wR, RA, simprocAttr, TF, ae, h3, g5, gk, gh, hy]
    rintro _ _ ⟨rfl, rfl⟩
    simp only [↓wR, RA, simprocAttr, TF, ae, gi]
    rw [bk]; refine ⟨fun h4 => ?_, fun h4 => ?_⟩
    · have h4' : Gj w i = false := by simpa only [Bool.not_eq_true'] using h4
      rw [h4', if_neg (by decide)] at hx
      simp only [↓wR, RA, simprocAttr, TF, ae, h4]
      rw [hx]
    · have h4' : Gj w i = true := by simpa only [Bool.not_eq_false'] using h4
      rw [if_pos h4'] at hx
      simp only [↓wR, RA, simprocAttr, TF, ae, h4]; repeat (simp (disch := omega) only [ah, bu, b7, bw, bz]; try simp only [↓wR, RA, simprocAttr, TF, ae, h4])
      exact ⟨i + 1, ⟨by omega, by rw [hm']; exact hx⟩, by omega, by (first | rfl | trivial | omega | ((try (simp (disch := omega) only [ah])); (try (simp only [FB])); first | done | rfl | omega))⟩
  · rw [show w.au.length - i = 0 by omega, Gm] at hx
    simp only [↓wR, RA, simprocAttr, TF, ae, h]
    rw [hx] <;> rfl
noncomputable def Cf (x : bc × Unit) : Option AV := if cy x.1 then some ((r1 (aw .i64)).E true (wq x.1)) else none
set_option maxRecDepth 2000000 in
theorem acu (x : bc × Unit) (r : AV) (h : Cf x = some r) : bg PP 44 ((aC cd a0).E x) r := by
  by_cases hc : cy x.1
  case neg => simp only [Cf, if_neg hc] at h; cases h
  simp only [Cf, if_pos hc] at h
  cases h
  exact bb (aj.cons (ai Ay) (aj.nil PP)) Tryz.func44 (by kernel_rfl) (by kernel_rfl) (by kernel_rfl) (Nat.le_of_ble_eq_true (by kernel_rfl)) (r1 (aw .i64)) true (wq x.1) (als x.1 hc)
noncomputable abbrev ati : Nat × Bool × (List AV → M AV) := (44, true, da (aC cd a0) Cf)
def He (z : bh) (s : br) : Bool := decide ((s.type.toNat : Int) = 2) && Cc s.owner z.origin
def qn (z : bh) : List Name := (z.ak.filter (He z)).map fun s => s.owner
theorem aog (z : bh) (hz : dh z) : wl PP [aki, yw] 0 (Tryz.f84.body.getD .skip) (de PP Tryz.f84.results.toList (fun r st => (r1 (cq ay)).get true st.h r = some (qn z))) (cb 0 [bn.val false z]) (bp []) := by
  have hl := hz.len
  have hq : ∀ a b c d, fv a b c = d → fv a b c = d := fun _ _ _ _ h => h
  unfold Tryz.f84
  simp only [m5]
  simp only [↓wR, RA, simprocAttr, TF, ae]
  refine bm (T := []) (aj.nil PP) mixed Tryz.func127 rfl (by kernel_rfl) (by kernel_rfl) (by kernel_rfl) (by kernel_rfl) ?_; unfold Tryz.f127
  simp only [↓wR, RA, simprocAttr, TF, ae]
  refine ⟨[1, 3, 6], ?_⟩
  have hib : sb PP 154 = some (Tryz.f154.ntmps, Tryz.f154.body.getD .skip) := by kernel_rfl
  simp only [↓wR, RA, simprocAttr, TF, ae, hib]
  refine ⟨by kernel_rfl, fun l => ?_⟩
  unfold Tryz.f154
  simp only [↓wR, RA, simprocAttr, TF, ae]
  refine Ro [0, 2, 7, 8, 9] (fun (x : Nat × List Name) => [.sc (.func (.yield l) #[] #[]), .ptr 3 0, .vl false 5 (z.ak.map (ar.val false)), .sc (.int .i64 (z.ak.length)), .sc (.int .i64 (x.1))]) (fun x => [some (.row [.vl false 1 (z.origin.map (an.val false)), .vl false 5 (z.ak.map (ar.val false))] 0 2 26), some (.row [.sl 4 0 x.2.length 1] 0 2 76), some (.row [.vl false 1 (z.origin.map (an.val false)), .vl false 5 (z.ak.map (ar.val false))] 0 2 26), some (.row [.sc (.int .u16 2)] 0 2 28), some (.row (x.2.map (ay.val true)) 0 0 23)]) (fun x => (x.1 ≤ z.ak.length ∧ x.2 ++ ((z.ak.drop x.1).filter (He z)).map (fun s => s.owner) = qn z) ∧ x.2.length ≤ x.1) (fun x => z.ak.length - x.1) (0, []) ⟨⟨Nat.zero_le _, rfl⟩, Nat.zero_le _⟩ (by simp only [↓wR, RA, simprocAttr, TF, ae]; (refine tr.lax [] (by first | exact Nat.le_of_ble_eq_true rfl | (simp [cp]; omega)) ?_ ?_ <;> repeat' first | exact jb.nil | exact dm.nil | exact jl.same _ | exact jl.nil _ _ _ | exact jl.x8 _ _ | exact dm.refl _ _ | apply jb.cons | apply dm.ghost | apply dm.same | apply dm.row)) ?_
  rintro ⟨i, x⟩ ⟨⟨hi, hx⟩, hl2⟩
  simp only at hi hx hl2
  simp only [↓wR, RA, simprocAttr, TF, ae]
  rw [qs]; refine ⟨fun h => ?_, fun h => ?_⟩
  · obtain ⟨c, hc, hd1, hlt⟩ := di h
    have hcs := hz.set c (List.mem_of_getElem? hc)
    rw [ak6 hd1] at hx
    simp only [↓wR, RA, simprocAttr, TF, ae, h, hc]
    rw [qs]; refine ⟨fun h2 => ?_, fun h2 => ?_⟩
    · have e2 : (c.type.toNat : Int) = 2 := by simpa using h2
      simp only [↓wR, RA, simprocAttr, TF, ae, h2]
      refine vh [0, 2, 7, 8, 9, 17, 19] ?_
      simp only [↓wR, RA, simprocAttr, TF, ae, vn, ln, B2, hcs.owner, hz.origin]
      rw [bk]; refine ⟨fun h3 => ?_, fun h3 => ?_⟩
      · have hp : He z c = true := by unfold He; rw [decide_eq_true e2, h3]; rfl
        rw [if_pos hp] at hx
        have hlim : (x.length + 1) * 24 ≤ 140737488355328 := by omega
        simp only [↓wR, RA, simprocAttr, TF, ae, h3]
        refine ⟨by kernel_rfl, .inl ?_⟩
        simp only [↓wR, RA, simprocAttr, TF, ae, ng, hcs.owner, hlim]; repeat (simp (disch := omega) only [ah, bu, b7, bw, bz]; try simp only [↓wR, RA, simprocAttr, TF, ae, ng, hcs.owner, hlim])
        exact ⟨by apply hq; kernel_rfl, (i + 1, x ++ [c.owner]), ⟨⟨hlt, by simpa using hx⟩, by simp; omega⟩, by simp; omega, by (first | rfl | trivial | omega | ((try (simp (disch := omega) only [ah])); (try (simp only [FB])); first | done | rfl | omega)), by (first | rfl | trivial | omega | ((try (simp (disch := omega) only [ah])); (try (simp only [FB])); first | done | rfl | omega))⟩
      · have hp : He z c = false := by unfold He; rw [h3, Bool.and_false]
        rw [hp, if_neg (by decide), List.nil_append] at hx
        simp only [↓wR, RA, simprocAttr, TF, ae, h3]; repeat (simp (disch := omega) only [ah, bu, b7, bw, bz]; try simp only [↓wR, RA, simprocAttr, TF, ae, h3])
        exact ⟨(i + 1, x), ⟨⟨hlt, hx⟩, by simp only; omega⟩, by simp; omega, by (first | rfl | trivial | omega | ((try (simp (disch := omega) only [ah])); (try (simp only [FB])); first | done | rfl | omega)), by (first | rfl | trivial | omega | ((try (simp (disch := omega) only [ah])); (try (simp only [FB])); first | done | rfl | omega))⟩
    · have e2 : ¬ (c.type.toNat : Int) = 2 := by simpa using h2
      have hp : He z c = false := by unfold He; rw [decide_eq_false e2]; rfl
      rw [hp, if_neg (by decide), List.nil_append] at hx
      simp only [↓wR, RA, simprocAttr, TF, ae, h2]; repeat (simp (disch := omega) only [ah, bu, b7, bw, bz]; try simp only [↓wR, RA, simprocAttr, TF, ae, h2])
      exact ⟨(i + 1, x), ⟨⟨hlt, hx⟩, by simp only; omega⟩, by simp; omega, by (first | rfl | trivial | omega | ((try (simp (disch := omega) only [ah])); (try (simp only [FB])); first | done | rfl | omega)), by (first | rfl | trivial | omega | ((try (simp (disch := omega) only [ah])); (try (simp only [FB])); first | done | rfl | omega))⟩
  · rw [du h, List.filter_nil, List.map_nil, List.append_nil] at hx
    subst hx
    simp only [↓wR, RA, simprocAttr, TF, ae, h]
noncomputable def Jd (x : bh × Unit) : Option AV := if dh x.1 then some ((r1 (cq ay)).E true (qn x.1)) else none
set_option maxRecDepth 2000000 in
theorem ahq (x : bh × Unit) (r : AV) (h : Jd x = some r) : bg PP 84 ((aC bn a0).E x) r := by
  by_cases hc : dh x.1
  case neg => simp only [Jd, if_neg hc] at h; cases h
  simp only [Jd, if_pos hc] at h
  cases h
  exact bb (aj.cons (ai M5) (aj.cons (ai pr) (aj.nil PP))) Tryz.func84 (by kernel_rfl) (by kernel_rfl) (by kernel_rfl) (Nat.le_of_ble_eq_true (by kernel_rfl)) (r1 (cq ay)) true (qn x.1) (aog x.1 hc)
noncomputable abbrev avs : Nat × Bool × (List AV → M AV) := (84, true, da (aC bn a0) Jd)
theorem ajo {z : bh} (hz : dh z) : (qn z).length ≤ 16777216 ∧ ∀ n ∈ qn z, bt n := by
  refine ⟨?_, fun n hn => ?_⟩
  · have h1 := ahu (l := z.ak) (He z)
    have h2 := hz.len
    unfold qn; rw [List.length_map]; omega
  · obtain ⟨s, hs, rfl⟩ := List.mem_map.1 hn
    exact (hz.set s (List.mem_filter.1 hs).1).owner
noncomputable def z3 (w : bc) : List Name → Int
  | [] => 0
  | n :: r => if uy w.au n = true then z3 w r else 303
noncomputable def Br (w : bc) : Int := qy (fun z => z3 w (qn z)) w.au
theorem aon {w : bc} {l : List Name} {i : Nat} {c : Name} (h : l.drop i = c :: l.drop (i + 1)) : z3 w (l.drop i) = if uy w.au c = true then z3 w (l.drop (i + 1)) else 303 := by rw [h]; rfl
theorem ar3 (w : bc) (hw : cy w) : wl PP [avs, dx] 0 (Tryz.f45.body.getD .skip) (de PP Tryz.f45.results.toList (fun r st => (r1 (aw .i64)).get true st.h r = some (Br w))) (cb 0 [cd.val false w]) (bp []) := by
  have hl := hw.Dd
  have hzo : ∀ z ∈ w.au, bt z.origin := fun z hz => (hw.zone z hz).origin
  unfold Tryz.f45
  simp only [eb]
  simp only [↓wR, RA, simprocAttr, TF, ae]
  refine c6 [1, 9, 10, 11] (fun (i : Nat) => [.ptr 0 0, .vl false 2 (w.au.map (bn.val false)), .sc (.int .i64 (w.au.length)), .sc (.int .i64 (i))]) (fun _ => [some (.row [.vl false 2 (w.au.map (bn.val false)), .vl false 2 (w.db.map (dj.val false)), .vl false 1 (w.hints.map (be.val false))] 0 2 100)]) (fun i => i ≤ w.au.length ∧ Br w = qy (fun z => z3 w (qn z)) (w.au.drop i)) (fun i => w.au.length - i) 0 ⟨Nat.zero_le _, rfl⟩ (by simp only [↓wR, RA, simprocAttr, TF, ae] <;> rfl) (by simp only [↓wR, RA, simprocAttr, TF, ae] <;> rfl) ?_
  rintro i ⟨hi, hx⟩
  simp only [↓wR, RA, simprocAttr, TF, ae]
  rw [bf]; refine ⟨fun h => ?_, fun h => ?_⟩
  · obtain ⟨c, hc, hd1, hlt⟩ := di (decide_eq_true h)
    rw [Kq _ hd1] at hx
    have hcz := hw.zone c (List.mem_of_getElem? hc)
    obtain ⟨hnl, hns⟩ := ajo hcz
    simp only [↓wR, RA, simprocAttr, TF, ae, h, hc, Jd, hcz]
    refine c6 [1, 9, 10, 11, 16, 17, 18] (fun (k : Nat) => [.ptr 0 0, .vl false 2 (w.au.map (bn.val false)), .sc (.int .i64 (w.au.length)), .sc (.int .i64 (i)), .vl true 1 ((qn c).map (ay.val true)), .sc (.int .i64 ((qn c).length)), .sc (.int .i64 (k))]) (fun _ => [some (.row [.vl false 2 (w.au.map (bn.val false)), .vl false 2 (w.db.map (dj.val false)), .vl false 1 (w.hints.map (be.val false))] 0 2 100)]) (fun k => k ≤ (qn c).length ∧ z3 w (qn c) = z3 w ((qn c).drop k)) (fun k => (qn c).length - k) 0 ⟨Nat.zero_le _, rfl⟩ (by simp only [↓wR, RA, simprocAttr, TF, ae] <;> rfl) (by simp only [↓wR, RA, simprocAttr, TF, ae] <;> rfl) ?_
    rintro k ⟨hk, hy⟩
    simp only [↓wR, RA, simprocAttr, TF, ae]
    rw [bf]; refine ⟨fun h2 => ?_, fun h2 => ?_⟩
    · obtain ⟨n, hn, hd2, hlt2⟩ := di (decide_eq_true h2)
      rw [aon hd2] at hy
      simp only [↓wR, RA, simprocAttr, TF, ae, h2, hn]
      refine P3 [1] (ai1 w.au n hl hzo (hns n (List.mem_of_getElem? hn))) (by decide) (by simp only [↓wR, RA, simprocAttr, TF, ae]) (by simp only [↓wR, RA, simprocAttr, TF, ae]) (Nat.le_of_ble_eq_true rfl) (by simp only [↓wR, RA, simprocAttr, TF, ae]) (by simp only [↓wR, RA, simprocAttr, TF, ae]) ⟨Nat.le_of_ble_eq_true rfl, Nat.le_of_ble_eq_true rfl⟩ ?_
      simp only [↓wR, RA, simprocAttr, TF, ae, gi, sn, Az, rm, Kf]
      rw [bk]; refine ⟨fun h3 => ?_, fun h3 => ?_⟩
      · have h3' : uy w.au n = false := by simpa only [Bool.not_eq_true'] using h3
        rw [h3', if_neg (by decide)] at hy
        rw [hy, if_pos (by decide)] at hx
        simp only [↓wR, RA, simprocAttr, TF, ae, h3]
        rw [hx]
      · have h3' : uy w.au n = true := by simpa only [Bool.not_eq_false'] using h3
        rw [if_pos h3'] at hy
        simp only [↓wR, RA, simprocAttr, TF, ae, h3]; repeat (simp (disch := omega) only [ah, bu, b7, bw, bz]; try simp only [↓wR, RA, simprocAttr, TF, ae, h3])
        exact ⟨k + 1, ⟨hlt2, hy⟩, by omega, by (first | rfl | trivial | omega | ((try (simp (disch := omega) only [ah])); (try (simp only [FB])); first | done | rfl | omega))⟩
    · rw [du (decide_eq_false h2), z3] at hy
      rw [hy, if_neg (by decide)] at hx
      simp only [↓wR, RA, simprocAttr, TF, ae, h2]; repeat (simp (disch := omega) only [ah, bu, b7, bw, bz]; try simp only [↓wR, RA, simprocAttr, TF, ae, h2])
      exact ⟨i + 1, ⟨hlt, hx⟩, by omega, by (first | rfl | trivial | omega | ((try (simp (disch := omega) only [ah])); (try (simp only [FB])); first | done | rfl | omega))⟩
  · rw [du (decide_eq_false h)] at hx
    simp only [↓wR, RA, simprocAttr, TF, ae, h]
    rw [hx] <;> rfl
noncomputable def It (x : bc × Unit) : Option AV := if cy x.1 then some ((r1 (aw .i64)).E true (Br x.1)) else none
set_option maxRecDepth 2000000 in
theorem ah4 (x : bc × Unit) (r : AV) (h : It x = some r) : bg PP 45 ((aC cd a0).E x) r := by
  by_cases hc : cy x.1
  case neg => simp only [It, if_neg hc] at h; cases h
  simp only [It, if_pos hc] at h
  cases h
  exact bb (aj.cons (ai ahq) (aj.cons (ai i7) (aj.nil PP))) Tryz.func45 (by kernel_rfl) (by kernel_rfl) (by kernel_rfl) (Nat.le_of_ble_eq_true (by kernel_rfl)) (r1 (aw .i64)) true (Br x.1) (ar3 x.1 hc)
noncomputable abbrev av9 : Nat × Bool × (List AV → M AV) := (45, true, da (aC cd a0) It)
noncomputable def parentOf (w : bc) (z : bh) (p : Int) : Int :=
  match mb w p with
  | none => 304
  | some y => if (ib y.ak z.origin 2).isSome = true then (if s5 ((ib z.ak z.origin 2).getD mj) ((ib y.ak z.origin 2).getD mj) = true then 0 else 304) else 304
noncomputable def qi (w : bc) : List bh → Nat → Int
  | [], _ => 0
  | z :: r, i => if (z.origin.length : Int) = 0 then qi w r (i + 1) else if parentOf w z (o8 w (i : Int)).1 ≠ 0 then 304 else qi w r (i + 1)
noncomputable def r9 (w : bc) : Int := qi w w.au 0
theorem aeo {w : bc} {l : List bh} {i : Nat} {c : bh} (k : Nat) (h : l.drop i = c :: l.drop (i + 1)) : qi w (l.drop i) k = if (c.origin.length : Int) = 0 then qi w (l.drop (i + 1)) (k + 1) else if parentOf w c (o8 w (k : Int)).1 ≠ 0 then 304 else qi w (l.drop (i + 1)) (k + 1) := by rw [h]; rfl
theorem adv {w : bc} {i : Int} (hw : w.au ≠ []) : ∃ (k : Nat) (y : bh), (o8 w i).1 = (k : Int) ∧ w.au[k]? = some y := by
  have h0 : ∃ (k : Nat) (y : bh), (0 : Int) = (k : Int) ∧ w.au[k]? = some y := by
    cases hz : w.au with
    | nil => exact (hw hz).elim
    | cons y l => exact ⟨0, y, rfl, rfl⟩
  unfold o8
  split
  · exact h0
  · split
    · exact h0
    · split
      · exact h0
      · rename_i h
        obtain ⟨k, y, h1, h2, _⟩ := amz h
        exact ⟨k, y, h1, h2⟩
set_option maxHeartbeats 4000000 in
theorem ah8 (w : bc) (hw : cy w) : wl PP [Uo, P2, akj] 0 (Tryz.f46.body.getD .skip) (de PP Tryz.f46.results.toList (fun r st => (r1 (aw .i64)).get true st.h r = some (r9 w))) (cb 0 [cd.val false w]) (bp []) := by
  have hl := hw.Dd
  have hq : ∀ a b c d, fv a b c = d → fv a b c = d := fun _ _ _ _ h => h
  unfold Tryz.f46
  simp only [eb]
  simp only [↓wR, RA, simprocAttr, TF, ae]
  refine c6 [1, 13, 14, 15] (fun (i : Nat) => [.ptr 0 0, .vl false 2 (w.au.map (bn.val false)), .sc (.int .i64 (w.au.length)), .sc (.int .i64 (i))]) (fun _ => [some (.row [.vl false 2 (w.au.map (bn.val false)), .vl false 2 (w.db.map (dj.val false)), .vl false 1 (w.hints.map (be.val false))] 0 2 100)]) (fun i => i ≤ w.au.length ∧ r9 w = qi w (w.au.drop i) i) (fun i => w.au.length - i) 0 ⟨Nat.zero_le _, rfl⟩ (by simp only [↓wR, RA, simprocAttr, TF, ae] <;> rfl) (by simp only [↓wR, RA, simprocAttr, TF, ae] <;> rfl) ?_
  rintro i ⟨hi, hx⟩
  simp only [↓wR, RA, simprocAttr, TF, ae]
  rw [bf]; refine ⟨fun h => ?_, fun h => ?_⟩
  · obtain ⟨c, hc, hd1, hlt⟩ := di (decide_eq_true h)
    rw [aeo i hd1] at hx
    have hcz := hw.zone c (List.mem_of_getElem? hc)
    obtain ⟨k, y, hk, hy⟩ := adv (i := (i : Int)) (fun q => by rw [q] at hc; simp at hc)
    have hyz := hw.zone y (List.mem_of_getElem? hy)
    have hs1 := E3 hcz c.origin 2
    have hs2 := E3 hyz c.origin 2
    simp only [↓wR, RA, simprocAttr, TF, ae, h, hc]
    rw [dc]; refine ⟨fun ⟨h1, e1⟩ => ?_, fun ⟨h1, e1⟩ => ?_⟩
    · rw [if_pos e1] at hx
      simp only [↓wR, RA, simprocAttr, TF, ae, h1]; repeat (simp (disch := omega) only [ah, bu, b7, bw, bz]; try simp only [↓wR, RA, simprocAttr, TF, ae, h1])
      exact ⟨i + 1, ⟨hlt, hx⟩, by omega, by (first | rfl | trivial | omega | ((try (simp (disch := omega) only [ah])); (try (simp only [FB])); first | done | rfl | omega))⟩
    rw [if_neg e1] at hx
    rcases hpe : o8 w (i : Int) with ⟨p, e⟩
    rw [hpe] at hk hx
    simp only at hk hx
    subst hk
    have hpo : parentOf w c (k : Int) = if (ib y.ak c.origin 2).isSome = true then (if s5 ((ib c.ak c.origin 2).getD mj) ((ib y.ak c.origin 2).getD mj) = true then 0 else 304) else 304 := by unfold parentOf; rw [lr, hy]
    rw [hpo] at hx
    simp only [↓wR, RA, simprocAttr, TF, ae, h1, yu, hw, hpe, T5, u5, hcz.mid, hcz.origin]
    obtain ⟨s1, hd1⟩ : ∃ s, s = (ib c.ak c.origin 2).getD mj := ⟨_, rfl⟩
    obtain ⟨s2, hd2⟩ : ∃ s, s = (ib y.ak c.origin 2).getD mj := ⟨_, rfl⟩
    obtain ⟨b, hb⟩ : ∃ b, b = (ib y.ak c.origin 2).isSome := ⟨_, rfl⟩
    rw [← hd1, ← hd2, ← hb] at hx
    rw [← hd1] at hs1
    rw [← hd2] at hs2
    rw [← hd1]
    refine ⟨by kernel_rfl, .inl ?_⟩
    simp only [↓wR, RA, simprocAttr, TF, ae, hy, T5, u5, hyz.mid, hcz.origin, ← hd2, ← hb]
    refine ⟨by apply hq; kernel_rfl, ?_⟩
    cases b with
    | false =>
      rw [if_neg (show ¬ (false = true) by decide), if_pos (by decide)] at hx
      simp only [↓wR, RA, simprocAttr, TF, ae]
      rw [hx]
    | true =>
      rw [if_pos rfl] at hx
      simp only [↓wR, RA, simprocAttr, TF, ae, B5, hs1, hs2]
      rw [bk]; refine ⟨fun h3 => ?_, fun h3 => ?_⟩
      · have h3' : s5 s1 s2 = false := by simpa only [Bool.not_eq_true'] using h3
        rw [h3', if_neg (show ¬ (false = true) by decide), if_pos (by decide)] at hx
        simp only [↓wR, RA, simprocAttr, TF, ae, h3]
        rw [hx]
      · have h3' : s5 s1 s2 = true := by simpa only [Bool.not_eq_false'] using h3
        rw [if_pos h3', if_neg (by decide)] at hx
        simp only [↓wR, RA, simprocAttr, TF, ae, h3]; repeat (simp (disch := omega) only [ah, bu, b7, bw, bz]; try simp only [↓wR, RA, simprocAttr, TF, ae, h3])
        exact ⟨i + 1, ⟨hlt, hx⟩, by omega, by (first | rfl | trivial | omega | ((try (simp (disch := omega) only [ah])); (try (simp only [FB])); first | done | rfl | omega))⟩
  · rw [du (decide_eq_false h)] at hx
    simp only [↓wR, RA, simprocAttr, TF, ae, h]
    rw [hx] <;> rfl
noncomputable def Ao (x : bc × Unit) : Option AV := if cy x.1 then some ((r1 (aw .i64)).E true (r9 x.1)) else none
set_option maxRecDepth 2000000 in
theorem Xg (x : bc × Unit) (r : AV) (h : Ao x = some r) : bg PP 46 ((aC cd a0).E x) r := by
  by_cases hc : cy x.1
  case neg => simp only [Ao, if_neg hc] at h; cases h
  simp only [Ao, if_pos hc] at h
  cases h
  exact bb (aj.cons (ai Kx) (aj.cons (ai Af) (aj.cons (ai Mx) (aj.nil PP)))) Tryz.func46 (by kernel_rfl) (by kernel_rfl) (by kernel_rfl) (Nat.le_of_ble_eq_true (by kernel_rfl)) (r1 (aw .i64)) true (r9 x.1) (ah8 x.1 hc)
noncomputable abbrev ao5 : Nat × Bool × (List AV → M AV) := (46, true, da (aC cd a0) Ao)
end Go.Proofs.YtidomogemfchpaaGreat
end
section
set_option linter.unusedSimpArgs false
set_option linter.unusedVariables false
namespace Go.Proofs.YtidomogemfchpaaGreat
open Go.Vm
set_option maxRecDepth 2000000
def Lk (w : bc) (z : bh) (cut : br) (d : ct) : Bool :=
  match d.names with
  | [] => false
  | n :: _ => (ji w n 1).isSome && (!(ib z.ak n 1).isSome && dp n cut.owner)
def F5 (w : bc) (z : bh) (cut : br) : Bool := cut.data.any (Lk w z cut)
set_option maxHeartbeats 4000000 in
theorem ak9 (w : bc) (z : bh) (s : br) (hw : cy w) (hz : dh z) (hs : dg s) (hn : ∀ d ∈ s.data, d.names ≠ []) : wl PP [Rm, P2, px] 0 (Tryz.f87.body.getD .skip) (de PP Tryz.f87.results.toList (fun r st => (r1 bo).get true st.h r = some (F5 w z s))) (cb 0 [cd.val false w, bn.val false z, ar.val false s]) (bp []) := by
  have hl := hs.data.len
  unfold Tryz.f87
  simp only [eb, m5, jf]
  simp only [↓wR, RA, simprocAttr, TF, ae]
  refine c6 [3, 4, 5, 15, 16, 17] (fun (i : Nat) => [.ptr 0 0, .ptr 1 0, .ptr 2 0, .vl false 4 (s.data.map (b9.val false)), .sc (.int .i64 (s.data.length)), .sc (.int .i64 (i))]) (fun _ => [some (.row [.vl false 2 (w.au.map (bn.val false)), .vl false 2 (w.db.map (dj.val false)), .vl false 1 (w.hints.map (be.val false))] 0 2 100), some (.row [.vl false 1 (z.origin.map (an.val false)), .vl false 5 (z.ak.map (ar.val false))] 0 2 26), some (.row [.vl false 1 (s.owner.map (an.val false)), .sc (.int .u16 s.type.toNat), .sc (.int .u16 s.cls.toNat), .sc (.int .u32 s.tt.toNat), .vl false 4 (s.data.map (b9.val false))] 0 2 40)]) (fun i => i ≤ s.data.length ∧ F5 w z s = (s.data.drop i).any (Lk w z s)) (fun i => s.data.length - i) 0 ⟨Nat.zero_le _, rfl⟩ (by simp only [↓wR, RA, simprocAttr, TF, ae] <;> rfl) (by simp only [↓wR, RA, simprocAttr, TF, ae] <;> rfl) ?_
  rintro i ⟨hi, hx⟩
  simp only [↓wR, RA, simprocAttr, TF, ae]
  rw [bf]; refine ⟨fun h => ?_, fun h => ?_⟩
  · obtain ⟨d, hd, hd1, hlt⟩ := di (decide_eq_true h)
    rw [hd1, List.any_cons] at hx
    have hdm := List.mem_of_getElem? hd
    obtain ⟨n, r, hnr⟩ : ∃ n r, d.names = n :: r := by
      cases q : d.names with
      | nil => exact (hn d hdm q).elim
      | cons n r => exact ⟨n, r, rfl⟩
    have hn0 : d.names[0]? = some n := by rw [hnr]; rfl
    have hns : bt n := (hs.data.mem d hdm).name n (by rw [hnr]; simp)
    have hp : Lk w z s d = ((ji w n 1).isSome && (!(ib z.ak n 1).isSome && dp n s.owner)) := by unfold Lk; rw [hnr]
    rw [hp] at hx
    have u1 : ∀ fr h, c9.fj fr h (.sc (.int .u16 1)) = some 1 := aix
    simp only [↓wR, RA, simprocAttr, TF, ae, h, hd, hn0, T5, Au, hw, hns, u5, hz.mid]
    rw [bk]; refine ⟨fun h1 => ?_, fun h1 => ?_⟩
    · rw [h1, Bool.true_and] at hx
      simp only [↓wR, RA, simprocAttr, TF, ae, h1]
      rw [bk]; refine ⟨fun h2 => ?_, fun h2 => ?_⟩
      · rw [h2, Bool.true_and] at hx
        simp only [↓wR, RA, simprocAttr, TF, ae, h2, g7, hns, hs.owner]
        rw [bk]; refine ⟨fun h3 => ?_, fun h3 => ?_⟩
        · rw [h3, Bool.true_or] at hx
          simp only [↓wR, RA, simprocAttr, TF, ae, h3]
          rw [hx]
        · rw [h3, Bool.false_or] at hx
          simp only [↓wR, RA, simprocAttr, TF, ae, h3]; repeat (simp (disch := omega) only [ah, bu, b7, bw, bz]; try simp only [↓wR, RA, simprocAttr, TF, ae, h3])
          exact ⟨i + 1, ⟨hlt, hx⟩, by omega, by (first | rfl | trivial | omega | ((try (simp (disch := omega) only [ah])); (try (simp only [FB])); first | done | rfl | omega))⟩
      · rw [h2, Bool.false_and, Bool.false_or] at hx
        simp only [↓wR, RA, simprocAttr, TF, ae, h2]; repeat (simp (disch := omega) only [ah, bu, b7, bw, bz]; try simp only [↓wR, RA, simprocAttr, TF, ae, h2])
        exact ⟨i + 1, ⟨hlt, hx⟩, by omega, by (first | rfl | trivial | omega | ((try (simp (disch := omega) only [ah])); (try (simp only [FB])); first | done | rfl | omega))⟩
    · rw [h1, Bool.false_and, Bool.false_or] at hx
      simp only [↓wR, RA, simprocAttr, TF, ae, h1]; repeat (simp (disch := omega) only [ah, bu, b7, bw, bz]; try simp only [↓wR, RA, simprocAttr, TF, ae, h1])
      exact ⟨i + 1, ⟨hlt, hx⟩, by omega, by (first | rfl | trivial | omega | ((try (simp (disch := omega) only [ah])); (try (simp only [FB])); first | done | rfl | omega))⟩
  · rw [du (decide_eq_false h), List.any_nil] at hx
    simp only [↓wR, RA, simprocAttr, TF, ae, h]
    rw [hx] <;> rfl
def K6 (s : br) : Prop := ∀ d ∈ s.data, d.names ≠ []
instance (s : br) : Decidable (K6 s) := inferInstanceAs (Decidable (∀ d ∈ s.data, d.names ≠ []))
noncomputable def Cm (x : bc × bh × br × Unit) : Option AV := if (cy x.1 ∧ dh x.2.1) ∧ (dg x.2.2.1 ∧ K6 x.2.2.1) then some ((r1 bo).E true (F5 x.1 x.2.1 x.2.2.1)) else none
set_option maxRecDepth 2000000 in
theorem ac8 (x : bc × bh × br × Unit) (r : AV) (h : Cm x = some r) : bg PP 87 ((aC cd (aC bn (aC ar a0))).E x) r := by
  by_cases hc : (cy x.1 ∧ dh x.2.1) ∧ (dg x.2.2.1 ∧ K6 x.2.2.1)
  case neg => simp only [Cm, if_neg hc] at h; cases h
  simp only [Cm, if_pos hc] at h
  cases h
  exact bb (aj.cons (ai Bk) (aj.cons (ai Af) (aj.cons (ai my) (aj.nil PP)))) Tryz.func87 (by kernel_rfl) (by kernel_rfl) (by kernel_rfl) (Nat.le_of_ble_eq_true (by kernel_rfl)) (r1 bo) true (F5 x.1 x.2.1 x.2.2.1) (ak9 x.1 x.2.1 x.2.2.1 hc.1.1 hc.1.2 hc.2.1 hc.2.2)
noncomputable abbrev asw : Nat × Bool × (List AV → M AV) := (87, true, da (aC cd (aC bn (aC ar a0))) Cm)
noncomputable def yj (w : bc) (z : bh) (s : br) : Int :=
  if (u3 z s.owner).isSome = false then 0
  else if (s.type.toNat : Int) = 2 then (if F5 w z s = true then 305 else 0)
  else match ji w s.owner s.type with
    | none => 305
    | some t => if s5 s t = true then 0 else 305
noncomputable def ym (w : bc) (z : bh) : List br → Int
  | [] => 0
  | s :: r => if yj w z s ≠ 0 then yj w z s else ym w z r
noncomputable def Ab (w : bc) : Int := qy (fun z => ym w z z.ak) w.au
theorem aoi {w : bc} {z : bh} {l : List br} {i : Nat} {c : br} (h : l.drop i = c :: l.drop (i + 1)) : ym w z (l.drop i) = if yj w z c ≠ 0 then yj w z c else ym w z (l.drop (i + 1)) := by rw [h]; rfl
def B6 (w : bc) : Prop := ∀ z ∈ w.au, ∀ s ∈ z.ak, (s.type.toNat : Int) = 2 → K6 s
set_option maxHeartbeats 4000000 in
theorem asf (w : bc) (hw : cy w) (hn : B6 w) : wl PP [auv, asw, Rm, akj] 0 (Tryz.f47.body.getD .skip) (de PP Tryz.f47.results.toList (fun r st => (r1 (aw .i64)).get true st.h r = some (Ab w))) (cb 0 [cd.val false w]) (bp []) := by
  have hl := hw.Dd
  unfold Tryz.f47
  simp only [eb]
  simp only [↓wR, RA, simprocAttr, TF, ae]
  refine c6 [1, 13, 14, 15] (fun (i : Nat) => [.ptr 0 0, .vl false 2 (w.au.map (bn.val false)), .sc (.int .i64 (w.au.length)), .sc (.int .i64 (i))]) (fun _ => [some (.row [.vl false 2 (w.au.map (bn.val false)), .vl false 2 (w.db.map (dj.val false)), .vl false 1 (w.hints.map (be.val false))] 0 2 100)]) (fun i => i ≤ w.au.length ∧ Ab w = qy (fun z => ym w z z.ak) (w.au.drop i)) (fun i => w.au.length - i) 0 ⟨Nat.zero_le _, rfl⟩ (by simp only [↓wR, RA, simprocAttr, TF, ae] <;> rfl) (by simp only [↓wR, RA, simprocAttr, TF, ae] <;> rfl) ?_
  rintro i ⟨hi, hx⟩
  simp only [↓wR, RA, simprocAttr, TF, ae]
  rw [bf]; refine ⟨fun h => ?_, fun h => ?_⟩
  · obtain ⟨z, hz, hd1, hlt⟩ := di (decide_eq_true h)
    rw [Kq _ hd1] at hx
    have hzm := List.mem_of_getElem? hz
    have hzs := hw.zone z hzm
    have hzl := hzs.len
    simp only [↓wR, RA, simprocAttr, TF, ae, h, hz]
    refine c6 [1, 4, 13, 14, 15, 20, 21, 22] (fun (k : Nat) => [.ptr 0 0, .ptr 1 0, .vl false 2 (w.au.map (bn.val false)), .sc (.int .i64 (w.au.length)), .sc (.int .i64 (i)), .vl false 5 (z.ak.map (ar.val false)), .sc (.int .i64 (z.ak.length)), .sc (.int .i64 (k))]) (fun _ => [some (.row [.vl false 2 (w.au.map (bn.val false)), .vl false 2 (w.db.map (dj.val false)), .vl false 1 (w.hints.map (be.val false))] 0 2 100), some (.row [.vl false 1 (z.origin.map (an.val false)), .vl false 5 (z.ak.map (ar.val false))] 0 2 26)]) (fun k => k ≤ z.ak.length ∧ ym w z z.ak = ym w z (z.ak.drop k)) (fun k => z.ak.length - k) 0 ⟨Nat.zero_le _, rfl⟩ (by simp only [↓wR, RA, simprocAttr, TF, ae] <;> rfl) (by simp only [↓wR, RA, simprocAttr, TF, ae] <;> rfl) ?_
    rintro k ⟨hk, hy⟩
    simp only [↓wR, RA, simprocAttr, TF, ae]
    rw [bf]; refine ⟨fun h2 => ?_, fun h2 => ?_⟩
    · obtain ⟨s, hs, hd2, hlt2⟩ := di (decide_eq_true h2)
      rw [aoi hd2] at hy
      have hsm := List.mem_of_getElem? hs
      have hss := hzs.set s hsm
      have go0 : yj w z s = 0 → ym w z z.ak = ym w z (z.ak.drop (k + 1)) := fun q => by rw [hy, if_neg (fun e => e q)]
      have go5 : yj w z s = 305 → Ab w = 305 := fun q => by rw [q, if_pos (by decide)] at hy; rw [hx, hy, if_pos (by decide)]
      simp only [↓wR, RA, simprocAttr, TF, ae, h2, hs, Ha, hzs, hss.owner]
      rw [bk]; refine ⟨fun h3 => ?_, fun h3 => ?_⟩
      · have h3' : (u3 z s.owner).isSome = false := by simpa only [Bool.not_eq_true'] using h3
        have e0 := go0 (by unfold yj; rw [if_pos h3'])
        simp only [↓wR, RA, simprocAttr, TF, ae, h3]; repeat (simp (disch := omega) only [ah, bu, b7, bw, bz]; try simp only [↓wR, RA, simprocAttr, TF, ae, h3])
        exact ⟨k + 1, ⟨hlt2, e0⟩, by omega, by (first | rfl | trivial | omega | ((try (simp (disch := omega) only [ah])); (try (simp only [FB])); first | done | rfl | omega))⟩
      have h3' : (u3 z s.owner).isSome = true := by simpa only [Bool.not_eq_false'] using h3
      simp only [↓wR, RA, simprocAttr, TF, ae, h3]
      rw [dc]; refine ⟨fun ⟨h4, e4⟩ => ?_, fun ⟨h4, e4⟩ => ?_⟩
      · have hnm := hn z hzm s hsm e4
        simp only [↓wR, RA, simprocAttr, TF, ae, h4, Cm, hw, hzs, hss, hnm]
        rw [bk]; refine ⟨fun h5 => ?_, fun h5 => ?_⟩
        · have e0 := go5 (by unfold yj; rw [if_neg (by rw [h3']; decide), if_pos e4, if_pos h5])
          simp only [↓wR, RA, simprocAttr, TF, ae, h5]
          rw [e0]
        · have e0 := go0 (by unfold yj; rw [if_neg (by rw [h3']; decide), if_pos e4, if_neg (by rw [h5]; decide)])
          simp only [↓wR, RA, simprocAttr, TF, ae, h5]; repeat (simp (disch := omega) only [ah, bu, b7, bw, bz]; try simp only [↓wR, RA, simprocAttr, TF, ae, h5])
          exact ⟨k + 1, ⟨hlt2, e0⟩, by omega, by (first | rfl | trivial | omega | ((try (simp (disch := omega) only [ah])); (try (simp only [FB])); first | done | rfl | omega))⟩
      have hg : yj w z s = match ji w s.owner s.type with | none => 305 | some t => if s5 s t = true then 0 else 305 := by unfold yj; rw [if_neg (by rw [h3']; decide), if_neg e4]
      have htr := Hi hw s.owner s.type
      simp only [↓wR, RA, simprocAttr, TF, ae, h4, Au, hw, hss.owner]
      cases ht : ji w s.owner s.type with
      | none =>
        rw [ht] at hg
        have e0 := go5 hg
        simp only [↓wR, RA, simprocAttr, TF, ae, Option.isSome_none]
        rw [e0]
      | some t =>
        rw [ht] at hg htr
        have hts : dg t := by unfold dg; show n9 ((some t).getD mj) ≤ 16777216; omega
        simp only [↓wR, RA, simprocAttr, TF, ae, Option.isSome_some, Option.getD_some, B5, hss, hts]
        rw [bk]; refine ⟨fun h6 => ?_, fun h6 => ?_⟩
        · have h6' : s5 s t = false := by simpa only [Bool.not_eq_true'] using h6
          have e0 := go5 (by rw [hg]; simp only; rw [h6', if_neg (by decide)])
          simp only [↓wR, RA, simprocAttr, TF, ae, h6]
          rw [e0]
        · have h6' : s5 s t = true := by simpa only [Bool.not_eq_false'] using h6
          have e0 := go0 (by rw [hg]; simp only; rw [if_pos h6'])
          simp only [↓wR, RA, simprocAttr, TF, ae, h6]; repeat (simp (disch := omega) only [ah, bu, b7, bw, bz]; try simp only [↓wR, RA, simprocAttr, TF, ae, h6])
          exact ⟨k + 1, ⟨hlt2, e0⟩, by omega, by (first | rfl | trivial | omega | ((try (simp (disch := omega) only [ah])); (try (simp only [FB])); first | done | rfl | omega))⟩
    · rw [du (decide_eq_false h2), ym] at hy
      rw [hy, if_neg (by decide)] at hx
      simp only [↓wR, RA, simprocAttr, TF, ae, h2]; repeat (simp (disch := omega) only [ah, bu, b7, bw, bz]; try simp only [↓wR, RA, simprocAttr, TF, ae, h2])
      exact ⟨i + 1, ⟨hlt, hx⟩, by omega, by (first | rfl | trivial | omega | ((try (simp (disch := omega) only [ah])); (try (simp only [FB])); first | done | rfl | omega))⟩
  · rw [du (decide_eq_false h)] at hx
    simp only [↓wR, RA, simprocAttr, TF, ae, h]
    rw [hx] <;> rfl
instance (w : bc) : Decidable (B6 w) := inferInstanceAs (Decidable (∀ z ∈ w.au, ∀ s ∈ z.ak, (s.type.toNat : Int) = 2 → K6 s))
noncomputable def Jo (x : bc × Unit) : Option AV := if cy x.1 ∧ B6 x.1 then some ((r1 (aw .i64)).E true (Ab x.1)) else none
set_option maxRecDepth 2000000 in
theorem ahg (x : bc × Unit) (r : AV) (h : Jo x = some r) : bg PP 47 ((aC cd a0).E x) r := by
  by_cases hc : cy x.1 ∧ B6 x.1
  case neg => simp only [Jo, if_neg hc] at h; cases h
  simp only [Jo, if_pos hc] at h
  cases h
  exact bb (aj.cons (ai Vb) (aj.cons (ai ac8) (aj.cons (ai Bk) (aj.cons (ai Mx) (aj.nil PP))))) Tryz.func47 (by kernel_rfl) (by kernel_rfl) (by kernel_rfl) (Nat.le_of_ble_eq_true (by kernel_rfl)) (r1 (aw .i64)) true (Ab x.1) (asf x.1 hc.1 hc.2)
noncomputable abbrev avi : Nat × Bool × (List AV → M AV) := (47, true, da (aC cd a0) Jo)
noncomputable def E0 (w : bc) (z : bh) (i : Nat) : Int :=
  if ((ml z).all fun n => (ji w n 1).isSome) = true then (if ((gy w z).all fun a => mz w a (i : Int)) = true then 0 else 306) else 306
noncomputable def Hk (w : bc) : List bh → Nat → Int
  | [], _ => 0
  | z :: r, i => if E0 w z i ≠ 0 then 306 else Hk w r (i + 1)
noncomputable def Ad (w : bc) : Int := Hk w w.au 0
theorem aqb {w : bc} {l : List bh} {i : Nat} {c : bh} (k : Nat) (h : l.drop i = c :: l.drop (i + 1)) : Hk w (l.drop i) k = if E0 w c k ≠ 0 then 306 else Hk w (l.drop (i + 1)) (k + 1) := by rw [h]; rfl
theorem M8 {w : bc} (hw : cy w) {z : bh} (hz : wu z ≤ 5242880) : (gy w z).length ≤ 140737488355328 := by
  have h1 : ∀ (l : List ct) (acc : List UInt32), (l.foldl qk acc).length ≤ acc.length + l.length := by
    intro l
    induction l with
    | nil => intro acc; exact Nat.le_refl _
    | cons d l ih =>
      intro acc
      have := ih (qk acc d)
      have h2 : (qk acc d).length ≤ acc.length + 1 := by unfold qk; split <;> simp
      rw [List.foldl_cons, List.length_cons]; omega
  have h2 : ∀ (l : List Name) (acc : List UInt32), ((l.foldl (wo w) acc).length : Int) ≤ (acc.length : Int) + (l.length : Int) * 5242880 := by
    intro l
    induction l with
    | nil => intro acc; simp
    | cons n l ih =>
      intro acc
      have h3 := ih (wo w acc n)
      have h4 := h1 ((ji w n 1).getD mj).data acc
      have h5 := Hi hw n 1
      have h6 := pw su ((ji w n 1).getD mj).data
      unfold n9 at h5
      have h7 : (wo w acc n).length ≤ acc.length + 5242880 := by unfold wo; omega
      rw [List.foldl_cons, List.length_cons]
      have h8 : ((l.length + 1 : Nat) : Int) = (l.length : Int) + 1 := by omega
      rw [h8]; omega
  have h3 := h2 (ml z) []
  have h4 := (Gy hz).1
  unfold gy
  simp only [List.length_nil] at h3
  omega
theorem ae2 {w : bc} {k : Nat} {z : bh} (h : w.au[k]? = some z) : sg w (k : Int) = gy w z := by unfold sg; rw [lr, h]
set_option maxHeartbeats 4000000 in
theorem adw (w : bc) (hw : cy w) : wl PP [aim, Rm, au2, Lq] 0 (Tryz.f48.body.getD .skip) (de PP Tryz.f48.results.toList (fun r st => (r1 (aw .i64)).get true st.h r = some (Ad w))) (cb 0 [cd.val false w]) (bp []) := by
  have hl := hw.Dd
  unfold Tryz.f48
  simp only [eb]
  simp only [↓wR, RA, simprocAttr, TF, ae]
  refine c6 [1, 13, 14, 15] (fun (i : Nat) => [.ptr 0 0, .vl false 2 (w.au.map (bn.val false)), .sc (.int .i64 (w.au.length)), .sc (.int .i64 (i))]) (fun _ => [some (.row [.vl false 2 (w.au.map (bn.val false)), .vl false 2 (w.db.map (dj.val false)), .vl false 1 (w.hints.map (be.val false))] 0 2 100)]) (fun i => i ≤ w.au.length ∧ Ad w = Hk w (w.au.drop i) i) (fun i => w.au.length - i) 0 ⟨Nat.zero_le _, rfl⟩ (by simp only [↓wR, RA, simprocAttr, TF, ae] <;> rfl) (by simp only [↓wR, RA, simprocAttr, TF, ae] <;> rfl) ?_
  rintro i ⟨hi, hx⟩
  simp only [↓wR, RA, simprocAttr, TF, ae]
  rw [bf]; refine ⟨fun h => ?_, fun h => ?_⟩
  · obtain ⟨z, hz, hd1, hlt⟩ := di (decide_eq_true h)
    rw [aqb i hd1] at hx
    have hzm := List.mem_of_getElem? hz
    have hzs := hw.zone z hzm
    obtain ⟨hnl, hns⟩ := Gy (hw.wt z hzm)
    have hsl := M8 hw (hw.wt z hzm)
    have hsome : (mb w (i : Int)).isSome = true := by rw [lr, hz]; rfl
    have hsv := ae2 hz
    have bad : E0 w z i = 306 → Ad w = 306 := fun q => by rw [hx, q, if_pos (by decide)]
    simp only [↓wR, RA, simprocAttr, TF, ae, h, hz, Fx, hzs]
    refine c6 [1, 3, 13, 14, 15, 21, 22, 23] (fun (k : Nat) => [.ptr 0 0, .sc (.int .i64 (i)), .vl false 2 (w.au.map (bn.val false)), .sc (.int .i64 (w.au.length)), .sc (.int .i64 (i)), .vl true 1 ((ml z).map (ay.val true)), .sc (.int .i64 ((ml z).length)), .sc (.int .i64 (k))]) (fun _ => [some (.row [.vl false 2 (w.au.map (bn.val false)), .vl false 2 (w.db.map (dj.val false)), .vl false 1 (w.hints.map (be.val false))] 0 2 100)]) (fun k => k ≤ (ml z).length ∧ ((ml z).all fun n => (ji w n 1).isSome) = (((ml z).drop k).all fun n => (ji w n 1).isSome)) (fun k => (ml z).length - k) 0 ⟨Nat.zero_le _, rfl⟩ (by simp only [↓wR, RA, simprocAttr, TF, ae] <;> rfl) (by simp only [↓wR, RA, simprocAttr, TF, ae] <;> rfl) ?_
    rintro k ⟨hk, hy⟩
    simp only [↓wR, RA, simprocAttr, TF, ae]
    rw [bf]; refine ⟨fun h2 => ?_, fun h2 => ?_⟩
    · obtain ⟨n, hn, hd2, hlt2⟩ := di (decide_eq_true h2)
      rw [hd2, List.all_cons] at hy
      simp only [↓wR, RA, simprocAttr, TF, ae, h2, hn, T5, Au, hw, hns n (List.mem_of_getElem? hn)]
      rw [bk]; refine ⟨fun h3 => ?_, fun h3 => ?_⟩
      · have h3' : (ji w n 1).isSome = false := by simpa only [Bool.not_eq_true'] using h3
        rw [h3', Bool.false_and] at hy
        have e0 := bad (by unfold E0; rw [hy, if_neg (by decide)])
        simp only [↓wR, RA, simprocAttr, TF, ae, h3]
        rw [e0]
      · have h3' : (ji w n 1).isSome = true := by simpa only [Bool.not_eq_false'] using h3
        rw [h3', Bool.true_and] at hy
        simp only [↓wR, RA, simprocAttr, TF, ae, h3]; repeat (simp (disch := omega) only [ah, bu, b7, bw, bz]; try simp only [↓wR, RA, simprocAttr, TF, ae, h3])
        exact ⟨k + 1, ⟨hlt2, hy⟩, by omega, by (first | rfl | trivial | omega | ((try (simp (disch := omega) only [ah])); (try (simp only [FB])); first | done | rfl | omega))⟩
    rw [du (decide_eq_false h2), List.all_nil] at hy
    simp only [↓wR, RA, simprocAttr, TF, ae, h2, Lj, hw, hsome, hsv]
    refine c6 [1, 3, 13, 14, 15, 40, 41, 42] (fun (k : Nat) => [.ptr 0 0, .sc (.int .i64 (i)), .vl false 2 (w.au.map (bn.val false)), .sc (.int .i64 (w.au.length)), .sc (.int .i64 (i)), .vl true 1 ((gy w z).map (be.val true)), .sc (.int .i64 ((gy w z).length)), .sc (.int .i64 (k))]) (fun _ => [some (.row [.vl false 2 (w.au.map (bn.val false)), .vl false 2 (w.db.map (dj.val false)), .vl false 1 (w.hints.map (be.val false))] 0 2 100)]) (fun k => k ≤ (gy w z).length ∧ ((gy w z).all fun a => mz w a (i : Int)) = (((gy w z).drop k).all fun a => mz w a (i : Int))) (fun k => (gy w z).length - k) 0 ⟨Nat.zero_le _, rfl⟩ (by simp only [↓wR, RA, simprocAttr, TF, ae] <;> rfl) (by simp only [↓wR, RA, simprocAttr, TF, ae] <;> rfl) ?_
    rintro k ⟨hk, hu⟩
    simp only [↓wR, RA, simprocAttr, TF, ae]
    rw [bf]; refine ⟨fun h4 => ?_, fun h4 => ?_⟩
    · obtain ⟨a, ha, hd3, hlt3⟩ := di (decide_eq_true h4)
      rw [hd3, List.all_cons] at hu
      simp only [↓wR, RA, simprocAttr, TF, ae, h4, ha, ug, hw]
      rw [bk]; refine ⟨fun h5 => ?_, fun h5 => ?_⟩
      · have h5' : mz w a (i : Int) = false := by simpa only [Bool.not_eq_true'] using h5
        rw [h5', Bool.false_and] at hu
        have e0 := bad (by unfold E0; rw [if_pos hy, hu, if_neg (by decide)])
        simp only [↓wR, RA, simprocAttr, TF, ae, h5]
        rw [e0]
      · have h5' : mz w a (i : Int) = true := by simpa only [Bool.not_eq_false'] using h5
        rw [h5', Bool.true_and] at hu
        simp only [↓wR, RA, simprocAttr, TF, ae, h5]; repeat (simp (disch := omega) only [ah, bu, b7, bw, bz]; try simp only [↓wR, RA, simprocAttr, TF, ae, h5])
        exact ⟨k + 1, ⟨hlt3, hu⟩, by omega, by (first | rfl | trivial | omega | ((try (simp (disch := omega) only [ah])); (try (simp only [FB])); first | done | rfl | omega))⟩
    · rw [du (decide_eq_false h4), List.all_nil] at hu
      have e0 : E0 w z i = 0 := by unfold E0; rw [if_pos hy, if_pos hu]
      rw [e0, if_neg (by decide)] at hx
      simp only [↓wR, RA, simprocAttr, TF, ae, h4]; repeat (simp (disch := omega) only [ah, bu, b7, bw, bz]; try simp only [↓wR, RA, simprocAttr, TF, ae, h4])
      exact ⟨i + 1, ⟨hlt, hx⟩, by omega, by (first | rfl | trivial | omega | ((try (simp (disch := omega) only [ah])); (try (simp only [FB])); first | done | rfl | omega))⟩
  · rw [du (decide_eq_false h)] at hx
    simp only [↓wR, RA, simprocAttr, TF, ae, h]
    rw [hx] <;> rfl
noncomputable def Im (x : bc × Unit) : Option AV := if cy x.1 then some ((r1 (aw .i64)).E true (Ad x.1)) else none
set_option maxRecDepth 2000000 in
theorem ah2 (x : bc × Unit) (r : AV) (h : Im x = some r) : bg PP 48 ((aC cd a0).E x) r := by
  by_cases hc : cy x.1
  case neg => simp only [Im, if_neg hc] at h; cases h
  simp only [Im, if_pos hc] at h
  cases h
  exact bb (aj.cons (ai Qs) (aj.cons (ai Bk) (aj.cons (ai Va) (aj.cons (ai Cj) (aj.nil PP))))) Tryz.func48 (by kernel_rfl) (by kernel_rfl) (by kernel_rfl) (Nat.le_of_ble_eq_true (by kernel_rfl)) (r1 (aw .i64)) true (Ad x.1) (adw x.1 hc)
noncomputable abbrev avw : Nat × Bool × (List AV → M AV) := (48, true, da (aC cd a0) Im)
def Aw (w : bc) : Int := if (w.hints.all fun a => mz w a (qh w [])) = true then (if (w.hints.length : Int) = 0 then 307 else 0) else 307
theorem aoh (w : bc) (hw : cy w) : wl PP [S1, Lq] 0 (Tryz.f49.body.getD .skip) (de PP Tryz.f49.results.toList (fun r st => (r1 (aw .i64)).get true st.h r = some (Aw w))) (cb 0 [cd.val false w]) (bp []) := by
  have hl := hw.axb
  have h0 : bt [] := by decide
  unfold Tryz.f49
  simp only [eb]
  simp only [↓wR, RA, simprocAttr, TF, ae, xa, hw, h0]
  refine c6 [1, 3, 11, 12, 13] (fun (i : Nat) => [.ptr 0 0, .sc (.int .i64 (qh w [])), .vl false 1 (w.hints.map (be.val false)), .sc (.int .i64 (w.hints.length)), .sc (.int .i64 (i))]) (fun _ => [some (.row [.vl false 2 (w.au.map (bn.val false)), .vl false 2 (w.db.map (dj.val false)), .vl false 1 (w.hints.map (be.val false))] 0 2 100)]) (fun i => i ≤ w.hints.length ∧ (w.hints.all fun a => mz w a (qh w [])) = ((w.hints.drop i).all fun a => mz w a (qh w []))) (fun i => w.hints.length - i) 0 ⟨Nat.zero_le _, rfl⟩ (by simp only [↓wR, RA, simprocAttr, TF, ae] <;> rfl) (by simp only [↓wR, RA, simprocAttr, TF, ae] <;> rfl) ?_
  rintro i ⟨hi, hx⟩
  simp only [↓wR, RA, simprocAttr, TF, ae]
  unfold Aw
  rw [bf]; refine ⟨fun h => ?_, fun h => ?_⟩
  · obtain ⟨a, ha, hd1, hlt⟩ := di (decide_eq_true h)
    rw [hd1, List.all_cons] at hx
    simp only [↓wR, RA, simprocAttr, TF, ae, h, ha, ug, hw]
    rw [bk]; refine ⟨fun h5 => ?_, fun h5 => ?_⟩
    · have h5' : mz w a (qh w []) = false := by simpa only [Bool.not_eq_true'] using h5
      rw [h5', Bool.false_and] at hx
      rw [hx, if_neg (by decide)]
      simp only [↓wR, RA, simprocAttr, TF, ae, h5]
    · have h5' : mz w a (qh w []) = true := by simpa only [Bool.not_eq_false'] using h5
      rw [h5', Bool.true_and] at hx
      simp only [↓wR, RA, simprocAttr, TF, ae, h5]; repeat (simp (disch := omega) only [ah, bu, b7, bw, bz]; try simp only [↓wR, RA, simprocAttr, TF, ae, h5])
      exact ⟨i + 1, ⟨hlt, hx⟩, by omega, by (first | rfl | trivial | omega | ((try (simp (disch := omega) only [ah])); (try (simp only [FB])); first | done | rfl | omega))⟩
  · rw [du (decide_eq_false h), List.all_nil] at hx
    rw [if_pos hx]
    simp only [↓wR, RA, simprocAttr, TF, ae, h]
    rw [dc]; refine ⟨fun ⟨h2, e2⟩ => ?_, fun ⟨h2, e2⟩ => ?_⟩
    · rw [if_pos e2]
      simp only [↓wR, RA, simprocAttr, TF, ae, h2]
    · rw [if_neg e2]
      simp only [↓wR, RA, simprocAttr, TF, ae, h2]
noncomputable def F3 (x : bc × Unit) : Option AV := if cy x.1 then some ((r1 (aw .i64)).E true (Aw x.1)) else none
set_option maxRecDepth 2000000 in
theorem ad5 (x : bc × Unit) (r : AV) (h : F3 x = some r) : bg PP 49 ((aC cd a0).E x) r := by
  by_cases hc : cy x.1
  case neg => simp only [F3, if_neg hc] at h; cases h
  simp only [F3, if_pos hc] at h
  cases h
  exact bb (aj.cons (ai Ac) (aj.cons (ai Cj) (aj.nil PP))) Tryz.func49 (by kernel_rfl) (by kernel_rfl) (by kernel_rfl) (Nat.le_of_ble_eq_true (by kernel_rfl)) (r1 (aw .i64)) true (Aw x.1) (aoh x.1 hc)
noncomputable abbrev atv : Nat × Bool × (List AV → M AV) := (49, true, da (aC cd a0) F3)
end Go.Proofs.YtidomogemfchpaaGreat
end
namespace Go.Vm
noncomputable section
inductive zr : ba → ba → Prop
  | rfl (x : ba) : zr x x
  | perm (es es' : List (Value × AV)) (h : es.Perm es') (hl : loose es = true) : zr (.map es) (.map es')
theorem zr.ghost {x y} (hs : zr x y) (h : y7 y) : y7 x := by
  cases hs with
  | rfl => exact h
  | perm es es' hp hl => obtain ⟨s, e, he⟩ := h; cases he
theorem zr.obj {g w b base x y} (hs : zr x y) (h : l0 g w b base y) : l0 g w b base x := by
  cases hs with
  | rfl => exact h
  | perm es es' hp hl =>
    obtain ⟨h0, ms, clock, h1, h2, h3, h4, l, h5, h6, h7⟩ := h
    refine ⟨h0, ms, clock, h1, by rw [h2, hp.length_eq], h3, h4, ?_⟩
    have hlen : l.length = es'.length := by rw [h5.length_eq, ← h2]; simp
    have key : ∀ (k k' : List (Value × AV)), k.Perm k' → ∀ l' : List MapEntry, l'.length = k'.length → (∀ (i : Nat) e m, k'[i]? = some e → l'[i]? = some m → m.key = e.1 ∧ Rel g w e.2 m.val) →
        ∃ l : List MapEntry, l.Perm l' ∧ l.length = k.length ∧ (∀ (i : Nat) e m, k[i]? = some e → l[i]? = some m → m.key = e.1 ∧ Rel g w e.2 m.val) := by
      intro k k' hp
      induction hp with
      | nil => intro l' hl' hr; exact ⟨l', .refl _, hl', hr⟩
      | cons a _ ih =>
        intro l' hl' hr
        cases l' with
        | nil => simp at hl'
        | cons m l' =>
          obtain ⟨l, q1, q2, q3⟩ := ih l' (by simpa using hl') (fun i e m' he hm => hr (i + 1) e m' (by simpa using he) (by simpa using hm))
          refine ⟨m :: l, q1.cons m, by simp [q2], fun i e m' he hm => ?_⟩
          cases i with
          | zero => exact hr 0 e m' (by simpa using he) (by simpa using hm)
          | succ i => exact q3 i e m' (by simpa using he) (by simpa using hm)
      | swap a b k =>
        intro l' hl' hr
        match l', hl' with
        | m :: n :: l', hl' =>
          refine ⟨n :: m :: l', List.Perm.swap _ _ _, by simpa using hl', fun i e m' he hm => ?_⟩
          match i with
          | 0 => exact hr 1 e m' (by simpa using he) (by simpa using hm)
          | 1 => exact hr 0 e m' (by simpa using he) (by simpa using hm)
          | i + 2 => exact hr (i + 2) e m' (by simpa using he) (by simpa using hm)
      | trans _ _ ih1 ih2 =>
        intro l' hl' hr
        obtain ⟨l2, q1, q2, q3⟩ := ih2 l' hl' hr
        obtain ⟨l1, p1, p2, p3⟩ := ih1 l2 q2 q3
        exact ⟨l1, p1.trans q1, p2, p3⟩
    obtain ⟨l2, q1, _, q3⟩ := key es es' hp l hlen h6
    exact ⟨l2, q1.trans h5, q3, .inr hl⟩
theorem Ok.ab5 {g h h' w} (hok : Ok g h' w) (hs : ∀ o x, h.get o = some x → ∃ y, h'.get o = some y ∧ zr x y) : Ok g h w := by
  refine ⟨hok.size, fun o x hx => ?_, fun o o' x x' b base base' hne hx hx' => ?_, hok.K⟩
  · obtain ⟨y, h1, h2⟩ := hs o x hx
    refine (hok.lz o y h1).imp (fun q => ⟨q.1, h2.ghost q.2⟩) ?_
    rintro ⟨b, base, q1, q2, q3⟩
    exact ⟨b, base, q1, q2, h2.obj q3⟩
  · obtain ⟨y, h1, _⟩ := hs o x hx
    obtain ⟨y', h1', _⟩ := hs o' x' hx'
    exact hok.sep o o' y y' b base base' hne h1 h1'
theorem Xe {h h' : Tr ba} (hs : ∀ o x, h.get o = some x → ∃ y, h'.get o = some y ∧ zr x y) {o : Nat} (ho : (h.get o).isSome = true) : (h'.get o).isSome = true := by
  obtain ⟨x, hx⟩ := Option.isSome_iff_exists.1 ho
  obtain ⟨y, h1, _⟩ := hs o x hx
  rw [h1]; rfl
structure Lit where
  i : Nat
  d : TypeDesc
  e : Value × AV
def oh (lits : List Lit) (D : Nat → Bool) : List (Value × AV) := (lits.filter fun q => D q.i).map (·.e)
structure adi (lits : List Lit) : Prop where
  idx : (lits.map (·.i)).Nodup
  apart : ∀ q ∈ lits, ∀ r ∈ lits, q.i ≠ r.i → ma q.e.1 r.e.1 = true ∧ Instr.sameNow q.d q.e.1 r.e.1 = some false
theorem Ym {lits : List Lit} {D : Nat → Bool} {e : Value × AV} (h : e ∈ oh lits D) : ∃ q ∈ lits, D q.i = true ∧ q.e = e := by
  simp only [oh, List.mem_map, List.mem_filter] at h
  obtain ⟨q, ⟨h1, h2⟩, h3⟩ := h
  exact ⟨q, h1, h2, h3⟩
theorem Ms {D : Nat → Bool} : ∀ {lits : List Lit}, adi lits → nf (oh lits D) = true
  | [], _ => rfl
  | q :: l, h => by
    have hl : adi l := ⟨by have := h.idx; rw [List.map_cons, List.nodup_cons] at this; exact this.2, fun a ha b hb => h.apart a (by simp [ha]) b (by simp [hb])⟩
    have ih := Ms (D := D) hl
    unfold oh at ih ⊢
    rw [List.filter_cons]
    split
    · simp only [List.map_cons, nf, Bool.and_eq_true, List.all_eq_true]
      refine ⟨fun x hx => ?_, ih⟩
      obtain ⟨r, h1, _, rfl⟩ := Ym (D := D) hx
      refine (h.apart q (by simp) r (by simp [h1]) (fun e => ?_)).1
      have := h.idx
      rw [List.map_cons, List.nodup_cons] at this
      exact this.1 (by rw [e]; exact List.mem_map_of_mem h1)
    · exact ih
theorem aqc {lits : List Lit} (h : (lits.map (·.i)).Nodup) {D : Nat → Bool} {q : Lit} (hq : q ∈ lits) (hD : D q.i = false) : (oh lits (jk D q.i)).Perm (oh lits D ++ [q.e]) := by
  induction lits with
  | nil => cases hq
  | cons a l ih =>
    rw [List.map_cons, List.nodup_cons] at h
    unfold oh at ih ⊢
    rcases List.mem_cons.1 hq with rfl | hq
    · rw [List.filter_cons_of_pos (by simp [jk]), List.filter_cons_of_neg (by simp [hD])]
      have : l.filter (fun r => jk D q.i r.i) = l.filter (fun r => D r.i) := by
        refine List.filter_congr fun r hr => ?_
        have : r.i ≠ q.i := fun e => h.1 (by rw [← e]; exact List.mem_map_of_mem hr)
        simp [jk, this]
      rw [this, List.map_cons]
      exact (List.perm_append_singleton _ _).symm
    · have hne : a.i ≠ q.i := fun e => h.1 (by rw [e]; exact List.mem_map_of_mem hq)
      have hu : jk D q.i a.i = D a.i := by simp [jk, hne]
      cases hb : D a.i with
      | true =>
        rw [List.filter_cons_of_pos (by rw [hu, hb]), List.filter_cons_of_pos (by rw [hb])]
        exact (ih h.2 hq).cons _
      | false =>
        rw [List.filter_cons_of_neg (by rw [hu, hb]; simp), List.filter_cons_of_neg (by rw [hb]; simp)]
        exact ih h.2 hq
theorem aj9 {lits : List Lit} {D : Nat → Bool} {i : Nat} (h : ∀ q ∈ lits, q.i ≠ i) : oh lits (jk D i) = oh lits D := by
  unfold oh
  congr 1
  exact List.filter_congr fun q hq => by simp [jk, h q hq]
theorem al9 {lits : List Lit} {D : Nat → Bool} (h : ∀ q ∈ lits, D q.i = false) : oh lits D = [] := by
  unfold oh
  rw [List.filter_eq_nil_iff.2 (fun q hq => by simp [h q hq])]
  rfl
theorem ao2 {lits : List Lit} {D : Nat → Bool} (h : ∀ q ∈ lits, D q.i = true) : oh lits D = lits.map (·.e) := by
  unfold oh
  rw [List.filter_eq_self.2 (fun q hq => h q hq)]
theorem Jv (d : TypeDesc) (k : Value) : ∀ (l : List MapEntry) (i : Nat), (∀ m ∈ l, Instr.sameNow d k m.key = some false) → Instr.findNow d k l i = some none
  | [], _, _ => rfl
  | m :: l, i, h => by
    rw [Instr.findNow, h m (by simp)]
    exact Jv d k l (i + 1) (fun m hm => h m (by simp [hm]))
theorem Q4 {P : Program} {kt : TypeId} {d : TypeDesc} {k : Value} {es : List (Value × AV)} (hu : P.underlying kt = some d) (h : ∀ e ∈ es, Instr.sameNow d k e.1 = some false) : nn P kt k es = some none := by
  have hf : Instr.findNow d k (kl es) 0 = some none := Jv d k _ 0 (fun m hm => by
    simp only [kl, List.mem_map] at hm
    obtain ⟨e, he, rfl⟩ := hm
    exact h e he)
  have hn : Gq P kt k es = true := by unfold Gq; rw [hu]; simp only; rw [hf]; rfl
  unfold nn
  rw [hn, Bool.or_true, cond_true]
  have hevu : ev P (underlying kt) = some d := by
    simp [underlying, program, ev, hu, n5, ta, Sem.bind, bind]
  have : ev P (Instr.findKey kt k (kl es)) = some none := by
    unfold Instr.findKey
    rw [n5, hevu]
    simp only [Option.bind_some]
    rw [hf]; rfl
  rw [this]; rfl
theorem Step.ab5 {g h w lo hi g' h' h'' w'} (s : Step g h w lo hi g' h' w') (hs : ∀ o x, h''.get o = some x → ∃ y, h'.get o = some y ∧ zr x y) : Step g h w lo hi g' h'' w' :=
  ⟨s.ext, s.size, s.os, s.tape, s.output, s.frame, s.fresh, fun o b base ho hi => s.own o b base (Xe hs ho) hi, s.nk⟩
def sa (o : Oper) : Bool := match o.op with | .insert .. => true | _ => false
def tm (ops : Array Oper) (L : SL) (o : Oper) : Option Bool := bif sa o then some false else wc ops L o
def ajt (P : Program) (T : dy) (ops : Array Oper) (E : List Rec → Prop) : List Oper → (SL → St → Prop) → List Rec → SL → St → Prop
  | [], K => fun recs L st => E recs ∧ K L st
  | o :: r, K => fun recs L st => (tm ops L o = some true ∧ Sv P T o recs (ajt P T ops E r K) L st) ∨ (tm ops L o = some false ∧ ajt P T ops E r K (recs ++ [⟨[], []⟩]) (ft o.dst (.sc undef) L) st)
theorem ape {P : Program} {T : dy} {ops : Array Oper} {E : List Rec → Prop} {K : SL → St → Prop} : ∀ (l : List Oper) (L : SL) (st : St) (recs : List Rec), ajt P T ops E l K recs L st →
    ∃ ds L' st', ds.map (·.o) = l ∧ (∀ d ∈ ds, DSRun P T d ∧ tm ops d.L d.o = some d.want) ∧ Lr ds L st L' st' ∧ E (recs ++ ds.map fun d => ⟨d.R, d.W⟩) ∧ K L' st' := by
  intro l
  induction l with
  | nil => intro L st recs h; exact ⟨[], L, st, rfl, by simp, ⟨rfl, rfl⟩, by simpa using h.1, h.2⟩
  | cons o l ih =>
    intro L st recs h
    rcases h with ⟨hb, F, W, v, bd, hop, h4, h5, h6, h7, h8⟩ | ⟨hb, h3⟩
    · obtain ⟨ds, L', st', e1, e2, e3, e4, e5⟩ := ih _ _ _ h8
      have hle := wh hop
      refine ⟨{ o, L, st, want := true, v, bd, R := F, W := W ++ dk st.nx (bd.nx - st.nx) } :: ds, L', st', by simp [e1], ?_, ⟨rfl, rfl, ?_⟩, ?_, e5⟩
      · intro d hd
        rcases List.mem_cons.1 hd with rfl | hd
        · refine ⟨⟨fun _ => ⟨hop, h6, h7, fun q => ?_, fun q hq hn => ?_⟩, fun e => by cases e⟩, hb⟩
          · simp only [List.mem_append, gn]
            constructor
            · rintro (hq | hq)
              · exact .inl ⟨.inl hq, h4 q hq⟩
              · exact .inr ⟨hq.1, by simp at hle; omega⟩
            · rintro (hq | hq)
              · exact hq.1
              · exact .inr ⟨hq.1, by omega⟩
          · have := h5 q hq (fun hw => hn (List.mem_append.2 (.inl hw)))
            rw [oo _ _ _ (fun p hp => by have := h6 p hp; simp at hle; omega), if_pos hq] at this
            exact this
        · exact e2 d hd
      · exact e3
      · simpa [List.append_assoc] using e4
    · obtain ⟨ds, L', st', e1, e2, e3, e4, e5⟩ := ih _ _ _ h3
      refine ⟨{ o, L, st, want := false, v := .sc undef, bd := st, R := [], W := [] } :: ds, L', st', by simp [e1], ?_, ⟨rfl, rfl, ?_⟩, ?_, e5⟩
      · intro d hd
        rcases List.mem_cons.1 hd with rfl | hd
        · exact ⟨⟨(fun e => by cases e), fun _ => ⟨rfl, rfl, rfl, rfl⟩⟩, hb⟩
        · exact e2 d hd
      · exact e3
      · simpa [List.append_assoc] using e4
theorem apk {P : Program} {T : dy} {ops : Array Oper} {ds : List DS} {L : SL} {st : St} {L' : SL} {st' : St} (hs : ld ops = true) (e1 : ds.map (·.o) = ops.toList) (e2 : ∀ d ∈ ds, DSRun P T d) (e3 : Lr ds L st L' st') : sf P T ops ds L st L' st' := by
  obtain ⟨c1, c2, c3, c4⟩ := aca e2 e3
  unfold ld at hs
  rw [Bool.and_eq_true] at hs
  refine ⟨e1, e2, c1, ⟨c2, c3, c4⟩, fun i k x y t hik hx hy ht hdt => ?_, fun i o ho e he hb => ?_⟩
  · have hxi : (x.o, i) ∈ ops.toList.zipIdx := by
      rw [List.mem_zipIdx_iff_getElem?, ← e1]; simp [hx]
    have hyk : (y.o, k) ∈ ops.toList.zipIdx := by
      rw [List.mem_zipIdx_iff_getElem?, ← e1]; simp [hy]
    have h1 := List.all_eq_true.1 hs.1 _ hxi
    have h2 := List.all_eq_true.1 h1 t ht
    have h3 := List.all_eq_true.1 h2 _ hyk
    simp only [hdt, Bool.or_eq_true] at h3
    rcases h3 with (h3 | h3) | h3
    · simp at h3
    · simp at h3; omega
    · rw [Nat.max_comm, Nat.min_comm]; exact h3
  · have hoi : (o, i) ∈ ops.toList.zipIdx := by rw [List.mem_zipIdx_iff_getElem?]; simpa using ho
    have h1 := List.all_eq_true.1 hs.2 _ hoi
    rw [Array.all_eq_true_iff_forall_mem] at h1
    have := h1 e he
    rw [hb] at this
    simpa using this
theorem atg {ops : Array Oper} {ds : List DS} (e4 : fv (Region.before ops) 0 (ds.map fun d => ⟨d.R, d.W⟩) = true) : Calm ops ds := fun i k x y hik hx hy => by
  have := E7 _ 0 e4 i k ⟨x.R, x.W⟩ ⟨y.R, y.W⟩ hik (by simp [hx]) (by simp [hy])
  simp only [uq, Nat.zero_add, Bool.or_eq_true, Bool.and_eq_true] at this
  rcases this with h1 | h1
  · exact .inr ⟨h1.1.1, h1.1.2, h1.2⟩
  · exact .inl h1
end
end Go.Vm
namespace Go.Vm
noncomputable section
theorem At.ins {H : (Nat → Bool) → Nat → Option ba} {P : Program} {T : dy} (hT : mr P T) {ops : Array Oper} {ds : List DS} {L0 : SL} {g0 : Gh} {st0 : St} {w0 : World} {df : List Deferred} {ro : Option Nat} {N : Nat} {nt : Nat} {L' : SL} {st' : St} (R : sf P T ops ds L0 st0 L' st')
    {D : Nat → Bool} {a : Act} {w : World} {i : Nat} {d : DS} (hi : ds[i]? = some d) (hD : D i = false) (hr : ∀ e ∈ d.o.after, Region.binds .any e = true → D e.on = true) (A : At H ops ds L0 g0 st0 w0 df nt (iq ds st0.nx ds.length) D a w)
    {t : TypeId} {m k x : Operand} (hop : d.o.op = .insert t m k x) (hdst : d.o.dst = none) (hgd : d.o.guard = none) {p : Nat} {kt et : TypeId} {key : Value} (hu : P.underlying t = some (.map kt et)) (hm : cg d.o d.L m = .mp p) (hkey : (cg d.o d.L k).fk = some key)
    (hck : ev P (Instr.checkKey false 10000 kt key) = some ()) {es : List (Value × AV)} (hes : H D p = some (.map es)) (hlim : p ≤ cp) (hplt : p < iq ds st0.nx ds.length) (hfind : nn P kt key es = some none) (hst : stays es (es ++ [(key, cg d.o d.L x)]) = true)
    {es' : List (Value × AV)} (hes' : H (jk D i) p = some (.map es')) (hsame : zr (.map es') (.map (es ++ [(key, cg d.o d.L x)]))) (hoth : ∀ o, o ≠ p → H (jk D i) o = H D o)
    {Q : Exit → Act → World → Prop} {K : Act → World → Prop} (hK : ∀ a' w', At H ops ds L0 g0 st0 w0 df nt (iq ds st0.nx ds.length) (jk D i) a' w' → K a' w') : wpOpIn (ff ro) N P ops Q i K a w := by
  have ho := R.get hi
  have hbef := uf A.closed ho hr
  have hcl := A.closed.jk ho hr
  obtain ⟨a1, a2, a3, a4⟩ := R.tn i d hi
  obtain ⟨g, h, h1, h2, h3, h4, h5⟩ := A.mem
  have slot : ∀ t ∈ sq ops d.o, jg ds L0 D ds.length t = lk d.L t := by
    intro t ht
    have hlt : i < ds.length := (List.getElem?_eq_some_iff.1 hi).1
    have := Jl (L0 := L0) (D := D) (i := i) (t := t) (ds := ds) (fun k e hk he => ?_) ds.length
    · rw [this, a1 t]; congr 1; omega
    · rcases Nat.lt_trichotomy k i with hlt' | rfl | hgt
      · have := R.slots i k d e t (by omega) hi hk ht he
        rw [show max i k = i from by omega, show min i k = k from by omega] at this
        exact ⟨fun _ => hlt', fun _ => hbef k this⟩
      · exact ⟨(fun q => by rw [hD] at q; cases q), (fun q => by omega)⟩
      · have := R.slots i k d e t (by omega) hi hk ht he
        rw [show max i k = k from by omega, show min i k = i from by omega] at this
        exact ⟨(fun q => by have := A.closed k i q this; rw [hD] at this; cases this), (fun q => by omega)⟩
  have mono1 : ∀ i d, ds[i]? = some d → d.st.nx = iq ds st0.nx i ∧ d.st.nx ≤ d.bd.nx := fun i d hd => ⟨(R.tn i d hd).2.2.1, (R.tn i d hd).2.2.2⟩
  have hp : ∀ q ∈ [p], q ≤ cp := fun q hq => by rw [List.mem_singleton] at hq; subst hq; exact hlim
  have hmask : ∀ o, (jj h [p]).get o = if o = p then h.get o else none := fun o => by rw [oo _ _ _ hp]; simp
  have hsub : ∀ o x, (jj h [p]).get o = some x → h.get o = some x := fun o x hx => by
    rw [hmask] at hx
    by_cases e : o = p
    · rw [if_pos e] at hx; exact hx
    · rw [if_neg e] at hx; cases hx
  have hrel : ly g w (cg d.o d.L) a.eval := Sj fun t ⟨x, hx, e⟩ => by
    have hu : t ∈ sq ops d.o := by
      simp only [sq, List.mem_append, List.mem_filterMap]
      exact .inl (.inr ⟨x, hx, by rw [e]⟩)
    rw [← slot t hu]
    exact h4 t
  have hgp : (jj h [p]).get p = some (.map es) := by rw [hmask, if_pos rfl, h1, hes]
  obtain ⟨bd, hst1⟩ : ∃ bd : St, bd = { h := (jj h [p]).set depth p (some (.map (es ++ [(key, cg d.o d.L x)]))), nx := iq ds st0.nx ds.length, rl := [p], wl := [p] } := ⟨_, rfl⟩
  have hrun : eg P T d.o (cg d.o d.L) { h := jj h [p], nx := iq ds st0.nx ds.length, rl := [], wl := [] } = some (.sc undef, bd) := by
    have h6 : Ai P d.o (cg d.o d.L) { h := jj h [p], nx := iq ds st0.nx ds.length, rl := [], wl := [] } = some (.sc undef, bd) := by
      unfold Ai
      rw [hop]
      simp only [kr, hu, hm, hkey, M.bind, cw, hgp, ot, hck, hfind, hst, cond_true, gz, M.pure, hst1]
      rw [show Nat.ble p cp = true from Nat.ble_eq_true_of_le hlim]
      rfl
    have h7 : eg P T d.o (cg d.o d.L) = mono (Ai P d.o (cg d.o d.L)) := by unfold eg; rw [hop]
    rw [h7, mono, h6]
    simp only
    rw [hst1]
    simp only
    rw [show Nat.ble (iq ds st0.nx ds.length) (iq ds st0.nx ds.length) = true from Nat.ble_eq_true_of_le (Nat.le_refl _)]
    rfl
  unfold wpOpIn
  rw [ho]
  dsimp only
  rw [if_pos (by simp [Region.wanted, hgd])]
  refine Dr hT (h2.part hsub) (fun o q1 q2 => by rw [hst1] at q2; exact absurd (Nat.lt_of_le_of_lt q1 q2) (Nat.lt_irrefl _)) (fun o x hx => ?_) hrel hrun ro N _ _ ?_
  · have hx' : (jj h [p]).get o = some x := hx
    rw [hmask] at hx'
    by_cases e : o = p
    · subst e; exact hplt
    · rw [if_neg e] at hx'; cases hx'
  rintro u w' ⟨g', q1, q2, q3⟩
  have hget1 : ∀ o, bd.h.get o = if o = p then some (.map (es ++ [(key, cg d.o d.L x)])) else none := fun o => by
    rw [hst1]
    simp only
    rw [ee _ _ _ _ hlim, hmask]
    by_cases e : o = p
    · rw [if_pos e, if_pos e]
    · rw [if_neg e, if_neg e, if_neg e]
  have hfs := P5 (h' := oa bd.h [p] h) (S := fun o => o ∈ [p]) h2 hsub (fun o x hx => by
    rw [hmask] at hx
    by_cases e : o = p
    · rw [e]; exact List.mem_singleton.2 rfl
    · rw [if_neg e] at hx; cases hx) q1 q2 (fun o hS => by rw [m7 _ _ _ _ hp, if_pos hS]) (fun o hS => by rw [m7 _ _ _ _ hp, if_neg hS]) (fun o e1 e2 => by rw [hst1] at e2; exact absurd (Nat.lt_of_le_of_lt e1 e2) (Nat.lt_irrefl _))
  have hH : ∀ o, ((oa bd.h [p] h).set depth p (some (.map es'))).get o = H (jk D i) o := fun o => by
    rw [ee _ _ _ _ hlim]
    by_cases e : o = p
    · rw [if_pos e, e, hes']
    · rw [if_neg e, m7 _ _ _ _ hp, if_neg (by simpa using e), h1, hoth o e]
  have hcov : ∀ o y, ((oa bd.h [p] h).set depth p (some (.map es'))).get o = some y → ∃ z, (oa bd.h [p] h).get o = some z ∧ zr y z := fun o y hy => by
    rw [ee _ _ _ _ hlim] at hy
    by_cases e : o = p
    · rw [if_pos e] at hy
      cases hy
      refine ⟨_, ?_, hsame⟩
      rw [m7 _ _ _ _ hp, if_pos (by simpa using e), hget1, if_pos e]
    · rw [if_neg e] at hy
      exact ⟨y, hy, .rfl _⟩
  have hnx1 : bd.nx = iq ds st0.nx ds.length := by rw [hst1]
  refine hK _ _ ⟨⟨g', _, hH, hfs.2.ab5 hcov, (h3.both ((by have := hfs.1; rw [hnx1] at this; exact this.X9 (kc mono1 ds.length 0 (Nat.zero_le _)) (Nat.le_refl _)))).ab5 hcov, fun t => ?_, fun k e hk hkD o o1 o2 => ?_⟩, by rw [Om]; exact A.size, by rw [put_defers]; exact A.defers, hcl⟩
  · rw [Pa hi (fun q => by rw [hdst] at q; cases q), if_neg (fun q => by have := q.1; rw [hdst] at this; cases this), hdst]
    exact (h4 t).ext q1.ext
  · have hki : k ≠ i := fun q => by subst q; simp [jk] at hkD
    simp only [jk, if_neg hki] at hkD
    exact q1.fresh o (h5 k e hk hkD o o1 o2) (fun q => by have := q.2; rw [hnx1] at this; exact absurd (Nat.lt_of_le_of_lt q.1 this) (Nat.lt_irrefl _))
theorem W9 {P : Program} {T : dy} (hm : P.follows .mixedOrders = true) {H : (Nat → Bool) → Nat → Option ba} {ops : Array Oper} {ro : Option Nat} {N : Nat} {B : fg} {nt id : Nat} {Q : Exit → Act → World → Prop} {ds : List DS} {L : SL} {st : St} {L' : SL} {st' stF : St} (R : sf P T ops ds L st L' st')
    {g : Gh} {w : World} {a : Act} (h0 : ∀ o, H (fun _ => false) o = st.h.get o) (hF : ∀ D, (∀ i, i < ds.length → D i = true) → ∀ o, H D o = stF.h.get o) (hnF : stF.nx = st'.nx)
    (hstep : ∀ (w0 : World) (D : Nat → Bool) (a' : Act) (w' : World) (i : Nat) (d : DS) (Q : Exit → Act → World → Prop) (K : Act → World → Prop), ds[i]? = some d → D i = false → (∀ e ∈ d.o.after, Region.binds .any e = true → D e.on = true) → At H ops ds L g st w0 a.defers nt (iq ds st.nx ds.length) D a' w' → (∀ a'' w'', At H ops ds L g st w0 a.defers nt (iq ds st.nx ds.length) (jk D i) a'' w'' → K a'' w'') → wpOpIn (ff ro) N P ops Q i K a' w')
    (hnear : B.tl st.nx st'.nx) (hc : ek B g st w) (hr : dt g w nt L a.tmps) (hd : Marks B.n0 st.h g w a.defers)
    (hK : ∀ g w a', ek B g stF w → dt g w nt L' a'.tmps → Marks B.n0 stF.h g w a'.defers → a'.defers = a.defers → Q .normal a' w) :
    (Code.region id ops true).wpIn (ff ro) N P Q a w := by
  have c1 := R.tn
  obtain ⟨c2, c3, c4⟩ := R.fin
  have hc1 := hc.drawn
  have hd' : Marks B.n0 st.h g { w with drawn := w.drawn + 1 } a.defers := hd
  have mono1 : ∀ i d, ds[i]? = some d → d.st.nx = iq ds st.nx i ∧ d.st.nx ≤ d.bd.nx := fun i d hd => ⟨(c1 i d hd).2.2.1, (c1 i d hd).2.2.2⟩
  refine wpIn_region_any hm (amx (H := H) (L0 := L) (g0 := g) (st0 := st) (w0 := { w with drawn := w.drawn + 1 }) (df := a.defers) R (fun D a w i d Q K hi hD hr A hK => hstep _ D a w i d Q K hi hD hr A hK) ?_ ops.size _ a _ (by simp) ?_ ?_)
  · intro D a' w' hall A
    obtain ⟨g', h', q1, q2, q3, q4, q5⟩ := A.mem
    have hh : ∀ o, h'.get o = stF.h.get o := fun o => by rw [q1 o, hF D hall o]
    have hle : st.nx ≤ st'.nx := by rw [c4]; exact kc mono1 ds.length 0 (Nat.zero_le _)
    refine hK g' w' a' (hc1.step (st' := stF) (by rw [hnF]; exact hnear) ⟨by rw [hnF]; exact hle, ?_⟩ (q2.congr hh)) ⟨A.size, fun t => ?_⟩ (by rw [A.defers]; exact Marks.congr (Marks.step q3 hd') hh) A.defers
    · rw [hnF, c4]; exact q3.congr hh
    · rw [c2 t, ← Pe _ hall]; exact q4 t
  · exact Tx _ _
  · have hf : (fun k => (Array.replicate ops.size false).getD k false) = fun _ => false := by
      funext k
      simp only [Array.getD_eq_getD_getElem?, Array.getElem?_replicate]
      split <;> rfl
    rw [hf]
    exact ⟨⟨g, st.h, fun o => (h0 o).symm, hc1.ok, .refl _ _ _ _ _, fun t => by
        rw [Jw]; exact (hr.2 t).ext (Ext.same (w := w) (w' := { w with drawn := w.drawn + 1 }) rfl), fun i d hd _ o h1 h9 => hc.fresh o (by
        have := kc mono1 i 0 (Nat.zero_le _)
        rw [(c1 i d hd).2.2.1] at h1
        exact Nat.le_trans this h1) (hnear o (by
        have := kc mono1 i 0 (Nat.zero_le _)
        rw [(c1 i d hd).2.2.1] at h1
        exact Nat.le_trans this h1) (by
        rw [c4]
        have h10 := kc mono1 ds.length (i + 1) (List.getElem?_eq_some_iff.1 hd).1
        rw [iq.eq_2, hd] at h10
        exact Nat.lt_of_lt_of_le h9 h10))⟩, hr.1, rfl, fun i k hik => by cases hik⟩
theorem C4 {ds : List DS} {h0 : Tr ba} {D : Nat → Bool} {p : Nat} : ∀ m, (∀ k e, k < m → ds[k]? = some e → D k = true → p ∉ e.W) → i5 ds h0 D m p = h0.get p
  | 0, _ => rfl
  | m + 1, h => by
    have ih := C4 (h0 := h0) (D := D) (p := p) m (fun k e hk => h k e (by omega))
    rw [i5]
    cases hd : ds[m]? with
    | none => exact ih
    | some d =>
      simp only
      rw [if_neg (fun q => h m d (by omega) hd q.1 q.2), ih]
theorem Wx {ds : List DS} {h0 : Tr ba} {D : Nat → Bool} {p k0 : Nat} {d : DS} (hd : ds[k0]? = some d) (hW : p ∈ d.W) (hD : D k0 = true) (ho : ∀ k e, ds[k]? = some e → k ≠ k0 → p ∉ e.W) : ∀ m, k0 < m → i5 ds h0 D m p = d.bd.h.get p
  | 0, h => by omega
  | m + 1, h => by
    rw [i5]
    by_cases e : m = k0
    · subst e
      rw [hd]
      simp only
      rw [if_pos ⟨hD, hW⟩]
    · have ih := Wx (h0 := h0) hd hW hD ho m (by omega)
      cases hm : ds[m]? with
      | none => exact ih
      | some f =>
        simp only
        rw [if_neg (fun q => ho m f hm e q.2), ih]
def Kr (ds : List DS) (h0 : Tr ba) (p k0 : Nat) (lits : List Lit) (D : Nat → Bool) (o : Nat) : Option ba := if o = p then (if D k0 = true then some (.map (oh lits D)) else h0.get p) else i5 ds h0 D ds.length o
structure avl (P : Program) (ops : Array Oper) (ds : List DS) (p k0 : Nat) (q : Lit) : Prop where
  tn : ∃ d, ds[q.i]? = some d ∧ ∃ t m k x kt et, d.o.op = .insert t m k x ∧ d.o.dst = none ∧ d.o.guard = none ∧ P.underlying t = some (.map kt et) ∧ P.underlying kt = some q.d ∧ cg d.o d.L m = .mp p ∧ (cg d.o d.L k).fk = some q.e.1 ∧ ev P (Instr.checkKey false 10000 kt q.e.1) = some () ∧ cg d.o d.L x = q.e.2
  bef : ((Region.before ops).getD q.i 0).testBit k0 = true
theorem alx {P : Program} {T : dy} (hT : mr P T) (hm : P.follows .mixedOrders = true) {ops : Array Oper} {ro : Option Nat} {N : Nat} {B : fg} {nt id : Nat} {Q : Exit → Act → World → Prop} (hg : n6 nt ops = true) (hdst : sv nt ops = true) {ds : List DS} {L : SL} {st : St} {L' : SL} {st' stF : St} (R : sf P T ops ds L st L' st') (C : Calm ops ds)
    (hgY : ∀ d ∈ ds, tm ops d.L d.o = some d.want) {p k0 : Nat} {lits : List Lit} (hl : adi lits) (hat : ∀ q ∈ lits, avl P ops ds p k0 q) (hall : ∀ i d, ds[i]? = some d → sa d.o = true → ∃ q ∈ lits, q.i = i) {d0 : DS} (hk0 : ds[k0]? = some d0) (hk0' : sa d0.o = false) (hno : ∀ k e, ds[k]? = some e → k ≠ k0 → p ∉ e.R ∧ p ∉ e.W)
    (hp : st'.h.get p = some (.map [])) (hplt : p < st'.nx) (hlim : p ≤ cp) (hF : ∀ o, stF.h.get o = if o = p then some (.map (lits.map (·.e))) else st'.h.get o) (hnF : stF.nx = st'.nx)
    {g : Gh} {w : World} {a : Act} (hnear : B.tl st.nx st'.nx) (hc : ek B g st w) (hr : dt g w nt L a.tmps) (hd : Marks B.n0 st.h g w a.defers)
    (hK : ∀ g w a', ek B g stF w → dt g w nt L' a'.tmps → Marks B.n0 stF.h g w a'.defers → a'.defers = a.defers → Q .normal a' w) :
    (Code.region id ops true).wpIn (ff ro) N P Q a w := by
  have hlt0 : k0 < ds.length := (List.getElem?_eq_some_iff.1 hk0).1
  have hlen : ∀ q ∈ lits, q.i < ds.length := fun q hq => by
    obtain ⟨d, h1, _⟩ := (hat q hq).tn
    exact (List.getElem?_eq_some_iff.1 h1).1
  have hne0 : ∀ q ∈ lits, q.i ≠ k0 := fun q hq e => by
    obtain ⟨d, h1, t, m, k, x, kt, et, h2, _⟩ := (hat q hq).tn
    rw [e, hk0] at h1
    cases h1
    unfold sa at hk0'
    rw [h2] at hk0'
    cases hk0'
  have hfin : i5 ds st.h (fun _ => true) ds.length p = some (.map []) := by rw [← R.fin.2.1 p, hp]
  have hW0 : p ∈ d0.W → d0.bd.h.get p = some (.map []) := fun hW => by
    rw [← Wx (h0 := st.h) (D := fun _ => true) hk0 hW rfl (fun k e hk hne => (hno k e hk hne).2) ds.length hlt0]; exact hfin
  have hN0 : p ∉ d0.W → st.h.get p = some (.map []) := fun hW => by
    rw [← C4 (h0 := st.h) (D := fun _ => true) (p := p) ds.length (fun k e _ hk _ => by
      by_cases h : k = k0
      · rw [h, hk0] at hk; cases hk; exact hW
      · exact (hno k e hk h).2)]
    exact hfin
  have hnx : st'.nx = iq ds st.nx ds.length := R.fin.2.2
  refine W9 hm (H := Kr ds st.h p k0 lits) (stF := stF) R (fun o => ?_) (fun D hD o => ?_) hnF (fun w0 D a' w' i d Q K hi hD hrd A hK => ?_) hnear hc hr hd hK
  · unfold Kr
    by_cases e : o = p
    · rw [if_pos e, if_neg (by simp), e]
    · rw [if_neg e, Ec]
  · unfold Kr
    rw [hF]
    by_cases e : o = p
    · rw [if_pos e, if_pos e, if_pos (hD k0 hlt0), ao2 (fun q hq => hD _ (hlen q hq))]
    · rw [if_neg e, if_neg e, G4 _ hD, ← R.fin.2.1 o]
  · have hbef := uf A.closed (R.get hi) hrd
    have hmem := List.mem_of_getElem? hi
    have hgv := hgY d hmem
    have hcalm := Cu R C hi hD A.closed hrd
    cases hins : sa d.o with
    | false =>
      have hgv' : wc ops d.L d.o = some d.want := by unfold tm at hgv; rw [hins] at hgv; exact hgv
      have hnl : ∀ q ∈ lits, q.i ≠ i := fun q hq e => by
        obtain ⟨d', h1, t, m, k, x, kt, et, h2, _⟩ := (hat q hq).tn
        rw [e, hi] at h1
        cases h1
        unfold sa at hins
        rw [h2] at hins
        cases hins
      refine At.step hT R hg hdst hi hgv' (fun o ho => ?_) (fun o => ?_) hD hrd A hK
      · unfold Kr
        by_cases e : o = p
        · subst e
          by_cases hik : i = k0
          · subst hik
            rw [if_pos rfl, if_neg (by rw [hD]; simp)]
            rw [(R.tn i d hi).2.1 o, C4 i (fun k e hk he _ => (hno k e he (by omega)).2)]
          · exact ((hno i d hi hik).1 ho).elim
        · rw [if_neg e]; exact hcalm.1 o ho
      · unfold Kr
        by_cases e : o = p
        · subst e
          rw [if_pos rfl, if_pos rfl]
          by_cases hik : i = k0
          · subst hik
            rw [hk0] at hi
            cases hi
            have hen : oh lits (jk D i) = [] := al9 (fun q hq => by
              have hne := hne0 q hq
              simp only [jk, if_neg hne]
              cases hDq : D q.i with
              | false => rfl
              | true => have := A.closed q.i i hDq (hat q hq).bef; rw [hD] at this; cases this)
            rw [if_pos (show jk D i i = true from by simp [jk]), hen]
            by_cases hW : o ∈ d0.W
            · rw [if_pos hW, hW0 hW]
            · rw [if_neg hW, if_neg (by rw [hD]; simp), hN0 hW]
          · rw [if_neg (hno i d hi hik).2, aj9 hnl]
            simp only [jk, if_neg (Ne.symm hik)]
        · rw [if_neg e, if_neg e]; exact hcalm.2 o
    | true =>
      obtain ⟨q, hq, rfl⟩ := hall i d hi hins
      obtain ⟨d', h1, t, m, k, x, kt, et, h2, h3, h4, h5, h6, h7, h8, h9, h10⟩ := (hat q hq).tn
      rw [hi] at h1
      cases h1
      have hDk : D k0 = true := hbef k0 (hat q hq).bef
      have hne := hne0 q hq
      have hothers : ∀ e ∈ oh lits D, ∃ r ∈ lits, r.i ≠ q.i ∧ r.e = e := fun e he => by
        obtain ⟨r, r1, r2, r3⟩ := Ym he
        exact ⟨r, r1, (fun e => by rw [e, hD] at r2; cases r2), r3⟩
      have hperm := aqc hl.idx hq hD
      have hW : d.W = [] := by
        have : d.want = false := by
          unfold tm at hgv
          rw [hins] at hgv
          simpa using hgv.symm
        exact ((R.ok d hmem).skip this).2.2.2
      refine At.ins hT R hi hD hrd A h2 h3 h4 h5 h7 h8 h9 (es := oh lits D) (es' := oh lits (jk D q.i)) ?_ hlim (by rw [← hnx]; exact hplt) (Q4 h6 (fun e he => ?_)) ?_ ?_ ?_ (fun o e => ?_) hK
      · unfold Kr; rw [if_pos rfl, if_pos hDk]
      · obtain ⟨r, r1, r2, rfl⟩ := hothers e he
        exact (hl.apart q hq r r1 (Ne.symm r2)).2
      · have hqe : (q.e.1, cg d.o d.L x) = q.e := by rw [h10]
        rw [hqe]
        unfold stays
        cases hlo : loose (oh lits D) with
        | false => rfl
        | true =>
          have : loose (oh lits D ++ [q.e]) = true := by
            unfold loose at hlo ⊢
            simp only [Bool.and_eq_true] at hlo ⊢
            refine ⟨Nat.ble_eq_true_of_le (by have := Nat.le_of_ble_eq_true hlo.1; rw [List.length_append]; omega), ?_⟩
            have key : ∀ l : List (Value × AV), nf l = true → (∀ e ∈ l, ma e.1 q.e.1 = true) → nf (l ++ [q.e]) = true := by
              intro l
              induction l with
              | nil => intro _ _; rfl
              | cons b l ih =>
                intro h1 h2
                simp only [nf, List.cons_append, Bool.and_eq_true, List.all_eq_true] at h1 ⊢
                refine ⟨fun y hy => ?_, ih h1.2 (fun e he => h2 e (by simp [he]))⟩
                rcases List.mem_append.1 hy with hy | hy
                · exact h1.1 y hy
                · rw [List.mem_singleton] at hy; rw [hy]; exact h2 b (by simp)
            refine key _ hlo.2 (fun e he => ?_)
            obtain ⟨r, r1, r2, rfl⟩ := hothers e he
            exact (hl.apart r r1 q hq r2).1
          rw [this]; rfl
      · unfold Kr; rw [if_pos rfl, if_pos (by simp [jk, hDk])]
      · have hqe : (q.e.1, cg d.o d.L x) = q.e := by rw [h10]
        rw [hqe]
        by_cases h2 : 2 ≤ (oh lits (jk D q.i)).length
        · refine .perm _ _ hperm ?_
          unfold loose
          rw [Nat.ble_eq_true_of_le h2, Ms hl]
          rfl
        · have h3 : (oh lits D).length = 0 := by have := hperm.length_eq; rw [List.length_append] at this; simp at this; omega
          have h4 : oh lits D = [] := List.eq_nil_of_length_eq_zero h3
          rw [h4] at hperm ⊢
          rw [List.nil_append] at hperm ⊢
          rw [List.perm_singleton.1 hperm]
          exact .rfl _
      · unfold Kr
        rw [if_neg e, if_neg e, hcalm.2 o, hW, if_neg (by simp)]
end
end Go.Vm
section
set_option linter.unusedSimpArgs false
set_option linter.unusedVariables false
namespace Go.Vm
def y8 (a : UInt32) : Value × AV := (.int .u32 a.toNat, .sc (.bool true))
def j4 (l : List UInt32) : List (Value × AV) := l.map y8
theorem Pf (a b : UInt32) : Instr.sameNow (.int .u32) (.int .u32 a.toNat) (y8 b).1 = some (a == b) := by
  show (if IntKind.u32 = IntKind.u32 then some (((a.toNat : Int)) == (b.toNat : Int)) else none) = _
  rw [if_pos rfl]
  congr 1
  rw [Bool.eq_iff_iff, beq_iff_eq, beq_iff_eq]
  exact ⟨fun h => UInt32.toNat_inj.1 (by omega), fun h => by rw [h]⟩
theorem Q5 {P : Program} {kt : TypeId} (hu : P.underlying kt = some (.int .u32)) (a : UInt32) (l : List UInt32) :
    (l.contains a = false ∧ nn P kt (.int .u32 a.toNat) (j4 l) = some none) ∨ (l.contains a = true ∧ ∃ i, nn P kt (.int .u32 a.toNat) (j4 l) = some (some i) ∧ (j4 l)[i]? = some (y8 a)) := by
  have hall : ∀ m ∈ kl (j4 l), (Instr.sameNow (.int .u32) (.int .u32 a.toNat) m.key).isSome = true := fun m hm => by
    simp only [kl, j4, List.map_map, List.mem_map] at hm
    obtain ⟨b, _, rfl⟩ := hm
    show (Instr.sameNow _ _ (y8 b).1).isSome = true
    rw [Pf]; rfl
  rcases vu (.int .u32) (.int .u32 a.toNat) (kl (j4 l)) 0 hall with ⟨h1, h2⟩ | ⟨j, m, h1, h2, h3⟩
  · refine .inl ⟨?_, Q4 hu fun e he => ?_⟩
    · cases hc : l.contains a with
      | false => rfl
      | true =>
        have := h2 { key := (y8 a).1, val := undef, born := 0 } (by
          simp only [kl, j4, List.map_map, List.mem_map]
          exact ⟨a, by simpa using hc, rfl⟩)
        rw [show ({ key := (y8 a).1, val := undef, born := 0 } : MapEntry).key = (y8 a).1 from rfl, Pf] at this
        simp at this
    · have := h2 { key := e.1, val := undef, born := 0 } (by
        simp only [kl, List.mem_map]
        exact ⟨e, he, rfl⟩)
      exact this
  · simp only [kl, j4, List.map_map, List.getElem?_map, Option.map_eq_some_iff] at h1
    obtain ⟨b, hb, rfl⟩ := h1
    have h2' : Instr.sameNow (.int .u32) (.int .u32 a.toNat) (y8 b).1 = some true := h2
    rw [Pf] at h2'
    have hab : a = b := by simpa using h2'
    subst hab
    refine .inr ⟨by simpa using List.mem_of_getElem? hb, j, ?_, by simp only [j4, List.getElem?_map, hb, Option.map_some]⟩
    have hn : Gq P kt (.int .u32 a.toNat) (j4 l) = true := by unfold Gq; rw [hu]; simp only; rw [h3]; rfl
    unfold nn
    rw [hn, Bool.or_true, cond_true]
    have hevu : ev P (underlying kt) = some (.int .u32) := by
      simp [underlying, program, ev, hu, n5, ta, Sem.bind, bind]
    have : ev P (Instr.findKey kt (.int .u32 a.toNat) (kl (j4 l))) = some (some (j, undef)) := by
      unfold Instr.findKey
      rw [n5, hevu]
      simp only [Option.bind_some]
      rw [h3, Nat.zero_add]; rfl
    rw [this]; rfl
theorem V0 {P : Program} {kt : TypeId} (hu : P.underlying kt = some (.int .u32)) (b : Bool) (v : Value) : ∃ x, ev P (Instr.checkKey b 10000 kt v) = some x := by
  have hevu : ev P (underlying kt) = some (.int .u32) := by
    simp [underlying, program, ev, hu, n5, ta, Sem.bind, bind]
  refine ⟨(), ?_⟩
  show ev P (Instr.checkKey b (9999 + 1) kt v) = _
  rw [Instr.checkKey, n5, hevu]
  rfl
theorem av6 {P : Program} {kt et : TypeId} (hu : P.underlying kt = some (.int .u32)) (hz : ec P et = some (.bool false)) (a : UInt32) (l : List UInt32) : ui P kt et (.int .u32 a.toNat) false (.map (j4 l)) = .pure (.sc (.bool (l.contains a))) := by
  unfold ui
  simp only
  obtain ⟨x, hx⟩ := V0 hu (j4 l).isEmpty (.int .u32 a.toNat)
  rw [hx]
  rcases Q5 hu a l with ⟨h1, h2⟩ | ⟨h1, i, h2, h3⟩
  · rw [h2, h1]; simp only [found, hz]; rfl
  · rw [h2, h1]; simp only [h3, found, hz]; rfl
theorem ai9 {a b : UInt32} (h : a ≠ b) : ma (y8 a).1 (y8 b).1 = true := by
  show (decide (IntKind.u32 = IntKind.u32) && !((a.toNat : Int) == (b.toNat : Int))) = true
  have : ¬ (a.toNat : Int) = b.toNat := fun q => h (UInt32.toNat_inj.1 (by omega))
  simp [this]
theorem Mw : ∀ (l : List UInt32), l.Nodup → nf (j4 l) = true
  | [], _ => rfl
  | a :: l, h => by
    have h1 := Mw l (List.nodup_cons.1 h).2
    show (_ && nf (j4 l)) = true
    rw [h1, Bool.and_true, List.all_eq_true]
    intro e he
    obtain ⟨b, hb, rfl⟩ := List.mem_map.1 he
    exact ai9 fun q => (List.nodup_cons.1 h).1 (by rw [q]; exact hb)
theorem ajp (l : List UInt32) (a : UInt32) (h : (l ++ [a]).Nodup) : stays (j4 l) (j4 (l ++ [a])) = true := by
  have h1 := Mw _ h
  have hl : (j4 l).length = l.length := by simp [j4]
  have hl2 : (j4 (l ++ [a])).length = l.length + 1 := by simp [j4]
  unfold stays loose
  rw [h1, hl, hl2]
  cases hb : Nat.ble 2 l.length with
  | false => simp
  | true =>
    have h2 : 2 ≤ l.length := Nat.le_of_ble_eq_true hb
    have : Nat.ble 2 (l.length + 1) = true := Nat.ble_eq_true_of_le (by omega)
    simp [this]
theorem aw9 {P : Program} {kt : TypeId} (hu : P.underlying kt = some (.int .u32)) (id : Nat) (a : UInt32) (l : List UInt32) (h : l.contains a = false) (hn : l.Nodup) :
    ot P id kt (.int .u32 a.toNat) (.sc (.bool true)) (.map (j4 l)) = (gz id (.map (j4 (l ++ [a])))).bind fun _ => .pure (.sc undef) := by
  unfold ot
  simp only
  obtain ⟨x, hx⟩ := V0 hu false (.int .u32 a.toNat)
  rw [hx]
  have hd : (l ++ [a]).Nodup := List.nodup_append.2 ⟨hn, by simp, fun q hq y hy => by
    rw [List.mem_singleton] at hy
    subst hy
    intro e; subst e
    have : l.contains q = true := by simpa using hq
    rw [h] at this; cases this⟩
  rcases Q5 hu a l with ⟨h1, h2⟩ | ⟨h1, _⟩
  · have e : j4 l ++ [((.int .u32 a.toNat : Value), AV.sc (.bool true))] = j4 (l ++ [a]) := by simp [j4, y8]
    rw [h2]
    simp only [e, ajp l a hd, cond_true]
  · rw [h] at h1; cases h1
theorem vj (l : List UInt32) : AV.names.go ((j4 l).map fun x => x.2) = [] := by
  induction l with
  | nil => rfl
  | cons a l ih => exact ih
theorem zc (τ : Nat → Option Nat) (l : List UInt32) : ((j4 l).map fun e => (e.1, e.2.c0 τ)) = j4 l := by
  induction l with
  | nil => rfl
  | cons a l ih => show y8 a :: (j4 l).map _ = y8 a :: j4 l; rw [ih]
theorem aln (v : Value) : (AV.sc v).fk = some v := rfl
end Go.Vm
end
section
set_option linter.unusedSimpArgs false
set_option linter.unusedVariables false
namespace Go.Proofs.YtidomogemfchpaaGreat
open Go.Vm
set_option maxRecDepth 2000000
def Nn (k : Int) : List Int → List Int → Int
  | _, [] => 0
  | pre, i :: r => if i < 0 ∨ (i ≥ k ∨ pre.contains i = true) then 301 else Nn k (pre ++ [i]) r
theorem at3 {l : List Int} {i : Nat} {c k : Int} (hc : l[i]? = some c) : Nn k (l.take i) (l.drop i) = if c < 0 ∨ (c ≥ k ∨ (l.take i).contains c = true) then 301 else Nn k (l.take (i + 1)) (l.drop (i + 1)) := by
  obtain ⟨hi, rfl⟩ := List.getElem?_eq_some_iff.1 hc
  rw [List.drop_eq_getElem_cons hi, Nn, List.take_succ_eq_append_getElem hi]
def Ax (k : Int) : List UInt32 → List tv → Int
  | _, [] => 0
  | met, h :: r => if met.contains h.addr = true ∨ (h.au.length : Int) = 0 then 301 else if Nn k [] h.au ≠ 0 then 301 else Ax k (met ++ [h.addr]) r
theorem alu {l : List tv} {i : Nat} {c : tv} {k : Int} (met : List UInt32) (h : l.drop i = c :: l.drop (i + 1)) : Ax k met (l.drop i) = if met.contains c.addr = true ∨ (c.au.length : Int) = 0 then 301 else if Nn k [] c.au ≠ 0 then 301 else Ax k (met ++ [c.addr]) (l.drop (i + 1)) := by rw [h]; rfl
def uk (w : bc) : Int := if Ax w.au.length [] w.db ≠ 0 then 301 else if (w.db.length : Int) = 0 then 301 else 0
theorem atu : PP.underlying 142 = some (.map 37 4) := by kernel_rfl
theorem auz : PP.underlying 37 = some (.int .u32) := by kernel_rfl
theorem avj : ec PP 4 = some (.bool false) := by kernel_rfl
set_option maxHeartbeats 4000000 in
theorem aok (w : bc) (hw : cy w) : wl PP [aac] 0 (Tryz.f43.body.getD .skip) (de PP Tryz.f43.results.toList (fun r st => (r1 (aw .i64)).get true st.h r = some (uk w))) (cb 0 [cd.val false w]) (bp []) := by
  have hl := hw.hlen
  have hzl := hw.Dd
  have lkU := av6 auz avj
  unfold Tryz.f43
  simp only [eb]
  simp only [↓wR, RA, simprocAttr, TF, ae, p0]
  refine c6 [1, 3, 11, 12, 13] (fun (x : Nat × List UInt32) => [.ptr 0 0, .mp 1, .vl false 2 (w.db.map (dj.val false)), .sc (.int .i64 (w.db.length)), .sc (.int .i64 (x.1))]) (fun x => [some (.row [.vl false 2 (w.au.map (bn.val false)), .vl false 2 (w.db.map (dj.val false)), .vl false 1 (w.hints.map (be.val false))] 0 2 100), some (.map (j4 x.2))]) (fun x => x.1 ≤ w.db.length ∧ (Ax w.au.length [] w.db = Ax w.au.length x.2 (w.db.drop x.1) ∧ x.2.Nodup)) (fun x => w.db.length - x.1) (0, []) ⟨Nat.zero_le _, rfl, .nil⟩ (by simp only [↓wR, RA, simprocAttr, TF, ae] <;> rfl) (by simp only [↓wR, RA, simprocAttr, TF, ae] <;> rfl) ?_
  rintro ⟨i, met⟩ ⟨hi, hx, hnd⟩
  simp only at hi hx hnd
  have bad : Ax w.au.length [] w.db = 301 → uk w = 301 := fun q => by unfold uk; rw [q, if_pos (by decide)]
  simp only [↓wR, RA, simprocAttr, TF, ae]
  rw [bf]; refine ⟨fun h => ?_, fun h => ?_⟩
  · obtain ⟨c, hc, hd1, hlt⟩ := di (decide_eq_true h)
    rw [alu met hd1] at hx
    have hcz := hw.host c (List.mem_of_getElem? hc)
    simp only [↓wR, RA, simprocAttr, TF, ae, h, hc, atu, lkU, aln]
    rw [bk]; refine ⟨fun h1 => ?_, fun h1 => ?_⟩
    · have e0 := bad (by rw [hx, if_pos (.inl h1)])
      simp only [↓wR, RA, simprocAttr, TF, ae, h1]
      rw [e0]
    simp only [↓wR, RA, simprocAttr, TF, ae, h1]
    rw [dc]; refine ⟨fun ⟨h2, e2⟩ => ?_, fun ⟨h2, e2⟩ => ?_⟩
    · have e0 := bad (by rw [hx, if_pos (.inr e2)])
      simp only [↓wR, RA, simprocAttr, TF, ae, h2]
      rw [e0]
    rw [if_neg (fun q => q.elim (fun q => by rw [h1] at q; cases q) e2)] at hx
    have upU := fun id => aw9 auz id c.addr met h1 hnd
    have hnd2 : (met ++ [c.addr]).Nodup := List.nodup_append.2 ⟨hnd, by simp, fun q hq y hy => by
      rw [List.mem_singleton] at hy
      subst hy
      intro e; subst e
      have : met.contains c.addr = true := by simpa using hq
      rw [h1] at this; cases this⟩
    simp only [↓wR, RA, simprocAttr, TF, ae, h2, kr, atu, upU, aln]
    obtain ⟨met', hm'⟩ : ∃ m, m = met ++ [c.addr] := ⟨_, rfl⟩
    rw [← hm'] at hx hnd2 ⊢
    refine c6 [1, 3, 5, 11, 12, 13, 31, 32, 33] (fun (k : Nat) => [.ptr 0 0, .mp 1, .ptr 2 0, .vl false 2 (w.db.map (dj.val false)), .sc (.int .i64 (w.db.length)), .sc (.int .i64 (i)), .vl false 1 (c.au.map ((aw .i64).val false)), .sc (.int .i64 (c.au.length)), .sc (.int .i64 (k))]) (fun _ => [some (.row [.vl false 2 (w.au.map (bn.val false)), .vl false 2 (w.db.map (dj.val false)), .vl false 1 (w.hints.map (be.val false))] 0 2 100), some (.map (j4 met')), some (.row [.sc (.int .u32 c.addr.toNat), .vl false 1 (c.au.map ((aw .i64).val false))] 0 2 71)]) (fun k => k ≤ c.au.length ∧ Nn w.au.length [] c.au = Nn w.au.length (c.au.take k) (c.au.drop k)) (fun k => c.au.length - k) 0 ⟨Nat.zero_le _, rfl⟩ (by simp only [↓wR, RA, simprocAttr, TF, ae, vj, zc] <;> rfl) (by simp only [↓wR, RA, simprocAttr, TF, ae, vj, zc] <;> rfl) ?_
    rintro k ⟨hk, hy⟩
    simp only [↓wR, RA, simprocAttr, TF, ae]
    rw [bf]; refine ⟨fun h3 => ?_, fun h3 => ?_⟩
    · obtain ⟨q, hq, hd2, hlt2⟩ := di (decide_eq_true h3)
      rw [at3 hq] at hy
      have bad2 : Nn w.au.length [] c.au = 301 → uk w = 301 := fun q => bad (by rw [hx, q, if_pos (by decide)])
      have htk : k ≤ 281474976710656 := by omega
      simp only [↓wR, RA, simprocAttr, TF, ae, h3, hq]
      rw [bf]; refine ⟨fun h4 => ?_, fun h4 => ?_⟩
      · have e0 := bad2 (by rw [hy, if_pos (.inl h4)])
        simp only [↓wR, RA, simprocAttr, TF, ae, h4]
        rw [e0]
      simp only [↓wR, RA, simprocAttr, TF, ae, h4]
      rw [bf]; refine ⟨fun h5 => ?_, fun h5 => ?_⟩
      · have e0 := bad2 (by rw [hy, if_pos (.inr (.inl h5))])
        simp only [↓wR, RA, simprocAttr, TF, ae, h5]
        rw [e0]
      simp only [↓wR, RA, simprocAttr, TF, ae, h5, hk, Gw, htk]
      rw [bk]; refine ⟨fun h6 => ?_, fun h6 => ?_⟩
      · have e0 := bad2 (by rw [hy, if_pos (.inr (.inr h6))])
        simp only [↓wR, RA, simprocAttr, TF, ae, h6]
        rw [e0]
      · rw [if_neg (fun q => q.elim h4 (fun q => q.elim h5 (fun q => by rw [h6] at q; cases q)))] at hy
        simp only [↓wR, RA, simprocAttr, TF, ae, h6, vj, zc]; repeat (simp (disch := omega) only [ah, bu, b7, bw, bz]; try simp only [↓wR, RA, simprocAttr, TF, ae, h6, vj, zc])
        exact ⟨k + 1, ⟨hlt2, hy⟩, by omega, by (first | rfl | trivial | omega | ((try (simp (disch := omega) only [ah])); (try (simp only [FB])); first | done | rfl | omega))⟩
    · rw [du (decide_eq_false h3), Nn] at hy
      rw [hy, if_neg (by decide)] at hx
      simp only [↓wR, RA, simprocAttr, TF, ae, h3, vj, zc]; repeat (simp (disch := omega) only [ah, bu, b7, bw, bz]; try simp only [↓wR, RA, simprocAttr, TF, ae, h3, vj, zc])
      exact ⟨(i + 1, met'), ⟨hlt, hx, hnd2⟩, by simp; omega, by (first | rfl | trivial | omega | ((try (simp (disch := omega) only [ah])); (try (simp only [FB])); first | done | rfl | omega)), by (first | rfl | trivial | omega | ((try (simp (disch := omega) only [ah])); (try (simp only [FB])); first | done | rfl | omega))⟩
  · rw [du (decide_eq_false h), Ax] at hx
    simp only [↓wR, RA, simprocAttr, TF, ae, h]
    unfold uk
    rw [if_neg (by omega)]
    rw [dc]; refine ⟨fun ⟨h2, e2⟩ => ?_, fun ⟨h2, e2⟩ => ?_⟩
    · rw [if_pos e2]
      simp only [↓wR, RA, simprocAttr, TF, ae, h2]
    · rw [if_neg e2]
      simp only [↓wR, RA, simprocAttr, TF, ae, h2]
noncomputable def Fo (x : bc × Unit) : Option AV := if cy x.1 then some ((r1 (aw .i64)).E true (uk x.1)) else none
set_option maxRecDepth 2000000 in
theorem ae1 (x : bc × Unit) (r : AV) (h : Fo x = some r) : bg PP 43 ((aC cd a0).E x) r := by
  by_cases hc : cy x.1
  case neg => simp only [Fo, if_neg hc] at h; cases h
  simp only [Fo, if_pos hc] at h
  cases h
  exact bb (aj.cons (ai Ay) (aj.nil PP)) Tryz.func43 (by kernel_rfl) (by kernel_rfl) (by kernel_rfl) (Nat.le_of_ble_eq_true (by kernel_rfl)) (r1 (aw .i64)) true (uk x.1) (aok x.1 hc)
noncomputable abbrev avd : Nat × Bool × (List AV → M AV) := (43, true, da (aC cd a0) Fo)
end Go.Proofs.YtidomogemfchpaaGreat
end
section
set_option linter.unusedSimpArgs false
set_option linter.unusedVariables false
namespace Go.Proofs.YtidomogemfchpaaGreat
open Go.Vm
set_option maxRecDepth 2000000
noncomputable def ac2 : List Int → Int
  | [] => 0
  | e :: r => if e ≠ 0 then e else ac2 r
noncomputable def aif (w : bc) : List Int := [Ej w, Bi w, s6 w, uk w, wq w, Br w, r9 w, Ab w, Ad w, Aw w]
noncomputable def j0 (w : bc) : Int := ac2 (aif w)
theorem ad7 {w : bc} (h : s6 w = 0) : B6 w := by
  have key : ∀ l : List bh, qy k9 l = 0 → ∀ z ∈ l, k9 z = 0 := by
    intro l
    induction l with
    | nil => intro _ z hz; cases hz
    | cons a l ih =>
      intro h z hz
      rw [qy] at h
      split at h
      · contradiction
      · rename_i q
        rcases List.mem_cons.1 hz with rfl | hz
        · omega
        · exact ih h z hz
  intro z hz s hs ht d hd
  have hg := J4 (key _ h z hz) s hs
  have h1 := (Qo (G6 hg d hd)).1
  have h2 : (ig s.type).names = 1 := by unfold ig; rw [ht]; rfl
  rw [h2] at h1
  intro q
  rw [q] at h1; simp at h1
theorem Dg : A8 PP 102 = some (101, 1, [.sc .nilFunc]) ∧ c8 PP 101 = some 1 ∧ ju PP 101 = some false := ⟨by kernel_rfl, by kernel_rfl, by kernel_rfl⟩
set_option maxHeartbeats 8000000 in
theorem ak2 (w : bc) (hw : cy w) : wl PP [av4, av0, atz, avd, ati, av9, ao5, avi, avw, atv] 0 (Tryz.f16.body.getD .skip) (de PP Tryz.f16.results.toList (fun r st => (r1 (aw .i64)).get true st.h r = some (j0 w))) (cb 0 [cd.val false w]) (bp []) := by
  unfold Tryz.f16
  simp only [eb]
  simp (maxSteps := 9000000) only [↓wR, RA, simprocAttr, TF, ae, Dg]
  have gl : s6 w = 0 → B6 w := ad7
  refine c6 [29, 30, 31] (fun (i : Nat) => [.sl 0 0 10 1, .sc (.int .i64 (10)), .sc (.int .i64 (i))]) (fun _ => [some (.row [.fn (.func 40) [.agg [.vl false 2 (w.au.map (bn.val false)), .vl false 2 (w.db.map (dj.val false)), .vl false 1 (w.hints.map (be.val false))]] [], .fn (.func 41) [.agg [.vl false 2 (w.au.map (bn.val false)), .vl false 2 (w.db.map (dj.val false)), .vl false 1 (w.hints.map (be.val false))]] [], .fn (.func 42) [.agg [.vl false 2 (w.au.map (bn.val false)), .vl false 2 (w.db.map (dj.val false)), .vl false 1 (w.hints.map (be.val false))]] [], .fn (.func 43) [.agg [.vl false 2 (w.au.map (bn.val false)), .vl false 2 (w.db.map (dj.val false)), .vl false 1 (w.hints.map (be.val false))]] [], .fn (.func 44) [.agg [.vl false 2 (w.au.map (bn.val false)), .vl false 2 (w.db.map (dj.val false)), .vl false 1 (w.hints.map (be.val false))]] [], .fn (.func 45) [.agg [.vl false 2 (w.au.map (bn.val false)), .vl false 2 (w.db.map (dj.val false)), .vl false 1 (w.hints.map (be.val false))]] [], .fn (.func 46) [.agg [.vl false 2 (w.au.map (bn.val false)), .vl false 2 (w.db.map (dj.val false)), .vl false 1 (w.hints.map (be.val false))]] [], .fn (.func 47) [.agg [.vl false 2 (w.au.map (bn.val false)), .vl false 2 (w.db.map (dj.val false)), .vl false 1 (w.hints.map (be.val false))]] [], .fn (.func 48) [.agg [.vl false 2 (w.au.map (bn.val false)), .vl false 2 (w.db.map (dj.val false)), .vl false 1 (w.hints.map (be.val false))]] [], .fn (.func 49) [.agg [.vl false 2 (w.au.map (bn.val false)), .vl false 2 (w.db.map (dj.val false)), .vl false 1 (w.hints.map (be.val false))]] []] 0 0 101)]) (fun i => i ≤ 10 ∧ j0 w = ac2 ((aif w).drop i) ∧ (3 ≤ i → s6 w = 0)) (fun i => 10 - i) 0 ⟨by decide, rfl, by omega⟩ (by simp only [↓wR, RA, simprocAttr, TF, ae] <;> rfl) (by simp only [↓wR, RA, simprocAttr, TF, ae] <;> rfl) ?_
  rintro i ⟨hi, hx, hz⟩
  by_cases h10 : i = 10
  · subst h10
    simp only [↓wR, RA, simprocAttr, TF, ae]
    rw [hx] <;> rfl
  have hcase : i = 0 ∨ i = 1 ∨ i = 2 ∨ i = 3 ∨ i = 4 ∨ i = 5 ∨ i = 6 ∨ i = 7 ∨ i = 8 ∨ i = 9 := by omega
  rcases hcase with rfl | rfl | rfl | rfl | rfl | rfl | rfl | rfl | rfl | rfl
  · skip
    simp only [↓wR, RA, simprocAttr, TF, ae, Dg, Zw]
    rw [bk]; refine ⟨fun h => ?_, fun h => ?_⟩
    · have he : Ej w ≠ 0 := by simpa using h
      have e0 : j0 w = Ej w := by rw [hx]; exact if_pos he
      simp only [↓wR, RA, simprocAttr, TF, ae, h]
      rw [e0]
    · have he : Ej w = 0 := by simpa using h
      simp only [↓wR, RA, simprocAttr, TF, ae, h]; repeat (simp (disch := omega) only [ah, bu, b7, bw, bz]; try simp only [↓wR, RA, simprocAttr, TF, ae, h])
      exact ⟨0 + 1, ⟨by decide, by rw [hx]; exact if_neg (fun q => q he), fun q => absurd q (by decide)⟩, by decide, by (first | rfl | trivial | omega | ((try (simp (disch := omega) only [ah])); (try (simp only [FB])); first | done | rfl | omega))⟩
  · skip
    simp only [↓wR, RA, simprocAttr, TF, ae, Dg, Jt, hw]
    rw [bk]; refine ⟨fun h => ?_, fun h => ?_⟩
    · have he : Bi w ≠ 0 := by simpa using h
      have e0 : j0 w = Bi w := by rw [hx]; exact if_pos he
      simp only [↓wR, RA, simprocAttr, TF, ae, h]
      rw [e0]
    · have he : Bi w = 0 := by simpa using h
      simp only [↓wR, RA, simprocAttr, TF, ae, h]; repeat (simp (disch := omega) only [ah, bu, b7, bw, bz]; try simp only [↓wR, RA, simprocAttr, TF, ae, h])
      exact ⟨1 + 1, ⟨by decide, by rw [hx]; exact if_neg (fun q => q he), fun q => absurd q (by decide)⟩, by decide, by (first | rfl | trivial | omega | ((try (simp (disch := omega) only [ah])); (try (simp only [FB])); first | done | rfl | omega))⟩
  · skip
    simp only [↓wR, RA, simprocAttr, TF, ae, Dg, Fm, hw]
    rw [bk]; refine ⟨fun h => ?_, fun h => ?_⟩
    · have he : s6 w ≠ 0 := by simpa using h
      have e0 : j0 w = s6 w := by rw [hx]; exact if_pos he
      simp only [↓wR, RA, simprocAttr, TF, ae, h]
      rw [e0]
    · have he : s6 w = 0 := by simpa using h
      simp only [↓wR, RA, simprocAttr, TF, ae, h]; repeat (simp (disch := omega) only [ah, bu, b7, bw, bz]; try simp only [↓wR, RA, simprocAttr, TF, ae, h])
      exact ⟨2 + 1, ⟨by decide, by rw [hx]; exact if_neg (fun q => q he), fun _ => he⟩, by decide, by (first | rfl | trivial | omega | ((try (simp (disch := omega) only [ah])); (try (simp only [FB])); first | done | rfl | omega))⟩
  · skip
    simp only [↓wR, RA, simprocAttr, TF, ae, Dg, Fo, hw]
    rw [bk]; refine ⟨fun h => ?_, fun h => ?_⟩
    · have he : uk w ≠ 0 := by simpa using h
      have e0 : j0 w = uk w := by rw [hx]; exact if_pos he
      simp only [↓wR, RA, simprocAttr, TF, ae, h]
      rw [e0]
    · have he : uk w = 0 := by simpa using h
      simp only [↓wR, RA, simprocAttr, TF, ae, h]; repeat (simp (disch := omega) only [ah, bu, b7, bw, bz]; try simp only [↓wR, RA, simprocAttr, TF, ae, h])
      exact ⟨3 + 1, ⟨by decide, by rw [hx]; exact if_neg (fun q => q he), fun _ => hz (by decide)⟩, by decide, by (first | rfl | trivial | omega | ((try (simp (disch := omega) only [ah])); (try (simp only [FB])); first | done | rfl | omega))⟩
  · skip
    simp only [↓wR, RA, simprocAttr, TF, ae, Dg, Cf, hw]
    rw [bk]; refine ⟨fun h => ?_, fun h => ?_⟩
    · have he : wq w ≠ 0 := by simpa using h
      have e0 : j0 w = wq w := by rw [hx]; exact if_pos he
      simp only [↓wR, RA, simprocAttr, TF, ae, h]
      rw [e0]
    · have he : wq w = 0 := by simpa using h
      simp only [↓wR, RA, simprocAttr, TF, ae, h]; repeat (simp (disch := omega) only [ah, bu, b7, bw, bz]; try simp only [↓wR, RA, simprocAttr, TF, ae, h])
      exact ⟨4 + 1, ⟨by decide, by rw [hx]; exact if_neg (fun q => q he), fun _ => hz (by decide)⟩, by decide, by (first | rfl | trivial | omega | ((try (simp (disch := omega) only [ah])); (try (simp only [FB])); first | done | rfl | omega))⟩
  · skip
    simp only [↓wR, RA, simprocAttr, TF, ae, Dg, It, hw]
    rw [bk]; refine ⟨fun h => ?_, fun h => ?_⟩
    · have he : Br w ≠ 0 := by simpa using h
      have e0 : j0 w = Br w := by rw [hx]; exact if_pos he
      simp only [↓wR, RA, simprocAttr, TF, ae, h]
      rw [e0]
    · have he : Br w = 0 := by simpa using h
      simp only [↓wR, RA, simprocAttr, TF, ae, h]; repeat (simp (disch := omega) only [ah, bu, b7, bw, bz]; try simp only [↓wR, RA, simprocAttr, TF, ae, h])
      exact ⟨5 + 1, ⟨by decide, by rw [hx]; exact if_neg (fun q => q he), fun _ => hz (by decide)⟩, by decide, by (first | rfl | trivial | omega | ((try (simp (disch := omega) only [ah])); (try (simp only [FB])); first | done | rfl | omega))⟩
  · skip
    simp only [↓wR, RA, simprocAttr, TF, ae, Dg, Ao, hw]
    rw [bk]; refine ⟨fun h => ?_, fun h => ?_⟩
    · have he : r9 w ≠ 0 := by simpa using h
      have e0 : j0 w = r9 w := by rw [hx]; exact if_pos he
      simp only [↓wR, RA, simprocAttr, TF, ae, h]
      rw [e0]
    · have he : r9 w = 0 := by simpa using h
      simp only [↓wR, RA, simprocAttr, TF, ae, h]; repeat (simp (disch := omega) only [ah, bu, b7, bw, bz]; try simp only [↓wR, RA, simprocAttr, TF, ae, h])
      exact ⟨6 + 1, ⟨by decide, by rw [hx]; exact if_neg (fun q => q he), fun _ => hz (by decide)⟩, by decide, by (first | rfl | trivial | omega | ((try (simp (disch := omega) only [ah])); (try (simp only [FB])); first | done | rfl | omega))⟩
  · have hn := gl (hz (by decide))
    simp only [↓wR, RA, simprocAttr, TF, ae, Dg, Jo, hw, hn]
    rw [bk]; refine ⟨fun h => ?_, fun h => ?_⟩
    · have he : Ab w ≠ 0 := by simpa using h
      have e0 : j0 w = Ab w := by rw [hx]; exact if_pos he
      simp only [↓wR, RA, simprocAttr, TF, ae, h]
      rw [e0]
    · have he : Ab w = 0 := by simpa using h
      simp only [↓wR, RA, simprocAttr, TF, ae, h]; repeat (simp (disch := omega) only [ah, bu, b7, bw, bz]; try simp only [↓wR, RA, simprocAttr, TF, ae, h])
      exact ⟨7 + 1, ⟨by decide, by rw [hx]; exact if_neg (fun q => q he), fun _ => hz (by decide)⟩, by decide, by (first | rfl | trivial | omega | ((try (simp (disch := omega) only [ah])); (try (simp only [FB])); first | done | rfl | omega))⟩
  · skip
    simp only [↓wR, RA, simprocAttr, TF, ae, Dg, Im, hw]
    rw [bk]; refine ⟨fun h => ?_, fun h => ?_⟩
    · have he : Ad w ≠ 0 := by simpa using h
      have e0 : j0 w = Ad w := by rw [hx]; exact if_pos he
      simp only [↓wR, RA, simprocAttr, TF, ae, h]
      rw [e0]
    · have he : Ad w = 0 := by simpa using h
      simp only [↓wR, RA, simprocAttr, TF, ae, h]; repeat (simp (disch := omega) only [ah, bu, b7, bw, bz]; try simp only [↓wR, RA, simprocAttr, TF, ae, h])
      exact ⟨8 + 1, ⟨by decide, by rw [hx]; exact if_neg (fun q => q he), fun _ => hz (by decide)⟩, by decide, by (first | rfl | trivial | omega | ((try (simp (disch := omega) only [ah])); (try (simp only [FB])); first | done | rfl | omega))⟩
  · skip
    simp only [↓wR, RA, simprocAttr, TF, ae, Dg, F3, hw]
    rw [bk]; refine ⟨fun h => ?_, fun h => ?_⟩
    · have he : Aw w ≠ 0 := by simpa using h
      have e0 : j0 w = Aw w := by rw [hx]; exact if_pos he
      simp only [↓wR, RA, simprocAttr, TF, ae, h]
      rw [e0]
    · have he : Aw w = 0 := by simpa using h
      simp only [↓wR, RA, simprocAttr, TF, ae, h]; repeat (simp (disch := omega) only [ah, bu, b7, bw, bz]; try simp only [↓wR, RA, simprocAttr, TF, ae, h])
      exact ⟨9 + 1, ⟨by decide, by rw [hx]; exact if_neg (fun q => q he), fun _ => hz (by decide)⟩, by decide, by (first | rfl | trivial | omega | ((try (simp (disch := omega) only [ah])); (try (simp only [FB])); first | done | rfl | omega))⟩
noncomputable def Gf (x : bc × Unit) : Option AV := if cy x.1 then some ((r1 (aw .i64)).E true (j0 x.1)) else none
set_option maxRecDepth 2000000 in
theorem aea (x : bc × Unit) (r : AV) (h : Gf x = some r) : bg PP 16 ((aC cd a0).E x) r := by
  by_cases hc : cy x.1
  case neg => simp only [Gf, if_neg hc] at h; cases h
  simp only [Gf, if_pos hc] at h
  cases h
  exact bb (aj.cons (ai aid) (aj.cons (ai ai3) (aj.cons (ai aet) (aj.cons (ai ae1) (aj.cons (ai acu) (aj.cons (ai ah4) (aj.cons (ai Xg) (aj.cons (ai ahg) (aj.cons (ai ah2) (aj.cons (ai ad5) (aj.nil PP))))))))))) Tryz.func16 (by kernel_rfl) (by kernel_rfl) (by kernel_rfl) (Nat.le_of_ble_eq_true (by kernel_rfl)) (r1 (aw .i64)) true (j0 x.1) (ak2 x.1 hc)
noncomputable abbrev akt : Nat × Bool × (List AV → M AV) := (16, true, da (aC cd a0) Gf)
end Go.Proofs.YtidomogemfchpaaGreat
end
section
namespace Go.Proofs.YtidomogemfchpaaGreat
open Go.Vm
theorem Wt : ∀ (l : List Int), ac2 l = 0 → ∀ e ∈ l, e = 0
  | [], _, e, he => by cases he
  | a :: l, h, e, he => by
    rw [ac2] at h
    split at h
    · contradiction
    · rename_i q
      rcases List.mem_cons.1 he with rfl | he
      · omega
      · exact Wt l h e he
theorem z0 {f : bh → Int} : ∀ (l : List bh), qy f l = 0 → ∀ z ∈ l, f z = 0
  | [], _, z, hz => by cases hz
  | a :: l, h, z, hz => by
    rw [qy] at h
    split at h
    · contradiction
    · rename_i q
      rcases List.mem_cons.1 hz with rfl | hz
      · omega
      · exact z0 l h z hz
structure L7 (w : bc) : Prop where
  zone : ∀ z ∈ w.au, k9 z = 0
  root : ∃ z ∈ w.au, z.origin = []
  one : w.au.Pairwise fun a b => gx a.origin b.origin = false
  axs : ∀ z ∈ w.au, ∀ n ∈ qn z, ∃ y ∈ w.au, gx y.origin n = true
  par : ∀ (i : Nat) z, w.au[i]? = some z → z.origin ≠ [] → parentOf w z (o8 w (i : Int)).1 = 0
  glue : ∀ z ∈ w.au, ym w z z.ak = 0
  srv : ∀ (i : Nat) z, w.au[i]? = some z → E0 w z i = 0
theorem Sn : ∀ (l pre : List bh) (b : Bool), Bl pre b l = 0 → (b = true ∨ ∃ z ∈ l, z.origin = []) ∧ l.Pairwise (fun a b => gx a.origin b.origin = false) ∧ ∀ z ∈ l, ∀ y ∈ pre, gx y.origin z.origin = false
  | [], pre, b, h => by
    rw [Bl] at h
    refine ⟨.inl ?_, .nil, fun z hz => by cases hz⟩
    cases b with
    | true => rfl
    | false => rw [if_neg (by decide)] at h; cases h
  | a :: l, pre, b, h => by
    rw [Bl] at h
    split at h
    · cases h
    · rename_i q
      obtain ⟨h1, h2, h3⟩ := Sn l (pre ++ [a]) _ h
      have hd : ∀ y ∈ pre, gx y.origin a.origin = false := fun y hy => by
        cases hs : gx y.origin a.origin with
        | false => rfl
        | true => exact (q (List.any_eq_true.2 ⟨y, hy, hs⟩)).elim
      refine ⟨?_, List.pairwise_cons.2 ⟨fun z hz => h3 z hz a (by simp), h2⟩, fun z hz y hy => ?_⟩
      · rcases h1 with h1 | ⟨z, hz, h1⟩
        · rw [Bool.or_eq_true] at h1
          rcases h1 with h1 | h1
          · exact .inl h1
          · refine .inr ⟨a, by simp, ?_⟩
            have := of_decide_eq_true h1
            exact List.eq_nil_of_length_eq_zero (by omega)
        · exact .inr ⟨z, by simp [hz], h1⟩
      · rcases List.mem_cons.1 hz with rfl | hz
        · exact hd y hy
        · exact h3 z hz y (by simp [hy])
theorem Ia {w : bc} : ∀ (l : List bh) (i : Nat), qi w l i = 0 → ∀ (k : Nat) z, l[k]? = some z → z.origin ≠ [] → parentOf w z (o8 w ((i + k : Nat) : Int)).1 = 0
  | [], i, _, k, z, hz => by simp at hz
  | a :: l, i, h, k, z, hz => by
    rw [qi] at h
    intro ho
    cases k with
    | zero =>
      simp at hz
      subst hz
      rw [if_neg (fun q => ho (List.eq_nil_of_length_eq_zero (by omega)))] at h
      split at h
      · cases h
      · rename_i q; rw [Nat.add_zero]; omega
    | succ k =>
      have : qi w l (i + 1) = 0 := by
        split at h
        · exact h
        · split at h
          · cases h
          · exact h
      have := Ia l (i + 1) this k z (by simpa using hz) ho
      rwa [show i + 1 + k = i + (k + 1) from by omega] at this
theorem Re {w : bc} : ∀ (l : List bh) (i : Nat), Hk w l i = 0 → ∀ (k : Nat) z, l[k]? = some z → E0 w z (i + k) = 0
  | [], i, _, k, z, hz => by simp at hz
  | a :: l, i, h, k, z, hz => by
    rw [Hk] at h
    split at h
    · cases h
    · rename_i q
      cases k with
      | zero => simp at hz; subst hz; rw [Nat.add_zero]; omega
      | succ k =>
        have := Re l (i + 1) h k z (by simpa using hz)
        rwa [show i + 1 + k = i + (k + 1) from by omega] at this
theorem Qw {w : bc} : ∀ (l : List Name), z3 w l = 0 → ∀ n ∈ l, uy w.au n = true
  | [], _, n, hn => by cases hn
  | a :: l, h, n, hn => by
    rw [z3] at h
    split at h
    · rename_i q
      rcases List.mem_cons.1 hn with rfl | hn
      · exact q
      · exact Qw l h n hn
    · cases h
theorem awe {w : bc} (h : j0 w = 0) : L7 w := by
  have hz := Wt _ h
  unfold aif at hz
  have h2 := hz (Bi w) (by simp)
  have h3 := hz (s6 w) (by simp)
  have h6 := hz (Br w) (by simp)
  have h7 := hz (r9 w) (by simp)
  have h8 := hz (Ab w) (by simp)
  have h9 := hz (Ad w) (by simp)
  obtain ⟨r1, r2, _⟩ := Sn _ _ _ h2
  refine ⟨z0 _ h3, ?_, r2, fun z hz n hn => ?_, fun i z hi ho => ?_, z0 _ h8, fun i z hi => ?_⟩
  · rcases r1 with r1 | r1
    · cases r1
    · exact r1
  · have := Qw _ (z0 _ h6 z hz) n hn
    obtain ⟨y, hy, hs⟩ := List.any_eq_true.1 this
    exact ⟨y, hy, hs⟩
  · have := Ia w.au 0 h7 i z hi ho
    rwa [Nat.zero_add] at this
  · have := Re w.au 0 h9 i z hi
    rwa [Nat.zero_add] at this
theorem apf {a b : Name} (h : dp a b = true) : b.length ≤ a.length := by
  have := (qe.1 h).length_le
  simpa [gq] using this
theorem ak1 (n : Name) : dp n [] = true := qe.2 (by simp [gq])
theorem ai4 {n a b : Name} (ha : dp n a = true) (hb : dp n b = true) (hl : a.length = b.length) : gx a b = true := by
  have h1 := qe.1 ha
  have h2 := qe.1 hb
  have := List.suffix_of_suffix_length_le h1 h2 (by simp [gq, hl])
  exact I2.2 (this.eq_of_length (by simp [gq, hl]))
theorem af5 {n : Name} : ∀ (l : List bh) (i : Nat) (b : Option (Nat × Nat)), (∀ p, Ey n l i b = some p → (∀ q, b = some q → q.2 ≤ p.2) ∧ ∀ z ∈ l, dp n z.origin = true → z.origin.length ≤ p.2) ∧ (b.isSome = true ∨ (∃ z ∈ l, dp n z.origin = true) → (Ey n l i b).isSome = true)
  | [], i, b => ⟨fun p hp => ⟨fun q hq => by rw [Ey, hq] at hp; cases hp; exact Nat.le_refl _, fun z hz => by cases hz⟩, fun h => by
      rcases h with h | ⟨z, hz, _⟩
      · exact h
      · cases hz⟩
  | a :: l, i, b => by
    obtain ⟨h1, h2⟩ := af5 (n := n) l (i + 1) (np n b i a)
    have key : ∀ q, b = some q → ∃ r, np n b i a = some r ∧ q.2 ≤ r.2 := fun q hq => by
      unfold np
      split
      · rename_i hc
        rw [Bool.and_eq_true] at hc
        have hf := hc.2
        rw [hq] at hf
        have := of_decide_eq_true hf
        exact ⟨_, rfl, by simp only; omega⟩
      · exact ⟨q, hq, Nat.le_refl _⟩
    have key2 : dp n a.origin = true → ∃ r, np n b i a = some r ∧ a.origin.length ≤ r.2 := fun hu => by
      unfold np
      rw [hu, Bool.true_and]
      cases b with
      | none => exact ⟨_, rfl, Nat.le_refl _⟩
      | some q =>
        by_cases hf : Fu (some q) a.origin.length = true
        · rw [if_pos hf]; exact ⟨_, rfl, Nat.le_refl _⟩
        · rw [if_neg hf]
          refine ⟨q, rfl, ?_⟩
          have : ¬ q.2 < a.origin.length := fun h => hf (decide_eq_true h)
          omega
    refine ⟨fun p hp => ?_, fun h => h2 ?_⟩
    · obtain ⟨k1, k2⟩ := h1 p hp
      refine ⟨fun q hq => ?_, fun z hz hu => ?_⟩
      · obtain ⟨r, hr, hle⟩ := key q hq
        exact Nat.le_trans hle (k1 r hr)
      · rcases List.mem_cons.1 hz with rfl | hz
        · obtain ⟨r, hr, hle⟩ := key2 hu
          exact Nat.le_trans hle (k1 r hr)
        · exact k2 z hz hu
    · rcases h with h | ⟨z, hz, hu⟩
      · obtain ⟨q, hq⟩ := Option.isSome_iff_exists.1 h
        obtain ⟨r, hr, _⟩ := key q hq
        exact .inl (by rw [hr]; rfl)
      · rcases List.mem_cons.1 hz with rfl | hz
        · obtain ⟨r, hr, _⟩ := key2 hu
          exact .inl (by rw [hr]; rfl)
        · exact .inr ⟨z, hz, hu⟩
structure ail (w : bc) (n : Name) (k : Nat) (z : bh) : Prop where
  val : qh w n = (k : Int)
  get : w.au[k]? = some z
  under : dp n z.origin = true
  max : ∀ y ∈ w.au, dp n y.origin = true → y.origin.length ≤ z.origin.length
theorem al5 {w : bc} (h : L7 w) (n : Name) : ∃ k z, ail w n k z := by
  obtain ⟨r, hr, hro⟩ := h.root
  obtain ⟨h1, h2⟩ := af5 (n := n) w.au 0 none
  have hs := h2 (.inr ⟨r, hr, by rw [hro]; exact ak1 n⟩)
  obtain ⟨p, hp⟩ := Option.isSome_iff_exists.1 hs
  obtain ⟨y, hy1, hy2, hy3⟩ := Yv (w := w) (n := n) hp
  refine ⟨p.1, y, ⟨?_, hy1, hy3, fun z hz hu => ?_⟩⟩
  · unfold qh Tt; rw [hp]; rfl
  · rw [hy2]; exact (h1 p hp).2 z hz hu
theorem aqh {w : bc} (h : L7 w) {n : Name} {k : Nat} {z : bh} (ho : ail w n k z) {j : Nat} {y : bh} (hj : w.au[j]? = some y) (hu : dp n y.origin = true) (hne : j ≠ k) : y.origin.length < z.origin.length := by
  have hle := ho.max y (List.mem_of_getElem? hj) hu
  by_cases e : y.origin.length = z.origin.length
  · have hs := ai4 hu ho.under e
    obtain ⟨hjl, rfl⟩ := List.getElem?_eq_some_iff.1 hj
    obtain ⟨hkl, hk⟩ := List.getElem?_eq_some_iff.1 ho.get
    have hp := List.pairwise_iff_getElem.1 h.one
    rcases Nat.lt_trichotomy j k with q | q | q
    · have := hp j k hjl hkl q
      rw [hk, hs] at this; cases this
    · exact (hne q).elim
    · have := hp k j hkl hjl q
      rw [hk, alf hs] at this; cases this
  · omega
theorem anf {w : bc} (h : L7 w) {i : Nat} {z : bh} (hi : w.au[i]? = some z) (ho : z.origin ≠ []) : ∃ a r p y, z.origin = a :: r ∧ ail w r p y ∧ o8 w (i : Int) = ((p : Int), 0) ∧ y.origin.length < z.origin.length ∧ dp z.origin y.origin = true := by
  have hz := h.zone z (List.mem_of_getElem? hi)
  have hn : ea z.origin = 0 := by
    have := (aiq hz).first
    unfold so at this
    split at this
    · contradiction
    · rename_i q; omega
  cases hc : z.origin with
  | nil => exact (ho hc).elim
  | cons a r =>
    obtain ⟨p, y, hy⟩ := al5 h r
    rw [hc] at hn
    have hpv : jr (a :: r) = (r, 0) := by unfold jr; rw [if_neg (by omega), if_neg (by simp)]; rfl
    have hl := apf hy.under
    refine ⟨a, r, p, y, rfl, hy, ?_, by rw [List.length_cons]; omega, aeu (qe.2 (List.suffix_cons _ _)) hy.under⟩
    unfold o8
    rw [lr, hi]
    simp only
    rw [hc, hpv]
    simp only
    rw [if_neg (by simp), hy.val, if_neg (by omega)]
theorem amw {w : bc} (h : L7 w) {i : Nat} {z : bh} (hi : w.au[i]? = some z) : (∀ a ∈ gy w z, mz w a (i : Int) = true) ∧ ∀ n ∈ ml z, (ji w n 1).isSome = true := by
  have := h.srv i z hi
  unfold E0 at this
  split at this
  · rename_i h1
    split at this
    · rename_i h2
      exact ⟨List.all_eq_true.1 h2, List.all_eq_true.1 h1⟩
    · cases this
  · cases this
end Go.Proofs.YtidomogemfchpaaGreat
end
section
set_option linter.unusedSimpArgs false
set_option linter.unusedVariables false
namespace Go.Proofs.YtidomogemfchpaaGreat
open Go.Vm
set_option maxRecDepth 2000000
theorem amb (acc : List UInt32) (d : ct) : acc.length ≤ (qk acc d).length := by unfold qk; split <;> simp
theorem ang (acc : List UInt32) {d : ct} (h : (ub d).2 = true) : 0 < (qk acc d).length := by
  unfold qk
  rw [h, Bool.true_and]
  split
  · simp
  · rename_i q
    cases acc with
    | nil => simp at q
    | cons a l => simp
theorem Wp (l : List ct) : ∀ acc : List UInt32, acc.length ≤ (l.foldl qk acc).length := by
  induction l with
  | nil => intro acc; exact Nat.le_refl _
  | cons d l ih => intro acc; have := ih (qk acc d); have := amb acc d; rw [List.foldl_cons]; omega
theorem anp (w : bc) (l : List Name) : ∀ acc : List UInt32, acc.length ≤ (l.foldl (wo w) acc).length := by
  induction l with
  | nil => intro acc; exact Nat.le_refl _
  | cons n l ih => intro acc; have := ih (wo w acc n); have h : acc.length ≤ (wo w acc n).length := Wp _ acc; rw [List.foldl_cons]; omega
theorem apc {t : UInt16} {d : ct} (h : fh t d = 0) (ht : (t.toNat : Int) = 1) : d.raw.length = 4 := by
  have hf : u7 (ig t) t d = true := by
    unfold fh at h
    split at h
    · cases h
    split at h
    · cases h
    · rename_i q; simpa using q
  have hs : ig t = ⟨0, 0, 0, 0, 4⟩ := by unfold ig; rw [if_pos ht]
  unfold u7 at hf
  rw [hs] at hf
  split at hf
  · cases hf
  · rename_i q
    have : ¬ ((0 : Int) ≤ 4 ∧ (d.raw.length : Int) ≠ 4) := fun e => q (.inr (.inr e))
    omega
theorem ase {w : bc} {n : Name} {t : UInt16} {s : br} (h : ji w n t = some s) : ∃ z ∈ w.au, s ∈ z.ak ∧ (s.type.toNat : Int) = t.toNat ∧ gx s.owner n = true := by
  unfold ji at h
  split at h
  · cases h
  · rename_i z hz
    have hm : z ∈ w.au := by
      unfold mb at hz
      split at hz
      · exact List.mem_of_getElem? hz
      · cases hz
    obtain ⟨h1, h2, _, h3⟩ := xr h
    exact ⟨z, hm, h1, h2, h3⟩
theorem akv {z : bh} (hz : k9 z = 0) : ∃ s n r, ib z.ak z.origin 2 = some s ∧ ml z = n :: r := by
  have hg := aiq hz
  obtain ⟨s, hs, hp⟩ := List.any_eq_true.1 hg.aw3
  rw [Bool.and_eq_true] at hp
  cases hf : ib z.ak z.origin 2 with
  | none =>
    have := List.find?_eq_none.1 hf s hs
    refine (this ?_).elim
    unfold v9
    rw [hp.2, decide_eq_true (ao8 (hg.cls s hs)).1, show ((2 : UInt16).toNat : Int) = 2 from rfl, hp.1]; rfl
  | some x =>
    obtain ⟨h1, h2, _, _⟩ := xr hf
    have hx := J4 hz x h1
    obtain ⟨d, hd, _⟩ := Oc hx
    cases hdd : x.data with
    | nil => rw [hdd] at hd; cases hd
    | cons d r =>
      have hde := G6 hx d (by rw [hdd]; simp)
      have h3 := (Qo hde).1
      have h4 : (ig x.type).names = 1 := by unfold ig; rw [h2]; rfl
      rw [h4] at h3
      cases hn : d.names with
      | nil => rw [hn] at h3; simp at h3
      | cons n q =>
        refine ⟨x, n, q ++ ja r, rfl, ?_⟩
        unfold ml
        rw [hf, Option.getD_some, hdd]
        simp [ja, hn]
theorem aaf {w : bc} (h : L7 w) {i : Nat} {z : bh} (hi : w.au[i]? = some z) : 0 < (gy w z).length := by
  obtain ⟨_, n, r, _, ha⟩ := akv (h.zone z (List.mem_of_getElem? hi))
  have h1 := (amw h hi).2 n (by rw [ha]; simp)
  obtain ⟨s, hs⟩ := Option.isSome_iff_exists.1 h1
  obtain ⟨y, hy, hsy, hst, _⟩ := ase hs
  have hx := J4 (h.zone y hy) s hsy
  obtain ⟨d, hd, _⟩ := Oc hx
  cases hdd : s.data with
  | nil => rw [hdd] at hd; cases hd
  | cons d q =>
    have hde := G6 hx d (by rw [hdd]; simp)
    have h4 := apc hde hst
    have h5 : (ub d).2 = true := by unfold ub; rw [if_pos h4]
    unfold gy
    rw [ha, List.foldl_cons]
    have h6 := anp w r (wo w [] n)
    have h7 : 0 < (wo w [] n).length := by
      unfold wo
      rw [hs, Option.getD_some, hdd, List.foldl_cons]
      have := Wp q (qk [] d)
      have := ang [] h5
      omega
    omega
def G2 (l : List bh) : Bool := l.all Kj
def Hs (l : List tv) : Bool := l.all fun h => !decide ((h.au.length : Int) > 40)
def ah1 (w : bc) : Bool :=
  G2 w.au && (Hs w.db && ((decide ((w.au.length : Int) ≤ 8) || (decide ((w.au.length : Int) > 32) && decide ((w.au.length : Int) < 40))) && ((decide ((w.db.length : Int) ≤ 12) || (decide ((w.db.length : Int) > 64) && decide ((w.db.length : Int) < 80))) && decide ((w.hints.length : Int) ≤ 40))))
set_option maxHeartbeats 8000000 in
theorem as0 (w : bc) (hw : cy w) : wl PP [aw4] 0 (Tryz.f15.body.getD .skip) (de PP Tryz.f15.results.toList (fun r st => (r1 bo).get true st.h r = some (ah1 w))) (cb 0 [cd.val false w]) (bp []) := by
  have hl := hw.Dd
  have hhl := hw.hlen
  unfold Tryz.f15
  simp only [eb]
  simp only [↓wR, RA, simprocAttr, TF, ae]
  refine c6 [1, 3] (fun (i : Nat) => [.ptr 0 0, .sc (.int .i64 (i))]) (fun _ => [some (.row [.vl false 2 (w.au.map (bn.val false)), .vl false 2 (w.db.map (dj.val false)), .vl false 1 (w.hints.map (be.val false))] 0 2 50)]) (fun i => i ≤ w.au.length ∧ G2 w.au = G2 (w.au.drop i)) (fun i => w.au.length - i) 0 ⟨Nat.zero_le _, rfl⟩ (by simp only [↓wR, RA, simprocAttr, TF, ae] <;> rfl) (by simp only [↓wR, RA, simprocAttr, TF, ae] <;> rfl) ?_
  rintro i ⟨hi, hx⟩
  simp only [↓wR, RA, simprocAttr, TF, ae]
  unfold ah1
  rw [bf]; refine ⟨fun h => ?_, fun h => ?_⟩
  · obtain ⟨c, hc, hd1, hlt⟩ := di (decide_eq_true h)
    rw [hd1, G2, G2, List.all_cons] at hx
    simp only [↓wR, RA, simprocAttr, TF, ae, h, hc, Md, hw.zone c (List.mem_of_getElem? hc)]; repeat (simp (disch := omega) only [ah, bu, b7, bw, bz]; try simp only [↓wR, RA, simprocAttr, TF, ae, h, hc, Md, hw.zone c (List.mem_of_getElem? hc)])
    rw [bk]; refine ⟨fun h1 => ?_, fun h1 => ?_⟩
    · have h1' : Kj c = false := by simpa only [Bool.not_eq_true'] using h1
      rw [h1', Bool.false_and] at hx
      simp only [↓wR, RA, simprocAttr, TF, ae, h1]
      rw [G2, hx]; rfl
    · have h1' : Kj c = true := by simpa only [Bool.not_eq_false'] using h1
      rw [h1', Bool.true_and] at hx
      simp only [↓wR, RA, simprocAttr, TF, ae, h1]; repeat (simp (disch := omega) only [ah, bu, b7, bw, bz]; try simp only [↓wR, RA, simprocAttr, TF, ae, h1])
      exact ⟨i + 1, ⟨hlt, hx⟩, by omega, by (first | rfl | trivial | omega | ((try (simp (disch := omega) only [ah])); (try (simp only [FB])); first | done | rfl | omega))⟩
  rw [du (decide_eq_false h)] at hx
  have hx' : G2 w.au = true := hx
  clear hx hi
  simp only [↓wR, RA, simprocAttr, TF, ae, h]
  refine c6 [1, 4] (fun (i : Nat) => [.ptr 0 0, .sc (.int .i64 (i))]) (fun _ => [some (.row [.vl false 2 (w.au.map (bn.val false)), .vl false 2 (w.db.map (dj.val false)), .vl false 1 (w.hints.map (be.val false))] 0 2 50)]) (fun i => i ≤ w.db.length ∧ Hs w.db = Hs (w.db.drop i)) (fun i => w.db.length - i) 0 ⟨Nat.zero_le _, rfl⟩ (by simp only [↓wR, RA, simprocAttr, TF, ae] <;> rfl) (by simp only [↓wR, RA, simprocAttr, TF, ae] <;> rfl) ?_
  rintro i ⟨hi, hy⟩
  simp only [↓wR, RA, simprocAttr, TF, ae]
  rw [bf]; refine ⟨fun h2 => ?_, fun h2 => ?_⟩
  · obtain ⟨c, hc, hd1, hlt⟩ := di (decide_eq_true h2)
    rw [hd1, Hs, Hs, List.all_cons] at hy
    simp only [↓wR, RA, simprocAttr, TF, ae, h2, hc]; repeat (simp (disch := omega) only [ah, bu, b7, bw, bz]; try simp only [↓wR, RA, simprocAttr, TF, ae, h2, hc])
    rw [bf]; refine ⟨fun h3 => ?_, fun h3 => ?_⟩
    · rw [decide_eq_true h3, Bool.not_true, Bool.false_and] at hy
      simp only [↓wR, RA, simprocAttr, TF, ae, h3]
      rw [hx', Hs, hy]; rfl
    · rw [decide_eq_false h3, Bool.not_false, Bool.true_and] at hy
      simp only [↓wR, RA, simprocAttr, TF, ae, h3]; repeat (simp (disch := omega) only [ah, bu, b7, bw, bz]; try simp only [↓wR, RA, simprocAttr, TF, ae, h3])
      exact ⟨i + 1, ⟨hlt, hy⟩, by omega, by (first | rfl | trivial | omega | ((try (simp (disch := omega) only [ah])); (try (simp only [FB])); first | done | rfl | omega))⟩
  rw [du (decide_eq_false h2)] at hy
  have hy' : Hs w.db = true := hy
  clear hy hi
  rw [hx', hy', Bool.true_and, Bool.true_and]
  simp only [↓wR, RA, simprocAttr, TF, ae, h2]
  rw [bf]; refine ⟨fun p1 => ?_, fun p1 => ?_⟩
  · rw [decide_eq_true p1, Bool.true_or, Bool.true_and]
    simp only [↓wR, RA, simprocAttr, TF, ae, p1]
    rw [bf]; refine ⟨fun p4 => ?_, fun p4 => ?_⟩
    · rw [decide_eq_true p4, Bool.true_or, Bool.true_and]
      simp only [↓wR, RA, simprocAttr, TF, ae, p4]
    · rw [decide_eq_false p4, Bool.false_or]
      simp only [↓wR, RA, simprocAttr, TF, ae, p4]
      rw [bf]; refine ⟨fun p5 => ?_, fun p5 => ?_⟩
      · rw [decide_eq_true p5, Bool.true_and]
        simp only [↓wR, RA, simprocAttr, TF, ae, p5]
        rw [bf]; refine ⟨fun p6 => ?_, fun p6 => ?_⟩
        · rw [decide_eq_true p6, Bool.true_and]
          simp only [↓wR, RA, simprocAttr, TF, ae, p6]
        · rw [decide_eq_false p6, Bool.false_and]
          simp only [↓wR, RA, simprocAttr, TF, ae, p6]
      · rw [decide_eq_false p5, Bool.false_and, Bool.false_and]
        simp only [↓wR, RA, simprocAttr, TF, ae, p5]
  · rw [decide_eq_false p1, Bool.false_or]
    simp only [↓wR, RA, simprocAttr, TF, ae, p1]
    rw [bf]; refine ⟨fun p2 => ?_, fun p2 => ?_⟩
    · rw [decide_eq_true p2, Bool.true_and]
      simp only [↓wR, RA, simprocAttr, TF, ae, p2]
      rw [bf]; refine ⟨fun p3 => ?_, fun p3 => ?_⟩
      · rw [decide_eq_true p3, Bool.true_and]
        simp only [↓wR, RA, simprocAttr, TF, ae, p3]
        rw [bf]; refine ⟨fun p4 => ?_, fun p4 => ?_⟩
        · rw [decide_eq_true p4, Bool.true_or, Bool.true_and]
          simp only [↓wR, RA, simprocAttr, TF, ae, p4]
        · rw [decide_eq_false p4, Bool.false_or]
          simp only [↓wR, RA, simprocAttr, TF, ae, p4]
          rw [bf]; refine ⟨fun p5 => ?_, fun p5 => ?_⟩
          · rw [decide_eq_true p5, Bool.true_and]
            simp only [↓wR, RA, simprocAttr, TF, ae, p5]
            rw [bf]; refine ⟨fun p6 => ?_, fun p6 => ?_⟩
            · rw [decide_eq_true p6, Bool.true_and]
              simp only [↓wR, RA, simprocAttr, TF, ae, p6]
            · rw [decide_eq_false p6, Bool.false_and]
              simp only [↓wR, RA, simprocAttr, TF, ae, p6]
          · rw [decide_eq_false p5, Bool.false_and, Bool.false_and]
            simp only [↓wR, RA, simprocAttr, TF, ae, p5]
      · rw [decide_eq_false p3, Bool.false_and]
        simp only [↓wR, RA, simprocAttr, TF, ae, p3]
    · rw [decide_eq_false p2, Bool.false_and, Bool.false_and]
      simp only [↓wR, RA, simprocAttr, TF, ae, p2]
noncomputable def Jb (x : bc × Unit) : Option AV := if cy x.1 then some ((r1 bo).E true (ah1 x.1)) else none
set_option maxRecDepth 2000000 in
theorem aiw (x : bc × Unit) (r : AV) (h : Jb x = some r) : bg PP 15 ((aC cd a0).E x) r := by
  by_cases hc : cy x.1
  case neg => simp only [Jb, if_neg hc] at h; cases h
  simp only [Jb, if_pos hc] at h
  cases h
  exact bb (aj.cons (ai akz) (aj.nil PP)) Tryz.func15 (by kernel_rfl) (by kernel_rfl) (by kernel_rfl) (Nat.le_of_ble_eq_true (by kernel_rfl)) (r1 bo) true (ah1 x.1) (as0 x.1 hc)
noncomputable abbrev aq1 : Nat × Bool × (List AV → M AV) := (15, true, da (aC cd a0) Jb)
noncomputable abbrev awake20 : Nat × Bool × (List AV → M AV) := (14, true, da a0 (fun _ => some (.sc (.bool true))))
def adk (w : bc) (k : Nat) : Nat := (w.au.filter fun z => decide (z.origin.length < k)).length
theorem agp (w : bc) (k : Nat) : adk w k ≤ w.au.length := List.length_filter_le _ _
theorem as4 {w : bc} {y : bh} (hy : y ∈ w.au) {k : Nat} (h : y.origin.length < k) : adk w y.origin.length < adk w k := by
  have key : ∀ l : List bh, (l.filter fun z => decide (z.origin.length < y.origin.length)).length ≤ (l.filter fun z => decide (z.origin.length < k)).length ∧ (y ∈ l → (l.filter fun z => decide (z.origin.length < y.origin.length)).length < (l.filter fun z => decide (z.origin.length < k)).length) := by
    intro l
    induction l with
    | nil => exact ⟨Nat.le_refl _, fun h => by cases h⟩
    | cons a l ih =>
      obtain ⟨i1, i2⟩ := ih
      by_cases h1 : a.origin.length < y.origin.length
      · have h2 : a.origin.length < k := by omega
        rw [List.filter_cons_of_pos (by simpa using h1), List.filter_cons_of_pos (by simpa using h2), List.length_cons, List.length_cons]
        refine ⟨by omega, fun hm => ?_⟩
        rcases List.mem_cons.1 hm with e | hm
        · rw [e] at h1; omega
        · have := i2 hm; omega
      · rw [List.filter_cons_of_neg (by simpa using h1)]
        by_cases h2 : a.origin.length < k
        · rw [List.filter_cons_of_pos (by simpa using h2), List.length_cons]
          exact ⟨by omega, fun _ => by omega⟩
        · rw [List.filter_cons_of_neg (by simpa using h2)]
          refine ⟨i1, fun hm => ?_⟩
          rcases List.mem_cons.1 hm with e | hm
          · rw [e] at h; omega
          · exact i2 hm
  exact (key w.au).2 hy
def abx (w : bc) (i : Nat) : Nat := match w.au[i]? with | some z => z.origin.length | none => 0
theorem T7 {w : bc} {i : Nat} {z : bh} (h : w.au[i]? = some z) : abx w i = z.origin.length := by unfold abx; rw [h]
set_option maxHeartbeats 8000000 in
theorem asl (w : bc) (n : Name) (hw : cy w) (hn : bt n) : wl PP [awake20, aq1, akt, dw, af4, px, Uo, abn, Lq] 0 (Tryz.f4.body.getD .skip) (de PP Tryz.f4.results.toList (fun r st => (r1 bo).get true st.h r = some true)) (cb 0 [cd.val false w, ay.val false n]) (bp []) := by
  have hl := hw.Dd
  have hq : ∀ a b c d, fv a b c = d → fv a b c = d := fun _ _ _ _ h => h
  unfold Tryz.f4
  simp only [eb, dz]
  simp only [↓wR, RA, simprocAttr, TF, ae, Jb, hw]
  rw [bk]; refine ⟨fun h1 => ?_, fun h1 => ?_⟩
  · simp only [↓wR, RA, simprocAttr, TF, ae, h1]
  simp only [↓wR, RA, simprocAttr, TF, ae, h1, Gf, hw]
  rw [bk]; refine ⟨fun h2 => ?_, fun h2 => ?_⟩
  · simp only [↓wR, RA, simprocAttr, TF, ae, h2]
  simp only [↓wR, RA, simprocAttr, TF, ae, h2, l7, hn.fit]
  rw [bk]; refine ⟨fun h3 => ?_, fun h3 => ?_⟩
  · simp only [↓wR, RA, simprocAttr, TF, ae, h3]
  have hwe : j0 w = 0 := by simpa using h2
  have hne : ea n = 0 := by simpa using h3
  have hg := awe hwe
  obtain ⟨i, z, ho⟩ := al5 hg n
  have hown : Gg w n = ((i : Int), 0) := by unfold Gg; rw [if_neg (fun q => q hne), ho.val, if_neg (by omega)]
  have hzi := ho.get
  have hil : i < w.au.length := (List.getElem?_eq_some_iff.1 hzi).1
  have hzo := (hw.zone z (List.mem_of_getElem? hzi)).origin
  have d1 : decide ((i : Int) ≥ (w.au.length : Int)) = false := decide_eq_false (by omega)
  simp only [↓wR, RA, simprocAttr, TF, ae, h3, Cn, hw, hn, hown, bne_self_eq_false, Ul, d1, hzi, g7, hzo, ho.under]
  refine c6 [1, 2, 5, 6, 8] (fun (k : Nat) => [.vl false 1 (n.map (an.val false)), .ptr 0 0, .sc (.bool true), .sc (.int .i64 (i)), .sc (.int .i64 (k))]) (fun _ => [some (.row [.vl false 2 (w.au.map (bn.val false)), .vl false 2 (w.db.map (dj.val false)), .vl false 1 (w.hints.map (be.val false))] 0 2 50)]) (fun k => k ≤ w.au.length) (fun k => w.au.length - k) 0 (Nat.zero_le _) (by simp only [↓wR, RA, simprocAttr, TF, ae] <;> rfl) (by simp only [↓wR, RA, simprocAttr, TF, ae] <;> rfl) ?_
  intro k hk
  simp only [↓wR, RA, simprocAttr, TF, ae]
  rw [bf]; refine ⟨fun h4 => ?_, fun h4 => ?_⟩
  · obtain ⟨y, hy, _, hlt⟩ := di (decide_eq_true h4)
    have hyo := (hw.zone y (List.mem_of_getElem? hy)).origin
    simp only [↓wR, RA, simprocAttr, TF, ae, h4]
    refine ⟨by kernel_rfl, .inl ?_⟩
    by_cases hik : k = i
    · have e1 : ((k : Int) != i) = false := by rw [hik]; simp
      simp only [↓wR, RA, simprocAttr, TF, ae, e1]; repeat (simp (disch := omega) only [ah, bu, b7, bw, bz]; try simp only [↓wR, RA, simprocAttr, TF, ae, e1])
      exact ⟨by apply hq; kernel_rfl, k + 1, hlt, by omega, by (first | rfl | trivial | omega | ((try (simp (disch := omega) only [ah])); (try (simp only [FB])); first | done | rfl | omega))⟩
    have e1 : ((k : Int) != i) = true := by simp; omega
    cases hu : dp n y.origin with
    | false =>
      simp only [↓wR, RA, simprocAttr, TF, ae, e1, hy, g7, hn, hyo, hu]; repeat (simp (disch := omega) only [ah, bu, b7, bw, bz]; try simp only [↓wR, RA, simprocAttr, TF, ae, e1, hy, g7, hn, hyo, hu])
      exact ⟨by apply hq; kernel_rfl, k + 1, hlt, by omega, by (first | rfl | trivial | omega | ((try (simp (disch := omega) only [ah])); (try (simp only [FB])); first | done | rfl | omega))⟩
    | true =>
      have hlen := aqh hg ho hy hu hik
      have e2 : decide ((y.origin.length : Int) ≥ z.origin.length) = false := decide_eq_false (by omega)
      simp only [↓wR, RA, simprocAttr, TF, ae, e1, hy, g7, hn, hyo, hu, hzi, e2]; repeat (simp (disch := omega) only [ah, bu, b7, bw, bz]; try simp only [↓wR, RA, simprocAttr, TF, ae, e1, hy, g7, hn, hyo, hu, hzi, e2])
      exact ⟨by apply hq; kernel_rfl, k + 1, hlt, by omega, by (first | rfl | trivial | omega | ((try (simp (disch := omega) only [ah])); (try (simp only [FB])); first | done | rfl | omega))⟩
  simp only [↓wR, RA, simprocAttr, TF, ae, h4]
  refine c6 [2, 5, 6, 9] (fun (x : Nat × Nat) => [.ptr 0 0, .sc (.bool true), .sc (.int .i64 (x.1)), .sc (.int .i64 (x.2))]) (fun _ => [some (.row [.vl false 2 (w.au.map (bn.val false)), .vl false 2 (w.db.map (dj.val false)), .vl false 1 (w.hints.map (be.val false))] 0 2 50)]) (fun x => x.1 < w.au.length ∧ x.2 + adk w (abx w x.1) ≤ w.au.length) (fun x => abx w x.1) (i, 0) ⟨hil, by simp only [Nat.zero_add]; exact agp _ _⟩ (by simp only [↓wR, RA, simprocAttr, TF, ae] <;> rfl) (by simp only [↓wR, RA, simprocAttr, TF, ae] <;> rfl) ?_
  clear h4 hzo d1 hown hzi hil ho z i
  rintro ⟨i, k⟩ ⟨hil, hcnt⟩
  simp only at hil hcnt
  obtain ⟨z, hzi⟩ : ∃ z, w.au[i]? = some z := ⟨_, List.getElem?_eq_getElem hil⟩
  have hol := T7 hzi
  rw [hol] at hcnt
  have hzs := hw.zone z (List.mem_of_getElem? hzi)
  simp only [↓wR, RA, simprocAttr, TF, ae, hzi]
  rw [bf]; refine ⟨fun h5 => ?_, fun h5 => ?_⟩
  · have hno : z.origin ≠ [] := fun q => by rw [q] at h5; simp at h5
    obtain ⟨a, r, p, y, hr, hop, hpe, hly, huy⟩ := anf hg hzi hno
    have hyp := hop.get
    have hym := List.mem_of_getElem? hyp
    have hyo := (hw.zone y hym).origin
    have hpl : p < w.au.length := (List.getElem?_eq_some_iff.1 hyp).1
    have hlow := as4 hym hly
    have hll := agp w z.origin.length
    have hse : ze w (i : Int) = (gy w z, 0) := by unfold ze; rw [lr, hzi]
    have hsl := M8 hw (hw.wt z (List.mem_of_getElem? hzi))
    have hsp := aaf hg hzi
    have hsv := (amw hg hzi).1
    have d1 : decide ((k : Int) > (w.au.length : Int)) = false := decide_eq_false (by omega)
    have d2 : decide ((p : Int) ≥ (w.au.length : Int)) = false := decide_eq_false (by omega)
    have d3 : decide ((y.origin.length : Int) ≥ z.origin.length) = false := decide_eq_false (by omega)
    have d4 : (((gy w z).length : Int) == 0) = false := beq_eq_false_iff_ne.2 (by omega)
    simp only [↓wR, RA, simprocAttr, TF, ae, h5, yu, hw, hpe]
    refine ⟨by kernel_rfl, .inl ?_⟩
    simp only [↓wR, RA, simprocAttr, TF, ae, bne_self_eq_false, d1, Ul, d2, hyp, hzi, d3, g7, hzs.origin, hyo, huy]
    refine ⟨by apply hq; kernel_rfl, ?_⟩
    simp only [↓wR, RA, simprocAttr, TF, ae, Ag, hw, hse, bne_self_eq_false, d4]
    obtain ⟨l, hld⟩ : ∃ l, l = gy w z := ⟨_, rfl⟩
    rw [← hld] at hsl hsv ⊢
    refine c6 [2, 5, 6, 9, 10, 12, 14] (fun (m : Nat) => [.ptr 0 0, .sc (.bool true), .sc (.int .i64 (i)), .sc (.int .i64 (k)), .sc (.int .i64 (p)), .vl true 1 (l.map (be.val true)), .sc (.int .i64 (m))]) (fun _ => [some (.row [.vl false 2 (w.au.map (bn.val false)), .vl false 2 (w.db.map (dj.val false)), .vl false 1 (w.hints.map (be.val false))] 0 2 50)]) (fun m => m ≤ l.length) (fun m => l.length - m) 0 (Nat.zero_le _) (by simp only [↓wR, RA, simprocAttr, TF, ae] <;> rfl) (by simp only [↓wR, RA, simprocAttr, TF, ae] <;> rfl) ?_
    intro m hm
    simp only [↓wR, RA, simprocAttr, TF, ae]
    rw [bf]; refine ⟨fun h6 => ?_, fun h6 => ?_⟩
    · obtain ⟨c, hc, _, hlt2⟩ := di (decide_eq_true h6)
      have hcs := hsv c (List.mem_of_getElem? hc)
      simp only [↓wR, RA, simprocAttr, TF, ae, h6]
      refine ⟨by kernel_rfl, .inl ?_⟩
      simp only [↓wR, RA, simprocAttr, TF, ae, hc, ug, hw, hcs]; repeat (simp (disch := omega) only [ah, bu, b7, bw, bz]; try simp only [↓wR, RA, simprocAttr, TF, ae, hc, ug, hw, hcs])
      exact ⟨by apply hq; kernel_rfl, m + 1, hlt2, by omega, by (first | rfl | trivial | omega | ((try (simp (disch := omega) only [ah])); (try (simp only [FB])); first | done | rfl | omega))⟩
    · simp only [↓wR, RA, simprocAttr, TF, ae, h6]; repeat (simp (disch := omega) only [ah, bu, b7, bw, bz]; try simp only [↓wR, RA, simprocAttr, TF, ae, h6])
      refine ⟨(p, k + 1), ⟨hpl, ?_⟩, by simp only; rw [T7 hyp, hol]; exact hly, by (first | rfl | trivial | omega | ((try (simp (disch := omega) only [ah])); (try (simp only [FB])); first | done | rfl | omega))⟩
      show k + 1 + adk w (abx w p) ≤ w.au.length
      rw [T7 hyp]
      omega
  · simp only [↓wR, RA, simprocAttr, TF, ae, h5]
end Go.Proofs.YtidomogemfchpaaGreat
end
section
set_option linter.unusedSimpArgs false
set_option linter.unusedVariables false
namespace Go.Proofs.YtidomogemfchpaaGreat
open Go.Vm
set_option maxRecDepth 2000000
noncomputable section
def muP {α β : Type} (μ : α → Nat) (ν : β → Nat) (p : α × β) : Nat := μ p.1 + ν p.2
def rk {α : Type} (μ : α → Nat) (l : List α) : Nat := q9 μ l + 1
def Ii {α : Type} (_ : α) : Nat := 1
def muI {α β : Type} (f : β → α) (μ : α → Nat) (y : β) : Nat := μ (f y) + 1
def Tu (P : Program) (t : TypeId) : List Field := match P.underlying t with | some (.struct fs) => fs.toList | _ => []
def au1 (l : List Field) : Nat := match l with | f :: _ => f.offset | [] => 0
def tyH (l : List Field) : TypeId := match l with | f :: _ => f.type | [] => 0
def aqq (l : List Field) : Bool := match l with | _ :: _ => true | [] => false
def aw7 (l : List Field) : Bool := match l with | [_] => true | _ => false
theorem C6 {P : Program} {l : List Field} {off : Nat} {t : TypeId} {α : Type} {C : c7 α} {μ : α → Nat} (hl : aw7 l = true) (ho : au1 l = off) (ht : tyH l = t) (hs : P.cellsOf t = C.sz) (h : Rd P t C μ) : Wv P l off C μ := by
  match l, hl with
  | [f], _ => subst ht; exact fun {H} => atj ho hs h
theorem nc {P : Program} {l : List Field} {off : Nat} {t : TypeId} {α β : Type} {A : c7 α} {B : c7 β} {μ : α → Nat} {ν : β → Nat} (hl : aqq l = true) (ho : au1 l = off) (ht : tyH l = t) (hs : P.cellsOf t = A.sz) (h : Rd P t A μ) (hr : Wv P l.tail (off + A.sz) B ν) : Wv P l off (ko A B) (muP μ ν) := by
  match l, hl with
  | f :: fs, _ => subst ht; exact fun {H} => aoj ho hs h hr
theorem yi {P : Program} {t : TypeId} {α β : Type} {C : c7 α} {μ : α → Nat} {f : β → α} {i : α → β} {h1 : ∀ y, i (f y) = y} {h2 : ∀ x, f (i x) = x} (ht : aqq (Tu P t) = true) (hc : P.cellsOf t = C.sz) (h : Wv P (Tu P t) 0 C μ) : Rd P t (xp C f i h1 h2) (muI f μ) := by
  unfold Tu at ht h
  cases hu : P.underlying t with
  | none => rw [hu] at ht; cases ht
  | some d =>
    rw [hu] at ht h
    cases d with
    | struct fs => exact fun {H} => at7 (aml hu hc h)
    | _ => cases ht
theorem qf {P : Program} {t e : TypeId} {α : Type} {C : c7 α} {μ : α → Nat} (ht : P.underlying t = some (.slice e)) (hsz : P.cellsOf e = C.sz) (hpos : 0 < C.sz) (he : Rd P e C μ) : Rd P t (cq C) (rk μ) := arv ht hsz hpos he
def Lw (s : ByteArray) : Nat := s.size + 1
theorem rdS : Rd PP 9 an Lw := au9 (by kernel_rfl)
def n8 : Name → Nat := rk Lw
theorem Ss : Rd PP 23 ay n8 := qf (e := 9) (by kernel_rfl) (by kernel_rfl) (by decide) rdS
theorem as2 : Rd PP 22 ay n8 := qf (e := 9) (by kernel_rfl) (by kernel_rfl) (by decide) rdS
theorem as1 : Rd PP 76 (cq ay) (rk n8) := qf (e := 23) (by kernel_rfl) (by kernel_rfl) (by decide) Ss
theorem am8 : Rd PP 48 (cq be) (rk Ii) := qf (e := 37) (by kernel_rfl) (by kernel_rfl) (by decide) (anv (by kernel_rfl))
theorem avz : Rd PP 81 (cq cj) (rk Ii) := qf (e := 5) (by kernel_rfl) (by kernel_rfl) (by decide) (avy (by kernel_rfl))
def Fh (d : ct) : Nat := rk n8 d.names + (rk Ii d.nums + (n8 d.texts + rk Ii d.raw)) + 1
theorem at8 : Rd PP 83 b9 Fh :=
  yi (by kernel_rfl) (by kernel_rfl) (nc (by kernel_rfl) (by kernel_rfl) (by kernel_rfl) (by kernel_rfl) as1 (nc (by kernel_rfl) (by kernel_rfl) (by kernel_rfl) (by kernel_rfl) am8 (nc (by kernel_rfl) (by kernel_rfl) (by kernel_rfl) (by kernel_rfl) as2 (C6 (by kernel_rfl) (by kernel_rfl) (by kernel_rfl) (by kernel_rfl) avz))))
theorem ar7 : Rd PP 38 (cq b9) (rk Fh) := qf (e := 83) (by kernel_rfl) (by kernel_rfl) (by decide) at8
theorem aug : Rd PP 28 c9 Ii := am3 (by kernel_rfl)
theorem as7 : Rd PP 36 c9 Ii := am3 (by kernel_rfl)
theorem arc : Rd PP 37 be Ii := anv (by kernel_rfl)
def Lz (s : br) : Nat := n8 s.owner + (1 + (1 + (1 + rk Fh s.data))) + 1
theorem avk : Rd PP 40 ar Lz :=
  yi (by kernel_rfl) (by kernel_rfl) (nc (by kernel_rfl) (by kernel_rfl) (by kernel_rfl) (by kernel_rfl) Ss (nc (by kernel_rfl) (by kernel_rfl) (by kernel_rfl) (by kernel_rfl) aug (nc (by kernel_rfl) (by kernel_rfl) (by kernel_rfl) (by kernel_rfl) as7 (nc (by kernel_rfl) (by kernel_rfl) (by kernel_rfl) (by kernel_rfl) arc (C6 (by kernel_rfl) (by kernel_rfl) (by kernel_rfl) (by kernel_rfl) ar7)))))
theorem atn : Rd PP 24 (cq ar) (rk Lz) := qf (e := 40) (by kernel_rfl) (by kernel_rfl) (by decide) avk
def As (z : bh) : Nat := n8 z.origin + rk Lz z.ak + 1
theorem aty : Rd PP 26 bn As :=
  yi (by kernel_rfl) (by kernel_rfl) (nc (by kernel_rfl) (by kernel_rfl) (by kernel_rfl) (by kernel_rfl) Ss (C6 (by kernel_rfl) (by kernel_rfl) (by kernel_rfl) (by kernel_rfl) atn))
theorem L4 (n : Name) : ca n = n8 n := by
  suffices h : ∀ (n : Name) (k : Nat), n.foldl (fun k s => k + (s.size + 1)) k = k + q9 Lw n by
    have := h n 1; simp only [ca, n8, rk]; omega
  intro n
  induction n with
  | nil => intro k; rfl
  | cons a n ih => intro k; rw [List.foldl_cons, ih]; simp only [q9, Lw]; omega
theorem B3 {α : Type} {f μ : α → Nat} {c : Nat} {l : List α} (h : ∀ x, f x + 1 ≤ c * μ x) : g9 f l ≤ c * q9 μ l := by
  induction l with
  | nil => simp [g9, q9]
  | cons a l ih =>
    have := h a
    simp only [g9, List.foldr_cons, q9, Nat.mul_add] at ih ⊢
    omega
theorem Mh {α : Type} (l : List α) : q9 Ii l = l.length := by
  induction l with
  | nil => rfl
  | cons a l ih => simp only [q9, ih, Ii, List.length_cons]; omega
theorem arw (d : ct) : su d + 1 ≤ 3 * Fh d := by
  have h1 := B3 (f := ca) (μ := n8) (c := 2) (l := d.names) (fun n => by rw [L4]; simp only [n8, rk]; omega)
  have h2 := B3 (f := ByteArray.size) (μ := Lw) (c := 1) (l := d.texts) (fun n => by unfold Lw; omega)
  have h3 := Mh d.nums
  have h4 := Mh d.raw
  simp only [su, Fh, n8, rk] at *
  omega
theorem at1 (s : br) : n9 s + 1 ≤ 4 * Lz s := by
  have h1 := B3 (f := su) (μ := Fh) (c := 3) (l := s.data) arw
  have h2 := L4 s.owner
  simp only [n9, Lz, n8, rk] at *
  omega
theorem ar6 (z : bh) : wu z ≤ 4 * As z := by
  have h1 := B3 (f := n9) (μ := Lz) (c := 4) (l := z.ak) at1
  have h2 := L4 z.origin
  simp only [wu, As, n8, rk] at *
  omega
theorem ah6 {n : Name} (h : n8 n ≤ 1048576) : bt n := by unfold bt; rw [L4]; omega
end
end Go.Proofs.YtidomogemfchpaaGreat
end
section
set_option linter.unusedSimpArgs false
set_option linter.unusedVariables false
namespace Go.Proofs.YtidomogemfchpaaGreat
open Go.Vm
set_option maxRecDepth 2000000
noncomputable section
theorem au3 {P : Program} {t : TypeId} (ht : P.underlying t = some (.int .i64)) : Rd P t (aw .i64) (fun _ => 1) := by
  intro H enc W b0 fuel cs x h
  obtain ⟨n, rfl, rfl, hw⟩ := DataW.trod_int ht h
  exact ⟨n, bj.one (.sc _), by simp [j6]⟩
theorem ato : Rd PP 68 (cq (aw .i64)) (rk Ii) := qf (e := 3) (by kernel_rfl) (by kernel_rfl) (by decide) (au3 (by kernel_rfl))
def Lb (h : tv) : Nat := 1 + rk Ii h.au + 1
theorem avh : Rd PP 71 dj Lb :=
  yi (by kernel_rfl) (by kernel_rfl) (nc (by kernel_rfl) (by kernel_rfl) (by kernel_rfl) (by kernel_rfl) arc (C6 (by kernel_rfl) (by kernel_rfl) (by kernel_rfl) (by kernel_rfl) ato))
theorem ash : Rd PP 47 (cq dj) (rk Lb) := qf (e := 71) (by kernel_rfl) (by kernel_rfl) (by decide) avh
theorem asp : Rd PP 46 (cq bn) (rk As) := qf (e := 26) (by kernel_rfl) (by kernel_rfl) (by decide) aty
def Ma (w : bc) : Nat := rk As w.au + (rk Lb w.db + rk Ii w.hints) + 1
theorem atk : Rd PP 50 cd Ma :=
  yi (by kernel_rfl) (by kernel_rfl) (nc (by kernel_rfl) (by kernel_rfl) (by kernel_rfl) (by kernel_rfl) asp (nc (by kernel_rfl) (by kernel_rfl) (by kernel_rfl) (by kernel_rfl) ash (C6 (by kernel_rfl) (by kernel_rfl) (by kernel_rfl) (by kernel_rfl) am8)))
theorem aeq {w : bc} (h : Ma w ≤ 1048576) : cy w := by
  have h1 := B3 (f := wu) (μ := As) (c := 5) (l := w.au) (fun z => by have h1 := ar6 z; have h2 : 1 ≤ As z := (by unfold As; omega); omega)
  have h2 := B3 (f := fun h : tv => h.au.length) (μ := Lb) (c := 1) (l := w.db) (fun h => by have := Mh h.au; unfold Lb rk; omega)
  have h3 := Mh w.hints
  unfold cy Wn
  simp only [Ma, rk] at h
  omega
end
end Go.Proofs.YtidomogemfchpaaGreat
end
namespace Go.Vm
noncomputable section
abbrev ew := Nat → Option (Bool × (List AV → M AV))
def Hh : Nat := 10000
def Ta (look : ew) (f : Nat) (args : List AV) : M AV :=
  bif Nat.blt f Hh then
    match look f with
    | some p => mono (p.2 args)
    | none => .fail
  else .fail
def Cd (look : ew) (g : Fn) (args : List AV) : M AV :=
  match g with
  | .func g => Ta look g args
  | _ => .fail
def Kz (look : ew) (f : AV) (args : List AV) : M AV :=
  match f with
  | .fn g first captured => Cd look g (first ++ args ++ captured)
  | .sc x =>
    match x with
    | .func g first captured => Cd look g (first.toList.map .sc ++ args ++ captured.toList.map .sc)
    | _ => .fail
  | _ => .fail
def Em (P : Program) (look : ew) (o : Oper) (ρ : Operand → AV) : M AV :=
  match o.op with
  | .call { callee := .value f, args, .. } => Kz look (ρ f) (args.toList.map ρ)
  | _ => mono (Ai P o ρ)
def aq {α : Type} (m : M α) : Prop := ∀ st a bd, m st = some (a, bd) → st.nx ≤ bd.nx
theorem aq.pure {α : Type} (a : α) : aq (M.pure a) := fun st _ bd h => by cases h; exact Nat.le_refl _
theorem aq.fail {α : Type} : aq (M.fail : M α) := fun st _ bd h => by cases h
theorem aq.of {α : Type} (a : Option α) : aq (M.of a) := by cases a; exact aq.fail; exact aq.pure _
theorem aq.cond {α : Type} {b : Bool} {x y : M α} (hx : aq x) (hy : aq y) : aq (bif b then x else y) := by cases b <;> assumption
theorem aq.bind {α β : Type} {m : M α} {f : α → M β} (hm : aq m) (hf : ∀ x, aq (f x)) : aq (m.bind f) := fun st b st2 h => by
  obtain ⟨x, s1, h1, h2⟩ := bind_some h
  exact Nat.le_trans (hm _ _ _ h1) (hf x _ _ _ h2)
theorem aq.cw (id : Nat) : aq (Vm.cw id) := fun st a bd h => by
  unfold Vm.cw at h
  split at h
  · cases h; exact Nat.le_refl _
  · cases h
theorem aq.gz (id : Nat) (x : ba) : aq (Vm.gz id x) := fun st a bd h => by
  unfold Vm.gz at h
  split at h
  · cases hb : Nat.ble id cp with
    | true => rw [hb] at h; cases h; exact Nat.le_refl _
    | false => rw [hb] at h; cases h
  · cases h
theorem aq.tk (id : Nat) : aq (Vm.tk id) := fun st a bd h => by
  unfold Vm.tk at h
  split at h
  · cases hb : Nat.ble id cp with
    | true => rw [hb] at h; cases h; exact Nat.le_refl _
    | false => rw [hb] at h; cases h
  · cases h
theorem aq.gm (x : ba) : aq (Vm.gm x) := fun st a bd h => by
  unfold Vm.gm at h
  cases hb : Nat.ble st.nx cp with
  | true => rw [hb] at h; cases h; exact Nat.le_succ _
  | false => rw [hb] at h; cases h
theorem aq.mono {α : Type} {m : M α} (h : aq m) : Vm.mono m = m := by
  funext st
  unfold Vm.mono
  cases hm : m st with
  | none => rfl
  | some p =>
    obtain ⟨a, bd⟩ := p
    simp only
    rw [show Nat.ble st.nx bd.nx = true from Nat.ble_eq_true_of_le (h st a bd hm)]
    rfl
theorem aq.cellsIn (sz : Nat) (v : AV) : aq (Vm.cellsIn sz v) := by
  unfold Vm.cellsIn wk
  repeat' (first | exact aq.pure _ | exact aq.fail | exact aq.cw _ | apply aq.cond | (refine aq.bind ?_ fun x => ?_) | split)
theorem aq.xj {P : Program} {ρ : Operand → AV} {o : Oper} {l : List Operand} : aq (g6 P ρ o l) := by unfold g6; exact aq.cond (aq.of _) aq.fail
theorem aq.bx {t : TypeId} {x : AV} : aq (v7 t x) := by
  unfold v7
  repeat' (first | exact aq.pure _ | exact aq.fail | exact aq.gm _ | apply aq.cond | (refine aq.bind ?_ fun x => ?_) | split)
theorem akh {P : Program} {o : Oper} {ρ : Operand → AV} : aq (Ai P o ρ) := by
  unfold Ai
  cases ho : o.op with
  | move x => exact aq.pure _
  | assign x => exact aq.pure _
  | load t a =>
    show aq (il P t (ρ a))
    unfold il y5
    repeat' (first | exact aq.pure _ | exact aq.fail | exact aq.of _ | exact aq.cw _ | (refine aq.bind ?_ fun x => ?_) | split)
  | fieldAddr s x f =>
    show aq (js P s (ρ x) f)
    unfold js
    repeat' (first | exact aq.pure _ | exact aq.fail | exact aq.of _ | apply aq.cond | split)
  | binOp op t x y u =>
    show aq (vz P ρ o op t x y)
    have he : ∀ a b, aq (mg P ρ o op t a b) := fun a b => by
      unfold mg Dz Ri B4 Yd X7 Rk Iw m6
      repeat' (first | exact aq.pure _ | exact aq.fail | exact aq.of _ | exact aq.cw _ | apply aq.cond | (refine aq.bind ?_ fun x => ?_) | split)
    unfold vz B7 Iu
    repeat' (first | exact he _ _ | exact aq.pure _ | exact aq.fail | exact aq.of _ | apply aq.cond | split)
  | pick c a b =>
    show aq (s8 (ρ c) (ρ a) (ρ b))
    unfold s8
    repeat' (first | exact aq.pure _ | exact aq.fail | split)
  | store t a x =>
    show aq (nw P t (ρ a) (ρ x))
    unfold nw Da
    repeat' (first | exact aq.pure _ | exact aq.fail | exact aq.cw _ | exact aq.gz _ _ | apply aq.cond | (refine aq.bind ?_ fun x => ?_) | split)
  | mapUpdate t m k x =>
    show aq (kr P t (ρ m) (ρ k) (ρ x))
    unfold kr ot
    repeat' (first | exact aq.pure _ | exact aq.fail | exact aq.cw _ | exact aq.gz _ _ | apply aq.cond | (refine aq.bind ?_ fun x => ?_) | split)
  | insert t m k x =>
    show aq (kr P t (ρ m) (ρ k) (ρ x))
    unfold kr ot
    repeat' (first | exact aq.pure _ | exact aq.fail | exact aq.cw _ | exact aq.gz _ _ | apply aq.cond | (refine aq.bind ?_ fun x => ?_) | split)
  | extract t ix =>
    show aq (mi (ρ t) ix)
    unfold mi
    repeat' (first | exact aq.pure _ | exact aq.fail | exact aq.of _ | split)
  | indexAddr t x ix =>
    show aq (jt P t (ρ x) (ρ ix))
    unfold jt tj
    repeat' (first | exact aq.pure _ | exact aq.fail | exact aq.of _ | apply aq.cond | split)
  | nilCheck x =>
    show aq (je (ρ x))
    unfold je
    repeat' (first | exact aq.pure _ | exact aq.fail | split)
  | alloc t =>
    show aq (pn P t)
    unfold pn
    split
    · exact aq.fail
    · exact aq.bx
  | box t x => exact aq.bx
  | build t ps =>
    show aq (oy P t _)
    unfold oy
    repeat' (first | exact aq.pure _ | exact aq.fail | exact aq.of _ | split)
  | buildSlice t len ps =>
    show aq (ij P t len _)
    unfold ij j3
    repeat' (first | exact aq.gm _ | exact aq.pure _ | exact aq.fail | exact aq.of _ | apply aq.cond | (refine aq.bind ?_ fun x => ?_) | split)
  | makeSlice t l c =>
    show aq (ov P t (ρ l) (ρ c))
    unfold ov j3
    repeat' (first | exact aq.gm _ | exact aq.pure _ | exact aq.fail | exact aq.of _ | apply aq.cond | (refine aq.bind ?_ fun x => ?_) | split)
  | makeMap t r =>
    show aq (p0 r)
    unfold p0
    repeat' (first | exact aq.gm _ | exact aq.pure _ | exact aq.fail | (refine aq.bind ?_ fun x => ?_) | split)
  | makeFunc f a b => exact aq.pure _
  | convert src dst x =>
    show aq (nm P ρ o src dst (ρ x))
    have he : aq (qg P ρ o (ρ x)) := by unfold qg; split; exact aq.of _; exact aq.fail
    unfold nm nj
    repeat' (first | exact he | exact aq.fail | split)
    · unfold Dc; repeat' (first | exact aq.gm _ | exact aq.pure _ | exact aq.fail | apply aq.cond | (refine aq.bind ?_ fun x => ?_) | split)
    · unfold F7 yv; repeat' (first | exact aq.cellsIn _ _ | exact aq.pure _ | exact aq.fail | apply aq.cond | (refine aq.bind ?_ fun x => ?_) | split)
    · unfold K7 Gz; repeat' (first | exact aq.cw _ | exact aq.pure _ | exact aq.fail | apply aq.cond | (refine aq.bind ?_ fun x => ?_) | split)
    · unfold I9 Hn; repeat' (first | exact aq.cw _ | exact aq.pure _ | exact aq.fail | apply aq.cond | (refine aq.bind ?_ fun x => ?_) | split)
    · unfold Bz; repeat' (first | exact aq.pure _ | exact aq.fail | split)
  | makeInterface t x =>
    show aq (j5 P t (ρ x))
    unfold j5
    repeat' (first | exact aq.pure _ | exact aq.fail | split)
  | field s x f =>
    show aq (qw P s (ρ x) f)
    unfold qw
    repeat' (first | exact aq.pure _ | exact aq.fail | exact aq.of _ | split)
  | index t x ix =>
    show aq (qz P ρ o t x ix)
    unfold qz
    repeat' (first | exact aq.xj | exact aq.pure _ | exact aq.fail | exact aq.of _ | apply aq.cond | split)
  | slice t x lo hi mx =>
    show aq (pq P ρ o t x lo hi mx)
    unfold pq On
    repeat' (first | exact aq.xj | exact aq.cw _ | exact aq.pure _ | exact aq.fail | exact aq.of _ | apply aq.cond | (refine aq.bind ?_ fun x => ?_) | split)
  | lookup t x ix ok =>
    show aq (pg P t (ρ x) (ρ ix) ok)
    unfold pg ui found
    repeat' (first | exact aq.cw _ | exact aq.pure _ | exact aq.fail | exact aq.of _ | apply aq.cond | (refine aq.bind ?_ fun x => ?_) | split)
  | typeAssert x t a ok =>
    show aq (ni P ρ o (ρ x) a ok)
    unfold ni
    repeat' (first | exact aq.pure _ | exact aq.fail | exact aq.of _ | apply aq.cond | split)
  | unOp op t x => exact aq.xj
  | call c =>
    obtain ⟨callee, args, ts⟩ := c
    cases callee with
    | value f => exact aq.fail
    | invoke r m => exact aq.fail
    | builtin b =>
      show aq (rj P ρ o b args.toList ts)
      unfold rj
      split <;> first | exact aq.fail | exact aq.xj | skip
      · unfold qa ach
        repeat' (first | exact aq.cw _ | exact aq.pure _ | exact aq.fail | (refine aq.bind ?_ fun x => ?_) | split)
      · have ha : ∀ e sz bytes s new, aq (m4 e sz bytes s new) := fun e sz bytes s new => by
          unfold m4 xd j3
          repeat' (first | exact aq.cw _ | exact aq.gm _ | exact aq.tk _ | exact aq.pure _ | exact aq.fail | apply aq.cond | (refine aq.bind ?_ fun x => ?_) | split)
        unfold me
        repeat' (first | exact ha _ _ _ _ _ | exact aq.cellsIn _ _ | exact aq.pure _ | exact aq.fail | apply aq.cond | (refine aq.bind ?_ fun x => ?_) | split)
      · unfold F4 Mg
        repeat' (first | exact aq.cw _ | exact aq.gz _ _ | exact aq.cellsIn _ _ | exact aq.pure _ | exact aq.fail | apply aq.cond | (refine aq.bind ?_ fun x => ?_) | split)
      · unfold yz Al
        repeat' (first | exact aq.cw _ | exact aq.gz _ _ | exact aq.pure _ | exact aq.fail | apply aq.cond | (refine aq.bind ?_ fun x => ?_) | split)
      · unfold z2
        repeat' (first | exact aq.pure _ | exact aq.fail | split)
      · unfold ti
        repeat' (first | exact aq.pure _ | exact aq.fail | apply aq.cond | split)
      · unfold oz J1
        repeat' (first | exact aq.cw _ | exact aq.gz _ _ | exact aq.pure _ | exact aq.fail | apply aq.cond | (refine aq.bind ?_ fun x => ?_) | split)
  | _ => exact aq.fail
structure XA where
  run : ew → (Operand → AV) → M AV
def awc (P : Program) (o : Oper) (op : BinOp) (t : TypeId) (x y : Operand) : XA := ⟨fun _ ρ => vz P ρ o op t x y⟩
def aq5 (P : Program) (o : Oper) (b : Builtin) (args : List Operand) (ts : Array TypeId) : XA :=
  match b, args with
  | .len, [x] => ⟨fun _ ρ => (qa ((ts[0]?).bind P.underlying) (ρ x))⟩
  | .append, [s, x] => ⟨fun _ ρ => (me P ts[0]? ((ts[1]?).bind P.underlying) (ρ s) (ρ x))⟩
  | .copy, [d, x] => ⟨fun _ ρ => (F4 P ts[0]? (ρ d) (ρ x))⟩
  | .delete, [m, k] => ⟨fun _ ρ => (yz P ((ts[0]?).bind P.underlying) (ρ m) (ρ k))⟩
  | .cap, [x] => ⟨fun _ ρ => (z2 ((ts[0]?).bind P.underlying) (ρ x))⟩
  | .unsafeSliceData, [x] => ⟨fun _ ρ => (ti (ρ x))⟩
  | .unsafeString, [x, y] => ⟨fun _ ρ => (oz P ts[0]? (ρ x) (ρ y))⟩
  | .min, l => ⟨fun _ ρ => (g6 P ρ o l)⟩
  | .max, l => ⟨fun _ ρ => (g6 P ρ o l)⟩
  | _, _ => ⟨fun _ _ => .fail⟩
def kb (P : Program) (o : Oper) : XA :=
  match o.op with
  | .move x => ⟨fun _ ρ => (.pure (ρ x))⟩
  | .assign x => ⟨fun _ ρ => (.pure (ρ x))⟩
  | .load t a => ⟨fun _ ρ => (il P t (ρ a))⟩
  | .fieldAddr s x f => ⟨fun _ ρ => (js P s (ρ x) f)⟩
  | .binOp op t x y _ => awc P o op t x y
  | .pick c a b => ⟨fun _ ρ => (s8 (ρ c) (ρ a) (ρ b))⟩
  | .store t a x => ⟨fun _ ρ => (nw P t (ρ a) (ρ x))⟩
  | .extract t ix => ⟨fun _ ρ => (mi (ρ t) ix)⟩
  | .call { callee := .value f, args, .. } => ⟨fun look ρ => Kz look (ρ f) (args.toList.map ρ)⟩
  | .call { callee := .builtin b, args, argTypes } => aq5 P o b args.toList argTypes
  | .indexAddr t x ix => ⟨fun _ ρ => (jt P t (ρ x) (ρ ix))⟩
  | .nilCheck x => ⟨fun _ ρ => (je (ρ x))⟩
  | .alloc t => ⟨fun _ _ => (pn P t)⟩
  | .box t x => ⟨fun _ ρ => (v7 t (ρ x))⟩
  | .build t parts => ⟨fun _ ρ => (oy P t (parts.toList.map fun p => (p.1, ρ p.2)))⟩
  | .buildSlice t len parts => ⟨fun _ ρ => (ij P t len (parts.toList.map fun p => (p.1, ρ p.2)))⟩
  | .makeSlice t l c => ⟨fun _ ρ => (ov P t (ρ l) (ρ c))⟩
  | .makeMap _ r => ⟨fun _ _ => (p0 r)⟩
  | .makeFunc f first captured => ⟨fun _ ρ => (.pure (.fn f (first.toList.map ρ) (captured.toList.map ρ)))⟩
  | .convert src dst x => ⟨fun _ ρ => (nm P ρ o src dst (ρ x))⟩
  | .makeInterface t x => ⟨fun _ ρ => (j5 P t (ρ x))⟩
  | .field s x f => ⟨fun _ ρ => (qw P s (ρ x) f)⟩
  | .index t x ix => ⟨fun _ ρ => (qz P ρ o t x ix)⟩
  | .slice t x lo hi mx => ⟨fun _ ρ => (pq P ρ o t x lo hi mx)⟩
  | .lookup t x ix ok => ⟨fun _ ρ => (pg P t (ρ x) (ρ ix) ok)⟩
  | .mapUpdate t m k x | .insert t m k x => ⟨fun _ ρ => (kr P t (ρ m) (ρ k) (ρ x))⟩
  | .typeAssert x _ asserted ok => ⟨fun _ ρ => (ni P ρ o (ρ x) asserted ok)⟩
  | .unOp _ _ x => ⟨fun _ ρ => (g6 P ρ o [x])⟩
  | _ => ⟨fun _ _ => .fail⟩
theorem Gp (P : Program) (look : ew) (o : Oper) (ρ : Operand → AV) : (kb P o).run look ρ = Em P look o ρ := by
  have key : ∀ (h : ∀ f args ts, o.op ≠ .call { callee := .value f, args, argTypes := ts }), (kb P o).run look ρ = Ai P o ρ := by
    intro h
    unfold kb Ai
    cases ho : o.op with
    | call c =>
      obtain ⟨callee, args, ts⟩ := c
      cases callee with
      | builtin b =>
        dsimp only
        unfold aq5 rj
        generalize args.toList = l
        cases b <;> rcases l with _ | ⟨x, _ | ⟨y, _ | ⟨z, l⟩⟩⟩ <;> rfl
      | value f => exact (h f args ts ho).elim
      | _ => rfl
    | _ => rfl
  unfold Em
  split
  · rename_i f args ts ho
    unfold kb
    rw [ho]
  · rename_i hn
    rw [akh.mono]
    exact key hn
def Li (look : ew) : Nat → dy
  | 0 => []
  | n + 1 =>
    match look n with
    | some p => (n, p.1, p.2) :: Li look n
    | none => Li look n
theorem Ht (look : ew) (f : Nat) : ∀ n, (Li look n).find f = if f < n then look f else none
  | 0 => by simp [Li, dy.find]
  | n + 1 => by
    rw [Li]
    cases hl : look n with
    | some p =>
      simp only [dy.find]
      by_cases e : n = f
      · subst e; simp [hl]
      · rw [kx e, cond_false, Ht look f n]
        by_cases h : f < n
        · rw [if_pos h, if_pos (by omega)]
        · rw [if_neg h, if_neg (by omega)]
    | none =>
      simp only
      rw [Ht look f n]
      by_cases h : f < n
      · rw [if_pos h, if_pos (by omega)]
      · rw [if_neg h]
        by_cases e : f = n
        · subst e; rw [if_pos (by omega), hl]
        · rw [if_neg (by omega)]
def qu (look : ew) : dy := Li look Hh
theorem Wj (look : ew) (f : Nat) : (qu look).find f = bif Nat.blt f Hh then look f else none := by
  rw [qu, Ht]
  by_cases h : f < Hh
  · rw [if_pos h, show Nat.blt f Hh = true from by simpa using h]; rfl
  · rw [if_neg h, show Nat.blt f Hh = false from by cases hb : Nat.blt f Hh with | false => rfl | true => exact (h (by simpa using hb)).elim]; rfl
theorem aqe (look : ew) : Ta look = qo (qu look) := by
  funext f args
  unfold Ta qo
  rw [Wj]
  cases Nat.blt f Hh with
  | false => rfl
  | true => cases look f <;> rfl
theorem Pp (P : Program) (look : ew) : Em P look = eg P (qu look) := by
  have h1 : Cd look = Jm (qu look) := by funext g args; unfold Cd Jm; rw [aqe]; rfl
  have h2 : Kz look = sd (qu look) := by funext f args; unfold Kz sd; rw [h1]; rfl
  funext o ρ
  unfold Em eg
  rw [h2]
  rfl
def C7 (P : Program) (look : ew) (ops : Array Oper) (o : Oper) (L : SL) (st : St) : Option (SL × St) :=
  match wc ops L o with
  | some true =>
    match (kb P o).run look (cz L) st with
    | some (v, st') => some (ft o.dst v L, st')
    | none => none
  | some false => some (ft o.dst (.sc undef) L, st)
  | none => none
structure XO where
  run : ew → SL → St → Option (SL × St)
def ai6 (P : Program) (o : Oper) (d : Nat) : XO :=
  match o.op with
  | .move x => ⟨fun _ L st => some ((d, cz L x) :: L, st)⟩
  | .assign x => ⟨fun _ L st => some ((d, cz L x) :: L, st)⟩
  | _ => ⟨fun look L st => Option.rec (motive := fun _ => Option (SL × St)) none (fun p => some ((d, p.1) :: L, p.2)) ((kb P o).run look (cz L) st)⟩
def yp (P : Program) (ops : Array Oper) (o : Oper) : XO :=
  match o.guard with
  | none =>
    match o.dst with
    | some d => ai6 P o d
    | none => ⟨fun look L st => Option.rec (motive := fun _ => Option (SL × St)) none (fun p => some (L, p.2)) ((kb P o).run look (cz L) st)⟩
  | some _ => ⟨fun look L st => C7 P look ops o L st⟩
theorem Gx (P : Program) (look : ew) (ops : Array Oper) (o : Oper) (L : SL) (st : St) : (yp P ops o).run look L st = C7 P look ops o L st := by
  unfold yp
  cases hg : o.guard with
  | some q => rfl
  | none =>
    have hx : C7 P look ops o L st = match (kb P o).run look (cz L) st with
        | some (v, st') => some (ft o.dst v L, st')
        | none => none := by
      unfold C7 wc
      rw [hg]
    rw [hx]
    cases hd : o.dst with
    | none =>
      show Option.rec (motive := fun _ => Option (SL × St)) none (fun p => some (L, p.2)) ((kb P o).run look (cz L) st) = _
      cases (kb P o).run look (cz L) st <;> rfl
    | some d =>
      show (ai6 P o d).run look L st = _
      unfold ai6
      cases ho : o.op with
      | move x => rw [show (kb P o).run look (cz L) st = some (cz L x, st) from by unfold kb; rw [ho]; rfl]; rfl
      | assign x => rw [show (kb P o).run look (cz L) st = some (cz L x, st) from by unfold kb; rw [ho]; rfl]; rfl
      | _ =>
        show Option.rec (motive := fun _ => Option (SL × St)) none (fun p => some ((d, p.1) :: L, p.2)) ((kb P o).run look (cz L) st) = _
        cases (kb P o).run look (cz L) st <;> rfl
theorem Yw {P look ops o L st r} (h : (yp P ops o).run look L st = some r) : C7 P look ops o L st = some r := by rw [← Gx]; exact h
def q8 (P : Program) (ops : Array Oper) (l : List Oper) : XO :=
  List.rec (motive := fun _ => XO) ⟨fun _ L st => some (L, st)⟩ (fun o _ ih => ⟨fun look L st =>
    Option.rec (motive := fun _ => Option (SL × St)) none (fun p => ih.run look p.1 p.2) ((yp P ops o).run look L st)⟩) l
theorem Ez (P : Program) (look : ew) (ops : Array Oper) (o : Oper) (l : List Oper) (L : SL) (st : St) : (q8 P ops (o :: l)).run look L st = (match (yp P ops o).run look L st with | some p => (q8 P ops l).run look p.1 p.2 | none => none) := by
  show Option.rec (motive := fun _ => Option (SL × St)) none (fun p => (q8 P ops l).run look p.1 p.2) ((yp P ops o).run look L st) = _
  cases (yp P ops o).run look L st <;> rfl
theorem an3 {P : Program} {look : ew} {ops : Array Oper} {t : Nat} : ∀ (l : List Oper) (L : SL) (st : St) (p : SL × St), (q8 P ops l).run look L st = some p → (∀ o ∈ l, o.dst ≠ some t) → lk p.1 t = lk L t := by
  intro l
  induction l with
  | nil => intro L st p h _; cases h; rfl
  | cons o l ih =>
    intro L st p h hn
    rw [Ez] at h
    cases h1 : (yp P ops o).run look L st with
    | none => rw [h1] at h; cases h
    | some q =>
      rw [h1] at h
      rw [ih _ _ p h (fun o ho => hn o (by simp [ho]))]
      have h2 := Yw h1
      have hq : ∃ v, q.1 = ft o.dst v L := by
        unfold C7 at h2
        split at h2
        · split at h2
          · cases h2; exact ⟨_, rfl⟩
          · cases h2
        · cases h2; exact ⟨_, rfl⟩
        · cases h2
      obtain ⟨v, hv⟩ := hq
      rw [hv, Rb, if_neg (hn o (by simp))]
def hasB (s t : Nat) : Bool := Nat.beq (Nat.land (Nat.shiftRight s t) 1) 1
def Lc (s t : Nat) : Nat := Nat.lor s (Nat.shiftLeft 1 t)
def og (ks : List Nat) (L L0 : SL) : SL := List.rec (motive := fun _ => SL) L0 (fun t _ ih => (t, lk L t) :: ih) ks
theorem Po (L L0 : SL) (t : Nat) : ∀ ks, lk (og ks L L0) t = if t ∈ ks then lk L t else lk L0 t
  | [] => by simp [og]
  | k :: ks => by
    show lk ((k, lk L k) :: og ks L L0) t = _
    rw [mf, Po L L0 t ks]
    by_cases e : k = t
    · subst e; simp
    · rw [if_neg e]
      simp only [List.mem_cons, Ne.symm e, false_or]
def mo (L : SL) : Nat → SL := List.rec (motive := fun _ => Nat → SL) (fun _ => []) (fun p _ ih s => Bool.rec (motive := fun _ => SL) (p :: ih (Lc s p.1)) (ih s) (hasB s p.1)) L
theorem anq (s t u : Nat) : hasB (Lc s t) u = (hasB s u || decide (t = u)) := by
  have key : ∀ s u, hasB s u = s.testBit u := by
    intro s u
    unfold hasB
    rw [Nat.testBit]
    show Nat.beq ((s >>> u) &&& 1) 1 = _
    rw [Nat.and_comm]
    have : 1 &&& (s >>> u) < 2 := Nat.lt_of_le_of_lt Nat.and_le_left (by omega)
    rcases (by omega : 1 &&& (s >>> u) = 0 ∨ 1 &&& (s >>> u) = 1) with h | h <;> rw [h] <;> rfl
  rw [key, key]
  show (s ||| (1 <<< t)).testBit u = _
  rw [Nat.testBit_or, Nat.shiftLeft_eq, Nat.one_mul, Nat.testBit_two_pow]
theorem Jy (t : Nat) : ∀ (L : SL) (s : Nat), lk (mo L s) t = bif hasB s t then .bad else lk L t
  | [], s => by cases h : hasB s t <;> rfl
  | p :: L, s => by
    obtain ⟨k, v⟩ := p
    show lk (Bool.rec (motive := fun _ => SL) ((k, v) :: mo L (Lc s k)) (mo L s) (hasB s k)) t = _
    rw [mf]
    cases hk : hasB s k with
    | true =>
      show lk (mo L s) t = _
      rw [Jy t L s]
      by_cases e : k = t
      · subst e; rw [hk]; rfl
      · rw [if_neg e]
    | false =>
      show lk ((k, v) :: mo L (Lc s k)) t = _
      rw [mf, Jy t L, anq]
      by_cases e : k = t
      · subst e; rw [if_pos rfl, if_pos rfl, hk]; rfl
      · rw [if_neg e, if_neg e, decide_eq_false e, Bool.or_false]
def Uw (L' L : SL) : Prop := ∀ t, lk L' t = lk L t ∨ lk L' t = .bad
theorem dt.less {g w nt L L' tmps} (h : dt g w nt L tmps) (hl : Uw L' L) : dt g w nt L' tmps :=
  ⟨h.1, fun t => by rcases hl t with e | e <;> rw [e]; exact h.2 t; exact .bad _⟩
def ku (ex : Nat) (L : SL) : Prop := ∀ t, hasB ex t = false → lk L t = .bad
def lx (ex : Nat) (ops : Array Oper) : List Nat := (ops.toList.filterMap (·.dst)).filter (hasB ex)
theorem z6 {ex : Nat} {ops : Array Oper} {L L0 : SL} (hw : ku ex L0) (hlk : ∀ t, (∀ o ∈ ops.toList, o.dst ≠ some t) → lk L t = lk L0 t) : Uw (og (lx ex ops) L L0) L ∧ ku ex (og (lx ex ops) L L0) := by
  have hm : ∀ t, t ∈ lx ex ops ↔ (∃ o ∈ ops.toList, o.dst = some t) ∧ hasB ex t = true := by
    intro t; simp [lx, List.mem_filter, List.mem_filterMap]
  refine ⟨fun t => ?_, fun t ht => ?_⟩
  · rw [Po]
    by_cases h : t ∈ lx ex ops
    · rw [if_pos h]; exact .inl rfl
    · rw [if_neg h]
      cases hx : hasB ex t with
      | false => exact .inr (hw t hx)
      | true =>
        refine .inl (hlk t fun o ho e => h ((hm t).2 ⟨⟨o, ho, e⟩, hx⟩)).symm
  · rw [Po, if_neg (fun h => by have := ((hm t).1 h).2; rw [ht] at this; cases this)]
    exact hw t ht
def qq {α : Type} (m : M α) : M (α × List Nat × List Nat) := fun st =>
  match m { h := st.h, nx := st.nx, rl := [], wl := [] } with
  | some p => some ((p.1, p.2.rl, p.2.wl), { h := p.2.h, nx := p.2.nx, rl := p.2.rl ++ st.rl, wl := p.2.wl ++ st.wl })
  | none => none
def oj (P : Program) (look : ew) (ops : Array Oper) (l : List Oper) : List Rec → SL → St → Option (List Rec × SL × St) :=
  List.rec (motive := fun _ => List Rec → SL → St → Option (List Rec × SL × St)) (fun recs L st => some (recs, L, st)) (fun o _ ih recs L st =>
    match tm ops L o with
    | some true =>
      match qq ((kb P o).run look (cg o L)) st with
      | some p => bif Nat.ble p.2.nx cp then ih (recs ++ [⟨p.1.2.1, p.1.2.2⟩]) (ft o.dst p.1.1 L) p.2 else none
      | none => none
    | some false => ih (recs ++ [⟨[], []⟩]) (ft o.dst (.sc undef) L) st
    | none => none) l
def Lv (o : Oper) (u : Nat) : Bool := o.op.operands.any fun x => match x with | .tmp t => Nat.beq t u | _ => false
def Sx (ops : Array Oper) (i : Nat) (o : Oper) : Bool := ops.toList.zipIdx.all fun r => Nat.blt r.2 i || (match r.1.dst with | some d => !(Lv o d) | none => true)
def apt (p : Nat) (a : AV) : Bool := match a with | .mp q => Nat.beq q p | _ => false
def Lo (P : Program) (ops : Array Oper) (L : SL) (p k0 i : Nat) (o : Oper) : Option Lit :=
  match o.op, o.dst, o.guard with
  | .insert t m k x, none, none =>
    match P.underlying t with
    | some (.map kt _) =>
      match P.underlying kt, (cz L k).fk with
      | some d, some key =>
        match ev P (Instr.checkKey false 10000 kt key) with
        | some _ => bif (apt p (cz L m) && ((Region.before ops).getD i 0).testBit k0) && Sx ops i o then some ⟨i, d, (key, cz L x)⟩ else none
        | none => none
      | _, _ => none
    | _ => none
  | _, _, _ => none
def Hd (f : Nat → Oper → Option Lit) : List Oper → Nat → Option (List Lit)
  | [], _ => some []
  | o :: r, i =>
    bif sa o then
      match f i o, Hd f r (i + 1) with
      | some q, some l => some (q :: l)
      | _, _ => none
    else Hd f r (i + 1)
def isFalse (b : Option Bool) : Bool := match b with | some false => true | _ => false
def X5 (ops : Array Oper) (recs : List Rec) (p k0 : Nat) (lits : List Lit) : Bool :=
  (lits.all (fun q => lits.all fun r => Nat.beq q.i r.i || (ma q.e.1 r.e.1 && isFalse (Instr.sameNow q.d q.e.1 r.e.1))) && Nat.ble p cp) &&
  ((recs.zipIdx.all fun r => Nat.beq r.2 k0 || (!(we p r.1.R) && !(we p r.1.W))) && (match ops[k0]? with | some o => !(sa o) | none => false))
def Uj (p : Nat) : List Rec → Nat → Option Nat
  | [], _ => none
  | a :: r, i => bif we p a.W then some i else Uj p r (i + 1)
def Jj (l : List Oper) : Option Oper := List.rec (motive := fun _ => Option Oper) none (fun o _ ih => bif sa o then some o else ih) l
def alq (p : Nat) (lits : List Lit) (x : ba) : M Unit :=
  match x with
  | .map [] => gz p (.map (lits.map (·.e)))
  | _ => M.fail
def adj (P : Program) (ops : Array Oper) (recs : List Rec) (L : SL) (p : Nat) : M Unit :=
  match Uj p recs 0 with
  | some k0 =>
    match Hd (Lo P ops L p k0) ops.toList 0 with
    | some lits => bif X5 ops recs p k0 lits then (cw p).bind (alq p lits) else M.fail
    | none => M.fail
  | none => M.fail
def oc (P : Program) (ops : Array Oper) (recs : List Rec) (L : SL) : M Unit :=
  match Jj ops.toList with
  | none => M.pure ()
  | some o =>
    match o.op with
    | .insert _ m _ _ =>
      match cz L m with
      | .mp p => adj P ops recs L p
      | _ => M.fail
    | _ => M.fail
end
end Go.Vm
