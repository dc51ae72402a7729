/- A piece of the proof. Proved: where the arguments are together of bulk at most 1048576, the law AnswerAdds returns true (what is added are addresses of what was named), and what it was given reads afterwards as it did before. No other conditions. -/
import Derived.WalkKit
import Derived.CallsIn
import Derived.RangeFuncIn
import Derived.RangeFuncLeaves
import Derived.Orders
import Derived.OrdersIn
import Derived.Scope
import Derived.RangeFuncOwn
import Derived.Stop.SameAnswer
import Derived.Laws.Externs
import Derived.Lib.Bytealg
import Derived.ProofKit
import Derived.OpenShut
import Derived.ReadAgain
import Derived.Deep.Slices
import Derived.ChangeSame
import Derived.Test.YtidomogemfchpaaGreatProg
import Derived.KernelRfl
import Derived.Test.YtidomogemfchpaaGreatRows
import Derived.Maps.RangeRun
import Derived.JoinedCond
import Derived.Test.YtidomogemfchpaaGreatA3
set_option linter.unusedSimpArgs false
set_option linter.unusedVariables false
section
set_option linter.unusedSimpArgs false
set_option linter.unusedVariables false
namespace Go.Proofs.YtidomogemfchpaaGreat
open Go.Vm
set_option maxRecDepth 2000000
def Yi (t : UInt16) (l : List bb) : Hk :=
  if (t.toNat : Int) = 255 ∧ 0 < l.length then pd 0 l []
  else match l.find? (fun s => decide ((s.type.toNat : Int) = t.toNat)) with
    | some x => pd 0 [x] []
    | none => match l.find? (fun s => decide ((s.type.toNat : Int) = 5) && decide ((t.toNat : Int) ≠ 255)) with
      | some x => pd 1 [x] (((x.data[0]?).bind fun d => d.names[0]?).getD [])
      | none => pd 2 [] []
noncomputable def mr (z : bf) (n : Name) (t : UInt16) (s : Au) : Hk :=
  if s.kind = 4 then pd 4 [(mu z.aj s.node 2).getD Uk] []
  else if s.kind = 0 then pd 3 [] []
  else if s.kind = 2 then pd 2 [] []
  else Yi t (if s.kind = 3 then (ju z s.node).map (xd n) else ju z s.node)
theorem m11 : vw 1 [1] = true := id rfl
theorem m01 : vw 0 [1] = false := id rfl
set_option maxHeartbeats 4000000 in
theorem ar4 (z : bf) (n : Name) (t : UInt16) (s : Au) (hz : cx z) (hn : bd n) (he : ib z = 0) (hsn : bd s.node) : wl PP [Dn, dg, wk, p0] 0 (Tryz.f59.body.getD .skip) (du PP Tryz.f59.results.toList (fun r st => (r1 zx).get true st.h r = some (mr z n t s))) (cq 0 [cy.val false z, ar.val false n, cz.val false t, qn.val false s]) (bm []) := by
  have hl := hz.len
  have ok : aw PP [Dn, dg, wk, p0] := aw.cons (aq A3) (aw.cons (aq ee) (aw.cons (aq sj) (aw.cons (aq mq) (aw.nil PP))))
  unfold Tryz.f59
  simp only [iz, db, Fk]
  simp only [↓wR, RA, simprocAttr, TF, ag]
  unfold mr
  rw [c7]; refine ⟨fun ⟨h4, e4⟩ => ?_, fun ⟨h4, e4⟩ => ?_⟩
  · rw [if_pos e4]
    simp only [↓wR, RA, simprocAttr, TF, ag, h4, atk, ql, hz.mid, hsn, Kb]
  rw [if_neg e4]
  simp only [↓wR, RA, simprocAttr, TF, ag, h4]
  rw [c7]; refine ⟨fun ⟨h0, e0⟩ => ?_, fun ⟨h0, e0⟩ => ?_⟩
  · rw [if_pos e0]
    simp only [↓wR, RA, simprocAttr, TF, ag, h0]
  rw [if_neg e0]
  simp only [↓wR, RA, simprocAttr, TF, ag, h0]
  rw [c7]; refine ⟨fun ⟨h2, e2⟩ => ?_, fun ⟨h2, e2⟩ => ?_⟩
  · rw [if_pos e2]
    simp only [↓wR, RA, simprocAttr, TF, ag, h2]
  rw [if_neg e2]
  simp only [↓wR, RA, simprocAttr, TF, ag, h2]
  refine dr (fun r st' => r = .sl 3 0 (ju z s.node).length 5 ∧ st' = bm [some (.row [.vl false 1 (z.origin.map (ak.val false)), .vl false 5 (z.aj.map (ah.val false))] 0 2 26), some (.row [.sc (.int .u8 s.kind), .vl false 1 (s.node.map (ak.val false)), .vl false 1 (s.uw.map (ak.val false))] 0 2 90), some (.row [.sc (.int .u8 0), .sc (.slice none 0 0), .sc (.slice none 0 0)] 0 2 64), some (.row (cellsOf ah true (ju z s.node)) 0 0 40)]) rfl ?_ ?_
  · refine bn (T := [Dn, dg, wk, p0]) ok mixed Tryz.func96 rfl (by kernel_rfl) (by kernel_rfl) (by kernel_rfl) (by kernel_rfl) ?_; unfold Tryz.f96
    simp only [↓wR, RA, simprocAttr, TF, ag]
    refine jo [1, 9, 10, 11, 5] (fun (x : Nat × List bb) => [.vl false 1 (s.node.map (ak.val false)), .vl false 5 (z.aj.map (ah.val false)), .sc (.int .i64 (z.aj.length)), .sc (.int .i64 (x.1)), .sl 3 0 x.2.length 5]) (fun x => [some (.row [.vl false 1 (z.origin.map (ak.val false)), .vl false 5 (z.aj.map (ah.val false))] 0 2 26), some (.row [.sc (.int .u8 s.kind), .vl false 1 (s.node.map (ak.val false)), .vl false 1 (s.uw.map (ak.val false))] 0 2 90), some (.row [.sc (.int .u8 0), .sc (.slice none 0 0), .sc (.slice none 0 0)] 0 2 64), some (.row (cellsOf ah true (x.2)) 0 0 40)]) (fun x => x.1 ≤ z.aj.length ∧ x.2 ++ (z.aj.drop x.1).filter (fun q => dk q.owner s.node) = ju z s.node) (fun x => z.aj.length - x.1) (0, []) ⟨Nat.zero_le _, rfl⟩ (by simp only [↓wR, RA, simprocAttr, TF, ag]; (refine l7.lax [] (by first | exact Nat.le_of_ble_eq_true rfl | (simp [bw]; omega)) ?_ ?_ <;> repeat' first | exact iq.nil | exact dc.nil | exact iw.same _ | exact iw.nil _ _ _ | exact iw.uy _ _ | exact dc.refl _ _ | apply iq.cons | apply dc.ghost | apply dc.same | apply dc.row)) ?_
    rintro ⟨i, x⟩ ⟨hi, hx⟩
    simp only at hi hx
    have hxl : x.length ≤ z.aj.length := by
      have h1 := tf (l := z.aj) (fun q => dk q.owner s.node)
      have h2 := congrArg List.length hx
      simp only [List.length_append, ju] at h2
      omega
    simp only [↓wR, RA, simprocAttr, TF, ag]
    rw [b9]; refine ⟨fun h => ?_, fun h => ?_⟩
    · obtain ⟨c, hc, hd1, hlt⟩ := ec (decide_eq_true h)
      rw [Ke hd1] at hx
      have hcs := hz.set c (List.mem_of_getElem? hc)
      simp only [↓wR, RA, simprocAttr, TF, ag, h, hc, gi, hcs.owner, hsn]
      rw [cp]; refine ⟨fun h1 => ?_, fun h1 => ?_⟩
      · rw [if_pos h1] at hx
        have hlim : (x.length * 5 + 5) * 64 ≤ 140737488355328 := by omega
        simp only [↓wR, RA, simprocAttr, TF, ag, h1, om, hcs, hlim]; repeat (simp (disch := omega) only [ai, cd, ca, cf, cb]; try simp only [↓wR, RA, simprocAttr, TF, ag, h1, om, hcs, hlim])
        refine ⟨(i + 1, x ++ [c]), ⟨hlt, by rw [← hx]; simp⟩, by simp; omega, by (first | rfl | trivial | omega | ((try (simp (disch := omega) only [ai])); (try (simp only [FB])); first | done | rfl | omega)), ?_⟩
        rw [sf]
      · rw [if_neg (by rw [h1]; decide)] at hx
        simp only [↓wR, RA, simprocAttr, TF, ag, h1]; repeat (simp (disch := omega) only [ai, cd, ca, cf, cb]; try simp only [↓wR, RA, simprocAttr, TF, ag, h1])
        exact ⟨(i + 1, x), ⟨hlt, hx⟩, by simp; omega, by (first | rfl | trivial | omega | ((try (simp (disch := omega) only [ai])); (try (simp only [FB])); first | done | rfl | omega)), by (first | rfl | trivial | omega | ((try (simp (disch := omega) only [ai])); (try (simp only [FB])); first | done | rfl | omega))⟩
    · rw [fe (decide_eq_false h)] at hx
      rw [List.filter_nil, List.append_nil] at hx
      subst hx
      simp only [↓wR, RA, simprocAttr, TF, ag, h, ik, g8, gz]
  rintro _ _ ⟨rfl, rfl⟩
  simp only [↓wR, RA, simprocAttr, TF, ag, gk]
  rw [c7]; refine ⟨fun ⟨h3, e3⟩ => ?_, fun ⟨h3, e3⟩ => ?_⟩
  rotate_left
  rw [if_neg e3]
  simp only [↓wR, RA, simprocAttr, TF, ag, h3]
  obtain ⟨L, hLe⟩ : ∃ L, L = ju z s.node := ⟨_, rfl⟩
  have hLd : ∀ x ∈ L, ∃ y ∈ z.aj, x.data = y.data ∧ x.type = y.type := fun x hx => ⟨x, by rw [hLe] at hx; exact (List.mem_filter.1 hx).1, rfl, rfl⟩
  have hLl : L.length = (ju z s.node).length := by rw [hLe]
  rw [← hLl, ← hLe]
  clear hLe
  rotate_left
  rw [if_pos e3]
  simp only [↓wR, RA, simprocAttr, TF, ag, h3]
  refine dr (fun r st' => r = .sl 3 0 (ju z s.node).length 5 ∧ st' = bm [some (.row [.vl false 1 (z.origin.map (ak.val false)), .vl false 5 (z.aj.map (ah.val false))] 0 2 26), some (.row [.sc (.int .u8 s.kind), .vl false 1 (s.node.map (ak.val false)), .vl false 1 (s.uw.map (ak.val false))] 0 2 90), some (.row [.sc (.int .u8 0), .sc (.slice none 0 0), .sc (.slice none 0 0)] 0 2 64), some (.row (cellsOf ah true ((ju z s.node).map (xd n))) 0 0 40)]) rfl ?_ ?_
  · refine bn (T := [Dn, dg, wk, p0]) ok mixed Tryz.func97 rfl (by kernel_rfl) (by kernel_rfl) (by kernel_rfl) (by kernel_rfl) ?_; unfold Tryz.f97
    simp only [↓wR, RA, simprocAttr, TF, ag]
    refine dy [0, 1, 7, 8] (fun (i : Nat) => [.sl 3 0 (ju z s.node).length 5, .vl false 1 (n.map (ak.val false)), .sc (.int .i64 ((ju z s.node).length)), .sc (.int .i64 (i))]) (fun i => [some (.row [.vl false 1 (z.origin.map (ak.val false)), .vl false 5 (z.aj.map (ah.val false))] 0 2 26), some (.row [.sc (.int .u8 s.kind), .vl false 1 (s.node.map (ak.val false)), .vl false 1 (s.uw.map (ak.val false))] 0 2 90), some (.row [.sc (.int .u8 0), .sc (.slice none 0 0), .sc (.slice none 0 0)] 0 2 64), some (.row (cellsOf ah true (((ju z s.node).take i).map (xd n) ++ (ju z s.node).drop i)) 0 0 40)]) (fun i => i ≤ (ju z s.node).length) (fun i => (ju z s.node).length - i) 0 (Nat.zero_le _) (by simp only [↓wR, RA, simprocAttr, TF, ag] <;> rfl) (by simp only [↓wR, RA, simprocAttr, TF, ag] <;> rfl) ?_
    intro i hi
    have hal : (ju z s.node).length ≤ z.aj.length := tf _
    simp only [↓wR, RA, simprocAttr, TF, ag]
    rw [b9]; refine ⟨fun h => ?_, fun h => ?_⟩
    · obtain ⟨c, hc, hd1, hlt⟩ := ec (decide_eq_true h)
      have hys : (((ju z s.node).take i).map (xd n) ++ (ju z s.node).drop i)[i]? = some c := by
        rw [List.getElem?_append_right (by simp; omega), hd1]
        simp [Nat.min_eq_left (show i ≤ (ju z s.node).length by omega)]
      have hst := ang (xs := ((ju z s.node).take i).map (xd n) ++ (ju z s.node).drop i) n 0 40 3 hys
      have hyt : (((ju z s.node).take i).map (xd n) ++ (ju z s.node).drop i).take i ++ xd n c :: (((ju z s.node).take i).map (xd n) ++ (ju z s.node).drop i).drop (i + 1) = ((ju z s.node).take (i + 1)).map (xd n) ++ (ju z s.node).drop (i + 1) := by
        obtain ⟨_, rfl⟩ := List.getElem?_eq_some_iff.1 hc
        have hlm : (((ju z s.node).take i).map (xd n)).length = i := by simp; omega
        rw [List.take_left' hlm, List.drop_append, hlm, List.take_succ_eq_append_getElem hlt, List.map_append]
        rw [List.drop_eq_nil_of_le (by omega), List.drop_drop, Nat.add_sub_cancel_left]
        simp
      rw [hyt] at hst
      simp only [↓wR, RA, simprocAttr, TF, ag, h, kn, hn, ↓hst]; repeat (simp (disch := omega) only [ai, cd, ca, cf, cb]; try simp only [↓wR, RA, simprocAttr, TF, ag, h, kn, hn, ↓hst])
      exact ⟨i + 1, hlt, by omega, by (first | rfl | trivial | omega | ((try (simp (disch := omega) only [ai])); (try (simp only [FB])); first | done | rfl | omega))⟩
    · have hin : i = (ju z s.node).length := by omega
      subst hin
      simp only [↓wR, RA, simprocAttr, TF, ag, h, ik, g8, gz, List.take_length, List.drop_length, List.append_nil]
  rintro _ _ ⟨rfl, rfl⟩
  simp only [↓wR, RA, simprocAttr, TF, ag, gk]
  obtain ⟨L, hLe⟩ : ∃ L, L = (ju z s.node).map (xd n) := ⟨_, rfl⟩
  have hLd : ∀ x ∈ L, ∃ y ∈ z.aj, x.data = y.data ∧ x.type = y.type := fun x hx => by
    rw [hLe] at hx
    obtain ⟨y, hy, rfl⟩ := List.mem_map.1 hx
    exact ⟨y, (List.mem_filter.1 hy).1, rfl, rfl⟩
  have hLl : L.length = (ju z s.node).length := by rw [hLe, List.length_map]
  rw [← hLl, ← hLe]
  clear hLe
  all_goals
    unfold Yi
    have hL0 : L.length ≤ z.aj.length := by rw [hLl]; exact tf _
    by_cases hany : (t.toNat : Int) = 255 ∧ 0 < L.length
    · rw [if_pos hany]
      have e5 : ((t.toNat : Int) == 255) = true := by rw [hany.1]; rfl
      have e6 : decide ((L.length : Int) > 0) = true := decide_eq_true (by omega)
      simp only [↓wR, RA, simprocAttr, TF, ag, e5, e6]
    rw [if_neg hany]
    by_cases h5 : (t.toNat : Int) = 255
    rotate_left
    have e5 : ((t.toNat : Int) == 255) = false := by simpa using h5
    simp only [↓wR, RA, simprocAttr, TF, ag, e5]
    rotate_left
    have e5 : ((t.toNat : Int) == 255) = true := by rw [h5]; rfl
    have e6 : decide ((L.length : Int) > 0) = false := decide_eq_false (by omega)
    simp only [↓wR, RA, simprocAttr, TF, ag, e5, e6]
    all_goals
      refine jo [2, 8, 11, 56, 57, 58] (fun (i : Nat) => [.sc (.int .u16 t.toNat), .ptr 0 0, .vl true 5 (L.map (ah.val true)), .vl true 5 (L.map (ah.val true)), .sc (.int .i64 (L.length)), .sc (.int .i64 (i))]) (fun _ => [some (.row [.sc (.int .u8 0), .sc (.slice none 0 0), .sc (.slice none 0 0)] 0 2 64)]) (fun i => i ≤ L.length ∧ L.find? (fun s => decide ((s.type.toNat : Int) = t.toNat)) = (L.drop i).find? (fun s => decide ((s.type.toNat : Int) = t.toNat))) (fun i => L.length - i) 0 ⟨Nat.zero_le _, rfl⟩ (by simp only [↓wR, RA, simprocAttr, TF, ag]; refine .trans (l7.lax [1] (Nat.le_of_ble_eq_true rfl) (.cons (.same _) (.cons (.same _) (.cons (.data (ct ah) true L _ ?_) (.cons (.data (ct ah) true L _ ?_) (.cons (.same _) (.cons (.same _) .nil)))))) (.same (.same .nil))) (l7.auf (by decide) ?_ ?_) <;> simp only [↓wR, RA, simprocAttr, TF, ag, zf, Ay, m11, m01, sg]) ?_
      rintro i ⟨hi, hx⟩
      simp only [↓wR, RA, simprocAttr, TF, ag]
      rw [b9]; refine ⟨fun h => ?_, fun h => ?_⟩
      · obtain ⟨c, hc, hd1, hlt⟩ := ec (decide_eq_true h)
        by_cases h5 : (t.toNat : Int) = 255
        · omega
        rw [Ux hd1] at hx
        simp only [↓wR, RA, simprocAttr, TF, ag, h, hc]
        rw [c7]; refine ⟨fun ⟨h1, e1⟩ => ?_, fun ⟨h1, e1⟩ => ?_⟩
        · rw [if_pos (decide_eq_true e1)] at hx
          simp only [↓wR, RA, simprocAttr, TF, ag, h1, hx, Kb]
        · rw [decide_eq_false e1, if_neg (by decide)] at hx
          simp only [↓wR, RA, simprocAttr, TF, ag, h1]; repeat (simp (disch := omega) only [ai, cd, ca, cf, cb]; try simp only [↓wR, RA, simprocAttr, TF, ag, h1])
          exact ⟨i + 1, ⟨hlt, hx⟩, by omega, by (first | rfl | trivial | omega | ((try (simp (disch := omega) only [ai])); (try (simp only [FB])); first | done | rfl | omega))⟩
      rw [fe (decide_eq_false h), List.find?_nil] at hx
      rw [hx]
      simp only [↓wR, RA, simprocAttr, TF, ag, h]
      clear h hx hi
      refine dy [2, 8, 70, 71, 72] (fun (i : Nat) => [.sc (.int .u16 t.toNat), .ptr 0 0, .vl true 5 (L.map (ah.val true)), .sc (.int .i64 (L.length)), .sc (.int .i64 (i))]) (fun _ => [some (.row [.sc (.int .u8 0), .sc (.slice none 0 0), .sc (.slice none 0 0)] 0 2 64)]) (fun i => i ≤ L.length ∧ L.find? (fun s => decide ((s.type.toNat : Int) = 5) && decide ((t.toNat : Int) ≠ 255)) = (L.drop i).find? (fun s => decide ((s.type.toNat : Int) = 5) && decide ((t.toNat : Int) ≠ 255))) (fun i => L.length - i) 0 ⟨Nat.zero_le _, rfl⟩ (by simp only [↓wR, RA, simprocAttr, TF, ag] <;> rfl) (by simp only [↓wR, RA, simprocAttr, TF, ag] <;> rfl) ?_
      rintro i ⟨hi, hx⟩
      simp only [↓wR, RA, simprocAttr, TF, ag]
      rw [b9]; refine ⟨fun h => ?_, fun h => ?_⟩
      · obtain ⟨c, hc, hd1, hlt⟩ := ec (decide_eq_true h)
        by_cases h5 : (t.toNat : Int) = 255
        · omega
        have hne : ((t.toNat : Int) != 255) = true := by simpa using h5
        rw [Ux hd1] at hx
        simp only [↓wR, RA, simprocAttr, TF, ag, h, hc]
        rw [c7]; refine ⟨fun ⟨h1, e1⟩ => ?_, fun ⟨h1, e1⟩ => ?_⟩
        · have hp : (decide ((c.type.toNat : Int) = 5) && decide ((t.toNat : Int) ≠ 255)) = true := by rw [decide_eq_true e1, decide_eq_true h5]; rfl
          rw [if_pos hp] at hx
          obtain ⟨y, hy, hyd, hyt⟩ := hLd c (List.mem_of_getElem? hc)
          obtain ⟨d, m, hd, hm⟩ := aob (Be he y hy) (by rw [← hyt]; exact e1)
          rw [← hyd] at hd
          have hms : bd m := by
            have := (hz.set y hy).data.mem d (by rw [← hyd]; exact List.mem_of_getElem? hd)
            exact this.name m (List.mem_of_getElem? hm)
          simp only [↓wR, RA, simprocAttr, TF, ag, h1, hne]
          refine ⟨by kernel_rfl, .inl ?_⟩
          simp only [↓wR, RA, simprocAttr, TF, ag, hd, hm, hx, kn, hms, Kb]
          exact (by kernel_rfl)
        · have hp : (decide ((c.type.toNat : Int) = 5) && decide ((t.toNat : Int) ≠ 255)) = false := by rw [decide_eq_false e1]; rfl
          rw [hp, if_neg (by decide)] at hx
          simp only [↓wR, RA, simprocAttr, TF, ag, h1]; repeat (simp (disch := omega) only [ai, cd, ca, cf, cb]; try simp only [↓wR, RA, simprocAttr, TF, ag, h1])
          exact ⟨i + 1, ⟨hlt, hx⟩, by omega, by (first | rfl | trivial | omega | ((try (simp (disch := omega) only [ai])); (try (simp only [FB])); first | done | rfl | omega))⟩
      rw [fe (decide_eq_false h), List.find?_nil] at hx
      rw [hx]
      simp only [↓wR, RA, simprocAttr, TF, ag, h]
noncomputable def ua (x : bf × Name × UInt16 × Au × Unit) : Option AV := if (cx x.1 ∧ bd x.2.1) ∧ (ib x.1 = 0 ∧ bd x.2.2.2.1.node) then some ((r1 zx).E true (mr x.1 x.2.1 x.2.2.1 x.2.2.2.1)) else none
set_option maxRecDepth 2000000 in
theorem So (x : bf × Name × UInt16 × Au × Unit) (r : AV) (h : ua x = some r) : bk PP 59 ((aC cy (aC ar (aC cz (aC qn a0)))).E x) r := by
  by_cases hc : (cx x.1 ∧ bd x.2.1) ∧ (ib x.1 = 0 ∧ bd x.2.2.2.1.node)
  case neg => simp only [ua, if_neg hc] at h; cases h
  simp only [ua, if_pos hc] at h
  cases h
  exact be (aw.cons (aq A3) (aw.cons (aq ee) (aw.cons (aq sj) (aw.cons (aq mq) (aw.nil PP))))) Tryz.func59 (by kernel_rfl) (by kernel_rfl) (by kernel_rfl) (Nat.le_of_ble_eq_true (by kernel_rfl)) (r1 zx) true (mr x.1 x.2.1 x.2.2.1 x.2.2.2.1) (ar4 x.1 x.2.1 x.2.2.1 x.2.2.2.1 hc.1.1 hc.1.2 hc.2.1 hc.2.2)
noncomputable abbrev Yo : Nat × Bool × (List AV → M AV) := (59, true, dm (aC cy (aC ar (aC cz (aC qn a0)))) ua)
end Go.Proofs.YtidomogemfchpaaGreat
end
section
set_option linter.unusedVariables false
set_option linter.unusedSimpArgs false
set_option maxRecDepth 4000
namespace Go.Vm
noncomputable section
def Yy (a b : AV) (e : M AV) : M AV :=
  match a, b with
  | .sc (.int k x), .sc (.int _ y) => .pure (.sc (.int k (if y < x then y else x)))
  | _, _ => e
def abd (a b : AV) (e : M AV) : M AV :=
  match a, b with
  | .sc (.int k x), .sc (.int _ y) => .pure (.sc (.int k (if y > x then y else x)))
  | _, _ => e
theorem alj (k k' x y e) : Yy (.sc (.int k x)) (.sc (.int k' y)) e = .pure (.sc (.int k (if y < x then y else x))) := id rfl
theorem ame (k k' x y e) : abd (.sc (.int k x)) (.sc (.int k' y)) e = .pure (.sc (.int k (if y > x then y else x))) := id rfl
theorem ah4 (P : Program) (ρ : Operand → AV) (d ty pos af gd) (x y : Operand) (ts) : gx P ρ ⟨d, .call { callee := .builtin .min, args := #[x, y], argTypes := ts }, ty, pos, af, gd⟩ [x, y] = Yy (ρ x) (ρ y) (ye P ρ ⟨d, .call { callee := .builtin .min, args := #[x, y], argTypes := ts }, ty, pos, af, gd⟩ [x, y]) := by
  unfold Yy
  split
  · rename_i k a k' b hx hy
    have h2 : execOp (fun z => ((ρ z).fm).getD undef) ⟨d, .call { callee := .builtin .min, args := #[x, y], argTypes := ts }, ty, pos, af, gd⟩ = (do pure (Next.value (← Builtin.min_ ts ty #[.int k a, .int k' b]))) := by
      simp [execOp, resolve, invoke, builtin, hx, hy, AV.fm]
    have h3 : ev P (Builtin.min_ ts ty #[.int k a, .int k' b]) = some (.int k (if b < a then b else a)) := by
      simp [Builtin.min_, Builtin.min2, ev]
      rfl
    unfold gx j0 qw
    simp [hx, hy, AV.fm]
    rw [h2, G3, h3]
    rfl
  · rfl
theorem ah5 (P : Program) (ρ : Operand → AV) (d ty pos af gd) (x y : Operand) (ts) : gx P ρ ⟨d, .call { callee := .builtin .max, args := #[x, y], argTypes := ts }, ty, pos, af, gd⟩ [x, y] = abd (ρ x) (ρ y) (ye P ρ ⟨d, .call { callee := .builtin .max, args := #[x, y], argTypes := ts }, ty, pos, af, gd⟩ [x, y]) := by
  unfold abd
  split
  · rename_i k a k' b hx hy
    have h2 : execOp (fun z => ((ρ z).fm).getD undef) ⟨d, .call { callee := .builtin .max, args := #[x, y], argTypes := ts }, ty, pos, af, gd⟩ = (do pure (Next.value (← Builtin.max_ ts ty #[.int k a, .int k' b]))) := by
      simp [execOp, resolve, invoke, builtin, hx, hy, AV.fm]
    have h3 : ev P (Builtin.max_ ts ty #[.int k a, .int k' b]) = some (.int k (if b > a then b else a)) := by
      simp [Builtin.max_, Builtin.max2, ev]
      rfl
    unfold gx j0 qw
    simp [hx, hy, AV.fm]
    rw [h2, G3, h3]
    rfl
  · rfl
theorem Kr (P : Program) (T : dw) (ρ : Operand → AV) (d ty pos af gd) (s x ts) : fi P T ⟨d, .call { callee := .builtin .min, args := #[s, x], argTypes := ts }, ty, pos, af, gd⟩ ρ = mono (Yy (ρ s) (ρ x) (ye P ρ ⟨d, .call { callee := .builtin .min, args := #[s, x], argTypes := ts }, ty, pos, af, gd⟩ [s, x])) := by
  rw [← ah4]; rfl
theorem aft {P : Program} {T : dw} {d ty pos af gd recs K L st} (s x ts) : fj P T ⟨d, .call { callee := .builtin .min, args := #[s, x], argTypes := ts }, ty, pos, af, gd⟩ recs K L st = er (true) (reach st.h eh (AV.names.go ([s, x].map (cg L))) []) ⟨d, .call { callee := .builtin .min, args := #[s, x], argTypes := ts }, ty, pos, af, gd⟩ recs K L st (mono (Yy (cg L s) (cg L x) (ye P (bt ⟨d, .call { callee := .builtin .min, args := #[s, x], argTypes := ts }, ty, pos, af, gd⟩ L) ⟨d, .call { callee := .builtin .min, args := #[s, x], argTypes := ts }, ty, pos, af, gd⟩ [s, x]))) := by
  unfold fj j5 kx er
  simp only [iy, cond_false]
  have hm : ∀ y, y ∈ ([s, x] : List Operand) → bt ⟨d, .call { callee := .builtin .min, args := #[s, x], argTypes := ts }, ty, pos, af, gd⟩ L y = cg L y := fun y hy => eb (by simpa [Op.operands, Call.operands] using hy)
  have hmap : ([s, x] : List Operand).map (bt ⟨d, .call { callee := .builtin .min, args := #[s, x], argTypes := ts }, ty, pos, af, gd⟩ L) = ([s, x] : List Operand).map (cg L) := gq (fun y hy => by simpa [Op.operands, Call.operands] using hy)
  have ho : (⟨d, .call { callee := .builtin .min, args := #[s, x], argTypes := ts }, ty, pos, af, gd⟩ : Oper).op.operands.toList = [s, x] := by simp [Op.operands, Call.operands]
  rw [ho, hmap]
  rw [Kr, hm s (by simp), hm x (by simp)]
  rfl
theorem Lg (P : Program) (T : dw) (ρ : Operand → AV) (d ty pos af gd) (s x ts) : fi P T ⟨d, .call { callee := .builtin .max, args := #[s, x], argTypes := ts }, ty, pos, af, gd⟩ ρ = mono (abd (ρ s) (ρ x) (ye P ρ ⟨d, .call { callee := .builtin .max, args := #[s, x], argTypes := ts }, ty, pos, af, gd⟩ [s, x])) := by
  rw [← ah5]; rfl
theorem af2 {P : Program} {T : dw} {d ty pos af gd recs K L st} (s x ts) : fj P T ⟨d, .call { callee := .builtin .max, args := #[s, x], argTypes := ts }, ty, pos, af, gd⟩ recs K L st = er (true) (reach st.h eh (AV.names.go ([s, x].map (cg L))) []) ⟨d, .call { callee := .builtin .max, args := #[s, x], argTypes := ts }, ty, pos, af, gd⟩ recs K L st (mono (abd (cg L s) (cg L x) (ye P (bt ⟨d, .call { callee := .builtin .max, args := #[s, x], argTypes := ts }, ty, pos, af, gd⟩ L) ⟨d, .call { callee := .builtin .max, args := #[s, x], argTypes := ts }, ty, pos, af, gd⟩ [s, x]))) := by
  unfold fj j5 kx er
  simp only [iy, cond_false]
  have hm : ∀ y, y ∈ ([s, x] : List Operand) → bt ⟨d, .call { callee := .builtin .max, args := #[s, x], argTypes := ts }, ty, pos, af, gd⟩ L y = cg L y := fun y hy => eb (by simpa [Op.operands, Call.operands] using hy)
  have hmap : ([s, x] : List Operand).map (bt ⟨d, .call { callee := .builtin .max, args := #[s, x], argTypes := ts }, ty, pos, af, gd⟩ L) = ([s, x] : List Operand).map (cg L) := gq (fun y hy => by simpa [Op.operands, Call.operands] using hy)
  have ho : (⟨d, .call { callee := .builtin .max, args := #[s, x], argTypes := ts }, ty, pos, af, gd⟩ : Oper).op.operands.toList = [s, x] := by simp [Op.operands, Call.operands]
  rw [ho, hmap]
  rw [Lg, hm s (by simp), hm x (by simp)]
  rfl
theorem MM0 : type_of% @alj ∧ type_of% @ame ∧ type_of% @Kr ∧ type_of% @Lg ∧ type_of% @aft ∧ type_of% @af2 :=
  ⟨@alj, @ame, @Kr, @Lg, @aft, @af2⟩
end
end Go.Vm
end
section
set_option linter.unusedSimpArgs false
set_option linter.unusedVariables false
namespace Go.Proofs.YtidomogemfchpaaGreat
open Go.Vm
set_option maxRecDepth 2000000
theorem Wz {z : bf} {n : Name} (hz : cx z) (hn : bd n) : bd (i5 z n).1.node := by
  by_cases h : fv z n = 0
  · rcases agl h with ⟨c, hc, e⟩ | ⟨hc, _, _, e⟩ | ⟨hc, _, _, e⟩ | ⟨hc, _, _, _, e⟩ | ⟨hc, _, _, _, e⟩ <;> rw [e]
    · exact Xl hz z.aj none (fun _ h => h) (fun m hm => by cases hm) c hc
    · exact hn
    · show bj [] ≤ _; decide
    · exact Qt (px h).2.1
    · show bj [] ≤ _; decide
  · rw [adp h]; show bj [] ≤ _; decide
theorem arl {z : bf} {n : Name} (h : (i5 z n).2 = 0) : fv z n = 0 := by
  by_cases e : fv z n = 0
  · exact e
  · rw [adp e] at h; exact h
theorem J2 {z : bf} {n : Name} {t : UInt16} (h : (lr z n t).2 = 0) : fv z n = 0 ∧ (t.toNat : Int) ≠ 0 ∧ (t.toNat : Int) ≠ 41 ∧ (lr z n t).1 = (i5 z n).1 := by
  unfold lr at h ⊢
  split at h
  · cases h
  · rename_i q
    rw [if_neg q]
    exact ⟨arl h, fun e => q ⟨h, .inl e⟩, fun e => q ⟨h, .inr e⟩, rfl⟩
noncomputable def aqu (z : bf) (n : Name) (t : UInt16) : Hk × Int := if (lr z n t).2 ≠ 0 then (pd 0 [] [], (lr z n t).2) else (mr z n t (i5 z n).1, 0)
theorem awl (z : bf) (n : Name) (t : UInt16) (hz : cx z) (hn : bd n) : wl PP [Tt, Yo] 0 (Tryz.f23.body.getD .skip) (du PP Tryz.f23.results.toList (fun r st => (r2 zx (bg .i64)).get true st.h r = some (aqu z n t))) (cq 0 [cy.val false z, ar.val false n, cz.val false t]) (bm []) := by
  unfold Tryz.f23
  simp only [iz, db]
  unfold aqu
  by_cases he : (lr z n t).2 = 0
  · obtain ⟨h1, h2, h3, h4⟩ := J2 he
    obtain ⟨a1, a2, a3⟩ := px h1
    have hsp := Wz hz hn
    rw [if_neg (by omega)]
    rcases hf : i5 z n with ⟨⟨k, nd, cl⟩, e⟩
    rw [hf] at h4 hsp
    rcases ha : lr z n t with ⟨sp, e'⟩
    rw [ha] at h4 he
    simp only at h4 he hsp
    subst h4 he
    simp only [↓wR, RA, simprocAttr, TF, ag, xx, hz, hn, ha, bne_self_eq_false, ua, a1, hsp]
    rfl
  · rw [if_pos he]
    rcases ha : lr z n t with ⟨⟨k, nd, cl⟩, e⟩
    rw [ha] at he
    have hb : (e != 0) = true := by simpa using he
    simp only [↓wR, RA, simprocAttr, TF, ag, xx, hz, hn, ha, hb]
def ao1 (a b : UInt32) : UInt32 := if (a.toNat : Int) ≤ b.toNat then a else b
def sn (z : bf) : bb :=
  let s := (mu z.aj z.origin 6).getD Uk
  mkS s.owner s.type s.cls (ao1 s.n9 (((s.data[0]?).bind fun d => d.nums[4]?).getD 0)) s.data
theorem apc (z : bf) : ∀ (l : List bb) (p : Nat × Nat), p.2 < (l.foldl (jv z) p).2 → ∃ s ∈ l, (s.type.toNat : Int) = 6 ∧ dk s.owner z.origin = true := by
  intro l
  induction l with
  | nil => intro p h; exact absurd h (Nat.lt_irrefl _)
  | cons a l ih =>
    intro p h
    rw [List.foldl_cons] at h
    by_cases h2 : (jv z p a).2 < (l.foldl (jv z) (jv z p a)).2
    · obtain ⟨s, hs, h3⟩ := ih _ h2
      exact ⟨s, by simp [hs], h3⟩
    · have h3 : (jv z p a).2 ≠ p.2 := by omega
      refine ⟨a, by simp, ?_⟩
      unfold jv at h3
      split at h3
      · rename_i e6
        dsimp only at h3
        split at h3
        · rename_i e7
          rw [Bool.and_eq_true] at e7
          exact ⟨e6, e7.1⟩
        · exact (h3 rfl).elim
      · exact (h3 rfl).elim
theorem O6 {s : bb} (h : mz s = true) : (s.cls.toNat : Int) = 1 ∧ (s.type.toNat : Int) ≠ 255 := by
  unfold mz at h
  split at h
  · cases h
  split at h
  · cases h
  split at h
  · cases h
  · rename_i q _ _; exact ⟨by omega, by simpa using h⟩
theorem ak2 {z : bf} (h : ib z = 0) : ∃ s, mu z.aj z.origin 6 = some s := by
  have hg := H5 h
  have h2 : (0 : Nat) < (fy z).2 := by rw [hg.awd.2]; decide
  obtain ⟨s, hs, e6, hso⟩ := apc z z.aj (0, 0) h2
  have hc := (O6 (hg.cls s hs)).1
  have hp : qp z.origin 6 s = true := by unfold qp; rw [decide_eq_true (show (s.type.toNat : Int) = (6 : UInt16).toNat from e6), decide_eq_true hc, hso]; rfl
  cases hf : mu z.aj z.origin 6 with
  | some q => exact ⟨q, rfl⟩
  | none => exact absurd hp (by simpa using List.find?_eq_none.1 hf s hs)
theorem ak7 (z : bf) (hz : cx z) (he : ib z = 0) : wl PP [Dn] 0 (Tryz.f74.body.getD .skip) (du PP Tryz.f74.results.toList (fun r st => (r1 ah).get true st.h r = some (sn z))) (cq 0 [cy.val false z]) (bm []) := by
  obtain ⟨s, hs⟩ := ak2 he
  obtain ⟨m1, m2, m3, m4⟩ := Hj hs
  obtain ⟨d, k, hd, hk⟩ := ate (Be he s m1) (by rw [m2]; rfl)
  unfold Tryz.f74
  simp only [iz]
  unfold sn
  simp only [↓wR, RA, simprocAttr, TF, ag, atk, ql, hz.mid, hz.origin, hs]
  refine ⟨by kernel_rfl, .inl ?_⟩
  have hm : (if (k.toNat : Int) < s.n9.toNat then (k.toNat : Int) else s.n9.toNat) = ((ao1 s.n9 k).toNat : Int) := by
    unfold ao1; split <;> split <;> first | rfl | omega
  simp only [↓wR, RA, simprocAttr, TF, ag, hd, hk, MM0, hm]
  have hq : ∀ a b c d, g7 a b c = d → g7 a b c = d := fun _ _ _ _ h => h
  apply hq
  kernel_rfl
noncomputable def Al (x : bf × Unit) : Option AV := if cx x.1 ∧ ib x.1 = 0 then some ((r1 ah).E true (sn x.1)) else none
set_option maxRecDepth 2000000 in
theorem Ko (x : bf × Unit) (r : AV) (h : Al x = some r) : bk PP 74 ((aC cy a0).E x) r := by
  by_cases hc : cx x.1 ∧ ib x.1 = 0
  case neg => simp only [Al, if_neg hc] at h; cases h
  simp only [Al, if_pos hc] at h
  cases h
  exact be (aw.cons (aq A3) (aw.nil PP)) Tryz.func74 (by kernel_rfl) (by kernel_rfl) (by kernel_rfl) (Nat.le_of_ble_eq_true (by kernel_rfl)) (r1 ah) true (sn x.1) (ak7 x.1 hc.1 hc.2)
noncomputable abbrev T7 : Nat × Bool × (List AV → M AV) := (74, true, dm (aC cy a0) Al)
def nr (n : Name) (s : bb) : Bool := (decide ((s.type.toNat : Int) = 1) || decide ((s.type.toNat : Int) = 28)) && dk s.owner n
def rz (z : bf) : List Name → List Name → List bb
  | _, [] => []
  | pre, n :: r => (if pre.any (fun m => dk m n) = true then [] else z.aj.filter (nr n)) ++ rz z (pre ++ [n]) r
def A6 (z : bf) (l : List Name) : List bb := rz z [] l
def kr (l : List Name) : Prop := gh bj l ≤ 16777216
instance (l : List Name) : Decidable (kr l) := inferInstanceAs (Decidable (_ ≤ _))
theorem kr.mem {l : List Name} (h : kr l) : ∀ n ∈ l, bd n := fun n hn => by
  have h1 : bj n < gh bj l := Ak hn
  unfold kr at h; unfold bd; omega
theorem kr.len {l : List Name} (h : kr l) : l.length ≤ 16777216 := Nat.le_trans (wi bj l) h
theorem Hw {z : bf} (h : ib z = 0) : z.aj.length ≤ 2048 := by
  have hs := Be h
  have hf := (H5 h).first
  unfold ub at hf
  split at hf
  · contradiction
  have key : ∀ (l : List bb) (e : Int), A2 l e = 0 → e = 0 := by
    intro l
    induction l with
    | nil => intro e h; exact h
    | cons a l ih =>
      intro e h
      rw [A2] at h
      have h1 := ih _ h
      split at h1
      · assumption
      · exact h1
  have h1 := key _ _ hf
  have h2 : ka z.aj ≤ 2048 := by
    unfold cw at h1
    split at h1
    · cases h1
    · rename_i q
      by_cases hd : ka z.aj ≤ 2048
      · exact hd
      · exact (q ⟨rfl, decide_eq_false hd⟩).elim
  have h3 : ∀ (l : List bb) (k : Nat), (∀ s ∈ l, oo s = 0) → k + l.length ≤ l.foldl (fun n s => n + s.data.length) k := by
    intro l
    induction l with
    | nil => intro k _; exact Nat.le_refl _
    | cons a l ih =>
      intro k hl
      obtain ⟨d, hd, _⟩ := Fa (hl a (by simp))
      have : 0 < a.data.length := (List.getElem?_eq_some_iff.1 hd).1
      have := ih (k + a.data.length) (fun s hs => hl s (by simp [hs]))
      rw [List.length_cons, List.foldl_cons]
      omega
  have := h3 z.aj 0 hs
  unfold ka at h2
  omega
theorem Jl (z : bf) : ∀ (r pre : List Name), (rz z pre r).length ≤ r.length * z.aj.length := by
  intro r
  induction r with
  | nil => intro pre; simp [rz]
  | cons n r ih =>
    intro pre
    have h1 := ih (pre ++ [n])
    have h2 := tf (l := z.aj) (nr n)
    have h3 : (r.length + 1) * z.aj.length = r.length * z.aj.length + z.aj.length := Nat.succ_mul _ _
    rw [rz, List.length_append, List.length_cons, h3]
    split
    · simp; omega
    · omega
theorem aod {z : bf} {l : List Name} {i : Nat} {n : Name} (hc : l[i]? = some n) : rz z (l.take i) (l.drop i) = (if (l.take i).any (fun m => dk m n) = true then [] else z.aj.filter (nr n)) ++ rz z (l.take (i + 1)) (l.drop (i + 1)) := by
  obtain ⟨hi, rfl⟩ := List.getElem?_eq_some_iff.1 hc
  rw [List.drop_eq_getElem_cons hi, rz, List.take_succ_eq_append_getElem hi]
set_option maxHeartbeats 4000000 in
theorem aa0 (z : bf) (l : List Name) (hz : cx z) (he : ib z = 0) (hl : kr l) : wl PP [dg, wk] 0 (Tryz.f111.body.getD .skip) (du PP Tryz.f111.results.toList (fun r st => (r1 (ct ah)).get true st.h r = some (A6 z l))) (cq 0 [cy.val false z, (ct ar).val false l]) (bm []) := by
  have hzl := Hw he
  have hlen := hl.len
  have ok : aw PP [dg, wk] := aw.cons (aq ee) (aw.cons (aq sj) (aw.nil PP))
  have htot := Jl z l []
  have htot2 : l.length * z.aj.length ≤ 16777216 * 2048 := Nat.mul_le_mul hlen hzl
  unfold Tryz.f111
  simp only [iz]
  simp only [↓wR, RA, simprocAttr, TF, ag]
  refine jo [1, 2, 10, 11, 12, 5] (fun (x : Nat × List bb) => [.vl false 1 (l.map (ar.val false)), .ptr 0 0, .vl false 1 (l.map (ar.val false)), .sc (.int .i64 (l.length)), .sc (.int .i64 (x.1)), .sl 1 0 x.2.length 5]) (fun x => [some (.row [.vl false 1 (z.origin.map (ak.val false)), .vl false 5 (z.aj.map (ah.val false))] 0 2 26), some (.row (cellsOf ah true (x.2)) 0 0 40)]) (fun x => x.1 ≤ l.length ∧ x.2 ++ rz z (l.take x.1) (l.drop x.1) = A6 z l) (fun x => l.length - x.1) (0, []) ⟨Nat.zero_le _, by rw [List.take_zero, List.drop_zero]; rfl⟩ (by simp only [↓wR, RA, simprocAttr, TF, ag]; (refine l7.lax [] (by first | exact Nat.le_of_ble_eq_true rfl | (simp [bw]; omega)) ?_ ?_ <;> repeat' first | exact iq.nil | exact dc.nil | exact iw.same _ | exact iw.nil _ _ _ | exact iw.uy _ _ | exact dc.refl _ _ | apply iq.cons | apply dc.ghost | apply dc.same | apply dc.row)) ?_
  rintro ⟨i, x⟩ ⟨hi, hx⟩
  simp only at hi hx
  simp only [↓wR, RA, simprocAttr, TF, ag]
  rw [b9]; refine ⟨fun h => ?_, fun h => ?_⟩
  · obtain ⟨n, hc, hd1, hlt⟩ := ec (decide_eq_true h)
    rw [aod hc] at hx
    have hns := hl.mem n (List.mem_of_getElem? hc)
    simp only [↓wR, RA, simprocAttr, TF, ag, h, hc]; repeat (simp (disch := omega) only [ai, cd, ca, cf, cb]; try simp only [↓wR, RA, simprocAttr, TF, ag, h, hc])
    obtain ⟨p, hp⟩ : ∃ p, p = l.take i := ⟨_, rfl⟩
    have hpl : p.length ≤ l.length := by rw [hp, List.length_take]; omega
    have hpm : ∀ c ∈ p, c ∈ l := fun c hc => by rw [hp] at hc; exact List.mem_of_mem_take hc
    rw [← hp] at hx ⊢
    refine dr (fun r st' => r = .sc (.bool (p.any (fun m => dk m n))) ∧ st' = bm [some (.row [.vl false 1 (z.origin.map (ak.val false)), .vl false 5 (z.aj.map (ah.val false))] 0 2 26), some (.row (cellsOf ah true (x)) 0 0 40), some (.row [ar.val false n] 0 2 23)]) rfl ?_ ?_
    · refine bn (T := []) (aw.nil PP) mixed Tryz.func102 rfl (by kernel_rfl) (by kernel_rfl) (by kernel_rfl) (by kernel_rfl) ?_; unfold Tryz.f102
      simp only [↓wR, RA, simprocAttr, TF, ag]
      refine bn (T := []) (aw.nil PP) mixed Tryz.func138 rfl (by kernel_rfl) (by kernel_rfl) (by kernel_rfl) (by kernel_rfl) ?_; unfold Tryz.f138
      simp only [↓wR, RA, simprocAttr, TF, ag]
      refine dy [0, 1, 7, 8] (fun (k : Nat) => [.vl false 1 (p.map (ar.val false)), .fn (.func 146) [] [.ptr 2 0], .sc (.int .i64 (p.length)), .sc (.int .i64 (k))]) (fun _ => [some (.row [.vl false 1 (z.origin.map (ak.val false)), .vl false 5 (z.aj.map (ah.val false))] 0 2 26), some (.row (cellsOf ah true (x)) 0 0 40), some (.row [ar.val false n] 0 2 23)]) (fun k => k ≤ p.length ∧ (p.any fun m => dk m n) = ((p.drop k).any fun m => dk m n)) (fun k => p.length - k) 0 ⟨Nat.zero_le _, rfl⟩ (by simp only [↓wR, RA, simprocAttr, TF, ag] <;> rfl) (by simp only [↓wR, RA, simprocAttr, TF, ag] <;> rfl) ?_
      clear hx
      rintro k ⟨hk, hx⟩
      simp only [↓wR, RA, simprocAttr, TF, ag]
      rw [b9]; refine ⟨fun h3 => ?_, fun h3 => ?_⟩
      · obtain ⟨c, hc2, hd2, hlt2⟩ := ec (decide_eq_true h3)
        rw [hd2, List.any_cons] at hx
        have hcs := hl.mem c (hpm c (List.mem_of_getElem? hc2))
        simp only [↓wR, RA, simprocAttr, TF, ag, h3, hc2]; repeat (simp (disch := omega) only [ai, cd, ca, cf, cb]; try simp only [↓wR, RA, simprocAttr, TF, ag, h3, hc2])
        refine bn (T := [dg, wk]) ok mixed Tryz.func146 rfl (by kernel_rfl) (by kernel_rfl) (by kernel_rfl) (by kernel_rfl) ?_; unfold Tryz.f146
        simp only [↓wR, RA, simprocAttr, TF, ag, gi, hcs, hns]
        rw [cp]; refine ⟨fun h4 => ?_, fun h4 => ?_⟩
        · rw [h4, Bool.true_or] at hx
          simp only [↓wR, RA, simprocAttr, TF, ag, h4, ik, g8, gz, hx]
        · rw [h4, Bool.false_or] at hx
          simp only [↓wR, RA, simprocAttr, TF, ag, h4]; repeat (simp (disch := omega) only [ai, cd, ca, cf, cb]; try simp only [↓wR, RA, simprocAttr, TF, ag, h4])
          exact ⟨k + 1, ⟨hlt2, hx⟩, by omega, by (first | rfl | trivial | omega | ((try (simp (disch := omega) only [ai])); (try (simp only [FB])); first | done | rfl | omega))⟩
      · rw [fe (decide_eq_false h3), List.any_nil] at hx
        simp only [↓wR, RA, simprocAttr, TF, ag, h3, ik, g8, gz, hx]
    rintro _ _ ⟨rfl, rfl⟩
    simp only [↓wR, RA, simprocAttr, TF, ag, gk]
    rw [cp]; refine ⟨fun h2 => ?_, fun h2 => ?_⟩
    · rw [if_pos h2, List.nil_append] at hx
      simp only [↓wR, RA, simprocAttr, TF, ag, h2]; repeat (simp (disch := omega) only [ai, cd, ca, cf, cb]; try simp only [↓wR, RA, simprocAttr, TF, ag, h2])
      exact ⟨(i + 1, x), ⟨hlt, hx⟩, by simp; omega, by (first | rfl | trivial | omega | ((try (simp (disch := omega) only [ai])); (try (simp only [FB])); first | done | rfl | omega))⟩
    rw [h2, if_neg (by decide)] at hx
    simp only [↓wR, RA, simprocAttr, TF, ag, h2]
    refine jo [1, 2, 7, 10, 11, 12, 23, 24, 25, 5] (fun (y : Nat × List bb) => [.vl false 1 (l.map (ar.val false)), .ptr 0 0, .ptr 1 0, .vl false 1 (l.map (ar.val false)), .sc (.int .i64 (l.length)), .sc (.int .i64 (i)), .vl false 5 (z.aj.map (ah.val false)), .sc (.int .i64 (z.aj.length)), .sc (.int .i64 (y.1)), .sl 2 0 y.2.length 5]) (fun y => [some (.row [.vl false 1 (z.origin.map (ak.val false)), .vl false 5 (z.aj.map (ah.val false))] 0 2 26), some (.row [ar.val false n] 0 2 23), some (.row (cellsOf ah true (y.2)) 0 0 40)]) (fun y => y.1 ≤ z.aj.length ∧ y.2 ++ (z.aj.drop y.1).filter (nr n) = x ++ z.aj.filter (nr n)) (fun y => z.aj.length - y.1) (0, x) ⟨Nat.zero_le _, rfl⟩ (by simp only [↓wR, RA, simprocAttr, TF, ag]; (refine l7.lax [] (by first | exact Nat.le_of_ble_eq_true rfl | (simp [bw]; omega)) ?_ ?_ <;> repeat' first | exact iq.nil | exact dc.nil | exact iw.same _ | exact iw.nil _ _ _ | exact iw.uy _ _ | exact dc.refl _ _ | apply iq.cons | apply dc.ghost | apply dc.same | apply dc.row)) ?_
    rintro ⟨k, y⟩ ⟨hk, hy⟩
    simp only at hk hy
    have hyl : y.length ≤ 16777216 * 2048 := by
      have h5 := congrArg List.length hy
      have h6 := congrArg List.length hx
      unfold A6 at h6
      simp only [List.length_append] at h5 h6
      omega
    simp only [↓wR, RA, simprocAttr, TF, ag]
    rw [b9]; refine ⟨fun h3 => ?_, fun h3 => ?_⟩
    · obtain ⟨c, hc2, hd2, hlt2⟩ := ec (decide_eq_true h3)
      rw [Ke hd2] at hy
      have hcs := hz.set c (List.mem_of_getElem? hc2)
      have hlim : (y.length * 5 + 5) * 64 ≤ 140737488355328 := by omega
      simp only [↓wR, RA, simprocAttr, TF, ag, h3, hc2]; repeat (simp (disch := omega) only [ai, cd, ca, cf, cb]; try simp only [↓wR, RA, simprocAttr, TF, ag, h3, hc2])
      have hyes : nr n c = true → (dk c.owner n = true) := fun q => by simp only [nr, Bool.and_eq_true] at q; exact q.2
      have step1 : nr n c = true → (y ++ [c]) ++ (z.aj.drop (k + 1)).filter (nr n) = x ++ z.aj.filter (nr n) := fun q => by rw [if_pos q] at hy; rw [← hy, List.append_assoc]
      have step0 : nr n c = false → y ++ (z.aj.drop (k + 1)).filter (nr n) = x ++ z.aj.filter (nr n) := fun q => by rw [q, if_neg (by decide), List.nil_append] at hy; exact hy
      clear hy hyes
      rw [c7]; refine ⟨fun ⟨h4, e4⟩ => ?_, fun ⟨h4, e4⟩ => ?_⟩
      rotate_left
      simp only [↓wR, RA, simprocAttr, TF, ag, h4]
      rw [c7]
      refine ⟨fun ⟨h5, e5⟩ => ?yes, fun ⟨h5, e5⟩ => ?no⟩
      case no =>
        simp only [↓wR, RA, simprocAttr, TF, ag, h5]; repeat (simp (disch := omega) only [ai, cd, ca, cf, cb]; try simp only [↓wR, RA, simprocAttr, TF, ag, h5])
        exact ⟨(k + 1, y), ⟨hlt2, step0 (by unfold nr; rw [decide_eq_false e4, decide_eq_false e5]; rfl)⟩, by simp; omega, by (first | rfl | trivial | omega | ((try (simp (disch := omega) only [ai])); (try (simp only [FB])); first | done | rfl | omega))⟩
      have hty : (decide ((c.type.toNat : Int) = 1) || decide ((c.type.toNat : Int) = 28)) = true := by rw [decide_eq_true e5, Bool.or_true]
      simp only [↓wR, RA, simprocAttr, TF, ag, h5]
      rotate_left
      have hty : (decide ((c.type.toNat : Int) = 1) || decide ((c.type.toNat : Int) = 28)) = true := by rw [decide_eq_true e4]; rfl
      simp only [↓wR, RA, simprocAttr, TF, ag, h4]
      all_goals
        simp only [↓wR, RA, simprocAttr, TF, ag, gi, hcs.owner, hns]
        rw [cp]; refine ⟨fun h6 => ?_, fun h6 => ?_⟩
        · simp only [↓wR, RA, simprocAttr, TF, ag, h6, om, hcs, hlim]; repeat (simp (disch := omega) only [ai, cd, ca, cf, cb]; try simp only [↓wR, RA, simprocAttr, TF, ag, h6, om, hcs, hlim])
          refine ⟨(k + 1, y ++ [c]), ⟨hlt2, step1 (by unfold nr; rw [hty, h6]; rfl)⟩, by simp; omega, by (first | rfl | trivial | omega | ((try (simp (disch := omega) only [ai])); (try (simp only [FB])); first | done | rfl | omega)), ?_⟩
          rw [sf]
        · simp only [↓wR, RA, simprocAttr, TF, ag, h6]; repeat (simp (disch := omega) only [ai, cd, ca, cf, cb]; try simp only [↓wR, RA, simprocAttr, TF, ag, h6])
          exact ⟨(k + 1, y), ⟨hlt2, step0 (by unfold nr; rw [h6, Bool.and_false])⟩, by simp; omega, by (first | rfl | trivial | omega | ((try (simp (disch := omega) only [ai])); (try (simp only [FB])); first | done | rfl | omega))⟩
    · rw [fe (decide_eq_false h3), List.filter_nil, List.append_nil] at hy
      subst hy
      simp only [↓wR, RA, simprocAttr, TF, ag, h3]; repeat (simp (disch := omega) only [ai, cd, ca, cf, cb]; try simp only [↓wR, RA, simprocAttr, TF, ag, h3])
      exact ⟨(i + 1, x ++ z.aj.filter (nr n)), ⟨hlt, by rw [List.append_assoc]; exact hx⟩, by simp; omega, by (first | rfl | trivial | omega | ((try (simp (disch := omega) only [ai])); (try (simp only [FB])); first | done | rfl | omega))⟩
  · rw [fe (decide_eq_false h)] at hx
    rw [rz, List.append_nil] at hx
    subst hx
    simp only [↓wR, RA, simprocAttr, TF, ag, h]
noncomputable def Gz (x : bf × List Name × Unit) : Option AV := if (cx x.1 ∧ ib x.1 = 0) ∧ kr x.2.1 then some ((r1 (ct ah)).E true (A6 x.1 x.2.1)) else none
set_option maxRecDepth 2000000 in
theorem Hh (x : bf × List Name × Unit) (r : AV) (h : Gz x = some r) : bk PP 111 ((aC cy (aC (ct ar) a0)).E x) r := by
  by_cases hc : (cx x.1 ∧ ib x.1 = 0) ∧ kr x.2.1
  case neg => simp only [Gz, if_neg hc] at h; cases h
  simp only [Gz, if_pos hc] at h
  cases h
  exact be (aw.cons (aq ee) (aw.cons (aq sj) (aw.nil PP))) Tryz.func111 (by kernel_rfl) (by kernel_rfl) (by kernel_rfl) (Nat.le_of_ble_eq_true (by kernel_rfl)) (r1 (ct ah)) true (A6 x.1 x.2.1) (aa0 x.1 x.2.1 hc.1.1 hc.1.2 hc.2)
noncomputable abbrev Tn : Nat × Bool × (List AV → M AV) := (111, true, dm (aC cy (aC (ct ar) a0)) Gz)
end Go.Proofs.YtidomogemfchpaaGreat
end
section
set_option linter.unusedVariables false
set_option linter.unusedSimpArgs false
namespace Go.Vm
noncomputable section
def sr (D : List Nat) (nx i : Nat) : Nat := match D[i]? with | some o => o | none => nx + (i - D.length)
def La (D : List Nat) (nx n0 i : Nat) : Option Nat := bif Nat.blt i n0 then some (sr D nx i) else none
def Bd (D : List Nat) (nx n0 : Nat) (h0 : Tr ba) : List Nat → Tr ba → Tr ba
  | [], h => h
  | i :: r, h => Bd D nx n0 h0 r (Tr.set depth h (sr D nx i) ((h0.get i).bind (ba.c9 (La D nx n0))))
def ug (D : List Nat) (st st0 : St) : St := { h := Bd D st.nx st0.nx st0.h (di 0 st0.nx) st.h, nx := st.nx + (st0.nx - D.length), rl := [], wl := [] }
theorem yf {D : List Nat} {nx i o : Nat} (h : D[i]? = some o) : sr D nx i = o := by unfold sr; rw [h]
theorem Bi {D : List Nat} {nx i : Nat} (h : D.length ≤ i) : sr D nx i = nx + (i - D.length) := by unfold sr; rw [List.getElem?_eq_none h]
theorem asc {D : List Nat} {nx : Nat} (hD : D.Nodup) (hlt : ∀ o ∈ D, o < nx) {i j : Nat} (h : sr D nx i = sr D nx j) : i = j := by
  rcases Nat.lt_or_ge i D.length with hi | hi <;> rcases Nat.lt_or_ge j D.length with hj | hj
  · rw [yf (List.getElem?_eq_getElem hi), yf (List.getElem?_eq_getElem hj)] at h
    exact (List.getElem_inj hD).1 h
  · rw [yf (List.getElem?_eq_getElem hi), Bi hj] at h
    have := hlt _ (List.getElem_mem hi); omega
  · rw [Bi hi, yf (List.getElem?_eq_getElem hj)] at h
    have := hlt _ (List.getElem_mem hj); omega
  · rw [Bi hi, Bi hj] at h; omega
theorem atv {D : List Nat} {nx n0 i : Nat} (hlt : ∀ o ∈ D, o < nx) (hi : i < n0) : sr D nx i ≤ nx + n0 := by
  rcases Nat.lt_or_ge i D.length with h | h
  · rw [yf (List.getElem?_eq_getElem h)]; have := hlt _ (List.getElem_mem h); omega
  · rw [Bi h]; omega
theorem Ho {D : List Nat} {nx n0 : Nat} {h0 : Tr ba} {o : Nat} : ∀ (l : List Nat) (h : Tr ba), (∀ i ∈ l, sr D nx i ≤ bw) → (∀ i ∈ l, sr D nx i ≠ o) → (Bd D nx n0 h0 l h).get o = h.get o
  | [], h, _, _ => rfl
  | i :: r, h, hl, ho => by
    rw [Bd, Ho r _ (fun j hj => hl j (by simp [hj])) (fun j hj => ho j (by simp [hj])), en _ _ _ _ (hl i (by simp)), if_neg (fun e => ho i (by simp) e.symm)]
theorem Vh {D : List Nat} {nx n0 : Nat} {h0 : Tr ba} (hinj : ∀ i j, sr D nx i = sr D nx j → i = j) {i : Nat} : ∀ (l : List Nat) (h : Tr ba), (∀ j ∈ l, sr D nx j ≤ bw) → i ∈ l → (Bd D nx n0 h0 l h).get (sr D nx i) = (h0.get i).bind (ba.c9 (La D nx n0))
  | [], _, _, hi => by cases hi
  | j :: r, h, hl, hi => by
    rw [Bd]
    by_cases hr : i ∈ r
    · exact Vh hinj r _ (fun k hk => hl k (by simp [hk])) hr
    · have hij : i = j := by rcases List.mem_cons.1 hi with e | e; exact e; exact (hr e).elim
      subst hij
      rw [Ho r _ (fun k hk => hl k (by simp [hk])) (fun k hk e => hr (hinj k i e ▸ hk)), en _ _ _ _ (hl i (by simp)), if_pos rfl]
theorem ao0 {n i : Nat} (h : i < n) : i ∈ di 0 n := (ia n 0 i).2 ⟨Nat.zero_le _, by omega⟩
theorem Qa {n i : Nat} (h : i ∈ di 0 n) : i < n := by have := ((ia n 0 i).1 h).2; omega
theorem ac8 : ∀ (l : List Nat) (o i : Nat), idx l o i = none → o ∉ l
  | [], o, i, _ => by simp
  | a :: l, o, i, h => by
    rw [Ht] at h
    split at h
    · cases h
    · rename_i ne
      have := ac8 l o (i + 1) h
      simp only [List.mem_cons, not_or]
      exact ⟨fun e => ne e.symm, this⟩
theorem aaw {D : List Nat} {g g0' : Gh} {st st0' : St} {h0 : Tr ba} {w w' : World} {r : AV} {v : Value} (hD : D.Nodup) (hlt : ∀ o ∈ D, o < st.nx) (hp : ∀ o ∈ D, (st.h.get o).isSome = true)
    (hok : Ok g st.h w) (hfr : ∀ o, st.nx ≤ o → g.inj o = none) (hk : D.length ≤ st0'.nx) (hb : st.nx + st0'.nx ≤ bw)
    (s0 : Step (g.c9 D) h0 w D.length st0'.nx g0' st0'.h w') (ok0 : Ok g0' st0'.h w') (hr : Rel g0' w' r v) :
    ∃ g', st.nx ≤ (ug D st st0').nx ∧ Step g st.h w st.nx (ug D st st0').nx g' (ug D st st0').h w' ∧ Ok g' (ug D st st0').h w' ∧ Rel g' w' (r.c9 (La D st.nx st0'.nx)) v := by
  obtain ⟨n0, hn0⟩ : ∃ n0, n0 = st0'.nx := ⟨_, rfl⟩
  have hinj := fun i j => asc (nx := st.nx) hD hlt (i := i) (j := j)
  have hule : ∀ i ∈ di 0 st0'.nx, sr D st.nx i ≤ bw := fun i hi => Nat.le_trans (atv hlt (Qa hi)) hb
  have hin : ∀ i, i < st0'.nx → (ug D st st0').h.get (sr D st.nx i) = (st0'.h.get i).bind (ba.c9 (La D st.nx st0'.nx)) := fun i hi => Vh hinj _ _ hule (ao0 hi)
  have hout : ∀ o, (∀ i, i < st0'.nx → sr D st.nx i ≠ o) → (ug D st st0').h.get o = st.h.get o := fun o ho => Ho _ _ hule (fun i hi => ho i (Qa hi))
  have hren : ∀ i, (g.c9 D).inj i = (D[i]?).bind g.inj := fun _ => rfl
  have hold : ∀ i b base, (g.c9 D).inj i = some (b, base) → ∃ o ∈ D, g.inj o = some (b, base) ∧ (st.h.get o).isSome = true := fun i b base hi => by
    rw [hren] at hi
    cases hd : D[i]? with
    | none => rw [hd] at hi; cases hi
    | some o => rw [hd] at hi; exact ⟨o, List.mem_of_getElem? hd, hi, hp o (List.mem_of_getElem? hd)⟩
  have hno : ∀ i, st0'.nx ≤ i → g0'.inj i = none := fun i hi => s0.fresh i (by rw [hren, List.getElem?_eq_none (by omega)]; rfl) (by omega)
  let g' : Gh := { b0 := g.b0, inj := fun o => if o < st.nx then g.inj o else g0'.inj (D.length + (o - st.nx)), K := g0'.K }
  have gl : ∀ o, o < st.nx → g'.inj o = g.inj o := fun o ho => if_pos ho
  have gg : ∀ o, st.nx ≤ o → g'.inj o = g0'.inj (D.length + (o - st.nx)) := fun o ho => if_neg (by omega)
  have F1 : ∀ i, g'.inj (sr D st.nx i) = g0'.inj i := fun i => by
    rcases Nat.lt_or_ge i D.length with hi | hi
    · have hd := List.getElem?_eq_getElem hi
      rw [yf hd, gl _ (hlt _ (List.getElem_mem hi))]
      have h1 : (g.c9 D).inj i = g.inj D[i] := by rw [hren, hd]; rfl
      cases hg : g.inj D[i] with
      | some p => exact (s0.ext.inj i p (h1.trans hg)).symm
      | none => exact (s0.fresh i (h1.trans hg) (by omega)).symm
    · rw [Bi hi, gg _ (by omega)]
      congr 1; omega
  let N : List Nat := (List.range (st.nx + st0'.nx)).map fun o => if o < st.nx then (idx D o 0).getD st0'.nx else D.length + (o - st.nx)
  have hNg : ∀ p, p < st.nx + st0'.nx → N[p]? = some (if p < st.nx then (idx D p 0).getD st0'.nx else D.length + (p - st.nx)) := fun p hp => by
    simp only [N, List.getElem?_map, List.getElem?_range hp, Option.map_some]
  have hidx : ∀ i o, D[i]? = some o → idx D o 0 = some i := fun i o hi => by
    cases hx : idx D o 0 with
    | some p =>
      have h1 := Ci D o p hx
      obtain ⟨hi', ei⟩ := List.getElem?_eq_some_iff.1 hi
      obtain ⟨hp', ep⟩ := List.getElem?_eq_some_iff.1 h1
      rw [(List.getElem_inj hD).1 (ei.trans ep.symm)]
    | none => exact absurd (List.mem_of_getElem? hi) (ac8 D o 0 hx)
  have hτ : ∀ o p, La D st.nx st0'.nx o = some p → N[p]? = some o := fun i p h => by
    unfold La at h
    cases hlt2 : Nat.blt i st0'.nx with
    | false => rw [hlt2] at h; cases h
    | true =>
      rw [hlt2] at h
      cases h
      have hi : i < st0'.nx := Nat.le_of_ble_eq_true hlt2
      rcases Nat.lt_or_ge i D.length with hi2 | hi2
      · have hd := List.getElem?_eq_getElem hi2
        rw [yf hd, hNg _ (by have := hlt _ (List.getElem_mem hi2); omega), if_pos (hlt _ (List.getElem_mem hi2)), hidx i _ hd]; rfl
      · rw [Bi hi2, hNg _ (by omega), if_neg (by omega)]
        congr 1; omega
  have hext : Ext (g0'.c9 N) w' g' w' := by
    refine ⟨s0.ext.b0.symm, fun p q hq => ?_, fun _ _ h => h, fun _ _ _ => rfl, fun b cs e fr h => ⟨cs, fr, h, rfl⟩, fun b l h => ⟨l, h⟩⟩
    have hq' : (N[p]?).bind g0'.inj = some q := hq
    rcases Nat.lt_or_ge p (st.nx + st0'.nx) with hpl | hpl
    · rw [hNg p hpl, Option.bind_some] at hq'
      by_cases hpn : p < st.nx
      · rw [if_pos hpn] at hq'
        cases hx : idx D p 0 with
        | none => rw [hx, Option.getD_none, hno _ (Nat.le_refl _)] at hq'; cases hq'
        | some i =>
          rw [hx, Option.getD_some] at hq'
          rw [← yf (nx := st.nx) (Ci D p i hx), F1]; exact hq'
      · rw [if_neg hpn] at hq'
        rw [gg p (by omega)]; exact hq'
    · have : N[p]? = none := List.getElem?_eq_none (by simp only [N, List.length_map, List.length_range]; exact hpl)
      rw [this] at hq'; cases hq'
  have himg : ∀ o, (∃ i, i < st0'.nx ∧ sr D st.nx i = o) ∨ (∀ i, i < st0'.nx → sr D st.nx i ≠ o) := fun o => by
    by_cases h : ∃ i, i < st0'.nx ∧ sr D st.nx i = o
    · exact .inl h
    · exact .inr fun i hi e => h ⟨i, hi, e⟩
  have cj : ∀ i x, i < st0'.nx → (ug D st st0').h.get (sr D st.nx i) = some x → ∃ y, st0'.h.get i = some y ∧ y.c9 (La D st.nx st0'.nx) = some x := fun i x hi hx => by
    rw [hin i hi] at hx
    cases hy : st0'.h.get i with
    | none => rw [hy] at hx; cases hx
    | some y => rw [hy] at hx; exact ⟨y, rfl, hx⟩
  have hfar : ∀ o b base, (∀ i, i < st0'.nx → sr D st.nx i ≠ o) → g'.inj o = some (b, base) → o < st.nx ∧ o ∉ D ∧ g.inj o = some (b, base) := fun o b base ho hi => by
    rcases Nat.lt_or_ge o st.nx with h1 | h1
    · refine ⟨h1, fun hd => ?_, by rw [← gl o h1]; exact hi⟩
      obtain ⟨i, hil, e⟩ := List.getElem_of_mem hd
      exact ho i (by omega) (by rw [yf (List.getElem?_eq_getElem hil)]; exact e)
    · rw [gg o h1] at hi
      rcases Nat.lt_or_ge (D.length + (o - st.nx)) st0'.nx with h2 | h2
      · exact (ho _ h2 (by rw [Bi (by omega)]; omega)).elim
      · rw [hno _ h2] at hi; cases hi
  have hsame : ∀ o x b base, o ∉ D → st.h.get o = some x → g.inj o = some (b, base) → b < w.heap.size → w'.heap[b]? = w.heap[b]? ∧ (∀ i base', g0'.inj i = some (b, base') → (st0'.h.get i).isSome = true → False) ∧ (∀ j, g0'.K b j → g.K b j) := fun o x b base ho hx hi hbs => by
    have hnot : ∀ i base', (g.c9 D).inj i ≠ some (b, base') := fun i base' e => by
      obtain ⟨o2, hd, hi2, hs2⟩ := hold i b base' e
      obtain ⟨x2, hx2⟩ := Option.isSome_iff_exists.1 hs2
      exact hok.sep o o2 x x2 b base base' (fun e => ho (e ▸ hd)) hx hx2 hi hi2
    refine ⟨s0.frame b hbs fun i base' _ => hnot i base', fun i base' e hs => ?_, fun j hj => ?_⟩
    · rcases s0.own i b base' hs e with h1 | ⟨o', base2, _, h2⟩
      · omega
      · exact hnot o' base2 h2
    · rcases s0.n8 b j hj with h1 | h1 | ⟨o', base2, _, h2⟩
      · exact h1
      · omega
      · exact (hnot o' base2 h2).elim
  have hblk : ∀ o x b base, st.h.get o = some x → g.inj o = some (b, base) → me g w b base x := fun o x b base hx hi => by
    rcases hok.l6 o x hx with ⟨h1, _⟩ | ⟨b', base', h1, _, h2⟩
    · rw [h1] at hi; cases hi
    · rw [h1] at hi; cases hi; exact h2
  have hsz : ∀ b base x, me g w b base x → b < w.heap.size := fun b base x hx => by
    have hs : ∃ q, w.heap[b]? = some q := by
      cases x with
      | row cells k st et => obtain ⟨cs, fr, h1, _⟩ := hx; exact ⟨_, h1⟩
      | map es => obtain ⟨_, ms, clock, h1, _⟩ := hx; exact ⟨_, h1⟩
      | loop slots nt params assign body state pending => obtain ⟨_, l, h1, _⟩ := hx; exact ⟨_, h1⟩
    obtain ⟨q, hq⟩ := hs
    exact (Array.getElem?_eq_some_iff.1 hq).1
  have hE : Ext g w g' w' := by
    refine ⟨rfl, fun o p hp => ?_, fun b j h => s0.ext.K b j h, fun b j h => s0.ext.cell b j h, s0.ext.zo, s0.ext.lp⟩
    rcases Nat.lt_or_ge o st.nx with h1 | h1
    · rw [gl o h1]; exact hp
    · rw [hfr o h1] at hp; cases hp
  refine ⟨g', Nat.le_add_right _ _, ⟨hE, s0.size, s0.os, s0.tape, s0.output, fun b hbs hn => ?_, fun o ho hr2 => ?_, fun o b base ho hi => ?_, fun b j hK => ?_⟩, ⟨?_, fun o x hx => ?_, fun o o' x x' b base base' hne hx hx' hi hi' => ?_, ok0.K⟩, (hr.c9 hτ).ext hext⟩
  · refine s0.frame b hbs fun i base _ e => ?_
    obtain ⟨o, _, h1, h2⟩ := hold i b base e
    exact hn o base h2 h1
  · rcases Nat.lt_or_ge o st.nx with h1 | h1
    · rw [gl o h1]; exact ho
    · rw [gg o h1]
      exact hno _ (by simp only [ug] at hr2; omega)
  · rcases himg o with ⟨i, hi0, rfl⟩ | ho2
    · obtain ⟨x, hx⟩ := Option.isSome_iff_exists.1 ho
      obtain ⟨y, hy, _⟩ := cj i x hi0 hx
      rw [F1] at hi
      rcases s0.own i b base (by rw [hy]; rfl) hi with h1 | ⟨o', base', _, h2⟩
      · exact .inl h1
      · obtain ⟨o2, _, h3, h4⟩ := hold o' b base' h2
        exact .inr ⟨o2, base', h4, h3⟩
    · obtain ⟨_, _, h3⟩ := hfar o b base ho2 hi
      rw [hout o ho2] at ho
      exact .inr ⟨o, base, ho, h3⟩
  · rcases s0.n8 b j hK with h1 | h1 | ⟨o', base', _, h2⟩
    · exact .inl h1
    · exact .inr (.inl h1)
    · obtain ⟨o2, _, h3, h4⟩ := hold o' b base' h2
      exact .inr (.inr ⟨o2, base', h4, h3⟩)
  · exact Nat.le_trans hok.size s0.size
  · rcases himg o with ⟨i, hi0, rfl⟩ | ho2
    · obtain ⟨y, hy, hyx⟩ := cj i x hi0 hx
      refine (ok0.l6 i y hy).imp (fun q => ⟨by rw [F1]; exact q.1, by obtain ⟨s1, e1, rfl⟩ := q.2; simp only [ba.c9, AV.c9.go, Option.some.injEq] at hyx; exact ⟨s1, e1, hyx.symm⟩⟩) ?_
      rintro ⟨b, base, q1, q2, q3⟩
      refine ⟨b, base, by rw [F1]; exact q1, by show g.b0 ≤ b; have := s0.ext.b0; have e : g0'.b0 = g.b0 := this; omega, (q3.c9 hτ hyx).ext hext rfl (fun j hj => hj)⟩
    · rw [hout o ho2] at hx
      cases hg : g'.inj o with
      | none =>
        refine .inl ⟨rfl, ?_⟩
        rcases Nat.lt_or_ge o st.nx with h1 | h1
        · rw [gl o h1] at hg
          rcases hok.l6 o x hx with ⟨_, h2⟩ | ⟨b, base, h2, _⟩
          · exact h2
          · rw [hg] at h2; cases h2
        · rcases hok.l6 o x hx with ⟨_, h2⟩ | ⟨b, base, h2, _⟩
          · exact h2
          · rw [hfr o h1] at h2; cases h2
      | some p =>
        obtain ⟨b, base⟩ := p
        obtain ⟨h1, h2, h3⟩ := hfar o b base ho2 hg
        have hor := hblk o x b base hx h3
        obtain ⟨e1, _, e3⟩ := hsame o x b base h2 hx h3 (hsz b base x hor)
        refine .inr ⟨b, base, rfl, ?_, hor.ext hE e1 e3⟩
        rcases hok.l6 o x hx with ⟨h4, _⟩ | ⟨b', base', h4, h5, _⟩
        · rw [h4] at h3; cases h3
        · rw [h4] at h3; cases h3; exact h5
  · rcases himg o with ⟨i, hi0, rfl⟩ | ho2 <;> rcases himg o' with ⟨i', hi0', rfl⟩ | ho2'
    · obtain ⟨y, hy, _⟩ := cj i x hi0 hx
      obtain ⟨y', hy', _⟩ := cj i' x' hi0' hx'
      rw [F1] at hi hi'
      exact ok0.sep i i' y y' b base base' (fun e => hne (by rw [e])) hy hy' hi hi'
    · obtain ⟨y, hy, _⟩ := cj i x hi0 hx
      obtain ⟨h1, h2, h3⟩ := hfar o' b base' ho2' hi'
      rw [hout o' ho2'] at hx'
      rw [F1] at hi
      exact (hsame o' x' b base' h2 hx' h3 (hsz b base' x' (hblk o' x' b base' hx' h3))).2.1 i base hi (by rw [hy]; rfl)
    · obtain ⟨y, hy, _⟩ := cj i' x' hi0' hx'
      obtain ⟨h1, h2, h3⟩ := hfar o b base ho2 hi
      rw [hout o ho2] at hx
      rw [F1] at hi'
      exact (hsame o x b base h2 hx h3 (hsz b base x (hblk o x b base hx h3))).2.1 i' base' hi' (by rw [hy]; rfl)
    · obtain ⟨h1, h2, h3⟩ := hfar o b base ho2 hi
      obtain ⟨h1', h2', h3'⟩ := hfar o' b base' ho2' hi'
      rw [hout o ho2] at hx
      rw [hout o' ho2'] at hx'
      exact hok.sep o o' x x' b base base' hne hx hx' h3 h3'
theorem Zh {P : Program} {f : Nat} {args : List AV} {st : St} {R : AV → St → Prop} (D : List Nat) (hD : D.Nodup) (hlt : ∀ o ∈ D, o < st.nx) (hp : ∀ o ∈ D, (st.h.get o).isSome = true) (hl : D.length ≤ bw)
    (h : qq P f (AV.c9.go (fun o => idx D o 0) args) (bm (g6 st.h (fun o => idx D o 0) D)) (fun r st' => (D.length ≤ st'.nx ∧ st.nx + st'.nx ≤ bw) ∧ R (r.c9 (La D st.nx st'.nx)) (ug D st st'))) : qq P f args st R := by
  intro g w vs hok hfr hrel
  have hτ : ∀ o p, (fun o => idx D o 0) o = some p → D[p]? = some o := fun o p h => Ci _ o p h
  have hnx : (bm (g6 st.h (fun o => idx D o 0) D)).nx = D.length := by simp only [bm, gu]
  have hinj : ∀ i o, D[i]? = some o → (g.c9 D).inj i = g.inj o := fun i o h => by simp [Gh.c9, h]
  have cj : ∀ i x, (bm (g6 st.h (fun o => idx D o 0) D)).h.get i = some x → ∃ o y, D[i]? = some o ∧ st.h.get o = some y ∧ y.c9 (fun o => idx D o 0) = some x := by
    intro i x hx
    simp only [bm] at hx
    rw [sv _ _ _ (by rw [gu]; omega), if_pos (Nat.zero_le _), Nat.sub_zero, tm] at hx
    cases hi : D[i]? with
    | none => rw [hi] at hx; cases hx
    | some o =>
      rw [hi] at hx
      simp only [Option.map_some, Option.join_some] at hx
      cases hy : st.h.get o with
      | none => rw [hy] at hx; cases hx
      | some y => rw [hy] at hx; exact ⟨o, y, rfl, hy, hx⟩
  have hok0 : Ok (g.c9 D) (bm (g6 st.h (fun o => idx D o 0) D)).h w := by
    refine ⟨hok.size, fun i x hx => ?_, fun i j x y b base base' hij hx hy hb hb' => ?_, hok.K⟩
    · obtain ⟨o, y, h1, h2, h3⟩ := cj i x hx
      refine (hok.l6 o y h2).imp (fun q => ⟨by rw [hinj i o h1]; exact q.1, by obtain ⟨s0, e0, rfl⟩ := q.2; simp only [ba.c9, AV.c9.go, Option.some.injEq] at h3; exact ⟨s0, e0, h3.symm⟩⟩) ?_
      rintro ⟨b, base, q1, q2, q3⟩
      exact ⟨b, base, by rw [hinj i o h1]; exact q1, q2, q3.c9 hτ h3⟩
    · obtain ⟨o, y1, h1, h2, _⟩ := cj i x hx
      obtain ⟨o', y2, h1', h2', _⟩ := cj j y hy
      rw [hinj i o h1] at hb
      rw [hinj j o' h1'] at hb'
      have hne : o ≠ o' := by
        intro e
        subst e
        obtain ⟨hi, ei⟩ := List.getElem?_eq_some_iff.1 h1
        obtain ⟨hj, ej⟩ := List.getElem?_eq_some_iff.1 h1'
        exact hij ((List.getElem_inj hD).1 (ei.trans ej.symm))
      exact hok.sep o o' _ _ b base base' hne h2 h2' hb hb'
  have hfr0 : ∀ o, (bm (g6 st.h (fun o => idx D o 0) D)).nx ≤ o → (g.c9 D).inj o = none := fun o ho => by
    rw [hnx] at ho; simp [Gh.c9, List.getElem?_eq_none ho]
  have hrel0 : bh (g.c9 D) w (AV.c9.go (fun o => idx D o 0) args) vs := by
    rw [jn]
    refine ⟨by rw [List.length_map]; exact hrel.1, fun i a v ha hv => ?_⟩
    rw [List.getElem?_map] at ha
    cases hx : args[i]? with
    | none => rw [hx] at ha; cases ha
    | some a0 => rw [hx] at ha; cases ha; exact (hrel.2 i a0 v hx hv).c9 hτ
  rcases h (g.c9 D) w vs hok0 hfr0 hrel0 with ⟨v, w', g', r, st', q1, q2, q3, q4, q5, q6⟩ | ⟨q1, q2⟩
  · rw [hnx] at q4
    obtain ⟨g'', p1, p2, p3, p4⟩ := aaw hD hlt hp hok hfr q2.1.1 q2.1.2 q4 q5 q6
    exact .inl ⟨v, w', g'', _, _, q1, q2.2, p1, p2, p3, p4⟩
  · refine .inr ⟨q1, q2.mono ?_⟩
    rintro e w' ⟨v, g', r, st', rfl, q2, q3, q4, q5, q6⟩
    rw [hnx] at q4
    obtain ⟨g'', p1, p2, p3, p4⟩ := aaw hD hlt hp hok hfr q2.1.1 q2.1.2 q4 q5 q6
    exact ⟨v, g'', _, _, rfl, q2.2, p1, p2, p3, p4⟩
theorem Qk {P : Program} {f : Nat} {args : List AV} {st : St} {R : AV → St → Prop} (D : List Nat) {args0 : List AV} {objs0 : List (Option ba)} {r0 : AV} {objs1 : List (Option ba)}
    (hc : qq P f args0 (bm objs0) (fun r st' => r = r0 ∧ st' = bm objs1)) (hD : D.Nodup)
    (hlt : (D.all fun o => Nat.blt o st.nx) = true) (hp : (D.all fun o => (st.h.get o).isSome) = true) (hl : D.length ≤ bw)
    (ha : AV.c9.go (fun o => idx D o 0) args = args0) (hs : g6 st.h (fun o => idx D o 0) D = objs0) (hb : D.length ≤ objs1.length ∧ st.nx + objs1.length ≤ bw)
    (h : R (r0.c9 (La D st.nx objs1.length)) (ug D st (bm objs1))) : qq P f args st R := by
  refine Zh D hD (fun o ho => Nat.le_of_ble_eq_true (List.all_eq_true.1 hlt o ho)) (fun o ho => List.all_eq_true.1 hp o ho) hl ?_
  rw [ha, hs]
  intro g w vs hok hfr hrel
  rcases hc g w vs hok hfr hrel with ⟨v, w', g', r, st', q1, ⟨rfl, rfl⟩, q3⟩ | ⟨q1, q2⟩
  · exact .inl ⟨v, w', g', _, _, q1, ⟨hb, h⟩, q3⟩
  · refine .inr ⟨q1, q2.mono ?_⟩
    rintro e w' ⟨v, g', r, st', e1, ⟨rfl, rfl⟩, q3⟩
    exact ⟨v, g', _, _, e1, ⟨hb, h⟩, q3⟩
end
end Go.Vm
end
section
set_option linter.unusedSimpArgs false
set_option linter.unusedVariables false
namespace Go.Proofs.YtidomogemfchpaaGreat
open Go.Vm
set_option maxRecDepth 2000000
def A4 (s : bb) : Bool := decide ((s.type.toNat : Int) = 2) || (decide ((s.type.toNat : Int) = 15) || decide ((s.type.toNat : Int) = 33))
def jy (l : List c0) : List Name := l.flatMap fun d => d.names
def oj (s : bb) : List Name := if A4 s = true then jy s.data else []
def ea (l : List bb) : List Name := l.flatMap oj
def r8 (ans : List bb) (s : bb) : Bool := ans.any fun x => decide ((x.type.toNat : Int) = s.type.toNat) && dk x.owner s.owner
def qf (z : bf) (ans l : List bb) : List bb := (A6 z (ea l)).filter fun s => !r8 ans s
def xi (l : List Name) (n : Name) : Bool := l.any fun m => dk m n
theorem aea (b : Du) (n : Name) (hl : kr b.seen) (hn : bd n) : wl PP [dg] 0 (Tryz.f75.body.getD .skip) (du PP Tryz.f75.results.toList (fun r st => (r1 bo).get true st.h r = some (xi b.seen n))) (cq 0 [.gn (ta.cells false b), ar.val false n]) (bm []) := by
  have hlen := hl.len
  unfold Tryz.f75
  simp only [db]
  simp only [↓wR, RA, simprocAttr, TF, ag, Qu]
  refine bn (T := []) (aw.nil PP) mixed Tryz.func102 rfl (by kernel_rfl) (by kernel_rfl) (by kernel_rfl) (by kernel_rfl) ?_; unfold Tryz.f102
  simp only [↓wR, RA, simprocAttr, TF, ag]
  refine bn (T := []) (aw.nil PP) mixed Tryz.func138 rfl (by kernel_rfl) (by kernel_rfl) (by kernel_rfl) (by kernel_rfl) ?_; unfold Tryz.f138
  simp only [↓wR, RA, simprocAttr, TF, ag]
  refine dy [0, 1, 7, 8] (fun (k : Nat) => [.vl false 1 (b.seen.map (ar.val false)), .fn (.func 114) [] [.ptr 0 0], .sc (.int .i64 (b.seen.length)), .sc (.int .i64 (k))]) (fun _ => [some (.row [.vl false 1 (n.map (ak.val false))] 0 2 23)]) (fun k => k ≤ b.seen.length ∧ xi b.seen n = xi (b.seen.drop k) n) (fun k => b.seen.length - k) 0 ⟨Nat.zero_le _, rfl⟩ (by simp only [↓wR, RA, simprocAttr, TF, ag] <;> rfl) (by simp only [↓wR, RA, simprocAttr, TF, ag] <;> rfl) ?_
  rintro k ⟨hk, hx⟩
  simp only [↓wR, RA, simprocAttr, TF, ag]
  rw [b9]; refine ⟨fun h3 => ?_, fun h3 => ?_⟩
  · obtain ⟨c, hc2, hd2, hlt2⟩ := ec (decide_eq_true h3)
    rw [hd2, xi, xi, List.any_cons] at hx
    have hcs := hl.mem c (List.mem_of_getElem? hc2)
    simp only [↓wR, RA, simprocAttr, TF, ag, h3, hc2]; repeat (simp (disch := omega) only [ai, cd, ca, cf, cb]; try simp only [↓wR, RA, simprocAttr, TF, ag, h3, hc2])
    refine bn (T := [dg]) (aw.cons (aq ee) (aw.nil PP)) mixed Tryz.func114 rfl (by kernel_rfl) (by kernel_rfl) (by kernel_rfl) (by kernel_rfl) ?_; unfold Tryz.f114
    simp only [↓wR, RA, simprocAttr, TF, ag, gi, hcs, hn]
    rw [cp]; refine ⟨fun h4 => ?_, fun h4 => ?_⟩
    · rw [h4, Bool.true_or] at hx
      simp only [↓wR, RA, simprocAttr, TF, ag, h4]
      rw [xi, hx]
    · rw [h4, Bool.false_or] at hx
      simp only [↓wR, RA, simprocAttr, TF, ag, h4]; repeat (simp (disch := omega) only [ai, cd, ca, cf, cb]; try simp only [↓wR, RA, simprocAttr, TF, ag, h4])
      exact ⟨k + 1, ⟨hlt2, hx⟩, by omega, by (first | rfl | trivial | omega | ((try (simp (disch := omega) only [ai])); (try (simp only [FB])); first | done | rfl | omega))⟩
  · rw [fe (decide_eq_false h3)] at hx
    simp only [↓wR, RA, simprocAttr, TF, ag, h3]
    rw [hx] <;> rfl
noncomputable def ow (x : Du × Name × Unit) : Option AV := if kr x.1.seen ∧ bd x.2.1 then some ((r1 bo).E true (xi x.1.seen x.2.1)) else none
set_option maxRecDepth 2000000 in
theorem Ft (x : Du × Name × Unit) (r : AV) (h : ow x = some r) : bk PP 75 ((aP ta (aC ar a0)).E x) r := by
  by_cases hc : kr x.1.seen ∧ bd x.2.1
  case neg => simp only [ow, if_neg hc] at h; cases h
  simp only [ow, if_pos hc] at h
  cases h
  exact be (aw.cons (aq ee) (aw.nil PP)) Tryz.func75 (by kernel_rfl) (by kernel_rfl) (by kernel_rfl) (Nat.le_of_ble_eq_true (by kernel_rfl)) (r1 bo) true (xi x.1.seen x.2.1) (aea x.1 x.2.1 hc.1 hc.2)
noncomputable abbrev Lj : Nat × Bool × (List AV → M AV) := (75, true, dm (aP ta (aC ar a0)) ow)
noncomputable def fw (z : bf) (t : UInt16) : Nat → Name → List Name → List bb → vm
  | 0, _, _, ans => pk 0 true ans [] []
  | k + 1, n, seen, ans =>
    let x := mr z n t (i5 z n).1
    if x.turn = 0 then pk 0 true (ans ++ x.aj) [] (qf z (ans ++ x.aj) x.aj)
    else if x.turn = 3 then pk 3 true ans [sn z] []
    else if x.turn = 2 then pk 0 true ans [sn z] []
    else if x.turn = 4 then pk 0 (decide (0 < ans.length)) ans x.aj (qf z ans x.aj)
    else if dj x.to z.origin = false then pk 0 true (ans ++ x.aj) [] []
    else if xi (seen ++ [n]) x.to = true then pk 0 true (ans ++ x.aj) [] []
    else fw z t k x.to (seen ++ [n]) (ans ++ x.aj)
noncomputable def Ew (z : bf) (n : Name) (t : UInt16) : vm × Int :=
  if (lr z n t).2 ≠ 0 then (pk 0 false [] [] [], (lr z n t).2) else (fw z t 16 n [] [], 0)
end Go.Proofs.YtidomogemfchpaaGreat
end
section
namespace Go.Proofs.YtidomogemfchpaaGreat
open Go.Vm
theorem Tv {a b c : Name} (h1 : dk a b = true) (h2 : dk b c = true) : dk a c = true := kl.2 ((kl.1 h1).trans (kl.1 h2))
theorem at_mem {z : bf} {n : Name} {s : bb} (h : s ∈ ju z n) : s ∈ z.aj ∧ dk s.owner n = true := List.mem_filter.1 h
theorem Y5 {l : List Name} (h : tk l = 0) : ∀ n ∈ l, dn n = 0 := by
  induction l with
  | nil => intro n hn; cases hn
  | cons a l ih =>
    intro n hn
    rw [tk] at h
    split at h
    · contradiction
    · rename_i q
      rcases List.mem_cons.1 hn with rfl | hn
      · omega
      · exact ih h n hn
theorem X3 {t : UInt16} {d : c0} (h : eu t d = 0) : ∀ n ∈ d.names, dn n = 0 := by
  unfold eu at h
  split at h
  · cases h
  split at h
  · cases h
  split at h
  · contradiction
  · rename_i q; exact Y5 (by omega)
theorem anl {z : bf} (h : ib z = 0) {y : bb} (hy : y ∈ z.aj) (ht : (y.type.toNat : Int) = 5) : ∃ d m, y.data = [d] ∧ d.names = [m] ∧ dn m = 0 := by
  have hg := H5 h
  obtain ⟨k, hk, rfl⟩ := List.getElem_of_mem hy
  have ha := hg.alone k _ (List.getElem?_eq_getElem hk)
  unfold i6 at ha
  rw [if_neg (by omega)] at ha
  split at ha
  · cases ha
  rename_i hl
  have he := Be h _ hy
  have hall := Rc he
  cases hd : (z.aj[k]).data with
  | nil => rw [hd] at hl; simp at hl
  | cons d r =>
    have hr : r = [] := by
      rw [hd] at hl
      simp only [List.length_cons] at hl
      exact List.eq_nil_of_length_eq_zero (by omega)
    subst hr
    have hde : eu (z.aj[k]).type d = 0 := hall d (by rw [hd]; simp)
    have hn := (Hz hde).1
    have h2 : (je (z.aj[k]).type).names = 1 := by unfold je; rw [ht]; rfl
    rw [h2] at hn
    cases hm : d.names with
    | nil => rw [hm] at hn; simp at hn
    | cons m r2 =>
      have : r2 = [] := by rw [hm] at hn; simp only [List.length_cons] at hn; exact List.eq_nil_of_length_eq_zero (by omega)
      subst this
      exact ⟨d, m, rfl, hm, X3 hde m (by rw [hm]; simp)⟩
theorem Lx {α : Type} (f : α → Nat) (a b : List α) : gh f (a ++ b) = gh f a + gh f b := by
  induction a with
  | nil => simp [gh]
  | cons x a ih => simp only [gh, List.cons_append, List.foldr_cons] at ih ⊢; omega
theorem Qe {α : Type} (f : α → Nat) (p : α → Bool) (l : List α) : gh f (l.filter p) ≤ gh f l := by
  induction l with
  | nil => exact Nat.le_refl _
  | cons x l ih =>
    rw [List.filter_cons]
    split
    · simp only [gh, List.foldr_cons] at ih ⊢; omega
    · simp only [gh, List.foldr_cons] at ih ⊢; omega
theorem ab2 (l : List c0) : gh bj (jy l) ≤ gh x5 l := by
  induction l with
  | nil => exact Nat.le_refl _
  | cons d l ih =>
    have h : jy (d :: l) = d.names ++ jy l := by simp [jy]
    rw [h, Lx]
    have h2 : gh bj d.names ≤ x5 d := by unfold x5; omega
    simp only [gh, List.foldr_cons] at ih h2 ⊢; omega
theorem ae1 (s : bb) : gh bj (oj s) ≤ nk s := by
  unfold oj
  split
  · have := ab2 s.data; unfold nk; omega
  · exact Nat.zero_le _
theorem B8 (l : List bb) : gh bj (ea l) ≤ gh nk l := by
  induction l with
  | nil => exact Nat.le_refl _
  | cons s l ih =>
    have h : ea (s :: l) = oj s ++ ea l := by simp [ea]
    rw [h, Lx]
    have h2 := ae1 s
    simp only [gh, List.foldr_cons] at ih h2 ⊢; omega
theorem ad0 (n : Name) (l : List bb) : ea (l.map (xd n)) = ea l := by
  induction l with
  | nil => rfl
  | cons s l ih =>
    have h : ∀ (s : bb) l, ea (s :: l) = oj s ++ ea l := fun s l => by simp [ea]
    rw [List.map_cons, h, h, ih]; rfl
theorem M5 {l : List bb} {x : bb} (h : x ∈ l) : gh bj (ea [x]) ≤ gh bj (ea l) := by
  induction l with
  | nil => cases h
  | cons s l ih =>
    have hc : ∀ (s : bb) l, ea (s :: l) = oj s ++ ea l := fun s l => by simp [ea]
    rw [hc s l, Lx]
    rcases List.mem_cons.1 h with rfl | h
    · rw [hc, Lx]; show _ + gh bj (ea []) ≤ _; have : gh bj (ea []) = 0 := rfl; omega
    · have := ih h; omega
inductive ama (z : bf) (n : Name) (t : UInt16) : Prop
  | Yp (c : Name) (s : bb) (hc : lg z n = some c) (hs : s ∈ z.aj) (ht : (s.type.toNat : Int) = 2) (ho : dk s.owner c = true) (h : mr z n t (i5 z n).1 = pd 4 [s] [])
  | auc (hc : lg z n = none) (h : mr z n t (i5 z n).1 = pd 3 [] [])
  | ala (hc : lg z n = none) (h : mr z n t (i5 z n).1 = pd 2 [] [])
  | found (hc : lg z n = none) (l : List bb) (hne : l ≠ []) (hln : l.length ≤ z.aj.length) (hw : gh bj (ea l) ≤ gh nk z.aj) (hl : ∀ s ∈ l, dk s.owner n = true ∧ (s.owner = n ∨ s ∈ z.aj) ∧ ((t.toNat : Int) = 255 ∨ (s.type.toNat : Int) = t.toNat) ∧ ∃ y ∈ z.aj, s.data = y.data ∧ s.type = y.type) (h : mr z n t (i5 z n).1 = pd 0 l [])
  | alias (hc : lg z n = none) (s : bb) (d : c0) (m : Name) (ht : (s.type.toNat : Int) = 5) (h5 : (t.toNat : Int) ≠ 5) (h255 : (t.toNat : Int) ≠ 255) (ho : dk s.owner n = true) (hoz : s.owner = n ∨ s ∈ z.aj) (hd : s.data = [d]) (hm : d.names = [m]) (he : dn m = 0) (hy : ∃ y ∈ z.aj, s.data = y.data ∧ s.type = y.type) (h : mr z n t (i5 z n).1 = pd 1 [s] m)
theorem asl {z : bf} {n c : Name} : ∀ (l : List bb) (b : Option Name), (∀ s ∈ l, s ∈ z.aj) → (∀ m, b = some m → ∃ s ∈ z.aj, (s.type.toNat : Int) = 2 ∧ s.owner = m) → l.foldl (jm z n) b = some c → ∃ s ∈ z.aj, (s.type.toNat : Int) = 2 ∧ s.owner = c := by
  intro l
  induction l with
  | nil => intro b _ h hc; exact h c hc
  | cons s l ih =>
    intro b hl h hc
    refine ih _ (fun x hx => hl x (by simp [hx])) (fun m hm => ?_) hc
    unfold jm at hm
    split at hm
    · rename_i hq
      cases hm
      simp only [Bool.and_eq_true, decide_eq_true_eq] at hq
      exact ⟨s, hl s (by simp), hq.1, rfl⟩
    · exact h m hm
theorem aho {z : bf} {n : Name} {t : UInt16} (h : ib z = 0) (hc : lg z n = none) (L : List bb) (hln : L.length ≤ z.aj.length) (hw : gh bj (ea L) ≤ gh nk z.aj) (hL : ∀ s ∈ L, dk s.owner n = true ∧ (s.owner = n ∨ s ∈ z.aj) ∧ ∃ y ∈ z.aj, s.data = y.data ∧ s.type = y.type) (hs : mr z n t (i5 z n).1 = Yi t L) : ama z n t := by
  unfold Yi at hs
  split at hs
  · rename_i q
    exact .found hc L (fun e => by rw [e] at q; simp at q) hln hw (fun s hs => ⟨(hL s hs).1, (hL s hs).2.1, .inl q.1, (hL s hs).2.2⟩) hs
  rename_i q
  split at hs
  · rename_i x hx
    have h1 := List.mem_of_find?_eq_some hx
    have h2 := List.find?_some hx
    exact .found hc [x] (by simp) (by have := List.length_pos_of_mem h1; rw [List.length_singleton]; omega) (Nat.le_trans (M5 h1) hw) (fun s hs => by rw [List.mem_singleton] at hs; subst hs; exact ⟨(hL s h1).1, (hL s h1).2.1, .inr (by simpa using h2), (hL s h1).2.2⟩) hs
  · rename_i hx
    split at hs
    · rename_i x hx2
      have h1 := List.mem_of_find?_eq_some hx2
      have h2 := List.find?_some hx2
      simp only [Bool.and_eq_true, decide_eq_true_eq] at h2
      obtain ⟨y, hy, hyd, hyt⟩ := (hL x h1).2.2
      obtain ⟨d, m, e1, e2, e3⟩ := anl h hy (by rw [← hyt]; exact h2.1)
      rw [← hyd] at e1
      have h5 : (t.toNat : Int) ≠ 5 := fun e => by
        have := List.find?_eq_none.1 hx x h1
        simp [h2.1, e] at this
      refine .alias hc x d m h2.1 h5 h2.2 (hL x h1).1 (hL x h1).2.1 e1 e2 e3 ⟨y, hy, hyd, hyt⟩ ?_
      rw [hs, e1]
      simp [e2]
    · exact .ala hc hs
theorem agp {z : bf} {n : Name} (t : UInt16) (h : fv z n = 0) : ama z n t := by
  obtain ⟨a1, a2, a3⟩ := px h
  have hg := H5 a1
  rcases agl h with ⟨c, hc, e⟩ | ⟨hc, hp, hh, e⟩ | ⟨hc, hp, hh, e⟩ | ⟨hc, hp, hh, hs, e⟩ | ⟨hc, hp, hh, hs, e⟩
  · obtain ⟨s, hs, ht, ho⟩ := asl z.aj none (fun _ h => h) (fun m hm => by cases hm) hc
    have hcl := (O6 (hg.cls s hs)).1
    cases hf : mu z.aj c 2 with
    | none =>
      have := List.find?_eq_none.1 hf s hs
      have hp : qp c 2 s = true := by unfold qp; rw [decide_eq_true (show (s.type.toNat : Int) = (2 : UInt16).toNat from ht), decide_eq_true hcl, ho, Ln]; rfl
      exact (this hp).elim
    | some x =>
      obtain ⟨m1, m2, m3, m4⟩ := Hj hf
      exact .Yp c x hc m1 m2 m4 (by rw [e]; show pd 4 [(mu z.aj c 2).getD Uk] [] = _; rw [hf]; rfl)
  · refine aho a1 hc (ju z n) (tf _) (Nat.le_trans (B8 _) (Qe _ _ _)) (fun s hs => ⟨(at_mem hs).2, .inr (at_mem hs).1, s, (at_mem hs).1, rfl, rfl⟩) ?_
    rw [e]; rfl
  · exact .ala hc (by rw [e]; rfl)
  · refine aho a1 hc ((ju z (s5 :: dp z n)).map (xd n)) (by rw [List.length_map]; exact tf _) (by rw [ad0]; exact Nat.le_trans (B8 _) (Qe _ _ _)) (fun s hs => ?_) ?_
    · obtain ⟨y, hy, rfl⟩ := List.mem_map.1 hs
      exact ⟨Ln n, .inl rfl, y, (at_mem hy).1, rfl, rfl⟩
    · rw [e]; rfl
  · exact .auc hc (by rw [e]; rfl)
theorem Wa {z : bf} {t : UInt16} {n m : Name} {s : bb} {k : Nat} {seen : List Name} {ans : List bb} (e : mr z n t (i5 z n).1 = pd 1 [s] m) (hu : dj m z.origin = false) : fw z t (k + 1) n seen ans = pk 0 true (ans ++ [s]) [] [] := by
  have t0 : ∀ q : Int, q ≠ 1 → ¬ (pd 1 [s] m).turn = q := fun q hk e => hk e.symm
  simp only [fw, e]
  rw [if_neg (t0 0 (by decide)), if_neg (t0 3 (by decide)), if_neg (t0 2 (by decide)), if_neg (t0 4 (by decide))]
  rw [if_pos (show dj (pd 1 [s] m).to z.origin = false from hu)]; rfl
theorem Xd {z : bf} {t : UInt16} {n m : Name} {s : bb} {k : Nat} {seen : List Name} {ans : List bb} (e : mr z n t (i5 z n).1 = pd 1 [s] m) (hu : dj m z.origin = true) (hmet : xi (seen ++ [n]) m = true) : fw z t (k + 1) n seen ans = pk 0 true (ans ++ [s]) [] [] := by
  have t0 : ∀ q : Int, q ≠ 1 → ¬ (pd 1 [s] m).turn = q := fun q hk e => hk e.symm
  simp only [fw, e]
  rw [if_neg (t0 0 (by decide)), if_neg (t0 3 (by decide)), if_neg (t0 2 (by decide)), if_neg (t0 4 (by decide))]
  rw [if_neg (show ¬ dj (pd 1 [s] m).to z.origin = false from by rw [show (pd 1 [s] m).to = m from rfl, hu]; decide), if_pos (show xi (seen ++ [n]) (pd 1 [s] m).to = true from hmet)]; rfl
theorem ado {z : bf} {t : UInt16} {n m : Name} {s : bb} {k : Nat} {seen : List Name} {ans : List bb} (e : mr z n t (i5 z n).1 = pd 1 [s] m) (hu : dj m z.origin = true) (hmet : xi (seen ++ [n]) m = false) : fw z t (k + 1) n seen ans = fw z t k m (seen ++ [n]) (ans ++ [s]) := by
  have t0 : ∀ q : Int, q ≠ 1 → ¬ (pd 1 [s] m).turn = q := fun q hk e => hk e.symm
  simp only [fw, e]
  rw [if_neg (t0 0 (by decide)), if_neg (t0 3 (by decide)), if_neg (t0 2 (by decide)), if_neg (t0 4 (by decide))]
  rw [if_neg (show ¬ dj (pd 1 [s] m).to z.origin = false from by rw [show (pd 1 [s] m).to = m from rfl, hu]; decide), if_neg (show ¬ xi (seen ++ [n]) (pd 1 [s] m).to = true from by rw [show (pd 1 [s] m).to = m from rfl, hmet]; decide)]; rfl
end Go.Proofs.YtidomogemfchpaaGreat
end
section
set_option linter.unusedSimpArgs false
set_option linter.unusedVariables false
namespace Go.Proofs.YtidomogemfchpaaGreat
open Go.Vm
set_option maxRecDepth 2000000
theorem C0 {l : List bb} {i : Nat} {c : bb} (hc : l[i]? = some c) : ea (l.take (i + 1)) = ea (l.take i) ++ oj c := by
  obtain ⟨hi, rfl⟩ := List.getElem?_eq_some_iff.1 hc
  rw [List.take_succ_eq_append_getElem hi, ea, List.flatMap_append]; simp [ea]
theorem Gs {l : List c0} {i : Nat} {c : c0} (hc : l[i]? = some c) : jy (l.take (i + 1)) = jy (l.take i) ++ c.names := by
  obtain ⟨hi, rfl⟩ := List.getElem?_eq_some_iff.1 hc
  rw [List.take_succ_eq_append_getElem hi, jy, List.flatMap_append]; simp [jy]
theorem E5 {α β : Type} (f : α → List β) (l : List α) (i : Nat) : ((l.take i).flatMap f).length ≤ (l.flatMap f).length := by
  have := congrArg (List.flatMap f) (List.take_append_drop i l)
  rw [List.flatMap_append] at this
  have := congrArg List.length this
  rw [List.length_append] at this
  omega
theorem aoo {l : List bb} {i k : Nat} {c : bb} (hc : l[i]? = some c) (hy : A4 c = true) : (ea (l.take i)).length + (jy (c.data.take k)).length ≤ (ea l).length := by
  have h1 : (ea (l.take (i + 1))).length ≤ (ea l).length := E5 oj l (i + 1)
  rw [C0 hc, List.length_append, oj, if_pos hy] at h1
  have h2 : (jy (c.data.take k)).length ≤ (jy c.data).length := E5 _ c.data k
  omega
theorem ahu {z : bf} (hz : cx z) {l : List Name} : ∀ s ∈ A6 z l, c8 s := by
  have key : ∀ (r pre : List Name), ∀ s ∈ rz z pre r, c8 s := by
    intro r
    induction r with
    | nil => intro pre s hs; cases hs
    | cons n r ih =>
      intro pre s hs
      rw [rz] at hs
      rcases List.mem_append.1 hs with h | h
      · split at h
        · cases h
        · exact hz.set s (List.mem_filter.1 h).1
      · exact ih _ s h
  exact key l []
set_option maxHeartbeats 4000000 in
theorem adn (z : bf) (hz : cx z) (he : ib z = 0) (rc : Int) (aa : Bool) (au : AV) (hau1 : au.names = []) (hau2 : ∀ τ, au.c9 τ = au) (hau3 : au.one = true) (ans : List bb) (seen : List Name) (l : List bb)
    (hans : ans.length ≤ 16777216) (hao : ∀ s ∈ ans, bd s.owner) (hll : l.length ≤ 16777216) (hld : ∀ s ∈ l, s.data.length ≤ 16777216) (hns : kr (ea l)) :
    qq PP 73 [.ptr 0 0, .vl true 5 (l.map (ah.val true))] (bm [some (.row [.vl false 1 (z.origin.map (ak.val false)), .vl false 5 (z.aj.map (ah.val false)), .sc (.int .i64 rc), .sc (.bool aa), .sl 1 0 ans.length 5, au, .sc (.slice none 0 0), .sl 2 0 seen.length 1] 0 2 95), some (.row (cellsOf ah true (ans)) 0 0 40), some (.row (((seen)).map (ar.val false)) 0 0 23)])
      (fun r st' => r = .fg [] ∧ st' = bm [some (.row [.vl false 1 (z.origin.map (ak.val false)), .vl false 5 (z.aj.map (ah.val false)), .sc (.int .i64 rc), .sc (.bool aa), .sl 1 0 ans.length 5, au, .sl 3 0 (qf z ans l).length 5, .sl 2 0 seen.length 1] 0 2 95), some (.row (cellsOf ah true (ans)) 0 0 40), some (.row (((seen)).map (ar.val false)) 0 0 23), some (.row (cellsOf ah true (qf z ans l)) 0 0 40)]) := by
  have ok : aw PP [Tn, dg] := aw.cons (aq Hh) (aw.cons (aq ee) (aw.nil PP))
  have hq : ∀ a b c d, g7 a b c = d → g7 a b c = d := fun _ _ _ _ h => h
  refine dr _ rfl ?_ (fun r st' h => h)
  refine bn (T := [Tn, dg]) ok mixed Tryz.func73 rfl (by kernel_rfl) (by kernel_rfl) (by kernel_rfl) (by kernel_rfl) ?_; unfold Tryz.f73
  simp only [↓wR, RA, simprocAttr, TF, ag, hau1, hau2]
  refine jo [0, 12, 13, 14, 4] (fun (x : Nat × List Name) => [.ptr 0 0, .vl true 5 (l.map (ah.val true)), .sc (.int .i64 (l.length)), .sc (.int .i64 (x.1)), .sl 3 0 x.2.length 1]) (fun x => [some (.row [.vl false 1 (z.origin.map (ak.val false)), .vl false 5 (z.aj.map (ah.val false)), .sc (.int .i64 rc), .sc (.bool aa), .sl 1 0 ans.length 5, au, .sc (.slice none 0 0), .sl 2 0 seen.length 1] 0 2 95), some (.row (cellsOf ah true (ans)) 0 0 40), some (.row (((seen)).map (ar.val false)) 0 0 23), some (.row (x.2.map (ar.val true)) 0 0 23)]) (fun x => x.1 ≤ l.length ∧ x.2 = ea (l.take x.1)) (fun x => l.length - x.1) (0, []) ⟨Nat.zero_le _, rfl⟩ (by simp only [↓wR, RA, simprocAttr, TF, ag, hau1, hau2]; (refine l7.lax [] (by first | exact Nat.le_of_ble_eq_true rfl | (simp [bw]; omega)) ?_ ?_ <;> repeat' first | exact iq.nil | exact dc.nil | exact iw.same _ | exact iw.nil _ _ _ | exact iw.uy _ _ | exact dc.refl _ _ | apply iq.cons | apply dc.ghost | apply dc.same | apply dc.row)) ?_
  rintro ⟨i, x⟩ ⟨hi, hx⟩
  simp only at hi hx
  simp only [↓wR, RA, simprocAttr, TF, ag, hau1, hau2]
  rw [b9]; refine ⟨fun h => ?_, fun h => ?_⟩
  · obtain ⟨c, hc, hd1, hlt⟩ := ec (decide_eq_true h)
    have hcd := hld c (List.mem_of_getElem? hc)
    have hnl := hns.len
    simp only [↓wR, RA, simprocAttr, TF, ag, h, hc]; repeat (simp (disch := omega) only [ai, cd, ca, cf, cb]; try simp only [↓wR, RA, simprocAttr, TF, ag, h, hc])
    rw [gv]
    refine ⟨fun ⟨g1, e1⟩ => ?n1, fun ⟨g1, e1⟩ => ?y1⟩
    case' n1 =>
      simp only [↓wR, RA, simprocAttr, TF, ag, g1]
      rw [gv]
      refine ⟨fun ⟨g2, e2⟩ => ?n2, fun ⟨g2, e2⟩ => ?y2⟩
    case' n2 =>
      simp only [↓wR, RA, simprocAttr, TF, ag, g2]
      rw [gv]
      refine ⟨fun ⟨g3, e3⟩ => ?n3, fun ⟨g3, e3⟩ => ?y3⟩
    case n3 =>
      have hy : A4 c = false := by unfold A4; rw [decide_eq_false e1, decide_eq_false e2, decide_eq_false e3]; rfl
      simp only [↓wR, RA, simprocAttr, TF, ag, g3, hau1, hau2]; repeat (simp (disch := omega) only [ai, cd, ca, cf, cb]; try simp only [↓wR, RA, simprocAttr, TF, ag, g3, hau1, hau2])
      exact ⟨(i + 1, x), ⟨hlt, by rw [C0 hc, oj, hy, if_neg (by decide), List.append_nil]; exact hx⟩, by simp; omega, by (first | rfl | trivial | omega | ((try (simp (disch := omega) only [ai])); (try (simp only [FB])); first | done | rfl | omega))⟩
    case' y1 =>
      have hy : A4 c = true := by unfold A4; rw [decide_eq_true e1]; rfl
      simp only [↓wR, RA, simprocAttr, TF, ag, g1]
    case' y2 =>
      have hy : A4 c = true := by unfold A4; rw [decide_eq_true e2, Bool.true_or, Bool.or_true]
      simp only [↓wR, RA, simprocAttr, TF, ag, g2]
    case' y3 =>
      have hy : A4 c = true := by unfold A4; rw [decide_eq_true e3, Bool.or_true, Bool.or_true]
      simp only [↓wR, RA, simprocAttr, TF, ag, g3]
    all_goals
      refine jo [0, 12, 13, 14, 32, 33, 34, 4] (fun (y : Nat × List Name) => [.ptr 0 0, .vl true 5 (l.map (ah.val true)), .sc (.int .i64 (l.length)), .sc (.int .i64 (i)), .vl true 4 (c.data.map (bq.val true)), .sc (.int .i64 (c.data.length)), .sc (.int .i64 (y.1)), .sl 3 0 y.2.length 1]) (fun y => [some (.row [.vl false 1 (z.origin.map (ak.val false)), .vl false 5 (z.aj.map (ah.val false)), .sc (.int .i64 rc), .sc (.bool aa), .sl 1 0 ans.length 5, au, .sc (.slice none 0 0), .sl 2 0 seen.length 1] 0 2 95), some (.row (cellsOf ah true (ans)) 0 0 40), some (.row (((seen)).map (ar.val false)) 0 0 23), some (.row (y.2.map (ar.val true)) 0 0 23)]) (fun y => y.1 ≤ c.data.length ∧ y.2 = x ++ jy (c.data.take y.1)) (fun y => c.data.length - y.1) (0, x) ⟨Nat.zero_le _, by simp [jy]⟩ (by simp only [↓wR, RA, simprocAttr, TF, ag, hau1, hau2]; (refine l7.lax [] (by first | exact Nat.le_of_ble_eq_true rfl | (simp [bw]; omega)) ?_ ?_ <;> repeat' first | exact iq.nil | exact dc.nil | exact iw.same _ | exact iw.nil _ _ _ | exact iw.uy _ _ | exact dc.refl _ _ | apply iq.cons | apply dc.ghost | apply dc.same | apply dc.row)) ?_
      rintro ⟨k, y⟩ ⟨hk, hyx⟩
      simp only at hk hyx
      simp only [↓wR, RA, simprocAttr, TF, ag, hau1, hau2]
      rw [b9]; refine ⟨fun h2 => ?_, fun h2 => ?_⟩
      · obtain ⟨d, hd, hd1, hlt2⟩ := ec (decide_eq_true h2)
        have hle := aoo (k := k + 1) hc hy
        rw [← hx, Gs hd, List.length_append] at hle
        have hyl : y.length = x.length + (jy (c.data.take k)).length := by rw [hyx, List.length_append]
        have hlim : (y.length + d.names.length) * 24 ≤ 140737488355328 := by omega
        simp only [↓wR, RA, simprocAttr, TF, ag, h2, hd, hlim, hau1, hau2]; repeat (simp (disch := omega) only [ai, cd, ca, cf, cb]; try simp only [↓wR, RA, simprocAttr, TF, ag, h2, hd, hlim, hau1, hau2])
        exact ⟨(k + 1, y ++ d.names), ⟨hlt2, by rw [hyx, Gs hd, List.append_assoc]⟩, by simp; omega, by (first | rfl | trivial | omega | ((try (simp (disch := omega) only [ai])); (try (simp only [FB])); first | done | rfl | omega)), by (first | rfl | trivial | omega | ((try (simp (disch := omega) only [ai])); (try (simp only [FB])); first | done | rfl | omega))⟩
      · have hkl : k = c.data.length := by omega
        subst hkl
        rw [List.take_length] at hyx
        simp only [↓wR, RA, simprocAttr, TF, ag, h2, hau1, hau2]; repeat (simp (disch := omega) only [ai, cd, ca, cf, cb]; try simp only [↓wR, RA, simprocAttr, TF, ag, h2, hau1, hau2])
        exact ⟨(i + 1, y), ⟨hlt, by rw [C0 hc, oj, if_pos hy, ← hx]; exact hyx⟩, by simp; omega, by (first | rfl | trivial | omega | ((try (simp (disch := omega) only [ai])); (try (simp only [FB])); first | done | rfl | omega))⟩
  have hil : i = l.length := by omega
  subst hil
  rw [List.take_length] at hx
  subst hx
  have hnl := hns.len
  have hzl := Hw he
  obtain ⟨A, hA⟩ : ∃ A, A = A6 z (ea l) := ⟨_, rfl⟩
  have hal : A.length ≤ 16777216 * 2048 := by
    rw [hA]
    exact Nat.le_trans (Jl z (ea l) []) (Nat.mul_le_mul hnl hzl)
  have hAs : ∀ s ∈ A, c8 s := fun s hs => by rw [hA] at hs; exact ahu hz s hs
  have hadd : qf z ans l = A.filter fun s => !r8 ans s := by rw [hA]; rfl
  rw [hadd]
  have hfA : AV.fresh.go (A.map (ah.val true)) = true := Xa (ct ah) A
  simp only [↓wR, RA, simprocAttr, TF, ag, h, Gz, hz, he, hns, hau1, hau2, ← hA, hfA]; repeat (simp (disch := omega) only [ai, cd, ca, cf, cb]; try simp only [↓wR, RA, simprocAttr, TF, ag, h, Gz, hz, he, hns, hau1, hau2, ← hA, hfA])
  clear h hi
  refine jo [0, 49, 50, 51] (fun (x : Nat × List bb) => [.ptr 0 0, .vl true 5 (A.map (ah.val true)), .sc (.int .i64 (A.length)), .sc (.int .i64 (x.1))]) (fun x => [some (.row [.vl false 1 (z.origin.map (ak.val false)), .vl false 5 (z.aj.map (ah.val false)), .sc (.int .i64 rc), .sc (.bool aa), .sl 1 0 ans.length 5, au, .sl 3 0 x.2.length 5, .sl 2 0 seen.length 1] 0 2 95), some (.row (cellsOf ah true (ans)) 0 0 40), some (.row (((seen)).map (ar.val false)) 0 0 23), some (.row (cellsOf ah true (x.2)) 0 0 40)]) (fun x => x.1 ≤ A.length ∧ x.2 = (A.take x.1).filter fun s => !r8 ans s) (fun x => A.length - x.1) (0, []) ⟨Nat.zero_le _, rfl⟩ (by simp only [↓wR, RA, simprocAttr, TF, ag, hau1, hau2]; (refine l7.lax [] (by first | exact Nat.le_of_ble_eq_true rfl | (simp [bw]; omega)) ?_ ?_ <;> repeat' first | exact iq.nil | exact dc.nil | exact iw.same _ | exact iw.nil _ _ _ | exact iw.uy _ _ | exact dc.refl _ _ | apply iq.cons | apply dc.ghost | apply dc.same | apply dc.row)) ?_
  rintro ⟨i, y⟩ ⟨hi, hy⟩
  simp only at hi hy
  have hyl : y.length ≤ A.length := by rw [hy]; exact Nat.le_trans (List.length_filter_le _ _) (by rw [List.length_take]; omega)
  simp only [↓wR, RA, simprocAttr, TF, ag, hau1, hau2]
  rw [b9]; refine ⟨fun h => ?_, fun h => ?_⟩
  · obtain ⟨c, hc, hd1, hlt⟩ := ec (decide_eq_true h)
    have hcs := hAs c (List.mem_of_getElem? hc)
    have hlim : (y.length * 5 + 5) * 64 ≤ 140737488355328 := by omega
    have htk : (A.take (i + 1)).filter (fun s => !r8 ans s) = (A.take i).filter (fun s => !r8 ans s) ++ if r8 ans c = true then [] else [c] := by
      obtain ⟨hi', rfl⟩ := List.getElem?_eq_some_iff.1 hc
      rw [List.take_succ_eq_append_getElem hi', List.filter_append, List.filter_cons]
      cases r8 ans A[i] <;> rfl
    simp only [↓wR, RA, simprocAttr, TF, ag, h, hc, hau1, hau2]; repeat (simp (disch := omega) only [ai, cd, ca, cf, cb]; try simp only [↓wR, RA, simprocAttr, TF, ag, h, hc, hau1, hau2])
    refine dr (fun r st' => r = .sc (.bool (r8 ans c)) ∧ st' = bm [some (.row [.vl false 1 (z.origin.map (ak.val false)), .vl false 5 (z.aj.map (ah.val false)), .sc (.int .i64 rc), .sc (.bool aa), .sl 1 0 ans.length 5, au, .sl 3 0 y.length 5, .sl 2 0 seen.length 1] 0 2 95), some (.row (cellsOf ah true (ans)) 0 0 40), some (.row (((seen)).map (ar.val false)) 0 0 23), some (.row (cellsOf ah true (y)) 0 0 40), some (.row [.vl true 1 (c.owner.map (ak.val false)), .sc (.int .u16 c.type.toNat), .sc (.int .u16 c.cls.toNat), .sc (.int .u32 c.n9.toNat), .vl true 4 (c.data.map (bq.val true))] 0 2 40)]) rfl ?_ ?_
    · refine bn (T := []) (aw.nil PP) mixed Tryz.func112 rfl (by kernel_rfl) (by kernel_rfl) (by kernel_rfl) (by kernel_rfl) ?_; unfold Tryz.f112
      simp only [↓wR, RA, simprocAttr, TF, ag, hau1, hau2]
      refine bn (T := []) (aw.nil PP) mixed Tryz.func147 rfl (by kernel_rfl) (by kernel_rfl) (by kernel_rfl) (by kernel_rfl) ?_; unfold Tryz.f147
      simp only [↓wR, RA, simprocAttr, TF, ag, hau1, hau2]
      refine dy [0, 1, 7, 8] (fun (k : Nat) => [.sl 1 0 ans.length 5, .fn (.func 113) [] [.ptr 4 0], .sc (.int .i64 (ans.length)), .sc (.int .i64 (k))]) (fun _ => [some (.row [.vl false 1 (z.origin.map (ak.val false)), .vl false 5 (z.aj.map (ah.val false)), .sc (.int .i64 rc), .sc (.bool aa), .sl 1 0 ans.length 5, au, .sl 3 0 y.length 5, .sl 2 0 seen.length 1] 0 2 95), some (.row (cellsOf ah true (ans)) 0 0 40), some (.row (((seen)).map (ar.val false)) 0 0 23), some (.row (cellsOf ah true (y)) 0 0 40), some (.row [.vl true 1 (c.owner.map (ak.val false)), .sc (.int .u16 c.type.toNat), .sc (.int .u16 c.cls.toNat), .sc (.int .u32 c.n9.toNat), .vl true 4 (c.data.map (bq.val true))] 0 2 40)]) (fun k => k ≤ ans.length ∧ r8 ans c = r8 (ans.drop k) c) (fun k => ans.length - k) 0 ⟨Nat.zero_le _, rfl⟩ (by simp only [↓wR, RA, simprocAttr, TF, ag, hau1, hau2] <;> rfl) (by simp only [↓wR, RA, simprocAttr, TF, ag, hau1, hau2] <;> rfl) ?_
      rintro k ⟨hk, hx⟩
      simp only [↓wR, RA, simprocAttr, TF, ag, hau1, hau2]
      rw [b9]; refine ⟨fun h3 => ?_, fun h3 => ?_⟩
      · obtain ⟨q, hq, hd2, hlt2⟩ := ec (decide_eq_true h3)
        rw [hd2] at hx
        have hx' : r8 ans c = ((decide ((q.type.toNat : Int) = c.type.toNat) && dk q.owner c.owner) || r8 (ans.drop (k + 1)) c) := hx
        have hqo := hao q (List.mem_of_getElem? hq)
        have hdr : (cellsOf ah true ans).drop (k * 5) = [.vl true 1 (q.owner.map (ak.val false)), .sc (.int .u16 q.type.toNat), .sc (.int .u16 q.cls.toNat), .sc (.int .u32 q.n9.toNat), .vl true 4 (q.data.map (bq.val true))] ++ cellsOf ah true (ans.drop (k + 1)) :=
          (J7 ah true ans k).trans (by rw [hd2, Cr]; rfl)
        simp only [↓wR, RA, simprocAttr, TF, ag, h3, hq, hdr, hau1, hau2]; repeat (simp (disch := omega) only [ai, cd, ca, cf, cb]; try simp only [↓wR, RA, simprocAttr, TF, ag, h3, hq, hdr, hau1, hau2])
        refine bn (T := [dg]) (aw.cons (aq ee) (aw.nil PP)) mixed Tryz.func113 rfl (by kernel_rfl) (by kernel_rfl) (by kernel_rfl) (by kernel_rfl) ?_; unfold Tryz.f113
        simp only [↓wR, RA, simprocAttr, TF, ag, hau1, hau2]
        rw [c7]; refine ⟨fun ⟨h4, e4⟩ => ?_, fun ⟨h4, e4⟩ => ?_⟩
        · simp only [↓wR, RA, simprocAttr, TF, ag, h4, gi, hqo, hcs.owner, hau1, hau2]
          rw [cp]; refine ⟨fun h5 => ?_, fun h5 => ?_⟩
          · rw [decide_eq_true e4, h5, Bool.true_and, Bool.true_or] at hx'
            simp only [↓wR, RA, simprocAttr, TF, ag, h5, hau1, hau2, ik, g8, gz, hx']
          · rw [h5, Bool.and_false, Bool.false_or] at hx'
            simp only [↓wR, RA, simprocAttr, TF, ag, h5, hau1, hau2]; repeat (simp (disch := omega) only [ai, cd, ca, cf, cb]; try simp only [↓wR, RA, simprocAttr, TF, ag, h5, hau1, hau2])
            exact ⟨k + 1, ⟨hlt2, hx'⟩, by omega, by (first | rfl | trivial | omega | ((try (simp (disch := omega) only [ai])); (try (simp only [FB])); first | done | rfl | omega))⟩
        · rw [decide_eq_false e4, Bool.false_and, Bool.false_or] at hx'
          simp only [↓wR, RA, simprocAttr, TF, ag, h4, hau1, hau2]; repeat (simp (disch := omega) only [ai, cd, ca, cf, cb]; try simp only [↓wR, RA, simprocAttr, TF, ag, h4, hau1, hau2])
          exact ⟨k + 1, ⟨hlt2, hx'⟩, by omega, by (first | rfl | trivial | omega | ((try (simp (disch := omega) only [ai])); (try (simp only [FB])); first | done | rfl | omega))⟩
      · rw [fe (decide_eq_false h3)] at hx
        have hx' : r8 ans c = false := hx
        simp only [↓wR, RA, simprocAttr, TF, ag, h3, ik, g8, gz, hau1, hau2, hx']
    rintro _ _ ⟨rfl, rfl⟩
    simp only [↓wR, RA, simprocAttr, TF, ag, gk]
    rw [cp]; refine ⟨fun h2 => ?_, fun h2 => ?_⟩
    · have h2' : r8 ans c = false := by simpa only [Bool.not_eq_true'] using h2
      rw [h2', if_neg (by decide), ← hy] at htk
      simp only [↓wR, RA, simprocAttr, TF, ag, h2, hlim, hau1, hau2]; repeat (simp (disch := omega) only [ai, cd, ca, cf, cb]; try simp only [↓wR, RA, simprocAttr, TF, ag, h2, hlim, hau1, hau2])
      refine ⟨by kernel_rfl, .inl ?_⟩
      refine ⟨by apply hq; kernel_rfl, ⟨(i + 1, y ++ [c]), ⟨hlt, htk.symm⟩, by simp; omega, by (first | rfl | trivial | omega | ((try (simp (disch := omega) only [ai])); (try (simp only [FB])); first | done | rfl | omega)), ?_⟩⟩
      rw [sf, List.length_append, List.length_singleton]
    · have h2' : r8 ans c = true := by simpa only [Bool.not_eq_false'] using h2
      rw [h2', if_pos rfl, List.append_nil, ← hy] at htk
      simp only [↓wR, RA, simprocAttr, TF, ag, hau1, hau2]; repeat (simp (disch := omega) only [ai, cd, ca, cf, cb]; try simp only [↓wR, RA, simprocAttr, TF, ag, hau1, hau2])
      exact ⟨(i + 1, y), ⟨hlt, htk.symm⟩, by simp; omega, by (first | rfl | trivial | omega | ((try (simp (disch := omega) only [ai])); (try (simp only [FB])); first | done | rfl | omega)), by (first | rfl | trivial | omega | ((try (simp (disch := omega) only [ai])); (try (simp only [FB])); first | done | rfl | omega))⟩
  · have hil : i = A.length := by omega
    subst hil
    rw [List.take_length] at hy
    subst hy
    simp only [↓wR, RA, simprocAttr, TF, ag, h, ik, g8, gz, hau1, hau2]
end Go.Proofs.YtidomogemfchpaaGreat
end
section
set_option linter.unusedSimpArgs false
set_option linter.unusedVariables false
namespace Go.Proofs.YtidomogemfchpaaGreat
open Go.Vm
set_option maxRecDepth 2000000
theorem ail {l : List Name} (h : ∀ m ∈ l, dn m = 0) (hl : l.length ≤ 16) : kr l := by
  have : ∀ l : List Name, (∀ m ∈ l, dn m = 0) → gh bj l ≤ l.length * 256 := by
    intro l
    induction l with
    | nil => intro _; simp [gh]
    | cons a l ih =>
      intro h
      have h1 := qm (h a (by simp))
      have h2 := ih (fun m hm => h m (by simp [hm]))
      simp only [gh, List.foldr_cons, List.length_cons] at h2 ⊢
      omega
  have := this l h
  unfold kr; omega
theorem Cp (fr h k st et) (n : Nat) (ans : List bb) (s : bb) (hn : n = ans.length + 1) : lj ah fr h 0 n (.row (cellsOf ah true ans ++ [.vl true 1 (s.owner.map (ak.val false)), .sc (.int .u16 s.type.toNat), .sc (.int .u16 s.cls.toNat), .sc (.int .u32 s.n9.toNat), .vl true 4 (s.data.map (bq.val true))]) k st et) = some (ans ++ [s]) := by
  rw [← sf]
  exact vk ah fr h true (ans ++ [s]) k st et n (by rw [hn, List.length_append]; rfl) rfl
theorem flat_agg (l : List AV) : [AV.agg l].flatMap AV.cells = l := by simp [AV.cells]
theorem awe (fr h) (s : bb) : ek ah fr h (.vl true 5 [.agg [.vl true 1 (s.owner.map (ak.val false)), .sc (.int .u16 s.type.toNat), .sc (.int .u16 s.cls.toNat), .sc (.int .u32 s.n9.toNat), .vl true 4 (s.data.map (bq.val true))]]) = some [s] := um ah fr h true [s] 5 rfl rfl
set_option maxHeartbeats 4000000 in
theorem au5 (z : bf) (n : Name) (t : UInt16) (hz : cx z) (hn : bd n) : wl PP [Tt, Yr, Yo, T7, Tn, ri, dg, Lj] 0 (Tryz.f10.body.getD .skip) (du PP Tryz.f10.results.toList (fun r st => (r2 nj (bg .i64)).get true st.h r = some (Ew z n t))) (cq 0 [cy.val false z, ar.val false n, cz.val false t]) (bm []) := by
  have ok : aw PP [Tt, Yr, Yo, T7, Tn, ri, dg, Lj] := aw.cons (aq Oq) (aw.cons (aq Hm) (aw.cons (aq So) (aw.cons (aq Ko) (aw.cons (aq Hh) (aw.cons (aq lu) (aw.cons (aq ee) (aw.cons (aq Ft) (aw.nil PP))))))))
  unfold Tryz.f10
  simp only [iz, db]
  unfold Ew
  by_cases he : (lr z n t).2 = 0
  rotate_left
  · rw [if_pos he]
    rcases ha : lr z n t with ⟨⟨k, nd, cl⟩, e⟩
    rw [ha] at he
    have hb : (e != 0) = true := by simpa using he
    simp only [↓wR, RA, simprocAttr, TF, ag, xx, hz, hn, ha, hb]
  obtain ⟨h1, h2, h3, h4⟩ := J2 he
  obtain ⟨a1, a2, a3⟩ := px h1
  rw [if_neg (by omega)]
  rcases ha : lr z n t with ⟨⟨k, nd, cl⟩, e⟩
  rw [ha] at he
  simp only at he
  subst he
  simp only [↓wR, RA, simprocAttr, TF, ag, xx, hz, hn, ha, bne_self_eq_false]
  refine bn (T := [Tt, Yr, Yo, T7, Tn, ri, dg, Lj]) ok mixed Tryz.func36 rfl (by kernel_rfl) (by kernel_rfl) (by kernel_rfl) (by kernel_rfl) ?_; unfold Tryz.f36
  simp only [↓wR, RA, simprocAttr, TF, ag]
  have hcase : fw z t 16 n [] [] = fw z t (16 - 0) n [] [] := rfl
  refine Ww [0, 1, 2, 6] (fun (x : Name × List Name × List bb × Nat) => [.ptr 3 0, .vl false 1 (x.1.map (ak.val false)), .sc (.int .u16 t.toNat), .sc (.int .i64 (x.2.2.2))]) (fun x => [some (.row [.vl false 1 (z.origin.map (ak.val false)), .vl false 5 (z.aj.map (ah.val false))] 0 2 26), some (.row [.sc (.int .i64 0), .sc (.bool false), .sc (.slice none 0 0), .sc (.slice none 0 0), .sc (.slice none 0 0)] 0 2 32), some (.row [.sc (.int .u8 k), .vl true 1 (nd.map (ak.val false)), .vl true 1 (cl.map (ak.val false))] 0 2 90), some (.row [.vl false 1 (z.origin.map (ak.val false)), .vl false 5 (z.aj.map (ah.val false)), .sc (.int .i64 0), .sc (.bool true), .sl 4 0 x.2.2.1.length 5, .sc (.slice none 0 0), .sc (.slice none 0 0), .sl 5 0 x.2.1.length 1] 0 2 95), some (.row (cellsOf ah true (x.2.2.1)) 0 0 40), some (.row (((x.2.1)).map (ar.val false)) 0 0 23)]) (fun x => (fv z x.1 = 0 ∧ (x.2.1.length = x.2.2.2 ∧ ∀ m ∈ x.2.1, dn m = 0)) ∧ (x.2.2.2 ≤ 15 ∧ x.2.2.1.length ≤ x.2.2.2 ∧ ∀ s ∈ x.2.2.1, bd s.owner) ∧ fw z t 16 n [] [] = fw z t (16 - x.2.2.2) x.1 x.2.1 x.2.2.1) (fun x => 16 - x.2.2.2) (n, [], [], 0) ⟨⟨h1, rfl, fun m hm => by cases hm⟩, ⟨Nat.zero_le _, Nat.le_refl _, fun m hm => by cases hm⟩, rfl⟩ (by simp only [↓wR, RA, simprocAttr, TF, ag]; (refine l7.lax [] (by first | exact Nat.le_of_ble_eq_true rfl | (simp [bw]; omega)) ?_ ?_ <;> repeat' first | exact iq.nil | exact dc.nil | exact iw.same _ | exact iw.nil _ _ _ | exact iw.uy _ _ | exact dc.refl _ _ | apply iq.cons | apply dc.ghost | apply dc.same | apply dc.row)) ?_
  clear hcase
  rintro ⟨n', seen, ans, al⟩ ⟨⟨b1, b2, b3⟩, ⟨b4, b5, b6⟩, b7⟩
  simp only at b1 b2 b3 b4 b5 b6 b7
  obtain ⟨c1, c2, c3⟩ := px b1
  have hn' : bd n' := by have := qm c2; unfold bd; omega
  have hsp := Wz hz hn'
  have hst := agp t b1
  obtain ⟨f, hf⟩ : ∃ f, 16 - al = f + 1 := ⟨15 - al, by omega⟩
  have hq : ∀ a b c d, g7 a b c = d → g7 a b c = d := fun _ _ _ _ h => h
  rcases hfv : i5 z n' with ⟨⟨k2, nd2, cl2⟩, e2⟩
  rw [hfv] at hsp
  simp only at hsp
  have hlim1 : (seen.length + 1) * 24 ≤ 140737488355328 := by omega
  have hdec : decide ((ans.length : Int) > 0) = decide (0 < ans.length) := by rw [decide_eq_decide]; omega
  have hzw : gh nk z.aj ≤ 16777216 := by unfold cx Nu at hz; omega
  rcases hst with ⟨c, s, hc, hs, ht, ho, h⟩ | ⟨hc, h⟩ | ⟨hc, h⟩ | ⟨hc, l, hne, hln, hw, hl, h⟩ | ⟨hc, s, d, m, ht, h5, h255, ho, hoz, hd, hm, hem, hy, h⟩
  · have hch : fw z t (f + 1) n' seen ans = pk 0 (decide (0 < ans.length)) ans [s] (qf z ans [s]) := by simp only [fw, h]; rfl
    rw [b7, hf, hch]
    rw [hfv] at h
    change mr z n' t (ud k2 nd2 cl2) = _ at h
    have hns : kr (ea [s]) := Nat.le_trans (Nat.le_trans (M5 hs) (B8 _)) hzw
    simp only [↓wR, RA, simprocAttr, TF, ag, hlim1, l8, hz, hn', hfv]; repeat (simp (disch := omega) only [ai, cd, ca, cf, cb]; try simp only [↓wR, RA, simprocAttr, TF, ag, hlim1, l8, hz, hn', hfv])
    refine ⟨by kernel_rfl, .inl ?_⟩
    simp only [↓wR, RA, simprocAttr, TF, ag, ua, hz, hn', c1, hsp, h]
    refine ⟨by apply hq; kernel_rfl, ?_⟩
    refine ⟨by kernel_rfl, .inl ?_⟩
    refine ⟨by apply hq; kernel_rfl, ?_⟩
    simp only [↓wR, RA, simprocAttr, TF, ag, hdec]
    refine Qk [3, 4, 7] (adn z hz c1 0 (decide (0 < ans.length)) ((ct ah).val true [s]) (Ee (ct ah) true [s]) (fun τ => F3 (ct ah) τ true [s]) rfl ans (seen ++ [n']) [s] (by omega) b6 (by simp) (fun x hx => by rw [List.mem_singleton] at hx; subst hx; exact (hz.set x hs).data.len) hns) (by decide) (by simp only [↓wR, RA, simprocAttr, TF, ag]) (by simp only [↓wR, RA, simprocAttr, TF, ag]) (Nat.le_of_ble_eq_true rfl) (by simp only [↓wR, RA, simprocAttr, TF, ag]) (by simp only [↓wR, RA, simprocAttr, TF, ag, db]) ⟨Nat.le_of_ble_eq_true rfl, Nat.le_of_ble_eq_true rfl⟩ ?_
    simp only [↓wR, RA, simprocAttr, TF, ag, gk, ug, Bd, sr, La, awe]
  · have hch : fw z t (f + 1) n' seen ans = pk 3 true ans [sn z] [] := by simp only [fw, h]; rfl
    rw [b7, hf, hch]
    rw [hfv] at h
    change mr z n' t (ud k2 nd2 cl2) = _ at h
    simp only [↓wR, RA, simprocAttr, TF, ag, hlim1, l8, hz, hn', hfv]; repeat (simp (disch := omega) only [ai, cd, ca, cf, cb]; try simp only [↓wR, RA, simprocAttr, TF, ag, hlim1, l8, hz, hn', hfv])
    refine ⟨by kernel_rfl, .inl ?_⟩
    simp only [↓wR, RA, simprocAttr, TF, ag, ua, hz, hn', c1, hsp, h, Al, Kb]
    apply hq; kernel_rfl
  · have hch : fw z t (f + 1) n' seen ans = pk 0 true ans [sn z] [] := by simp only [fw, h]; rfl
    rw [b7, hf, hch]
    rw [hfv] at h
    change mr z n' t (ud k2 nd2 cl2) = _ at h
    simp only [↓wR, RA, simprocAttr, TF, ag, hlim1, l8, hz, hn', hfv]; repeat (simp (disch := omega) only [ai, cd, ca, cf, cb]; try simp only [↓wR, RA, simprocAttr, TF, ag, hlim1, l8, hz, hn', hfv])
    refine ⟨by kernel_rfl, .inl ?_⟩
    simp only [↓wR, RA, simprocAttr, TF, ag, ua, hz, hn', c1, hsp, h, Al, Kb]
    apply hq; kernel_rfl
  · have hch : fw z t (f + 1) n' seen ans = pk 0 true (ans ++ l) [] (qf z (ans ++ l) l) := by simp only [fw, h]; rfl
    rw [b7, hf, hch]
    rw [hfv] at h
    change mr z n' t (ud k2 nd2 cl2) = _ at h
    have hns : kr (ea l) := Nat.le_trans hw hzw
    have hll : l.length ≤ 16777216 := by have := hz.len; omega
    have hlim2 : (ans.length * 5 + l.length * 5) * 56 ≤ 140737488355328 := by omega
    simp only [↓wR, RA, simprocAttr, TF, ag, hlim1, l8, hz, hn', hfv]; repeat (simp (disch := omega) only [ai, cd, ca, cf, cb]; try simp only [↓wR, RA, simprocAttr, TF, ag, hlim1, l8, hz, hn', hfv])
    refine ⟨by kernel_rfl, .inl ?_⟩
    simp only [↓wR, RA, simprocAttr, TF, ag, ua, hz, hn', c1, hsp, h, hlim2]
    refine ⟨by apply hq; kernel_rfl, ?_⟩
    refine ⟨by kernel_rfl, .inl ?_⟩
    refine ⟨by apply hq; kernel_rfl, ?_⟩
    have hao : ∀ x ∈ ans ++ l, bd x.owner := fun x hx => by
      rcases List.mem_append.1 hx with hx | hx
      · exact b6 x hx
      · rcases (hl x hx).2.1 with e | e
        · rw [e]; exact hn'
        · exact (hz.set x e).owner
    have hld : ∀ x ∈ l, x.data.length ≤ 16777216 := fun x hx => by
      obtain ⟨y, hy, hyd, _⟩ := (hl x hx).2.2.2
      rw [hyd]; exact (hz.set y hy).data.len
    have hal : (ans ++ l).length ≤ 16777216 := by have := hz.len; have := Hw c1; rw [List.length_append]; omega
    refine Qk [3, 10, 7] (adn z hz c1 0 true (.sc (.slice none 0 0)) rfl (fun τ => rfl) rfl (ans ++ l) (seen ++ [n']) l hal hao hll hld hns) (by decide) (by simp only [↓wR, RA, simprocAttr, TF, ag]) (by simp only [↓wR, RA, simprocAttr, TF, ag]) (Nat.le_of_ble_eq_true rfl) (by simp only [↓wR, RA, simprocAttr, TF, ag]) (by simp only [↓wR, RA, simprocAttr, TF, ag, db, w4]) ⟨Nat.le_of_ble_eq_true rfl, Nat.le_of_ble_eq_true rfl⟩ ?_
    simp only [↓wR, RA, simprocAttr, TF, ag, gk, ug, Bd, sr, La]
  · have hms : bd m := by have := qm hem; unfold bd; omega
    have hse : ∀ q ∈ seen ++ [n'], dn q = 0 := fun q hq2 => by
      rcases List.mem_append.1 hq2 with q1 | q1
      · exact b3 q q1
      · rw [List.mem_singleton] at q1; rw [q1]; exact c2
    have hsn : kr (seen ++ [n']) := ail hse (by rw [List.length_append, List.length_singleton]; omega)
    have hlim3 : (ans.length * 5 + 5) * 56 ≤ 140737488355328 := by omega
    have h0 := h
    rw [hfv] at h
    change mr z n' t (ud k2 nd2 cl2) = _ at h
    cases hu : dj m z.origin with
    | false =>
      rw [b7, hf, Wa h0 hu]
      simp only [↓wR, RA, simprocAttr, TF, ag, hlim1, l8, hz, hn', hfv]; repeat (simp (disch := omega) only [ai, cd, ca, cf, cb]; try simp only [↓wR, RA, simprocAttr, TF, ag, hlim1, l8, hz, hn', hfv])
      refine ⟨by kernel_rfl, .inl ?_⟩
      simp only [↓wR, RA, simprocAttr, TF, ag, ua, hz, hn', c1, hsp, h, hlim3, flat_agg]
      refine ⟨by apply hq; kernel_rfl, ?_⟩
      refine ⟨by kernel_rfl, .inl ?_⟩
      refine ⟨by apply hq; kernel_rfl, ?_⟩
      refine ⟨by kernel_rfl, .inl ?_⟩
      simp only [↓wR, RA, simprocAttr, TF, ag, i9, hms, hz.origin, hu, Cp]
      apply hq; kernel_rfl
    | true =>
      cases hmet : xi (seen ++ [n']) m with
      | true =>
        rw [b7, hf, Xd h0 hu hmet]
        simp only [↓wR, RA, simprocAttr, TF, ag, hlim1, l8, hz, hn', hfv]; repeat (simp (disch := omega) only [ai, cd, ca, cf, cb]; try simp only [↓wR, RA, simprocAttr, TF, ag, hlim1, l8, hz, hn', hfv])
        refine ⟨by kernel_rfl, .inl ?_⟩
        simp only [↓wR, RA, simprocAttr, TF, ag, ua, hz, hn', c1, hsp, h, hlim3, flat_agg]
        refine ⟨by apply hq; kernel_rfl, ?_⟩
        refine ⟨by kernel_rfl, .inl ?_⟩
        refine ⟨by apply hq; kernel_rfl, ?_⟩
        refine ⟨by kernel_rfl, .inl ?_⟩
        simp only [↓wR, RA, simprocAttr, TF, ag, i9, hms, hz.origin, hu, ow, hsn, hmet, Cp]
        apply hq; kernel_rfl
      | false =>
        rw [b7, hf, ado h0 hu hmet]
        simp only [↓wR, RA, simprocAttr, TF, ag, hlim1, l8, hz, hn', hfv]; repeat (simp (disch := omega) only [ai, cd, ca, cf, cb]; try simp only [↓wR, RA, simprocAttr, TF, ag, hlim1, l8, hz, hn', hfv])
        refine ⟨by kernel_rfl, .inl ?_⟩
        simp only [↓wR, RA, simprocAttr, TF, ag, ua, hz, hn', c1, hsp, h, hlim3, flat_agg]
        refine ⟨by apply hq; kernel_rfl, ?_⟩
        refine ⟨by kernel_rfl, .inl ?_⟩
        refine ⟨by apply hq; kernel_rfl, ?_⟩
        refine ⟨by kernel_rfl, .inl ?_⟩
        by_cases h15 : al = 15
        · have hf0 : f = 0 := by omega
          rw [hf0]
          have hd16 : decide (((al : Int) + 1) ≥ 16) = true := decide_eq_true (by omega)
          simp only [↓wR, RA, simprocAttr, TF, ag, i9, hms, hz.origin, hu, ow, hsn, hmet, Cp, hd16]; repeat (simp (disch := omega) only [ai, cd, ca, cf, cb]; try simp only [↓wR, RA, simprocAttr, TF, ag, i9, hms, hz.origin, hu, ow, hsn, hmet, Cp, hd16])
          exact ⟨by apply hq; kernel_rfl, rfl⟩
        · have hd16 : decide (((al : Int) + 1) ≥ 16) = false := decide_eq_false (by omega)
          simp only [↓wR, RA, simprocAttr, TF, ag, i9, hms, hz.origin, hu, ow, hsn, hmet, Cp, hd16]; repeat (simp (disch := omega) only [ai, cd, ca, cf, cb]; try simp only [↓wR, RA, simprocAttr, TF, ag, i9, hms, hz.origin, hu, ow, hsn, hmet, Cp, hd16])
          have hm0 : fv z m = 0 := by unfold fv; rw [if_neg (by omega), if_neg (by omega), if_neg (by rw [hu]; decide)]
          have hsl : (seen ++ [n']).length = al + 1 := by rw [List.length_append, List.length_singleton]; omega
          have hal : (ans ++ [s]).length ≤ al + 1 := by rw [List.length_append, List.length_singleton]; omega
          have hao : ∀ x ∈ ans ++ [s], bd x.owner := fun x hx => by
            rcases List.mem_append.1 hx with hx | hx
            · exact b6 x hx
            · rw [List.mem_singleton] at hx
              subst hx
              rcases hoz with e | e
              · rw [e]; exact hn'
              · exact (hz.set x e).owner
          have hff : f = 16 - (al + 1) := by omega
          have hc1 : ((al + 1 : Nat) : Int) = (al : Int) + 1 := by omega
          refine ⟨by apply hq; kernel_rfl, (m, seen ++ [n'], ans ++ [s], al + 1), ⟨⟨hm0, hsl, hse⟩, ⟨by show al + 1 ≤ 15; omega, hal, hao⟩, by rw [hff]⟩, by show 16 - (al + 1) < f + 1; omega, ?_⟩
          simp only [List.length_append, List.length_singleton, hc1, List.map_append, List.map_cons, List.map_nil]
          rw [sf]
          refine l7.lax [] (Nat.le_of_ble_eq_true rfl) (.cons (.same _) (.cons (.data ar false m _ (by simp only [↓wR, RA, simprocAttr, TF, ag])) (.cons (.same _) (.cons (.same _) .nil)))) (dc.refl _ _)
noncomputable def T2 (x : bf × Name × UInt16 × Unit) : Option AV := if cx x.1 ∧ bd x.2.1 then some ((r2 nj (bg .i64)).E true (Ew x.1 x.2.1 x.2.2.1)) else none
set_option maxRecDepth 2000000 in
theorem an8 (x : bf × Name × UInt16 × Unit) (r : AV) (h : T2 x = some r) : bk PP 10 ((aC cy (aC ar (aC cz a0))).E x) r := by
  by_cases hc : cx x.1 ∧ bd x.2.1
  case neg => simp only [T2, if_neg hc] at h; cases h
  simp only [T2, if_pos hc] at h
  cases h
  exact be (aw.cons (aq Oq) (aw.cons (aq Hm) (aw.cons (aq So) (aw.cons (aq Ko) (aw.cons (aq Hh) (aw.cons (aq lu) (aw.cons (aq ee) (aw.cons (aq Ft) (aw.nil PP))))))))) Tryz.func10 (by kernel_rfl) (by kernel_rfl) (by kernel_rfl) (Nat.le_of_ble_eq_true (by kernel_rfl)) (r2 nj (bg .i64)) true (Ew x.1 x.2.1 x.2.2.1) (au5 x.1 x.2.1 x.2.2.1 hc.1 hc.2)
noncomputable abbrev aOf : Nat × Bool × (List AV → M AV) := (10, true, dm (aC cy (aC ar (aC cz a0))) T2)
end Go.Proofs.YtidomogemfchpaaGreat
end
section
set_option linter.unusedSimpArgs false
set_option linter.unusedVariables false
namespace Go.Proofs.YtidomogemfchpaaGreat
open Go.Vm
set_option maxRecDepth 2000000
def agb (s : bb) : Option Name := match s.data with | [d] => (match d.names with | [m] => some m | _ => none) | _ => none
def as4 (n : Name) (t : UInt16) (s : bb) : Bool := dk s.owner n && (decide ((t.toNat : Int) = 255) || decide ((s.type.toNat : Int) = t.toNat))
def okD (d : c0) : Bool := decide (d.names.length ≤ 16777216) && d.names.all fun m => decide (bj m ≤ 16777216)
def S8 (s : bb) : Bool := decide (bj s.owner ≤ 16777216) && (decide (s.data.length ≤ 16777216) && s.data.all okD)
def y9 (l : List bb) : Bool := decide (l.length ≤ 16777216) && l.all S8
theorem ai2 {l : List bb} (h : y9 l = true) : l.length ≤ 16777216 := by unfold y9 at h; rw [Bool.and_eq_true] at h; exact of_decide_eq_true h.1
theorem akc {l : List bb} (h : y9 l = true) : ∀ s ∈ l, bd s.owner ∧ s.data.length ≤ 16777216 ∧ ∀ d ∈ s.data, d.names.length ≤ 16777216 ∧ ∀ m ∈ d.names, bd m := fun s hs => by
  unfold y9 at h
  rw [Bool.and_eq_true] at h
  have h2 := List.all_eq_true.1 h.2 s hs
  unfold S8 at h2
  rw [Bool.and_eq_true, Bool.and_eq_true] at h2
  refine ⟨of_decide_eq_true h2.1, of_decide_eq_true h2.2.1, fun d hd => ?_⟩
  have h3 := List.all_eq_true.1 h2.2.2 d hd
  unfold okD at h3
  rw [Bool.and_eq_true] at h3
  exact ⟨of_decide_eq_true h3.1, fun m hm => of_decide_eq_true (List.all_eq_true.1 h3.2 m hm)⟩
theorem aoi {s y : bb} (hy : c8 y) (hd : s.data = y.data) (ho : bd s.owner) : S8 s = true := by
  unfold S8
  rw [Bool.and_eq_true, Bool.and_eq_true, hd]
  refine ⟨decide_eq_true ho, decide_eq_true hy.data.len, List.all_eq_true.2 fun d hdd => ?_⟩
  have hsd := hy.data.mem d hdd
  unfold okD
  rw [Bool.and_eq_true]
  refine ⟨decide_eq_true ?_, List.all_eq_true.2 fun m hm => decide_eq_true (hsd.name m hm)⟩
  have := wi bj d.names
  unfold dq x5 at hsd
  omega
end Go.Proofs.YtidomogemfchpaaGreat
end
section
namespace Go.Proofs.YtidomogemfchpaaGreat
open Go.Vm
structure aq4 (z : bf) (t : UInt16) (n m : Name) (s : bb) : Prop where
  ty : (s.type.toNat : Int) = 5
  t5 : (t.toNat : Int) ≠ 5
  t255 : (t.toNat : Int) ≠ 255
  own : dk s.owner n = true
  one : agb s = some m
  cut : lg z n = none
  err : dn m = 0
  zon : s.owner = n ∨ s ∈ z.aj
  dat : ∃ y ∈ z.aj, s.data = y.data ∧ s.type = y.type
inductive w8 (z : bf) (t : UInt16) : Name → List bb → Name → Prop
  | nil (n : Name) : w8 z t n [] n
  | cons {n m e : Name} {s : bb} {l : List bb} (h : aq4 z t n m s) (hr : w8 z t m l e) : w8 z t n (s :: l) e
inductive avf (z : bf) (t : UInt16) (k : Nat) (e : Name) (ans cs tl : List bb) (r : vm) : Prop
  | stop (h1 : tl = []) (h2 : r.authority = []) (h3 : r.ef = []) (h4 : r.mw = 0) (h5 : r.aa = true) (h6 : cs ≠ [] ∨ k = 0)
  | found (h1 : tl ≠ []) (h2 : ∀ s ∈ tl, as4 e t s = true ∧ (s.owner = e ∨ s ∈ z.aj) ∧ ∃ y ∈ z.aj, s.data = y.data ∧ s.type = y.type) (hc : lg z e = none) (h3 : r.authority = []) (h4 : r.mw = 0) (h5 : r.aa = true)
      (h6 : r.ef = qf z (ans ++ cs ++ tl) tl)
  | abq (h1 : tl = []) (ha : fv z e = 0) (h2 : r.authority = [sn z]) (h3 : r.ef = []) (h5 : r.aa = true) (h4 : (r.mw = 3 ∧ (mr z e t (i5 z e).1).turn = 3) ∨ (r.mw = 0 ∧ (mr z e t (i5 z e).1).turn = 2))
  | Yp (h1 : tl = []) (s : bb) (c : Name) (h2 : r.authority = [s]) (hs : s ∈ z.aj) (ht : (s.type.toNat : Int) = 2) (hc : lg z e = some c) (ho : dk s.owner c = true) (h4 : r.mw = 0) (h5 : r.aa = decide (0 < (ans ++ cs).length))
      (h6 : r.ef = qf z (ans ++ cs) [s])
theorem ac7 {z : bf} {t : UInt16} : ∀ (k : Nat) (n : Name) (seen : List Name) (ans : List bb), fv z n = 0 → ∃ cs tl e, (fw z t k n seen ans).answer = ans ++ cs ++ tl ∧ w8 z t n cs e ∧ (cs.length ≤ k ∧ tl.length ≤ z.aj.length) ∧ avf z t k e ans cs tl (fw z t k n seen ans) := by
  intro k
  induction k with
  | zero => intro n seen ans _; exact ⟨[], [], n, by simp [fw, pk], .nil n, ⟨Nat.le_refl _, Nat.zero_le _⟩, .stop rfl rfl rfl rfl rfl (.inr rfl)⟩
  | succ k ih =>
    intro n seen ans h
    obtain ⟨a1, a2, a3⟩ := px h
    rcases agp t h with ⟨c, s, hc, hs, ht, ho, e⟩ | ⟨hc, e⟩ | ⟨hc, e⟩ | ⟨hc, l, hne, hln, hw, hl, e⟩ | ⟨hc, s, d, m, ht, h5, h255, ho, hoz, hd, hm, hem, hy, e⟩
    · have hv : fw z t (k + 1) n seen ans = pk 0 (decide (0 < ans.length)) ans [s] (qf z ans [s]) := by simp only [fw, e]; rfl
      rw [hv]
      exact ⟨[], [], n, by simp [pk], .nil n, ⟨Nat.zero_le _, Nat.zero_le _⟩, .Yp rfl s c rfl hs ht hc ho rfl (by rw [List.append_nil]; rfl) (by rw [List.append_nil]; rfl)⟩
    · have hv : fw z t (k + 1) n seen ans = pk 3 true ans [sn z] [] := by simp only [fw, e]; rfl
      rw [hv]
      exact ⟨[], [], n, by simp [pk], .nil n, ⟨Nat.zero_le _, Nat.zero_le _⟩, .abq rfl h rfl rfl rfl (.inl ⟨rfl, by rw [e]; rfl⟩)⟩
    · have hv : fw z t (k + 1) n seen ans = pk 0 true ans [sn z] [] := by simp only [fw, e]; rfl
      rw [hv]
      exact ⟨[], [], n, by simp [pk], .nil n, ⟨Nat.zero_le _, Nat.zero_le _⟩, .abq rfl h rfl rfl rfl (.inr ⟨rfl, by rw [e]; rfl⟩)⟩
    · have hv : fw z t (k + 1) n seen ans = pk 0 true (ans ++ l) [] (qf z (ans ++ l) l) := by simp only [fw, e]; rfl
      rw [hv]
      refine ⟨[], l, n, by simp [pk], .nil n, ⟨Nat.zero_le _, hln⟩, .found hne (fun s hs => ⟨?_, (hl s hs).2.1, (hl s hs).2.2.2⟩) hc rfl rfl rfl (by rw [List.append_nil]; rfl)⟩
      obtain ⟨q1, _, q2, _⟩ := hl s hs
      unfold as4
      rw [q1, Bool.true_and, Bool.or_eq_true]
      exact q2.imp (fun q => decide_eq_true q) (fun q => decide_eq_true q)
    · have hal : aq4 z t n m s := ⟨ht, h5, h255, ho, by unfold agb; rw [hd]; simp only [hm], hc, hem, hoz, hy⟩
      cases hu : dj m z.origin with
      | false =>
        have hv := Wa (k := k) (seen := seen) (ans := ans) e hu
        rw [hv]
        exact ⟨[s], [], m, by simp [pk], .cons hal (.nil m), ⟨by simp, Nat.zero_le _⟩, .stop rfl rfl rfl rfl rfl (.inl (by simp))⟩
      | true =>
        cases hmet : xi (seen ++ [n]) m with
        | true =>
          have hv := Xd (k := k) (ans := ans) e hu hmet
          rw [hv]
          exact ⟨[s], [], m, by simp [pk], .cons hal (.nil m), ⟨by simp, Nat.zero_le _⟩, .stop rfl rfl rfl rfl rfl (.inl (by simp))⟩
        | false =>
          have hv := ado (k := k) (ans := ans) e hu hmet
          rw [hv]
          have hm0 : fv z m = 0 := by unfold fv; rw [if_neg (by omega), if_neg (by omega), if_neg (by rw [hu]; decide)]
          obtain ⟨cs, tl, e', i1, i2, i4, i3⟩ := ih m (seen ++ [n]) (ans ++ [s]) hm0
          refine ⟨s :: cs, tl, e', by rw [i1]; simp, .cons hal i2, ⟨by rw [List.length_cons]; omega, i4.2⟩, ?_⟩
          rcases i3 with ⟨q1, q2, q3, q4, q5, q6⟩ | ⟨q1, q2, q3, q4, q5, q6, q7⟩ | ⟨q1, q2, q3, q4, q5, q6⟩ | ⟨q1, s', c', q2, q3, q4, q5, q6, q7, q8, q9⟩
          · exact .stop q1 q2 q3 q4 q5 (.inl (by simp))
          · exact .found q1 q2 q3 q4 q5 q6 (by rw [q7]; simp)
          · exact .abq q1 q2 q3 q4 q5 q6
          · exact .Yp q1 s' c' q2 q3 q4 q5 q6 q7 (by rw [q8]; simp) (by rw [q9]; simp)
end Go.Proofs.YtidomogemfchpaaGreat
end
section
set_option linter.unusedSimpArgs false
set_option linter.unusedVariables false
namespace Go.Proofs.YtidomogemfchpaaGreat
open Go.Vm
set_option maxRecDepth 2000000
noncomputable def zp (a b : bb) : Bool := a.data.all fun d => zz a.type b.data d
theorem ak5 (a b : bb) (ha : c8 a) (hb : c8 b) : wl PP [as0] 0 (Tryz.f77.body.getD .skip) (du PP Tryz.f77.results.toList (fun r st => (r1 bo).get true st.h r = some (zp a b))) (cq 0 [ah.val false a, ah.val false b]) (bm []) := by
  have hl := ha.data.len
  unfold Tryz.f77
  simp only [jq]
  simp only [↓wR, RA, simprocAttr, TF, ag]
  refine dy [2, 3, 8, 9, 10] (fun (i : Nat) => [.ptr 0 0, .ptr 1 0, .vl false 4 (a.data.map (bq.val false)), .sc (.int .i64 (a.data.length)), .sc (.int .i64 (i))]) (fun _ => [some (.row [.vl false 1 (a.owner.map (ak.val false)), .sc (.int .u16 a.type.toNat), .sc (.int .u16 a.cls.toNat), .sc (.int .u32 a.n9.toNat), .vl false 4 (a.data.map (bq.val false))] 0 2 40), some (.row [.vl false 1 (b.owner.map (ak.val false)), .sc (.int .u16 b.type.toNat), .sc (.int .u16 b.cls.toNat), .sc (.int .u32 b.n9.toNat), .vl false 4 (b.data.map (bq.val false))] 0 2 40)]) (fun i => i ≤ a.data.length ∧ zp a b = (a.data.drop i).all fun d => zz a.type b.data d) (fun i => a.data.length - i) 0 ⟨Nat.zero_le _, rfl⟩ (by simp only [↓wR, RA, simprocAttr, TF, ag] <;> rfl) (by simp only [↓wR, RA, simprocAttr, TF, ag] <;> rfl) ?_
  rintro i ⟨hi, hx⟩
  simp only [↓wR, RA, simprocAttr, TF, ag]
  rw [b9]; refine ⟨fun h => ?_, fun h => ?_⟩
  · obtain ⟨c, hc, hd1, hlt⟩ := ec (decide_eq_true h)
    rw [hd1, List.all_cons] at hx
    have hcs := ha.data.mem c (List.mem_of_getElem? hc)
    simp only [↓wR, RA, simprocAttr, TF, ag, h, hc, Md, hb.data, hcs]
    rw [cp]; refine ⟨fun h1 => ?_, fun h1 => ?_⟩
    · have h1' : zz a.type b.data c = false := by simpa only [Bool.not_eq_true'] using h1
      rw [h1', Bool.false_and] at hx
      simp only [↓wR, RA, simprocAttr, TF, ag, h1]
      rw [hx] <;> rfl
    · have h1' : zz a.type b.data c = true := by simpa only [Bool.not_eq_false'] using h1
      rw [h1', Bool.true_and] at hx
      simp only [↓wR, RA, simprocAttr, TF, ag, h1]; repeat (simp (disch := omega) only [ai, cd, ca, cf, cb]; try simp only [↓wR, RA, simprocAttr, TF, ag, h1])
      exact ⟨i + 1, ⟨hlt, hx⟩, by omega, by (first | rfl | trivial | omega | ((try (simp (disch := omega) only [ai])); (try (simp only [FB])); first | done | rfl | omega))⟩
  · rw [fe (decide_eq_false h), List.all_nil] at hx
    simp only [↓wR, RA, simprocAttr, TF, ag, h]
    rw [hx] <;> rfl
noncomputable def Af (x : bb × bb × Unit) : Option AV := if c8 x.1 ∧ c8 x.2.1 then some ((r1 bo).E true (zp x.1 x.2.1)) else none
set_option maxRecDepth 2000000 in
theorem ab9 (x : bb × bb × Unit) (r : AV) (h : Af x = some r) : bk PP 77 ((aC ah (aC ah a0)).E x) r := by
  by_cases hc : c8 x.1 ∧ c8 x.2.1
  case neg => simp only [Af, if_neg hc] at h; cases h
  simp only [Af, if_pos hc] at h
  cases h
  exact be (aw.cons (aq Vs) (aw.nil PP)) Tryz.func77 (by kernel_rfl) (by kernel_rfl) (by kernel_rfl) (Nat.le_of_ble_eq_true (by kernel_rfl)) (r1 bo) true (zp x.1 x.2.1) (ak5 x.1 x.2.1 hc.1 hc.2)
noncomputable abbrev aro : Nat × Bool × (List AV → M AV) := (77, true, dm (aC ah (aC ah a0)) Af)
noncomputable def Gv (a b : bb) : Bool := decide ((a.type.toNat : Int) = b.type.toNat) && (decide ((a.cls.toNat : Int) = b.cls.toNat) && (dk a.owner b.owner && (zp a b && zp b a)))
theorem afg (a b : bb) (ha : c8 a) (hb : c8 b) : wl PP [dg, aro] 0 (Tryz.f38.body.getD .skip) (du PP Tryz.f38.results.toList (fun r st => (r1 bo).get true st.h r = some (Gv a b))) (cq 0 [ah.val false a, ah.val false b]) (bm []) := by
  unfold Tryz.f38
  simp only [jq]
  unfold Gv
  simp only [↓wR, RA, simprocAttr, TF, ag]
  rw [c7]; refine ⟨fun ⟨h1, e1⟩ => ?_, fun ⟨h1, e1⟩ => ?_⟩
  · rw [decide_eq_true e1, Bool.true_and]
    simp only [↓wR, RA, simprocAttr, TF, ag, h1]
    rw [c7]; refine ⟨fun ⟨h2, e2⟩ => ?_, fun ⟨h2, e2⟩ => ?_⟩
    · rw [decide_eq_true e2, Bool.true_and]
      simp only [↓wR, RA, simprocAttr, TF, ag, h2, gi, ha.owner, hb.owner]
      rw [cp]; refine ⟨fun h3 => ?_, fun h3 => ?_⟩
      · rw [h3, Bool.true_and]
        simp only [↓wR, RA, simprocAttr, TF, ag, h3, Af, ha, hb]
        rw [cp]; refine ⟨fun h4 => ?_, fun h4 => ?_⟩
        · rw [h4, Bool.true_and]
          simp only [↓wR, RA, simprocAttr, TF, ag, h4, Af, ha, hb]
        · rw [h4, Bool.false_and]
          simp only [↓wR, RA, simprocAttr, TF, ag, h4]
      · rw [h3, Bool.false_and]
        simp only [↓wR, RA, simprocAttr, TF, ag, h3]
    · rw [decide_eq_false e2, Bool.false_and]
      simp only [↓wR, RA, simprocAttr, TF, ag, h2]
  · rw [decide_eq_false e1, Bool.false_and]
    simp only [↓wR, RA, simprocAttr, TF, ag, h1]
noncomputable def F2 (x : bb × bb × Unit) : Option AV := if c8 x.1 ∧ c8 x.2.1 then some ((r1 bo).E true (Gv x.1 x.2.1)) else none
set_option maxRecDepth 2000000 in
theorem aen (x : bb × bb × Unit) (r : AV) (h : F2 x = some r) : bk PP 38 ((aC ah (aC ah a0)).E x) r := by
  by_cases hc : c8 x.1 ∧ c8 x.2.1
  case neg => simp only [F2, if_neg hc] at h; cases h
  simp only [F2, if_pos hc] at h
  cases h
  exact be (aw.cons (aq ee) (aw.cons (aq ab9) (aw.nil PP))) Tryz.func38 (by kernel_rfl) (by kernel_rfl) (by kernel_rfl) (Nat.le_of_ble_eq_true (by kernel_rfl)) (r1 bo) true (Gv x.1 x.2.1) (afg x.1 x.2.1 hc.1 hc.2)
noncomputable abbrev atj : Nat × Bool × (List AV → M AV) := (38, true, dm (aC ah (aC ah a0)) F2)
noncomputable def C3 (a b : bb) : Bool := decide ((a.n9.toNat : Int) = b.n9.toNat) && Gv a b
theorem aoz (a b : bb) (ha : c8 a) (hb : c8 b) : wl PP [atj] 0 (Tryz.f12.body.getD .skip) (du PP Tryz.f12.results.toList (fun r st => (r1 bo).get true st.h r = some (C3 a b))) (cq 0 [ah.val false a, ah.val false b]) (bm []) := by
  unfold Tryz.f12
  simp only [jq]
  unfold C3
  simp only [↓wR, RA, simprocAttr, TF, ag]
  rw [c7]; refine ⟨fun ⟨h1, e1⟩ => ?_, fun ⟨h1, e1⟩ => ?_⟩
  · rw [decide_eq_true e1, Bool.true_and]
    simp only [↓wR, RA, simprocAttr, TF, ag, h1, F2, ha, hb]
  · rw [decide_eq_false e1, Bool.false_and]
    simp only [↓wR, RA, simprocAttr, TF, ag, h1]
noncomputable def xr (x : bb × bb × Unit) : Option AV := if c8 x.1 ∧ c8 x.2.1 then some ((r1 bo).E true (C3 x.1 x.2.1)) else none
set_option maxRecDepth 2000000 in
theorem aee (x : bb × bb × Unit) (r : AV) (h : xr x = some r) : bk PP 12 ((aC ah (aC ah a0)).E x) r := by
  by_cases hc : c8 x.1 ∧ c8 x.2.1
  case neg => simp only [xr, if_neg hc] at h; cases h
  simp only [xr, if_pos hc] at h
  cases h
  exact be (aw.cons (aq aen) (aw.nil PP)) Tryz.func12 (by kernel_rfl) (by kernel_rfl) (by kernel_rfl) (Nat.le_of_ble_eq_true (by kernel_rfl)) (r1 bo) true (C3 x.1 x.2.1) (aoz x.1 x.2.1 hc.1 hc.2)
noncomputable abbrev ak6 : Nat × Bool × (List AV → M AV) := (12, true, dm (aC ah (aC ah a0)) xr)
theorem amx (a : List UInt8) : Oz a a = 0 := by
  unfold Oz
  induction a with
  | nil => rfl
  | cons a r ih => rw [Lib.compareBytes, if_neg (UInt8.lt_irrefl a), if_neg (UInt8.lt_irrefl a)]; exact ih
theorem aiy {t : UInt16} {d : c0} (h : eu t d = 0) : D3 t d d = true := by
  unfold D3 Jh
  rw [decide_eq_true h, Bool.and_self, Bool.true_and, amx, ite_self]; rfl
theorem adz {s : bb} (h : ∀ d ∈ s.data, eu s.type d = 0) : zp s s = true :=
  List.all_eq_true.2 fun d hd => List.any_eq_true.2 ⟨d, hd, aiy (h d hd)⟩
theorem ai1 {s : bb} (h : ∀ d ∈ s.data, eu s.type d = 0) : C3 s s = true := by
  unfold C3 Gv
  rw [adz h, show dk s.owner s.owner = true from decide_eq_true rfl]
  simp
end Go.Proofs.YtidomogemfchpaaGreat
end
section
namespace Go.Proofs.YtidomogemfchpaaGreat
open Go.Vm
theorem ahi : ∀ a : List UInt8, Lib.compareBytes a a = 0
  | [] => rfl
  | a :: r => by rw [Lib.compareBytes, if_neg (UInt8.lt_irrefl a), if_neg (UInt8.lt_irrefl a)]; exact ahi r
theorem agc : ∀ a b : List UInt8, Lib.compareBytes a b = 0 → a = b
  | [], [], _ => rfl
  | [], _ :: _, h => by cases h
  | _ :: _, [], h => by cases h
  | a :: r, b :: q, h => by
    rw [Lib.compareBytes] at h
    split at h
    · cases h
    · rename_i h1
      split at h
      · cases h
      · rename_i h2
        rw [UInt8.lt_iff_toNat_lt] at h1 h2
        rw [UInt8.toNat_inj.1 (show a.toNat = b.toNat by omega), agc r q h]
theorem aar : ∀ a b c : List UInt8, Lib.compareBytes a b < 0 → Lib.compareBytes b c < 0 → Lib.compareBytes a c < 0
  | _, [], [], _, h => by cases h
  | _, _ :: _, [], _, h => by cases h
  | [], _, _ :: _, _, _ => by show (-1 : Int) < 0; decide
  | _ :: _, [], _ :: _, h, _ => by cases h
  | a :: r, b :: q, c :: p, h1, h2 => by
    have ih := aar r q p
    rw [Lib.compareBytes] at h1 h2 ⊢
    simp only [UInt8.lt_iff_toNat_lt] at h1 h2 ⊢
    split at h1
    · split at h2
      · rw [if_pos (by omega)]; decide
      · split at h2
        · cases h2
        · rw [if_pos (by omega)]; decide
    · split at h1
      · cases h1
      · split at h2
        · rw [if_pos (by omega)]; decide
        · split at h2
          · cases h2
          · rw [if_neg (by omega), if_neg (by omega)]; exact ih h1 h2
theorem am9 (a : ByteArray) : z5 a a = 0 := ahi _
theorem akn {a b : ByteArray} (h : z5 a b = 0) : a = b := by
  have := agc _ _ h
  obtain ⟨⟨a⟩⟩ := a
  obtain ⟨⟨b⟩⟩ := b
  simp only at this
  rw [this]
noncomputable def rj : List ByteArray → List ByteArray → Int
  | [], [] => 0
  | [], _ :: _ => -1
  | _ :: _, [] => 1
  | a :: r, b :: q => if a = b then rj r q else z5 a b
theorem Vv : ∀ r q : List ByteArray, rj r q = 0 ↔ r = q
  | [], [] => by simp [rj]
  | [], _ :: _ => by simp [rj]
  | _ :: _, [] => by simp [rj]
  | a :: r, b :: q => by
    rw [rj]
    split
    · rename_i h; rw [Vv r q, h]; simp
    · rename_i h
      constructor
      · intro e; exact (h (akn e)).elim
      · intro e; exact (h (List.cons.inj e).1).elim
theorem Tx : ∀ r q p : List ByteArray, rj r q < 0 → rj q p < 0 → rj r p < 0
  | _, [], [], _, h => by rw [rj] at h; cases h
  | _, _ :: _, [], _, h => by rw [rj] at h; cases h
  | [], _, _ :: _, _, _ => by rw [rj]; decide
  | _ :: _, [], _ :: _, h, _ => by rw [rj] at h; cases h
  | a :: r, b :: q, c :: p, h1, h2 => by
    have ih := Tx r q p
    rw [rj] at h1 h2 ⊢
    by_cases e1 : a = b
    · subst e1
      rw [if_pos rfl] at h1
      by_cases e2 : a = c
      · rw [if_pos e2] at h2 ⊢; exact ih h1 h2
      · rw [if_neg e2] at h2 ⊢; exact h2
    · rw [if_neg e1] at h1
      by_cases e2 : b = c
      · subst e2
        rw [if_neg e1]; exact h1
      · rw [if_neg e2] at h2
        have h3 : z5 a c < 0 := aar _ _ _ h1 h2
        rw [if_neg (fun e => by rw [e, am9] at h3; cases h3)]; exact h3
theorem adq : ∀ r q : List ByteArray, (if ed r q = r.length ∧ ed r q = q.length then (0 : Int) else if ed r q = r.length then -1 else if ed r q = q.length then 1 else
    match r[ed r q]?, q[ed r q]? with | some x, some y => z5 (fold x) (fold y) | _, _ => 0) = rj (r.map fold) (q.map fold)
  | [], [] => by simp [ed, rj]
  | [], _ :: _ => by simp [ed, rj]
  | _ :: _, [] => by simp [ed, rj]
  | a :: r, b :: q => by
    have ih := adq r q
    rw [List.map_cons, List.map_cons, rj]
    by_cases e : fold a = fold b
    · rw [if_pos e, ← ih]
      have hc : ed (a :: r) (b :: q) = ed r q + 1 := by rw [ed, if_pos e]
      simp only [hc, List.length_cons, Nat.add_right_cancel_iff, List.getElem?_cons_succ]
    · rw [if_neg e]
      have hc : ed (a :: r) (b :: q) = 0 := by rw [ed, if_neg e]
      simp only [hc, List.length_cons, List.getElem?_cons_zero]
      rw [if_neg (by omega), if_neg (by omega), if_neg (by omega)]
theorem Gn (a b : Name) : vy a b = rj (gm a).reverse (gm b).reverse := by
  have h := adq a.reverse b.reverse
  rw [List.map_reverse, List.map_reverse, List.length_reverse, List.length_reverse] at h
  unfold vy
  change _ = rj (a.map fold).reverse (b.map fold).reverse
  rw [← h]
  have hk : common a b = ed a.reverse b.reverse := rfl
  rw [hk]
  by_cases h1 : ed a.reverse b.reverse = a.length ∧ ed a.reverse b.reverse = b.length
  · rw [if_pos h1, if_pos h1]
  rw [if_neg h1, if_neg h1]
  by_cases h2 : ed a.reverse b.reverse = a.length
  · rw [if_pos h2, if_pos h2]
  rw [if_neg h2, if_neg h2]
  by_cases h3 : ed a.reverse b.reverse = b.length
  · rw [if_pos h3, if_pos h3]
  rw [if_neg h3, if_neg h3]
  have l1 := Dc a.reverse b.reverse
  have l2 := Hy a.reverse b.reverse
  rw [List.length_reverse] at l1 l2
  unfold aja
  rw [List.getElem?_reverse (by omega), List.getElem?_reverse (by omega)]
  rfl
theorem Ju {a b : Name} : vy a b = 0 ↔ dk a b = true := by
  rw [Gn, Vv, kl]
  constructor
  · intro h; have := congrArg List.reverse h; simpa using this
  · intro h; rw [h]
theorem ai0 {a b c : Name} (h : dk b c = true) : vy a b = vy a c := by rw [Gn, Gn, kl.1 h]
theorem ae8 {a b c : Name} (h : dk a b = true) : vy a c = vy b c := by rw [Gn, Gn, kl.1 h]
theorem ajs {a b c : Name} (h1 : vy a b < 0) (h2 : vy b c < 0) : vy a c < 0 := by rw [Gn] at *; exact Tx _ _ _ h1 h2
theorem af5 {a b : UInt16} : Kv a b < 0 ↔ a.toNat < b.toNat := by
  unfold Kv
  split
  · constructor <;> intro <;> omega
  · split <;> constructor <;> intro <;> omega
theorem Nh {a b : bb} : qh a b < 0 ↔ vy a.owner b.owner < 0 ∨ (dk a.owner b.owner = true ∧ a.type.toNat < b.type.toNat) := by
  unfold qh
  rw [Kj]
  by_cases h : vy a.owner b.owner = 0
  · rw [if_neg (fun q => q h), Kj, ← Ju]
    by_cases h2 : Kv a.type b.type = 0
    · rw [if_neg (fun q => q h2), Kj, ← af5, h, h2]; simp
    · rw [if_pos h2, af5, h]; simp
  · rw [if_pos h, ← Ju]; simp [h]
theorem aju {a b c : bb} (h1 : qh a b < 0) (h2 : qh b c < 0) : qh a c < 0 := by
  rw [Nh] at *
  rcases h1 with h1 | ⟨h1, t1⟩ <;> rcases h2 with h2 | ⟨h2, t2⟩
  · exact .inl (ajs h1 h2)
  · exact .inl (by rw [← ai0 h2]; exact h1)
  · exact .inl (by rw [ae8 h1]; exact h2)
  · exact .inr ⟨kl.2 ((kl.1 h1).trans (kl.1 h2)), by omega⟩
def Rr (a b : bb) : Prop := ¬ (dk a.owner b.owner = true ∧ a.type = b.type)
theorem apy {a b : bb} (h : qh a b < 0) : Rr a b := fun ⟨h1, h2⟩ => by
  rcases Nh.1 h with h3 | ⟨_, h3⟩
  · rw [Ju.2 h1] at h3; omega
  · rw [h2] at h3; omega
theorem aeq {z : bf} (hg : H9 z) : z.aj.Pairwise fun a b => qh a b < 0 := by
  rw [List.pairwise_iff_getElem]
  have step : ∀ (i : Nat) (h : i + 1 < z.aj.length), qh z.aj[i] z.aj[i + 1] < 0 := fun i h => by
    have := hg.avl (i + 1) z.aj[i + 1] (List.getElem?_eq_getElem h)
    unfold j3 at this
    simp only [List.getElem?_eq_getElem (show i < z.aj.length by omega), Bool.and_eq_true, decide_eq_true_eq] at this
    omega
  intro i j hi hj hij
  induction j with
  | zero => omega
  | succ j ih =>
    by_cases e : i = j
    · subst e; exact step i hj
    · exact aju (ih (by omega) (by omega)) (step j hj)
theorem Rx {z : bf} (hg : H9 z) : z.aj.Pairwise Rr := (aeq hg).imp apy
theorem ap5 {z : bf} (hg : H9 z) {a b : bb} (ha : a ∈ z.aj) (hb : b ∈ z.aj) (h : dk a.owner b.owner = true) (ht : a.type = b.type) : a = b := by
  obtain ⟨i, hi, rfl⟩ := List.getElem_of_mem ha
  obtain ⟨j, hj, rfl⟩ := List.getElem_of_mem hb
  have hp := List.pairwise_iff_getElem.1 (Rx hg)
  rcases Nat.lt_trichotomy i j with q | q | q
  · exact (hp i j hi hj q ⟨h, ht⟩).elim
  · subst q; rfl
  · exact (hp j i hj hi q ⟨Jv h, ht.symm⟩).elim
end Go.Proofs.YtidomogemfchpaaGreat
end
section
set_option linter.unusedSimpArgs false
set_option linter.unusedVariables false
namespace Go.Proofs.YtidomogemfchpaaGreat
open Go.Vm
set_option maxRecDepth 2000000
noncomputable abbrev awake18 : Nat × Bool × (List AV → M AV) := (8, true, dm a0 (fun _ => some (.sc (.bool true))))
end Go.Proofs.YtidomogemfchpaaGreat
end
section
set_option linter.unusedSimpArgs false
set_option linter.unusedVariables false
namespace Go.Proofs.YtidomogemfchpaaGreat
open Go.Vm
set_option maxRecDepth 2000000
def tv (l : List bb) (n : Name) : Bool := l.any fun s => s.data.any fun d => d.names.any fun m => dk m n
set_option maxHeartbeats 4000000 in
theorem aot (l : List bb) (n : Name) (hok : y9 l = true) (hn : bd n) : wl PP [dg] 0 (Tryz.f13.body.getD .skip) (du PP Tryz.f13.results.toList (fun r st => (r1 bo).get true st.h r = some (tv l n))) (cq 0 [(ct ah).val false l, ar.val false n]) (bm []) := by
  have hll := ai2 hok
  have hnm := fun s hs => (akc hok s hs).2
  unfold Tryz.f13
  simp only [db]
  simp only [↓wR, RA, simprocAttr, TF, ag]
  refine dy [0, 1, 5] (fun (i : Nat) => [.vl false 5 (l.map (ah.val false)), .vl false 1 (n.map (ak.val false)), .sc (.int .i64 (i))]) (fun _ => []) (fun i => i ≤ l.length ∧ tv l n = tv (l.drop i) n) (fun i => l.length - i) 0 ⟨Nat.zero_le _, rfl⟩ (by simp only [↓wR, RA, simprocAttr, TF, ag] <;> rfl) (by simp only [↓wR, RA, simprocAttr, TF, ag] <;> rfl) ?_
  rintro i ⟨hi, hx⟩
  simp only [↓wR, RA, simprocAttr, TF, ag]
  rw [b9]; refine ⟨fun h => ?_, fun h => ?_⟩
  · obtain ⟨c, hc, hd1, hlt⟩ := ec (decide_eq_true h)
    rw [hd1, tv, tv, List.any_cons] at hx
    obtain ⟨hcd, hcn⟩ := hnm c (List.mem_of_getElem? hc)
    simp only [↓wR, RA, simprocAttr, TF, ag, h]; repeat (simp (disch := omega) only [ai, cd, ca, cf, cb]; try simp only [↓wR, RA, simprocAttr, TF, ag, h])
    refine dy [0, 1, 5, 6] (fun (k : Nat) => [.vl false 5 (l.map (ah.val false)), .vl false 1 (n.map (ak.val false)), .sc (.int .i64 (i)), .sc (.int .i64 (k))]) (fun _ => []) (fun k => k ≤ c.data.length ∧ (c.data.any fun d => d.names.any fun m => dk m n) = ((c.data.drop k).any fun d => d.names.any fun m => dk m n)) (fun k => c.data.length - k) 0 ⟨Nat.zero_le _, rfl⟩ (by simp only [↓wR, RA, simprocAttr, TF, ag] <;> rfl) (by simp only [↓wR, RA, simprocAttr, TF, ag] <;> rfl) ?_
    rintro k ⟨hk, hy⟩
    simp only [↓wR, RA, simprocAttr, TF, ag, hc]
    rw [b9]; refine ⟨fun h2 => ?_, fun h2 => ?_⟩
    · obtain ⟨d, hd, hd2, hlt2⟩ := ec (decide_eq_true h2)
      rw [hd2, List.any_cons] at hy
      obtain ⟨hdl, hdn⟩ := hcn d (List.mem_of_getElem? hd)
      simp only [↓wR, RA, simprocAttr, TF, ag, h2, hc, hd]; repeat (simp (disch := omega) only [ai, cd, ca, cf, cb]; try simp only [↓wR, RA, simprocAttr, TF, ag, h2, hc, hd])
      refine dy [0, 1, 5, 6, 7, 8] (fun (m : Nat) => [.vl false 5 (l.map (ah.val false)), .vl false 1 (n.map (ak.val false)), .sc (.int .i64 (i)), .sc (.int .i64 (k)), .ptr 0 0, .sc (.int .i64 (m))]) (fun _ => [some (.row [.vl false 1 (d.names.map (ar.val false)), .vl false 1 (d.nums.map (dh.val false)), .vl false 1 (d.texts.map (ak.val false)), .vl false 1 (d.raw.map (bz.val false))] 0 2 83)]) (fun m => m ≤ d.names.length ∧ (d.names.any fun m => dk m n) = ((d.names.drop m).any fun m => dk m n)) (fun m => d.names.length - m) 0 ⟨Nat.zero_le _, rfl⟩ (by simp only [↓wR, RA, simprocAttr, TF, ag] <;> rfl) (by simp only [↓wR, RA, simprocAttr, TF, ag] <;> rfl) ?_
      rintro m ⟨hm, hz⟩
      simp only [↓wR, RA, simprocAttr, TF, ag]
      rw [b9]; refine ⟨fun h3 => ?_, fun h3 => ?_⟩
      · obtain ⟨e, he, hd3, hlt3⟩ := ec (decide_eq_true h3)
        rw [hd3, List.any_cons] at hz
        have hes := hdn e (List.mem_of_getElem? he)
        simp only [↓wR, RA, simprocAttr, TF, ag, h3, he, gi, hes, hn]; repeat (simp (disch := omega) only [ai, cd, ca, cf, cb]; try simp only [↓wR, RA, simprocAttr, TF, ag, h3, he, gi, hes, hn])
        rw [cp]; refine ⟨fun h4 => ?_, fun h4 => ?_⟩
        · rw [h4, Bool.true_or] at hz
          rw [hz, Bool.true_or] at hy
          rw [hy, Bool.true_or] at hx
          simp only [↓wR, RA, simprocAttr, TF, ag, h4]
          rw [tv, hx]
        · rw [h4, Bool.false_or] at hz
          simp only [↓wR, RA, simprocAttr, TF, ag, h4]; repeat (simp (disch := omega) only [ai, cd, ca, cf, cb]; try simp only [↓wR, RA, simprocAttr, TF, ag, h4])
          exact ⟨m + 1, ⟨hlt3, hz⟩, by omega, by (first | rfl | trivial | omega | ((try (simp (disch := omega) only [ai])); (try (simp only [FB])); first | done | rfl | omega))⟩
      · rw [fe (decide_eq_false h3), List.any_nil] at hz
        rw [hz, Bool.false_or] at hy
        simp only [↓wR, RA, simprocAttr, TF, ag, h3]; repeat (simp (disch := omega) only [ai, cd, ca, cf, cb]; try simp only [↓wR, RA, simprocAttr, TF, ag, h3])
        exact ⟨k + 1, ⟨hlt2, hy⟩, by omega, by (first | rfl | trivial | omega | ((try (simp (disch := omega) only [ai])); (try (simp only [FB])); first | done | rfl | omega))⟩
    · rw [fe (decide_eq_false h2), List.any_nil] at hy
      rw [hy, Bool.false_or] at hx
      simp only [↓wR, RA, simprocAttr, TF, ag, h2]; repeat (simp (disch := omega) only [ai, cd, ca, cf, cb]; try simp only [↓wR, RA, simprocAttr, TF, ag, h2])
      exact ⟨i + 1, ⟨hlt, hx⟩, by omega, by (first | rfl | trivial | omega | ((try (simp (disch := omega) only [ai])); (try (simp only [FB])); first | done | rfl | omega))⟩
  · rw [fe (decide_eq_false h)] at hx
    simp only [↓wR, RA, simprocAttr, TF, ag, h]
    rw [hx] <;> rfl
noncomputable def yd (x : List bb × Name × Unit) : Option AV := if y9 x.1 = true ∧ bd x.2.1 then some ((r1 bo).E true (tv x.1 x.2.1)) else none
set_option maxRecDepth 2000000 in
theorem aev (x : List bb × Name × Unit) (r : AV) (h : yd x = some r) : bk PP 13 ((aC (ct ah) (aC ar a0)).E x) r := by
  by_cases hc : y9 x.1 = true ∧ bd x.2.1
  case neg => simp only [yd, if_neg hc] at h; cases h
  simp only [yd, if_pos hc] at h
  cases h
  exact be (aw.cons (aq ee) (aw.nil PP)) Tryz.func13 (by kernel_rfl) (by kernel_rfl) (by kernel_rfl) (Nat.le_of_ble_eq_true (by kernel_rfl)) (r1 bo) true (tv x.1 x.2.1) (aot x.1 x.2.1 hc.1 hc.2)
noncomputable abbrev al6 : Nat × Bool × (List AV → M AV) := (13, true, dm (aC (ct ah) (aC ar a0)) yd)
theorem Je {z : bf} : ∀ (r pre : List Name) {y : bb}, y ∈ rz z pre r → ∃ m ∈ r, y ∈ z.aj ∧ nr m y = true ∧ ∀ p ∈ pre, dk p m = false := by
  intro r
  induction r with
  | nil => intro pre y h; cases h
  | cons n r ih =>
    intro pre y h
    rw [rz] at h
    rcases List.mem_append.1 h with h | h
    · split at h
      · cases h
      · rename_i q
        obtain ⟨h1, h2⟩ := List.mem_filter.1 h
        refine ⟨n, by simp, h1, h2, fun p hp => ?_⟩
        cases hs : dk p n with
        | false => rfl
        | true => exact (q (List.any_eq_true.2 ⟨p, hp, hs⟩)).elim
    · obtain ⟨m, h1, h2, h3, h4⟩ := ih _ h
      exact ⟨m, by simp [h1], h2, h3, fun p hp => h4 p (by simp [hp])⟩
theorem J0 {n : Name} {s : bb} (h : nr n s = true) : dk s.owner n = true := by unfold nr at h; rw [Bool.and_eq_true] at h; exact h.2
theorem aey {z : bf} (hg : H9 z) : ∀ (r pre : List Name), (rz z pre r).Pairwise Rr := by
  intro r
  induction r with
  | nil => intro pre; exact .nil
  | cons n r ih =>
    intro pre
    rw [rz, List.pairwise_append]
    refine ⟨?_, ih _, fun a ha b hb hs => ?_⟩
    · split
      · exact .nil
      · exact (Rx hg).filter _
    · split at ha
      · cases ha
      · have h1 := J0 (List.mem_filter.1 ha).2
        obtain ⟨m, _, _, h2, h3⟩ := Je _ _ hb
        have h4 := h3 n (by simp)
        have h5 : dk n m = true := Tv (Jv h1) (Tv hs.1 (J0 h2))
        rw [h4] at h5; cases h5
theorem Vq {l : List bb} {n : Name} {t : UInt16} (h : ∀ x ∈ l, ¬ ((x.type.toNat : Int) = t.toNat ∧ dk x.owner n = true)) : mu l n t = none :=
  List.find?_eq_none.2 fun x hx hp => by
    unfold qp at hp
    simp only [Bool.and_eq_true, decide_eq_true_eq] at hp
    exact h x hx ⟨hp.1, hp.2.2⟩
structure au0 (z : bf) (ans l : List bb) (i : Nat) (s : bb) : Prop where
  mem : s ∈ z.aj
  ty : (s.type.toNat : Int) = 1 ∨ (s.type.toNat : Int) = 28
  there : mu z.aj s.owner s.type = some s
  once : mu ((qf z ans l).take i) s.owner s.type = none
  new : mu ans s.owner s.type = none
  named : tv l s.owner = true
theorem afs {z : bf} (hg : H9 z) {ans l : List bb} {i : Nat} {s : bb} (h : (qf z ans l)[i]? = some s) : au0 z ans l i s := by
  have hm : s ∈ qf z ans l := List.mem_of_getElem? h
  obtain ⟨h1, h2⟩ := List.mem_filter.1 hm
  obtain ⟨m, hmr, hz, hp, _⟩ := Je _ _ h1
  have hown := J0 hp
  refine ⟨hz, ?_, ?_, ?_, ?_, ?_⟩
  · unfold nr at hp
    simp only [Bool.and_eq_true, Bool.or_eq_true, decide_eq_true_eq] at hp
    exact hp.1
  · cases hf : mu z.aj s.owner s.type with
    | none =>
      have := List.find?_eq_none.1 hf s hz
      refine (this ?_).elim
      unfold qp
      rw [decide_eq_true rfl, decide_eq_true (O6 (hg.cls s hz)).1, Ln]; rfl
    | some x =>
      obtain ⟨a1, a2, _, a4⟩ := Hj hf
      rw [ap5 hg a1 hz a4 (UInt16.toNat_inj.1 (by omega))]
  · refine Vq fun x hx hq => ?_
    obtain ⟨j, hj⟩ := List.getElem?_of_mem hx
    rw [List.getElem?_take] at hj
    split at hj
    · rename_i hlt
      have hpw : (qf z ans l).Pairwise Rr := (aey hg (ea l) []).filter _
      obtain ⟨hjl, hje⟩ := List.getElem?_eq_some_iff.1 hj
      obtain ⟨hil, hie⟩ := List.getElem?_eq_some_iff.1 h
      have := List.pairwise_iff_getElem.1 hpw j i hjl hil hlt
      rw [hje, hie] at this
      exact this ⟨hq.2, UInt16.toNat_inj.1 (by omega)⟩
    · cases hj
  · refine Vq fun x hx hq => ?_
    have h3 : r8 ans s = true := List.any_eq_true.2 ⟨x, hx, by rw [decide_eq_true hq.1, hq.2]; rfl⟩
    rw [h3] at h2; cases h2
  · obtain ⟨y, hy, hym⟩ := List.mem_flatMap.1 hmr
    unfold oj at hym
    split at hym
    · obtain ⟨d, hd, hdm⟩ := List.mem_flatMap.1 hym
      exact List.any_eq_true.2 ⟨y, hy, List.any_eq_true.2 ⟨d, hd, List.any_eq_true.2 ⟨m, hdm, Jv hown⟩⟩⟩
    · cases hym
theorem Qr {a b : List bb} {n : Name} (hs : ∀ s ∈ a, s ∈ b) (h : tv a n = true) : tv b n = true := by
  obtain ⟨s, h1, h2⟩ := List.any_eq_true.1 h
  exact List.any_eq_true.2 ⟨s, hs s h1, h2⟩
theorem aiz {z : bf} {n : Name} {t : UInt16} (h : fv z n = 0) {r : vm} (hr : fw z t 16 n [] [] = r) {i : Nat} {s : bb} (hs : r.ef[i]? = some s) :
    s ∈ z.aj ∧ ((s.type.toNat : Int) = 1 ∨ (s.type.toNat : Int) = 28) ∧ mu z.aj s.owner s.type = some s ∧ mu (r.ef.take i) s.owner s.type = none ∧ mu r.answer s.owner s.type = none ∧ tv (r.answer ++ r.authority) s.owner = true := by
  obtain ⟨a1, a2, a3⟩ := px h
  have hg := H5 a1
  obtain ⟨cs, tl, e, i1, i2, i4, i3⟩ := ac7 (t := t) 16 n [] [] h
  rw [hr] at i1 i3
  rw [List.nil_append] at i1
  rcases i3 with ⟨_, _, q3, _⟩ | ⟨_, _, _, _, _, _, q7⟩ | ⟨_, _, _, q4, _⟩ | ⟨q1, y, c, q2, hy, ht, hc, ho, _, _, q9⟩
  · rw [q3] at hs; cases hs
  · rw [List.nil_append] at q7
    rw [q7] at hs ⊢
    obtain ⟨b1, b2, b3, b4, b5, b6⟩ := afs hg hs
    refine ⟨b1, b2, b3, b4, by rw [i1]; exact b5, Qr (fun x hx => ?_) b6⟩
    rw [i1]; simp [hx]
  · rw [q4] at hs; cases hs
  · rw [List.nil_append] at q9
    rw [q9] at hs ⊢
    obtain ⟨b1, b2, b3, b4, b5, b6⟩ := afs hg hs
    refine ⟨b1, b2, b3, b4, by rw [i1, q1, List.append_nil]; exact b5, Qr (fun x hx => ?_) b6⟩
    rw [q2]; simp only [List.mem_singleton] at hx; simp [hx]
theorem atu {α : Type} (f : α → Nat) (k : Nat) (l : List α) (h : ∀ x ∈ l, f x ≤ k) : gh f l ≤ l.length * (k + 1) + gh f [] := by
  induction l with
  | nil => simp
  | cons a l ih =>
    have h1 := ih (fun x hx => h x (by simp [hx]))
    have h2 := h a (by simp)
    simp only [gh, List.foldr_cons, List.foldr_nil, List.length_cons, Nat.succ_mul] at h1 ⊢
    omega
theorem afp {s y : bb} {n : Name} (hy : nk y ≤ 8388608) (hs : nk s ≤ 8388608 ∨ s.owner = n) (hd : s.data = y.data) (hn : bj n ≤ 4194304) : c8 s := by
  rcases hs with h | h
  · unfold c8; omega
  · unfold c8 nk
    unfold nk at hy
    rw [h, hd]; omega
theorem amm {z : bf} {t : UInt16} {n e : Name} {cs : List bb} (hz : ∀ s ∈ z.aj, nk s ≤ 8388608) (h : w8 z t n cs e) : bj n ≤ 4194304 → bj e ≤ 4194304 ∧ ∀ s ∈ cs, c8 s := by
  induction h with
  | nil n => intro hn; exact ⟨hn, fun s hs => by cases hs⟩
  | @cons n m e s l h hr ih =>
    intro hn
    have hm : bj m ≤ 4194304 := by have := qm h.err; omega
    obtain ⟨h1, h2⟩ := ih hm
    obtain ⟨y, hy, hyd, _⟩ := h.dat
    refine ⟨h1, fun q hq => ?_⟩
    rcases List.mem_cons.1 hq with rfl | hq
    · exact afp (hz y hy) (h.zon.elim .inr (fun e => .inl (hz q e))) hyd hn
    · exact h2 q hq
theorem aff {s : bb} (h : c8 s) : S8 s = true := aoi h rfl h.owner
theorem ams {z : bf} {t : UInt16} {n : Name} (hz : ∀ s ∈ z.aj, nk s ≤ 8388608) (hn : bj n ≤ 4194304) (h : fv z n = 0) {r : vm} (hr : fw z t 16 n [] [] = r) :
    (r.ef ≠ [] → (∀ s ∈ r.answer ++ r.authority, c8 s) ∧ r.authority.length ≤ 1) ∧ r.answer.length ≤ 2064 ∧ r.ef.length ≤ 281474976710656 ∧ (∀ s ∈ r.ef, c8 s) := by
  obtain ⟨a1, a2, a3⟩ := px h
  have hzl := Hw a1
  obtain ⟨cs, tl, e, i1, i2, i4, i3⟩ := ac7 (t := t) 16 n [] [] h
  rw [hr] at i1 i3
  rw [List.nil_append] at i1
  obtain ⟨hes, hcs⟩ := amm hz i2 hn
  have hal : r.answer.length ≤ 2064 := by rw [i1, List.length_append]; omega
  have hsm : ∀ s ∈ z.aj, c8 s := fun s hs => by have := hz s hs; unfold c8; omega
  have key : ∀ ans l : List bb, l.length ≤ 2048 → (∀ s ∈ l, c8 s) → (qf z ans l).length ≤ 281474976710656 ∧ ∀ s ∈ qf z ans l, c8 s := fun ans l hl hls => by
    have h1 : (qf z ans l).length ≤ (A6 z (ea l)).length := List.length_filter_le _ _
    have h2 := Jl z (ea l) []
    have h3 := wi bj (ea l)
    have h4 := B8 l
    have h5 := atu nk 16777216 l hls
    have h6 : gh nk ([] : List bb) ≤ 1 := by decide
    have h7 : (ea l).length ≤ 2048 * 16777217 + 1 := by omega
    have h8 : (ea l).length * z.aj.length ≤ (2048 * 16777217 + 1) * 2048 := Nat.mul_le_mul h7 hzl
    refine ⟨?_, fun s hs => ?_⟩
    · unfold A6 at h1; omega
    · obtain ⟨m, _, hz', _⟩ := Je _ _ (List.mem_filter.1 hs).1
      exact hsm s hz'
  rcases i3 with ⟨_, _, q3, _⟩ | ⟨_, q2, _, q5, _, _, q7⟩ | ⟨_, _, _, q4, _⟩ | ⟨q1, y, c, q2, hy, ht, hc, ho, _, _, q9⟩
  · exact ⟨fun q => (q q3).elim, hal, by rw [q3]; exact Nat.zero_le _, by rw [q3]; intro s hs; cases hs⟩
  · have htl : ∀ s ∈ tl, c8 s := fun s hs => by
      obtain ⟨_, p2, y, hy, hyd, _⟩ := q2 s hs
      exact afp (hz y hy) (p2.elim .inr (fun e => .inl (hz s e))) hyd hes
    obtain ⟨k1, k2⟩ := key ([] ++ cs ++ tl) tl (by omega) htl
    rw [q7, q5, i1, List.append_nil]
    refine ⟨fun _ => ⟨fun s hs => ?_, Nat.zero_le _⟩, by rw [← i1]; exact hal, k1, k2⟩
    rcases List.mem_append.1 hs with hs | hs
    · exact hcs s hs
    · exact htl s hs
  · exact ⟨fun q => (q q4).elim, hal, by rw [q4]; exact Nat.zero_le _, by rw [q4]; intro s hs; cases hs⟩
  · obtain ⟨k1, k2⟩ := key ([] ++ cs) [y] (by simp) (fun s hs => by rw [List.mem_singleton] at hs; rw [hs]; exact hsm y hy)
    rw [q9, q2, i1, q1, List.append_nil]
    refine ⟨fun _ => ⟨fun s hs => ?_, Nat.le_refl _⟩, by rw [q1, List.append_nil] at i1; rw [← i1]; exact hal, k1, k2⟩
    rcases List.mem_append.1 hs with hs | hs
    · exact hcs s hs
    · rw [List.mem_singleton] at hs; rw [hs]; exact hsm y hy
theorem Sx (fr h k st et) (n : Nat) (a b : List bb) (hn : n = a.length + b.length) : lj ah fr h 0 n (.row (cellsOf ah true a ++ cellsOf ah true b) k st et) = some (a ++ b) := by
  rw [← w4]
  exact vk ah fr h true (a ++ b) k st et n (by rw [hn, List.length_append]) rfl
set_option maxHeartbeats 8000000 in
theorem ark (z : bf) (n : Name) (t : UInt16) (hz : cx z) (hz2 : ∀ s ∈ z.aj, nk s ≤ 8388608) (hn2 : bj n ≤ 4194304) : wl PP [awake18, aur, aOf, Dn, ak6, al6] 0 (Tryz.f3.body.getD .skip) (du PP Tryz.f3.results.toList (fun r st => (r1 bo).get true st.h r = some true)) (cq 0 [cy.val false z, ar.val false n, cz.val false t]) (bm []) := by
  have hzl := hz.len
  have hn : bd n := by unfold bd; omega
  unfold Tryz.f3
  simp only [iz, db]
  simp only [↓wR, RA, simprocAttr, TF, ag, Th, hz]
  rw [cp]; refine ⟨fun h1 => ?_, fun h1 => ?_⟩
  · have h1' : Ox z = false := by simpa only [Bool.not_eq_true'] using h1
    simp only [↓wR, RA, simprocAttr, TF, ag, h1, h1']
  have h1' : Ox z = true := by simpa only [Bool.not_eq_false'] using h1
  by_cases he : (lr z n t).2 = 0
  case neg =>
    have ho : Ew z n t = (pk 0 false [] [] [], (lr z n t).2) := by unfold Ew; rw [if_pos he]
    have hb : ((lr z n t).2 != 0) = true := by simpa using he
    simp only [↓wR, RA, simprocAttr, TF, ag, h1, h1', T2, hz, hn, ho, hb]
  obtain ⟨q1, q2, q3, q4⟩ := J2 he
  obtain ⟨a1, a2, a3⟩ := px q1
  have ho : Ew z n t = (fw z t 16 n [] [], 0) := by unfold Ew; rw [if_neg (by omega)]
  rcases hch : fw z t 16 n [] [] with ⟨rc, aa, an, au, ad⟩
  rw [hch] at ho
  have hadd := fun i s (h : ad[i]? = some s) => aiz q1 hch (i := i) (s := s) h
  obtain ⟨c1, c2, c3, c4⟩ := ams hz2 hn2 q1 hch
  simp only at hadd c1 c2 c3 c4
  have hq : ∀ a b c d, g7 a b c = d → g7 a b c = d := fun _ _ _ _ h => h
  simp only [↓wR, RA, simprocAttr, TF, ag, h1, h1', T2, hz, hn, ho, bne_self_eq_false]
  refine dy [3, 7, 8, 10] (fun (i : Nat) => [.ptr 0 0, .sc (.bool true), .ptr 1 0, .sc (.int .i64 (i))]) (fun _ => [some (.row [.vl false 1 (z.origin.map (ak.val false)), .vl false 5 (z.aj.map (ah.val false))] 0 2 26), some (.row [.sc (.int .i64 rc), .sc (.bool aa), .vl true 5 (an.map (ah.val true)), .vl true 5 (au.map (ah.val true)), .vl true 5 (ad.map (ah.val true))] 0 2 32)]) (fun i => i ≤ ad.length) (fun i => ad.length - i) 0 (Nat.zero_le _) (by simp only [↓wR, RA, simprocAttr, TF, ag] <;> rfl) (by simp only [↓wR, RA, simprocAttr, TF, ag] <;> rfl) ?_
  intro i hi
  simp only [↓wR, RA, simprocAttr, TF, ag]
  rw [b9]; refine ⟨fun h => ?_, fun h => ?_⟩
  · obtain ⟨s, hs, hd1, hlt⟩ := ec (decide_eq_true h)
    obtain ⟨m1, m2, m3, m4, m5, m6⟩ := hadd i s hs
    obtain ⟨c5, c6⟩ := c1 (fun q => by rw [q] at hs; cases hs)
    have hss := hz.set s m1
    have hso := hss.owner
    have hmi : O7 (ad.take i) := ⟨by rw [List.length_take]; omega, fun x hx => c4 x (List.mem_of_mem_take hx)⟩
    have hma : O7 an := ⟨by omega, fun x hx => c5 x (by simp [hx])⟩
    have hok : y9 (an ++ au) = true := by
      unfold y9
      rw [Bool.and_eq_true]
      exact ⟨decide_eq_true (by rw [List.length_append]; omega), List.all_eq_true.2 fun x hx => aff (c5 x hx)⟩
    have hsame : C3 s s = true := ai1 (Rc (Be a1 s m1))
    simp only [↓wR, RA, simprocAttr, TF, ag, h, hs, ql, hz.mid, hso, m3]; repeat (simp (disch := omega) only [ai, cd, ca, cf, cb]; try simp only [↓wR, RA, simprocAttr, TF, ag, h, hs, ql, hz.mid, hso, m3])
    refine ⟨by kernel_rfl, .inl ?_⟩
    have hil : (ad.take i).length = i := by rw [List.length_take]; omega
    have hi' : i ≤ ad.length := by omega
    simp only [↓wR, RA, simprocAttr, TF, ag, hi', ql, hmi, hso, m4, Option.getD_none, Option.isSome_none]; repeat (simp (disch := omega) only [ai, cd, ca, cf, cb]; try simp only [↓wR, RA, simprocAttr, TF, ag, hi', ql, hmi, hso, m4, Option.getD_none, Option.isSome_none])
    refine ⟨by apply hq; kernel_rfl, ?_⟩
    simp only [↓wR, RA, simprocAttr, TF, ag, ql, hma, hso, m5, Option.getD_none, Option.isSome_none]; repeat (simp (disch := omega) only [ai, cd, ca, cf, cb]; try simp only [↓wR, RA, simprocAttr, TF, ag, ql, hma, hso, m5, Option.getD_none, Option.isSome_none])
    refine ⟨by kernel_rfl, .inl ?_⟩
    have hl1 : (0 + an.length * 5) * 64 ≤ 140737488355328 := by omega
    have hl2 : (an.length * 5 + au.length * 5) * 64 ≤ 140737488355328 := by omega
    rcases m2 with e | e
    · have b1 : ((s.type.toNat : Int) != 1) = false := by rw [e]; rfl
      simp only [↓wR, RA, simprocAttr, TF, ag, b1, xr, hss, hsame, hl1, hl2, yd, hok, hso, m6, Sx]; repeat (simp (disch := omega) only [ai, cd, ca, cf, cb]; try simp only [↓wR, RA, simprocAttr, TF, ag, b1, xr, hss, hsame, hl1, hl2, yd, hok, hso, m6, Sx])
      exact ⟨by apply hq; kernel_rfl, i + 1, hlt, by omega, by (first | rfl | trivial | omega | ((try (simp (disch := omega) only [ai])); (try (simp only [FB])); first | done | rfl | omega))⟩
    · have b1 : ((s.type.toNat : Int) != 1) = true := by rw [e]; rfl
      have b2 : ((s.type.toNat : Int) != 28) = false := by rw [e]; rfl
      simp only [↓wR, RA, simprocAttr, TF, ag, b1, b2, xr, hss, hsame, hl1, hl2, yd, hok, hso, m6, Sx]; repeat (simp (disch := omega) only [ai, cd, ca, cf, cb]; try simp only [↓wR, RA, simprocAttr, TF, ag, b1, b2, xr, hss, hsame, hl1, hl2, yd, hok, hso, m6, Sx])
      exact ⟨by apply hq; kernel_rfl, i + 1, hlt, by omega, by (first | rfl | trivial | omega | ((try (simp (disch := omega) only [ai])); (try (simp only [FB])); first | done | rfl | omega))⟩
  · simp only [↓wR, RA, simprocAttr, TF, ag, h]
end Go.Proofs.YtidomogemfchpaaGreat
end
section
set_option linter.unusedSimpArgs false
set_option linter.unusedVariables false
namespace Go.Proofs.YtidomogemfchpaaGreat
open Go.Vm
set_option maxRecDepth 2000000
noncomputable section
def muP {α β : Type} (μ : α → Nat) (ν : β → Nat) (p : α × β) : Nat := μ p.1 + ν p.2
def Bb {α : Type} (μ : α → Nat) (l : List α) : Nat := sd μ l + 1
def Ot {α : Type} (_ : α) : Nat := 1
def muI {α β : Type} (f : β → α) (μ : α → Nat) (y : β) : Nat := μ (f y) + 1
def U0 (P : Program) (t : TypeId) : List Field := match P.underlying t with | some (.struct fs) => fs.toList | _ => []
def aty (l : List Field) : Nat := match l with | f :: _ => f.offset | [] => 0
def tyH (l : List Field) : TypeId := match l with | f :: _ => f.type | [] => 0
def aqt (l : List Field) : Bool := match l with | _ :: _ => true | [] => false
def awk (l : List Field) : Bool := match l with | [_] => true | _ => false
theorem Px {P : Program} {l : List Field} {off : Nat} {t : TypeId} {α : Type} {C : da α} {μ : α → Nat} (hl : awk l = true) (ho : aty l = off) (ht : tyH l = t) (hs : P.cellsOf t = C.sz) (h : Rd P t C μ) : W3 P l off C μ := by
  match l, hl with
  | [f], _ => subst ht; exact fun {H} => asa ho hs h
theorem ss {P : Program} {l : List Field} {off : Nat} {t : TypeId} {α β : Type} {A : da α} {B : da β} {μ : α → Nat} {ν : β → Nat} (hl : aqt l = true) (ho : aty l = off) (ht : tyH l = t) (hs : P.cellsOf t = A.sz) (h : Rd P t A μ) (hr : W3 P l.tail (off + A.sz) B ν) : W3 P l off (ig A B) (muP μ ν) := by
  match l, hl with
  | f :: fs, _ => subst ht; exact fun {H} => apb ho hs h hr
theorem H6 {P : Program} {t : TypeId} {α β : Type} {C : da α} {μ : α → Nat} {f : β → α} {i : α → β} {h1 : ∀ y, i (f y) = y} {h2 : ∀ x, f (i x) = x} (ht : aqt (U0 P t) = true) (hc : P.cellsOf t = C.sz) (h : W3 P (U0 P t) 0 C μ) : Rd P t (vi C f i h1 h2) (muI f μ) := by
  unfold U0 at ht h
  cases hu : P.underlying t with
  | none => rw [hu] at ht; cases ht
  | some d =>
    rw [hu] at ht h
    cases d with
    | struct fs => exact fun {H} => as7 (am4 hu hc h)
    | _ => cases ht
theorem xn {P : Program} {t e : TypeId} {α : Type} {C : da α} {μ : α → Nat} (ht : P.underlying t = some (.slice e)) (hsz : P.cellsOf e = C.sz) (hpos : 0 < C.sz) (he : Rd P e C μ) : Rd P t (ct C) (Bb μ) := ash ht hsz hpos he
def L5 (s : ByteArray) : Nat := s.size + 1
theorem rdS : Rd PP 9 ak L5 := at7 (by kernel_rfl)
def qc : Name → Nat := Bb L5
theorem Ql : Rd PP 23 ar qc := xn (e := 9) (by kernel_rfl) (by kernel_rfl) (by decide) rdS
theorem arc : Rd PP 22 ar qc := xn (e := 9) (by kernel_rfl) (by kernel_rfl) (by decide) rdS
theorem arv : Rd PP 76 (ct ar) (Bb qc) := xn (e := 23) (by kernel_rfl) (by kernel_rfl) (by decide) Ql
theorem as2 : Rd PP 48 (ct dh) (Bb Ot) := xn (e := 37) (by kernel_rfl) (by kernel_rfl) (by decide) (ami (by kernel_rfl))
theorem ava : Rd PP 81 (ct bz) (Bb Ot) := xn (e := 5) (by kernel_rfl) (by kernel_rfl) (by decide) (auy (by kernel_rfl))
def Gr (d : c0) : Nat := Bb qc d.names + (Bb Ot d.nums + (qc d.texts + Bb Ot d.raw)) + 1
theorem aue : Rd PP 83 bq Gr :=
  H6 (by kernel_rfl) (by kernel_rfl) (ss (by kernel_rfl) (by kernel_rfl) (by kernel_rfl) (by kernel_rfl) arv (ss (by kernel_rfl) (by kernel_rfl) (by kernel_rfl) (by kernel_rfl) as2 (ss (by kernel_rfl) (by kernel_rfl) (by kernel_rfl) (by kernel_rfl) arc (Px (by kernel_rfl) (by kernel_rfl) (by kernel_rfl) (by kernel_rfl) ava))))
theorem asf : Rd PP 38 (ct bq) (Bb Gr) := xn (e := 83) (by kernel_rfl) (by kernel_rfl) (by decide) aue
theorem aki : Rd PP 28 cz Ot := ak4 (by kernel_rfl)
theorem arj : Rd PP 36 cz Ot := ak4 (by kernel_rfl)
theorem au1 : Rd PP 37 dh Ot := ami (by kernel_rfl)
def Ml (s : bb) : Nat := qc s.owner + (1 + (1 + (1 + Bb Gr s.data))) + 1
theorem ave : Rd PP 40 ah Ml :=
  H6 (by kernel_rfl) (by kernel_rfl) (ss (by kernel_rfl) (by kernel_rfl) (by kernel_rfl) (by kernel_rfl) Ql (ss (by kernel_rfl) (by kernel_rfl) (by kernel_rfl) (by kernel_rfl) aki (ss (by kernel_rfl) (by kernel_rfl) (by kernel_rfl) (by kernel_rfl) arj (ss (by kernel_rfl) (by kernel_rfl) (by kernel_rfl) (by kernel_rfl) au1 (Px (by kernel_rfl) (by kernel_rfl) (by kernel_rfl) (by kernel_rfl) asf)))))
theorem at8 : Rd PP 24 (ct ah) (Bb Ml) := xn (e := 40) (by kernel_rfl) (by kernel_rfl) (by decide) ave
def Jw (z : bf) : Nat := qc z.origin + Bb Ml z.aj + 1
theorem atf : Rd PP 26 cy Jw :=
  H6 (by kernel_rfl) (by kernel_rfl) (ss (by kernel_rfl) (by kernel_rfl) (by kernel_rfl) (by kernel_rfl) Ql (Px (by kernel_rfl) (by kernel_rfl) (by kernel_rfl) (by kernel_rfl) at8))
theorem L8 (n : Name) : bj n = qc n := by
  suffices h : ∀ (n : Name) (k : Nat), n.foldl (fun k s => k + (s.size + 1)) k = k + sd L5 n by
    have := h n 1; simp only [bj, qc, Bb]; omega
  intro n
  induction n with
  | nil => intro k; rfl
  | cons a n ih => intro k; rw [List.foldl_cons, ih]; simp only [sd, L5]; omega
theorem L4 {α : Type} {f μ : α → Nat} {c : Nat} {l : List α} (h : ∀ x, f x + 1 ≤ c * μ x) : gh f l ≤ c * sd μ l := by
  induction l with
  | nil => simp [gh, sd]
  | cons a l ih =>
    have := h a
    simp only [gh, List.foldr_cons, sd, Nat.mul_add] at ih ⊢
    omega
theorem agn {α : Type} (l : List α) : sd Ot l = l.length := by
  induction l with
  | nil => rfl
  | cons a l ih => simp only [sd, ih, Ot, List.length_cons]; omega
theorem ard (d : c0) : x5 d + 1 ≤ 3 * Gr d := by
  have h1 := L4 (f := bj) (μ := qc) (c := 2) (l := d.names) (fun n => by rw [L8]; simp only [qc, Bb]; omega)
  have h2 := L4 (f := ByteArray.size) (μ := L5) (c := 1) (l := d.texts) (fun n => by unfold L5; omega)
  have h3 := agn d.nums
  have h4 := agn d.raw
  simp only [x5, Gr, qc, Bb] at *
  omega
theorem atp (s : bb) : nk s + 1 ≤ 4 * Ml s := by
  have h1 := L4 (f := x5) (μ := Gr) (c := 3) (l := s.data) ard
  have h2 := L8 s.owner
  simp only [nk, Ml, qc, Bb] at *
  omega
theorem ahe (z : bf) : Nu z ≤ 4 * Jw z := by
  have h1 := L4 (f := nk) (μ := Ml) (c := 4) (l := z.aj) atp
  have h2 := L8 z.origin
  simp only [Nu, Jw, qc, Bb] at *
  omega
theorem aj7 {z : bf} (h : Jw z ≤ 1048576) : cx z := by have := ahe z; unfold cx; omega
end
end Go.Proofs.YtidomogemfchpaaGreat
end
namespace Go.Vm
noncomputable section
inductive zy : ba → ba → Prop
  | rfl (x : ba) : zy x x
  | perm (es es' : List (Value × AV)) (h : es.Perm es') (hl : loose es = true) : zy (.map es) (.map es')
theorem zy.ghost {x y} (hs : zy x y) (h : Ae y) : Ae x := by
  cases hs with
  | rfl => exact h
  | perm es es' hp hl => obtain ⟨s, e, he⟩ := h; cases he
theorem zy.obj {g w b base x y} (hs : zy x y) (h : me g w b base y) : me g w b base x := by
  cases hs with
  | rfl => exact h
  | perm es es' hp hl =>
    obtain ⟨h0, ms, clock, h1, h2, h3, h4, l, h5, h6, h7⟩ := h
    refine ⟨h0, ms, clock, h1, by rw [h2, hp.length_eq], h3, h4, ?_⟩
    have hlen : l.length = es'.length := by rw [h5.length_eq, ← h2]; simp
    have key : ∀ (k k' : List (Value × AV)), k.Perm k' → ∀ l' : List MapEntry, l'.length = k'.length → (∀ (i : Nat) e m, k'[i]? = some e → l'[i]? = some m → m.key = e.1 ∧ Rel g w e.2 m.val) →
        ∃ l : List MapEntry, l.Perm l' ∧ l.length = k.length ∧ (∀ (i : Nat) e m, k[i]? = some e → l[i]? = some m → m.key = e.1 ∧ Rel g w e.2 m.val) := by
      intro k k' hp
      induction hp with
      | nil => intro l' hl' hr; exact ⟨l', .refl _, hl', hr⟩
      | cons a _ ih =>
        intro l' hl' hr
        cases l' with
        | nil => simp at hl'
        | cons m l' =>
          obtain ⟨l, q1, q2, q3⟩ := ih l' (by simpa using hl') (fun i e m' he hm => hr (i + 1) e m' (by simpa using he) (by simpa using hm))
          refine ⟨m :: l, q1.cons m, by simp [q2], fun i e m' he hm => ?_⟩
          cases i with
          | zero => exact hr 0 e m' (by simpa using he) (by simpa using hm)
          | succ i => exact q3 i e m' (by simpa using he) (by simpa using hm)
      | swap a b k =>
        intro l' hl' hr
        match l', hl' with
        | m :: n :: l', hl' =>
          refine ⟨n :: m :: l', List.Perm.swap _ _ _, by simpa using hl', fun i e m' he hm => ?_⟩
          match i with
          | 0 => exact hr 1 e m' (by simpa using he) (by simpa using hm)
          | 1 => exact hr 0 e m' (by simpa using he) (by simpa using hm)
          | i + 2 => exact hr (i + 2) e m' (by simpa using he) (by simpa using hm)
      | trans _ _ ih1 ih2 =>
        intro l' hl' hr
        obtain ⟨l2, q1, q2, q3⟩ := ih2 l' hl' hr
        obtain ⟨l1, p1, p2, p3⟩ := ih1 l2 q2 q3
        exact ⟨l1, p1.trans q1, p2, p3⟩
    obtain ⟨l2, q1, _, q3⟩ := key es es' hp l hlen h6
    exact ⟨l2, q1.trans h5, q3, .inr hl⟩
theorem Ok.Zw {g h h' w} (hok : Ok g h' w) (hs : ∀ o x, h.get o = some x → ∃ y, h'.get o = some y ∧ zy x y) : Ok g h w := by
  refine ⟨hok.size, fun o x hx => ?_, fun o o' x x' b base base' hne hx hx' => ?_, hok.K⟩
  · obtain ⟨y, h1, h2⟩ := hs o x hx
    refine (hok.l6 o y h1).imp (fun q => ⟨q.1, h2.ghost q.2⟩) ?_
    rintro ⟨b, base, q1, q2, q3⟩
    exact ⟨b, base, q1, q2, h2.obj q3⟩
  · obtain ⟨y, h1, _⟩ := hs o x hx
    obtain ⟨y', h1', _⟩ := hs o' x' hx'
    exact hok.sep o o' y y' b base base' hne h1 h1'
theorem Xs {h h' : Tr ba} (hs : ∀ o x, h.get o = some x → ∃ y, h'.get o = some y ∧ zy x y) {o : Nat} (ho : (h.get o).isSome = true) : (h'.get o).isSome = true := by
  obtain ⟨x, hx⟩ := Option.isSome_iff_exists.1 ho
  obtain ⟨y, h1, _⟩ := hs o x hx
  rw [h1]; rfl
structure Lit where
  i : Nat
  d : TypeDesc
  e : Value × AV
def o0 (lits : List Lit) (D : Nat → Bool) : List (Value × AV) := (lits.filter fun q => D q.i).map (·.e)
structure aac (lits : List Lit) : Prop where
  idx : (lits.map (·.i)).Nodup
  apart : ∀ q ∈ lits, ∀ r ∈ lits, q.i ≠ r.i → m7 q.e.1 r.e.1 = true ∧ Instr.sameNow q.d q.e.1 r.e.1 = some false
theorem Y6 {lits : List Lit} {D : Nat → Bool} {e : Value × AV} (h : e ∈ o0 lits D) : ∃ q ∈ lits, D q.i = true ∧ q.e = e := by
  simp only [o0, List.mem_map, List.mem_filter] at h
  obtain ⟨q, ⟨h1, h2⟩, h3⟩ := h
  exact ⟨q, h1, h2, h3⟩
theorem Nf {D : Nat → Bool} : ∀ {lits : List Lit}, aac lits → qb (o0 lits D) = true
  | [], _ => rfl
  | q :: l, h => by
    have hl : aac l := ⟨by have := h.idx; rw [List.map_cons, List.nodup_cons] at this; exact this.2, fun a ha b hb => h.apart a (by simp [ha]) b (by simp [hb])⟩
    have ih := Nf (D := D) hl
    unfold o0 at ih ⊢
    rw [List.filter_cons]
    split
    · simp only [List.map_cons, qb, Bool.and_eq_true, List.all_eq_true]
      refine ⟨fun x hx => ?_, ih⟩
      obtain ⟨r, h1, _, rfl⟩ := Y6 (D := D) hx
      refine (h.apart q (by simp) r (by simp [h1]) (fun e => ?_)).1
      have := h.idx
      rw [List.map_cons, List.nodup_cons] at this
      exact this.1 (by rw [e]; exact List.mem_map_of_mem h1)
    · exact ih
theorem aof {lits : List Lit} (h : (lits.map (·.i)).Nodup) {D : Nat → Bool} {q : Lit} (hq : q ∈ lits) (hD : D q.i = false) : (o0 lits (jz D q.i)).Perm (o0 lits D ++ [q.e]) := by
  induction lits with
  | nil => cases hq
  | cons a l ih =>
    rw [List.map_cons, List.nodup_cons] at h
    unfold o0 at ih ⊢
    rcases List.mem_cons.1 hq with rfl | hq
    · rw [List.filter_cons_of_pos (by simp [jz]), List.filter_cons_of_neg (by simp [hD])]
      have : l.filter (fun r => jz D q.i r.i) = l.filter (fun r => D r.i) := by
        refine List.filter_congr fun r hr => ?_
        have : r.i ≠ q.i := fun e => h.1 (by rw [← e]; exact List.mem_map_of_mem hr)
        simp [jz, this]
      rw [this, List.map_cons]
      exact (List.perm_append_singleton _ _).symm
    · have hne : a.i ≠ q.i := fun e => h.1 (by rw [e]; exact List.mem_map_of_mem hq)
      have hu : jz D q.i a.i = D a.i := by simp [jz, hne]
      cases hb : D a.i with
      | true =>
        rw [List.filter_cons_of_pos (by rw [hu, hb]), List.filter_cons_of_pos (by rw [hb])]
        exact (ih h.2 hq).cons _
      | false =>
        rw [List.filter_cons_of_neg (by rw [hu, hb]; simp), List.filter_cons_of_neg (by rw [hb]; simp)]
        exact ih h.2 hq
theorem ai6 {lits : List Lit} {D : Nat → Bool} {i : Nat} (h : ∀ q ∈ lits, q.i ≠ i) : o0 lits (jz D i) = o0 lits D := by
  unfold o0
  congr 1
  exact List.filter_congr fun q hq => by simp [jz, h q hq]
theorem anx {lits : List Lit} {D : Nat → Bool} (h : ∀ q ∈ lits, D q.i = false) : o0 lits D = [] := by
  unfold o0
  rw [List.filter_eq_nil_iff.2 (fun q hq => by simp [h q hq])]
  rfl
theorem ao2 {lits : List Lit} {D : Nat → Bool} (h : ∀ q ∈ lits, D q.i = true) : o0 lits D = lits.map (·.e) := by
  unfold o0
  rw [List.filter_eq_self.2 (fun q hq => h q hq)]
theorem K7 (d : TypeDesc) (k : Value) : ∀ (l : List MapEntry) (i : Nat), (∀ m ∈ l, Instr.sameNow d k m.key = some false) → Instr.findNow d k l i = some none
  | [], _, _ => rfl
  | m :: l, i, h => by
    rw [Instr.findNow, h m (by simp)]
    exact K7 d k l (i + 1) (fun m hm => h m (by simp [hm]))
theorem aj4 {P : Program} {kt : TypeId} {d : TypeDesc} {k : Value} {es : List (Value × AV)} (hu : P.underlying kt = some d) (h : ∀ e ∈ es, Instr.sameNow d k e.1 = some false) : qz P kt k es = some none := by
  have hf : Instr.findNow d k (qd es) 0 = some none := K7 d k _ 0 (fun m hm => by
    simp only [qd, List.mem_map] at hm
    obtain ⟨e, he, rfl⟩ := hm
    exact h e he)
  have hn : Q4 P kt k es = true := by unfold Q4; rw [hu]; simp only; rw [hf]; rfl
  unfold qz
  rw [hn, Bool.or_true, cond_true]
  have hevu : ev P (underlying kt) = some d := by
    simp [underlying, program, ev, hu, vq, Ao, Sem.bind, bind]
  have : ev P (Instr.findKey kt k (qd es)) = some none := by
    unfold Instr.findKey
    rw [vq, hevu]
    simp only [Option.bind_some]
    rw [hf]; rfl
  rw [this]; rfl
theorem Step.Zw {g h w lo hi g' h' h'' w'} (s : Step g h w lo hi g' h' w') (hs : ∀ o x, h''.get o = some x → ∃ y, h'.get o = some y ∧ zy x y) : Step g h w lo hi g' h'' w' :=
  ⟨s.ext, s.size, s.os, s.tape, s.output, s.frame, s.fresh, fun o b base ho hi => s.own o b base (Xs hs ho) hi, s.n8⟩
def ti (o : Oper) : Bool := match o.op with | .insert .. => true | _ => false
def u3 (ops : Array Oper) (L : SL) (o : Oper) : Option Bool := bif ti o then some false else xb ops L o
def aid (P : Program) (T : dw) (ops : Array Oper) (E : List Rec → Prop) : List Oper → (SL → St → Prop) → List Rec → SL → St → Prop
  | [], K => fun recs L st => E recs ∧ K L st
  | o :: r, K => fun recs L st => (u3 ops L o = some true ∧ Sc P T o recs (aid P T ops E r K) L st) ∨ (u3 ops L o = some false ∧ aid P T ops E r K (recs ++ [⟨[], []⟩]) (gp o.dst (.sc undef) L) st)
theorem aos {P : Program} {T : dw} {ops : Array Oper} {E : List Rec → Prop} {K : SL → St → Prop} : ∀ (l : List Oper) (L : SL) (st : St) (recs : List Rec), aid P T ops E l K recs L st →
    ∃ ds L' st', ds.map (·.o) = l ∧ (∀ d ∈ ds, DSRun P T d ∧ u3 ops d.L d.o = some d.want) ∧ w8 ds L st L' st' ∧ E (recs ++ ds.map fun d => ⟨d.R, d.W⟩) ∧ K L' st' := by
  intro l
  induction l with
  | nil => intro L st recs h; exact ⟨[], L, st, rfl, by simp, ⟨rfl, rfl⟩, by simpa using h.1, h.2⟩
  | cons o l ih =>
    intro L st recs h
    rcases h with ⟨hb, F, W, v, bc, hop, h4, h5, h6, h7, h8⟩ | ⟨hb, h3⟩
    · obtain ⟨ds, L', st', e1, e2, e3, e4, e5⟩ := ih _ _ _ h8
      have hle := xg hop
      refine ⟨{ o, L, st, want := true, v, bc, R := F, W := W ++ di st.nx (bc.nx - st.nx) } :: ds, L', st', by simp [e1], ?_, ⟨rfl, rfl, ?_⟩, ?_, e5⟩
      · intro d hd
        rcases List.mem_cons.1 hd with rfl | hd
        · refine ⟨⟨fun _ => ⟨hop, h6, h7, fun q => ?_, fun q hq hn => ?_⟩, fun e => by cases e⟩, hb⟩
          · simp only [List.mem_append, ia]
            constructor
            · rintro (hq | hq)
              · exact .inl ⟨.inl hq, h4 q hq⟩
              · exact .inr ⟨hq.1, by simp at hle; omega⟩
            · rintro (hq | hq)
              · exact hq.1
              · exact .inr ⟨hq.1, by omega⟩
          · have := h5 q hq (fun hw => hn (List.mem_append.2 (.inl hw)))
            rw [pf _ _ _ (fun p hp => by have := h6 p hp; simp at hle; omega), if_pos hq] at this
            exact this
        · exact e2 d hd
      · exact e3
      · simpa [List.append_assoc] using e4
    · obtain ⟨ds, L', st', e1, e2, e3, e4, e5⟩ := ih _ _ _ h3
      refine ⟨{ o, L, st, want := false, v := .sc undef, bc := st, R := [], W := [] } :: ds, L', st', by simp [e1], ?_, ⟨rfl, rfl, ?_⟩, ?_, e5⟩
      · intro d hd
        rcases List.mem_cons.1 hd with rfl | hd
        · exact ⟨⟨(fun e => by cases e), fun _ => ⟨rfl, rfl, rfl, rfl⟩⟩, hb⟩
        · exact e2 d hd
      · exact e3
      · simpa [List.append_assoc] using e4
theorem ap2 {P : Program} {T : dw} {ops : Array Oper} {ds : List DS} {L : SL} {st : St} {L' : SL} {st' : St} (hs : lq ops = true) (e1 : ds.map (·.o) = ops.toList) (e2 : ∀ d ∈ ds, DSRun P T d) (e3 : w8 ds L st L' st') : te P T ops ds L st L' st' := by
  obtain ⟨c1, c2, c3, c4⟩ := aci e2 e3
  unfold lq at hs
  rw [Bool.and_eq_true] at hs
  refine ⟨e1, e2, c1, ⟨c2, c3, c4⟩, fun i k x y t hik hx hy ht hdt => ?_, fun i o ho e he hb => ?_⟩
  · have hxi : (x.o, i) ∈ ops.toList.zipIdx := by
      rw [List.mem_zipIdx_iff_getElem?, ← e1]; simp [hx]
    have hyk : (y.o, k) ∈ ops.toList.zipIdx := by
      rw [List.mem_zipIdx_iff_getElem?, ← e1]; simp [hy]
    have h1 := List.all_eq_true.1 hs.1 _ hxi
    have h2 := List.all_eq_true.1 h1 t ht
    have h3 := List.all_eq_true.1 h2 _ hyk
    simp only [hdt, Bool.or_eq_true] at h3
    rcases h3 with (h3 | h3) | h3
    · simp at h3
    · simp at h3; omega
    · rw [Nat.max_comm, Nat.min_comm]; exact h3
  · have hoi : (o, i) ∈ ops.toList.zipIdx := by rw [List.mem_zipIdx_iff_getElem?]; simpa using ho
    have h1 := List.all_eq_true.1 hs.2 _ hoi
    rw [Array.all_eq_true_iff_forall_mem] at h1
    have := h1 e he
    rw [hb] at this
    simpa using this
theorem asm {ops : Array Oper} {ds : List DS} (e4 : g7 (Region.before ops) 0 (ds.map fun d => ⟨d.R, d.W⟩) = true) : Calm ops ds := fun i k x y hik hx hy => by
  have := Ff _ 0 e4 i k ⟨x.R, x.W⟩ ⟨y.R, y.W⟩ hik (by simp [hx]) (by simp [hy])
  simp only [vn, Nat.zero_add, Bool.or_eq_true, Bool.and_eq_true] at this
  rcases this with h1 | h1
  · exact .inr ⟨h1.1.1, h1.1.2, h1.2⟩
  · exact .inl h1
end
end Go.Vm
namespace Go.Vm
noncomputable section
theorem At.ins {H : (Nat → Bool) → Nat → Option ba} {P : Program} {T : dw} (hT : nc P T) {ops : Array Oper} {ds : List DS} {L0 : SL} {g0 : Gh} {st0 : St} {w0 : World} {df : List Deferred} {ro : Option Nat} {N : Nat} {nt : Nat} {L' : SL} {st' : St} (R : te P T ops ds L0 st0 L' st')
    {D : Nat → Bool} {a : Act} {w : World} {i : Nat} {d : DS} (hi : ds[i]? = some d) (hD : D i = false) (hr : ∀ e ∈ d.o.after, Region.binds .any e = true → D e.on = true) (A : At H ops ds L0 g0 st0 w0 df nt (jb ds st0.nx ds.length) D a w)
    {t : TypeId} {m k x : Operand} (hop : d.o.op = .insert t m k x) (hdst : d.o.dst = none) (hgd : d.o.guard = none) {p : Nat} {kt et : TypeId} {key : Value} (hu : P.underlying t = some (.map kt et)) (hm : bt d.o d.L m = .mp p) (hkey : (bt d.o d.L k).fm = some key)
    (hck : ev P (Instr.checkKey false 10000 kt key) = some ()) {es : List (Value × AV)} (hes : H D p = some (.map es)) (hlim : p ≤ bw) (hplt : p < jb ds st0.nx ds.length) (hfind : qz P kt key es = some none) (hst : stays es (es ++ [(key, bt d.o d.L x)]) = true)
    {es' : List (Value × AV)} (hes' : H (jz D i) p = some (.map es')) (hsame : zy (.map es') (.map (es ++ [(key, bt d.o d.L x)]))) (hoth : ∀ o, o ≠ p → H (jz D i) o = H D o)
    {Q : Exit → Act → World → Prop} {K : Act → World → Prop} (hK : ∀ a' w', At H ops ds L0 g0 st0 w0 df nt (jb ds st0.nx ds.length) (jz D i) a' w' → K a' w') : wpOpIn (fu ro) N P ops Q i K a w := by
  have ho := R.get hi
  have hbef := vj A.closed ho hr
  have hcl := A.closed.jz ho hr
  obtain ⟨a1, a2, a3, a4⟩ := R.u2 i d hi
  obtain ⟨g, h, h1, h2, h3, h4, h5⟩ := A.mem
  have slot : ∀ t ∈ tx ops d.o, jt ds L0 D ds.length t = lk d.L t := by
    intro t ht
    have hlt : i < ds.length := (List.getElem?_eq_some_iff.1 hi).1
    have := I5 (L0 := L0) (D := D) (i := i) (t := t) (ds := ds) (fun k e hk he => ?_) ds.length
    · rw [this, a1 t]; congr 1; omega
    · rcases Nat.lt_trichotomy k i with hlt' | rfl | hgt
      · have := R.slots i k d e t (by omega) hi hk ht he
        rw [show max i k = i from by omega, show min i k = k from by omega] at this
        exact ⟨fun _ => hlt', fun _ => hbef k this⟩
      · exact ⟨(fun q => by rw [hD] at q; cases q), (fun q => by omega)⟩
      · have := R.slots i k d e t (by omega) hi hk ht he
        rw [show max i k = k from by omega, show min i k = i from by omega] at this
        exact ⟨(fun q => by have := A.closed k i q this; rw [hD] at this; cases this), (fun q => by omega)⟩
  have mono1 : ∀ i d, ds[i]? = some d → d.st.nx = jb ds st0.nx i ∧ d.st.nx ≤ d.bc.nx := fun i d hd => ⟨(R.u2 i d hd).2.2.1, (R.u2 i d hd).2.2.2⟩
  have hp : ∀ q ∈ [p], q ≤ bw := fun q hq => by rw [List.mem_singleton] at hq; subst hq; exact hlim
  have hmask : ∀ o, (jw h [p]).get o = if o = p then h.get o else none := fun o => by rw [pf _ _ _ hp]; simp
  have hsub : ∀ o x, (jw h [p]).get o = some x → h.get o = some x := fun o x hx => by
    rw [hmask] at hx
    by_cases e : o = p
    · rw [if_pos e] at hx; exact hx
    · rw [if_neg e] at hx; cases hx
  have hrel : mc g w (bt d.o d.L) a.eval := Qi fun t ⟨x, hx, e⟩ => by
    have hu : t ∈ tx ops d.o := by
      simp only [tx, List.mem_append, List.mem_filterMap]
      exact .inl (.inr ⟨x, hx, by rw [e]⟩)
    rw [← slot t hu]
    exact h4 t
  have hgp : (jw h [p]).get p = some (.map es) := by rw [hmask, if_pos rfl, h1, hes]
  obtain ⟨bc, hst1⟩ : ∃ bc : St, bc = { h := (jw h [p]).set depth p (some (.map (es ++ [(key, bt d.o d.L x)]))), nx := jb ds st0.nx ds.length, rl := [p], wl := [p] } := ⟨_, rfl⟩
  have hrun : fi P T d.o (bt d.o d.L) { h := jw h [p], nx := jb ds st0.nx ds.length, rl := [], wl := [] } = some (.sc undef, bc) := by
    have h6 : A7 P d.o (bt d.o d.L) { h := jw h [p], nx := jb ds st0.nx ds.length, rl := [], wl := [] } = some (.sc undef, bc) := by
      unfold A7
      rw [hop]
      simp only [nf, hu, hm, hkey, M.bind, cj, hgp, sx, hck, hfind, hst, cond_true, ir, M.pure, hst1]
      rw [show Nat.ble p bw = true from Nat.ble_eq_true_of_le hlim]
      rfl
    have h7 : fi P T d.o (bt d.o d.L) = mono (A7 P d.o (bt d.o d.L)) := by unfold fi; rw [hop]
    rw [h7, mono, h6]
    simp only
    rw [hst1]
    simp only
    rw [show Nat.ble (jb ds st0.nx ds.length) (jb ds st0.nx ds.length) = true from Nat.ble_eq_true_of_le (Nat.le_refl _)]
    rfl
  unfold wpOpIn
  rw [ho]
  dsimp only
  rw [if_pos (by simp [Region.wanted, hgd])]
  refine Eg hT (h2.part hsub) (fun o q1 q2 => by rw [hst1] at q2; exact absurd (Nat.lt_of_le_of_lt q1 q2) (Nat.lt_irrefl _)) (fun o x hx => ?_) hrel hrun ro N _ _ ?_
  · have hx' : (jw h [p]).get o = some x := hx
    rw [hmask] at hx'
    by_cases e : o = p
    · subst e; exact hplt
    · rw [if_neg e] at hx'; cases hx'
  rintro u w' ⟨g', q1, q2, q3⟩
  have hget1 : ∀ o, bc.h.get o = if o = p then some (.map (es ++ [(key, bt d.o d.L x)])) else none := fun o => by
    rw [hst1]
    simp only
    rw [en _ _ _ _ hlim, hmask]
    by_cases e : o = p
    · rw [if_pos e, if_pos e]
    · rw [if_neg e, if_neg e, if_neg e]
  have hfs := P7 (h' := oq bc.h [p] h) (S := fun o => o ∈ [p]) h2 hsub (fun o x hx => by
    rw [hmask] at hx
    by_cases e : o = p
    · rw [e]; exact List.mem_singleton.2 rfl
    · rw [if_neg e] at hx; cases hx) q1 q2 (fun o hS => by rw [nl _ _ _ _ hp, if_pos hS]) (fun o hS => by rw [nl _ _ _ _ hp, if_neg hS]) (fun o e1 e2 => by rw [hst1] at e2; exact absurd (Nat.lt_of_le_of_lt e1 e2) (Nat.lt_irrefl _))
  have hH : ∀ o, ((oq bc.h [p] h).set depth p (some (.map es'))).get o = H (jz D i) o := fun o => by
    rw [en _ _ _ _ hlim]
    by_cases e : o = p
    · rw [if_pos e, e, hes']
    · rw [if_neg e, nl _ _ _ _ hp, if_neg (by simpa using e), h1, hoth o e]
  have hcov : ∀ o y, ((oq bc.h [p] h).set depth p (some (.map es'))).get o = some y → ∃ z, (oq bc.h [p] h).get o = some z ∧ zy y z := fun o y hy => by
    rw [en _ _ _ _ hlim] at hy
    by_cases e : o = p
    · rw [if_pos e] at hy
      cases hy
      refine ⟨_, ?_, hsame⟩
      rw [nl _ _ _ _ hp, if_pos (by simpa using e), hget1, if_pos e]
    · rw [if_neg e] at hy
      exact ⟨y, hy, .rfl _⟩
  have hnx1 : bc.nx = jb ds st0.nx ds.length := by rw [hst1]
  refine hK _ _ ⟨⟨g', _, hH, hfs.2.Zw hcov, (h3.both ((by have := hfs.1; rw [hnx1] at this; exact this.Yg (kf mono1 ds.length 0 (Nat.zero_le _)) (Nat.le_refl _)))).Zw hcov, fun t => ?_, fun k e hk hkD o o1 o2 => ?_⟩, by rw [Pe]; exact A.size, by rw [put_defers]; exact A.defers, hcl⟩
  · rw [O8 hi (fun q => by rw [hdst] at q; cases q), if_neg (fun q => by have := q.1; rw [hdst] at this; cases this), hdst]
    exact (h4 t).ext q1.ext
  · have hki : k ≠ i := fun q => by subst q; simp [jz] at hkD
    simp only [jz, if_neg hki] at hkD
    exact q1.fresh o (h5 k e hk hkD o o1 o2) (fun q => by have := q.2; rw [hnx1] at this; exact absurd (Nat.lt_of_le_of_lt q.1 this) (Nat.lt_irrefl _))
theorem Wm {P : Program} {T : dw} (hm : P.follows .mixedOrders = true) {H : (Nat → Bool) → Nat → Option ba} {ops : Array Oper} {ro : Option Nat} {N : Nat} {B : ft} {nt id : Nat} {Q : Exit → Act → World → Prop} {ds : List DS} {L : SL} {st : St} {L' : SL} {st' stF : St} (R : te P T ops ds L st L' st')
    {g : Gh} {w : World} {a : Act} (h0 : ∀ o, H (fun _ => false) o = st.h.get o) (hF : ∀ D, (∀ i, i < ds.length → D i = true) → ∀ o, H D o = stF.h.get o) (hnF : stF.nx = st'.nx)
    (hstep : ∀ (w0 : World) (D : Nat → Bool) (a' : Act) (w' : World) (i : Nat) (d : DS) (Q : Exit → Act → World → Prop) (K : Act → World → Prop), ds[i]? = some d → D i = false → (∀ e ∈ d.o.after, Region.binds .any e = true → D e.on = true) → At H ops ds L g st w0 a.defers nt (jb ds st.nx ds.length) D a' w' → (∀ a'' w'', At H ops ds L g st w0 a.defers nt (jb ds st.nx ds.length) (jz D i) a'' w'' → K a'' w'') → wpOpIn (fu ro) N P ops Q i K a' w')
    (hnear : B.u0 st.nx st'.nx) (hc : fl B g st w) (hr : dx g w nt L a.tmps) (hd : Marks B.n0 st.h g w a.defers)
    (hK : ∀ g w a', fl B g stF w → dx g w nt L' a'.tmps → Marks B.n0 stF.h g w a'.defers → a'.defers = a.defers → Q .normal a' w) :
    (Code.region id ops true).wpIn (fu ro) N P Q a w := by
  have c1 := R.u2
  obtain ⟨c2, c3, c4⟩ := R.fin
  have hc1 := hc.drawn
  have hd' : Marks B.n0 st.h g { w with drawn := w.drawn + 1 } a.defers := hd
  have mono1 : ∀ i d, ds[i]? = some d → d.st.nx = jb ds st.nx i ∧ d.st.nx ≤ d.bc.nx := fun i d hd => ⟨(c1 i d hd).2.2.1, (c1 i d hd).2.2.2⟩
  refine wpIn_region_any hm (akh (H := H) (L0 := L) (g0 := g) (st0 := st) (w0 := { w with drawn := w.drawn + 1 }) (df := a.defers) R (fun D a w i d Q K hi hD hr A hK => hstep _ D a w i d Q K hi hD hr A hK) ?_ ops.size _ a _ (by simp) ?_ ?_)
  · intro D a' w' hall A
    obtain ⟨g', h', q1, q2, q3, q4, q5⟩ := A.mem
    have hh : ∀ o, h'.get o = stF.h.get o := fun o => by rw [q1 o, hF D hall o]
    have hle : st.nx ≤ st'.nx := by rw [c4]; exact kf mono1 ds.length 0 (Nat.zero_le _)
    refine hK g' w' a' (hc1.step (st' := stF) (by rw [hnF]; exact hnear) ⟨by rw [hnF]; exact hle, ?_⟩ (q2.congr hh)) ⟨A.size, fun t => ?_⟩ (by rw [A.defers]; exact Marks.congr (Marks.step q3 hd') hh) A.defers
    · rw [hnF, c4]; exact q3.congr hh
    · rw [c2 t, ← Pt _ hall]; exact q4 t
  · exact Um _ _
  · have hf : (fun k => (Array.replicate ops.size false).getD k false) = fun _ => false := by
      funext k
      simp only [Array.getD_eq_getD_getElem?, Array.getElem?_replicate]
      split <;> rfl
    rw [hf]
    exact ⟨⟨g, st.h, fun o => (h0 o).symm, hc1.ok, .refl _ _ _ _ _, fun t => by
        rw [J4]; exact (hr.2 t).ext (Ext.same (w := w) (w' := { w with drawn := w.drawn + 1 }) rfl), fun i d hd _ o h1 h9 => hc.fresh o (by
        have := kf mono1 i 0 (Nat.zero_le _)
        rw [(c1 i d hd).2.2.1] at h1
        exact Nat.le_trans this h1) (hnear o (by
        have := kf mono1 i 0 (Nat.zero_le _)
        rw [(c1 i d hd).2.2.1] at h1
        exact Nat.le_trans this h1) (by
        rw [c4]
        have h10 := kf mono1 ds.length (i + 1) (List.getElem?_eq_some_iff.1 hd).1
        rw [jb.eq_2, hd] at h10
        exact Nat.lt_of_lt_of_le h9 h10))⟩, hr.1, rfl, fun i k hik => by cases hik⟩
theorem Dr {ds : List DS} {h0 : Tr ba} {D : Nat → Bool} {p : Nat} : ∀ m, (∀ k e, k < m → ds[k]? = some e → D k = true → p ∉ e.W) → jj ds h0 D m p = h0.get p
  | 0, _ => rfl
  | m + 1, h => by
    have ih := Dr (h0 := h0) (D := D) (p := p) m (fun k e hk => h k e (by omega))
    rw [jj]
    cases hd : ds[m]? with
    | none => exact ih
    | some d =>
      simp only
      rw [if_neg (fun q => h m d (by omega) hd q.1 q.2), ih]
theorem Wg {ds : List DS} {h0 : Tr ba} {D : Nat → Bool} {p k0 : Nat} {d : DS} (hd : ds[k0]? = some d) (hW : p ∈ d.W) (hD : D k0 = true) (ho : ∀ k e, ds[k]? = some e → k ≠ k0 → p ∉ e.W) : ∀ m, k0 < m → jj ds h0 D m p = d.bc.h.get p
  | 0, h => by omega
  | m + 1, h => by
    rw [jj]
    by_cases e : m = k0
    · subst e
      rw [hd]
      simp only
      rw [if_pos ⟨hD, hW⟩]
    · have ih := Wg (h0 := h0) hd hW hD ho m (by omega)
      cases hm : ds[m]? with
      | none => exact ih
      | some f =>
        simp only
        rw [if_neg (fun q => ho m f hm e q.2), ih]
def Kq (ds : List DS) (h0 : Tr ba) (p k0 : Nat) (lits : List Lit) (D : Nat → Bool) (o : Nat) : Option ba := if o = p then (if D k0 = true then some (.map (o0 lits D)) else h0.get p) else jj ds h0 D ds.length o
structure auv (P : Program) (ops : Array Oper) (ds : List DS) (p k0 : Nat) (q : Lit) : Prop where
  u2 : ∃ d, ds[q.i]? = some d ∧ ∃ t m k x kt et, d.o.op = .insert t m k x ∧ d.o.dst = none ∧ d.o.guard = none ∧ P.underlying t = some (.map kt et) ∧ P.underlying kt = some q.d ∧ bt d.o d.L m = .mp p ∧ (bt d.o d.L k).fm = some q.e.1 ∧ ev P (Instr.checkKey false 10000 kt q.e.1) = some () ∧ bt d.o d.L x = q.e.2
  bef : ((Region.before ops).getD q.i 0).testBit k0 = true
theorem ane {P : Program} {T : dw} (hT : nc P T) (hm : P.follows .mixedOrders = true) {ops : Array Oper} {ro : Option Nat} {N : Nat} {B : ft} {nt id : Nat} {Q : Exit → Act → World → Prop} (hg : oi nt ops = true) (hdst : uf nt ops = true) {ds : List DS} {L : SL} {st : St} {L' : SL} {st' stF : St} (R : te P T ops ds L st L' st') (C : Calm ops ds)
    (hgY : ∀ d ∈ ds, u3 ops d.L d.o = some d.want) {p k0 : Nat} {lits : List Lit} (hl : aac lits) (hat : ∀ q ∈ lits, auv P ops ds p k0 q) (hall : ∀ i d, ds[i]? = some d → ti d.o = true → ∃ q ∈ lits, q.i = i) {d0 : DS} (hk0 : ds[k0]? = some d0) (hk0' : ti d0.o = false) (hno : ∀ k e, ds[k]? = some e → k ≠ k0 → p ∉ e.R ∧ p ∉ e.W)
    (hp : st'.h.get p = some (.map [])) (hplt : p < st'.nx) (hlim : p ≤ bw) (hF : ∀ o, stF.h.get o = if o = p then some (.map (lits.map (·.e))) else st'.h.get o) (hnF : stF.nx = st'.nx)
    {g : Gh} {w : World} {a : Act} (hnear : B.u0 st.nx st'.nx) (hc : fl B g st w) (hr : dx g w nt L a.tmps) (hd : Marks B.n0 st.h g w a.defers)
    (hK : ∀ g w a', fl B g stF w → dx g w nt L' a'.tmps → Marks B.n0 stF.h g w a'.defers → a'.defers = a.defers → Q .normal a' w) :
    (Code.region id ops true).wpIn (fu ro) N P Q a w := by
  have hlt0 : k0 < ds.length := (List.getElem?_eq_some_iff.1 hk0).1
  have hlen : ∀ q ∈ lits, q.i < ds.length := fun q hq => by
    obtain ⟨d, h1, _⟩ := (hat q hq).u2
    exact (List.getElem?_eq_some_iff.1 h1).1
  have hne0 : ∀ q ∈ lits, q.i ≠ k0 := fun q hq e => by
    obtain ⟨d, h1, t, m, k, x, kt, et, h2, _⟩ := (hat q hq).u2
    rw [e, hk0] at h1
    cases h1
    unfold ti at hk0'
    rw [h2] at hk0'
    cases hk0'
  have hfin : jj ds st.h (fun _ => true) ds.length p = some (.map []) := by rw [← R.fin.2.1 p, hp]
  have hW0 : p ∈ d0.W → d0.bc.h.get p = some (.map []) := fun hW => by
    rw [← Wg (h0 := st.h) (D := fun _ => true) hk0 hW rfl (fun k e hk hne => (hno k e hk hne).2) ds.length hlt0]; exact hfin
  have hN0 : p ∉ d0.W → st.h.get p = some (.map []) := fun hW => by
    rw [← Dr (h0 := st.h) (D := fun _ => true) (p := p) ds.length (fun k e _ hk _ => by
      by_cases h : k = k0
      · rw [h, hk0] at hk; cases hk; exact hW
      · exact (hno k e hk h).2)]
    exact hfin
  have hnx : st'.nx = jb ds st.nx ds.length := R.fin.2.2
  refine Wm hm (H := Kq ds st.h p k0 lits) (stF := stF) R (fun o => ?_) (fun D hD o => ?_) hnF (fun w0 D a' w' i d Q K hi hD hrd A hK => ?_) hnear hc hr hd hK
  · unfold Kq
    by_cases e : o = p
    · rw [if_pos e, if_neg (by simp), e]
    · rw [if_neg e, Er]
  · unfold Kq
    rw [hF]
    by_cases e : o = p
    · rw [if_pos e, if_pos e, if_pos (hD k0 hlt0), ao2 (fun q hq => hD _ (hlen q hq))]
    · rw [if_neg e, if_neg e, Hc _ hD, ← R.fin.2.1 o]
  · have hbef := vj A.closed (R.get hi) hrd
    have hmem := List.mem_of_getElem? hi
    have hgv := hgY d hmem
    have hcalm := Di R C hi hD A.closed hrd
    cases hins : ti d.o with
    | false =>
      have hgv' : xb ops d.L d.o = some d.want := by unfold u3 at hgv; rw [hins] at hgv; exact hgv
      have hnl : ∀ q ∈ lits, q.i ≠ i := fun q hq e => by
        obtain ⟨d', h1, t, m, k, x, kt, et, h2, _⟩ := (hat q hq).u2
        rw [e, hi] at h1
        cases h1
        unfold ti at hins
        rw [h2] at hins
        cases hins
      refine At.step hT R hg hdst hi hgv' (fun o ho => ?_) (fun o => ?_) hD hrd A hK
      · unfold Kq
        by_cases e : o = p
        · subst e
          by_cases hik : i = k0
          · subst hik
            rw [if_pos rfl, if_neg (by rw [hD]; simp)]
            rw [(R.u2 i d hi).2.1 o, Dr i (fun k e hk he _ => (hno k e he (by omega)).2)]
          · exact ((hno i d hi hik).1 ho).elim
        · rw [if_neg e]; exact hcalm.1 o ho
      · unfold Kq
        by_cases e : o = p
        · subst e
          rw [if_pos rfl, if_pos rfl]
          by_cases hik : i = k0
          · subst hik
            rw [hk0] at hi
            cases hi
            have hen : o0 lits (jz D i) = [] := anx (fun q hq => by
              have hne := hne0 q hq
              simp only [jz, if_neg hne]
              cases hDq : D q.i with
              | false => rfl
              | true => have := A.closed q.i i hDq (hat q hq).bef; rw [hD] at this; cases this)
            rw [if_pos (show jz D i i = true from by simp [jz]), hen]
            by_cases hW : o ∈ d0.W
            · rw [if_pos hW, hW0 hW]
            · rw [if_neg hW, if_neg (by rw [hD]; simp), hN0 hW]
          · rw [if_neg (hno i d hi hik).2, ai6 hnl]
            simp only [jz, if_neg (Ne.symm hik)]
        · rw [if_neg e, if_neg e]; exact hcalm.2 o
    | true =>
      obtain ⟨q, hq, rfl⟩ := hall i d hi hins
      obtain ⟨d', h1, t, m, k, x, kt, et, h2, h3, h4, h5, h6, h7, h8, h9, h10⟩ := (hat q hq).u2
      rw [hi] at h1
      cases h1
      have hDk : D k0 = true := hbef k0 (hat q hq).bef
      have hne := hne0 q hq
      have hothers : ∀ e ∈ o0 lits D, ∃ r ∈ lits, r.i ≠ q.i ∧ r.e = e := fun e he => by
        obtain ⟨r, r1, r2, r3⟩ := Y6 he
        exact ⟨r, r1, (fun e => by rw [e, hD] at r2; cases r2), r3⟩
      have hperm := aof hl.idx hq hD
      have hW : d.W = [] := by
        have : d.want = false := by
          unfold u3 at hgv
          rw [hins] at hgv
          simpa using hgv.symm
        exact ((R.ok d hmem).skip this).2.2.2
      refine At.ins hT R hi hD hrd A h2 h3 h4 h5 h7 h8 h9 (es := o0 lits D) (es' := o0 lits (jz D q.i)) ?_ hlim (by rw [← hnx]; exact hplt) (aj4 h6 (fun e he => ?_)) ?_ ?_ ?_ (fun o e => ?_) hK
      · unfold Kq; rw [if_pos rfl, if_pos hDk]
      · obtain ⟨r, r1, r2, rfl⟩ := hothers e he
        exact (hl.apart q hq r r1 (Ne.symm r2)).2
      · have hqe : (q.e.1, bt d.o d.L x) = q.e := by rw [h10]
        rw [hqe]
        unfold stays
        cases hlo : loose (o0 lits D) with
        | false => rfl
        | true =>
          have : loose (o0 lits D ++ [q.e]) = true := by
            unfold loose at hlo ⊢
            simp only [Bool.and_eq_true] at hlo ⊢
            refine ⟨Nat.ble_eq_true_of_le (by have := Nat.le_of_ble_eq_true hlo.1; rw [List.length_append]; omega), ?_⟩
            have key : ∀ l : List (Value × AV), qb l = true → (∀ e ∈ l, m7 e.1 q.e.1 = true) → qb (l ++ [q.e]) = true := by
              intro l
              induction l with
              | nil => intro _ _; rfl
              | cons b l ih =>
                intro h1 h2
                simp only [qb, List.cons_append, Bool.and_eq_true, List.all_eq_true] at h1 ⊢
                refine ⟨fun y hy => ?_, ih h1.2 (fun e he => h2 e (by simp [he]))⟩
                rcases List.mem_append.1 hy with hy | hy
                · exact h1.1 y hy
                · rw [List.mem_singleton] at hy; rw [hy]; exact h2 b (by simp)
            refine key _ hlo.2 (fun e he => ?_)
            obtain ⟨r, r1, r2, rfl⟩ := hothers e he
            exact (hl.apart r r1 q hq r2).1
          rw [this]; rfl
      · unfold Kq; rw [if_pos rfl, if_pos (by simp [jz, hDk])]
      · have hqe : (q.e.1, bt d.o d.L x) = q.e := by rw [h10]
        rw [hqe]
        by_cases h2 : 2 ≤ (o0 lits (jz D q.i)).length
        · refine .perm _ _ hperm ?_
          unfold loose
          rw [Nat.ble_eq_true_of_le h2, Nf hl]
          rfl
        · have h3 : (o0 lits D).length = 0 := by have := hperm.length_eq; rw [List.length_append] at this; simp at this; omega
          have h4 : o0 lits D = [] := List.eq_nil_of_length_eq_zero h3
          rw [h4] at hperm ⊢
          rw [List.nil_append] at hperm ⊢
          rw [List.perm_singleton.1 hperm]
          exact .rfl _
      · unfold Kq
        rw [if_neg e, if_neg e, hcalm.2 o, hW, if_neg (by simp)]
end
end Go.Vm
namespace Go.Vm
noncomputable section
abbrev fh := Nat → Option (Bool × (List AV → M AV))
def G7 : Nat := 10000
def P6 (look : fh) (f : Nat) (args : List AV) : M AV :=
  bif Nat.blt f G7 then
    match look f with
    | some p => mono (p.2 args)
    | none => .fail
  else .fail
def Ch (look : fh) (g : Fn) (args : List AV) : M AV :=
  match g with
  | .func g => P6 look g args
  | _ => .fail
def Li (look : fh) (f : AV) (args : List AV) : M AV :=
  match f with
  | .fn g first captured => Ch look g (first ++ args ++ captured)
  | .sc x =>
    match x with
    | .func g first captured => Ch look g (first.toList.map .sc ++ args ++ captured.toList.map .sc)
    | _ => .fail
  | _ => .fail
def Ea (P : Program) (look : fh) (o : Oper) (ρ : Operand → AV) : M AV :=
  match o.op with
  | .call { callee := .value f, args, .. } => Li look (ρ f) (args.toList.map ρ)
  | _ => mono (A7 P o ρ)
def ay {α : Type} (m : M α) : Prop := ∀ st a bc, m st = some (a, bc) → st.nx ≤ bc.nx
theorem ay.pure {α : Type} (a : α) : ay (M.pure a) := fun st _ bc h => by cases h; exact Nat.le_refl _
theorem ay.fail {α : Type} : ay (M.fail : M α) := fun st _ bc h => by cases h
theorem ay.of {α : Type} (a : Option α) : ay (M.of a) := by cases a; exact ay.fail; exact ay.pure _
theorem ay.cond {α : Type} {b : Bool} {x y : M α} (hx : ay x) (hy : ay y) : ay (bif b then x else y) := by cases b <;> assumption
theorem ay.bind {α β : Type} {m : M α} {f : α → M β} (hm : ay m) (hf : ∀ x, ay (f x)) : ay (m.bind f) := fun st b st2 h => by
  obtain ⟨x, s1, h1, h2⟩ := bind_some h
  exact Nat.le_trans (hm _ _ _ h1) (hf x _ _ _ h2)
theorem ay.cj (id : Nat) : ay (Vm.cj id) := fun st a bc h => by
  unfold Vm.cj at h
  split at h
  · cases h; exact Nat.le_refl _
  · cases h
theorem ay.ir (id : Nat) (x : ba) : ay (Vm.ir id x) := fun st a bc h => by
  unfold Vm.ir at h
  split at h
  · cases hb : Nat.ble id bw with
    | true => rw [hb] at h; cases h; exact Nat.le_refl _
    | false => rw [hb] at h; cases h
  · cases h
theorem ay.uz (id : Nat) : ay (Vm.uz id) := fun st a bc h => by
  unfold Vm.uz at h
  split at h
  · cases hb : Nat.ble id bw with
    | true => rw [hb] at h; cases h; exact Nat.le_refl _
    | false => rw [hb] at h; cases h
  · cases h
theorem ay.g9 (x : ba) : ay (Vm.g9 x) := fun st a bc h => by
  unfold Vm.g9 at h
  cases hb : Nat.ble st.nx bw with
  | true => rw [hb] at h; cases h; exact Nat.le_succ _
  | false => rw [hb] at h; cases h
theorem ay.mono {α : Type} {m : M α} (h : ay m) : Vm.mono m = m := by
  funext st
  unfold Vm.mono
  cases hm : m st with
  | none => rfl
  | some p =>
    obtain ⟨a, bc⟩ := p
    simp only
    rw [show Nat.ble st.nx bc.nx = true from Nat.ble_eq_true_of_le (h st a bc hm)]
    rfl
theorem ay.cellsIn (sz : Nat) (v : AV) : ay (Vm.cellsIn sz v) := by
  unfold Vm.cellsIn xk
  repeat' (first | exact ay.pure _ | exact ay.fail | exact ay.cj _ | apply ay.cond | (refine ay.bind ?_ fun x => ?_) | split)
theorem ay.y5 {P : Program} {ρ : Operand → AV} {o : Oper} {l : List Operand} : ay (gx P ρ o l) := by unfold gx; exact ay.cond (ay.of _) ay.fail
theorem ay.bx {t : TypeId} {x : AV} : ay (xa t x) := by
  unfold xa
  repeat' (first | exact ay.pure _ | exact ay.fail | exact ay.g9 _ | apply ay.cond | (refine ay.bind ?_ fun x => ?_) | split)
theorem alk {P : Program} {o : Oper} {ρ : Operand → AV} : ay (A7 P o ρ) := by
  unfold A7
  cases ho : o.op with
  | move x => exact ay.pure _
  | assign x => exact ay.pure _
  | load t a =>
    show ay (ja P t (ρ a))
    unfold ja z8
    repeat' (first | exact ay.pure _ | exact ay.fail | exact ay.of _ | exact ay.cj _ | (refine ay.bind ?_ fun x => ?_) | split)
  | fieldAddr s x f =>
    show ay (j9 P s (ρ x) f)
    unfold j9
    repeat' (first | exact ay.pure _ | exact ay.fail | exact ay.of _ | apply ay.cond | split)
  | binOp op t x y u =>
    show ay (w9 P ρ o op t x y)
    have he : ∀ a b, ay (ml P ρ o op t a b) := fun a b => by
      unfold ml Ej Tb Ce Yl Yk Rl Lt nn
      repeat' (first | exact ay.pure _ | exact ay.fail | exact ay.of _ | exact ay.cj _ | apply ay.cond | (refine ay.bind ?_ fun x => ?_) | split)
    unfold w9 Cj Kk
    repeat' (first | exact he _ _ | exact ay.pure _ | exact ay.fail | exact ay.of _ | apply ay.cond | split)
  | pick c a b =>
    show ay (uc (ρ c) (ρ a) (ρ b))
    unfold uc
    repeat' (first | exact ay.pure _ | exact ay.fail | split)
  | store t a x =>
    show ay (oh P t (ρ a) (ρ x))
    unfold oh xp
    repeat' (first | exact ay.pure _ | exact ay.fail | exact ay.cj _ | exact ay.ir _ _ | apply ay.cond | (refine ay.bind ?_ fun x => ?_) | split)
  | mapUpdate t m k x =>
    show ay (nf P t (ρ m) (ρ k) (ρ x))
    unfold nf sx
    repeat' (first | exact ay.pure _ | exact ay.fail | exact ay.cj _ | exact ay.ir _ _ | apply ay.cond | (refine ay.bind ?_ fun x => ?_) | split)
  | insert t m k x =>
    show ay (nf P t (ρ m) (ρ k) (ρ x))
    unfold nf sx
    repeat' (first | exact ay.pure _ | exact ay.fail | exact ay.cj _ | exact ay.ir _ _ | apply ay.cond | (refine ay.bind ?_ fun x => ?_) | split)
  | extract t ix =>
    show ay (mo (ρ t) ix)
    unfold mo
    repeat' (first | exact ay.pure _ | exact ay.fail | exact ay.of _ | split)
  | indexAddr t x ix =>
    show ay (j8 P t (ρ x) (ρ ix))
    unfold j8 uk
    repeat' (first | exact ay.pure _ | exact ay.fail | exact ay.of _ | apply ay.cond | split)
  | nilCheck x =>
    show ay (jr (ρ x))
    unfold jr
    repeat' (first | exact ay.pure _ | exact ay.fail | split)
  | alloc t =>
    show ay (qk P t)
    unfold qk
    split
    · exact ay.fail
    · exact ay.bx
  | box t x => exact ay.bx
  | build t ps =>
    show ay (pq P t _)
    unfold pq
    repeat' (first | exact ay.pure _ | exact ay.fail | exact ay.of _ | split)
  | buildSlice t len ps =>
    show ay (jc P t len _)
    unfold jc ke
    repeat' (first | exact ay.g9 _ | exact ay.pure _ | exact ay.fail | exact ay.of _ | apply ay.cond | (refine ay.bind ?_ fun x => ?_) | split)
  | makeSlice t l c =>
    show ay (ph P t (ρ l) (ρ c))
    unfold ph ke
    repeat' (first | exact ay.g9 _ | exact ay.pure _ | exact ay.fail | exact ay.of _ | apply ay.cond | (refine ay.bind ?_ fun x => ?_) | split)
  | makeMap t r =>
    show ay (v8 r)
    unfold v8
    repeat' (first | exact ay.g9 _ | exact ay.pure _ | exact ay.fail | (refine ay.bind ?_ fun x => ?_) | split)
  | makeFunc f a b => exact ay.pure _
  | convert src dst x =>
    show ay (oa P ρ o src dst (ρ x))
    have he : ay (rm P ρ o (ρ x)) := by unfold rm; split; exact ay.of _; exact ay.fail
    unfold oa n5
    repeat' (first | exact he | exact ay.fail | split)
    · unfold Ct; repeat' (first | exact ay.g9 _ | exact ay.pure _ | exact ay.fail | apply ay.cond | (refine ay.bind ?_ fun x => ?_) | split)
    · unfold Fx Am; repeat' (first | exact ay.cellsIn _ _ | exact ay.pure _ | exact ay.fail | apply ay.cond | (refine ay.bind ?_ fun x => ?_) | split)
    · unfold Kx Hs; repeat' (first | exact ay.cj _ | exact ay.pure _ | exact ay.fail | apply ay.cond | (refine ay.bind ?_ fun x => ?_) | split)
    · unfold Jf G8; repeat' (first | exact ay.cj _ | exact ay.pure _ | exact ay.fail | apply ay.cond | (refine ay.bind ?_ fun x => ?_) | split)
    · unfold Ck; repeat' (first | exact ay.pure _ | exact ay.fail | split)
  | makeInterface t x =>
    show ay (kj P t (ρ x))
    unfold kj
    repeat' (first | exact ay.pure _ | exact ay.fail | split)
  | field s x f =>
    show ay (se P s (ρ x) f)
    unfold se
    repeat' (first | exact ay.pure _ | exact ay.fail | exact ay.of _ | split)
  | index t x ix =>
    show ay (sa P ρ o t x ix)
    unfold sa
    repeat' (first | exact ay.y5 | exact ay.pure _ | exact ay.fail | exact ay.of _ | apply ay.cond | split)
  | slice t x lo hi mx =>
    show ay (qi P ρ o t x lo hi mx)
    unfold qi Pu
    repeat' (first | exact ay.y5 | exact ay.cj _ | exact ay.pure _ | exact ay.fail | exact ay.of _ | apply ay.cond | (refine ay.bind ?_ fun x => ?_) | split)
  | lookup t x ix ok =>
    show ay (v5 P t (ρ x) (ρ ix) ok)
    unfold v5 Bp found
    repeat' (first | exact ay.cj _ | exact ay.pure _ | exact ay.fail | exact ay.of _ | apply ay.cond | (refine ay.bind ?_ fun x => ?_) | split)
  | typeAssert x t a ok =>
    show ay (nw P ρ o (ρ x) a ok)
    unfold nw
    repeat' (first | exact ay.pure _ | exact ay.fail | exact ay.of _ | apply ay.cond | split)
  | unOp op t x => exact ay.y5
  | call c =>
    obtain ⟨callee, args, ts⟩ := c
    cases callee with
    | value f => exact ay.fail
    | invoke r m => exact ay.fail
    | builtin b =>
      show ay (so P ρ o b args.toList ts)
      unfold so
      split <;> first | exact ay.fail | exact ay.y5 | skip
      · unfold qo Z9
        repeat' (first | exact ay.cj _ | exact ay.pure _ | exact ay.fail | (refine ay.bind ?_ fun x => ?_) | split)
      · have ha : ∀ e sz bytes s new, ay (nh e sz bytes s new) := fun e sz bytes s new => by
          unfold nh x9 ke
          repeat' (first | exact ay.cj _ | exact ay.g9 _ | exact ay.uz _ | exact ay.pure _ | exact ay.fail | apply ay.cond | (refine ay.bind ?_ fun x => ?_) | split)
        unfold mh
        repeat' (first | exact ha _ _ _ _ _ | exact ay.cellsIn _ _ | exact ay.pure _ | exact ay.fail | apply ay.cond | (refine ay.bind ?_ fun x => ?_) | split)
      · unfold Gp Mg
        repeat' (first | exact ay.cj _ | exact ay.ir _ _ | exact ay.cellsIn _ _ | exact ay.pure _ | exact ay.fail | apply ay.cond | (refine ay.bind ?_ fun x => ?_) | split)
      · unfold Ai A8
        repeat' (first | exact ay.cj _ | exact ay.ir _ _ | exact ay.pure _ | exact ay.fail | apply ay.cond | (refine ay.bind ?_ fun x => ?_) | split)
      · unfold A0
        repeat' (first | exact ay.pure _ | exact ay.fail | split)
      · unfold ux
        repeat' (first | exact ay.pure _ | exact ay.fail | apply ay.cond | split)
      · unfold pr Ka
        repeat' (first | exact ay.cj _ | exact ay.ir _ _ | exact ay.pure _ | exact ay.fail | apply ay.cond | (refine ay.bind ?_ fun x => ?_) | split)
  | _ => exact ay.fail
structure XA where
  run : fh → (Operand → AV) → M AV
def auz (P : Program) (o : Oper) (op : BinOp) (t : TypeId) (x y : Operand) : XA := ⟨fun _ ρ => w9 P ρ o op t x y⟩
def aqk (P : Program) (o : Oper) (b : Builtin) (args : List Operand) (ts : Array TypeId) : XA :=
  match b, args with
  | .len, [x] => ⟨fun _ ρ => (qo ((ts[0]?).bind P.underlying) (ρ x))⟩
  | .append, [s, x] => ⟨fun _ ρ => (mh P ts[0]? ((ts[1]?).bind P.underlying) (ρ s) (ρ x))⟩
  | .copy, [d, x] => ⟨fun _ ρ => (Gp P ts[0]? (ρ d) (ρ x))⟩
  | .delete, [m, k] => ⟨fun _ ρ => (Ai P ((ts[0]?).bind P.underlying) (ρ m) (ρ k))⟩
  | .cap, [x] => ⟨fun _ ρ => (A0 ((ts[0]?).bind P.underlying) (ρ x))⟩
  | .unsafeSliceData, [x] => ⟨fun _ ρ => (ux (ρ x))⟩
  | .unsafeString, [x, y] => ⟨fun _ ρ => (pr P ts[0]? (ρ x) (ρ y))⟩
  | .min, l => ⟨fun _ ρ => (gx P ρ o l)⟩
  | .max, l => ⟨fun _ ρ => (gx P ρ o l)⟩
  | _, _ => ⟨fun _ _ => .fail⟩
def kp (P : Program) (o : Oper) : XA :=
  match o.op with
  | .move x => ⟨fun _ ρ => (.pure (ρ x))⟩
  | .assign x => ⟨fun _ ρ => (.pure (ρ x))⟩
  | .load t a => ⟨fun _ ρ => (ja P t (ρ a))⟩
  | .fieldAddr s x f => ⟨fun _ ρ => (j9 P s (ρ x) f)⟩
  | .binOp op t x y _ => auz P o op t x y
  | .pick c a b => ⟨fun _ ρ => (uc (ρ c) (ρ a) (ρ b))⟩
  | .store t a x => ⟨fun _ ρ => (oh P t (ρ a) (ρ x))⟩
  | .extract t ix => ⟨fun _ ρ => (mo (ρ t) ix)⟩
  | .call { callee := .value f, args, .. } => ⟨fun look ρ => Li look (ρ f) (args.toList.map ρ)⟩
  | .call { callee := .builtin b, args, argTypes } => aqk P o b args.toList argTypes
  | .indexAddr t x ix => ⟨fun _ ρ => (j8 P t (ρ x) (ρ ix))⟩
  | .nilCheck x => ⟨fun _ ρ => (jr (ρ x))⟩
  | .alloc t => ⟨fun _ _ => (qk P t)⟩
  | .box t x => ⟨fun _ ρ => (xa t (ρ x))⟩
  | .build t parts => ⟨fun _ ρ => (pq P t (parts.toList.map fun p => (p.1, ρ p.2)))⟩
  | .buildSlice t len parts => ⟨fun _ ρ => (jc P t len (parts.toList.map fun p => (p.1, ρ p.2)))⟩
  | .makeSlice t l c => ⟨fun _ ρ => (ph P t (ρ l) (ρ c))⟩
  | .makeMap _ r => ⟨fun _ _ => (v8 r)⟩
  | .makeFunc f first captured => ⟨fun _ ρ => (.pure (.fn f (first.toList.map ρ) (captured.toList.map ρ)))⟩
  | .convert src dst x => ⟨fun _ ρ => (oa P ρ o src dst (ρ x))⟩
  | .makeInterface t x => ⟨fun _ ρ => (kj P t (ρ x))⟩
  | .field s x f => ⟨fun _ ρ => (se P s (ρ x) f)⟩
  | .index t x ix => ⟨fun _ ρ => (sa P ρ o t x ix)⟩
  | .slice t x lo hi mx => ⟨fun _ ρ => (qi P ρ o t x lo hi mx)⟩
  | .lookup t x ix ok => ⟨fun _ ρ => (v5 P t (ρ x) (ρ ix) ok)⟩
  | .mapUpdate t m k x | .insert t m k x => ⟨fun _ ρ => (nf P t (ρ m) (ρ k) (ρ x))⟩
  | .typeAssert x _ asserted ok => ⟨fun _ ρ => (nw P ρ o (ρ x) asserted ok)⟩
  | .unOp _ _ x => ⟨fun _ ρ => (gx P ρ o [x])⟩
  | _ => ⟨fun _ _ => .fail⟩
theorem H7 (P : Program) (look : fh) (o : Oper) (ρ : Operand → AV) : (kp P o).run look ρ = Ea P look o ρ := by
  have key : ∀ (h : ∀ f args ts, o.op ≠ .call { callee := .value f, args, argTypes := ts }), (kp P o).run look ρ = A7 P o ρ := by
    intro h
    unfold kp A7
    cases ho : o.op with
    | call c =>
      obtain ⟨callee, args, ts⟩ := c
      cases callee with
      | builtin b =>
        dsimp only
        unfold aqk so
        generalize args.toList = l
        cases b <;> rcases l with _ | ⟨x, _ | ⟨y, _ | ⟨z, l⟩⟩⟩ <;> rfl
      | value f => exact (h f args ts ho).elim
      | _ => rfl
    | _ => rfl
  unfold Ea
  split
  · rename_i f args ts ho
    unfold kp
    rw [ho]
  · rename_i hn
    rw [alk.mono]
    exact key hn
def L9 (look : fh) : Nat → dw
  | 0 => []
  | n + 1 =>
    match look n with
    | some p => (n, p.1, p.2) :: L9 look n
    | none => L9 look n
theorem G6 (look : fh) (f : Nat) : ∀ n, (L9 look n).find f = if f < n then look f else none
  | 0 => by simp [L9, dw.find]
  | n + 1 => by
    rw [L9]
    cases hl : look n with
    | some p =>
      simp only [dw.find]
      by_cases e : n = f
      · subst e; simp [hl]
      · rw [ll e, cond_false, G6 look f n]
        by_cases h : f < n
        · rw [if_pos h, if_pos (by omega)]
        · rw [if_neg h, if_neg (by omega)]
    | none =>
      simp only
      rw [G6 look f n]
      by_cases h : f < n
      · rw [if_pos h, if_pos (by omega)]
      · rw [if_neg h]
        by_cases e : f = n
        · subst e; rw [if_pos (by omega), hl]
        · rw [if_neg (by omega)]
def si (look : fh) : dw := L9 look G7
theorem V5 (look : fh) (f : Nat) : (si look).find f = bif Nat.blt f G7 then look f else none := by
  rw [si, G6]
  by_cases h : f < G7
  · rw [if_pos h, show Nat.blt f G7 = true from by simpa using h]; rfl
  · rw [if_neg h, show Nat.blt f G7 = false from by cases hb : Nat.blt f G7 with | false => rfl | true => exact (h (by simpa using hb)).elim]; rfl
theorem ao6 (look : fh) : P6 look = ru (si look) := by
  funext f args
  unfold P6 ru
  rw [V5]
  cases Nat.blt f G7 with
  | false => rfl
  | true => cases look f <;> rfl
theorem Pq (P : Program) (look : fh) : Ea P look = fi P (si look) := by
  have h1 : Ch look = Ls (si look) := by funext g args; unfold Ch Ls; rw [ao6]; rfl
  have h2 : Li look = tn (si look) := by funext f args; unfold Li tn; rw [h1]; rfl
  funext o ρ
  unfold Ea fi
  rw [h2]
  rfl
def C9 (P : Program) (look : fh) (ops : Array Oper) (o : Oper) (L : SL) (st : St) : Option (SL × St) :=
  match xb ops L o with
  | some true =>
    match (kp P o).run look (cg L) st with
    | some (v, st') => some (gp o.dst v L, st')
    | none => none
  | some false => some (gp o.dst (.sc undef) L, st)
  | none => none
structure XO where
  run : fh → SL → St → Option (SL × St)
def ajz (P : Program) (o : Oper) (d : Nat) : XO :=
  match o.op with
  | .move x => ⟨fun _ L st => some ((d, cg L x) :: L, st)⟩
  | .assign x => ⟨fun _ L st => some ((d, cg L x) :: L, st)⟩
  | _ => ⟨fun look L st => Option.rec (motive := fun _ => Option (SL × St)) none (fun p => some ((d, p.1) :: L, p.2)) ((kp P o).run look (cg L) st)⟩
def y6 (P : Program) (ops : Array Oper) (o : Oper) : XO :=
  match o.guard with
  | none =>
    match o.dst with
    | some d => ajz P o d
    | none => ⟨fun look L st => Option.rec (motive := fun _ => Option (SL × St)) none (fun p => some (L, p.2)) ((kp P o).run look (cg L) st)⟩
  | some _ => ⟨fun look L st => C9 P look ops o L st⟩
theorem Hv (P : Program) (look : fh) (ops : Array Oper) (o : Oper) (L : SL) (st : St) : (y6 P ops o).run look L st = C9 P look ops o L st := by
  unfold y6
  cases hg : o.guard with
  | some q => rfl
  | none =>
    have hx : C9 P look ops o L st = match (kp P o).run look (cg L) st with
        | some (v, st') => some (gp o.dst v L, st')
        | none => none := by
      unfold C9 xb
      rw [hg]
    rw [hx]
    cases hd : o.dst with
    | none =>
      show Option.rec (motive := fun _ => Option (SL × St)) none (fun p => some (L, p.2)) ((kp P o).run look (cg L) st) = _
      cases (kp P o).run look (cg L) st <;> rfl
    | some d =>
      show (ajz P o d).run look L st = _
      unfold ajz
      cases ho : o.op with
      | move x => rw [show (kp P o).run look (cg L) st = some (cg L x, st) from by unfold kp; rw [ho]; rfl]; rfl
      | assign x => rw [show (kp P o).run look (cg L) st = some (cg L x, st) from by unfold kp; rw [ho]; rfl]; rfl
      | _ =>
        show Option.rec (motive := fun _ => Option (SL × St)) none (fun p => some ((d, p.1) :: L, p.2)) ((kp P o).run look (cg L) st) = _
        cases (kp P o).run look (cg L) st <;> rfl
theorem Z6 {P look ops o L st r} (h : (y6 P ops o).run look L st = some r) : C9 P look ops o L st = some r := by rw [← Hv]; exact h
def r9 (P : Program) (ops : Array Oper) (l : List Oper) : XO :=
  List.rec (motive := fun _ => XO) ⟨fun _ L st => some (L, st)⟩ (fun o _ ih => ⟨fun look L st =>
    Option.rec (motive := fun _ => Option (SL × St)) none (fun p => ih.run look p.1 p.2) ((y6 P ops o).run look L st)⟩) l
theorem Fp (P : Program) (look : fh) (ops : Array Oper) (o : Oper) (l : List Oper) (L : SL) (st : St) : (r9 P ops (o :: l)).run look L st = (match (y6 P ops o).run look L st with | some p => (r9 P ops l).run look p.1 p.2 | none => none) := by
  show Option.rec (motive := fun _ => Option (SL × St)) none (fun p => (r9 P ops l).run look p.1 p.2) ((y6 P ops o).run look L st) = _
  cases (y6 P ops o).run look L st <;> rfl
theorem am8 {P : Program} {look : fh} {ops : Array Oper} {t : Nat} : ∀ (l : List Oper) (L : SL) (st : St) (p : SL × St), (r9 P ops l).run look L st = some p → (∀ o ∈ l, o.dst ≠ some t) → lk p.1 t = lk L t := by
  intro l
  induction l with
  | nil => intro L st p h _; cases h; rfl
  | cons o l ih =>
    intro L st p h hn
    rw [Fp] at h
    cases h1 : (y6 P ops o).run look L st with
    | none => rw [h1] at h; cases h
    | some q =>
      rw [h1] at h
      rw [ih _ _ p h (fun o ho => hn o (by simp [ho]))]
      have h2 := Z6 h1
      have hq : ∃ v, q.1 = gp o.dst v L := by
        unfold C9 at h2
        split at h2
        · split at h2
          · cases h2; exact ⟨_, rfl⟩
          · cases h2
        · cases h2; exact ⟨_, rfl⟩
        · cases h2
      obtain ⟨v, hv⟩ := hq
      rw [hv, Tw, if_neg (hn o (by simp))]
def hasB (s t : Nat) : Bool := Nat.beq (Nat.land (Nat.shiftRight s t) 1) 1
def Kl (s t : Nat) : Nat := Nat.lor s (Nat.shiftLeft 1 t)
def oy (ks : List Nat) (L L0 : SL) : SL := List.rec (motive := fun _ => SL) L0 (fun t _ ih => (t, lk L t) :: ih) ks
theorem Ps (L L0 : SL) (t : Nat) : ∀ ks, lk (oy ks L L0) t = if t ∈ ks then lk L t else lk L0 t
  | [] => by simp [oy]
  | k :: ks => by
    show lk ((k, lk L k) :: oy ks L L0) t = _
    rw [mn, Ps L L0 t ks]
    by_cases e : k = t
    · subst e; simp
    · rw [if_neg e]
      simp only [List.mem_cons, Ne.symm e, false_or]
def m8 (L : SL) : Nat → SL := List.rec (motive := fun _ => Nat → SL) (fun _ => []) (fun p _ ih s => Bool.rec (motive := fun _ => SL) (p :: ih (Kl s p.1)) (ih s) (hasB s p.1)) L
theorem akj (s t u : Nat) : hasB (Kl s t) u = (hasB s u || decide (t = u)) := by
  have key : ∀ s u, hasB s u = s.testBit u := by
    intro s u
    unfold hasB
    rw [Nat.testBit]
    show Nat.beq ((s >>> u) &&& 1) 1 = _
    rw [Nat.and_comm]
    have : 1 &&& (s >>> u) < 2 := Nat.lt_of_le_of_lt Nat.and_le_left (by omega)
    rcases (by omega : 1 &&& (s >>> u) = 0 ∨ 1 &&& (s >>> u) = 1) with h | h <;> rw [h] <;> rfl
  rw [key, key]
  show (s ||| (1 <<< t)).testBit u = _
  rw [Nat.testBit_or, Nat.shiftLeft_eq, Nat.one_mul, Nat.testBit_two_pow]
theorem Jd (t : Nat) : ∀ (L : SL) (s : Nat), lk (m8 L s) t = bif hasB s t then .bad else lk L t
  | [], s => by cases h : hasB s t <;> rfl
  | p :: L, s => by
    obtain ⟨k, v⟩ := p
    show lk (Bool.rec (motive := fun _ => SL) ((k, v) :: m8 L (Kl s k)) (m8 L s) (hasB s k)) t = _
    rw [mn]
    cases hk : hasB s k with
    | true =>
      show lk (m8 L s) t = _
      rw [Jd t L s]
      by_cases e : k = t
      · subst e; rw [hk]; rfl
      · rw [if_neg e]
    | false =>
      show lk ((k, v) :: m8 L (Kl s k)) t = _
      rw [mn, Jd t L, akj]
      by_cases e : k = t
      · subst e; rw [if_pos rfl, if_pos rfl, hk]; rfl
      · rw [if_neg e, if_neg e, decide_eq_false e, Bool.or_false]
def U1 (L' L : SL) : Prop := ∀ t, lk L' t = lk L t ∨ lk L' t = .bad
theorem dx.less {g w nt L L' tmps} (h : dx g w nt L tmps) (hl : U1 L' L) : dx g w nt L' tmps :=
  ⟨h.1, fun t => by rcases hl t with e | e <;> rw [e]; exact h.2 t; exact .bad _⟩
def ln (ex : Nat) (L : SL) : Prop := ∀ t, hasB ex t = false → lk L t = .bad
def mf (ex : Nat) (ops : Array Oper) : List Nat := (ops.toList.filterMap (·.dst)).filter (hasB ex)
theorem As {ex : Nat} {ops : Array Oper} {L L0 : SL} (hw : ln ex L0) (hlk : ∀ t, (∀ o ∈ ops.toList, o.dst ≠ some t) → lk L t = lk L0 t) : U1 (oy (mf ex ops) L L0) L ∧ ln ex (oy (mf ex ops) L L0) := by
  have hm : ∀ t, t ∈ mf ex ops ↔ (∃ o ∈ ops.toList, o.dst = some t) ∧ hasB ex t = true := by
    intro t; simp [mf, List.mem_filter, List.mem_filterMap]
  refine ⟨fun t => ?_, fun t ht => ?_⟩
  · rw [Ps]
    by_cases h : t ∈ mf ex ops
    · rw [if_pos h]; exact .inl rfl
    · rw [if_neg h]
      cases hx : hasB ex t with
      | false => exact .inr (hw t hx)
      | true =>
        refine .inl (hlk t fun o ho e => h ((hm t).2 ⟨⟨o, ho, e⟩, hx⟩)).symm
  · rw [Ps, if_neg (fun h => by have := ((hm t).1 h).2; rw [ht] at this; cases this)]
    exact hw t ht
def sh {α : Type} (m : M α) : M (α × List Nat × List Nat) := fun st =>
  match m { h := st.h, nx := st.nx, rl := [], wl := [] } with
  | some p => some ((p.1, p.2.rl, p.2.wl), { h := p.2.h, nx := p.2.nx, rl := p.2.rl ++ st.rl, wl := p.2.wl ++ st.wl })
  | none => none
def ox (P : Program) (look : fh) (ops : Array Oper) (l : List Oper) : List Rec → SL → St → Option (List Rec × SL × St) :=
  List.rec (motive := fun _ => List Rec → SL → St → Option (List Rec × SL × St)) (fun recs L st => some (recs, L, st)) (fun o _ ih recs L st =>
    match u3 ops L o with
    | some true =>
      match sh ((kp P o).run look (bt o L)) st with
      | some p => bif Nat.ble p.2.nx bw then ih (recs ++ [⟨p.1.2.1, p.1.2.2⟩]) (gp o.dst p.1.1 L) p.2 else none
      | none => none
    | some false => ih (recs ++ [⟨[], []⟩]) (gp o.dst (.sc undef) L) st
    | none => none) l
def Lw (o : Oper) (u : Nat) : Bool := o.op.operands.any fun x => match x with | .tmp t => Nat.beq t u | _ => false
def Q8 (ops : Array Oper) (i : Nat) (o : Oper) : Bool := ops.toList.zipIdx.all fun r => Nat.blt r.2 i || (match r.1.dst with | some d => !(Lw o d) | none => true)
def aou (p : Nat) (a : AV) : Bool := match a with | .mp q => Nat.beq q p | _ => false
def Me (P : Program) (ops : Array Oper) (L : SL) (p k0 i : Nat) (o : Oper) : Option Lit :=
  match o.op, o.dst, o.guard with
  | .insert t m k x, none, none =>
    match P.underlying t with
    | some (.map kt _) =>
      match P.underlying kt, (cg L k).fm with
      | some d, some key =>
        match ev P (Instr.checkKey false 10000 kt key) with
        | some _ => bif (aou p (cg L m) && ((Region.before ops).getD i 0).testBit k0) && Q8 ops i o then some ⟨i, d, (key, cg L x)⟩ else none
        | none => none
      | _, _ => none
    | _ => none
  | _, _, _ => none
def Ic (f : Nat → Oper → Option Lit) : List Oper → Nat → Option (List Lit)
  | [], _ => some []
  | o :: r, i =>
    bif ti o then
      match f i o, Ic f r (i + 1) with
      | some q, some l => some (q :: l)
      | _, _ => none
    else Ic f r (i + 1)
def isFalse (b : Option Bool) : Bool := match b with | some false => true | _ => false
def Yf (ops : Array Oper) (recs : List Rec) (p k0 : Nat) (lits : List Lit) : Bool :=
  (lits.all (fun q => lits.all fun r => Nat.beq q.i r.i || (m7 q.e.1 r.e.1 && isFalse (Instr.sameNow q.d q.e.1 r.e.1))) && Nat.ble p bw) &&
  ((recs.zipIdx.all fun r => Nat.beq r.2 k0 || (!(vw p r.1.R) && !(vw p r.1.W))) && (match ops[k0]? with | some o => !(ti o) | none => false))
def T8 (p : Nat) : List Rec → Nat → Option Nat
  | [], _ => none
  | a :: r, i => bif vw p a.W then some i else T8 p r (i + 1)
def Lb (l : List Oper) : Option Oper := List.rec (motive := fun _ => Option Oper) none (fun o _ ih => bif ti o then some o else ih) l
def alo (p : Nat) (lits : List Lit) (x : ba) : M Unit :=
  match x with
  | .map [] => ir p (.map (lits.map (·.e)))
  | _ => M.fail
def aau (P : Program) (ops : Array Oper) (recs : List Rec) (L : SL) (p : Nat) : M Unit :=
  match T8 p recs 0 with
  | some k0 =>
    match Ic (Me P ops L p k0) ops.toList 0 with
    | some lits => bif Yf ops recs p k0 lits then (cj p).bind (alo p lits) else M.fail
    | none => M.fail
  | none => M.fail
def ov (P : Program) (ops : Array Oper) (recs : List Rec) (L : SL) : M Unit :=
  match Lb ops.toList with
  | none => M.pure ()
  | some o =>
    match o.op with
    | .insert _ m _ _ =>
      match cg L m with
      | .mp p => aau P ops recs L p
      | _ => M.fail
    | _ => M.fail
end
end Go.Vm
namespace Go.Vm
noncomputable section
def ae {α : Type} (m : M α) : Prop :=
  ∀ st a bc, rq st → m st = some (a, bc) →
    st.nx ≤ bc.nx ∧ ∃ r w, bc.rl = r ++ st.rl ∧ bc.wl = w ++ st.wl ∧ (∀ o ∈ w, o < bc.nx) ∧ (∀ o, st.nx ≤ o → o < bc.nx → o ∈ w) ∧ (∀ o, o ∉ w → bc.h.get o = st.h.get o) ∧
      ∀ h' rl' wl', (∀ o x, h'.get o = some x → o < st.nx) → (∀ o, o ∈ r ∨ o ∈ w → h'.get o = st.h.get o) →
        ∃ h1', m { h := h', nx := st.nx, rl := rl', wl := wl' } = some (a, { h := h1', nx := bc.nx, rl := r ++ rl', wl := w ++ wl' }) ∧ ∀ o, h1'.get o = if o ∈ w then bc.h.get o else h'.get o
theorem ae.low {α : Type} {m : M α} (h : ae m) {st bc a} (hl : rq st) (hm : m st = some (a, bc)) : rq bc := by
  obtain ⟨h1, r, w, _, _, h2, _, h3, _⟩ := h st a bc hl hm
  intro o x hx
  by_cases ho : o ∈ w
  · exact h2 o ho
  · rw [h3 o ho] at hx; exact Nat.lt_of_lt_of_le (hl o x hx) h1
theorem ae.pure {α : Type} (a : α) : ae (M.pure a) := fun st b bc hl h => by
  cases h
  exact ⟨Nat.le_refl _, [], [], rfl, rfl, (fun o ho => by cases ho), (fun o h1 h2 => by omega), (fun _ _ => rfl), fun h' rl' wl' _ _ => ⟨h', rfl, fun o => by simp⟩⟩
theorem ae.fail {α : Type} : ae (M.fail : M α) := fun st b bc _ h => by cases h
theorem ae.of {α : Type} (a : Option α) : ae (M.of a) := by cases a; exact ae.fail; exact ae.pure _
theorem ae.cond {α : Type} {b : Bool} {x y : M α} (hx : ae x) (hy : ae y) : ae (bif b then x else y) := by cases b <;> assumption
theorem ae.bind {α β : Type} {m : M α} {f : α → M β} (hm : ae m) (hf : ∀ x, ae (f x)) : ae (m.bind f) := fun st b st2 hl h => by
  obtain ⟨a, bc, h1, h2⟩ := bind_some h
  have hl1 := hm.low hl h1
  obtain ⟨k1, r1, w1, k2, k3, k4, k5, k6, k7⟩ := hm st a bc hl h1
  obtain ⟨q1, r2, w2, q2, q3, q4, q5, q6, q7⟩ := hf a bc b st2 hl1 h2
  refine ⟨Nat.le_trans k1 q1, r2 ++ r1, w2 ++ w1, by rw [q2, k2, List.append_assoc], by rw [q3, k3, List.append_assoc], fun o ho => ?_, fun o h3 h4 => ?_, fun o ho => ?_, fun h' rl' wl' hl' ha => ?_⟩
  · rcases List.mem_append.1 ho with ho | ho
    · exact q4 o ho
    · exact Nat.lt_of_lt_of_le (k4 o ho) q1
  · rcases Nat.lt_or_ge o bc.nx with h5 | h5
    · exact List.mem_append.2 (.inr (k5 o h3 h5))
    · exact List.mem_append.2 (.inl (q5 o h5 h4))
  · rw [q6 o (fun h => ho (List.mem_append.2 (.inl h))), k6 o (fun h => ho (List.mem_append.2 (.inr h)))]
  · obtain ⟨h1', e1, e2⟩ := k7 h' rl' wl' hl' (fun o ho => ha o (ho.imp (fun h => List.mem_append.2 (.inr h)) (fun h => List.mem_append.2 (.inr h))))
    have hlo1 : ∀ o x, h1'.get o = some x → o < bc.nx := fun o x hx => by
      rw [e2] at hx
      by_cases ho : o ∈ w1
      · exact k4 o ho
      · rw [if_neg ho] at hx; exact Nat.lt_of_lt_of_le (hl' o x hx) k1
    obtain ⟨h2', e3, e4⟩ := q7 h1' (r1 ++ rl') (w1 ++ wl') hlo1 (fun o ho => by
      rw [e2]
      by_cases hw : o ∈ w1
      · rw [if_pos hw]
      · rw [if_neg hw, k6 o hw]
        exact ha o (ho.imp (fun h => List.mem_append.2 (.inl h)) (fun h => List.mem_append.2 (.inl h))))
    refine ⟨h2', ?_, fun o => ?_⟩
    · show M.bind m f _ = _
      unfold M.bind
      rw [e1]
      simp only
      rw [e3, List.append_assoc, List.append_assoc]
    · rw [e4]
      by_cases h5 : o ∈ w2
      · rw [if_pos h5, if_pos (List.mem_append.2 (.inl h5))]
      · rw [if_neg h5, e2]
        by_cases h6 : o ∈ w1
        · rw [if_pos h6, if_pos (List.mem_append.2 (.inr h6)), q6 o h5]
        · rw [if_neg h6, if_neg (fun h => by rcases List.mem_append.1 h with h | h; exact h5 h; exact h6 h)]
theorem ae.mono {α : Type} {m : M α} (h : ae m) : ae (Vm.mono m) := fun st a bc hl hm => by
  obtain ⟨h1, h2⟩ := x7 hm
  obtain ⟨k1, r, w, k2, k3, k4, k5, k6, k7⟩ := h st a bc hl h1
  refine ⟨k1, r, w, k2, k3, k4, k5, k6, fun h' rl' wl' hl' ha => ?_⟩
  obtain ⟨h1', e1, e2⟩ := k7 h' rl' wl' hl' ha
  refine ⟨h1', ?_, e2⟩
  unfold Vm.mono
  rw [e1]
  simp only
  rw [show Nat.ble st.nx bc.nx = true from Nat.ble_eq_true_of_le k1]
  rfl
theorem ae.cj (id : Nat) : ae (Vm.cj id) := fun st a bc hl h => by
  unfold Vm.cj at h
  cases hx : st.h.get id with
  | none => rw [hx] at h; cases h
  | some x =>
    rw [hx] at h
    cases h
    refine ⟨Nat.le_refl _, [id], [], rfl, rfl, (fun o ho => by cases ho), (fun o h1 h2 => by simp at h2; omega), (fun _ _ => rfl), fun h' rl' wl' _ ha => ⟨h', ?_, fun o => by simp⟩⟩
    unfold Vm.cj
    simp only [ha id (.inl (by simp)), hx]
    rfl
theorem ae.ir (id : Nat) (x : ba) : ae (Vm.ir id x) := fun st a bc hl h => by
  unfold Vm.ir at h
  cases hx : st.h.get id with
  | none => rw [hx] at h; cases h
  | some y =>
    rw [hx] at h
    cases hb : Nat.ble id bw with
    | false => rw [hb] at h; cases h
    | true =>
      rw [hb] at h
      cases h
      have hlt := Nat.le_of_ble_eq_true hb
      refine ⟨Nat.le_refl _, [], [id], rfl, rfl, (fun o ho => by simp at ho; subst ho; exact hl _ y hx), (fun o h1 h2 => by simp at h2; omega), (fun o ho => by simp at ho; simp only; rw [en _ _ _ _ hlt, if_neg ho]), fun h' rl' wl' _ ha => ⟨h'.set depth id (some x), ?_, fun o => ?_⟩⟩
      · unfold Vm.ir
        simp only [ha id (.inr (by simp)), hx, hb, cond_true]
        rfl
      · simp only [en _ _ _ _ hlt, List.mem_singleton]
        by_cases e : o = id
        · rw [if_pos e, if_pos e, if_pos e]
        · rw [if_neg e, if_neg e]
theorem ae.uz (id : Nat) : ae (Vm.uz id) := fun st a bc hl h => by
  unfold Vm.uz at h
  cases hx : st.h.get id with
  | none => rw [hx] at h; cases h
  | some y =>
    rw [hx] at h
    cases hb : Nat.ble id bw with
    | false => rw [hb] at h; cases h
    | true =>
      rw [hb] at h
      cases h
      have hlt := Nat.le_of_ble_eq_true hb
      refine ⟨Nat.le_refl _, [], [id], rfl, rfl, (fun o ho => by simp at ho; subst ho; exact hl _ y hx), (fun o h1 h2 => by simp at h2; omega), (fun o ho => by simp at ho; simp only; rw [en _ _ _ _ hlt, if_neg ho]), fun h' rl' wl' _ ha => ⟨h'.set depth id none, ?_, fun o => ?_⟩⟩
      · unfold Vm.uz
        simp only [ha id (.inr (by simp)), hx, hb, cond_true]
        rfl
      · simp only [en _ _ _ _ hlt, List.mem_singleton]
        by_cases e : o = id
        · rw [if_pos e, if_pos e, if_pos e]
        · rw [if_neg e, if_neg e]
theorem ae.g9 (x : ba) : ae (Vm.g9 x) := fun st a bc hl h => by
  unfold Vm.g9 at h
  cases hb : Nat.ble st.nx bw with
  | false => rw [hb] at h; cases h
  | true =>
    rw [hb] at h
    cases h
    have hlt := Nat.le_of_ble_eq_true hb
    refine ⟨Nat.le_succ _, [], [st.nx], rfl, rfl, (fun o ho => by simp at ho; subst ho; exact Nat.lt_succ_self _), (fun o h1 h2 => by simp at h2 ⊢; omega), (fun o ho => by simp at ho; simp only; rw [en _ _ _ _ hlt, if_neg ho]), fun h' rl' wl' _ ha => ⟨h'.set depth st.nx (some x), ?_, fun o => ?_⟩⟩
    · unfold Vm.g9
      simp only [hb, cond_true]
      rfl
    · simp only [en _ _ _ _ hlt, List.mem_singleton]
      by_cases e : o = st.nx
      · rw [if_pos e, if_pos e, if_pos e]
      · rw [if_neg e, if_neg e]
theorem ae.sh {α : Type} {m : M α} (h : ae m) : ae (Vm.sh m) := fun st a bc hl hm => by
  unfold Vm.sh at hm
  cases h1 : m { h := st.h, nx := st.nx, rl := [], wl := [] } with
  | none => rw [h1] at hm; cases hm
  | some p =>
    rw [h1] at hm
    cases hm
    obtain ⟨k1, r, w, k2, k3, k4, k5, k6, k7⟩ := h { h := st.h, nx := st.nx, rl := [], wl := [] } p.1 p.2 hl h1
    rw [List.append_nil] at k2 k3
    refine ⟨k1, r, w, by simp only [k2], by simp only [k3], k4, k5, k6, fun h' rl' wl' hl' ha => ?_⟩
    obtain ⟨h1', e1, e2⟩ := k7 h' [] [] hl' ha
    refine ⟨h1', ?_, e2⟩
    unfold Vm.sh
    simp only at e1 ⊢
    rw [e1]
    simp only [List.append_nil, k2, k3]
theorem ae.cellsIn (sz : Nat) (v : AV) : ae (Vm.cellsIn sz v) := by
  unfold Vm.cellsIn xk
  repeat' (first | exact ae.pure _ | exact ae.fail | exact ae.cj _ | apply ae.cond | (refine ae.bind ?_ fun x => ?_) | split)
theorem ae.y5 {P : Program} {ρ : Operand → AV} {o : Oper} {l : List Operand} : ae (gx P ρ o l) := by unfold gx; exact ae.cond (ae.of _) ae.fail
theorem ae.bx {t : TypeId} {x : AV} : ae (xa t x) := by
  unfold xa
  repeat' (first | exact ae.pure _ | exact ae.fail | exact ae.g9 _ | apply ae.cond | (refine ae.bind ?_ fun x => ?_) | split)
theorem ait {P : Program} {o : Oper} {ρ : Operand → AV} : ae (A7 P o ρ) := by
  unfold A7
  cases ho : o.op with
  | move x => exact ae.pure _
  | assign x => exact ae.pure _
  | load t a =>
    show ae (ja P t (ρ a))
    unfold ja z8
    repeat' (first | exact ae.pure _ | exact ae.fail | exact ae.of _ | exact ae.cj _ | (refine ae.bind ?_ fun x => ?_) | split)
  | fieldAddr s x f =>
    show ae (j9 P s (ρ x) f)
    unfold j9
    repeat' (first | exact ae.pure _ | exact ae.fail | exact ae.of _ | apply ae.cond | split)
  | binOp op t x y u =>
    show ae (w9 P ρ o op t x y)
    have he : ∀ a b, ae (ml P ρ o op t a b) := fun a b => by
      unfold ml Ej Tb Ce Yl Yk Rl Lt nn
      repeat' (first | exact ae.pure _ | exact ae.fail | exact ae.of _ | exact ae.cj _ | apply ae.cond | (refine ae.bind ?_ fun x => ?_) | split)
    unfold w9 Cj Kk
    repeat' (first | exact he _ _ | exact ae.pure _ | exact ae.fail | exact ae.of _ | apply ae.cond | split)
  | pick c a b =>
    show ae (uc (ρ c) (ρ a) (ρ b))
    unfold uc
    repeat' (first | exact ae.pure _ | exact ae.fail | split)
  | store t a x =>
    show ae (oh P t (ρ a) (ρ x))
    unfold oh xp
    repeat' (first | exact ae.pure _ | exact ae.fail | exact ae.cj _ | exact ae.ir _ _ | apply ae.cond | (refine ae.bind ?_ fun x => ?_) | split)
  | mapUpdate t m k x =>
    show ae (nf P t (ρ m) (ρ k) (ρ x))
    unfold nf sx
    repeat' (first | exact ae.pure _ | exact ae.fail | exact ae.cj _ | exact ae.ir _ _ | apply ae.cond | (refine ae.bind ?_ fun x => ?_) | split)
  | insert t m k x =>
    show ae (nf P t (ρ m) (ρ k) (ρ x))
    unfold nf sx
    repeat' (first | exact ae.pure _ | exact ae.fail | exact ae.cj _ | exact ae.ir _ _ | apply ae.cond | (refine ae.bind ?_ fun x => ?_) | split)
  | extract t ix =>
    show ae (mo (ρ t) ix)
    unfold mo
    repeat' (first | exact ae.pure _ | exact ae.fail | exact ae.of _ | split)
  | indexAddr t x ix =>
    show ae (j8 P t (ρ x) (ρ ix))
    unfold j8 uk
    repeat' (first | exact ae.pure _ | exact ae.fail | exact ae.of _ | apply ae.cond | split)
  | nilCheck x =>
    show ae (jr (ρ x))
    unfold jr
    repeat' (first | exact ae.pure _ | exact ae.fail | split)
  | alloc t =>
    show ae (qk P t)
    unfold qk
    split
    · exact ae.fail
    · exact ae.bx
  | box t x => exact ae.bx
  | build t ps =>
    show ae (pq P t _)
    unfold pq
    repeat' (first | exact ae.pure _ | exact ae.fail | exact ae.of _ | split)
  | buildSlice t len ps =>
    show ae (jc P t len _)
    unfold jc ke
    repeat' (first | exact ae.g9 _ | exact ae.pure _ | exact ae.fail | exact ae.of _ | apply ae.cond | (refine ae.bind ?_ fun x => ?_) | split)
  | makeSlice t l c =>
    show ae (ph P t (ρ l) (ρ c))
    unfold ph ke
    repeat' (first | exact ae.g9 _ | exact ae.pure _ | exact ae.fail | exact ae.of _ | apply ae.cond | (refine ae.bind ?_ fun x => ?_) | split)
  | makeMap t r =>
    show ae (v8 r)
    unfold v8
    repeat' (first | exact ae.g9 _ | exact ae.pure _ | exact ae.fail | (refine ae.bind ?_ fun x => ?_) | split)
  | makeFunc f a b => exact ae.pure _
  | convert src dst x =>
    show ae (oa P ρ o src dst (ρ x))
    have he : ae (rm P ρ o (ρ x)) := by unfold rm; split; exact ae.of _; exact ae.fail
    unfold oa n5
    repeat' (first | exact he | exact ae.fail | split)
    · unfold Ct; repeat' (first | exact ae.g9 _ | exact ae.pure _ | exact ae.fail | apply ae.cond | (refine ae.bind ?_ fun x => ?_) | split)
    · unfold Fx Am; repeat' (first | exact ae.cellsIn _ _ | exact ae.pure _ | exact ae.fail | apply ae.cond | (refine ae.bind ?_ fun x => ?_) | split)
    · unfold Kx Hs; repeat' (first | exact ae.cj _ | exact ae.pure _ | exact ae.fail | apply ae.cond | (refine ae.bind ?_ fun x => ?_) | split)
    · unfold Jf G8; repeat' (first | exact ae.cj _ | exact ae.pure _ | exact ae.fail | apply ae.cond | (refine ae.bind ?_ fun x => ?_) | split)
    · unfold Ck; repeat' (first | exact ae.pure _ | exact ae.fail | split)
  | makeInterface t x =>
    show ae (kj P t (ρ x))
    unfold kj
    repeat' (first | exact ae.pure _ | exact ae.fail | split)
  | field s x f =>
    show ae (se P s (ρ x) f)
    unfold se
    repeat' (first | exact ae.pure _ | exact ae.fail | exact ae.of _ | split)
  | index t x ix =>
    show ae (sa P ρ o t x ix)
    unfold sa
    repeat' (first | exact ae.y5 | exact ae.pure _ | exact ae.fail | exact ae.of _ | apply ae.cond | split)
  | slice t x lo hi mx =>
    show ae (qi P ρ o t x lo hi mx)
    unfold qi Pu
    repeat' (first | exact ae.y5 | exact ae.cj _ | exact ae.pure _ | exact ae.fail | exact ae.of _ | apply ae.cond | (refine ae.bind ?_ fun x => ?_) | split)
  | lookup t x ix ok =>
    show ae (v5 P t (ρ x) (ρ ix) ok)
    unfold v5 Bp found
    repeat' (first | exact ae.cj _ | exact ae.pure _ | exact ae.fail | exact ae.of _ | apply ae.cond | (refine ae.bind ?_ fun x => ?_) | split)
  | typeAssert x t a ok =>
    show ae (nw P ρ o (ρ x) a ok)
    unfold nw
    repeat' (first | exact ae.pure _ | exact ae.fail | exact ae.of _ | apply ae.cond | split)
  | unOp op t x => exact ae.y5
  | call c =>
    obtain ⟨callee, args, ts⟩ := c
    cases callee with
    | value f => exact ae.fail
    | invoke r m => exact ae.fail
    | builtin b =>
      show ae (so P ρ o b args.toList ts)
      unfold so
      split <;> first | exact ae.fail | exact ae.y5 | skip
      · unfold qo Z9
        repeat' (first | exact ae.cj _ | exact ae.pure _ | exact ae.fail | (refine ae.bind ?_ fun x => ?_) | split)
      · have ha : ∀ e sz bytes s new, ae (nh e sz bytes s new) := fun e sz bytes s new => by
          unfold nh x9 ke
          repeat' (first | exact ae.cj _ | exact ae.g9 _ | exact ae.uz _ | exact ae.pure _ | exact ae.fail | apply ae.cond | (refine ae.bind ?_ fun x => ?_) | split)
        unfold mh
        repeat' (first | exact ha _ _ _ _ _ | exact ae.cellsIn _ _ | exact ae.pure _ | exact ae.fail | apply ae.cond | (refine ae.bind ?_ fun x => ?_) | split)
      · unfold Gp Mg
        repeat' (first | exact ae.cj _ | exact ae.ir _ _ | exact ae.cellsIn _ _ | exact ae.pure _ | exact ae.fail | apply ae.cond | (refine ae.bind ?_ fun x => ?_) | split)
      · unfold Ai A8
        repeat' (first | exact ae.cj _ | exact ae.ir _ _ | exact ae.pure _ | exact ae.fail | apply ae.cond | (refine ae.bind ?_ fun x => ?_) | split)
      · unfold A0
        repeat' (first | exact ae.pure _ | exact ae.fail | split)
      · unfold ux
        repeat' (first | exact ae.pure _ | exact ae.fail | apply ae.cond | split)
      · unfold pr Ka
        repeat' (first | exact ae.cj _ | exact ae.ir _ _ | exact ae.pure _ | exact ae.fail | apply ae.cond | (refine ae.bind ?_ fun x => ?_) | split)
  | _ => exact ae.fail
def jf (look : fh) : Prop := ∀ f p, look f = some p → ∀ args, ae (p.2 args)
theorem yr {P : Program} {look : fh} {o : Oper} {ρ : Operand → AV} (h : ae (Ea P look o ρ)) : ae ((kp P o).run look ρ) := by rw [H7]; exact h
theorem zb {P : Program} {look : fh} (hl : jf look) {o : Oper} {ρ : Operand → AV} : ae (Ea P look o ρ) := by
  have hcall : ∀ g args, ae (P6 look g args) := by
    intro g args
    unfold P6
    refine ae.cond ?_ ae.fail
    split
    · rename_i p hp; exact (hl g p hp args).mono
    · exact ae.fail
  have hfn : ∀ g args, ae (Ch look g args) := by
    intro g args
    unfold Ch
    split
    · exact hcall _ _
    · exact ae.fail
  unfold Ea
  split
  · unfold Li
    split
    · exact hfn _ _
    · split
      · exact hfn _ _
      · exact ae.fail
    · exact ae.fail
  · exact ait.mono
theorem ae.congr {α : Type} {m m' : M α} (h : ae m) (e : ∀ st, m' st = m st) : ae m' := by
  rw [show m' = m from funext e]; exact h
theorem Cu {P : Program} {look : fh} (hl : jf look) (ops : Array Oper) (o : Oper) (L : SL) : ae (α := SL) ((y6 P ops o).run look L) := by
  cases hg : xb ops L o with
  | none => exact ae.fail.congr (fun st => by rw [Hv]; unfold C9; rw [hg]; rfl)
  | some b =>
    cases b with
    | false => exact (ae.pure (gp o.dst (.sc undef) L)).congr (fun st => by rw [Hv]; unfold C9; rw [hg]; rfl)
    | true =>
      refine (ae.bind (yr (zb (P := P) hl (o := o) (ρ := cg L))) (fun v => ae.pure (gp o.dst v L))).congr (fun st => ?_)
      rw [Hv]
      show C9 P look ops o L st = M.bind _ _ st
      unfold C9 M.bind
      rw [hg]
      simp only
      cases (kp P o).run look (cg L) st <;> rfl
theorem Ik {P : Program} {look : fh} (hl : jf look) (ops : Array Oper) : ∀ (l : List Oper) (L : SL), ae (α := SL) ((r9 P ops l).run look L) := by
  intro l
  induction l with
  | nil => intro L; exact ae.pure L
  | cons o l ih =>
    intro L
    refine (ae.bind (Cu (P := P) hl ops o L) (fun L' => ih L')).congr (fun st => ?_)
    rw [Fp]
    unfold M.bind
    cases (y6 P ops o).run look L st <;> rfl
theorem aiw {P : Program} {look : fh} (hT : nc P (si look)) (hl : jf look) {ops : Array Oper} {ro : Option Nat} {N : Nat} {B : ft} {nt : Nat} {Q : Exit → Act → World → Prop} (hg : oi nt ops = true) (hd : uf nt ops = true) {p : SL × St}
    (rest : List Nat) (hK : ∀ g w (a : Act), fl B g p.2 w → dx g w nt p.1 a.tmps → Marks B.n0 p.2.h g w a.defers → wpOpsIn (fu ro) N P ops Q rest a w) :
    ∀ (l : List Oper) (is : List Nat), (∀ o ∈ l, o ∈ ops) → is.map (fun i => ops[i]?) = l.map some → ∀ L st g w a, (r9 P ops l).run look L st = some p → rq st → B.u0 st.nx p.2.nx → fl B g st w → dx g w nt L a.tmps → Marks B.n0 st.h g w a.defers → wpOpsIn (fu ro) N P ops Q (is ++ rest) a w := by
  intro l
  induction l with
  | nil =>
    intro is _ his L st g w a h hlo hn hc hr hdf
    cases is with
    | nil => cases h; exact hK g w a hc hr hdf
    | cons i is => cases his
  | cons o l ih =>
    intro is hmem his L st g w a h hlo hn hc hr hdf
    cases is with
    | nil => cases his
    | cons i is =>
      simp only [List.map_cons, List.cons.injEq] at his
      obtain ⟨hi, his⟩ := his
      have ho := hmem o (by simp)
      rw [Fp] at h
      cases h1 : (y6 P ops o).run look L st with
      | none => rw [h1] at h; cases h
      | some q =>
      have hlo' : rq q.2 := (Cu (P := P) hl ops o L).low hlo h1
      have hle1 : st.nx ≤ q.2.nx := (Cu hl ops o L st q.1 q.2 hlo h1).1
      rw [h1] at h
      simp only at h
      have hle2 : q.2.nx ≤ p.2.nx := (Ik hl ops l q.1 q.2 p.1 p.2 hlo' h).1
      have h2 := Z6 h1
      unfold C9 at h2
      simp only [List.cons_append, wpOpsIn, hi]
      cases hb : xb ops L o with
      | none => rw [hb] at h2; cases h2
      | some b =>
      rw [hb] at h2
      have hw : Region.wanted o (yielded ops a.tmps) = b := G5 hr.1 (C2 hg ho) (fun j c _ => hr.2 _) hb
      rw [hw]
      cases b with
      | true =>
        rw [if_pos rfl]
        simp only at h2
        rw [H7, Pq] at h2
        cases hop : fi P (si look) o (cg L) st with
        | none => rw [hop] at h2; cases h2
        | some r =>
          obtain ⟨v, st'⟩ := r
          rw [hop] at h2
          cases h2
          refine Eg hT hc.ok (hc.free (hn.sub (Nat.le_refl _) hle2)) hlo hr.eval hop ro N _ _ ?_
          rintro u w' ⟨g', q1, q2, q3⟩
          exact ih is (fun o ho => hmem o (by simp [ho])) his _ st' g' w' _ h hlo' (hn.sub hle1 (Nat.le_refl _)) (hc.step (hn.sub (Nat.le_refl _) hle2) ⟨xg hop, q1⟩ q2) ((hr.ext q1.ext).put q3 (tt hd ho)) (by rw [put_defers]; exact hdf.step q1)
      | false =>
        simp only at h2
        cases h2
        rw [if_neg (by simp)]
        refine ⟨ky ro P o a w, ?_⟩
        exact ih is (fun o ho => hmem o (by simp [ho])) his _ st g w _ h hlo hn hc (hr.put (.sc _) (tt hd ho)) (by rw [put_defers]; exact hdf)
theorem anq {P : Program} {look : fh} (hT : nc P (si look)) (hl : jf look) {ops : Array Oper} {ro : Option Nat} {N : Nat} {B : ft} {nt : Nat} {Q : Exit → Act → World → Prop} (hg : oi nt ops = true) (hd : uf nt ops = true) {p : SL × St}
    (hK : ∀ g w (a : Act), fl B g p.2 w → dx g w nt p.1 a.tmps → Marks B.n0 p.2.h g w a.defers → Q .normal a w) :
    ∀ (l : List Oper) (is : List Nat), (∀ o ∈ l, o ∈ ops) → is.map (fun i => ops[i]?) = l.map some → ∀ L st g w a, (r9 P ops l).run look L st = some p → rq st → B.u0 st.nx p.2.nx → fl B g st w → dx g w nt L a.tmps → Marks B.n0 st.h g w a.defers → wpOpsIn (fu ro) N P ops Q is a w := by
  intro l is h1 h2 L st g w a h3 h4 h5 h6 h7 h8
  rw [show is = is ++ [] from (List.append_nil is).symm]
  exact aiw hT hl hg hd [] (fun g w a h1 h2 h3 => hK g w a h1 h2 h3) l is h1 h2 L st g w a h3 h4 h5 h6 h7 h8
def kb {α β : Type} (X : St → Option (α × β × St)) : M (α × β) := fun st =>
  match X st with
  | some q => some ((q.1, q.2.1), q.2.2)
  | none => none
theorem z2 {α β : Type} {X : St → Option (α × β × St)} {st : St} {q : α × β × St} (h : X st = some q) : kb X st = some ((q.1, q.2.1), q.2.2) := by unfold kb; rw [h]
def Cg {α : Type} (m : M α) : M α := fun st => bif Nat.ble st.nx bw then m st else none
theorem ae.Cg {α : Type} {m : M α} (h : ae m) : ae (Vm.Cg m) := fun st a bc hl hm => by
  unfold Vm.Cg at hm
  cases hb : Nat.ble st.nx bw with
  | false => rw [hb] at hm; cases hm
  | true =>
    rw [hb] at hm
    obtain ⟨k1, r, w, k2, k3, k4, k5, k6, k7⟩ := h st a bc hl hm
    refine ⟨k1, r, w, k2, k3, k4, k5, k6, fun h' rl' wl' hl' ha => ?_⟩
    obtain ⟨h1', e1, e2⟩ := k7 h' rl' wl' hl' ha
    exact ⟨h1', by unfold Vm.Cg; simp only [hb, cond_true]; exact e1, e2⟩
theorem Jy {P : Program} {look : fh} (hl : jf look) (ops : Array Oper) : ∀ (l : List Oper) (recs : List Rec) (L : SL), ae (kb (ox P look ops l recs L)) := by
  intro l
  induction l with
  | nil => intro recs L; exact ae.pure (recs, L)
  | cons o l ih =>
    intro recs L
    have e : ∀ st, ox P look ops (o :: l) recs L st = (match u3 ops L o with
      | some true =>
        match sh ((kp P o).run look (bt o L)) st with
        | some p => bif Nat.ble p.2.nx bw then ox P look ops l (recs ++ [⟨p.1.2.1, p.1.2.2⟩]) (gp o.dst p.1.1 L) p.2 else none
        | none => none
      | some false => ox P look ops l (recs ++ [⟨[], []⟩]) (gp o.dst (.sc undef) L) st
      | none => none) := fun st => rfl
    cases hg : u3 ops L o with
    | none => exact ae.fail.congr (fun st => by unfold kb; rw [e, hg]; rfl)
    | some b =>
      cases b with
      | false => exact (ih (recs ++ [⟨[], []⟩]) (gp o.dst (.sc undef) L)).congr (fun st => by unfold kb; rw [e, hg])
      | true =>
        refine (ae.bind (yr (zb (P := P) hl (o := o) (ρ := bt o L))).sh (fun p => (ih (recs ++ [⟨p.2.1, p.2.2⟩]) (gp o.dst p.1 L)).Cg)).congr (fun st => ?_)
        unfold kb M.bind
        rw [e, hg]
        simp only
        cases sh ((kp P o).run look (bt o L)) st with
        | none => rfl
        | some p =>
          simp only [Cg]
          cases Nat.ble p.2.nx bw <;> rfl
theorem apg {P : Program} {look : fh} {ops : Array Oper} {t : Nat} : ∀ (l : List Oper) (recs : List Rec) (L : SL) (st : St) (r : List Rec × SL × St), ox P look ops l recs L st = some r → (∀ o ∈ l, o.dst ≠ some t) → lk r.2.1 t = lk L t := by
  intro l
  induction l with
  | nil => intro recs L st r h _; cases h; rfl
  | cons o l ih =>
    intro recs L st r h hn
    change (match u3 ops L o with
      | some true =>
        match sh ((kp P o).run look (bt o L)) st with
        | some p => bif Nat.ble p.2.nx bw then ox P look ops l (recs ++ [⟨p.1.2.1, p.1.2.2⟩]) (gp o.dst p.1.1 L) p.2 else none
        | none => none
      | some false => ox P look ops l (recs ++ [⟨[], []⟩]) (gp o.dst (.sc undef) L) st
      | none => none) = some r at h
    have step : ∀ v recs bc, ox P look ops l recs (gp o.dst v L) bc = some r → lk r.2.1 t = lk L t := by
      intro v recs bc h'
      rw [ih _ _ _ r h' (fun o ho => hn o (by simp [ho])), Tw, if_neg (hn o (by simp))]
    split at h
    · split at h
      · rename_i p _
        cases hb : Nat.ble p.2.nx bw with
        | true => rw [hb] at h; exact step _ _ _ h
        | false => rw [hb] at h; cases h
      · cases h
    · exact step _ _ _ h
    · cases h
theorem alv {a b a' b' : List Nat} (h : ku a b = true) (ha : ∀ o ∈ a', o ∈ a) (hb : ∀ o ∈ b', o ∈ b) : ku a' b' = true :=
  (Cb _ _).2 fun o h1 h2 => v7 h (ha o h1) (hb o h2)
def wu (a a' : Rec) : Prop := (∀ o ∈ a'.W, o ∈ a.W) ∧ ∀ o ∈ a'.R, o ∈ a.R ∨ o ∈ a.W
theorem amp {a b c x y : List Nat} (h1 : ku a b = true) (h2 : ku a c = true) (hx : ∀ o ∈ x, o ∈ a) (hy : ∀ o ∈ y, o ∈ b ∨ o ∈ c) : ku x y = true :=
  (Cb _ _).2 fun o k1 k2 => (hy o k2).elim (v7 h1 (hx o k1)) (v7 h2 (hx o k1))
theorem aim {a b c x y : List Nat} (h1 : ku b a = true) (h2 : ku c a = true) (hx : ∀ o ∈ x, o ∈ b ∨ o ∈ c) (hy : ∀ o ∈ y, o ∈ a) : ku x y = true :=
  (Cb _ _).2 fun o k1 k2 => (hx o k1).elim (fun h => v7 h1 h (hy o k2)) (fun h => v7 h2 h (hy o k2))
theorem abr {before : Array Nat} {i j : Nat} {a b a' b' : Rec} (ha : wu a a') (hb : wu b b') (h : vn before i j a b = true) : vn before i j a' b' = true := by
  unfold vn at h ⊢
  simp only [Bool.or_eq_true, Bool.and_eq_true] at h ⊢
  rcases h with ⟨⟨h1, h2⟩, h3⟩ | h
  · exact .inl ⟨⟨amp h1 h2 ha.1 hb.2, alv h2 ha.1 hb.1⟩, aim h3 h2 ha.2 hb.1⟩
  · exact .inr h
theorem Ns {before : Array Nat} {i : Nat} {a a' : Rec} (ha : wu a a') : ∀ (l l' : List Rec) (j : Nat), l.length = l'.length → (∀ (k : Nat) x y, l[k]? = some x → l'[k]? = some y → wu x y) → Ag before i a j l = true → Ag before i a' j l' = true
  | [], [], _, _, _, _ => rfl
  | [], _ :: _, _, h, _, _ => by simp at h
  | _ :: _, [], _, h, _, _ => by simp at h
  | x :: l, y :: l', j, hl, hs, h => by
    simp only [Ag, Bool.and_eq_true] at h ⊢
    exact ⟨abr ha (hs 0 x y rfl rfl) h.1, Ns ha l l' (j + 1) (by simpa using hl) (fun k u v hu hv => hs (k + 1) u v (by simpa using hu) (by simpa using hv)) h.2⟩
theorem On {before : Array Nat} : ∀ (l l' : List Rec) (j : Nat), l.length = l'.length → (∀ (k : Nat) x y, l[k]? = some x → l'[k]? = some y → wu x y) → g7 before j l = true → g7 before j l' = true
  | [], [], _, _, _, _ => rfl
  | [], _ :: _, _, h, _, _ => by simp at h
  | _ :: _, [], _, h, _, _ => by simp at h
  | x :: l, y :: l', j, hl, hs, h => by
    simp only [g7, Bool.and_eq_true] at h ⊢
    exact ⟨Ns (hs 0 x y rfl rfl) l l' (j + 1) (by simpa using hl) (fun k u v hu hv => hs (k + 1) u v (by simpa using hu) (by simpa using hv)) h.1, On l l' (j + 1) (by simpa using hl) (fun k u v hu hv => hs (k + 1) u v (by simpa using hu) (by simpa using hv)) h.2⟩
theorem apq {P : Program} {look : fh} (hl : jf look) {ops : Array Oper} {E : List Rec → Prop} {K : SL → St → Prop} : ∀ (l : List Oper) (recs recs' : List Rec) (L : SL) (st st' : St) (r : List Rec × SL × St), ox P look ops l recs L st = some r → rq st → (∀ o, st'.h.get o = st.h.get o) → st'.nx = st.nx →
    recs.length = recs'.length → (∀ (k : Nat) x y, recs[k]? = some x → recs'[k]? = some y → wu x y) → (∀ l', r.1.length = l'.length → (∀ (k : Nat) x y, r.1[k]? = some x → l'[k]? = some y → wu x y) → E l') → (∀ st2, (∀ o, st2.h.get o = r.2.2.h.get o) → st2.nx = r.2.2.nx → K r.2.1 st2) →
    aid P (si look) ops E l K recs' L st' := by
  intro l
  induction l with
  | nil =>
    intro recs recs' L st st' r h hlo hh hnx hlen hsub hc hk
    cases h
    exact ⟨hc _ hlen hsub, hk st' hh hnx⟩
  | cons o l ih =>
    intro recs recs' L st st' r h hlo hh hnx hlen hsub hc hk
    change (match u3 ops L o with
      | some true =>
        match sh ((kp P o).run look (bt o L)) st with
        | some p => bif Nat.ble p.2.nx bw then ox P look ops l (recs ++ [⟨p.1.2.1, p.1.2.2⟩]) (gp o.dst p.1.1 L) p.2 else none
        | none => none
      | some false => ox P look ops l (recs ++ [⟨[], []⟩]) (gp o.dst (.sc undef) L) st
      | none => none) = some r at h
    have hsnoc : ∀ (a a' : Rec), wu a a' → ∀ (k : Nat) x y, (recs ++ [a])[k]? = some x → (recs' ++ [a'])[k]? = some y → wu x y := by
      intro a a' ha k x y hx hy
      rcases Nat.lt_trichotomy k recs.length with hk' | hk' | hk'
      · rw [List.getElem?_append_left hk'] at hx
        rw [List.getElem?_append_left (by omega)] at hy
        exact hsub k x y hx hy
      · subst hk'
        rw [List.getElem?_append_right (Nat.le_refl _), Nat.sub_self] at hx
        rw [List.getElem?_append_right (by omega), hlen, Nat.sub_self] at hy
        cases hx; cases hy
        exact ha
      · rw [List.getElem?_eq_none (by simp; omega)] at hx; cases hx
    cases hb : u3 ops L o with
    | none => rw [hb] at h; cases h
    | some b =>
      rw [hb] at h
      cases b with
      | true =>
        refine .inl ⟨hb, ?_⟩
        simp only at h
        cases h1 : sh ((kp P o).run look (bt o L)) st with
        | none => rw [h1] at h; cases h
        | some p =>
        rw [h1] at h
        simp only at h
        rw [H7] at h1
        have hfr := (zb (P := P) hl (o := o) (ρ := bt o L))
        have hlo1 : rq p.2 := hfr.sh.low hlo h1
        unfold sh at h1
        cases h2 : Ea P look o (bt o L) { h := st.h, nx := st.nx, rl := [], wl := [] } with
        | none => rw [h2] at h1; cases h1
        | some q =>
        rw [h2] at h1
        cases h1
        obtain ⟨v, bc⟩ := q
        simp only at h
        cases hlim : Nat.ble bc.nx bw with
        | false => rw [hlim] at h; cases h
        | true =>
        rw [hlim, cond_true] at h
        have hlim := Nat.le_of_ble_eq_true hlim
        obtain ⟨k1, rr, ww, k2, k3, k4, k5, k6, k7⟩ := hfr { h := st.h, nx := st.nx, rl := [], wl := [] } v bc hlo h2
        rw [List.append_nil] at k2 k3
        simp only at k1 k5 k6 k7
        obtain ⟨F, hF⟩ : ∃ F, F = (rr ++ ww).filter (fun o => decide (o < st.nx)) := ⟨_, rfl⟩
        obtain ⟨W, hW⟩ : ∃ W, W = ww.filter (fun o => decide (o < st.nx)) := ⟨_, rfl⟩
        have mF : ∀ o, o ∈ F ↔ (o ∈ rr ∨ o ∈ ww) ∧ o < st.nx := fun o => by rw [hF, List.mem_filter, List.mem_append, decide_eq_true_eq]
        have mW : ∀ o, o ∈ W ↔ o ∈ ww ∧ o < st.nx := fun o => by rw [hW]; simp
        have hFl : ∀ q ∈ F, q ≤ bw := fun q hq => by have := ((mF q).1 hq).2; omega
        have hmask : ∀ o, (jw st'.h F).get o = if o ∈ F then st'.h.get o else none := fun o => pf _ _ _ hFl
        obtain ⟨h1', e1, e2⟩ := k7 (jw st'.h F) [] [] (fun o x hx => by
          rw [hmask] at hx
          by_cases ho : o ∈ F
          · exact ((mF o).1 ho).2
          · rw [if_neg ho] at hx; cases hx) (fun o ho => by
          rw [hmask]
          by_cases hlt : o < st.nx
          · rw [if_pos ((mF o).2 ⟨ho, hlt⟩)]; exact hh o
          · rw [if_neg (fun h => hlt ((mF o).1 h).2)]
            cases hx : st.h.get o with
            | none => rfl
            | some x => exact absurd (hlo o x hx) hlt)
        rw [List.append_nil, List.append_nil] at e1
        refine ⟨F, W, v, { h := h1', nx := bc.nx, rl := rr, wl := ww }, ?_, fun q hq => (mF q).2 ⟨.inr ((mW q).1 hq).1, ((mW q).1 hq).2⟩, fun q hq hqn => ?_, fun q hq => by rw [hnx]; exact ((mF q).1 hq).2, hlim, ?_⟩
        · rw [← Pq, hnx]; exact e1
        · simp only
          rw [e2, if_neg (fun h => hqn ((mW q).2 ⟨h, ((mF q).1 hq).2⟩))]
        · have g9 : ∀ q ∈ F ++ di st'.nx (bc.nx - st'.nx), q ≤ bw := fun q hq => by
            rcases List.mem_append.1 hq with hq | hq
            · exact hFl q hq
            · rw [ia] at hq; omega
          refine ih _ _ _ _ _ r h hlo1 (fun q => ?_) rfl (by simp [hlen]) (hsnoc _ _ ⟨fun q hq => ?_, fun q hq => ?_⟩) hc hk
          · simp only
            rw [nl _ _ _ _ g9]
            by_cases hq : q ∈ F ++ di st'.nx (bc.nx - st'.nx)
            · rw [if_pos hq, e2]
              by_cases hw : q ∈ ww
              · rw [if_pos hw]
              · rw [if_neg hw, hmask]
                have hqF : q ∈ F := by
                  rcases List.mem_append.1 hq with hq | hq
                  · exact hq
                  · rw [ia] at hq
                    exact absurd (k5 q (by omega) (by omega)) hw
                rw [if_pos hqF, hh q]
                exact (k6 q hw).symm
            · rw [if_neg hq]
              have hw : q ∉ ww := fun hw => hq (by
                rcases Nat.lt_or_ge q st.nx with h9 | h9
                · exact List.mem_append.2 (.inl ((mF q).2 ⟨.inr hw, h9⟩))
                · refine List.mem_append.2 (.inr ?_)
                  rw [ia]
                  have := k4 q hw
                  omega)
              rw [hh q]
              exact (k6 q hw).symm
          · simp only [k3]
            rcases List.mem_append.1 hq with hq | hq
            · exact ((mW q).1 hq).1
            · rw [ia] at hq
              simp only at hq
              exact k5 q (by omega) (by omega)
          · simp only [k2, k3]
            exact ((mF q).1 hq).1
      | false =>
        refine .inr ⟨hb, ?_⟩
        simp only at h
        exact ih _ _ _ _ _ r h hlo hh hnx (by simp [hlen]) (hsnoc _ _ ⟨fun o ho => ho, fun o ho => .inl ho⟩) hc hk
end
end Go.Vm
