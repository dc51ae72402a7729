/- A piece of the proof. Proved: where the arguments are together of bulk at most 1048576, the law AnswerForms returns true (a reply has one of its four forms), and what it was given reads afterwards as it did before. No other conditions. -/
import Derived.WalkKit
import Derived.CallsIn
import Derived.RangeFuncIn
import Derived.RangeFuncLeaves
import Derived.Orders
import Derived.OrdersIn
import Derived.Scope
import Derived.RangeFuncOwn
import Derived.Stop.SameAnswer
import Derived.Laws.Externs
import Derived.Lib.Bytealg
import Derived.ProofKit
import Derived.OpenShut
import Derived.ReadAgain
import Derived.Deep.Slices
import Derived.ChangeSame
import Derived.Test.YtcbdpmfipecmgaaGreatProg
import Derived.KernelRfl
import Derived.Test.YtcbdpmfipecmgaaGreatRows
import Derived.Maps.RangeRun
import Derived.JoinedCond
import Derived.Test.YtcbdpmfipecmgaaGreatJ3
set_option linter.unusedSimpArgs false
set_option linter.unusedVariables false
section
set_option linter.unusedSimpArgs false
set_option linter.unusedVariables false
namespace Go.Proofs.YtcbdpmfipecmgaaGreat
open Go.Vm
set_option maxRecDepth 2000000
def Yg (t : UInt16) (l : List bd) : Et :=
  if (t.toNat : Int) = 255 ∧ 0 < l.length then pg 0 l []
  else match l.find? (fun s => decide ((s.type.toNat : Int) = t.toNat)) with
    | some x => pg 0 [x] []
    | none => match l.find? (fun s => decide ((s.type.toNat : Int) = 5) && decide ((t.toNat : Int) ≠ 255)) with
      | some x => pg 1 [x] (((x.data[0]?).bind fun d => d.names[0]?).getD [])
      | none => pg 2 [] []
noncomputable def kx (z : bf) (n : Name) (t : UInt16) (s : A2) : Et :=
  if s.kind = 4 then pg 4 [(vt z.ak s.node 2).getD U2] []
  else if s.kind = 0 then pg 3 [] []
  else if s.kind = 2 then pg 2 [] []
  else Yg t (if s.kind = 3 then (kc z s.node).map (xy n) else kc z s.node)
theorem m11 : we 1 [1] = true := id rfl
theorem m01 : we 0 [1] = false := id rfl
set_option maxHeartbeats 4000000 in
theorem ar0 (z : bf) (n : Name) (t : UInt16) (s : A2) (hz : cg z) (hn : bb n) (he : ic z = 0) (hsn : bb s.node) : wl PP [Ks, dc, wt, se] 0 (Tryz.f26.body.getD .skip) (du PP Tryz.f26.results.toList (fun r st => (r1 wv).get true st.h r = some (kx z n t s))) (cy 0 [cj.val false z, ar.val false n, cq.val false t, re.val false s]) (bn []) := by
  have hl := hz.len
  have ok : aw PP [Ks, dc, wt, se] := aw.cons (aq Fh) (aw.cons (aq eb) (aw.cons (aq sy) (aw.cons (aq nn) (aw.nil PP))))
  unfold Tryz.f26
  simp only [iy, da, Fy]
  simp only [↓wR, RA, simprocAttr, TF, ag]
  unfold kx
  rw [c9]; refine ⟨fun ⟨h4, e4⟩ => ?_, fun ⟨h4, e4⟩ => ?_⟩
  · rw [if_pos e4]
    simp only [↓wR, RA, simprocAttr, TF, ag, h4, au2, Cv, hz.mid, hsn, J3]
  rw [if_neg e4]
  simp only [↓wR, RA, simprocAttr, TF, ag, h4]
  rw [c9]; refine ⟨fun ⟨h0, e0⟩ => ?_, fun ⟨h0, e0⟩ => ?_⟩
  · rw [if_pos e0]
    simp only [↓wR, RA, simprocAttr, TF, ag, h0]
  rw [if_neg e0]
  simp only [↓wR, RA, simprocAttr, TF, ag, h0]
  rw [c9]; refine ⟨fun ⟨h2, e2⟩ => ?_, fun ⟨h2, e2⟩ => ?_⟩
  · rw [if_pos e2]
    simp only [↓wR, RA, simprocAttr, TF, ag, h2]
  rw [if_neg e2]
  simp only [↓wR, RA, simprocAttr, TF, ag, h2]
  refine dn (fun r st' => r = .sl 3 0 (kc z s.node).length 5 ∧ st' = bn [some (.row [.vl false 1 (z.origin.map (aj.val false)), .vl false 5 (z.ak.map (ah.val false))] 0 2 26), some (.row [.sc (.int .u8 s.kind), .vl false 1 (s.node.map (aj.val false)), .vl false 1 (s.vd.map (aj.val false))] 0 2 54), some (.row [.sc (.int .u8 0), .sc (.slice none 0 0), .sc (.slice none 0 0)] 0 2 72), some (.row (cellsOf ah true (kc z s.node)) 0 0 44)]) rfl ?_ ?_
  · refine bm (T := [Ks, dc, wt, se]) ok mixed Tryz.func37 rfl (by kernel_rfl) (by kernel_rfl) (by kernel_rfl) (by kernel_rfl) ?_; unfold Tryz.f37
    simp only [↓wR, RA, simprocAttr, TF, ag]
    refine jz [1, 9, 10, 11, 5] (fun (x : Nat × List bd) => [.vl false 1 (s.node.map (aj.val false)), .vl false 5 (z.ak.map (ah.val false)), .sc (.int .i64 (z.ak.length)), .sc (.int .i64 (x.1)), .sl 3 0 x.2.length 5]) (fun x => [some (.row [.vl false 1 (z.origin.map (aj.val false)), .vl false 5 (z.ak.map (ah.val false))] 0 2 26), some (.row [.sc (.int .u8 s.kind), .vl false 1 (s.node.map (aj.val false)), .vl false 1 (s.vd.map (aj.val false))] 0 2 54), some (.row [.sc (.int .u8 0), .sc (.slice none 0 0), .sc (.slice none 0 0)] 0 2 72), some (.row (cellsOf ah true (x.2)) 0 0 44)]) (fun x => x.1 ≤ z.ak.length ∧ x.2 ++ (z.ak.drop x.1).filter (fun q => dw q.owner s.node) = kc z s.node) (fun x => z.ak.length - x.1) (0, []) ⟨Nat.zero_le _, rfl⟩ (by simp only [↓wR, RA, simprocAttr, TF, ag]; (refine mz.lax [] (by first | exact Nat.le_of_ble_eq_true rfl | (simp [bw]; omega)) ?_ ?_ <;> repeat' first | exact i6.nil | exact db.nil | exact jb.same _ | exact jb.nil _ _ _ | exact jb.vh _ _ | exact db.refl _ _ | apply i6.cons | apply db.ghost | apply db.same | apply db.row)) ?_
    rintro ⟨i, x⟩ ⟨hi, hx⟩
    simp only at hi hx
    have hxl : x.length ≤ z.ak.length := by
      have h1 := tp (l := z.ak) (fun q => dw q.owner s.node)
      have h2 := congrArg List.length hx
      simp only [List.length_append, kc] at h2
      omega
    simp only [↓wR, RA, simprocAttr, TF, ag]
    rw [cp]; refine ⟨fun h => ?_, fun h => ?_⟩
    · obtain ⟨c, hc, hd1, hlt⟩ := ed (decide_eq_true h)
      rw [Jz hd1] at hx
      have hcs := hz.set c (List.mem_of_getElem? hc)
      simp only [↓wR, RA, simprocAttr, TF, ag, h, hc, fm, hcs.owner, hsn]
      rw [cz]; refine ⟨fun h1 => ?_, fun h1 => ?_⟩
      · rw [if_pos h1] at hx
        have hlim : (x.length * 5 + 5) * 64 ≤ 140737488355328 := by omega
        simp only [↓wR, RA, simprocAttr, TF, ag, h1, o9, hcs, hlim]; repeat (simp (disch := omega) only [ai, cb, cd, b9, ca]; try simp only [↓wR, RA, simprocAttr, TF, ag, h1, o9, hcs, hlim])
        refine ⟨(i + 1, x ++ [c]), ⟨hlt, by rw [← hx]; simp⟩, by simp; omega, by (first | rfl | trivial | omega | ((try (simp (disch := omega) only [ai])); (try (simp only [FB])); first | done | rfl | omega)), ?_⟩
        rw [sx]
      · rw [if_neg (by rw [h1]; decide)] at hx
        simp only [↓wR, RA, simprocAttr, TF, ag, h1]; repeat (simp (disch := omega) only [ai, cb, cd, b9, ca]; try simp only [↓wR, RA, simprocAttr, TF, ag, h1])
        exact ⟨(i + 1, x), ⟨hlt, hx⟩, by simp; omega, by (first | rfl | trivial | omega | ((try (simp (disch := omega) only [ai])); (try (simp only [FB])); first | done | rfl | omega)), by (first | rfl | trivial | omega | ((try (simp (disch := omega) only [ai])); (try (simp only [FB])); first | done | rfl | omega))⟩
    · rw [fq (decide_eq_false h)] at hx
      rw [List.filter_nil, List.append_nil] at hx
      subst hx
      simp only [↓wR, RA, simprocAttr, TF, ag, h, iz, ik, g5]
  rintro _ _ ⟨rfl, rfl⟩
  simp only [↓wR, RA, simprocAttr, TF, ag, gm]
  rw [c9]; refine ⟨fun ⟨h3, e3⟩ => ?_, fun ⟨h3, e3⟩ => ?_⟩
  rotate_left
  rw [if_neg e3]
  simp only [↓wR, RA, simprocAttr, TF, ag, h3]
  obtain ⟨L, hLe⟩ : ∃ L, L = kc z s.node := ⟨_, rfl⟩
  have hLd : ∀ x ∈ L, ∃ y ∈ z.ak, x.data = y.data ∧ x.type = y.type := fun x hx => ⟨x, by rw [hLe] at hx; exact (List.mem_filter.1 hx).1, rfl, rfl⟩
  have hLl : L.length = (kc z s.node).length := by rw [hLe]
  rw [← hLl, ← hLe]
  clear hLe
  rotate_left
  rw [if_pos e3]
  simp only [↓wR, RA, simprocAttr, TF, ag, h3]
  refine dn (fun r st' => r = .sl 3 0 (kc z s.node).length 5 ∧ st' = bn [some (.row [.vl false 1 (z.origin.map (aj.val false)), .vl false 5 (z.ak.map (ah.val false))] 0 2 26), some (.row [.sc (.int .u8 s.kind), .vl false 1 (s.node.map (aj.val false)), .vl false 1 (s.vd.map (aj.val false))] 0 2 54), some (.row [.sc (.int .u8 0), .sc (.slice none 0 0), .sc (.slice none 0 0)] 0 2 72), some (.row (cellsOf ah true ((kc z s.node).map (xy n))) 0 0 44)]) rfl ?_ ?_
  · refine bm (T := [Ks, dc, wt, se]) ok mixed Tryz.func41 rfl (by kernel_rfl) (by kernel_rfl) (by kernel_rfl) (by kernel_rfl) ?_; unfold Tryz.f41
    simp only [↓wR, RA, simprocAttr, TF, ag]
    refine dx [0, 1, 7, 8] (fun (i : Nat) => [.sl 3 0 (kc z s.node).length 5, .vl false 1 (n.map (aj.val false)), .sc (.int .i64 ((kc z s.node).length)), .sc (.int .i64 (i))]) (fun i => [some (.row [.vl false 1 (z.origin.map (aj.val false)), .vl false 5 (z.ak.map (ah.val false))] 0 2 26), some (.row [.sc (.int .u8 s.kind), .vl false 1 (s.node.map (aj.val false)), .vl false 1 (s.vd.map (aj.val false))] 0 2 54), some (.row [.sc (.int .u8 0), .sc (.slice none 0 0), .sc (.slice none 0 0)] 0 2 72), some (.row (cellsOf ah true (((kc z s.node).take i).map (xy n) ++ (kc z s.node).drop i)) 0 0 44)]) (fun i => i ≤ (kc z s.node).length) (fun i => (kc z s.node).length - i) 0 (Nat.zero_le _) (by simp only [↓wR, RA, simprocAttr, TF, ag] <;> rfl) (by simp only [↓wR, RA, simprocAttr, TF, ag] <;> rfl) ?_
    intro i hi
    have hal : (kc z s.node).length ≤ z.ak.length := tp _
    simp only [↓wR, RA, simprocAttr, TF, ag]
    rw [cp]; refine ⟨fun h => ?_, fun h => ?_⟩
    · obtain ⟨c, hc, hd1, hlt⟩ := ed (decide_eq_true h)
      have hys : (((kc z s.node).take i).map (xy n) ++ (kc z s.node).drop i)[i]? = some c := by
        rw [List.getElem?_append_right (by simp; omega), hd1]
        simp [Nat.min_eq_left (show i ≤ (kc z s.node).length by omega)]
      have hst := amu (xs := ((kc z s.node).take i).map (xy n) ++ (kc z s.node).drop i) n 0 44 3 hys
      have hyt : (((kc z s.node).take i).map (xy n) ++ (kc z s.node).drop i).take i ++ xy n c :: (((kc z s.node).take i).map (xy n) ++ (kc z s.node).drop i).drop (i + 1) = ((kc z s.node).take (i + 1)).map (xy n) ++ (kc z s.node).drop (i + 1) := by
        obtain ⟨_, rfl⟩ := List.getElem?_eq_some_iff.1 hc
        have hlm : (((kc z s.node).take i).map (xy n)).length = i := by simp; omega
        rw [List.take_left' hlm, List.drop_append, hlm, List.take_succ_eq_append_getElem hlt, List.map_append]
        rw [List.drop_eq_nil_of_le (by omega), List.drop_drop, Nat.add_sub_cancel_left]
        simp
      rw [hyt] at hst
      simp only [↓wR, RA, simprocAttr, TF, ag, h, mq, hn, ↓hst]; repeat (simp (disch := omega) only [ai, cb, cd, b9, ca]; try simp only [↓wR, RA, simprocAttr, TF, ag, h, mq, hn, ↓hst])
      exact ⟨i + 1, hlt, by omega, by (first | rfl | trivial | omega | ((try (simp (disch := omega) only [ai])); (try (simp only [FB])); first | done | rfl | omega))⟩
    · have hin : i = (kc z s.node).length := by omega
      subst hin
      simp only [↓wR, RA, simprocAttr, TF, ag, h, iz, ik, g5, List.take_length, List.drop_length, List.append_nil]
  rintro _ _ ⟨rfl, rfl⟩
  simp only [↓wR, RA, simprocAttr, TF, ag, gm]
  obtain ⟨L, hLe⟩ : ∃ L, L = (kc z s.node).map (xy n) := ⟨_, rfl⟩
  have hLd : ∀ x ∈ L, ∃ y ∈ z.ak, x.data = y.data ∧ x.type = y.type := fun x hx => by
    rw [hLe] at hx
    obtain ⟨y, hy, rfl⟩ := List.mem_map.1 hx
    exact ⟨y, (List.mem_filter.1 hy).1, rfl, rfl⟩
  have hLl : L.length = (kc z s.node).length := by rw [hLe, List.length_map]
  rw [← hLl, ← hLe]
  clear hLe
  all_goals
    unfold Yg
    have hL0 : L.length ≤ z.ak.length := by rw [hLl]; exact tp _
    by_cases hany : (t.toNat : Int) = 255 ∧ 0 < L.length
    · rw [if_pos hany]
      have e5 : ((t.toNat : Int) == 255) = true := by rw [hany.1]; rfl
      have e6 : decide ((L.length : Int) > 0) = true := decide_eq_true (by omega)
      simp only [↓wR, RA, simprocAttr, TF, ag, e5, e6]
    rw [if_neg hany]
    by_cases h5 : (t.toNat : Int) = 255
    rotate_left
    have e5 : ((t.toNat : Int) == 255) = false := by simpa using h5
    simp only [↓wR, RA, simprocAttr, TF, ag, e5]
    rotate_left
    have e5 : ((t.toNat : Int) == 255) = true := by rw [h5]; rfl
    have e6 : decide ((L.length : Int) > 0) = false := decide_eq_false (by omega)
    simp only [↓wR, RA, simprocAttr, TF, ag, e5, e6]
    all_goals
      refine jz [2, 8, 11, 56, 57, 58] (fun (i : Nat) => [.sc (.int .u16 t.toNat), .ptr 0 0, .vl true 5 (L.map (ah.val true)), .vl true 5 (L.map (ah.val true)), .sc (.int .i64 (L.length)), .sc (.int .i64 (i))]) (fun _ => [some (.row [.sc (.int .u8 0), .sc (.slice none 0 0), .sc (.slice none 0 0)] 0 2 72)]) (fun i => i ≤ L.length ∧ L.find? (fun s => decide ((s.type.toNat : Int) = t.toNat)) = (L.drop i).find? (fun s => decide ((s.type.toNat : Int) = t.toNat))) (fun i => L.length - i) 0 ⟨Nat.zero_le _, rfl⟩ (by simp only [↓wR, RA, simprocAttr, TF, ag]; refine .trans (mz.lax [1] (Nat.le_of_ble_eq_true rfl) (.cons (.same _) (.cons (.same _) (.cons (.data (cw ah) true L _ ?_) (.cons (.data (cw ah) true L _ ?_) (.cons (.same _) (.cons (.same _) .nil)))))) (.same (.same .nil))) (mz.at4 (by decide) ?_ ?_) <;> simp only [↓wR, RA, simprocAttr, TF, ag, zq, Bb, m11, m01, sv]) ?_
      rintro i ⟨hi, hx⟩
      simp only [↓wR, RA, simprocAttr, TF, ag]
      rw [cp]; refine ⟨fun h => ?_, fun h => ?_⟩
      · obtain ⟨c, hc, hd1, hlt⟩ := ed (decide_eq_true h)
        by_cases h5 : (t.toNat : Int) = 255
        · omega
        rw [Up hd1] at hx
        simp only [↓wR, RA, simprocAttr, TF, ag, h, hc]
        rw [c9]; refine ⟨fun ⟨h1, e1⟩ => ?_, fun ⟨h1, e1⟩ => ?_⟩
        · rw [if_pos (decide_eq_true e1)] at hx
          simp only [↓wR, RA, simprocAttr, TF, ag, h1, hx, J3]
        · rw [decide_eq_false e1, if_neg (by decide)] at hx
          simp only [↓wR, RA, simprocAttr, TF, ag, h1]; repeat (simp (disch := omega) only [ai, cb, cd, b9, ca]; try simp only [↓wR, RA, simprocAttr, TF, ag, h1])
          exact ⟨i + 1, ⟨hlt, hx⟩, by omega, by (first | rfl | trivial | omega | ((try (simp (disch := omega) only [ai])); (try (simp only [FB])); first | done | rfl | omega))⟩
      rw [fq (decide_eq_false h), List.find?_nil] at hx
      rw [hx]
      simp only [↓wR, RA, simprocAttr, TF, ag, h]
      clear h hx hi
      refine dx [2, 8, 70, 71, 72] (fun (i : Nat) => [.sc (.int .u16 t.toNat), .ptr 0 0, .vl true 5 (L.map (ah.val true)), .sc (.int .i64 (L.length)), .sc (.int .i64 (i))]) (fun _ => [some (.row [.sc (.int .u8 0), .sc (.slice none 0 0), .sc (.slice none 0 0)] 0 2 72)]) (fun i => i ≤ L.length ∧ L.find? (fun s => decide ((s.type.toNat : Int) = 5) && decide ((t.toNat : Int) ≠ 255)) = (L.drop i).find? (fun s => decide ((s.type.toNat : Int) = 5) && decide ((t.toNat : Int) ≠ 255))) (fun i => L.length - i) 0 ⟨Nat.zero_le _, rfl⟩ (by simp only [↓wR, RA, simprocAttr, TF, ag] <;> rfl) (by simp only [↓wR, RA, simprocAttr, TF, ag] <;> rfl) ?_
      rintro i ⟨hi, hx⟩
      simp only [↓wR, RA, simprocAttr, TF, ag]
      rw [cp]; refine ⟨fun h => ?_, fun h => ?_⟩
      · obtain ⟨c, hc, hd1, hlt⟩ := ed (decide_eq_true h)
        by_cases h5 : (t.toNat : Int) = 255
        · omega
        have hne : ((t.toNat : Int) != 255) = true := by simpa using h5
        rw [Up hd1] at hx
        simp only [↓wR, RA, simprocAttr, TF, ag, h, hc]
        rw [c9]; refine ⟨fun ⟨h1, e1⟩ => ?_, fun ⟨h1, e1⟩ => ?_⟩
        · have hp : (decide ((c.type.toNat : Int) = 5) && decide ((t.toNat : Int) ≠ 255)) = true := by rw [decide_eq_true e1, decide_eq_true h5]; rfl
          rw [if_pos hp] at hx
          obtain ⟨y, hy, hyd, hyt⟩ := hLd c (List.mem_of_getElem? hc)
          obtain ⟨d, m, hd, hm⟩ := apg (Ea he y hy) (by rw [← hyt]; exact e1)
          rw [← hyd] at hd
          have hms : bb m := by
            have := (hz.set y hy).data.mem d (by rw [← hyd]; exact List.mem_of_getElem? hd)
            exact this.name m (List.mem_of_getElem? hm)
          simp only [↓wR, RA, simprocAttr, TF, ag, h1, hne]
          refine ⟨by kernel_rfl, .inl ?_⟩
          simp only [↓wR, RA, simprocAttr, TF, ag, hd, hm, hx, mq, hms, J3]
          exact (by kernel_rfl)
        · have hp : (decide ((c.type.toNat : Int) = 5) && decide ((t.toNat : Int) ≠ 255)) = false := by rw [decide_eq_false e1]; rfl
          rw [hp, if_neg (by decide)] at hx
          simp only [↓wR, RA, simprocAttr, TF, ag, h1]; repeat (simp (disch := omega) only [ai, cb, cd, b9, ca]; try simp only [↓wR, RA, simprocAttr, TF, ag, h1])
          exact ⟨i + 1, ⟨hlt, hx⟩, by omega, by (first | rfl | trivial | omega | ((try (simp (disch := omega) only [ai])); (try (simp only [FB])); first | done | rfl | omega))⟩
      rw [fq (decide_eq_false h), List.find?_nil] at hx
      rw [hx]
      simp only [↓wR, RA, simprocAttr, TF, ag, h]
noncomputable def uk (x : bf × Name × UInt16 × A2 × Unit) : Option AV := if (cg x.1 ∧ bb x.2.1) ∧ (ic x.1 = 0 ∧ bb x.2.2.2.1.node) then some ((r1 wv).E true (kx x.1 x.2.1 x.2.2.1 x.2.2.2.1)) else none
set_option maxRecDepth 2000000 in
theorem He (x : bf × Name × UInt16 × A2 × Unit) (r : AV) (h : uk x = some r) : bh PP 26 ((aC cj (aC ar (aC cq (aC re a0)))).E x) r := by
  by_cases hc : (cg x.1 ∧ bb x.2.1) ∧ (ic x.1 = 0 ∧ bb x.2.2.2.1.node)
  case neg => simp only [uk, if_neg hc] at h; cases h
  simp only [uk, if_pos hc] at h
  cases h
  exact bg (aw.cons (aq Fh) (aw.cons (aq eb) (aw.cons (aq sy) (aw.cons (aq nn) (aw.nil PP))))) Tryz.func26 (by kernel_rfl) (by kernel_rfl) (by kernel_rfl) (Nat.le_of_ble_eq_true (by kernel_rfl)) (r1 wv) true (kx x.1 x.2.1 x.2.2.1 x.2.2.2.1) (ar0 x.1 x.2.1 x.2.2.1 x.2.2.2.1 hc.1.1 hc.1.2 hc.2.1 hc.2.2)
noncomputable abbrev Ym : Nat × Bool × (List AV → M AV) := (26, true, dj (aC cj (aC ar (aC cq (aC re a0)))) uk)
end Go.Proofs.YtcbdpmfipecmgaaGreat
end
section
set_option linter.unusedVariables false
set_option linter.unusedSimpArgs false
set_option maxRecDepth 4000
namespace Go.Vm
noncomputable section
def abk (a b : AV) (e : M AV) : M AV :=
  match a, b with
  | .sc (.int k x), .sc (.int _ y) => .pure (.sc (.int k (if y < x then y else x)))
  | _, _ => e
def Yv (a b : AV) (e : M AV) : M AV :=
  match a, b with
  | .sc (.int k x), .sc (.int _ y) => .pure (.sc (.int k (if y > x then y else x)))
  | _, _ => e
theorem al9 (k k' x y e) : abk (.sc (.int k x)) (.sc (.int k' y)) e = .pure (.sc (.int k (if y < x then y else x))) := id rfl
theorem amz (k k' x y e) : Yv (.sc (.int k x)) (.sc (.int k' y)) e = .pure (.sc (.int k (if y > x then y else x))) := id rfl
theorem ahc (P : Program) (ρ : Operand → AV) (d ty pos af gd) (x y : Operand) (ts) : g7 P ρ ⟨d, .call { callee := .builtin .min, args := #[x, y], argTypes := ts }, ty, pos, af, gd⟩ [x, y] = abk (ρ x) (ρ y) (x7 P ρ ⟨d, .call { callee := .builtin .min, args := #[x, y], argTypes := ts }, ty, pos, af, gd⟩ [x, y]) := by
  unfold abk
  split
  · rename_i k a k' b hx hy
    have h2 : execOp (fun z => ((ρ z).ff).getD undef) ⟨d, .call { callee := .builtin .min, args := #[x, y], argTypes := ts }, ty, pos, af, gd⟩ = (do pure (Next.value (← Builtin.min_ ts ty #[.int k a, .int k' b]))) := by
      simp [execOp, resolve, invoke, builtin, hx, hy, AV.ff]
    have h3 : ev P (Builtin.min_ ts ty #[.int k a, .int k' b]) = some (.int k (if b < a then b else a)) := by
      simp [Builtin.min_, Builtin.min2, ev]
      rfl
    unfold g7 kg qu
    simp [hx, hy, AV.ff]
    rw [h2, Gi, h3]
    rfl
  · rfl
theorem ajy (P : Program) (ρ : Operand → AV) (d ty pos af gd) (x y : Operand) (ts) : g7 P ρ ⟨d, .call { callee := .builtin .max, args := #[x, y], argTypes := ts }, ty, pos, af, gd⟩ [x, y] = Yv (ρ x) (ρ y) (x7 P ρ ⟨d, .call { callee := .builtin .max, args := #[x, y], argTypes := ts }, ty, pos, af, gd⟩ [x, y]) := by
  unfold Yv
  split
  · rename_i k a k' b hx hy
    have h2 : execOp (fun z => ((ρ z).ff).getD undef) ⟨d, .call { callee := .builtin .max, args := #[x, y], argTypes := ts }, ty, pos, af, gd⟩ = (do pure (Next.value (← Builtin.max_ ts ty #[.int k a, .int k' b]))) := by
      simp [execOp, resolve, invoke, builtin, hx, hy, AV.ff]
    have h3 : ev P (Builtin.max_ ts ty #[.int k a, .int k' b]) = some (.int k (if b > a then b else a)) := by
      simp [Builtin.max_, Builtin.max2, ev]
      rfl
    unfold g7 kg qu
    simp [hx, hy, AV.ff]
    rw [h2, Gi, h3]
    rfl
  · rfl
theorem Kq (P : Program) (T : dr) (ρ : Operand → AV) (d ty pos af gd) (s x ts) : fj P T ⟨d, .call { callee := .builtin .min, args := #[s, x], argTypes := ts }, ty, pos, af, gd⟩ ρ = mono (abk (ρ s) (ρ x) (x7 P ρ ⟨d, .call { callee := .builtin .min, args := #[s, x], argTypes := ts }, ty, pos, af, gd⟩ [s, x])) := by
  rw [← ahc]; rfl
theorem agj {P : Program} {T : dr} {d ty pos af gd recs K L st} (s x ts) : fi P T ⟨d, .call { callee := .builtin .min, args := #[s, x], argTypes := ts }, ty, pos, af, gd⟩ recs K L st = er (true) (reach st.h eg (AV.names.go ([s, x].map (cf L))) []) ⟨d, .call { callee := .builtin .min, args := #[s, x], argTypes := ts }, ty, pos, af, gd⟩ recs K L st (mono (abk (cf L s) (cf L x) (x7 P (br ⟨d, .call { callee := .builtin .min, args := #[s, x], argTypes := ts }, ty, pos, af, gd⟩ L) ⟨d, .call { callee := .builtin .min, args := #[s, x], argTypes := ts }, ty, pos, af, gd⟩ [s, x]))) := by
  unfold fi kh l8 er
  simp only [jd, cond_false]
  have hm : ∀ y, y ∈ ([s, x] : List Operand) → br ⟨d, .call { callee := .builtin .min, args := #[s, x], argTypes := ts }, ty, pos, af, gd⟩ L y = cf L y := fun y hy => dy (by simpa [Op.operands, Call.operands] using hy)
  have hmap : ([s, x] : List Operand).map (br ⟨d, .call { callee := .builtin .min, args := #[s, x], argTypes := ts }, ty, pos, af, gd⟩ L) = ([s, x] : List Operand).map (cf L) := gu (fun y hy => by simpa [Op.operands, Call.operands] using hy)
  have ho : (⟨d, .call { callee := .builtin .min, args := #[s, x], argTypes := ts }, ty, pos, af, gd⟩ : Oper).op.operands.toList = [s, x] := by simp [Op.operands, Call.operands]
  rw [ho, hmap]
  rw [Kq, hm s (by simp), hm x (by simp)]
  rfl
theorem Lf (P : Program) (T : dr) (ρ : Operand → AV) (d ty pos af gd) (s x ts) : fj P T ⟨d, .call { callee := .builtin .max, args := #[s, x], argTypes := ts }, ty, pos, af, gd⟩ ρ = mono (Yv (ρ s) (ρ x) (x7 P ρ ⟨d, .call { callee := .builtin .max, args := #[s, x], argTypes := ts }, ty, pos, af, gd⟩ [s, x])) := by
  rw [← ajy]; rfl
theorem af6 {P : Program} {T : dr} {d ty pos af gd recs K L st} (s x ts) : fi P T ⟨d, .call { callee := .builtin .max, args := #[s, x], argTypes := ts }, ty, pos, af, gd⟩ recs K L st = er (true) (reach st.h eg (AV.names.go ([s, x].map (cf L))) []) ⟨d, .call { callee := .builtin .max, args := #[s, x], argTypes := ts }, ty, pos, af, gd⟩ recs K L st (mono (Yv (cf L s) (cf L x) (x7 P (br ⟨d, .call { callee := .builtin .max, args := #[s, x], argTypes := ts }, ty, pos, af, gd⟩ L) ⟨d, .call { callee := .builtin .max, args := #[s, x], argTypes := ts }, ty, pos, af, gd⟩ [s, x]))) := by
  unfold fi kh l8 er
  simp only [jd, cond_false]
  have hm : ∀ y, y ∈ ([s, x] : List Operand) → br ⟨d, .call { callee := .builtin .max, args := #[s, x], argTypes := ts }, ty, pos, af, gd⟩ L y = cf L y := fun y hy => dy (by simpa [Op.operands, Call.operands] using hy)
  have hmap : ([s, x] : List Operand).map (br ⟨d, .call { callee := .builtin .max, args := #[s, x], argTypes := ts }, ty, pos, af, gd⟩ L) = ([s, x] : List Operand).map (cf L) := gu (fun y hy => by simpa [Op.operands, Call.operands] using hy)
  have ho : (⟨d, .call { callee := .builtin .max, args := #[s, x], argTypes := ts }, ty, pos, af, gd⟩ : Oper).op.operands.toList = [s, x] := by simp [Op.operands, Call.operands]
  rw [ho, hmap]
  rw [Lf, hm s (by simp), hm x (by simp)]
  rfl
theorem MM0 : type_of% @al9 ∧ type_of% @amz ∧ type_of% @Kq ∧ type_of% @Lf ∧ type_of% @agj ∧ type_of% @af6 :=
  ⟨@al9, @amz, @Kq, @Lf, @agj, @af6⟩
end
end Go.Vm
end
section
set_option linter.unusedSimpArgs false
set_option linter.unusedVariables false
namespace Go.Proofs.YtcbdpmfipecmgaaGreat
open Go.Vm
set_option maxRecDepth 2000000
theorem W5 {z : bf} {n : Name} (hz : cg z) (hn : bb n) : bb (gq z n).1.node := by
  by_cases h : gk z n = 0
  · rcases U1 h with ⟨c, hc, e⟩ | ⟨hc, _, _, e⟩ | ⟨hc, _, _, e⟩ | ⟨hc, _, _, _, e⟩ | ⟨hc, _, _, _, e⟩ <;> rw [e]
    · exact Kw hz z.ak none (fun _ h => h) (fun m hm => by cases hm) c hc
    · exact hn
    · show bk [] ≤ _; decide
    · exact Sb (uc h).2.1
    · show bk [] ≤ _; decide
  · rw [Zs h]; show bk [] ≤ _; decide
theorem arq {z : bf} {n : Name} (h : (gq z n).2 = 0) : gk z n = 0 := by
  by_cases e : gk z n = 0
  · exact e
  · rw [Zs e] at h; exact h
theorem Jv {z : bf} {n : Name} {t : UInt16} (h : (k8 z n t).2 = 0) : gk z n = 0 ∧ (t.toNat : Int) ≠ 0 ∧ (t.toNat : Int) ≠ 41 ∧ (k8 z n t).1 = (gq z n).1 := by
  unfold k8 at h ⊢
  split at h
  · cases h
  · rename_i q
    rw [if_neg q]
    exact ⟨arq h, fun e => q ⟨h, .inl e⟩, fun e => q ⟨h, .inr e⟩, rfl⟩
noncomputable def A9 (z : bf) (n : Name) (t : UInt16) : Et × Int := if (k8 z n t).2 ≠ 0 then (pg 0 [] [], (k8 z n t).2) else (kx z n t (gq z n).1, 0)
theorem arc (z : bf) (n : Name) (t : UInt16) (hz : cg z) (hn : bb n) : wl PP [Qf, Ym] 0 (Tryz.f19.body.getD .skip) (du PP Tryz.f19.results.toList (fun r st => (r2 wv (be .i64)).get true st.h r = some (A9 z n t))) (cy 0 [cj.val false z, ar.val false n, cq.val false t]) (bn []) := by
  unfold Tryz.f19
  simp only [iy, da]
  unfold A9
  by_cases he : (k8 z n t).2 = 0
  · obtain ⟨h1, h2, h3, h4⟩ := Jv he
    obtain ⟨a1, a2, a3⟩ := uc h1
    have hsp := W5 hz hn
    rw [if_neg (by omega)]
    rcases hf : gq z n with ⟨⟨k, nd, cl⟩, e⟩
    rw [hf] at h4 hsp
    rcases ha : k8 z n t with ⟨sp, e'⟩
    rw [ha] at h4 he
    simp only at h4 he hsp
    subst h4 he
    simp only [↓wR, RA, simprocAttr, TF, ag, x9, hz, hn, ha, bne_self_eq_false, uk, a1, hsp]
    rfl
  · rw [if_pos he]
    rcases ha : k8 z n t with ⟨⟨k, nd, cl⟩, e⟩
    rw [ha] at he
    have hb : (e != 0) = true := by simpa using he
    simp only [↓wR, RA, simprocAttr, TF, ag, x9, hz, hn, ha, hb]
noncomputable def K7 (x : bf × Name × UInt16 × Unit) : Option AV := if cg x.1 ∧ bb x.2.1 then some ((r2 wv (be .i64)).E true (A9 x.1 x.2.1 x.2.2.1)) else none
set_option maxRecDepth 2000000 in
theorem ahh (x : bf × Name × UInt16 × Unit) (r : AV) (h : K7 x = some r) : bh PP 19 ((aC cj (aC ar (aC cq a0))).E x) r := by
  by_cases hc : cg x.1 ∧ bb x.2.1
  case neg => simp only [K7, if_neg hc] at h; cases h
  simp only [K7, if_pos hc] at h
  cases h
  exact bg (aw.cons (aq Fv) (aw.cons (aq He) (aw.nil PP))) Tryz.func19 (by kernel_rfl) (by kernel_rfl) (by kernel_rfl) (Nat.le_of_ble_eq_true (by kernel_rfl)) (r2 wv (be .i64)) true (A9 x.1 x.2.1 x.2.2.1) (arc x.1 x.2.1 x.2.2.1 hc.1 hc.2)
noncomputable abbrev avb : Nat × Bool × (List AV → M AV) := (19, true, dj (aC cj (aC ar (aC cq a0))) K7)
def an3 (a b : UInt32) : UInt32 := if (a.toNat : Int) ≤ b.toNat then a else b
def o0 (z : bf) : bd :=
  let s := (vt z.ak z.origin 6).getD U2
  mkS s.owner s.type s.cls (an3 s.qn (((s.data[0]?).bind fun d => d.nums[4]?).getD 0)) s.data
theorem aov (z : bf) : ∀ (l : List bd) (p : Nat × Nat), p.2 < (l.foldl (kb z) p).2 → ∃ s ∈ l, (s.type.toNat : Int) = 6 ∧ dw s.owner z.origin = true := by
  intro l
  induction l with
  | nil => intro p h; exact absurd h (Nat.lt_irrefl _)
  | cons a l ih =>
    intro p h
    rw [List.foldl_cons] at h
    by_cases h2 : (kb z p a).2 < (l.foldl (kb z) (kb z p a)).2
    · obtain ⟨s, hs, h3⟩ := ih _ h2
      exact ⟨s, by simp [hs], h3⟩
    · have h3 : (kb z p a).2 ≠ p.2 := by omega
      refine ⟨a, by simp, ?_⟩
      unfold kb at h3
      split at h3
      · rename_i e6
        dsimp only at h3
        split at h3
        · rename_i e7
          rw [Bool.and_eq_true] at e7
          exact ⟨e6, e7.1⟩
        · exact (h3 rfl).elim
      · exact (h3 rfl).elim
theorem Zg {s : bd} (h : nr s = true) : (s.cls.toNat : Int) = 1 ∧ (s.type.toNat : Int) ≠ 255 := by
  unfold nr at h
  split at h
  · cases h
  split at h
  · cases h
  split at h
  · cases h
  · rename_i q _ _; exact ⟨by omega, by simpa using h⟩
theorem W9 {z : bf} (h : ic z = 0) : ∃ s, vt z.ak z.origin 6 = some s := by
  have hg := Mn h
  have h2 : (0 : Nat) < (gb z).2 := by rw [hg.aw9.2]; decide
  obtain ⟨s, hs, e6, hso⟩ := aov z z.ak (0, 0) h2
  have hc := (Zg (hg.cls s hs)).1
  have hp : tx z.origin 6 s = true := by unfold tx; rw [decide_eq_true (show (s.type.toNat : Int) = (6 : UInt16).toNat from e6), decide_eq_true hc, hso]; rfl
  cases hf : vt z.ak z.origin 6 with
  | some q => exact ⟨q, rfl⟩
  | none => exact absurd hp (by simpa using List.find?_eq_none.1 hf s hs)
theorem am2 (z : bf) (hz : cg z) (he : ic z = 0) : wl PP [Ks] 0 (Tryz.f28.body.getD .skip) (du PP Tryz.f28.results.toList (fun r st => (r1 ah).get true st.h r = some (o0 z))) (cy 0 [cj.val false z]) (bn []) := by
  obtain ⟨s, hs⟩ := W9 he
  obtain ⟨m1, m2, m3, m4⟩ := Hj hs
  obtain ⟨d, k, hd, hk⟩ := auc (Ea he s m1) (by rw [m2]; rfl)
  unfold Tryz.f28
  simp only [iy]
  unfold o0
  simp only [↓wR, RA, simprocAttr, TF, ag, au2, Cv, hz.mid, hz.origin, hs]
  refine ⟨by kernel_rfl, .inl ?_⟩
  have hm : (if (k.toNat : Int) < s.qn.toNat then (k.toNat : Int) else s.qn.toNat) = ((an3 s.qn k).toNat : Int) := by
    unfold an3; split <;> split <;> first | rfl | omega
  simp only [↓wR, RA, simprocAttr, TF, ag, hd, hk, MM0, hm]
  have hq : ∀ a b c d, ib a b c = d → ib a b c = d := fun _ _ _ _ h => h
  apply hq
  kernel_rfl
noncomputable def z5 (x : bf × Unit) : Option AV := if cg x.1 ∧ ic x.1 = 0 then some ((r1 ah).E true (o0 x.1)) else none
set_option maxRecDepth 2000000 in
theorem Lo (x : bf × Unit) (r : AV) (h : z5 x = some r) : bh PP 28 ((aC cj a0).E x) r := by
  by_cases hc : cg x.1 ∧ ic x.1 = 0
  case neg => simp only [z5, if_neg hc] at h; cases h
  simp only [z5, if_pos hc] at h
  cases h
  exact bg (aw.cons (aq Fh) (aw.nil PP)) Tryz.func28 (by kernel_rfl) (by kernel_rfl) (by kernel_rfl) (Nat.le_of_ble_eq_true (by kernel_rfl)) (r1 ah) true (o0 x.1) (am2 x.1 hc.1 hc.2)
noncomputable abbrev Uv : Nat × Bool × (List AV → M AV) := (28, true, dj (aC cj a0) z5)
def sa (n : Name) (s : bd) : Bool := (decide ((s.type.toNat : Int) = 1) || decide ((s.type.toNat : Int) = 28)) && dw s.owner n
def xi (z : bf) : List Name → List Name → List bd
  | _, [] => []
  | pre, n :: r => (if pre.any (fun m => dw m n) = true then [] else z.ak.filter (sa n)) ++ xi z (pre ++ [n]) r
def Eb (z : bf) (l : List Name) : List bd := xi z [] l
def ly (l : List Name) : Prop := g8 bk l ≤ 16777216
instance (l : List Name) : Decidable (ly l) := inferInstanceAs (Decidable (_ ≤ _))
theorem ly.mem {l : List Name} (h : ly l) : ∀ n ∈ l, bb n := fun n hn => by
  have h1 : bk n < g8 bk l := Cw hn
  unfold ly at h; unfold bb; omega
theorem ly.len {l : List Name} (h : ly l) : l.length ≤ 16777216 := Nat.le_trans (yc bk l) h
theorem H7 {z : bf} (h : ic z = 0) : z.ak.length ≤ 2048 := by
  have hs := Ea h
  have hf := (Mn h).first
  unfold ux at hf
  split at hf
  · contradiction
  have key : ∀ (l : List bd) (e : Int), A0 l e = 0 → e = 0 := by
    intro l
    induction l with
    | nil => intro e h; exact h
    | cons a l ih =>
      intro e h
      rw [A0] at h
      have h1 := ih _ h
      split at h1
      · assumption
      · exact h1
  have h1 := key _ _ hf
  have h2 : ky z.ak ≤ 2048 := by
    unfold cx at h1
    split at h1
    · cases h1
    · rename_i q
      by_cases hd : ky z.ak ≤ 2048
      · exact hd
      · exact (q ⟨rfl, decide_eq_false hd⟩).elim
  have h3 : ∀ (l : List bd) (k : Nat), (∀ s ∈ l, ph s = 0) → k + l.length ≤ l.foldl (fun n s => n + s.data.length) k := by
    intro l
    induction l with
    | nil => intro k _; exact Nat.le_refl _
    | cons a l ih =>
      intro k hl
      obtain ⟨d, hd, _⟩ := Fo (hl a (by simp))
      have : 0 < a.data.length := (List.getElem?_eq_some_iff.1 hd).1
      have := ih (k + a.data.length) (fun s hs => hl s (by simp [hs]))
      rw [List.length_cons, List.foldl_cons]
      omega
  have := h3 z.ak 0 hs
  unfold ky at h2
  omega
theorem Vj (z : bf) : ∀ (r pre : List Name), (xi z pre r).length ≤ r.length * z.ak.length := by
  intro r
  induction r with
  | nil => intro pre; simp [xi]
  | cons n r ih =>
    intro pre
    have h1 := ih (pre ++ [n])
    have h2 := tp (l := z.ak) (sa n)
    have h3 : (r.length + 1) * z.ak.length = r.length * z.ak.length + z.ak.length := Nat.succ_mul _ _
    rw [xi, List.length_append, List.length_cons, h3]
    split
    · simp; omega
    · omega
theorem apl {z : bf} {l : List Name} {i : Nat} {n : Name} (hc : l[i]? = some n) : xi z (l.take i) (l.drop i) = (if (l.take i).any (fun m => dw m n) = true then [] else z.ak.filter (sa n)) ++ xi z (l.take (i + 1)) (l.drop (i + 1)) := by
  obtain ⟨hi, rfl⟩ := List.getElem?_eq_some_iff.1 hc
  rw [List.drop_eq_getElem_cons hi, xi, List.take_succ_eq_append_getElem hi]
set_option maxHeartbeats 4000000 in
theorem Yz (z : bf) (l : List Name) (hz : cg z) (he : ic z = 0) (hl : ly l) : wl PP [dc, wt] 0 (Tryz.f42.body.getD .skip) (du PP Tryz.f42.results.toList (fun r st => (r1 (cw ah)).get true st.h r = some (Eb z l))) (cy 0 [cj.val false z, (cw ar).val false l]) (bn []) := by
  have hzl := H7 he
  have hlen := hl.len
  have ok : aw PP [dc, wt] := aw.cons (aq eb) (aw.cons (aq sy) (aw.nil PP))
  have htot := Vj z l []
  have htot2 : l.length * z.ak.length ≤ 16777216 * 2048 := Nat.mul_le_mul hlen hzl
  unfold Tryz.f42
  simp only [iy]
  simp only [↓wR, RA, simprocAttr, TF, ag]
  refine jz [1, 2, 10, 11, 12, 5] (fun (x : Nat × List bd) => [.vl false 1 (l.map (ar.val false)), .ptr 0 0, .vl false 1 (l.map (ar.val false)), .sc (.int .i64 (l.length)), .sc (.int .i64 (x.1)), .sl 1 0 x.2.length 5]) (fun x => [some (.row [.vl false 1 (z.origin.map (aj.val false)), .vl false 5 (z.ak.map (ah.val false))] 0 2 26), some (.row (cellsOf ah true (x.2)) 0 0 44)]) (fun x => x.1 ≤ l.length ∧ x.2 ++ xi z (l.take x.1) (l.drop x.1) = Eb z l) (fun x => l.length - x.1) (0, []) ⟨Nat.zero_le _, by rw [List.take_zero, List.drop_zero]; rfl⟩ (by simp only [↓wR, RA, simprocAttr, TF, ag]; (refine mz.lax [] (by first | exact Nat.le_of_ble_eq_true rfl | (simp [bw]; omega)) ?_ ?_ <;> repeat' first | exact i6.nil | exact db.nil | exact jb.same _ | exact jb.nil _ _ _ | exact jb.vh _ _ | exact db.refl _ _ | apply i6.cons | apply db.ghost | apply db.same | apply db.row)) ?_
  rintro ⟨i, x⟩ ⟨hi, hx⟩
  simp only at hi hx
  simp only [↓wR, RA, simprocAttr, TF, ag]
  rw [cp]; refine ⟨fun h => ?_, fun h => ?_⟩
  · obtain ⟨n, hc, hd1, hlt⟩ := ed (decide_eq_true h)
    rw [apl hc] at hx
    have hns := hl.mem n (List.mem_of_getElem? hc)
    simp only [↓wR, RA, simprocAttr, TF, ag, h, hc]; repeat (simp (disch := omega) only [ai, cb, cd, b9, ca]; try simp only [↓wR, RA, simprocAttr, TF, ag, h, hc])
    obtain ⟨p, hp⟩ : ∃ p, p = l.take i := ⟨_, rfl⟩
    have hpl : p.length ≤ l.length := by rw [hp, List.length_take]; omega
    have hpm : ∀ c ∈ p, c ∈ l := fun c hc => by rw [hp] at hc; exact List.mem_of_mem_take hc
    rw [← hp] at hx ⊢
    refine dn (fun r st' => r = .sc (.bool (p.any (fun m => dw m n))) ∧ st' = bn [some (.row [.vl false 1 (z.origin.map (aj.val false)), .vl false 5 (z.ak.map (ah.val false))] 0 2 26), some (.row (cellsOf ah true (x)) 0 0 44), some (.row [ar.val false n] 0 2 23)]) rfl ?_ ?_
    · refine bm (T := []) (aw.nil PP) mixed Tryz.func45 rfl (by kernel_rfl) (by kernel_rfl) (by kernel_rfl) (by kernel_rfl) ?_; unfold Tryz.f45
      simp only [↓wR, RA, simprocAttr, TF, ag]
      refine bm (T := []) (aw.nil PP) mixed Tryz.func61 rfl (by kernel_rfl) (by kernel_rfl) (by kernel_rfl) (by kernel_rfl) ?_; unfold Tryz.f61
      simp only [↓wR, RA, simprocAttr, TF, ag]
      refine dx [0, 1, 7, 8] (fun (k : Nat) => [.vl false 1 (p.map (ar.val false)), .fn (.func 59) [] [.ptr 2 0], .sc (.int .i64 (p.length)), .sc (.int .i64 (k))]) (fun _ => [some (.row [.vl false 1 (z.origin.map (aj.val false)), .vl false 5 (z.ak.map (ah.val false))] 0 2 26), some (.row (cellsOf ah true (x)) 0 0 44), some (.row [ar.val false n] 0 2 23)]) (fun k => k ≤ p.length ∧ (p.any fun m => dw m n) = ((p.drop k).any fun m => dw m n)) (fun k => p.length - k) 0 ⟨Nat.zero_le _, rfl⟩ (by simp only [↓wR, RA, simprocAttr, TF, ag] <;> rfl) (by simp only [↓wR, RA, simprocAttr, TF, ag] <;> rfl) ?_
      clear hx
      rintro k ⟨hk, hx⟩
      simp only [↓wR, RA, simprocAttr, TF, ag]
      rw [cp]; refine ⟨fun h3 => ?_, fun h3 => ?_⟩
      · obtain ⟨c, hc2, hd2, hlt2⟩ := ed (decide_eq_true h3)
        rw [hd2, List.any_cons] at hx
        have hcs := hl.mem c (hpm c (List.mem_of_getElem? hc2))
        simp only [↓wR, RA, simprocAttr, TF, ag, h3, hc2]; repeat (simp (disch := omega) only [ai, cb, cd, b9, ca]; try simp only [↓wR, RA, simprocAttr, TF, ag, h3, hc2])
        refine bm (T := [dc, wt]) ok mixed Tryz.func59 rfl (by kernel_rfl) (by kernel_rfl) (by kernel_rfl) (by kernel_rfl) ?_; unfold Tryz.f59
        simp only [↓wR, RA, simprocAttr, TF, ag, fm, hcs, hns]
        rw [cz]; refine ⟨fun h4 => ?_, fun h4 => ?_⟩
        · rw [h4, Bool.true_or] at hx
          simp only [↓wR, RA, simprocAttr, TF, ag, h4, iz, ik, g5, hx]
        · rw [h4, Bool.false_or] at hx
          simp only [↓wR, RA, simprocAttr, TF, ag, h4]; repeat (simp (disch := omega) only [ai, cb, cd, b9, ca]; try simp only [↓wR, RA, simprocAttr, TF, ag, h4])
          exact ⟨k + 1, ⟨hlt2, hx⟩, by omega, by (first | rfl | trivial | omega | ((try (simp (disch := omega) only [ai])); (try (simp only [FB])); first | done | rfl | omega))⟩
      · rw [fq (decide_eq_false h3), List.any_nil] at hx
        simp only [↓wR, RA, simprocAttr, TF, ag, h3, iz, ik, g5, hx]
    rintro _ _ ⟨rfl, rfl⟩
    simp only [↓wR, RA, simprocAttr, TF, ag, gm]
    rw [cz]; refine ⟨fun h2 => ?_, fun h2 => ?_⟩
    · rw [if_pos h2, List.nil_append] at hx
      simp only [↓wR, RA, simprocAttr, TF, ag, h2]; repeat (simp (disch := omega) only [ai, cb, cd, b9, ca]; try simp only [↓wR, RA, simprocAttr, TF, ag, h2])
      exact ⟨(i + 1, x), ⟨hlt, hx⟩, by simp; omega, by (first | rfl | trivial | omega | ((try (simp (disch := omega) only [ai])); (try (simp only [FB])); first | done | rfl | omega))⟩
    rw [h2, if_neg (by decide)] at hx
    simp only [↓wR, RA, simprocAttr, TF, ag, h2]
    refine jz [1, 2, 7, 10, 11, 12, 23, 24, 25, 5] (fun (y : Nat × List bd) => [.vl false 1 (l.map (ar.val false)), .ptr 0 0, .ptr 1 0, .vl false 1 (l.map (ar.val false)), .sc (.int .i64 (l.length)), .sc (.int .i64 (i)), .vl false 5 (z.ak.map (ah.val false)), .sc (.int .i64 (z.ak.length)), .sc (.int .i64 (y.1)), .sl 2 0 y.2.length 5]) (fun y => [some (.row [.vl false 1 (z.origin.map (aj.val false)), .vl false 5 (z.ak.map (ah.val false))] 0 2 26), some (.row [ar.val false n] 0 2 23), some (.row (cellsOf ah true (y.2)) 0 0 44)]) (fun y => y.1 ≤ z.ak.length ∧ y.2 ++ (z.ak.drop y.1).filter (sa n) = x ++ z.ak.filter (sa n)) (fun y => z.ak.length - y.1) (0, x) ⟨Nat.zero_le _, rfl⟩ (by simp only [↓wR, RA, simprocAttr, TF, ag]; (refine mz.lax [] (by first | exact Nat.le_of_ble_eq_true rfl | (simp [bw]; omega)) ?_ ?_ <;> repeat' first | exact i6.nil | exact db.nil | exact jb.same _ | exact jb.nil _ _ _ | exact jb.vh _ _ | exact db.refl _ _ | apply i6.cons | apply db.ghost | apply db.same | apply db.row)) ?_
    rintro ⟨k, y⟩ ⟨hk, hy⟩
    simp only at hk hy
    have hyl : y.length ≤ 16777216 * 2048 := by
      have h5 := congrArg List.length hy
      have h6 := congrArg List.length hx
      unfold Eb at h6
      simp only [List.length_append] at h5 h6
      omega
    simp only [↓wR, RA, simprocAttr, TF, ag]
    rw [cp]; refine ⟨fun h3 => ?_, fun h3 => ?_⟩
    · obtain ⟨c, hc2, hd2, hlt2⟩ := ed (decide_eq_true h3)
      rw [Jz hd2] at hy
      have hcs := hz.set c (List.mem_of_getElem? hc2)
      have hlim : (y.length * 5 + 5) * 64 ≤ 140737488355328 := by omega
      simp only [↓wR, RA, simprocAttr, TF, ag, h3, hc2]; repeat (simp (disch := omega) only [ai, cb, cd, b9, ca]; try simp only [↓wR, RA, simprocAttr, TF, ag, h3, hc2])
      have hyes : sa n c = true → (dw c.owner n = true) := fun q => by simp only [sa, Bool.and_eq_true] at q; exact q.2
      have step1 : sa n c = true → (y ++ [c]) ++ (z.ak.drop (k + 1)).filter (sa n) = x ++ z.ak.filter (sa n) := fun q => by rw [if_pos q] at hy; rw [← hy, List.append_assoc]
      have step0 : sa n c = false → y ++ (z.ak.drop (k + 1)).filter (sa n) = x ++ z.ak.filter (sa n) := fun q => by rw [q, if_neg (by decide), List.nil_append] at hy; exact hy
      clear hy hyes
      rw [c9]; refine ⟨fun ⟨h4, e4⟩ => ?_, fun ⟨h4, e4⟩ => ?_⟩
      rotate_left
      simp only [↓wR, RA, simprocAttr, TF, ag, h4]
      rw [c9]
      refine ⟨fun ⟨h5, e5⟩ => ?yes, fun ⟨h5, e5⟩ => ?no⟩
      case no =>
        simp only [↓wR, RA, simprocAttr, TF, ag, h5]; repeat (simp (disch := omega) only [ai, cb, cd, b9, ca]; try simp only [↓wR, RA, simprocAttr, TF, ag, h5])
        exact ⟨(k + 1, y), ⟨hlt2, step0 (by unfold sa; rw [decide_eq_false e4, decide_eq_false e5]; rfl)⟩, by simp; omega, by (first | rfl | trivial | omega | ((try (simp (disch := omega) only [ai])); (try (simp only [FB])); first | done | rfl | omega))⟩
      have hty : (decide ((c.type.toNat : Int) = 1) || decide ((c.type.toNat : Int) = 28)) = true := by rw [decide_eq_true e5, Bool.or_true]
      simp only [↓wR, RA, simprocAttr, TF, ag, h5]
      rotate_left
      have hty : (decide ((c.type.toNat : Int) = 1) || decide ((c.type.toNat : Int) = 28)) = true := by rw [decide_eq_true e4]; rfl
      simp only [↓wR, RA, simprocAttr, TF, ag, h4]
      all_goals
        simp only [↓wR, RA, simprocAttr, TF, ag, fm, hcs.owner, hns]
        rw [cz]; refine ⟨fun h6 => ?_, fun h6 => ?_⟩
        · simp only [↓wR, RA, simprocAttr, TF, ag, h6, o9, hcs, hlim]; repeat (simp (disch := omega) only [ai, cb, cd, b9, ca]; try simp only [↓wR, RA, simprocAttr, TF, ag, h6, o9, hcs, hlim])
          refine ⟨(k + 1, y ++ [c]), ⟨hlt2, step1 (by unfold sa; rw [hty, h6]; rfl)⟩, by simp; omega, by (first | rfl | trivial | omega | ((try (simp (disch := omega) only [ai])); (try (simp only [FB])); first | done | rfl | omega)), ?_⟩
          rw [sx]
        · simp only [↓wR, RA, simprocAttr, TF, ag, h6]; repeat (simp (disch := omega) only [ai, cb, cd, b9, ca]; try simp only [↓wR, RA, simprocAttr, TF, ag, h6])
          exact ⟨(k + 1, y), ⟨hlt2, step0 (by unfold sa; rw [h6, Bool.and_false])⟩, by simp; omega, by (first | rfl | trivial | omega | ((try (simp (disch := omega) only [ai])); (try (simp only [FB])); first | done | rfl | omega))⟩
    · rw [fq (decide_eq_false h3), List.filter_nil, List.append_nil] at hy
      subst hy
      simp only [↓wR, RA, simprocAttr, TF, ag, h3]; repeat (simp (disch := omega) only [ai, cb, cd, b9, ca]; try simp only [↓wR, RA, simprocAttr, TF, ag, h3])
      exact ⟨(i + 1, x ++ z.ak.filter (sa n)), ⟨hlt, by rw [List.append_assoc]; exact hx⟩, by simp; omega, by (first | rfl | trivial | omega | ((try (simp (disch := omega) only [ai])); (try (simp only [FB])); first | done | rfl | omega))⟩
  · rw [fq (decide_eq_false h)] at hx
    rw [xi, List.append_nil] at hx
    subst hx
    simp only [↓wR, RA, simprocAttr, TF, ag, h]
noncomputable def G1 (x : bf × List Name × Unit) : Option AV := if (cg x.1 ∧ ic x.1 = 0) ∧ ly x.2.1 then some ((r1 (cw ah)).E true (Eb x.1 x.2.1)) else none
set_option maxRecDepth 2000000 in
theorem Hn (x : bf × List Name × Unit) (r : AV) (h : G1 x = some r) : bh PP 42 ((aC cj (aC (cw ar) a0)).E x) r := by
  by_cases hc : (cg x.1 ∧ ic x.1 = 0) ∧ ly x.2.1
  case neg => simp only [G1, if_neg hc] at h; cases h
  simp only [G1, if_pos hc] at h
  cases h
  exact bg (aw.cons (aq eb) (aw.cons (aq sy) (aw.nil PP))) Tryz.func42 (by kernel_rfl) (by kernel_rfl) (by kernel_rfl) (Nat.le_of_ble_eq_true (by kernel_rfl)) (r1 (cw ah)) true (Eb x.1 x.2.1) (Yz x.1 x.2.1 hc.1.1 hc.1.2 hc.2)
noncomputable abbrev P2 : Nat × Bool × (List AV → M AV) := (42, true, dj (aC cj (aC (cw ar) a0)) G1)
end Go.Proofs.YtcbdpmfipecmgaaGreat
end
section
set_option linter.unusedVariables false
set_option linter.unusedSimpArgs false
namespace Go.Vm
noncomputable section
def te (D : List Nat) (nx i : Nat) : Nat := match D[i]? with | some o => o | none => nx + (i - D.length)
def Jg (D : List Nat) (nx n0 i : Nat) : Option Nat := bif Nat.blt i n0 then some (te D nx i) else none
def Bw (D : List Nat) (nx n0 : Nat) (h0 : Tr ba) : List Nat → Tr ba → Tr ba
  | [], h => h
  | i :: r, h => Bw D nx n0 h0 r (Tr.set depth h (te D nx i) ((h0.get i).bind (ba.c8 (Jg D nx n0))))
def uj (D : List Nat) (st st0 : St) : St := { h := Bw D st.nx st0.nx st0.h (dh 0 st0.nx) st.h, nx := st.nx + (st0.nx - D.length), rl := [], wl := [] }
theorem zh {D : List Nat} {nx i o : Nat} (h : D[i]? = some o) : te D nx i = o := by unfold te; rw [h]
theorem Bo {D : List Nat} {nx i : Nat} (h : D.length ≤ i) : te D nx i = nx + (i - D.length) := by unfold te; rw [List.getElem?_eq_none h]
theorem asi {D : List Nat} {nx : Nat} (hD : D.Nodup) (hlt : ∀ o ∈ D, o < nx) {i j : Nat} (h : te D nx i = te D nx j) : i = j := by
  rcases Nat.lt_or_ge i D.length with hi | hi <;> rcases Nat.lt_or_ge j D.length with hj | hj
  · rw [zh (List.getElem?_eq_getElem hi), zh (List.getElem?_eq_getElem hj)] at h
    exact (List.getElem_inj hD).1 h
  · rw [zh (List.getElem?_eq_getElem hi), Bo hj] at h
    have := hlt _ (List.getElem_mem hi); omega
  · rw [Bo hi, zh (List.getElem?_eq_getElem hj)] at h
    have := hlt _ (List.getElem_mem hj); omega
  · rw [Bo hi, Bo hj] at h; omega
theorem atj {D : List Nat} {nx n0 i : Nat} (hlt : ∀ o ∈ D, o < nx) (hi : i < n0) : te D nx i ≤ nx + n0 := by
  rcases Nat.lt_or_ge i D.length with h | h
  · rw [zh (List.getElem?_eq_getElem h)]; have := hlt _ (List.getElem_mem h); omega
  · rw [Bo h]; omega
theorem Hw {D : List Nat} {nx n0 : Nat} {h0 : Tr ba} {o : Nat} : ∀ (l : List Nat) (h : Tr ba), (∀ i ∈ l, te D nx i ≤ bw) → (∀ i ∈ l, te D nx i ≠ o) → (Bw D nx n0 h0 l h).get o = h.get o
  | [], h, _, _ => rfl
  | i :: r, h, hl, ho => by
    rw [Bw, Hw r _ (fun j hj => hl j (by simp [hj])) (fun j hj => ho j (by simp [hj])), en _ _ _ _ (hl i (by simp)), if_neg (fun e => ho i (by simp) e.symm)]
theorem Vg {D : List Nat} {nx n0 : Nat} {h0 : Tr ba} (hinj : ∀ i j, te D nx i = te D nx j → i = j) {i : Nat} : ∀ (l : List Nat) (h : Tr ba), (∀ j ∈ l, te D nx j ≤ bw) → i ∈ l → (Bw D nx n0 h0 l h).get (te D nx i) = (h0.get i).bind (ba.c8 (Jg D nx n0))
  | [], _, _, hi => by cases hi
  | j :: r, h, hl, hi => by
    rw [Bw]
    by_cases hr : i ∈ r
    · exact Vg hinj r _ (fun k hk => hl k (by simp [hk])) hr
    · have hij : i = j := by rcases List.mem_cons.1 hi with e | e; exact e; exact (hr e).elim
      subst hij
      rw [Hw r _ (fun k hk => hl k (by simp [hk])) (fun k hk e => hr (hinj k i e ▸ hk)), en _ _ _ _ (hl i (by simp)), if_pos rfl]
theorem apa {n i : Nat} (h : i < n) : i ∈ dh 0 n := (ir n 0 i).2 ⟨Nat.zero_le _, by omega⟩
theorem Q3 {n i : Nat} (h : i ∈ dh 0 n) : i < n := by have := ((ir n 0 i).1 h).2; omega
theorem ads : ∀ (l : List Nat) (o i : Nat), idx l o i = none → o ∉ l
  | [], o, i, _ => by simp
  | a :: l, o, i, h => by
    rw [Hz] at h
    split at h
    · cases h
    · rename_i ne
      have := ads l o (i + 1) h
      simp only [List.mem_cons, not_or]
      exact ⟨fun e => ne e.symm, this⟩
theorem ado {D : List Nat} {g g0' : Gh} {st st0' : St} {h0 : Tr ba} {w w' : World} {r : AV} {v : Value} (hD : D.Nodup) (hlt : ∀ o ∈ D, o < st.nx) (hp : ∀ o ∈ D, (st.h.get o).isSome = true)
    (hok : Ok g st.h w) (hfr : ∀ o, st.nx ≤ o → g.inj o = none) (hk : D.length ≤ st0'.nx) (hb : st.nx + st0'.nx ≤ bw)
    (s0 : Step (g.c8 D) h0 w D.length st0'.nx g0' st0'.h w') (ok0 : Ok g0' st0'.h w') (hr : Rel g0' w' r v) :
    ∃ g', st.nx ≤ (uj D st st0').nx ∧ Step g st.h w st.nx (uj D st st0').nx g' (uj D st st0').h w' ∧ Ok g' (uj D st st0').h w' ∧ Rel g' w' (r.c8 (Jg D st.nx st0'.nx)) v := by
  obtain ⟨n0, hn0⟩ : ∃ n0, n0 = st0'.nx := ⟨_, rfl⟩
  have hinj := fun i j => asi (nx := st.nx) hD hlt (i := i) (j := j)
  have hule : ∀ i ∈ dh 0 st0'.nx, te D st.nx i ≤ bw := fun i hi => Nat.le_trans (atj hlt (Q3 hi)) hb
  have hin : ∀ i, i < st0'.nx → (uj D st st0').h.get (te D st.nx i) = (st0'.h.get i).bind (ba.c8 (Jg D st.nx st0'.nx)) := fun i hi => Vg hinj _ _ hule (apa hi)
  have hout : ∀ o, (∀ i, i < st0'.nx → te D st.nx i ≠ o) → (uj D st st0').h.get o = st.h.get o := fun o ho => Hw _ _ hule (fun i hi => ho i (Q3 hi))
  have hren : ∀ i, (g.c8 D).inj i = (D[i]?).bind g.inj := fun _ => rfl
  have hold : ∀ i b base, (g.c8 D).inj i = some (b, base) → ∃ o ∈ D, g.inj o = some (b, base) ∧ (st.h.get o).isSome = true := fun i b base hi => by
    rw [hren] at hi
    cases hd : D[i]? with
    | none => rw [hd] at hi; cases hi
    | some o => rw [hd] at hi; exact ⟨o, List.mem_of_getElem? hd, hi, hp o (List.mem_of_getElem? hd)⟩
  have hno : ∀ i, st0'.nx ≤ i → g0'.inj i = none := fun i hi => s0.fresh i (by rw [hren, List.getElem?_eq_none (by omega)]; rfl) (by omega)
  let g' : Gh := { b0 := g.b0, inj := fun o => if o < st.nx then g.inj o else g0'.inj (D.length + (o - st.nx)), K := g0'.K }
  have gl : ∀ o, o < st.nx → g'.inj o = g.inj o := fun o ho => if_pos ho
  have gg : ∀ o, st.nx ≤ o → g'.inj o = g0'.inj (D.length + (o - st.nx)) := fun o ho => if_neg (by omega)
  have F1 : ∀ i, g'.inj (te D st.nx i) = g0'.inj i := fun i => by
    rcases Nat.lt_or_ge i D.length with hi | hi
    · have hd := List.getElem?_eq_getElem hi
      rw [zh hd, gl _ (hlt _ (List.getElem_mem hi))]
      have h1 : (g.c8 D).inj i = g.inj D[i] := by rw [hren, hd]; rfl
      cases hg : g.inj D[i] with
      | some p => exact (s0.ext.inj i p (h1.trans hg)).symm
      | none => exact (s0.fresh i (h1.trans hg) (by omega)).symm
    · rw [Bo hi, gg _ (by omega)]
      congr 1; omega
  let N : List Nat := (List.range (st.nx + st0'.nx)).map fun o => if o < st.nx then (idx D o 0).getD st0'.nx else D.length + (o - st.nx)
  have hNg : ∀ p, p < st.nx + st0'.nx → N[p]? = some (if p < st.nx then (idx D p 0).getD st0'.nx else D.length + (p - st.nx)) := fun p hp => by
    simp only [N, List.getElem?_map, List.getElem?_range hp, Option.map_some]
  have hidx : ∀ i o, D[i]? = some o → idx D o 0 = some i := fun i o hi => by
    cases hx : idx D o 0 with
    | some p =>
      have h1 := Cp D o p hx
      obtain ⟨hi', ei⟩ := List.getElem?_eq_some_iff.1 hi
      obtain ⟨hp', ep⟩ := List.getElem?_eq_some_iff.1 h1
      rw [(List.getElem_inj hD).1 (ei.trans ep.symm)]
    | none => exact absurd (List.mem_of_getElem? hi) (ads D o 0 hx)
  have hτ : ∀ o p, Jg D st.nx st0'.nx o = some p → N[p]? = some o := fun i p h => by
    unfold Jg at h
    cases hlt2 : Nat.blt i st0'.nx with
    | false => rw [hlt2] at h; cases h
    | true =>
      rw [hlt2] at h
      cases h
      have hi : i < st0'.nx := Nat.le_of_ble_eq_true hlt2
      rcases Nat.lt_or_ge i D.length with hi2 | hi2
      · have hd := List.getElem?_eq_getElem hi2
        rw [zh hd, hNg _ (by have := hlt _ (List.getElem_mem hi2); omega), if_pos (hlt _ (List.getElem_mem hi2)), hidx i _ hd]; rfl
      · rw [Bo hi2, hNg _ (by omega), if_neg (by omega)]
        congr 1; omega
  have hext : Ext (g0'.c8 N) w' g' w' := by
    refine ⟨s0.ext.b0.symm, fun p q hq => ?_, fun _ _ h => h, fun _ _ _ => rfl, fun b cs e fr h => ⟨cs, fr, h, rfl⟩, fun b l h => ⟨l, h⟩⟩
    have hq' : (N[p]?).bind g0'.inj = some q := hq
    rcases Nat.lt_or_ge p (st.nx + st0'.nx) with hpl | hpl
    · rw [hNg p hpl, Option.bind_some] at hq'
      by_cases hpn : p < st.nx
      · rw [if_pos hpn] at hq'
        cases hx : idx D p 0 with
        | none => rw [hx, Option.getD_none, hno _ (Nat.le_refl _)] at hq'; cases hq'
        | some i =>
          rw [hx, Option.getD_some] at hq'
          rw [← zh (nx := st.nx) (Cp D p i hx), F1]; exact hq'
      · rw [if_neg hpn] at hq'
        rw [gg p (by omega)]; exact hq'
    · have : N[p]? = none := List.getElem?_eq_none (by simp only [N, List.length_map, List.length_range]; exact hpl)
      rw [this] at hq'; cases hq'
  have himg : ∀ o, (∃ i, i < st0'.nx ∧ te D st.nx i = o) ∨ (∀ i, i < st0'.nx → te D st.nx i ≠ o) := fun o => by
    by_cases h : ∃ i, i < st0'.nx ∧ te D st.nx i = o
    · exact .inl h
    · exact .inr fun i hi e => h ⟨i, hi, e⟩
  have cr : ∀ i x, i < st0'.nx → (uj D st st0').h.get (te D st.nx i) = some x → ∃ y, st0'.h.get i = some y ∧ y.c8 (Jg D st.nx st0'.nx) = some x := fun i x hi hx => by
    rw [hin i hi] at hx
    cases hy : st0'.h.get i with
    | none => rw [hy] at hx; cases hx
    | some y => rw [hy] at hx; exact ⟨y, rfl, hx⟩
  have hfar : ∀ o b base, (∀ i, i < st0'.nx → te D st.nx i ≠ o) → g'.inj o = some (b, base) → o < st.nx ∧ o ∉ D ∧ g.inj o = some (b, base) := fun o b base ho hi => by
    rcases Nat.lt_or_ge o st.nx with h1 | h1
    · refine ⟨h1, fun hd => ?_, by rw [← gl o h1]; exact hi⟩
      obtain ⟨i, hil, e⟩ := List.getElem_of_mem hd
      exact ho i (by omega) (by rw [zh (List.getElem?_eq_getElem hil)]; exact e)
    · rw [gg o h1] at hi
      rcases Nat.lt_or_ge (D.length + (o - st.nx)) st0'.nx with h2 | h2
      · exact (ho _ h2 (by rw [Bo (by omega)]; omega)).elim
      · rw [hno _ h2] at hi; cases hi
  have hsame : ∀ o x b base, o ∉ D → st.h.get o = some x → g.inj o = some (b, base) → b < w.heap.size → w'.heap[b]? = w.heap[b]? ∧ (∀ i base', g0'.inj i = some (b, base') → (st0'.h.get i).isSome = true → False) ∧ (∀ j, g0'.K b j → g.K b j) := fun o x b base ho hx hi hbs => by
    have hnot : ∀ i base', (g.c8 D).inj i ≠ some (b, base') := fun i base' e => by
      obtain ⟨o2, hd, hi2, hs2⟩ := hold i b base' e
      obtain ⟨x2, hx2⟩ := Option.isSome_iff_exists.1 hs2
      exact hok.sep o o2 x x2 b base base' (fun e => ho (e ▸ hd)) hx hx2 hi hi2
    refine ⟨s0.frame b hbs fun i base' _ => hnot i base', fun i base' e hs => ?_, fun j hj => ?_⟩
    · rcases s0.own i b base' hs e with h1 | ⟨o', base2, _, h2⟩
      · omega
      · exact hnot o' base2 h2
    · rcases s0.oq b j hj with h1 | h1 | ⟨o', base2, _, h2⟩
      · exact h1
      · omega
      · exact (hnot o' base2 h2).elim
  have hblk : ∀ o x b base, st.h.get o = some x → g.inj o = some (b, base) → nk g w b base x := fun o x b base hx hi => by
    rcases hok.mw o x hx with ⟨h1, _⟩ | ⟨b', base', h1, _, h2⟩
    · rw [h1] at hi; cases hi
    · rw [h1] at hi; cases hi; exact h2
  have hsz : ∀ b base x, nk g w b base x → b < w.heap.size := fun b base x hx => by
    have hs : ∃ q, w.heap[b]? = some q := by
      cases x with
      | row cells k st et => obtain ⟨cs, fr, h1, _⟩ := hx; exact ⟨_, h1⟩
      | map es => obtain ⟨_, ms, clock, h1, _⟩ := hx; exact ⟨_, h1⟩
      | loop slots nt params assign body state pending => obtain ⟨_, l, h1, _⟩ := hx; exact ⟨_, h1⟩
    obtain ⟨q, hq⟩ := hs
    exact (Array.getElem?_eq_some_iff.1 hq).1
  have hE : Ext g w g' w' := by
    refine ⟨rfl, fun o p hp => ?_, fun b j h => s0.ext.K b j h, fun b j h => s0.ext.cell b j h, s0.ext.z3, s0.ext.lp⟩
    rcases Nat.lt_or_ge o st.nx with h1 | h1
    · rw [gl o h1]; exact hp
    · rw [hfr o h1] at hp; cases hp
  refine ⟨g', Nat.le_add_right _ _, ⟨hE, s0.size, s0.os, s0.tape, s0.output, fun b hbs hn => ?_, fun o ho hr2 => ?_, fun o b base ho hi => ?_, fun b j hK => ?_⟩, ⟨?_, fun o x hx => ?_, fun o o' x x' b base base' hne hx hx' hi hi' => ?_, ok0.K⟩, (hr.c8 hτ).ext hext⟩
  · refine s0.frame b hbs fun i base _ e => ?_
    obtain ⟨o, _, h1, h2⟩ := hold i b base e
    exact hn o base h2 h1
  · rcases Nat.lt_or_ge o st.nx with h1 | h1
    · rw [gl o h1]; exact ho
    · rw [gg o h1]
      exact hno _ (by simp only [uj] at hr2; omega)
  · rcases himg o with ⟨i, hi0, rfl⟩ | ho2
    · obtain ⟨x, hx⟩ := Option.isSome_iff_exists.1 ho
      obtain ⟨y, hy, _⟩ := cr i x hi0 hx
      rw [F1] at hi
      rcases s0.own i b base (by rw [hy]; rfl) hi with h1 | ⟨o', base', _, h2⟩
      · exact .inl h1
      · obtain ⟨o2, _, h3, h4⟩ := hold o' b base' h2
        exact .inr ⟨o2, base', h4, h3⟩
    · obtain ⟨_, _, h3⟩ := hfar o b base ho2 hi
      rw [hout o ho2] at ho
      exact .inr ⟨o, base, ho, h3⟩
  · rcases s0.oq b j hK with h1 | h1 | ⟨o', base', _, h2⟩
    · exact .inl h1
    · exact .inr (.inl h1)
    · obtain ⟨o2, _, h3, h4⟩ := hold o' b base' h2
      exact .inr (.inr ⟨o2, base', h4, h3⟩)
  · exact Nat.le_trans hok.size s0.size
  · rcases himg o with ⟨i, hi0, rfl⟩ | ho2
    · obtain ⟨y, hy, hyx⟩ := cr i x hi0 hx
      refine (ok0.mw i y hy).imp (fun q => ⟨by rw [F1]; exact q.1, by obtain ⟨s1, e1, rfl⟩ := q.2; simp only [ba.c8, AV.c8.go, Option.some.injEq] at hyx; exact ⟨s1, e1, hyx.symm⟩⟩) ?_
      rintro ⟨b, base, q1, q2, q3⟩
      refine ⟨b, base, by rw [F1]; exact q1, by show g.b0 ≤ b; have := s0.ext.b0; have e : g0'.b0 = g.b0 := this; omega, (q3.c8 hτ hyx).ext hext rfl (fun j hj => hj)⟩
    · rw [hout o ho2] at hx
      cases hg : g'.inj o with
      | none =>
        refine .inl ⟨rfl, ?_⟩
        rcases Nat.lt_or_ge o st.nx with h1 | h1
        · rw [gl o h1] at hg
          rcases hok.mw o x hx with ⟨_, h2⟩ | ⟨b, base, h2, _⟩
          · exact h2
          · rw [hg] at h2; cases h2
        · rcases hok.mw o x hx with ⟨_, h2⟩ | ⟨b, base, h2, _⟩
          · exact h2
          · rw [hfr o h1] at h2; cases h2
      | some p =>
        obtain ⟨b, base⟩ := p
        obtain ⟨h1, h2, h3⟩ := hfar o b base ho2 hg
        have hor := hblk o x b base hx h3
        obtain ⟨e1, _, e3⟩ := hsame o x b base h2 hx h3 (hsz b base x hor)
        refine .inr ⟨b, base, rfl, ?_, hor.ext hE e1 e3⟩
        rcases hok.mw o x hx with ⟨h4, _⟩ | ⟨b', base', h4, h5, _⟩
        · rw [h4] at h3; cases h3
        · rw [h4] at h3; cases h3; exact h5
  · rcases himg o with ⟨i, hi0, rfl⟩ | ho2 <;> rcases himg o' with ⟨i', hi0', rfl⟩ | ho2'
    · obtain ⟨y, hy, _⟩ := cr i x hi0 hx
      obtain ⟨y', hy', _⟩ := cr i' x' hi0' hx'
      rw [F1] at hi hi'
      exact ok0.sep i i' y y' b base base' (fun e => hne (by rw [e])) hy hy' hi hi'
    · obtain ⟨y, hy, _⟩ := cr i x hi0 hx
      obtain ⟨h1, h2, h3⟩ := hfar o' b base' ho2' hi'
      rw [hout o' ho2'] at hx'
      rw [F1] at hi
      exact (hsame o' x' b base' h2 hx' h3 (hsz b base' x' (hblk o' x' b base' hx' h3))).2.1 i base hi (by rw [hy]; rfl)
    · obtain ⟨y, hy, _⟩ := cr i' x' hi0' hx'
      obtain ⟨h1, h2, h3⟩ := hfar o b base ho2 hi
      rw [hout o ho2] at hx
      rw [F1] at hi'
      exact (hsame o x b base h2 hx h3 (hsz b base x (hblk o x b base hx h3))).2.1 i' base' hi' (by rw [hy]; rfl)
    · obtain ⟨h1, h2, h3⟩ := hfar o b base ho2 hi
      obtain ⟨h1', h2', h3'⟩ := hfar o' b base' ho2' hi'
      rw [hout o ho2] at hx
      rw [hout o' ho2'] at hx'
      exact hok.sep o o' x x' b base base' hne hx hx' h3 h3'
theorem aci {P : Program} {f : Nat} {args : List AV} {st : St} {R : AV → St → Prop} (D : List Nat) (hD : D.Nodup) (hlt : ∀ o ∈ D, o < st.nx) (hp : ∀ o ∈ D, (st.h.get o).isSome = true) (hl : D.length ≤ bw)
    (h : rk P f (AV.c8.go (fun o => idx D o 0) args) (bn (ig st.h (fun o => idx D o 0) D)) (fun r st' => (D.length ≤ st'.nx ∧ st.nx + st'.nx ≤ bw) ∧ R (r.c8 (Jg D st.nx st'.nx)) (uj D st st'))) : rk P f args st R := by
  intro g w vs hok hfr hrel
  have hτ : ∀ o p, (fun o => idx D o 0) o = some p → D[p]? = some o := fun o p h => Cp _ o p h
  have hnx : (bn (ig st.h (fun o => idx D o 0) D)).nx = D.length := by simp only [bn, gw]
  have hinj : ∀ i o, D[i]? = some o → (g.c8 D).inj i = g.inj o := fun i o h => by simp [Gh.c8, h]
  have cr : ∀ i x, (bn (ig st.h (fun o => idx D o 0) D)).h.get i = some x → ∃ o y, D[i]? = some o ∧ st.h.get o = some y ∧ y.c8 (fun o => idx D o 0) = some x := by
    intro i x hx
    simp only [bn] at hx
    rw [tc _ _ _ (by rw [gw]; omega), if_pos (Nat.zero_le _), Nat.sub_zero, tz] at hx
    cases hi : D[i]? with
    | none => rw [hi] at hx; cases hx
    | some o =>
      rw [hi] at hx
      simp only [Option.map_some, Option.join_some] at hx
      cases hy : st.h.get o with
      | none => rw [hy] at hx; cases hx
      | some y => rw [hy] at hx; exact ⟨o, y, rfl, hy, hx⟩
  have hok0 : Ok (g.c8 D) (bn (ig st.h (fun o => idx D o 0) D)).h w := by
    refine ⟨hok.size, fun i x hx => ?_, fun i j x y b base base' hij hx hy hb hb' => ?_, hok.K⟩
    · obtain ⟨o, y, h1, h2, h3⟩ := cr i x hx
      refine (hok.mw o y h2).imp (fun q => ⟨by rw [hinj i o h1]; exact q.1, by obtain ⟨s0, e0, rfl⟩ := q.2; simp only [ba.c8, AV.c8.go, Option.some.injEq] at h3; exact ⟨s0, e0, h3.symm⟩⟩) ?_
      rintro ⟨b, base, q1, q2, q3⟩
      exact ⟨b, base, by rw [hinj i o h1]; exact q1, q2, q3.c8 hτ h3⟩
    · obtain ⟨o, y1, h1, h2, _⟩ := cr i x hx
      obtain ⟨o', y2, h1', h2', _⟩ := cr j y hy
      rw [hinj i o h1] at hb
      rw [hinj j o' h1'] at hb'
      have hne : o ≠ o' := by
        intro e
        subst e
        obtain ⟨hi, ei⟩ := List.getElem?_eq_some_iff.1 h1
        obtain ⟨hj, ej⟩ := List.getElem?_eq_some_iff.1 h1'
        exact hij ((List.getElem_inj hD).1 (ei.trans ej.symm))
      exact hok.sep o o' _ _ b base base' hne h2 h2' hb hb'
  have hfr0 : ∀ o, (bn (ig st.h (fun o => idx D o 0) D)).nx ≤ o → (g.c8 D).inj o = none := fun o ho => by
    rw [hnx] at ho; simp [Gh.c8, List.getElem?_eq_none ho]
  have hrel0 : bj (g.c8 D) w (AV.c8.go (fun o => idx D o 0) args) vs := by
    rw [j0]
    refine ⟨by rw [List.length_map]; exact hrel.1, fun i a v ha hv => ?_⟩
    rw [List.getElem?_map] at ha
    cases hx : args[i]? with
    | none => rw [hx] at ha; cases ha
    | some a0 => rw [hx] at ha; cases ha; exact (hrel.2 i a0 v hx hv).c8 hτ
  rcases h (g.c8 D) w vs hok0 hfr0 hrel0 with ⟨v, w', g', r, st', q1, q2, q3, q4, q5, q6⟩ | ⟨q1, q2⟩
  · rw [hnx] at q4
    obtain ⟨g'', p1, p2, p3, p4⟩ := ado hD hlt hp hok hfr q2.1.1 q2.1.2 q4 q5 q6
    exact .inl ⟨v, w', g'', _, _, q1, q2.2, p1, p2, p3, p4⟩
  · refine .inr ⟨q1, q2.mono ?_⟩
    rintro e w' ⟨v, g', r, st', rfl, q2, q3, q4, q5, q6⟩
    rw [hnx] at q4
    obtain ⟨g'', p1, p2, p3, p4⟩ := ado hD hlt hp hok hfr q2.1.1 q2.1.2 q4 q5 q6
    exact ⟨v, g'', _, _, rfl, q2.2, p1, p2, p3, p4⟩
theorem Rp {P : Program} {f : Nat} {args : List AV} {st : St} {R : AV → St → Prop} (D : List Nat) {args0 : List AV} {objs0 : List (Option ba)} {r0 : AV} {objs1 : List (Option ba)}
    (hc : rk P f args0 (bn objs0) (fun r st' => r = r0 ∧ st' = bn objs1)) (hD : D.Nodup)
    (hlt : (D.all fun o => Nat.blt o st.nx) = true) (hp : (D.all fun o => (st.h.get o).isSome) = true) (hl : D.length ≤ bw)
    (ha : AV.c8.go (fun o => idx D o 0) args = args0) (hs : ig st.h (fun o => idx D o 0) D = objs0) (hb : D.length ≤ objs1.length ∧ st.nx + objs1.length ≤ bw)
    (h : R (r0.c8 (Jg D st.nx objs1.length)) (uj D st (bn objs1))) : rk P f args st R := by
  refine aci D hD (fun o ho => Nat.le_of_ble_eq_true (List.all_eq_true.1 hlt o ho)) (fun o ho => List.all_eq_true.1 hp o ho) hl ?_
  rw [ha, hs]
  intro g w vs hok hfr hrel
  rcases hc g w vs hok hfr hrel with ⟨v, w', g', r, st', q1, ⟨rfl, rfl⟩, q3⟩ | ⟨q1, q2⟩
  · exact .inl ⟨v, w', g', _, _, q1, ⟨hb, h⟩, q3⟩
  · refine .inr ⟨q1, q2.mono ?_⟩
    rintro e w' ⟨v, g', r, st', e1, ⟨rfl, rfl⟩, q3⟩
    exact ⟨v, g', _, _, e1, ⟨hb, h⟩, q3⟩
end
end Go.Vm
end
section
set_option linter.unusedSimpArgs false
set_option linter.unusedVariables false
namespace Go.Proofs.YtcbdpmfipecmgaaGreat
open Go.Vm
set_option maxRecDepth 2000000
def Bd (s : bd) : Bool := decide ((s.type.toNat : Int) = 2) || (decide ((s.type.toNat : Int) = 15) || decide ((s.type.toNat : Int) = 33))
def kl (l : List c7) : List Name := l.flatMap fun d => d.names
def ql (s : bd) : List Name := if Bd s = true then kl s.data else []
def fg (l : List bd) : List Name := l.flatMap ql
def tt (ans : List bd) (s : bd) : Bool := ans.any fun x => decide ((x.type.toNat : Int) = s.type.toNat) && dw x.owner s.owner
def zp (z : bf) (ans l : List bd) : List bd := (Eb z (fg l)).filter fun s => !tt ans s
def xz (l : List Name) (n : Name) : Bool := l.any fun m => dw m n
theorem afc (b : Dk) (n : Name) (hl : ly b.seen) (hn : bb n) : wl PP [dc] 0 (Tryz.f29.body.getD .skip) (du PP Tryz.f29.results.toList (fun r st => (r1 bq).get true st.h r = some (xz b.seen n))) (cy 0 [.gn (th.cells false b), ar.val false n]) (bn []) := by
  have hlen := hl.len
  unfold Tryz.f29
  simp only [da]
  simp only [↓wR, RA, simprocAttr, TF, ag, Td]
  refine bm (T := []) (aw.nil PP) mixed Tryz.func45 rfl (by kernel_rfl) (by kernel_rfl) (by kernel_rfl) (by kernel_rfl) ?_; unfold Tryz.f45
  simp only [↓wR, RA, simprocAttr, TF, ag]
  refine bm (T := []) (aw.nil PP) mixed Tryz.func61 rfl (by kernel_rfl) (by kernel_rfl) (by kernel_rfl) (by kernel_rfl) ?_; unfold Tryz.f61
  simp only [↓wR, RA, simprocAttr, TF, ag]
  refine dx [0, 1, 7, 8] (fun (k : Nat) => [.vl false 1 (b.seen.map (ar.val false)), .fn (.func 46) [] [.ptr 0 0], .sc (.int .i64 (b.seen.length)), .sc (.int .i64 (k))]) (fun _ => [some (.row [.vl false 1 (n.map (aj.val false))] 0 2 23)]) (fun k => k ≤ b.seen.length ∧ xz b.seen n = xz (b.seen.drop k) n) (fun k => b.seen.length - k) 0 ⟨Nat.zero_le _, rfl⟩ (by simp only [↓wR, RA, simprocAttr, TF, ag] <;> rfl) (by simp only [↓wR, RA, simprocAttr, TF, ag] <;> rfl) ?_
  rintro k ⟨hk, hx⟩
  simp only [↓wR, RA, simprocAttr, TF, ag]
  rw [cp]; refine ⟨fun h3 => ?_, fun h3 => ?_⟩
  · obtain ⟨c, hc2, hd2, hlt2⟩ := ed (decide_eq_true h3)
    rw [hd2, xz, xz, List.any_cons] at hx
    have hcs := hl.mem c (List.mem_of_getElem? hc2)
    simp only [↓wR, RA, simprocAttr, TF, ag, h3, hc2]; repeat (simp (disch := omega) only [ai, cb, cd, b9, ca]; try simp only [↓wR, RA, simprocAttr, TF, ag, h3, hc2])
    refine bm (T := [dc]) (aw.cons (aq eb) (aw.nil PP)) mixed Tryz.func46 rfl (by kernel_rfl) (by kernel_rfl) (by kernel_rfl) (by kernel_rfl) ?_; unfold Tryz.f46
    simp only [↓wR, RA, simprocAttr, TF, ag, fm, hcs, hn]
    rw [cz]; refine ⟨fun h4 => ?_, fun h4 => ?_⟩
    · rw [h4, Bool.true_or] at hx
      simp only [↓wR, RA, simprocAttr, TF, ag, h4]
      rw [xz, hx]
    · rw [h4, Bool.false_or] at hx
      simp only [↓wR, RA, simprocAttr, TF, ag, h4]; repeat (simp (disch := omega) only [ai, cb, cd, b9, ca]; try simp only [↓wR, RA, simprocAttr, TF, ag, h4])
      exact ⟨k + 1, ⟨hlt2, hx⟩, by omega, by (first | rfl | trivial | omega | ((try (simp (disch := omega) only [ai])); (try (simp only [FB])); first | done | rfl | omega))⟩
  · rw [fq (decide_eq_false h3)] at hx
    simp only [↓wR, RA, simprocAttr, TF, ag, h3]
    rw [hx] <;> rfl
noncomputable def p0 (x : Dk × Name × Unit) : Option AV := if ly x.1.seen ∧ bb x.2.1 then some ((r1 bq).E true (xz x.1.seen x.2.1)) else none
set_option maxRecDepth 2000000 in
theorem G9 (x : Dk × Name × Unit) (r : AV) (h : p0 x = some r) : bh PP 29 ((aP th (aC ar a0)).E x) r := by
  by_cases hc : ly x.1.seen ∧ bb x.2.1
  case neg => simp only [p0, if_neg hc] at h; cases h
  simp only [p0, if_pos hc] at h
  cases h
  exact bg (aw.cons (aq eb) (aw.nil PP)) Tryz.func29 (by kernel_rfl) (by kernel_rfl) (by kernel_rfl) (Nat.le_of_ble_eq_true (by kernel_rfl)) (r1 bq) true (xz x.1.seen x.2.1) (afc x.1 x.2.1 hc.1 hc.2)
noncomputable abbrev Ji : Nat × Bool × (List AV → M AV) := (29, true, dj (aP th (aC ar a0)) p0)
noncomputable def gv (z : bf) (t : UInt16) : Nat → Name → List Name → List bd → zx
  | 0, _, _, ans => qd 0 true ans [] []
  | k + 1, n, seen, ans =>
    let x := kx z n t (gq z n).1
    if x.turn = 0 then qd 0 true (ans ++ x.ak) [] (zp z (ans ++ x.ak) x.ak)
    else if x.turn = 3 then qd 3 true ans [o0 z] []
    else if x.turn = 2 then qd 0 true ans [o0 z] []
    else if x.turn = 4 then qd 0 (decide (0 < ans.length)) ans x.ak (zp z ans x.ak)
    else if di x.to z.origin = false then qd 0 true (ans ++ x.ak) [] []
    else if xz (seen ++ [n]) x.to = true then qd 0 true (ans ++ x.ak) [] []
    else gv z t k x.to (seen ++ [n]) (ans ++ x.ak)
noncomputable def Er (z : bf) (n : Name) (t : UInt16) : zx × Int :=
  if (k8 z n t).2 ≠ 0 then (qd 0 false [] [] [], (k8 z n t).2) else (gv z t 16 n [] [], 0)
end Go.Proofs.YtcbdpmfipecmgaaGreat
end
section
namespace Go.Proofs.YtcbdpmfipecmgaaGreat
open Go.Vm
theorem at_mem {z : bf} {n : Name} {s : bd} (h : s ∈ kc z n) : s ∈ z.ak ∧ dw s.owner n = true := List.mem_filter.1 h
theorem ab6 {l : List Name} (h : ua l = 0) : ∀ n ∈ l, dv n = 0 := by
  induction l with
  | nil => intro n hn; cases hn
  | cons a l ih =>
    intro n hn
    rw [ua] at h
    split at h
    · contradiction
    · rename_i q
      rcases List.mem_cons.1 hn with rfl | hn
      · omega
      · exact ih h n hn
theorem Xn {t : UInt16} {d : c7} (h : fo t d = 0) : ∀ n ∈ d.names, dv n = 0 := by
  unfold fo at h
  split at h
  · cases h
  split at h
  · cases h
  split at h
  · contradiction
  · rename_i q; exact ab6 (by omega)
theorem anb {z : bf} (h : ic z = 0) {y : bd} (hy : y ∈ z.ak) (ht : (y.type.toNat : Int) = 5) : ∃ d m, y.data = [d] ∧ d.names = [m] ∧ dv m = 0 := by
  have hg := Mn h
  obtain ⟨k, hk, rfl⟩ := List.getElem_of_mem hy
  have ha := hg.alone k _ (List.getElem?_eq_getElem hk)
  unfold jf at ha
  rw [if_neg (by omega)] at ha
  split at ha
  · cases ha
  rename_i hl
  have he := Ea h _ hy
  have hall := aic he
  cases hd : (z.ak[k]).data with
  | nil => rw [hd] at hl; simp at hl
  | cons d r =>
    have hr : r = [] := by
      rw [hd] at hl
      simp only [List.length_cons] at hl
      exact List.eq_nil_of_length_eq_zero (by omega)
    subst hr
    have hde : fo (z.ak[k]).type d = 0 := hall d (by rw [hd]; simp)
    have hn := (Hu hde).1
    have h2 : (ju (z.ak[k]).type).names = 1 := by unfold ju; rw [ht]; rfl
    rw [h2] at hn
    cases hm : d.names with
    | nil => rw [hm] at hn; simp at hn
    | cons m r2 =>
      have : r2 = [] := by rw [hm] at hn; simp only [List.length_cons] at hn; exact List.eq_nil_of_length_eq_zero (by omega)
      subst this
      exact ⟨d, m, rfl, hm, Xn hde m (by rw [hm]; simp)⟩
theorem L4 {α : Type} (f : α → Nat) (a b : List α) : g8 f (a ++ b) = g8 f a + g8 f b := by
  induction a with
  | nil => simp [g8]
  | cons x a ih => simp only [g8, List.cons_append, List.foldr_cons] at ih ⊢; omega
theorem Tb {α : Type} (f : α → Nat) (p : α → Bool) (l : List α) : g8 f (l.filter p) ≤ g8 f l := by
  induction l with
  | nil => exact Nat.le_refl _
  | cons x l ih =>
    rw [List.filter_cons]
    split
    · simp only [g8, List.foldr_cons] at ih ⊢; omega
    · simp only [g8, List.foldr_cons] at ih ⊢; omega
theorem aa4 (l : List c7) : g8 bk (kl l) ≤ g8 yd l := by
  induction l with
  | nil => exact Nat.le_refl _
  | cons d l ih =>
    have h : kl (d :: l) = d.names ++ kl l := by simp [kl]
    rw [h, L4]
    have h2 : g8 bk d.names ≤ yd d := by unfold yd; omega
    simp only [g8, List.foldr_cons] at ih h2 ⊢; omega
theorem aew (s : bd) : g8 bk (ql s) ≤ um s := by
  unfold ql
  split
  · have := aa4 s.data; unfold um; omega
  · exact Nat.zero_le _
theorem Hq (l : List bd) : g8 bk (fg l) ≤ g8 um l := by
  induction l with
  | nil => exact Nat.le_refl _
  | cons s l ih =>
    have h : fg (s :: l) = ql s ++ fg l := by simp [fg]
    rw [h, L4]
    have h2 := aew s
    simp only [g8, List.foldr_cons] at ih h2 ⊢; omega
theorem ad0 (n : Name) (l : List bd) : fg (l.map (xy n)) = fg l := by
  induction l with
  | nil => rfl
  | cons s l ih =>
    have h : ∀ (s : bd) l, fg (s :: l) = ql s ++ fg l := fun s l => by simp [fg]
    rw [List.map_cons, h, h, ih]; rfl
theorem Oa {l : List bd} {x : bd} (h : x ∈ l) : g8 bk (fg [x]) ≤ g8 bk (fg l) := by
  induction l with
  | nil => cases h
  | cons s l ih =>
    have hc : ∀ (s : bd) l, fg (s :: l) = ql s ++ fg l := fun s l => by simp [fg]
    rw [hc s l, L4]
    rcases List.mem_cons.1 h with rfl | h
    · rw [hc, L4]; show _ + g8 bk (fg []) ≤ _; have : g8 bk (fg []) = 0 := rfl; omega
    · have := ih h; omega
inductive am0 (z : bf) (n : Name) (t : UInt16) : Prop
  | Yk (c : Name) (s : bd) (hc : j7 z n = some c) (hs : s ∈ z.ak) (ht : (s.type.toNat : Int) = 2) (ho : dw s.owner c = true) (h : kx z n t (gq z n).1 = pg 4 [s] [])
  | aui (hc : j7 z n = none) (h : kx z n t (gq z n).1 = pg 3 [] [])
  | amg (hc : j7 z n = none) (h : kx z n t (gq z n).1 = pg 2 [] [])
  | found (hc : j7 z n = none) (l : List bd) (hne : l ≠ []) (hln : l.length ≤ z.ak.length) (hw : g8 bk (fg l) ≤ g8 um z.ak) (hl : ∀ s ∈ l, dw s.owner n = true ∧ (s.owner = n ∨ s ∈ z.ak) ∧ ((t.toNat : Int) = 255 ∨ (s.type.toNat : Int) = t.toNat) ∧ ∃ y ∈ z.ak, s.data = y.data ∧ s.type = y.type) (h : kx z n t (gq z n).1 = pg 0 l [])
  | alias (hc : j7 z n = none) (s : bd) (d : c7) (m : Name) (ht : (s.type.toNat : Int) = 5) (h5 : (t.toNat : Int) ≠ 5) (h255 : (t.toNat : Int) ≠ 255) (ho : dw s.owner n = true) (hoz : s.owner = n ∨ s ∈ z.ak) (hd : s.data = [d]) (hm : d.names = [m]) (he : dv m = 0) (hy : ∃ y ∈ z.ak, s.data = y.data ∧ s.type = y.type) (h : kx z n t (gq z n).1 = pg 1 [s] m)
theorem asd {z : bf} {n c : Name} : ∀ (l : List bd) (b : Option Name), (∀ s ∈ l, s ∈ z.ak) → (∀ m, b = some m → ∃ s ∈ z.ak, (s.type.toNat : Int) = 2 ∧ s.owner = m) → l.foldl (je z n) b = some c → ∃ s ∈ z.ak, (s.type.toNat : Int) = 2 ∧ s.owner = c := by
  intro l
  induction l with
  | nil => intro b _ h hc; exact h c hc
  | cons s l ih =>
    intro b hl h hc
    refine ih _ (fun x hx => hl x (by simp [hx])) (fun m hm => ?_) hc
    unfold je at hm
    split at hm
    · rename_i hq
      cases hm
      simp only [Bool.and_eq_true, decide_eq_true_eq] at hq
      exact ⟨s, hl s (by simp), hq.1, rfl⟩
    · exact h m hm
theorem age {z : bf} {n : Name} {t : UInt16} (h : ic z = 0) (hc : j7 z n = none) (L : List bd) (hln : L.length ≤ z.ak.length) (hw : g8 bk (fg L) ≤ g8 um z.ak) (hL : ∀ s ∈ L, dw s.owner n = true ∧ (s.owner = n ∨ s ∈ z.ak) ∧ ∃ y ∈ z.ak, s.data = y.data ∧ s.type = y.type) (hs : kx z n t (gq z n).1 = Yg t L) : am0 z n t := by
  unfold Yg at hs
  split at hs
  · rename_i q
    exact .found hc L (fun e => by rw [e] at q; simp at q) hln hw (fun s hs => ⟨(hL s hs).1, (hL s hs).2.1, .inl q.1, (hL s hs).2.2⟩) hs
  rename_i q
  split at hs
  · rename_i x hx
    have h1 := List.mem_of_find?_eq_some hx
    have h2 := List.find?_some hx
    exact .found hc [x] (by simp) (by have := List.length_pos_of_mem h1; rw [List.length_singleton]; omega) (Nat.le_trans (Oa h1) hw) (fun s hs => by rw [List.mem_singleton] at hs; subst hs; exact ⟨(hL s h1).1, (hL s h1).2.1, .inr (by simpa using h2), (hL s h1).2.2⟩) hs
  · rename_i hx
    split at hs
    · rename_i x hx2
      have h1 := List.mem_of_find?_eq_some hx2
      have h2 := List.find?_some hx2
      simp only [Bool.and_eq_true, decide_eq_true_eq] at h2
      obtain ⟨y, hy, hyd, hyt⟩ := (hL x h1).2.2
      obtain ⟨d, m, e1, e2, e3⟩ := anb h hy (by rw [← hyt]; exact h2.1)
      rw [← hyd] at e1
      have h5 : (t.toNat : Int) ≠ 5 := fun e => by
        have := List.find?_eq_none.1 hx x h1
        simp [h2.1, e] at this
      refine .alias hc x d m h2.1 h5 h2.2 (hL x h1).1 (hL x h1).2.1 e1 e2 e3 ⟨y, hy, hyd, hyt⟩ ?_
      rw [hs, e1]
      simp [e2]
    · exact .amg hc hs
theorem aha {z : bf} {n : Name} (t : UInt16) (h : gk z n = 0) : am0 z n t := by
  obtain ⟨a1, a2, a3⟩ := uc h
  have hg := Mn a1
  rcases U1 h with ⟨c, hc, e⟩ | ⟨hc, hp, hh, e⟩ | ⟨hc, hp, hh, e⟩ | ⟨hc, hp, hh, hs, e⟩ | ⟨hc, hp, hh, hs, e⟩
  · obtain ⟨s, hs, ht, ho⟩ := asd z.ak none (fun _ h => h) (fun m hm => by cases hm) hc
    have hcl := (Zg (hg.cls s hs)).1
    cases hf : vt z.ak c 2 with
    | none =>
      have := List.find?_eq_none.1 hf s hs
      have hp : tx c 2 s = true := by unfold tx; rw [decide_eq_true (show (s.type.toNat : Int) = (2 : UInt16).toNat from ht), decide_eq_true hcl, ho, U8]; rfl
      exact (this hp).elim
    | some x =>
      obtain ⟨m1, m2, m3, m4⟩ := Hj hf
      exact .Yk c x hc m1 m2 m4 (by rw [e]; show pg 4 [(vt z.ak c 2).getD U2] [] = _; rw [hf]; rfl)
  · refine age a1 hc (kc z n) (tp _) (Nat.le_trans (Hq _) (Tb _ _ _)) (fun s hs => ⟨(at_mem hs).2, .inr (at_mem hs).1, s, (at_mem hs).1, rfl, rfl⟩) ?_
    rw [e]; rfl
  · exact .amg hc (by rw [e]; rfl)
  · refine age a1 hc ((kc z (ti :: dk z n)).map (xy n)) (by rw [List.length_map]; exact tp _) (by rw [ad0]; exact Nat.le_trans (Hq _) (Tb _ _ _)) (fun s hs => ?_) ?_
    · obtain ⟨y, hy, rfl⟩ := List.mem_map.1 hs
      exact ⟨U8 n, .inl rfl, y, (at_mem hy).1, rfl, rfl⟩
    · rw [e]; rfl
  · exact .aui hc (by rw [e]; rfl)
theorem V8 {z : bf} {t : UInt16} {n m : Name} {s : bd} {k : Nat} {seen : List Name} {ans : List bd} (e : kx z n t (gq z n).1 = pg 1 [s] m) (hu : di m z.origin = false) : gv z t (k + 1) n seen ans = qd 0 true (ans ++ [s]) [] [] := by
  have t0 : ∀ q : Int, q ≠ 1 → ¬ (pg 1 [s] m).turn = q := fun q hk e => hk e.symm
  simp only [gv, e]
  rw [if_neg (t0 0 (by decide)), if_neg (t0 3 (by decide)), if_neg (t0 2 (by decide)), if_neg (t0 4 (by decide))]
  rw [if_pos (show di (pg 1 [s] m).to z.origin = false from hu)]; rfl
theorem Wk {z : bf} {t : UInt16} {n m : Name} {s : bd} {k : Nat} {seen : List Name} {ans : List bd} (e : kx z n t (gq z n).1 = pg 1 [s] m) (hu : di m z.origin = true) (hmet : xz (seen ++ [n]) m = true) : gv z t (k + 1) n seen ans = qd 0 true (ans ++ [s]) [] [] := by
  have t0 : ∀ q : Int, q ≠ 1 → ¬ (pg 1 [s] m).turn = q := fun q hk e => hk e.symm
  simp only [gv, e]
  rw [if_neg (t0 0 (by decide)), if_neg (t0 3 (by decide)), if_neg (t0 2 (by decide)), if_neg (t0 4 (by decide))]
  rw [if_neg (show ¬ di (pg 1 [s] m).to z.origin = false from by rw [show (pg 1 [s] m).to = m from rfl, hu]; decide), if_pos (show xz (seen ++ [n]) (pg 1 [s] m).to = true from hmet)]; rfl
theorem adi {z : bf} {t : UInt16} {n m : Name} {s : bd} {k : Nat} {seen : List Name} {ans : List bd} (e : kx z n t (gq z n).1 = pg 1 [s] m) (hu : di m z.origin = true) (hmet : xz (seen ++ [n]) m = false) : gv z t (k + 1) n seen ans = gv z t k m (seen ++ [n]) (ans ++ [s]) := by
  have t0 : ∀ q : Int, q ≠ 1 → ¬ (pg 1 [s] m).turn = q := fun q hk e => hk e.symm
  simp only [gv, e]
  rw [if_neg (t0 0 (by decide)), if_neg (t0 3 (by decide)), if_neg (t0 2 (by decide)), if_neg (t0 4 (by decide))]
  rw [if_neg (show ¬ di (pg 1 [s] m).to z.origin = false from by rw [show (pg 1 [s] m).to = m from rfl, hu]; decide), if_neg (show ¬ xz (seen ++ [n]) (pg 1 [s] m).to = true from by rw [show (pg 1 [s] m).to = m from rfl, hmet]; decide)]; rfl
end Go.Proofs.YtcbdpmfipecmgaaGreat
end
section
set_option linter.unusedSimpArgs false
set_option linter.unusedVariables false
namespace Go.Proofs.YtcbdpmfipecmgaaGreat
open Go.Vm
set_option maxRecDepth 2000000
theorem Dx {l : List bd} {i : Nat} {c : bd} (hc : l[i]? = some c) : fg (l.take (i + 1)) = fg (l.take i) ++ ql c := by
  obtain ⟨hi, rfl⟩ := List.getElem?_eq_some_iff.1 hc
  rw [List.take_succ_eq_append_getElem hi, fg, List.flatMap_append]; simp [fg]
theorem G7 {l : List c7} {i : Nat} {c : c7} (hc : l[i]? = some c) : kl (l.take (i + 1)) = kl (l.take i) ++ c.names := by
  obtain ⟨hi, rfl⟩ := List.getElem?_eq_some_iff.1 hc
  rw [List.take_succ_eq_append_getElem hi, kl, List.flatMap_append]; simp [kl]
theorem Ev {α β : Type} (f : α → List β) (l : List α) (i : Nat) : ((l.take i).flatMap f).length ≤ (l.flatMap f).length := by
  have := congrArg (List.flatMap f) (List.take_append_drop i l)
  rw [List.flatMap_append] at this
  have := congrArg List.length this
  rw [List.length_append] at this
  omega
theorem ao6 {l : List bd} {i k : Nat} {c : bd} (hc : l[i]? = some c) (hy : Bd c = true) : (fg (l.take i)).length + (kl (c.data.take k)).length ≤ (fg l).length := by
  have h1 : (fg (l.take (i + 1))).length ≤ (fg l).length := Ev ql l (i + 1)
  rw [Dx hc, List.length_append, ql, if_pos hy] at h1
  have h2 : (kl (c.data.take k)).length ≤ (kl c.data).length := Ev _ c.data k
  omega
theorem aix {z : bf} (hz : cg z) {l : List Name} : ∀ s ∈ Eb z l, ea s := by
  have key : ∀ (r pre : List Name), ∀ s ∈ xi z pre r, ea s := by
    intro r
    induction r with
    | nil => intro pre s hs; cases hs
    | cons n r ih =>
      intro pre s hs
      rw [xi] at hs
      rcases List.mem_append.1 hs with h | h
      · split at h
        · cases h
        · exact hz.set s (List.mem_filter.1 h).1
      · exact ih _ s h
  exact key l []
set_option maxHeartbeats 4000000 in
theorem abi (z : bf) (hz : cg z) (he : ic z = 0) (rc : Int) (aa : Bool) (au : AV) (hau1 : au.names = []) (hau2 : ∀ τ, au.c8 τ = au) (hau3 : au.one = true) (ans : List bd) (seen : List Name) (l : List bd)
    (hans : ans.length ≤ 16777216) (hao : ∀ s ∈ ans, bb s.owner) (hll : l.length ≤ 16777216) (hld : ∀ s ∈ l, s.data.length ≤ 16777216) (hns : ly (fg l)) :
    rk PP 27 [.ptr 0 0, .vl true 5 (l.map (ah.val true))] (bn [some (.row [.vl false 1 (z.origin.map (aj.val false)), .vl false 5 (z.ak.map (ah.val false)), .sc (.int .i64 rc), .sc (.bool aa), .sl 1 0 ans.length 5, au, .sc (.slice none 0 0), .sl 2 0 seen.length 1] 0 2 60), some (.row (cellsOf ah true (ans)) 0 0 44), some (.row (((seen)).map (ar.val false)) 0 0 23)])
      (fun r st' => r = .fe [] ∧ st' = bn [some (.row [.vl false 1 (z.origin.map (aj.val false)), .vl false 5 (z.ak.map (ah.val false)), .sc (.int .i64 rc), .sc (.bool aa), .sl 1 0 ans.length 5, au, .sl 3 0 (zp z ans l).length 5, .sl 2 0 seen.length 1] 0 2 60), some (.row (cellsOf ah true (ans)) 0 0 44), some (.row (((seen)).map (ar.val false)) 0 0 23), some (.row (cellsOf ah true (zp z ans l)) 0 0 44)]) := by
  have ok : aw PP [P2, dc] := aw.cons (aq Hn) (aw.cons (aq eb) (aw.nil PP))
  have hq : ∀ a b c d, ib a b c = d → ib a b c = d := fun _ _ _ _ h => h
  refine dn _ rfl ?_ (fun r st' h => h)
  refine bm (T := [P2, dc]) ok mixed Tryz.func27 rfl (by kernel_rfl) (by kernel_rfl) (by kernel_rfl) (by kernel_rfl) ?_; unfold Tryz.f27
  simp only [↓wR, RA, simprocAttr, TF, ag, hau1, hau2]
  refine jz [0, 12, 13, 14, 4] (fun (x : Nat × List Name) => [.ptr 0 0, .vl true 5 (l.map (ah.val true)), .sc (.int .i64 (l.length)), .sc (.int .i64 (x.1)), .sl 3 0 x.2.length 1]) (fun x => [some (.row [.vl false 1 (z.origin.map (aj.val false)), .vl false 5 (z.ak.map (ah.val false)), .sc (.int .i64 rc), .sc (.bool aa), .sl 1 0 ans.length 5, au, .sc (.slice none 0 0), .sl 2 0 seen.length 1] 0 2 60), some (.row (cellsOf ah true (ans)) 0 0 44), some (.row (((seen)).map (ar.val false)) 0 0 23), some (.row (x.2.map (ar.val true)) 0 0 23)]) (fun x => x.1 ≤ l.length ∧ x.2 = fg (l.take x.1)) (fun x => l.length - x.1) (0, []) ⟨Nat.zero_le _, rfl⟩ (by simp only [↓wR, RA, simprocAttr, TF, ag, hau1, hau2]; (refine mz.lax [] (by first | exact Nat.le_of_ble_eq_true rfl | (simp [bw]; omega)) ?_ ?_ <;> repeat' first | exact i6.nil | exact db.nil | exact jb.same _ | exact jb.nil _ _ _ | exact jb.vh _ _ | exact db.refl _ _ | apply i6.cons | apply db.ghost | apply db.same | apply db.row)) ?_
  rintro ⟨i, x⟩ ⟨hi, hx⟩
  simp only at hi hx
  simp only [↓wR, RA, simprocAttr, TF, ag, hau1, hau2]
  rw [cp]; refine ⟨fun h => ?_, fun h => ?_⟩
  · obtain ⟨c, hc, hd1, hlt⟩ := ed (decide_eq_true h)
    have hcd := hld c (List.mem_of_getElem? hc)
    have hnl := hns.len
    simp only [↓wR, RA, simprocAttr, TF, ag, h, hc]; repeat (simp (disch := omega) only [ai, cb, cd, b9, ca]; try simp only [↓wR, RA, simprocAttr, TF, ag, h, hc])
    rw [ef]
    refine ⟨fun ⟨g1, e1⟩ => ?n1, fun ⟨g1, e1⟩ => ?y1⟩
    case' n1 =>
      simp only [↓wR, RA, simprocAttr, TF, ag, g1]
      rw [ef]
      refine ⟨fun ⟨g2, e2⟩ => ?n2, fun ⟨g2, e2⟩ => ?y2⟩
    case' n2 =>
      simp only [↓wR, RA, simprocAttr, TF, ag, g2]
      rw [ef]
      refine ⟨fun ⟨g3, e3⟩ => ?n3, fun ⟨g3, e3⟩ => ?y3⟩
    case n3 =>
      have hy : Bd c = false := by unfold Bd; rw [decide_eq_false e1, decide_eq_false e2, decide_eq_false e3]; rfl
      simp only [↓wR, RA, simprocAttr, TF, ag, g3, hau1, hau2]; repeat (simp (disch := omega) only [ai, cb, cd, b9, ca]; try simp only [↓wR, RA, simprocAttr, TF, ag, g3, hau1, hau2])
      exact ⟨(i + 1, x), ⟨hlt, by rw [Dx hc, ql, hy, if_neg (by decide), List.append_nil]; exact hx⟩, by simp; omega, by (first | rfl | trivial | omega | ((try (simp (disch := omega) only [ai])); (try (simp only [FB])); first | done | rfl | omega))⟩
    case' y1 =>
      have hy : Bd c = true := by unfold Bd; rw [decide_eq_true e1]; rfl
      simp only [↓wR, RA, simprocAttr, TF, ag, g1]
    case' y2 =>
      have hy : Bd c = true := by unfold Bd; rw [decide_eq_true e2, Bool.true_or, Bool.or_true]
      simp only [↓wR, RA, simprocAttr, TF, ag, g2]
    case' y3 =>
      have hy : Bd c = true := by unfold Bd; rw [decide_eq_true e3, Bool.or_true, Bool.or_true]
      simp only [↓wR, RA, simprocAttr, TF, ag, g3]
    all_goals
      refine jz [0, 12, 13, 14, 32, 33, 34, 4] (fun (y : Nat × List Name) => [.ptr 0 0, .vl true 5 (l.map (ah.val true)), .sc (.int .i64 (l.length)), .sc (.int .i64 (i)), .vl true 4 (c.data.map (bt.val true)), .sc (.int .i64 (c.data.length)), .sc (.int .i64 (y.1)), .sl 3 0 y.2.length 1]) (fun y => [some (.row [.vl false 1 (z.origin.map (aj.val false)), .vl false 5 (z.ak.map (ah.val false)), .sc (.int .i64 rc), .sc (.bool aa), .sl 1 0 ans.length 5, au, .sc (.slice none 0 0), .sl 2 0 seen.length 1] 0 2 60), some (.row (cellsOf ah true (ans)) 0 0 44), some (.row (((seen)).map (ar.val false)) 0 0 23), some (.row (y.2.map (ar.val true)) 0 0 23)]) (fun y => y.1 ≤ c.data.length ∧ y.2 = x ++ kl (c.data.take y.1)) (fun y => c.data.length - y.1) (0, x) ⟨Nat.zero_le _, by simp [kl]⟩ (by simp only [↓wR, RA, simprocAttr, TF, ag, hau1, hau2]; (refine mz.lax [] (by first | exact Nat.le_of_ble_eq_true rfl | (simp [bw]; omega)) ?_ ?_ <;> repeat' first | exact i6.nil | exact db.nil | exact jb.same _ | exact jb.nil _ _ _ | exact jb.vh _ _ | exact db.refl _ _ | apply i6.cons | apply db.ghost | apply db.same | apply db.row)) ?_
      rintro ⟨k, y⟩ ⟨hk, hyx⟩
      simp only at hk hyx
      simp only [↓wR, RA, simprocAttr, TF, ag, hau1, hau2]
      rw [cp]; refine ⟨fun h2 => ?_, fun h2 => ?_⟩
      · obtain ⟨d, hd, hd1, hlt2⟩ := ed (decide_eq_true h2)
        have hle := ao6 (k := k + 1) hc hy
        rw [← hx, G7 hd, List.length_append] at hle
        have hyl : y.length = x.length + (kl (c.data.take k)).length := by rw [hyx, List.length_append]
        have hlim : (y.length + d.names.length) * 24 ≤ 140737488355328 := by omega
        simp only [↓wR, RA, simprocAttr, TF, ag, h2, hd, hlim, hau1, hau2]; repeat (simp (disch := omega) only [ai, cb, cd, b9, ca]; try simp only [↓wR, RA, simprocAttr, TF, ag, h2, hd, hlim, hau1, hau2])
        exact ⟨(k + 1, y ++ d.names), ⟨hlt2, by rw [hyx, G7 hd, List.append_assoc]⟩, by simp; omega, by (first | rfl | trivial | omega | ((try (simp (disch := omega) only [ai])); (try (simp only [FB])); first | done | rfl | omega)), by (first | rfl | trivial | omega | ((try (simp (disch := omega) only [ai])); (try (simp only [FB])); first | done | rfl | omega))⟩
      · have hkl : k = c.data.length := by omega
        subst hkl
        rw [List.take_length] at hyx
        simp only [↓wR, RA, simprocAttr, TF, ag, h2, hau1, hau2]; repeat (simp (disch := omega) only [ai, cb, cd, b9, ca]; try simp only [↓wR, RA, simprocAttr, TF, ag, h2, hau1, hau2])
        exact ⟨(i + 1, y), ⟨hlt, by rw [Dx hc, ql, if_pos hy, ← hx]; exact hyx⟩, by simp; omega, by (first | rfl | trivial | omega | ((try (simp (disch := omega) only [ai])); (try (simp only [FB])); first | done | rfl | omega))⟩
  have hil : i = l.length := by omega
  subst hil
  rw [List.take_length] at hx
  subst hx
  have hnl := hns.len
  have hzl := H7 he
  obtain ⟨A, hA⟩ : ∃ A, A = Eb z (fg l) := ⟨_, rfl⟩
  have hal : A.length ≤ 16777216 * 2048 := by
    rw [hA]
    exact Nat.le_trans (Vj z (fg l) []) (Nat.mul_le_mul hnl hzl)
  have hAs : ∀ s ∈ A, ea s := fun s hs => by rw [hA] at hs; exact aix hz s hs
  have hadd : zp z ans l = A.filter fun s => !tt ans s := by rw [hA]; rfl
  rw [hadd]
  have hfA : AV.fresh.go (A.map (ah.val true)) = true := V7 (cw ah) A
  simp only [↓wR, RA, simprocAttr, TF, ag, h, G1, hz, he, hns, hau1, hau2, ← hA, hfA]; repeat (simp (disch := omega) only [ai, cb, cd, b9, ca]; try simp only [↓wR, RA, simprocAttr, TF, ag, h, G1, hz, he, hns, hau1, hau2, ← hA, hfA])
  clear h hi
  refine jz [0, 49, 50, 51] (fun (x : Nat × List bd) => [.ptr 0 0, .vl true 5 (A.map (ah.val true)), .sc (.int .i64 (A.length)), .sc (.int .i64 (x.1))]) (fun x => [some (.row [.vl false 1 (z.origin.map (aj.val false)), .vl false 5 (z.ak.map (ah.val false)), .sc (.int .i64 rc), .sc (.bool aa), .sl 1 0 ans.length 5, au, .sl 3 0 x.2.length 5, .sl 2 0 seen.length 1] 0 2 60), some (.row (cellsOf ah true (ans)) 0 0 44), some (.row (((seen)).map (ar.val false)) 0 0 23), some (.row (cellsOf ah true (x.2)) 0 0 44)]) (fun x => x.1 ≤ A.length ∧ x.2 = (A.take x.1).filter fun s => !tt ans s) (fun x => A.length - x.1) (0, []) ⟨Nat.zero_le _, rfl⟩ (by simp only [↓wR, RA, simprocAttr, TF, ag, hau1, hau2]; (refine mz.lax [] (by first | exact Nat.le_of_ble_eq_true rfl | (simp [bw]; omega)) ?_ ?_ <;> repeat' first | exact i6.nil | exact db.nil | exact jb.same _ | exact jb.nil _ _ _ | exact jb.vh _ _ | exact db.refl _ _ | apply i6.cons | apply db.ghost | apply db.same | apply db.row)) ?_
  rintro ⟨i, y⟩ ⟨hi, hy⟩
  simp only at hi hy
  have hyl : y.length ≤ A.length := by rw [hy]; exact Nat.le_trans (List.length_filter_le _ _) (by rw [List.length_take]; omega)
  simp only [↓wR, RA, simprocAttr, TF, ag, hau1, hau2]
  rw [cp]; refine ⟨fun h => ?_, fun h => ?_⟩
  · obtain ⟨c, hc, hd1, hlt⟩ := ed (decide_eq_true h)
    have hcs := hAs c (List.mem_of_getElem? hc)
    have hlim : (y.length * 5 + 5) * 64 ≤ 140737488355328 := by omega
    have htk : (A.take (i + 1)).filter (fun s => !tt ans s) = (A.take i).filter (fun s => !tt ans s) ++ if tt ans c = true then [] else [c] := by
      obtain ⟨hi', rfl⟩ := List.getElem?_eq_some_iff.1 hc
      rw [List.take_succ_eq_append_getElem hi', List.filter_append, List.filter_cons]
      cases tt ans A[i] <;> rfl
    simp only [↓wR, RA, simprocAttr, TF, ag, h, hc, hau1, hau2]; repeat (simp (disch := omega) only [ai, cb, cd, b9, ca]; try simp only [↓wR, RA, simprocAttr, TF, ag, h, hc, hau1, hau2])
    refine dn (fun r st' => r = .sc (.bool (tt ans c)) ∧ st' = bn [some (.row [.vl false 1 (z.origin.map (aj.val false)), .vl false 5 (z.ak.map (ah.val false)), .sc (.int .i64 rc), .sc (.bool aa), .sl 1 0 ans.length 5, au, .sl 3 0 y.length 5, .sl 2 0 seen.length 1] 0 2 60), some (.row (cellsOf ah true (ans)) 0 0 44), some (.row (((seen)).map (ar.val false)) 0 0 23), some (.row (cellsOf ah true (y)) 0 0 44), some (.row [.vl true 1 (c.owner.map (aj.val false)), .sc (.int .u16 c.type.toNat), .sc (.int .u16 c.cls.toNat), .sc (.int .u32 c.qn.toNat), .vl true 4 (c.data.map (bt.val true))] 0 2 44)]) rfl ?_ ?_
    · refine bm (T := []) (aw.nil PP) mixed Tryz.func43 rfl (by kernel_rfl) (by kernel_rfl) (by kernel_rfl) (by kernel_rfl) ?_; unfold Tryz.f43
      simp only [↓wR, RA, simprocAttr, TF, ag, hau1, hau2]
      refine bm (T := []) (aw.nil PP) mixed Tryz.func60 rfl (by kernel_rfl) (by kernel_rfl) (by kernel_rfl) (by kernel_rfl) ?_; unfold Tryz.f60
      simp only [↓wR, RA, simprocAttr, TF, ag, hau1, hau2]
      refine dx [0, 1, 7, 8] (fun (k : Nat) => [.sl 1 0 ans.length 5, .fn (.func 44) [] [.ptr 4 0], .sc (.int .i64 (ans.length)), .sc (.int .i64 (k))]) (fun _ => [some (.row [.vl false 1 (z.origin.map (aj.val false)), .vl false 5 (z.ak.map (ah.val false)), .sc (.int .i64 rc), .sc (.bool aa), .sl 1 0 ans.length 5, au, .sl 3 0 y.length 5, .sl 2 0 seen.length 1] 0 2 60), some (.row (cellsOf ah true (ans)) 0 0 44), some (.row (((seen)).map (ar.val false)) 0 0 23), some (.row (cellsOf ah true (y)) 0 0 44), some (.row [.vl true 1 (c.owner.map (aj.val false)), .sc (.int .u16 c.type.toNat), .sc (.int .u16 c.cls.toNat), .sc (.int .u32 c.qn.toNat), .vl true 4 (c.data.map (bt.val true))] 0 2 44)]) (fun k => k ≤ ans.length ∧ tt ans c = tt (ans.drop k) c) (fun k => ans.length - k) 0 ⟨Nat.zero_le _, rfl⟩ (by simp only [↓wR, RA, simprocAttr, TF, ag, hau1, hau2] <;> rfl) (by simp only [↓wR, RA, simprocAttr, TF, ag, hau1, hau2] <;> rfl) ?_
      rintro k ⟨hk, hx⟩
      simp only [↓wR, RA, simprocAttr, TF, ag, hau1, hau2]
      rw [cp]; refine ⟨fun h3 => ?_, fun h3 => ?_⟩
      · obtain ⟨q, hq, hd2, hlt2⟩ := ed (decide_eq_true h3)
        rw [hd2] at hx
        have hx' : tt ans c = ((decide ((q.type.toNat : Int) = c.type.toNat) && dw q.owner c.owner) || tt (ans.drop (k + 1)) c) := hx
        have hqo := hao q (List.mem_of_getElem? hq)
        have hdr : (cellsOf ah true ans).drop (k * 5) = [.vl true 1 (q.owner.map (aj.val false)), .sc (.int .u16 q.type.toNat), .sc (.int .u16 q.cls.toNat), .sc (.int .u32 q.qn.toNat), .vl true 4 (q.data.map (bt.val true))] ++ cellsOf ah true (ans.drop (k + 1)) :=
          (Je ah true ans k).trans (by rw [hd2, Du]; rfl)
        simp only [↓wR, RA, simprocAttr, TF, ag, h3, hq, hdr, hau1, hau2]; repeat (simp (disch := omega) only [ai, cb, cd, b9, ca]; try simp only [↓wR, RA, simprocAttr, TF, ag, h3, hq, hdr, hau1, hau2])
        refine bm (T := [dc]) (aw.cons (aq eb) (aw.nil PP)) mixed Tryz.func44 rfl (by kernel_rfl) (by kernel_rfl) (by kernel_rfl) (by kernel_rfl) ?_; unfold Tryz.f44
        simp only [↓wR, RA, simprocAttr, TF, ag, hau1, hau2]
        rw [c9]; refine ⟨fun ⟨h4, e4⟩ => ?_, fun ⟨h4, e4⟩ => ?_⟩
        · simp only [↓wR, RA, simprocAttr, TF, ag, h4, fm, hqo, hcs.owner, hau1, hau2]
          rw [cz]; refine ⟨fun h5 => ?_, fun h5 => ?_⟩
          · rw [decide_eq_true e4, h5, Bool.true_and, Bool.true_or] at hx'
            simp only [↓wR, RA, simprocAttr, TF, ag, h5, hau1, hau2, iz, ik, g5, hx']
          · rw [h5, Bool.and_false, Bool.false_or] at hx'
            simp only [↓wR, RA, simprocAttr, TF, ag, h5, hau1, hau2]; repeat (simp (disch := omega) only [ai, cb, cd, b9, ca]; try simp only [↓wR, RA, simprocAttr, TF, ag, h5, hau1, hau2])
            exact ⟨k + 1, ⟨hlt2, hx'⟩, by omega, by (first | rfl | trivial | omega | ((try (simp (disch := omega) only [ai])); (try (simp only [FB])); first | done | rfl | omega))⟩
        · rw [decide_eq_false e4, Bool.false_and, Bool.false_or] at hx'
          simp only [↓wR, RA, simprocAttr, TF, ag, h4, hau1, hau2]; repeat (simp (disch := omega) only [ai, cb, cd, b9, ca]; try simp only [↓wR, RA, simprocAttr, TF, ag, h4, hau1, hau2])
          exact ⟨k + 1, ⟨hlt2, hx'⟩, by omega, by (first | rfl | trivial | omega | ((try (simp (disch := omega) only [ai])); (try (simp only [FB])); first | done | rfl | omega))⟩
      · rw [fq (decide_eq_false h3)] at hx
        have hx' : tt ans c = false := hx
        simp only [↓wR, RA, simprocAttr, TF, ag, h3, iz, ik, g5, hau1, hau2, hx']
    rintro _ _ ⟨rfl, rfl⟩
    simp only [↓wR, RA, simprocAttr, TF, ag, gm]
    rw [cz]; refine ⟨fun h2 => ?_, fun h2 => ?_⟩
    · have h2' : tt ans c = false := by simpa only [Bool.not_eq_true'] using h2
      rw [h2', if_neg (by decide), ← hy] at htk
      simp only [↓wR, RA, simprocAttr, TF, ag, h2, hlim, hau1, hau2]; repeat (simp (disch := omega) only [ai, cb, cd, b9, ca]; try simp only [↓wR, RA, simprocAttr, TF, ag, h2, hlim, hau1, hau2])
      refine ⟨by kernel_rfl, .inl ?_⟩
      refine ⟨by apply hq; kernel_rfl, ⟨(i + 1, y ++ [c]), ⟨hlt, htk.symm⟩, by simp; omega, by (first | rfl | trivial | omega | ((try (simp (disch := omega) only [ai])); (try (simp only [FB])); first | done | rfl | omega)), ?_⟩⟩
      rw [sx, List.length_append, List.length_singleton]
    · have h2' : tt ans c = true := by simpa only [Bool.not_eq_false'] using h2
      rw [h2', if_pos rfl, List.append_nil, ← hy] at htk
      simp only [↓wR, RA, simprocAttr, TF, ag, hau1, hau2]; repeat (simp (disch := omega) only [ai, cb, cd, b9, ca]; try simp only [↓wR, RA, simprocAttr, TF, ag, hau1, hau2])
      exact ⟨(i + 1, y), ⟨hlt, htk.symm⟩, by simp; omega, by (first | rfl | trivial | omega | ((try (simp (disch := omega) only [ai])); (try (simp only [FB])); first | done | rfl | omega)), by (first | rfl | trivial | omega | ((try (simp (disch := omega) only [ai])); (try (simp only [FB])); first | done | rfl | omega))⟩
  · have hil : i = A.length := by omega
    subst hil
    rw [List.take_length] at hy
    subst hy
    simp only [↓wR, RA, simprocAttr, TF, ag, h, iz, ik, g5, hau1, hau2]
end Go.Proofs.YtcbdpmfipecmgaaGreat
end
section
set_option linter.unusedSimpArgs false
set_option linter.unusedVariables false
namespace Go.Proofs.YtcbdpmfipecmgaaGreat
open Go.Vm
set_option maxRecDepth 2000000
theorem ahj {l : List Name} (h : ∀ m ∈ l, dv m = 0) (hl : l.length ≤ 16) : ly l := by
  have : ∀ l : List Name, (∀ m ∈ l, dv m = 0) → g8 bk l ≤ l.length * 256 := by
    intro l
    induction l with
    | nil => intro _; simp [g8]
    | cons a l ih =>
      intro h
      have h1 := qz (h a (by simp))
      have h2 := ih (fun m hm => h m (by simp [hm]))
      simp only [g8, List.foldr_cons, List.length_cons] at h2 ⊢
      omega
  have := this l h
  unfold ly; omega
theorem Cq (fr h k st et) (n : Nat) (ans : List bd) (s : bd) (hn : n = ans.length + 1) : nb ah fr h 0 n (.row (cellsOf ah true ans ++ [.vl true 1 (s.owner.map (aj.val false)), .sc (.int .u16 s.type.toNat), .sc (.int .u16 s.cls.toNat), .sc (.int .u32 s.qn.toNat), .vl true 4 (s.data.map (bt.val true))]) k st et) = some (ans ++ [s]) := by
  rw [← sx]
  exact zo ah fr h true (ans ++ [s]) k st et n (by rw [hn, List.length_append]; rfl) rfl
theorem flat_agg (l : List AV) : [AV.agg l].flatMap AV.cells = l := by simp [AV.cells]
theorem aw6 (fr h) (s : bd) : eh ah fr h (.vl true 5 [.agg [.vl true 1 (s.owner.map (aj.val false)), .sc (.int .u16 s.type.toNat), .sc (.int .u16 s.cls.toNat), .sc (.int .u32 s.qn.toNat), .vl true 4 (s.data.map (bt.val true))]]) = some [s] := u6 ah fr h true [s] 5 rfl rfl
set_option maxHeartbeats 4000000 in
theorem au9 (z : bf) (n : Name) (t : UInt16) (hz : cg z) (hn : bb n) : wl PP [Qf, Yj, Ym, Uv, P2, rq, dc, Ji] 0 (Tryz.f6.body.getD .skip) (du PP Tryz.f6.results.toList (fun r st => (r2 oc (be .i64)).get true st.h r = some (Er z n t))) (cy 0 [cj.val false z, ar.val false n, cq.val false t]) (bn []) := by
  have ok : aw PP [Qf, Yj, Ym, Uv, P2, rq, dc, Ji] := aw.cons (aq Fv) (aw.cons (aq H9) (aw.cons (aq He) (aw.cons (aq Lo) (aw.cons (aq Hn) (aw.cons (aq mh) (aw.cons (aq eb) (aw.cons (aq G9) (aw.nil PP))))))))
  unfold Tryz.f6
  simp only [iy, da]
  unfold Er
  by_cases he : (k8 z n t).2 = 0
  rotate_left
  · rw [if_pos he]
    rcases ha : k8 z n t with ⟨⟨k, nd, cl⟩, e⟩
    rw [ha] at he
    have hb : (e != 0) = true := by simpa using he
    simp only [↓wR, RA, simprocAttr, TF, ag, x9, hz, hn, ha, hb]
  obtain ⟨h1, h2, h3, h4⟩ := Jv he
  obtain ⟨a1, a2, a3⟩ := uc h1
  rw [if_neg (by omega)]
  rcases ha : k8 z n t with ⟨⟨k, nd, cl⟩, e⟩
  rw [ha] at he
  simp only at he
  subst he
  simp only [↓wR, RA, simprocAttr, TF, ag, x9, hz, hn, ha, bne_self_eq_false]
  refine bm (T := [Qf, Yj, Ym, Uv, P2, rq, dc, Ji]) ok mixed Tryz.func14 rfl (by kernel_rfl) (by kernel_rfl) (by kernel_rfl) (by kernel_rfl) ?_; unfold Tryz.f14
  simp only [↓wR, RA, simprocAttr, TF, ag]
  have hcase : gv z t 16 n [] [] = gv z t (16 - 0) n [] [] := rfl
  refine Ww [0, 1, 2, 6] (fun (x : Name × List Name × List bd × Nat) => [.ptr 3 0, .vl false 1 (x.1.map (aj.val false)), .sc (.int .u16 t.toNat), .sc (.int .i64 (x.2.2.2))]) (fun x => [some (.row [.vl false 1 (z.origin.map (aj.val false)), .vl false 5 (z.ak.map (ah.val false))] 0 2 26), some (.row [.sc (.int .i64 0), .sc (.bool false), .sc (.slice none 0 0), .sc (.slice none 0 0), .sc (.slice none 0 0)] 0 2 32), some (.row [.sc (.int .u8 k), .vl true 1 (nd.map (aj.val false)), .vl true 1 (cl.map (aj.val false))] 0 2 54), some (.row [.vl false 1 (z.origin.map (aj.val false)), .vl false 5 (z.ak.map (ah.val false)), .sc (.int .i64 0), .sc (.bool true), .sl 4 0 x.2.2.1.length 5, .sc (.slice none 0 0), .sc (.slice none 0 0), .sl 5 0 x.2.1.length 1] 0 2 60), some (.row (cellsOf ah true (x.2.2.1)) 0 0 44), some (.row (((x.2.1)).map (ar.val false)) 0 0 23)]) (fun x => (gk z x.1 = 0 ∧ (x.2.1.length = x.2.2.2 ∧ ∀ m ∈ x.2.1, dv m = 0)) ∧ (x.2.2.2 ≤ 15 ∧ x.2.2.1.length ≤ x.2.2.2 ∧ ∀ s ∈ x.2.2.1, bb s.owner) ∧ gv z t 16 n [] [] = gv z t (16 - x.2.2.2) x.1 x.2.1 x.2.2.1) (fun x => 16 - x.2.2.2) (n, [], [], 0) ⟨⟨h1, rfl, fun m hm => by cases hm⟩, ⟨Nat.zero_le _, Nat.le_refl _, fun m hm => by cases hm⟩, rfl⟩ (by simp only [↓wR, RA, simprocAttr, TF, ag]; (refine mz.lax [] (by first | exact Nat.le_of_ble_eq_true rfl | (simp [bw]; omega)) ?_ ?_ <;> repeat' first | exact i6.nil | exact db.nil | exact jb.same _ | exact jb.nil _ _ _ | exact jb.vh _ _ | exact db.refl _ _ | apply i6.cons | apply db.ghost | apply db.same | apply db.row)) ?_
  clear hcase
  rintro ⟨n', seen, ans, al⟩ ⟨⟨b1, b2, b3⟩, ⟨b4, b5, b6⟩, b7⟩
  simp only at b1 b2 b3 b4 b5 b6 b7
  obtain ⟨c1, c2, c3⟩ := uc b1
  have hn' : bb n' := by have := qz c2; unfold bb; omega
  have hsp := W5 hz hn'
  have hst := aha t b1
  obtain ⟨f, hf⟩ : ∃ f, 16 - al = f + 1 := ⟨15 - al, by omega⟩
  have hq : ∀ a b c d, ib a b c = d → ib a b c = d := fun _ _ _ _ h => h
  rcases hfv : gq z n' with ⟨⟨k2, nd2, cl2⟩, e2⟩
  rw [hfv] at hsp
  simp only at hsp
  have hlim1 : (seen.length + 1) * 24 ≤ 140737488355328 := by omega
  have hdec : decide ((ans.length : Int) > 0) = decide (0 < ans.length) := by rw [decide_eq_decide]; omega
  have hzw : g8 um z.ak ≤ 16777216 := by unfold cg Qk at hz; omega
  rcases hst with ⟨c, s, hc, hs, ht, ho, h⟩ | ⟨hc, h⟩ | ⟨hc, h⟩ | ⟨hc, l, hne, hln, hw, hl, h⟩ | ⟨hc, s, d, m, ht, h5, h255, ho, hoz, hd, hm, hem, hy, h⟩
  · have hch : gv z t (f + 1) n' seen ans = qd 0 (decide (0 < ans.length)) ans [s] (zp z ans [s]) := by simp only [gv, h]; rfl
    rw [b7, hf, hch]
    rw [hfv] at h
    change kx z n' t (ur k2 nd2 cl2) = _ at h
    have hns : ly (fg [s]) := Nat.le_trans (Nat.le_trans (Oa hs) (Hq _)) hzw
    simp only [↓wR, RA, simprocAttr, TF, ag, hlim1, m6, hz, hn', hfv]; repeat (simp (disch := omega) only [ai, cb, cd, b9, ca]; try simp only [↓wR, RA, simprocAttr, TF, ag, hlim1, m6, hz, hn', hfv])
    refine ⟨by kernel_rfl, .inl ?_⟩
    simp only [↓wR, RA, simprocAttr, TF, ag, uk, hz, hn', c1, hsp, h]
    refine ⟨by apply hq; kernel_rfl, ?_⟩
    refine ⟨by kernel_rfl, .inl ?_⟩
    refine ⟨by apply hq; kernel_rfl, ?_⟩
    simp only [↓wR, RA, simprocAttr, TF, ag, hdec]
    refine Rp [3, 4, 7] (abi z hz c1 0 (decide (0 < ans.length)) ((cw ah).val true [s]) (Ek (cw ah) true [s]) (fun τ => Gj (cw ah) τ true [s]) rfl ans (seen ++ [n']) [s] (by omega) b6 (by simp) (fun x hx => by rw [List.mem_singleton] at hx; subst hx; exact (hz.set x hs).data.len) hns) (by decide) (by simp only [↓wR, RA, simprocAttr, TF, ag]) (by simp only [↓wR, RA, simprocAttr, TF, ag]) (Nat.le_of_ble_eq_true rfl) (by simp only [↓wR, RA, simprocAttr, TF, ag]) (by simp only [↓wR, RA, simprocAttr, TF, ag, da]) ⟨Nat.le_of_ble_eq_true rfl, Nat.le_of_ble_eq_true rfl⟩ ?_
    simp only [↓wR, RA, simprocAttr, TF, ag, gm, uj, Bw, te, Jg, aw6]
  · have hch : gv z t (f + 1) n' seen ans = qd 3 true ans [o0 z] [] := by simp only [gv, h]; rfl
    rw [b7, hf, hch]
    rw [hfv] at h
    change kx z n' t (ur k2 nd2 cl2) = _ at h
    simp only [↓wR, RA, simprocAttr, TF, ag, hlim1, m6, hz, hn', hfv]; repeat (simp (disch := omega) only [ai, cb, cd, b9, ca]; try simp only [↓wR, RA, simprocAttr, TF, ag, hlim1, m6, hz, hn', hfv])
    refine ⟨by kernel_rfl, .inl ?_⟩
    simp only [↓wR, RA, simprocAttr, TF, ag, uk, hz, hn', c1, hsp, h, z5, J3]
    apply hq; kernel_rfl
  · have hch : gv z t (f + 1) n' seen ans = qd 0 true ans [o0 z] [] := by simp only [gv, h]; rfl
    rw [b7, hf, hch]
    rw [hfv] at h
    change kx z n' t (ur k2 nd2 cl2) = _ at h
    simp only [↓wR, RA, simprocAttr, TF, ag, hlim1, m6, hz, hn', hfv]; repeat (simp (disch := omega) only [ai, cb, cd, b9, ca]; try simp only [↓wR, RA, simprocAttr, TF, ag, hlim1, m6, hz, hn', hfv])
    refine ⟨by kernel_rfl, .inl ?_⟩
    simp only [↓wR, RA, simprocAttr, TF, ag, uk, hz, hn', c1, hsp, h, z5, J3]
    apply hq; kernel_rfl
  · have hch : gv z t (f + 1) n' seen ans = qd 0 true (ans ++ l) [] (zp z (ans ++ l) l) := by simp only [gv, h]; rfl
    rw [b7, hf, hch]
    rw [hfv] at h
    change kx z n' t (ur k2 nd2 cl2) = _ at h
    have hns : ly (fg l) := Nat.le_trans hw hzw
    have hll : l.length ≤ 16777216 := by have := hz.len; omega
    have hlim2 : (ans.length * 5 + l.length * 5) * 56 ≤ 140737488355328 := by omega
    simp only [↓wR, RA, simprocAttr, TF, ag, hlim1, m6, hz, hn', hfv]; repeat (simp (disch := omega) only [ai, cb, cd, b9, ca]; try simp only [↓wR, RA, simprocAttr, TF, ag, hlim1, m6, hz, hn', hfv])
    refine ⟨by kernel_rfl, .inl ?_⟩
    simp only [↓wR, RA, simprocAttr, TF, ag, uk, hz, hn', c1, hsp, h, hlim2]
    refine ⟨by apply hq; kernel_rfl, ?_⟩
    refine ⟨by kernel_rfl, .inl ?_⟩
    refine ⟨by apply hq; kernel_rfl, ?_⟩
    have hao : ∀ x ∈ ans ++ l, bb x.owner := fun x hx => by
      rcases List.mem_append.1 hx with hx | hx
      · exact b6 x hx
      · rcases (hl x hx).2.1 with e | e
        · rw [e]; exact hn'
        · exact (hz.set x e).owner
    have hld : ∀ x ∈ l, x.data.length ≤ 16777216 := fun x hx => by
      obtain ⟨y, hy, hyd, _⟩ := (hl x hx).2.2.2
      rw [hyd]; exact (hz.set y hy).data.len
    have hal : (ans ++ l).length ≤ 16777216 := by have := hz.len; have := H7 c1; rw [List.length_append]; omega
    refine Rp [3, 10, 7] (abi z hz c1 0 true (.sc (.slice none 0 0)) rfl (fun τ => rfl) rfl (ans ++ l) (seen ++ [n']) l hal hao hll hld hns) (by decide) (by simp only [↓wR, RA, simprocAttr, TF, ag]) (by simp only [↓wR, RA, simprocAttr, TF, ag]) (Nat.le_of_ble_eq_true rfl) (by simp only [↓wR, RA, simprocAttr, TF, ag]) (by simp only [↓wR, RA, simprocAttr, TF, ag, da, A8]) ⟨Nat.le_of_ble_eq_true rfl, Nat.le_of_ble_eq_true rfl⟩ ?_
    simp only [↓wR, RA, simprocAttr, TF, ag, gm, uj, Bw, te, Jg]
  · have hms : bb m := by have := qz hem; unfold bb; omega
    have hse : ∀ q ∈ seen ++ [n'], dv q = 0 := fun q hq2 => by
      rcases List.mem_append.1 hq2 with q1 | q1
      · exact b3 q q1
      · rw [List.mem_singleton] at q1; rw [q1]; exact c2
    have hsn : ly (seen ++ [n']) := ahj hse (by rw [List.length_append, List.length_singleton]; omega)
    have hlim3 : (ans.length * 5 + 5) * 56 ≤ 140737488355328 := by omega
    have h0 := h
    rw [hfv] at h
    change kx z n' t (ur k2 nd2 cl2) = _ at h
    cases hu : di m z.origin with
    | false =>
      rw [b7, hf, V8 h0 hu]
      simp only [↓wR, RA, simprocAttr, TF, ag, hlim1, m6, hz, hn', hfv]; repeat (simp (disch := omega) only [ai, cb, cd, b9, ca]; try simp only [↓wR, RA, simprocAttr, TF, ag, hlim1, m6, hz, hn', hfv])
      refine ⟨by kernel_rfl, .inl ?_⟩
      simp only [↓wR, RA, simprocAttr, TF, ag, uk, hz, hn', c1, hsp, h, hlim3, flat_agg]
      refine ⟨by apply hq; kernel_rfl, ?_⟩
      refine ⟨by kernel_rfl, .inl ?_⟩
      refine ⟨by apply hq; kernel_rfl, ?_⟩
      refine ⟨by kernel_rfl, .inl ?_⟩
      simp only [↓wR, RA, simprocAttr, TF, ag, jg, hms, hz.origin, hu, Cq]
      apply hq; kernel_rfl
    | true =>
      cases hmet : xz (seen ++ [n']) m with
      | true =>
        rw [b7, hf, Wk h0 hu hmet]
        simp only [↓wR, RA, simprocAttr, TF, ag, hlim1, m6, hz, hn', hfv]; repeat (simp (disch := omega) only [ai, cb, cd, b9, ca]; try simp only [↓wR, RA, simprocAttr, TF, ag, hlim1, m6, hz, hn', hfv])
        refine ⟨by kernel_rfl, .inl ?_⟩
        simp only [↓wR, RA, simprocAttr, TF, ag, uk, hz, hn', c1, hsp, h, hlim3, flat_agg]
        refine ⟨by apply hq; kernel_rfl, ?_⟩
        refine ⟨by kernel_rfl, .inl ?_⟩
        refine ⟨by apply hq; kernel_rfl, ?_⟩
        refine ⟨by kernel_rfl, .inl ?_⟩
        simp only [↓wR, RA, simprocAttr, TF, ag, jg, hms, hz.origin, hu, p0, hsn, hmet, Cq]
        apply hq; kernel_rfl
      | false =>
        rw [b7, hf, adi h0 hu hmet]
        simp only [↓wR, RA, simprocAttr, TF, ag, hlim1, m6, hz, hn', hfv]; repeat (simp (disch := omega) only [ai, cb, cd, b9, ca]; try simp only [↓wR, RA, simprocAttr, TF, ag, hlim1, m6, hz, hn', hfv])
        refine ⟨by kernel_rfl, .inl ?_⟩
        simp only [↓wR, RA, simprocAttr, TF, ag, uk, hz, hn', c1, hsp, h, hlim3, flat_agg]
        refine ⟨by apply hq; kernel_rfl, ?_⟩
        refine ⟨by kernel_rfl, .inl ?_⟩
        refine ⟨by apply hq; kernel_rfl, ?_⟩
        refine ⟨by kernel_rfl, .inl ?_⟩
        by_cases h15 : al = 15
        · have hf0 : f = 0 := by omega
          rw [hf0]
          have hd16 : decide (((al : Int) + 1) ≥ 16) = true := decide_eq_true (by omega)
          simp only [↓wR, RA, simprocAttr, TF, ag, jg, hms, hz.origin, hu, p0, hsn, hmet, Cq, hd16]; repeat (simp (disch := omega) only [ai, cb, cd, b9, ca]; try simp only [↓wR, RA, simprocAttr, TF, ag, jg, hms, hz.origin, hu, p0, hsn, hmet, Cq, hd16])
          exact ⟨by apply hq; kernel_rfl, rfl⟩
        · have hd16 : decide (((al : Int) + 1) ≥ 16) = false := decide_eq_false (by omega)
          simp only [↓wR, RA, simprocAttr, TF, ag, jg, hms, hz.origin, hu, p0, hsn, hmet, Cq, hd16]; repeat (simp (disch := omega) only [ai, cb, cd, b9, ca]; try simp only [↓wR, RA, simprocAttr, TF, ag, jg, hms, hz.origin, hu, p0, hsn, hmet, Cq, hd16])
          have hm0 : gk z m = 0 := by unfold gk; rw [if_neg (by omega), if_neg (by omega), if_neg (by rw [hu]; decide)]
          have hsl : (seen ++ [n']).length = al + 1 := by rw [List.length_append, List.length_singleton]; omega
          have hal : (ans ++ [s]).length ≤ al + 1 := by rw [List.length_append, List.length_singleton]; omega
          have hao : ∀ x ∈ ans ++ [s], bb x.owner := fun x hx => by
            rcases List.mem_append.1 hx with hx | hx
            · exact b6 x hx
            · rw [List.mem_singleton] at hx
              subst hx
              rcases hoz with e | e
              · rw [e]; exact hn'
              · exact (hz.set x e).owner
          have hff : f = 16 - (al + 1) := by omega
          have hc1 : ((al + 1 : Nat) : Int) = (al : Int) + 1 := by omega
          refine ⟨by apply hq; kernel_rfl, (m, seen ++ [n'], ans ++ [s], al + 1), ⟨⟨hm0, hsl, hse⟩, ⟨by show al + 1 ≤ 15; omega, hal, hao⟩, by rw [hff]⟩, by show 16 - (al + 1) < f + 1; omega, ?_⟩
          simp only [List.length_append, List.length_singleton, hc1, List.map_append, List.map_cons, List.map_nil]
          rw [sx]
          refine mz.lax [] (Nat.le_of_ble_eq_true rfl) (.cons (.same _) (.cons (.data ar false m _ (by simp only [↓wR, RA, simprocAttr, TF, ag])) (.cons (.same _) (.cons (.same _) .nil)))) (db.refl _ _)
noncomputable def O7 (x : bf × Name × UInt16 × Unit) : Option AV := if cg x.1 ∧ bb x.2.1 then some ((r2 oc (be .i64)).E true (Er x.1 x.2.1 x.2.2.1)) else none
set_option maxRecDepth 2000000 in
theorem aoq (x : bf × Name × UInt16 × Unit) (r : AV) (h : O7 x = some r) : bh PP 6 ((aC cj (aC ar (aC cq a0))).E x) r := by
  by_cases hc : cg x.1 ∧ bb x.2.1
  case neg => simp only [O7, if_neg hc] at h; cases h
  simp only [O7, if_pos hc] at h
  cases h
  exact bg (aw.cons (aq Fv) (aw.cons (aq H9) (aw.cons (aq He) (aw.cons (aq Lo) (aw.cons (aq Hn) (aw.cons (aq mh) (aw.cons (aq eb) (aw.cons (aq G9) (aw.nil PP))))))))) Tryz.func6 (by kernel_rfl) (by kernel_rfl) (by kernel_rfl) (Nat.le_of_ble_eq_true (by kernel_rfl)) (r2 oc (be .i64)) true (Er x.1 x.2.1 x.2.2.1) (au9 x.1 x.2.1 x.2.2.1 hc.1 hc.2)
noncomputable abbrev aOf : Nat × Bool × (List AV → M AV) := (6, true, dj (aC cj (aC ar (aC cq a0))) O7)
end Go.Proofs.YtcbdpmfipecmgaaGreat
end
section
set_option linter.unusedSimpArgs false
set_option linter.unusedVariables false
namespace Go.Proofs.YtcbdpmfipecmgaaGreat
open Go.Vm
set_option maxRecDepth 2000000
def sn (t : UInt16) (s : bd) : Bool := decide ((s.type.toNat : Int) = 5) && (decide ((t.toNat : Int) ≠ 5) && decide ((t.toNat : Int) ≠ 255))
def w4 (s : bd) : Option Name := match s.data with | [d] => (match d.names with | [m] => some m | _ => none) | _ => none
def Ef (t : UInt16) : List bd → Name → Nat → Option (Name × Nat × List bd)
  | [], n, a => some (n, a, [])
  | s :: r, n, a => if sn t s = true then (if dw s.owner n = true then (match w4 s with | some m => Ef t r m (a + 1) | none => none) else none) else some (n, a, s :: r)
def Au (n : Name) (t : UInt16) (s : bd) : Bool := dw s.owner n && (decide ((t.toNat : Int) = 255) || decide ((s.type.toNat : Int) = t.toNat))
def qj (l : List bd) (n : Name) (t : UInt16) : Name × Int × Bool :=
  match Ef t l n 0 with
  | none => ([], 0, false)
  | some (m, a, r) => if r.all (Au m t) = true then (m, (a : Int), true) else ([], 0, false)
def okD (d : c7) : Bool := decide (d.names.length ≤ 16777216) && d.names.all fun m => decide (bk m ≤ 16777216)
def E1 (s : bd) : Bool := decide (bk s.owner ≤ 16777216) && (decide (s.data.length ≤ 16777216) && s.data.all okD)
def zj (l : List bd) : Bool := decide (l.length ≤ 16777216) && l.all E1
theorem ai2 {l : List bd} (h : zj l = true) : l.length ≤ 16777216 := by unfold zj at h; rw [Bool.and_eq_true] at h; exact of_decide_eq_true h.1
theorem S3 {l : List bd} (h : zj l = true) : ∀ s ∈ l, bb s.owner ∧ s.data.length ≤ 16777216 ∧ ∀ d ∈ s.data, d.names.length ≤ 16777216 ∧ ∀ m ∈ d.names, bb m := fun s hs => by
  unfold zj at h
  rw [Bool.and_eq_true] at h
  have h2 := List.all_eq_true.1 h.2 s hs
  unfold E1 at h2
  rw [Bool.and_eq_true, Bool.and_eq_true] at h2
  refine ⟨of_decide_eq_true h2.1, of_decide_eq_true h2.2.1, fun d hd => ?_⟩
  have h3 := List.all_eq_true.1 h2.2.2 d hd
  unfold okD at h3
  rw [Bool.and_eq_true] at h3
  exact ⟨of_decide_eq_true h3.1, fun m hm => of_decide_eq_true (List.all_eq_true.1 h3.2 m hm)⟩
theorem abj {s y : bd} (hy : ea y) (hd : s.data = y.data) (ho : bb s.owner) : E1 s = true := by
  unfold E1
  rw [Bool.and_eq_true, Bool.and_eq_true, hd]
  refine ⟨decide_eq_true ho, decide_eq_true hy.data.len, List.all_eq_true.2 fun d hdd => ?_⟩
  have hsd := hy.data.mem d hdd
  unfold okD
  rw [Bool.and_eq_true]
  refine ⟨decide_eq_true ?_, List.all_eq_true.2 fun m hm => decide_eq_true (hsd.name m hm)⟩
  have := yc bk d.names
  unfold dm yd at hsd
  omega
set_option maxHeartbeats 4000000 in
theorem ajb (l : List bd) (n : Name) (t : UInt16) (hok : zj l = true) (hn : bb n) : wl PP [dc] 0 (Tryz.f7.body.getD .skip) (du PP Tryz.f7.results.toList (fun r st => (r3 ar (be .i64) bq).get false st.h r = some (qj l n t))) (cy 0 [(cw ah).val false l, ar.val false n, cq.val false t]) (bn []) := by
  have hll := ai2 hok
  have ho := fun s hs => (S3 hok s hs).1
  have hnm := fun s hs => (S3 hok s hs).2
  unfold Tryz.f7
  simp only [da]
  simp only [↓wR, RA, simprocAttr, TF, ag]
  refine dx [0, 1, 2, 9] (fun (x : Name × Nat) => [.vl false 5 (l.map (ah.val false)), .vl false 1 (x.1.map (aj.val false)), .sc (.int .u16 t.toNat), .sc (.int .i64 (x.2))]) (fun _ => []) (fun x => x.2 ≤ l.length ∧ bb x.1 ∧ Ef t l n 0 = Ef t (l.drop x.2) x.1 x.2) (fun x => l.length - x.2) (n, 0) ⟨Nat.zero_le _, hn, rfl⟩ (by simp only [↓wR, RA, simprocAttr, TF, ag] <;> rfl) (by simp only [↓wR, RA, simprocAttr, TF, ag] <;> rfl) ?_
  rintro ⟨m, i⟩ ⟨hi, hm, hx⟩
  simp only at hi hm hx
  simp only [↓wR, RA, simprocAttr, TF, ag]
  have hval0 : Ef t l n 0 = none → qj l n t = ([], 0, false) := fun q => by unfold qj; rw [q]
  rw [cp]
  refine ⟨fun h => ?yes, fun h => ?no⟩
  case' yes =>
    obtain ⟨c, hc, hd1, hlt⟩ := ed (decide_eq_true h)
    rw [hd1, Ef] at hx
    have hmem := List.mem_of_getElem? hc
    simp only [↓wR, RA, simprocAttr, TF, ag, h, hc]; repeat (simp (disch := omega) only [ai, cb, cd, b9, ca]; try simp only [↓wR, RA, simprocAttr, TF, ag, h, hc])
    have hcd := (hnm c hmem).1
    rw [c9]
    refine ⟨fun ⟨g1, e1⟩ => ?y1, fun ⟨g1, e1⟩ => ?n1⟩
  case' y1 =>
    simp only [↓wR, RA, simprocAttr, TF, ag, g1]
    rw [ef]
    refine ⟨fun ⟨g2, e2⟩ => ?y2, fun ⟨g2, e2⟩ => ?n2⟩
  case' y2 =>
    simp only [↓wR, RA, simprocAttr, TF, ag, g2]
    rw [ef]
    refine ⟨fun ⟨g3, e3⟩ => ?y3, fun ⟨g3, e3⟩ => ?n3⟩
  case y3 =>
    have ho1 : sn t c = true := by unfold sn; rw [decide_eq_true e1, decide_eq_true e2, decide_eq_true e3]; rfl
    rw [if_pos ho1] at hx
    simp only [↓wR, RA, simprocAttr, TF, ag, g3, hc, fm, ho c hmem, hm]; repeat (simp (disch := omega) only [ai, cb, cd, b9, ca]; try simp only [↓wR, RA, simprocAttr, TF, ag, g3, hc, fm, ho c hmem, hm])
    rw [cz]; refine ⟨fun h4 => ?_, fun h4 => ?_⟩
    · have h4' : dw c.owner m = false := by simpa only [Bool.not_eq_true'] using h4
      rw [h4', if_neg (by decide)] at hx
      simp only [↓wR, RA, simprocAttr, TF, ag, h4, hval0 hx]
    have h4' : dw c.owner m = true := by simpa only [Bool.not_eq_false'] using h4
    rw [if_pos h4'] at hx
    simp only [↓wR, RA, simprocAttr, TF, ag, h4, hc]; repeat (simp (disch := omega) only [ai, cb, cd, b9, ca]; try simp only [↓wR, RA, simprocAttr, TF, ag, h4, hc])
    rw [ef]; refine ⟨fun ⟨h5, e5⟩ => ?_, fun ⟨h5, e5⟩ => ?_⟩
    · have hon : w4 c = none := by
        unfold w4
        split
        · rename_i d hd; rw [hd] at e5; simp at e5
        · rfl
      rw [hon] at hx
      simp only [↓wR, RA, simprocAttr, TF, ag, h5, hval0 hx]
    obtain ⟨d, hd⟩ : ∃ d, c.data = [d] := List.length_eq_one_iff.1 (by omega)
    have hd0 : c.data[0]? = some d := by rw [hd]; rfl
    have hdn := ((hnm c hmem).2 d (by rw [hd]; simp)).1
    simp only [↓wR, RA, simprocAttr, TF, ag, h5, hc, hd0]; repeat (simp (disch := omega) only [ai, cb, cd, b9, ca]; try simp only [↓wR, RA, simprocAttr, TF, ag, h5, hc, hd0])
    rw [ef]; refine ⟨fun ⟨h6, e6⟩ => ?_, fun ⟨h6, e6⟩ => ?_⟩
    · have hon : w4 c = none := by
        unfold w4
        rw [hd]
        simp only
        split
        · rename_i q hq; rw [hq] at e6; simp at e6
        · rfl
      rw [hon] at hx
      simp only [↓wR, RA, simprocAttr, TF, ag, h6, hval0 hx]
    obtain ⟨q, hq⟩ : ∃ q, d.names = [q] := List.length_eq_one_iff.1 (by omega)
    have hq0 : d.names[0]? = some q := by rw [hq]; rfl
    have hqs := ((hnm c hmem).2 d (by rw [hd]; simp)).2 q (by rw [hq]; simp)
    have hon : w4 c = some q := by unfold w4; rw [hd]; simp only [hq]
    rw [hon] at hx
    simp only [↓wR, RA, simprocAttr, TF, ag, h6, hc, hd0, hq0]; repeat (simp (disch := omega) only [ai, cb, cd, b9, ca]; try simp only [↓wR, RA, simprocAttr, TF, ag, h6, hc, hd0, hq0])
    exact ⟨(q, i + 1), ⟨hlt, hqs, hx⟩, by simp; omega, by (first | rfl | trivial | omega | ((try (simp (disch := omega) only [ai])); (try (simp only [FB])); first | done | rfl | omega))⟩
  case' n1 =>
    have hres : Ef t l n 0 = some (m, i, l.drop i) := by
      rw [hx, if_neg (by unfold sn; rw [decide_eq_false e1, Bool.false_and]; decide), hd1]
    simp only [↓wR, RA, simprocAttr, TF, ag, g1]
  case' n2 =>
    have hres : Ef t l n 0 = some (m, i, l.drop i) := by
      rw [hx, if_neg (by unfold sn; rw [decide_eq_false (show ¬ (t.toNat : Int) ≠ 5 from fun q => q e2)]; simp), hd1]
    simp only [↓wR, RA, simprocAttr, TF, ag, g2]
  case' n3 =>
    have hres : Ef t l n 0 = some (m, i, l.drop i) := by
      rw [hx, if_neg (by unfold sn; rw [decide_eq_false (show ¬ (t.toNat : Int) ≠ 255 from fun q => q e3)]; simp), hd1]
    simp only [↓wR, RA, simprocAttr, TF, ag, g3]
  case' no =>
    have hres : Ef t l n 0 = some (m, i, l.drop i) := by
      rw [hx, fq (decide_eq_false h)]; rfl
    simp only [↓wR, RA, simprocAttr, TF, ag, h]
  all_goals
    have hvt : (l.drop i).all (Au m t) = true → qj l n t = (m, (i : Int), true) := fun q => by unfold qj; rw [hres]; simp only; rw [if_pos q]
    have hvf : (l.drop i).all (Au m t) = false → qj l n t = ([], 0, false) := fun q => by unfold qj; rw [hres]; simp only; rw [q, if_neg (by decide)]
    clear hval0 hx
    refine dx [0, 1, 2, 9, 10] (fun (k : Nat) => [.vl false 5 (l.map (ah.val false)), .vl false 1 (m.map (aj.val false)), .sc (.int .u16 t.toNat), .sc (.int .i64 (i)), .sc (.int .i64 (k))]) (fun _ => []) (fun k => k ≤ l.length ∧ (l.drop i).all (Au m t) = (l.drop k).all (Au m t)) (fun k => l.length - k) i ⟨hi, rfl⟩ (by simp only [↓wR, RA, simprocAttr, TF, ag] <;> rfl) (by simp only [↓wR, RA, simprocAttr, TF, ag] <;> rfl) ?_
    rintro k ⟨hk, hx⟩
    simp only [↓wR, RA, simprocAttr, TF, ag]
    rw [cp]
    refine ⟨fun h7 => ?_, fun h7 => ?_⟩
    · obtain ⟨c2, hc2, hd2, hlt2⟩ := ed (decide_eq_true h7)
      rw [hd2, List.all_cons] at hx
      have hmem2 := List.mem_of_getElem? hc2
      have hep : Au m t c2 = (dw c2.owner m && (decide ((t.toNat : Int) = 255) || decide ((c2.type.toNat : Int) = t.toNat))) := rfl
      simp only [↓wR, RA, simprocAttr, TF, ag, h7, hc2, fm, ho c2 hmem2, hm]; repeat (simp (disch := omega) only [ai, cb, cd, b9, ca]; try simp only [↓wR, RA, simprocAttr, TF, ag, h7, hc2, fm, ho c2 hmem2, hm])
      rw [cz]; refine ⟨fun h8 => ?_, fun h8 => ?_⟩
      · have h8' : dw c2.owner m = false := by simpa only [Bool.not_eq_true'] using h8
        rw [hep, h8', Bool.false_and, Bool.false_and] at hx
        simp only [↓wR, RA, simprocAttr, TF, ag, h8, hvf hx]
      have h8' : dw c2.owner m = true := by simpa only [Bool.not_eq_false'] using h8
      simp only [↓wR, RA, simprocAttr, TF, ag, h8, hc2]; repeat (simp (disch := omega) only [ai, cb, cd, b9, ca]; try simp only [↓wR, RA, simprocAttr, TF, ag, h8, hc2])
      rw [ef]; refine ⟨fun ⟨h9, e9⟩ => ?_, fun ⟨h9, e9⟩ => ?_⟩
      · simp only [↓wR, RA, simprocAttr, TF, ag, h9, hc2]; repeat (simp (disch := omega) only [ai, cb, cd, b9, ca]; try simp only [↓wR, RA, simprocAttr, TF, ag, h9, hc2])
        rw [ef]; refine ⟨fun ⟨h10, e10⟩ => ?_, fun ⟨h10, e10⟩ => ?_⟩
        · rw [hep, h8', decide_eq_false e9, decide_eq_false e10] at hx
          simp only [↓wR, RA, simprocAttr, TF, ag, h10, hvf hx]
        · rw [hep, h8', decide_eq_true e10, Bool.or_true, Bool.true_and, Bool.true_and] at hx
          simp only [↓wR, RA, simprocAttr, TF, ag, h10]; repeat (simp (disch := omega) only [ai, cb, cd, b9, ca]; try simp only [↓wR, RA, simprocAttr, TF, ag, h10])
          exact ⟨k + 1, ⟨hlt2, hx⟩, by omega, by (first | rfl | trivial | omega | ((try (simp (disch := omega) only [ai])); (try (simp only [FB])); first | done | rfl | omega))⟩
      · rw [hep, h8', decide_eq_true e9, Bool.true_or, Bool.true_and, Bool.true_and] at hx
        simp only [↓wR, RA, simprocAttr, TF, ag, h9]; repeat (simp (disch := omega) only [ai, cb, cd, b9, ca]; try simp only [↓wR, RA, simprocAttr, TF, ag, h9])
        exact ⟨k + 1, ⟨hlt2, hx⟩, by omega, by (first | rfl | trivial | omega | ((try (simp (disch := omega) only [ai])); (try (simp only [FB])); first | done | rfl | omega))⟩
    · rw [fq (decide_eq_false h7), List.all_nil] at hx
      simp only [↓wR, RA, simprocAttr, TF, ag, h7, hvt hx]
noncomputable def yn (x : List bd × Name × UInt16 × Unit) : Option AV := if zj x.1 = true ∧ bb x.2.1 then some ((r3 ar (be .i64) bq).E false (qj x.1 x.2.1 x.2.2.1)) else none
set_option maxRecDepth 2000000 in
theorem X2 (x : List bd × Name × UInt16 × Unit) (r : AV) (h : yn x = some r) : bh PP 7 ((aC (cw ah) (aC ar (aC cq a0))).E x) r := by
  by_cases hc : zj x.1 = true ∧ bb x.2.1
  case neg => simp only [yn, if_neg hc] at h; cases h
  simp only [yn, if_pos hc] at h
  cases h
  exact bg (aw.cons (aq eb) (aw.nil PP)) Tryz.func7 (by kernel_rfl) (by kernel_rfl) (by kernel_rfl) (Nat.le_of_ble_eq_true (by kernel_rfl)) (r3 ar (be .i64) bq) false (qj x.1 x.2.1 x.2.2.1) (ajb x.1 x.2.1 x.2.2.1 hc.1 hc.2)
noncomputable abbrev adn : Nat × Bool × (List AV → M AV) := (7, true, dj (aC (cw ah) (aC ar (aC cq a0))) yn)
noncomputable def Cy (z : bf) (n : Name) (t : UInt16) (k : Int) : Bool := if (A9 z n t).2 ≠ 0 then false else (decide ((A9 z n t).1.turn = 3) && decide (k = 3)) || (decide ((A9 z n t).1.turn = 2) && decide (k = 0))
theorem akt (z : bf) (n : Name) (t : UInt16) (k : Int) (hz : cg z) (hn : bb n) : wl PP [avb] 0 (Tryz.f9.body.getD .skip) (du PP Tryz.f9.results.toList (fun r st => (r1 bq).get true st.h r = some (Cy z n t k))) (cy 0 [cj.val false z, ar.val false n, cq.val false t, (be .i64).val false k]) (bn []) := by
  unfold Tryz.f9
  simp only [iy, da]
  unfold Cy
  rcases hv : A9 z n t with ⟨⟨u, ss, to⟩, e⟩
  simp only [↓wR, RA, simprocAttr, TF, ag, K7, hz, hn, hv]
  rw [cz]; refine ⟨fun h => ?_, fun h => ?_⟩
  · have he : e ≠ 0 := by simpa using h
    rw [if_pos he]
    simp only [↓wR, RA, simprocAttr, TF, ag, h]
  have he : e = 0 := by simpa using h
  rw [if_neg (by omega)]
  simp only [↓wR, RA, simprocAttr, TF, ag, h]
  by_cases h3 : u = 3
  · have e3 : (u == 3) = true := by rw [h3]; rfl
    have e2 : (u == 2) = false := by rw [h3]; rfl
    by_cases k3 : k = 3
    · have q3 : (k == 3) = true := by rw [k3]; rfl
      simp only [↓wR, RA, simprocAttr, TF, ag, e3, q3]
      rw [decide_eq_true h3, decide_eq_true k3]; rfl
    · have q3 : (k == 3) = false := by simpa using k3
      simp only [↓wR, RA, simprocAttr, TF, ag, e3, q3, e2]
      rw [decide_eq_true h3, decide_eq_false k3, decide_eq_false (show ¬ u = 2 by omega)]; rfl
  · have e3 : (u == 3) = false := by simpa using h3
    by_cases h2 : u = 2
    · have e2 : (u == 2) = true := by rw [h2]; rfl
      simp only [↓wR, RA, simprocAttr, TF, ag, e3, e2]
      rw [decide_eq_false h3, decide_eq_true h2]
      rfl
    · have e2 : (u == 2) = false := by simpa using h2
      simp only [↓wR, RA, simprocAttr, TF, ag, e3, e2]
      rw [decide_eq_false h3, decide_eq_false h2]; rfl
noncomputable def Dn (x : bf × Name × UInt16 × Int × Unit) : Option AV := if cg x.1 ∧ bb x.2.1 then some ((r1 bq).E true (Cy x.1 x.2.1 x.2.2.1 x.2.2.2.1)) else none
set_option maxRecDepth 2000000 in
theorem Yu (x : bf × Name × UInt16 × Int × Unit) (r : AV) (h : Dn x = some r) : bh PP 9 ((aC cj (aC ar (aC cq (aC (be .i64) a0)))).E x) r := by
  by_cases hc : cg x.1 ∧ bb x.2.1
  case neg => simp only [Dn, if_neg hc] at h; cases h
  simp only [Dn, if_pos hc] at h
  cases h
  exact bg (aw.cons (aq ahh) (aw.nil PP)) Tryz.func9 (by kernel_rfl) (by kernel_rfl) (by kernel_rfl) (Nat.le_of_ble_eq_true (by kernel_rfl)) (r1 bq) true (Cy x.1 x.2.1 x.2.2.1 x.2.2.2.1) (akt x.1 x.2.1 x.2.2.1 x.2.2.2.1 hc.1 hc.2)
noncomputable abbrev aft : Nat × Bool × (List AV → M AV) := (9, true, dj (aC cj (aC ar (aC cq (aC (be .i64) a0)))) Dn)
end Go.Proofs.YtcbdpmfipecmgaaGreat
end
section
namespace Go.Proofs.YtcbdpmfipecmgaaGreat
open Go.Vm
structure aqp (z : bf) (t : UInt16) (n m : Name) (s : bd) : Prop where
  ty : (s.type.toNat : Int) = 5
  t5 : (t.toNat : Int) ≠ 5
  t255 : (t.toNat : Int) ≠ 255
  own : dw s.owner n = true
  one : w4 s = some m
  cut : j7 z n = none
  err : dv m = 0
  zon : s.owner = n ∨ s ∈ z.ak
  dat : ∃ y ∈ z.ak, s.data = y.data ∧ s.type = y.type
inductive tj (z : bf) (t : UInt16) : Name → List bd → Name → Prop
  | nil (n : Name) : tj z t n [] n
  | cons {n m e : Name} {s : bd} {l : List bd} (h : aqp z t n m s) (hr : tj z t m l e) : tj z t n (s :: l) e
inductive avw (z : bf) (t : UInt16) (k : Nat) (e : Name) (ans cs tl : List bd) (r : zx) : Prop
  | stop (h1 : tl = []) (h2 : r.authority = []) (h3 : r.ga = []) (h4 : r.nq = 0) (h5 : r.aa = true) (h6 : cs ≠ [] ∨ k = 0)
  | found (h1 : tl ≠ []) (h2 : ∀ s ∈ tl, Au e t s = true ∧ (s.owner = e ∨ s ∈ z.ak) ∧ ∃ y ∈ z.ak, s.data = y.data ∧ s.type = y.type) (hc : j7 z e = none) (h3 : r.authority = []) (h4 : r.nq = 0) (h5 : r.aa = true)
      (h6 : r.ga = zp z (ans ++ cs ++ tl) tl)
  | aax (h1 : tl = []) (ha : gk z e = 0) (h2 : r.authority = [o0 z]) (h3 : r.ga = []) (h5 : r.aa = true) (h4 : (r.nq = 3 ∧ (kx z e t (gq z e).1).turn = 3) ∨ (r.nq = 0 ∧ (kx z e t (gq z e).1).turn = 2))
  | Yk (h1 : tl = []) (s : bd) (c : Name) (h2 : r.authority = [s]) (hs : s ∈ z.ak) (ht : (s.type.toNat : Int) = 2) (hc : j7 z e = some c) (ho : dw s.owner c = true) (h4 : r.nq = 0) (h5 : r.aa = decide (0 < (ans ++ cs).length))
      (h6 : r.ga = zp z (ans ++ cs) [s])
theorem an2 {z : bf} {t : UInt16} : ∀ (k : Nat) (n : Name) (seen : List Name) (ans : List bd), gk z n = 0 → ∃ cs tl e, (gv z t k n seen ans).answer = ans ++ cs ++ tl ∧ tj z t n cs e ∧ (cs.length ≤ k ∧ tl.length ≤ z.ak.length) ∧ avw z t k e ans cs tl (gv z t k n seen ans) := by
  intro k
  induction k with
  | zero => intro n seen ans _; exact ⟨[], [], n, by simp [gv, qd], .nil n, ⟨Nat.le_refl _, Nat.zero_le _⟩, .stop rfl rfl rfl rfl rfl (.inr rfl)⟩
  | succ k ih =>
    intro n seen ans h
    obtain ⟨a1, a2, a3⟩ := uc h
    rcases aha t h with ⟨c, s, hc, hs, ht, ho, e⟩ | ⟨hc, e⟩ | ⟨hc, e⟩ | ⟨hc, l, hne, hln, hw, hl, e⟩ | ⟨hc, s, d, m, ht, h5, h255, ho, hoz, hd, hm, hem, hy, e⟩
    · have hv : gv z t (k + 1) n seen ans = qd 0 (decide (0 < ans.length)) ans [s] (zp z ans [s]) := by simp only [gv, e]; rfl
      rw [hv]
      exact ⟨[], [], n, by simp [qd], .nil n, ⟨Nat.zero_le _, Nat.zero_le _⟩, .Yk rfl s c rfl hs ht hc ho rfl (by rw [List.append_nil]; rfl) (by rw [List.append_nil]; rfl)⟩
    · have hv : gv z t (k + 1) n seen ans = qd 3 true ans [o0 z] [] := by simp only [gv, e]; rfl
      rw [hv]
      exact ⟨[], [], n, by simp [qd], .nil n, ⟨Nat.zero_le _, Nat.zero_le _⟩, .aax rfl h rfl rfl rfl (.inl ⟨rfl, by rw [e]; rfl⟩)⟩
    · have hv : gv z t (k + 1) n seen ans = qd 0 true ans [o0 z] [] := by simp only [gv, e]; rfl
      rw [hv]
      exact ⟨[], [], n, by simp [qd], .nil n, ⟨Nat.zero_le _, Nat.zero_le _⟩, .aax rfl h rfl rfl rfl (.inr ⟨rfl, by rw [e]; rfl⟩)⟩
    · have hv : gv z t (k + 1) n seen ans = qd 0 true (ans ++ l) [] (zp z (ans ++ l) l) := by simp only [gv, e]; rfl
      rw [hv]
      refine ⟨[], l, n, by simp [qd], .nil n, ⟨Nat.zero_le _, hln⟩, .found hne (fun s hs => ⟨?_, (hl s hs).2.1, (hl s hs).2.2.2⟩) hc rfl rfl rfl (by rw [List.append_nil]; rfl)⟩
      obtain ⟨q1, _, q2, _⟩ := hl s hs
      unfold Au
      rw [q1, Bool.true_and, Bool.or_eq_true]
      exact q2.imp (fun q => decide_eq_true q) (fun q => decide_eq_true q)
    · have hal : aqp z t n m s := ⟨ht, h5, h255, ho, by unfold w4; rw [hd]; simp only [hm], hc, hem, hoz, hy⟩
      cases hu : di m z.origin with
      | false =>
        have hv := V8 (k := k) (seen := seen) (ans := ans) e hu
        rw [hv]
        exact ⟨[s], [], m, by simp [qd], .cons hal (.nil m), ⟨by simp, Nat.zero_le _⟩, .stop rfl rfl rfl rfl rfl (.inl (by simp))⟩
      | true =>
        cases hmet : xz (seen ++ [n]) m with
        | true =>
          have hv := Wk (k := k) (ans := ans) e hu hmet
          rw [hv]
          exact ⟨[s], [], m, by simp [qd], .cons hal (.nil m), ⟨by simp, Nat.zero_le _⟩, .stop rfl rfl rfl rfl rfl (.inl (by simp))⟩
        | false =>
          have hv := adi (k := k) (ans := ans) e hu hmet
          rw [hv]
          have hm0 : gk z m = 0 := by unfold gk; rw [if_neg (by omega), if_neg (by omega), if_neg (by rw [hu]; decide)]
          obtain ⟨cs, tl, e', i1, i2, i4, i3⟩ := ih m (seen ++ [n]) (ans ++ [s]) hm0
          refine ⟨s :: cs, tl, e', by rw [i1]; simp, .cons hal i2, ⟨by rw [List.length_cons]; omega, i4.2⟩, ?_⟩
          rcases i3 with ⟨q1, q2, q3, q4, q5, q6⟩ | ⟨q1, q2, q3, q4, q5, q6, q7⟩ | ⟨q1, q2, q3, q4, q5, q6⟩ | ⟨q1, s', c', q2, q3, q4, q5, q6, q7, q8, q9⟩
          · exact .stop q1 q2 q3 q4 q5 (.inl (by simp))
          · exact .found q1 q2 q3 q4 q5 q6 (by rw [q7]; simp)
          · exact .aax q1 q2 q3 q4 q5 q6
          · exact .Yk q1 s' c' q2 q3 q4 q5 q6 q7 (by rw [q8]; simp) (by rw [q9]; simp)
theorem amo {z : bf} {t : UInt16} {n e : Name} {cs : List bd} (h : tj z t n cs e) : ∀ (tl : List bd) (a : Nat), (∀ s, tl.head? = some s → sn t s = false) → Ef t (cs ++ tl) n a = some (e, a + cs.length, tl) := by
  induction h with
  | nil n =>
    intro tl a ht
    cases tl with
    | nil => rfl
    | cons s l => rw [List.nil_append, Ef, ht s rfl]; rfl
  | @cons n m e s l h hr ih =>
    intro tl a ht
    have ho : sn t s = true := by unfold sn; rw [decide_eq_true h.ty, decide_eq_true h.t5, decide_eq_true h.t255]; rfl
    rw [List.cons_append, Ef, if_pos ho, if_pos h.own, h.one]
    show Ef t (l ++ tl) m (a + 1) = _
    rw [ih tl (a + 1) ht, List.length_cons, show a + 1 + l.length = a + (l.length + 1) from by omega]
theorem ad7 {t : UInt16} {e : Name} {s : bd} (h : Au e t s = true) : sn t s = false := by
  unfold Au at h
  simp only [Bool.and_eq_true, Bool.or_eq_true, decide_eq_true_eq] at h
  unfold sn
  rcases h.2 with h2 | h2
  · rw [decide_eq_false (show ¬ (t.toNat : Int) ≠ 255 from fun q => q h2)]; simp
  · by_cases h5 : (s.type.toNat : Int) = 5
    · rw [decide_eq_false (show ¬ (t.toNat : Int) ≠ 5 from fun q => q (by rw [← h2]; exact h5))]; simp
    · rw [decide_eq_false h5]; rfl
theorem ai3 {z : bf} {t : UInt16} {n e : Name} {cs tl : List bd} (h : tj z t n cs e) (ht : ∀ s ∈ tl, Au e t s = true) : qj (cs ++ tl) n t = (e, (cs.length : Int), true) := by
  have h1 := amo h tl 0 (fun s hs => ad7 (ht s (List.mem_of_head? hs)))
  unfold qj
  rw [h1]
  simp only
  rw [if_pos (List.all_eq_true.2 ht)]
  simp
theorem amd {z : bf} {t : UInt16} {n e : Name} {cs : List bd} (h : tj z t n cs e) : ∀ s ∈ cs, j7 z s.owner = none := by
  induction h with
  | nil n => intro s hs; cases hs
  | @cons n m e s l h hr ih =>
    intro q hq
    rcases List.mem_cons.1 hq with rfl | hq
    · rw [Vx h.own]; exact h.cut
    · exact ih q hq
end Go.Proofs.YtcbdpmfipecmgaaGreat
end
section
set_option linter.unusedSimpArgs false
set_option linter.unusedVariables false
namespace Go.Proofs.YtcbdpmfipecmgaaGreat
open Go.Vm
set_option maxRecDepth 2000000
noncomputable abbrev awake18 : Nat × Bool × (List AV → M AV) := (4, true, dj a0 (fun _ => some (.sc (.bool true))))
theorem aev {z : bf} {t : UInt16} {n e : Name} {cs : List bd} (hz : cg z) (h : tj z t n cs e) : bb n → bb e ∧ ∀ s ∈ cs, E1 s = true := by
  induction h with
  | nil n => intro hn; exact ⟨hn, fun s hs => by cases hs⟩
  | @cons n m e s l h hr ih =>
    intro hn
    have hm : bb m := by have := qz h.err; unfold bb; omega
    obtain ⟨h1, h2⟩ := ih hm
    obtain ⟨y, hy, hyd, _⟩ := h.dat
    refine ⟨h1, fun q hq => ?_⟩
    rcases List.mem_cons.1 hq with rfl | hq
    · exact abj (hz.set y hy) hyd (h.zon.elim (fun e => by rw [e]; exact hn) (fun e => (hz.set q e).owner))
    · exact h2 q hq
theorem ae8 {z : bf} (h : ic z = 0) : ((o0 z).type.toNat : Int) = 6 := by
  obtain ⟨s, hs⟩ := W9 h
  have h2 := (Hj hs).2.1
  unfold o0
  rw [hs]
  exact h2
theorem am4 {z : bf} {n : Name} {t : UInt16} {k : Int} (h : gk z n = 0) (t0 : (t.toNat : Int) ≠ 0) (t41 : (t.toNat : Int) ≠ 41) (hd : (k = 3 ∧ (kx z n t (gq z n).1).turn = 3) ∨ (k = 0 ∧ (kx z n t (gq z n).1).turn = 2)) : Cy z n t k = true := by
  have hf : (gq z n).2 = 0 := by rcases U1 h with ⟨_, _, e⟩ | ⟨_, _, _, e⟩ | ⟨_, _, _, e⟩ | ⟨_, _, _, _, e⟩ | ⟨_, _, _, _, e⟩ <;> rw [e]
  have ha : k8 z n t = gq z n := by unfold k8; rw [if_neg (fun q => q.2.elim t0 t41)]
  have hn : A9 z n t = (kx z n t (gq z n).1, 0) := by unfold A9; rw [ha, if_neg (by omega)]
  unfold Cy
  rw [hn, if_neg (fun q => q rfl)]
  rcases hd with ⟨h1, h2⟩ | ⟨h1, h2⟩
  · rw [decide_eq_true h1, decide_eq_true (show (kx z n t (gq z n).1, (0 : Int)).1.turn = 3 from h2)]; rfl
  · rw [decide_eq_true h1, decide_eq_true (show (kx z n t (gq z n).1, (0 : Int)).1.turn = 2 from h2)]; simp
set_option maxHeartbeats 8000000 in
theorem aos (z : bf) (n : Name) (t : UInt16) (hz : cg z) (hn : bb n) : wl PP [awake18, ass, aOf, adn, ajn, dc, aft] 0 (Tryz.f3.body.getD .skip) (du PP Tryz.f3.results.toList (fun r st => (r1 bq).get true st.h r = some true)) (cy 0 [cj.val false z, ar.val false n, cq.val false t]) (bn []) := by
  have hzl := hz.len
  unfold Tryz.f3
  simp only [iy, da]
  simp only [↓wR, RA, simprocAttr, TF, ag, P5, hz]
  rw [cz]; refine ⟨fun h1 => ?_, fun h1 => ?_⟩
  · have h1' : Ox z = false := by simpa only [Bool.not_eq_true'] using h1
    simp only [↓wR, RA, simprocAttr, TF, ag, h1, h1']
  have h1' : Ox z = true := by simpa only [Bool.not_eq_false'] using h1
  by_cases he : (k8 z n t).2 = 0
  case neg =>
    have ho : Er z n t = (qd 0 false [] [] [], (k8 z n t).2) := by unfold Er; rw [if_pos he]
    have hb : ((k8 z n t).2 != 0) = true := by simpa using he
    simp only [↓wR, RA, simprocAttr, TF, ag, h1, h1', O7, hz, hn, ho, hb]
    rfl
  obtain ⟨q1, q2, q3, q4⟩ := Jv he
  obtain ⟨a1, a2, a3⟩ := uc q1
  obtain ⟨cs, tl, e, i1, i2, i4, i3⟩ := an2 (t := t) 16 n [] [] q1
  have ho : Er z n t = (gv z t 16 n [] [], 0) := by unfold Er; rw [if_neg (by omega)]
  rcases hch : gv z t 16 n [] [] with ⟨rc, aa, an, au, ad⟩
  rw [hch] at i1 i3 ho
  simp only [List.nil_append] at i1 i3
  subst i1
  obtain ⟨hes, hcs⟩ := aev hz i2 hn
  have hzl2 := H7 a1
  have htl : ∀ s ∈ tl, Au e t s = true ∧ E1 s = true ∧ j7 z s.owner = none := by
    rcases i3 with ⟨j1, _⟩ | ⟨_, j2, j3, _⟩ | ⟨j1, _⟩ | ⟨j1, _⟩
    · rw [j1]; intro s hs; cases hs
    · intro s hs
      obtain ⟨p1, p2, y, hy, hyd, _⟩ := j2 s hs
      have p3 : dw s.owner e = true := by unfold Au at p1; rw [Bool.and_eq_true] at p1; exact p1.1
      exact ⟨p1, abj (hz.set y hy) hyd (p2.elim (fun q => by rw [q]; exact hes) (fun q => (hz.set s q).owner)), by rw [Vx p3]; exact j3⟩
    · rw [j1]; intro s hs; cases hs
    · rw [j1]; intro s hs; cases hs
  have hcv := ai3 i2 (fun s hs => (htl s hs).1)
  have hall : ∀ s ∈ cs ++ tl, E1 s = true ∧ j7 z s.owner = none := fun s hs => by
    rcases List.mem_append.1 hs with q | q
    · exact ⟨hcs s q, amd i2 s q⟩
    · exact (htl s q).2
  have hlen : (cs ++ tl).length ≤ 16777216 := by rw [List.length_append]; omega
  have hok : zj (cs ++ tl) = true := by
    unfold zj
    rw [Bool.and_eq_true]
    exact ⟨decide_eq_true hlen, List.all_eq_true.2 fun s hs => (hall s hs).1⟩
  have hrc : rc = 0 ∨ rc = 3 := by
    rcases i3 with ⟨_, _, _, j, _⟩ | ⟨_, _, _, _, j, _⟩ | ⟨_, _, _, _, _, j⟩ | ⟨_, _, _, _, _, _, _, _, j, _⟩
    · exact .inl j
    · exact .inl j
    · exact j.elim (fun q => .inr q.1) (fun q => .inl q.1)
    · exact .inl j
  obtain ⟨an, han⟩ : ∃ an, an = cs ++ tl := ⟨_, rfl⟩
  rw [← han] at hcv hall hlen hok ho
  have hq : ∀ a b c d, ib a b c = d → ib a b c = d := fun _ _ _ _ h => h
  have r33 : rc = 3 → (rc != 0) = true ∧ (rc != 3) = false := fun q => by rw [q]; exact ⟨rfl, rfl⟩
  rcases hrc with hr | hr
  rotate_left
  obtain ⟨r0, r3⟩ := r33 hr
  simp only [↓wR, RA, simprocAttr, TF, ag, h1, h1', O7, hz, hn, ho, yn, hok, hcv, r0, r3, bne_self_eq_false]
  rotate_left
  have r0 : (rc != 0) = false := by rw [hr]; rfl
  simp only [↓wR, RA, simprocAttr, TF, ag, h1, h1', O7, hz, hn, ho, yn, hok, hcv, r0, bne_self_eq_false]
  all_goals
    clear r33 r0
    refine dx [2, 3, 7, 8, 10, 11, 13] (fun (i : Nat) => [.sc (.int .u16 t.toNat), .ptr 0 0, .sc (.bool true), .ptr 1 0, .vl false 1 (e.map (aj.val false)), .sc (.int .i64 (cs.length)), .sc (.int .i64 (i))]) (fun _ => [some (.row [.vl false 1 (z.origin.map (aj.val false)), .vl false 5 (z.ak.map (ah.val false))] 0 2 26), some (.row [.sc (.int .i64 rc), .sc (.bool aa), .vl true 5 (an.map (ah.val true)), .vl true 5 (au.map (ah.val true)), .vl true 5 (ad.map (ah.val true))] 0 2 32)]) (fun i => i ≤ an.length) (fun i => an.length - i) 0 (Nat.zero_le _) (by simp only [↓wR, RA, simprocAttr, TF, ag] <;> rfl) (by simp only [↓wR, RA, simprocAttr, TF, ag] <;> rfl) ?_
    intro i hi
    simp only [↓wR, RA, simprocAttr, TF, ag]
    rw [cp]
    refine ⟨fun h => ?_, fun h => ?_⟩
    · obtain ⟨c, hc, hd1, hlt⟩ := ed (decide_eq_true h)
      obtain ⟨p1, p2⟩ := hall c (List.mem_of_getElem? hc)
      have pso : bb c.owner := by unfold E1 at p1; rw [Bool.and_eq_true] at p1; exact of_decide_eq_true p1.1
      simp only [↓wR, RA, simprocAttr, TF, ag, h]; repeat (simp (disch := omega) only [ai, cb, cd, b9, ca]; try simp only [↓wR, RA, simprocAttr, TF, ag, h])
      refine ⟨by kernel_rfl, .inl ?_⟩
      simp only [↓wR, RA, simprocAttr, TF, ag, hc, ze, hz, pso, p2, Option.isSome_none]; repeat (simp (disch := omega) only [ai, cb, cd, b9, ca]; try simp only [↓wR, RA, simprocAttr, TF, ag, hc, ze, hz, pso, p2, Option.isSome_none])
      exact ⟨by apply hq; kernel_rfl, i + 1, hlt, by omega, by (first | rfl | trivial | omega | ((try (simp (disch := omega) only [ai])); (try (simp only [FB])); first | done | rfl | omega))⟩
    clear hi
    have hal : an.length = cs.length + tl.length := by rw [han, List.length_append]
    rcases i3 with ⟨j1, j2, j3, j4, j5, j6⟩ | ⟨j1, j2, jc, j3, j4, j5, j6⟩ | ⟨j1, ja, j2, j3, j5, j4⟩ | ⟨j1, s, c, j2, js, jt, jc, jo, j4, j5, j6⟩
    · simp only at j2 j3 j4 j5
      by_cases hr2 : rc = 3
      · omega
      subst j2 j3 j4 j5
      have hf : decide ((an.length : Int) > cs.length) = false := decide_eq_false (by rw [hal, j1]; simp)
      have hp : decide ((cs.length : Int) > 0) = true := decide_eq_true (by
        rcases j6 with q | q
        · have := List.length_pos_iff.2 q; omega
        · cases q)
      simp only [↓wR, RA, simprocAttr, TF, ag, h, hf, hp, beq_self_eq_true]
    · simp only at j3 j4 j5
      by_cases hr2 : rc = 3
      · omega
      subst j3 j4 j5
      have hf : decide ((an.length : Int) > cs.length) = true := decide_eq_true (by have := List.length_pos_iff.2 j1; omega)
      simp only [↓wR, RA, simprocAttr, TF, ag, h, hf, beq_self_eq_true]
    · simp only at j2 j3 j5 j4
      subst j2 j3 j5
      have hf : decide ((an.length : Int) > cs.length) = false := decide_eq_false (by rw [hal, j1]; simp)
      have hty : ((o0 z).type.toNat : Int) = 6 := ae8 a1
      have hdn := am4 ja q2 q3 j4
      simp only [↓wR, RA, simprocAttr, TF, ag, h, hf, hty, Dn, hz, hes, hdn, beq_self_eq_true]
    · simp only at j2 j4 j5
      by_cases hr2 : rc = 3
      · omega
      have hf : decide ((an.length : Int) > cs.length) = false := decide_eq_false (by rw [hal, j1]; simp)
      have hcs2 : bb c := Kw hz z.ak none (fun _ h => h) (fun m hm => by cases hm) c jc
      have hso := (hz.set s js).owner
      have hat : decide (0 < ([] ++ cs).length) = decide ((cs.length : Int) > 0) := by rw [decide_eq_decide, List.nil_append]; omega
      rw [hat] at j5
      subst j2 j4 j5
      simp only [↓wR, RA, simprocAttr, TF, ag, h, hf, jt, ze, hz, hes, jc, fm, hcs2, hso, akd jo, beq_self_eq_true]
end Go.Proofs.YtcbdpmfipecmgaaGreat
end
section
set_option linter.unusedSimpArgs false
set_option linter.unusedVariables false
namespace Go.Proofs.YtcbdpmfipecmgaaGreat
open Go.Vm
set_option maxRecDepth 2000000
noncomputable section
def muP {α β : Type} (μ : α → Nat) (ν : β → Nat) (p : α × β) : Nat := μ p.1 + ν p.2
def Bn {α : Type} (μ : α → Nat) (l : List α) : Nat := s6 μ l + 1
def M0 {α : Type} (_ : α) : Nat := 1
def muI {α β : Type} (f : β → α) (μ : α → Nat) (y : β) : Nat := μ (f y) + 1
def Ut (P : Program) (t : TypeId) : List Field := match P.underlying t with | some (.struct fs) => fs.toList | _ => []
def au3 (l : List Field) : Nat := match l with | f :: _ => f.offset | [] => 0
def tyH (l : List Field) : TypeId := match l with | f :: _ => f.type | [] => 0
def aqh (l : List Field) : Bool := match l with | _ :: _ => true | [] => false
def axf (l : List Field) : Bool := match l with | [_] => true | _ => false
theorem Pv {P : Program} {l : List Field} {off : Nat} {t : TypeId} {α : Type} {C : c6 α} {μ : α → Nat} (hl : axf l = true) (ho : au3 l = off) (ht : tyH l = t) (hs : P.cellsOf t = C.sz) (h : Rd P t C μ) : Vz P l off C μ := by
  match l, hl with
  | [f], _ => subst ht; exact fun {H} => ary ho hs h
theorem ta {P : Program} {l : List Field} {off : Nat} {t : TypeId} {α β : Type} {A : c6 α} {B : c6 β} {μ : α → Nat} {ν : β → Nat} (hl : aqh l = true) (ho : au3 l = off) (ht : tyH l = t) (hs : P.cellsOf t = A.sz) (h : Rd P t A μ) (hr : Vz P l.tail (off + A.sz) B ν) : Vz P l off (iw A B) (muP μ ν) := by
  match l, hl with
  | f :: fs, _ => subst ht; exact fun {H} => aoa ho hs h hr
theorem Hb {P : Program} {t : TypeId} {α β : Type} {C : c6 α} {μ : α → Nat} {f : β → α} {i : α → β} {h1 : ∀ y, i (f y) = y} {h2 : ∀ x, f (i x) = x} (ht : aqh (Ut P t) = true) (hc : P.cellsOf t = C.sz) (h : Vz P (Ut P t) 0 C μ) : Rd P t (wg C f i h1 h2) (muI f μ) := by
  unfold Ut at ht h
  cases hu : P.underlying t with
  | none => rw [hu] at ht; cases ht
  | some d =>
    rw [hu] at ht h
    cases d with
    | struct fs => exact fun {H} => au1 (am7 hu hc h)
    | _ => cases ht
theorem xo {P : Program} {t e : TypeId} {α : Type} {C : c6 α} {μ : α → Nat} (ht : P.underlying t = some (.slice e)) (hsz : P.cellsOf e = C.sz) (hpos : 0 < C.sz) (he : Rd P e C μ) : Rd P t (cw C) (Bn μ) := aro ht hsz hpos he
def L8 (s : ByteArray) : Nat := s.size + 1
theorem rdS : Rd PP 9 aj L8 := au7 (by kernel_rfl)
def pd : Name → Nat := Bn L8
theorem Rj : Rd PP 23 ar pd := xo (e := 9) (by kernel_rfl) (by kernel_rfl) (by decide) rdS
theorem arj : Rd PP 22 ar pd := xo (e := 9) (by kernel_rfl) (by kernel_rfl) (by decide) rdS
theorem arl : Rd PP 58 (cw ar) (Bn pd) := xo (e := 23) (by kernel_rfl) (by kernel_rfl) (by decide) Rj
theorem aua : Rd PP 62 (cw dg) (Bn M0) := xo (e := 41) (by kernel_rfl) (by kernel_rfl) (by decide) (am6 (by kernel_rfl))
theorem ava : Rd PP 63 (cw bz) (Bn M0) := xo (e := 5) (by kernel_rfl) (by kernel_rfl) (by decide) (avr (by kernel_rfl))
def Gn (d : c7) : Nat := Bn pd d.names + (Bn M0 d.nums + (pd d.texts + Bn M0 d.raw)) + 1
theorem as4 : Rd PP 65 bt Gn :=
  Hb (by kernel_rfl) (by kernel_rfl) (ta (by kernel_rfl) (by kernel_rfl) (by kernel_rfl) (by kernel_rfl) arl (ta (by kernel_rfl) (by kernel_rfl) (by kernel_rfl) (by kernel_rfl) aua (ta (by kernel_rfl) (by kernel_rfl) (by kernel_rfl) (by kernel_rfl) arj (Pv (by kernel_rfl) (by kernel_rfl) (by kernel_rfl) (by kernel_rfl) ava))))
theorem asp : Rd PP 42 (cw bt) (Bn Gn) := xo (e := 65) (by kernel_rfl) (by kernel_rfl) (by decide) as4
theorem al7 : Rd PP 28 cq M0 := alw (by kernel_rfl)
theorem ar5 : Rd PP 40 cq M0 := alw (by kernel_rfl)
theorem avv : Rd PP 41 dg M0 := am6 (by kernel_rfl)
def Mh (s : bd) : Nat := pd s.owner + (1 + (1 + (1 + Bn Gn s.data))) + 1
theorem au8 : Rd PP 44 ah Mh :=
  Hb (by kernel_rfl) (by kernel_rfl) (ta (by kernel_rfl) (by kernel_rfl) (by kernel_rfl) (by kernel_rfl) Rj (ta (by kernel_rfl) (by kernel_rfl) (by kernel_rfl) (by kernel_rfl) al7 (ta (by kernel_rfl) (by kernel_rfl) (by kernel_rfl) (by kernel_rfl) ar5 (ta (by kernel_rfl) (by kernel_rfl) (by kernel_rfl) (by kernel_rfl) avv (Pv (by kernel_rfl) (by kernel_rfl) (by kernel_rfl) (by kernel_rfl) asp)))))
theorem atg : Rd PP 24 (cw ah) (Bn Mh) := xo (e := 44) (by kernel_rfl) (by kernel_rfl) (by decide) au8
def Jy (z : bf) : Nat := pd z.origin + Bn Mh z.ak + 1
theorem atc : Rd PP 26 cj Jy :=
  Hb (by kernel_rfl) (by kernel_rfl) (ta (by kernel_rfl) (by kernel_rfl) (by kernel_rfl) (by kernel_rfl) Rj (Pv (by kernel_rfl) (by kernel_rfl) (by kernel_rfl) (by kernel_rfl) atg))
theorem Mj (n : Name) : bk n = pd n := by
  suffices h : ∀ (n : Name) (k : Nat), n.foldl (fun k s => k + (s.size + 1)) k = k + s6 L8 n by
    have := h n 1; simp only [bk, pd, Bn]; omega
  intro n
  induction n with
  | nil => intro k; rfl
  | cons a n ih => intro k; rw [List.foldl_cons, ih]; simp only [s6, L8]; omega
theorem Mi {α : Type} {f μ : α → Nat} {c : Nat} {l : List α} (h : ∀ x, f x + 1 ≤ c * μ x) : g8 f l ≤ c * s6 μ l := by
  induction l with
  | nil => simp [g8, s6]
  | cons a l ih =>
    have := h a
    simp only [g8, List.foldr_cons, s6, Nat.mul_add] at ih ⊢
    omega
theorem ag3 {α : Type} (l : List α) : s6 M0 l = l.length := by
  induction l with
  | nil => rfl
  | cons a l ih => simp only [s6, ih, M0, List.length_cons]; omega
theorem ara (d : c7) : yd d + 1 ≤ 3 * Gn d := by
  have h1 := Mi (f := bk) (μ := pd) (c := 2) (l := d.names) (fun n => by rw [Mj]; simp only [pd, Bn]; omega)
  have h2 := Mi (f := ByteArray.size) (μ := L8) (c := 1) (l := d.texts) (fun n => by unfold L8; omega)
  have h3 := ag3 d.nums
  have h4 := ag3 d.raw
  simp only [yd, Gn, pd, Bn] at *
  omega
theorem at9 (s : bd) : um s + 1 ≤ 4 * Mh s := by
  have h1 := Mi (f := yd) (μ := Gn) (c := 3) (l := s.data) ara
  have h2 := Mj s.owner
  simp only [um, Mh, pd, Bn] at *
  omega
theorem asb (z : bf) : Qk z ≤ 4 * Jy z := by
  have h1 := Mi (f := um) (μ := Mh) (c := 4) (l := z.ak) at9
  have h2 := Mj z.origin
  simp only [Qk, Jy, pd, Bn] at *
  omega
theorem ain {z : bf} (h : Jy z ≤ 1048576) : cg z := by have := asb z; unfold cg; omega
theorem ai4 {n : Name} (h : pd n ≤ 1048576) : bb n := by unfold bb; rw [Mj]; omega
end
end Go.Proofs.YtcbdpmfipecmgaaGreat
end
namespace Go.Vm
noncomputable section
inductive Ae : ba → ba → Prop
  | rfl (x : ba) : Ae x x
  | perm (es es' : List (Value × AV)) (h : es.Perm es') (hl : loose es = true) : Ae (.map es) (.map es')
theorem Ae.ghost {x y} (hs : Ae x y) (h : Ah y) : Ah x := by
  cases hs with
  | rfl => exact h
  | perm es es' hp hl => obtain ⟨s, e, he⟩ := h; cases he
theorem Ae.obj {g w b base x y} (hs : Ae x y) (h : nk g w b base y) : nk g w b base x := by
  cases hs with
  | rfl => exact h
  | perm es es' hp hl =>
    obtain ⟨h0, ms, clock, h1, h2, h3, h4, l, h5, h6, h7⟩ := h
    refine ⟨h0, ms, clock, h1, by rw [h2, hp.length_eq], h3, h4, ?_⟩
    have hlen : l.length = es'.length := by rw [h5.length_eq, ← h2]; simp
    have key : ∀ (k k' : List (Value × AV)), k.Perm k' → ∀ l' : List MapEntry, l'.length = k'.length → (∀ (i : Nat) e m, k'[i]? = some e → l'[i]? = some m → m.key = e.1 ∧ Rel g w e.2 m.val) →
        ∃ l : List MapEntry, l.Perm l' ∧ l.length = k.length ∧ (∀ (i : Nat) e m, k[i]? = some e → l[i]? = some m → m.key = e.1 ∧ Rel g w e.2 m.val) := by
      intro k k' hp
      induction hp with
      | nil => intro l' hl' hr; exact ⟨l', .refl _, hl', hr⟩
      | cons a _ ih =>
        intro l' hl' hr
        cases l' with
        | nil => simp at hl'
        | cons m l' =>
          obtain ⟨l, q1, q2, q3⟩ := ih l' (by simpa using hl') (fun i e m' he hm => hr (i + 1) e m' (by simpa using he) (by simpa using hm))
          refine ⟨m :: l, q1.cons m, by simp [q2], fun i e m' he hm => ?_⟩
          cases i with
          | zero => exact hr 0 e m' (by simpa using he) (by simpa using hm)
          | succ i => exact q3 i e m' (by simpa using he) (by simpa using hm)
      | swap a b k =>
        intro l' hl' hr
        match l', hl' with
        | m :: n :: l', hl' =>
          refine ⟨n :: m :: l', List.Perm.swap _ _ _, by simpa using hl', fun i e m' he hm => ?_⟩
          match i with
          | 0 => exact hr 1 e m' (by simpa using he) (by simpa using hm)
          | 1 => exact hr 0 e m' (by simpa using he) (by simpa using hm)
          | i + 2 => exact hr (i + 2) e m' (by simpa using he) (by simpa using hm)
      | trans _ _ ih1 ih2 =>
        intro l' hl' hr
        obtain ⟨l2, q1, q2, q3⟩ := ih2 l' hl' hr
        obtain ⟨l1, p1, p2, p3⟩ := ih1 l2 q2 q3
        exact ⟨l1, p1.trans q1, p2, p3⟩
    obtain ⟨l2, q1, _, q3⟩ := key es es' hp l hlen h6
    exact ⟨l2, q1.trans h5, q3, .inr hl⟩
theorem Ok.Zb {g h h' w} (hok : Ok g h' w) (hs : ∀ o x, h.get o = some x → ∃ y, h'.get o = some y ∧ Ae x y) : Ok g h w := by
  refine ⟨hok.size, fun o x hx => ?_, fun o o' x x' b base base' hne hx hx' => ?_, hok.K⟩
  · obtain ⟨y, h1, h2⟩ := hs o x hx
    refine (hok.mw o y h1).imp (fun q => ⟨q.1, h2.ghost q.2⟩) ?_
    rintro ⟨b, base, q1, q2, q3⟩
    exact ⟨b, base, q1, q2, h2.obj q3⟩
  · obtain ⟨y, h1, _⟩ := hs o x hx
    obtain ⟨y', h1', _⟩ := hs o' x' hx'
    exact hok.sep o o' y y' b base base' hne h1 h1'
theorem X6 {h h' : Tr ba} (hs : ∀ o x, h.get o = some x → ∃ y, h'.get o = some y ∧ Ae x y) {o : Nat} (ho : (h.get o).isSome = true) : (h'.get o).isSome = true := by
  obtain ⟨x, hx⟩ := Option.isSome_iff_exists.1 ho
  obtain ⟨y, h1, _⟩ := hs o x hx
  rw [h1]; rfl
structure Lit where
  i : Nat
  d : TypeDesc
  e : Value × AV
def pq (lits : List Lit) (D : Nat → Bool) : List (Value × AV) := (lits.filter fun q => D q.i).map (·.e)
structure Z8 (lits : List Lit) : Prop where
  idx : (lits.map (·.i)).Nodup
  apart : ∀ q ∈ lits, ∀ r ∈ lits, q.i ≠ r.i → nv q.e.1 r.e.1 = true ∧ Instr.sameNow q.d q.e.1 r.e.1 = some false
theorem aay {lits : List Lit} {D : Nat → Bool} {e : Value × AV} (h : e ∈ pq lits D) : ∃ q ∈ lits, D q.i = true ∧ q.e = e := by
  simp only [pq, List.mem_map, List.mem_filter] at h
  obtain ⟨q, ⟨h1, h2⟩, h3⟩ := h
  exact ⟨q, h1, h2, h3⟩
theorem M5 {D : Nat → Bool} : ∀ {lits : List Lit}, Z8 lits → qt (pq lits D) = true
  | [], _ => rfl
  | q :: l, h => by
    have hl : Z8 l := ⟨by have := h.idx; rw [List.map_cons, List.nodup_cons] at this; exact this.2, fun a ha b hb => h.apart a (by simp [ha]) b (by simp [hb])⟩
    have ih := M5 (D := D) hl
    unfold pq at ih ⊢
    rw [List.filter_cons]
    split
    · simp only [List.map_cons, qt, Bool.and_eq_true, List.all_eq_true]
      refine ⟨fun x hx => ?_, ih⟩
      obtain ⟨r, h1, _, rfl⟩ := aay (D := D) hx
      refine (h.apart q (by simp) r (by simp [h1]) (fun e => ?_)).1
      have := h.idx
      rw [List.map_cons, List.nodup_cons] at this
      exact this.1 (by rw [e]; exact List.mem_map_of_mem h1)
    · exact ih
theorem anw {lits : List Lit} (h : (lits.map (·.i)).Nodup) {D : Nat → Bool} {q : Lit} (hq : q ∈ lits) (hD : D q.i = false) : (pq lits (kp D q.i)).Perm (pq lits D ++ [q.e]) := by
  induction lits with
  | nil => cases hq
  | cons a l ih =>
    rw [List.map_cons, List.nodup_cons] at h
    unfold pq at ih ⊢
    rcases List.mem_cons.1 hq with rfl | hq
    · rw [List.filter_cons_of_pos (by simp [kp]), List.filter_cons_of_neg (by simp [hD])]
      have : l.filter (fun r => kp D q.i r.i) = l.filter (fun r => D r.i) := by
        refine List.filter_congr fun r hr => ?_
        have : r.i ≠ q.i := fun e => h.1 (by rw [← e]; exact List.mem_map_of_mem hr)
        simp [kp, this]
      rw [this, List.map_cons]
      exact (List.perm_append_singleton _ _).symm
    · have hne : a.i ≠ q.i := fun e => h.1 (by rw [e]; exact List.mem_map_of_mem hq)
      have hu : kp D q.i a.i = D a.i := by simp [kp, hne]
      cases hb : D a.i with
      | true =>
        rw [List.filter_cons_of_pos (by rw [hu, hb]), List.filter_cons_of_pos (by rw [hb])]
        exact (ih h.2 hq).cons _
      | false =>
        rw [List.filter_cons_of_neg (by rw [hu, hb]; simp), List.filter_cons_of_neg (by rw [hb]; simp)]
        exact ih h.2 hq
theorem ahx {lits : List Lit} {D : Nat → Bool} {i : Nat} (h : ∀ q ∈ lits, q.i ≠ i) : pq lits (kp D i) = pq lits D := by
  unfold pq
  congr 1
  exact List.filter_congr fun q hq => by simp [kp, h q hq]
theorem akr {lits : List Lit} {D : Nat → Bool} (h : ∀ q ∈ lits, D q.i = false) : pq lits D = [] := by
  unfold pq
  rw [List.filter_eq_nil_iff.2 (fun q hq => by simp [h q hq])]
  rfl
theorem ao3 {lits : List Lit} {D : Nat → Bool} (h : ∀ q ∈ lits, D q.i = true) : pq lits D = lits.map (·.e) := by
  unfold pq
  rw [List.filter_eq_self.2 (fun q hq => h q hq)]
theorem Lq (d : TypeDesc) (k : Value) : ∀ (l : List MapEntry) (i : Nat), (∀ m ∈ l, Instr.sameNow d k m.key = some false) → Instr.findNow d k l i = some none
  | [], _, _ => rfl
  | m :: l, i, h => by
    rw [Instr.findNow, h m (by simp)]
    exact Lq d k l (i + 1) (fun m hm => h m (by simp [hm]))
theorem ah0 {P : Program} {kt : TypeId} {d : TypeDesc} {k : Value} {es : List (Value × AV)} (hu : P.underlying kt = some d) (h : ∀ e ∈ es, Instr.sameNow d k e.1 = some false) : r8 P kt k es = some none := by
  have hf : Instr.findNow d k (qv es) 0 = some none := Lq d k _ 0 (fun m hm => by
    simp only [qv, List.mem_map] at hm
    obtain ⟨e, he, rfl⟩ := hm
    exact h e he)
  have hn : Rw P kt k es = true := by unfold Rw; rw [hu]; simp only; rw [hf]; rfl
  unfold r8
  rw [hn, Bool.or_true, cond_true]
  have hevu : ev P (underlying kt) = some d := by
    simp [underlying, program, ev, hu, sd, Aj, Sem.bind, bind]
  have : ev P (Instr.findKey kt k (qv es)) = some none := by
    unfold Instr.findKey
    rw [sd, hevu]
    simp only [Option.bind_some]
    rw [hf]; rfl
  rw [this]; rfl
theorem Step.Zb {g h w lo hi g' h' h'' w'} (s : Step g h w lo hi g' h' w') (hs : ∀ o x, h''.get o = some x → ∃ y, h'.get o = some y ∧ Ae x y) : Step g h w lo hi g' h'' w' :=
  ⟨s.ext, s.size, s.os, s.tape, s.output, s.frame, s.fresh, fun o b base ho hi => s.own o b base (X6 hs ho) hi, s.oq⟩
def ub (o : Oper) : Bool := match o.op with | .insert .. => true | _ => false
def vq (ops : Array Oper) (L : SL) (o : Oper) : Option Bool := bif ub o then some false else x0 ops L o
def aii (P : Program) (T : dr) (ops : Array Oper) (E : List Rec → Prop) : List Oper → (SL → St → Prop) → List Rec → SL → St → Prop
  | [], K => fun recs L st => E recs ∧ K L st
  | o :: r, K => fun recs L st => (vq ops L o = some true ∧ P9 P T o recs (aii P T ops E r K) L st) ∨ (vq ops L o = some false ∧ aii P T ops E r K (recs ++ [⟨[], []⟩]) (gp o.dst (.sc undef) L) st)
theorem apk {P : Program} {T : dr} {ops : Array Oper} {E : List Rec → Prop} {K : SL → St → Prop} : ∀ (l : List Oper) (L : SL) (st : St) (recs : List Rec), aii P T ops E l K recs L st →
    ∃ ds L' st', ds.map (·.o) = l ∧ (∀ d ∈ ds, DSRun P T d ∧ vq ops d.L d.o = some d.want) ∧ tj ds L st L' st' ∧ E (recs ++ ds.map fun d => ⟨d.R, d.W⟩) ∧ K L' st' := by
  intro l
  induction l with
  | nil => intro L st recs h; exact ⟨[], L, st, rfl, by simp, ⟨rfl, rfl⟩, by simpa using h.1, h.2⟩
  | cons o l ih =>
    intro L st recs h
    rcases h with ⟨hb, F, W, v, bc, hop, h4, h5, h6, h7, h8⟩ | ⟨hb, h3⟩
    · obtain ⟨ds, L', st', e1, e2, e3, e4, e5⟩ := ih _ _ _ h8
      have hle := xp hop
      refine ⟨{ o, L, st, want := true, v, bc, R := F, W := W ++ dh st.nx (bc.nx - st.nx) } :: ds, L', st', by simp [e1], ?_, ⟨rfl, rfl, ?_⟩, ?_, e5⟩
      · intro d hd
        rcases List.mem_cons.1 hd with rfl | hd
        · refine ⟨⟨fun _ => ⟨hop, h6, h7, fun q => ?_, fun q hq hn => ?_⟩, fun e => by cases e⟩, hb⟩
          · simp only [List.mem_append, ir]
            constructor
            · rintro (hq | hq)
              · exact .inl ⟨.inl hq, h4 q hq⟩
              · exact .inr ⟨hq.1, by simp at hle; omega⟩
            · rintro (hq | hq)
              · exact hq.1
              · exact .inr ⟨hq.1, by omega⟩
          · have := h5 q hq (fun hw => hn (List.mem_append.2 (.inl hw)))
            rw [qa _ _ _ (fun p hp => by have := h6 p hp; simp at hle; omega), if_pos hq] at this
            exact this
        · exact e2 d hd
      · exact e3
      · simpa [List.append_assoc] using e4
    · obtain ⟨ds, L', st', e1, e2, e3, e4, e5⟩ := ih _ _ _ h3
      refine ⟨{ o, L, st, want := false, v := .sc undef, bc := st, R := [], W := [] } :: ds, L', st', by simp [e1], ?_, ⟨rfl, rfl, ?_⟩, ?_, e5⟩
      · intro d hd
        rcases List.mem_cons.1 hd with rfl | hd
        · exact ⟨⟨(fun e => by cases e), fun _ => ⟨rfl, rfl, rfl, rfl⟩⟩, hb⟩
        · exact e2 d hd
      · exact e3
      · simpa [List.append_assoc] using e4
theorem apu {P : Program} {T : dr} {ops : Array Oper} {ds : List DS} {L : SL} {st : St} {L' : SL} {st' : St} (hs : mj ops = true) (e1 : ds.map (·.o) = ops.toList) (e2 : ∀ d ∈ ds, DSRun P T d) (e3 : tj ds L st L' st') : tm P T ops ds L st L' st' := by
  obtain ⟨c1, c2, c3, c4⟩ := ady e2 e3
  unfold mj at hs
  rw [Bool.and_eq_true] at hs
  refine ⟨e1, e2, c1, ⟨c2, c3, c4⟩, fun i k x y t hik hx hy ht hdt => ?_, fun i o ho e he hb => ?_⟩
  · have hxi : (x.o, i) ∈ ops.toList.zipIdx := by
      rw [List.mem_zipIdx_iff_getElem?, ← e1]; simp [hx]
    have hyk : (y.o, k) ∈ ops.toList.zipIdx := by
      rw [List.mem_zipIdx_iff_getElem?, ← e1]; simp [hy]
    have h1 := List.all_eq_true.1 hs.1 _ hxi
    have h2 := List.all_eq_true.1 h1 t ht
    have h3 := List.all_eq_true.1 h2 _ hyk
    simp only [hdt, Bool.or_eq_true] at h3
    rcases h3 with (h3 | h3) | h3
    · simp at h3
    · simp at h3; omega
    · rw [Nat.max_comm, Nat.min_comm]; exact h3
  · have hoi : (o, i) ∈ ops.toList.zipIdx := by rw [List.mem_zipIdx_iff_getElem?]; simpa using ho
    have h1 := List.all_eq_true.1 hs.2 _ hoi
    rw [Array.all_eq_true_iff_forall_mem] at h1
    have := h1 e he
    rw [hb] at this
    simpa using this
theorem asm {ops : Array Oper} {ds : List DS} (e4 : ib (Region.before ops) 0 (ds.map fun d => ⟨d.R, d.W⟩) = true) : Calm ops ds := fun i k x y hik hx hy => by
  have := Fq _ 0 e4 i k ⟨x.R, x.W⟩ ⟨y.R, y.W⟩ hik (by simp [hx]) (by simp [hy])
  simp only [vw, Nat.zero_add, Bool.or_eq_true, Bool.and_eq_true] at this
  rcases this with h1 | h1
  · exact .inr ⟨h1.1.1, h1.1.2, h1.2⟩
  · exact .inl h1
end
end Go.Vm
namespace Go.Vm
noncomputable section
theorem At.ins {H : (Nat → Bool) → Nat → Option ba} {P : Program} {T : dr} (hT : nw P T) {ops : Array Oper} {ds : List DS} {L0 : SL} {g0 : Gh} {st0 : St} {w0 : World} {df : List Deferred} {ro : Option Nat} {N : Nat} {nt : Nat} {L' : SL} {st' : St} (R : tm P T ops ds L0 st0 L' st')
    {D : Nat → Bool} {a : Act} {w : World} {i : Nat} {d : DS} (hi : ds[i]? = some d) (hD : D i = false) (hr : ∀ e ∈ d.o.after, Region.binds .any e = true → D e.on = true) (A : At H ops ds L0 g0 st0 w0 df nt (ji ds st0.nx ds.length) D a w)
    {t : TypeId} {m k x : Operand} (hop : d.o.op = .insert t m k x) (hdst : d.o.dst = none) (hgd : d.o.guard = none) {p : Nat} {kt et : TypeId} {key : Value} (hu : P.underlying t = some (.map kt et)) (hm : br d.o d.L m = .mp p) (hkey : (br d.o d.L k).ff = some key)
    (hck : ev P (Instr.checkKey false 10000 kt key) = some ()) {es : List (Value × AV)} (hes : H D p = some (.map es)) (hlim : p ≤ bw) (hplt : p < ji ds st0.nx ds.length) (hfind : r8 P kt key es = some none) (hst : stays es (es ++ [(key, br d.o d.L x)]) = true)
    {es' : List (Value × AV)} (hes' : H (kp D i) p = some (.map es')) (hsame : Ae (.map es') (.map (es ++ [(key, br d.o d.L x)]))) (hoth : ∀ o, o ≠ p → H (kp D i) o = H D o)
    {Q : Exit → Act → World → Prop} {K : Act → World → Prop} (hK : ∀ a' w', At H ops ds L0 g0 st0 w0 df nt (ji ds st0.nx ds.length) (kp D i) a' w' → K a' w') : wpOpIn (fw ro) N P ops Q i K a w := by
  have ho := R.get hi
  have hbef := vz A.closed ho hr
  have hcl := A.closed.kp ho hr
  obtain ⟨a1, a2, a3, a4⟩ := R.vj i d hi
  obtain ⟨g, h, h1, h2, h3, h4, h5⟩ := A.mem
  have slot : ∀ t ∈ uw ops d.o, ka ds L0 D ds.length t = lk d.L t := by
    intro t ht
    have hlt : i < ds.length := (List.getElem?_eq_some_iff.1 hi).1
    have := Jj (L0 := L0) (D := D) (i := i) (t := t) (ds := ds) (fun k e hk he => ?_) ds.length
    · rw [this, a1 t]; congr 1; omega
    · rcases Nat.lt_trichotomy k i with hlt' | rfl | hgt
      · have := R.slots i k d e t (by omega) hi hk ht he
        rw [show max i k = i from by omega, show min i k = k from by omega] at this
        exact ⟨fun _ => hlt', fun _ => hbef k this⟩
      · exact ⟨(fun q => by rw [hD] at q; cases q), (fun q => by omega)⟩
      · have := R.slots i k d e t (by omega) hi hk ht he
        rw [show max i k = k from by omega, show min i k = i from by omega] at this
        exact ⟨(fun q => by have := A.closed k i q this; rw [hD] at this; cases this), (fun q => by omega)⟩
  have mono1 : ∀ i d, ds[i]? = some d → d.st.nx = ji ds st0.nx i ∧ d.st.nx ≤ d.bc.nx := fun i d hd => ⟨(R.vj i d hd).2.2.1, (R.vj i d hd).2.2.2⟩
  have hp : ∀ q ∈ [p], q ≤ bw := fun q hq => by rw [List.mem_singleton] at hq; subst hq; exact hlim
  have hmask : ∀ o, (ke h [p]).get o = if o = p then h.get o else none := fun o => by rw [qa _ _ _ hp]; simp
  have hsub : ∀ o x, (ke h [p]).get o = some x → h.get o = some x := fun o x hx => by
    rw [hmask] at hx
    by_cases e : o = p
    · rw [if_pos e] at hx; exact hx
    · rw [if_neg e] at hx; cases hx
  have hrel : nh g w (br d.o d.L) a.eval := Qr fun t ⟨x, hx, e⟩ => by
    have hu : t ∈ uw ops d.o := by
      simp only [uw, List.mem_append, List.mem_filterMap]
      exact .inl (.inr ⟨x, hx, by rw [e]⟩)
    rw [← slot t hu]
    exact h4 t
  have hgp : (ke h [p]).get p = some (.map es) := by rw [hmask, if_pos rfl, h1, hes]
  obtain ⟨bc, hst1⟩ : ∃ bc : St, bc = { h := (ke h [p]).set depth p (some (.map (es ++ [(key, br d.o d.L x)]))), nx := ji ds st0.nx ds.length, rl := [p], wl := [p] } := ⟨_, rfl⟩
  have hrun : fj P T d.o (br d.o d.L) { h := ke h [p], nx := ji ds st0.nx ds.length, rl := [], wl := [] } = some (.sc undef, bc) := by
    have h6 : Bm P d.o (br d.o d.L) { h := ke h [p], nx := ji ds st0.nx ds.length, rl := [], wl := [] } = some (.sc undef, bc) := by
      unfold Bm
      rw [hop]
      simp only [n7, hu, hm, hkey, M.bind, cr, hgp, s8, hck, hfind, hst, cond_true, i7, M.pure, hst1]
      rw [show Nat.ble p bw = true from Nat.ble_eq_true_of_le hlim]
      rfl
    have h7 : fj P T d.o (br d.o d.L) = mono (Bm P d.o (br d.o d.L)) := by unfold fj; rw [hop]
    rw [h7, mono, h6]
    simp only
    rw [hst1]
    simp only
    rw [show Nat.ble (ji ds st0.nx ds.length) (ji ds st0.nx ds.length) = true from Nat.ble_eq_true_of_le (Nat.le_refl _)]
    rfl
  unfold wpOpIn
  rw [ho]
  dsimp only
  rw [if_pos (by simp [Region.wanted, hgd])]
  refine D7 hT (h2.part hsub) (fun o q1 q2 => by rw [hst1] at q2; exact absurd (Nat.lt_of_le_of_lt q1 q2) (Nat.lt_irrefl _)) (fun o x hx => ?_) hrel hrun ro N _ _ ?_
  · have hx' : (ke h [p]).get o = some x := hx
    rw [hmask] at hx'
    by_cases e : o = p
    · subst e; exact hplt
    · rw [if_neg e] at hx'; cases hx'
  rintro u w' ⟨g', q1, q2, q3⟩
  have hget1 : ∀ o, bc.h.get o = if o = p then some (.map (es ++ [(key, br d.o d.L x)])) else none := fun o => by
    rw [hst1]
    simp only
    rw [en _ _ _ _ hlim, hmask]
    by_cases e : o = p
    · rw [if_pos e, if_pos e]
    · rw [if_neg e, if_neg e, if_neg e]
  have hfs := Tm (h' := pc bc.h [p] h) (S := fun o => o ∈ [p]) h2 hsub (fun o x hx => by
    rw [hmask] at hx
    by_cases e : o = p
    · rw [e]; exact List.mem_singleton.2 rfl
    · rw [if_neg e] at hx; cases hx) q1 q2 (fun o hS => by rw [og _ _ _ _ hp, if_pos hS]) (fun o hS => by rw [og _ _ _ _ hp, if_neg hS]) (fun o e1 e2 => by rw [hst1] at e2; exact absurd (Nat.lt_of_le_of_lt e1 e2) (Nat.lt_irrefl _))
  have hH : ∀ o, ((pc bc.h [p] h).set depth p (some (.map es'))).get o = H (kp D i) o := fun o => by
    rw [en _ _ _ _ hlim]
    by_cases e : o = p
    · rw [if_pos e, e, hes']
    · rw [if_neg e, og _ _ _ _ hp, if_neg (by simpa using e), h1, hoth o e]
  have hcov : ∀ o y, ((pc bc.h [p] h).set depth p (some (.map es'))).get o = some y → ∃ z, (pc bc.h [p] h).get o = some z ∧ Ae y z := fun o y hy => by
    rw [en _ _ _ _ hlim] at hy
    by_cases e : o = p
    · rw [if_pos e] at hy
      cases hy
      refine ⟨_, ?_, hsame⟩
      rw [og _ _ _ _ hp, if_pos (by simpa using e), hget1, if_pos e]
    · rw [if_neg e] at hy
      exact ⟨y, hy, .rfl _⟩
  have hnx1 : bc.nx = ji ds st0.nx ds.length := by rw [hst1]
  refine hK _ _ ⟨⟨g', _, hH, hfs.2.Zb hcov, (h3.both ((by have := hfs.1; rw [hnx1] at this; exact this.Yh (lr mono1 ds.length 0 (Nat.zero_le _)) (Nat.le_refl _)))).Zb hcov, fun t => ?_, fun k e hk hkD o o1 o2 => ?_⟩, by rw [O0]; exact A.size, by rw [put_defers]; exact A.defers, hcl⟩
  · rw [Px hi (fun q => by rw [hdst] at q; cases q), if_neg (fun q => by have := q.1; rw [hdst] at this; cases this), hdst]
    exact (h4 t).ext q1.ext
  · have hki : k ≠ i := fun q => by subst q; simp [kp] at hkD
    simp only [kp, if_neg hki] at hkD
    exact q1.fresh o (h5 k e hk hkD o o1 o2) (fun q => by have := q.2; rw [hnx1] at this; exact absurd (Nat.lt_of_le_of_lt q.1 this) (Nat.lt_irrefl _))
theorem W2 {P : Program} {T : dr} (hm : P.follows .mixedOrders = true) {H : (Nat → Bool) → Nat → Option ba} {ops : Array Oper} {ro : Option Nat} {N : Nat} {B : fv} {nt id : Nat} {Q : Exit → Act → World → Prop} {ds : List DS} {L : SL} {st : St} {L' : SL} {st' stF : St} (R : tm P T ops ds L st L' st')
    {g : Gh} {w : World} {a : Act} (h0 : ∀ o, H (fun _ => false) o = st.h.get o) (hF : ∀ D, (∀ i, i < ds.length → D i = true) → ∀ o, H D o = stF.h.get o) (hnF : stF.nx = st'.nx)
    (hstep : ∀ (w0 : World) (D : Nat → Bool) (a' : Act) (w' : World) (i : Nat) (d : DS) (Q : Exit → Act → World → Prop) (K : Act → World → Prop), ds[i]? = some d → D i = false → (∀ e ∈ d.o.after, Region.binds .any e = true → D e.on = true) → At H ops ds L g st w0 a.defers nt (ji ds st.nx ds.length) D a' w' → (∀ a'' w'', At H ops ds L g st w0 a.defers nt (ji ds st.nx ds.length) (kp D i) a'' w'' → K a'' w'') → wpOpIn (fw ro) N P ops Q i K a' w')
    (hnear : B.ve st.nx st'.nx) (hc : fk B g st w) (hr : dt g w nt L a.tmps) (hd : Marks B.n0 st.h g w a.defers)
    (hK : ∀ g w a', fk B g stF w → dt g w nt L' a'.tmps → Marks B.n0 stF.h g w a'.defers → a'.defers = a.defers → Q .normal a' w) :
    (Code.region id ops true).wpIn (fw ro) N P Q a w := by
  have c1 := R.vj
  obtain ⟨c2, c3, c4⟩ := R.fin
  have hc1 := hc.drawn
  have hd' : Marks B.n0 st.h g { w with drawn := w.drawn + 1 } a.defers := hd
  have mono1 : ∀ i d, ds[i]? = some d → d.st.nx = ji ds st.nx i ∧ d.st.nx ≤ d.bc.nx := fun i d hd => ⟨(c1 i d hd).2.2.1, (c1 i d hd).2.2.2⟩
  refine wpIn_region_any hm (al2 (H := H) (L0 := L) (g0 := g) (st0 := st) (w0 := { w with drawn := w.drawn + 1 }) (df := a.defers) R (fun D a w i d Q K hi hD hr A hK => hstep _ D a w i d Q K hi hD hr A hK) ?_ ops.size _ a _ (by simp) ?_ ?_)
  · intro D a' w' hall A
    obtain ⟨g', h', q1, q2, q3, q4, q5⟩ := A.mem
    have hh : ∀ o, h'.get o = stF.h.get o := fun o => by rw [q1 o, hF D hall o]
    have hle : st.nx ≤ st'.nx := by rw [c4]; exact lr mono1 ds.length 0 (Nat.zero_le _)
    refine hK g' w' a' (hc1.step (st' := stF) (by rw [hnF]; exact hnear) ⟨by rw [hnF]; exact hle, ?_⟩ (q2.congr hh)) ⟨A.size, fun t => ?_⟩ (by rw [A.defers]; exact Marks.congr (Marks.step q3 hd') hh) A.defers
    · rw [hnF, c4]; exact q3.congr hh
    · rw [c2 t, ← Pm _ hall]; exact q4 t
  · exact Uw _ _
  · have hf : (fun k => (Array.replicate ops.size false).getD k false) = fun _ => false := by
      funext k
      simp only [Array.getD_eq_getD_getElem?, Array.getElem?_replicate]
      split <;> rfl
    rw [hf]
    exact ⟨⟨g, st.h, fun o => (h0 o).symm, hc1.ok, .refl _ _ _ _ _, fun t => by
        rw [Jx]; exact (hr.2 t).ext (Ext.same (w := w) (w' := { w with drawn := w.drawn + 1 }) rfl), fun i d hd _ o h1 h9 => hc.fresh o (by
        have := lr mono1 i 0 (Nat.zero_le _)
        rw [(c1 i d hd).2.2.1] at h1
        exact Nat.le_trans this h1) (hnear o (by
        have := lr mono1 i 0 (Nat.zero_le _)
        rw [(c1 i d hd).2.2.1] at h1
        exact Nat.le_trans this h1) (by
        rw [c4]
        have h10 := lr mono1 ds.length (i + 1) (List.getElem?_eq_some_iff.1 hd).1
        rw [ji.eq_2, hd] at h10
        exact Nat.lt_of_lt_of_le h9 h10))⟩, hr.1, rfl, fun i k hik => by cases hik⟩
theorem Dz {ds : List DS} {h0 : Tr ba} {D : Nat → Bool} {p : Nat} : ∀ m, (∀ k e, k < m → ds[k]? = some e → D k = true → p ∉ e.W) → jv ds h0 D m p = h0.get p
  | 0, _ => rfl
  | m + 1, h => by
    have ih := Dz (h0 := h0) (D := D) (p := p) m (fun k e hk => h k e (by omega))
    rw [jv]
    cases hd : ds[m]? with
    | none => exact ih
    | some d =>
      simp only
      rw [if_neg (fun q => h m d (by omega) hd q.1 q.2), ih]
theorem Wo {ds : List DS} {h0 : Tr ba} {D : Nat → Bool} {p k0 : Nat} {d : DS} (hd : ds[k0]? = some d) (hW : p ∈ d.W) (hD : D k0 = true) (ho : ∀ k e, ds[k]? = some e → k ≠ k0 → p ∉ e.W) : ∀ m, k0 < m → jv ds h0 D m p = d.bc.h.get p
  | 0, h => by omega
  | m + 1, h => by
    rw [jv]
    by_cases e : m = k0
    · subst e
      rw [hd]
      simp only
      rw [if_pos ⟨hD, hW⟩]
    · have ih := Wo (h0 := h0) hd hW hD ho m (by omega)
      cases hm : ds[m]? with
      | none => exact ih
      | some f =>
        simp only
        rw [if_neg (fun q => ho m f hm e q.2), ih]
def Kh (ds : List DS) (h0 : Tr ba) (p k0 : Nat) (lits : List Lit) (D : Nat → Bool) (o : Nat) : Option ba := if o = p then (if D k0 = true then some (.map (pq lits D)) else h0.get p) else jv ds h0 D ds.length o
structure avf (P : Program) (ops : Array Oper) (ds : List DS) (p k0 : Nat) (q : Lit) : Prop where
  vj : ∃ d, ds[q.i]? = some d ∧ ∃ t m k x kt et, d.o.op = .insert t m k x ∧ d.o.dst = none ∧ d.o.guard = none ∧ P.underlying t = some (.map kt et) ∧ P.underlying kt = some q.d ∧ br d.o d.L m = .mp p ∧ (br d.o d.L k).ff = some q.e.1 ∧ ev P (Instr.checkKey false 10000 kt q.e.1) = some () ∧ br d.o d.L x = q.e.2
  bef : ((Region.before ops).getD q.i 0).testBit k0 = true
theorem akl {P : Program} {T : dr} (hT : nw P T) (hm : P.follows .mixedOrders = true) {ops : Array Oper} {ro : Option Nat} {N : Nat} {B : fv} {nt id : Nat} {Q : Exit → Act → World → Prop} (hg : o8 nt ops = true) (hdst : uz nt ops = true) {ds : List DS} {L : SL} {st : St} {L' : SL} {st' stF : St} (R : tm P T ops ds L st L' st') (C : Calm ops ds)
    (hgY : ∀ d ∈ ds, vq ops d.L d.o = some d.want) {p k0 : Nat} {lits : List Lit} (hl : Z8 lits) (hat : ∀ q ∈ lits, avf P ops ds p k0 q) (hall : ∀ i d, ds[i]? = some d → ub d.o = true → ∃ q ∈ lits, q.i = i) {d0 : DS} (hk0 : ds[k0]? = some d0) (hk0' : ub d0.o = false) (hno : ∀ k e, ds[k]? = some e → k ≠ k0 → p ∉ e.R ∧ p ∉ e.W)
    (hp : st'.h.get p = some (.map [])) (hplt : p < st'.nx) (hlim : p ≤ bw) (hF : ∀ o, stF.h.get o = if o = p then some (.map (lits.map (·.e))) else st'.h.get o) (hnF : stF.nx = st'.nx)
    {g : Gh} {w : World} {a : Act} (hnear : B.ve st.nx st'.nx) (hc : fk B g st w) (hr : dt g w nt L a.tmps) (hd : Marks B.n0 st.h g w a.defers)
    (hK : ∀ g w a', fk B g stF w → dt g w nt L' a'.tmps → Marks B.n0 stF.h g w a'.defers → a'.defers = a.defers → Q .normal a' w) :
    (Code.region id ops true).wpIn (fw ro) N P Q a w := by
  have hlt0 : k0 < ds.length := (List.getElem?_eq_some_iff.1 hk0).1
  have hlen : ∀ q ∈ lits, q.i < ds.length := fun q hq => by
    obtain ⟨d, h1, _⟩ := (hat q hq).vj
    exact (List.getElem?_eq_some_iff.1 h1).1
  have hne0 : ∀ q ∈ lits, q.i ≠ k0 := fun q hq e => by
    obtain ⟨d, h1, t, m, k, x, kt, et, h2, _⟩ := (hat q hq).vj
    rw [e, hk0] at h1
    cases h1
    unfold ub at hk0'
    rw [h2] at hk0'
    cases hk0'
  have hfin : jv ds st.h (fun _ => true) ds.length p = some (.map []) := by rw [← R.fin.2.1 p, hp]
  have hW0 : p ∈ d0.W → d0.bc.h.get p = some (.map []) := fun hW => by
    rw [← Wo (h0 := st.h) (D := fun _ => true) hk0 hW rfl (fun k e hk hne => (hno k e hk hne).2) ds.length hlt0]; exact hfin
  have hN0 : p ∉ d0.W → st.h.get p = some (.map []) := fun hW => by
    rw [← Dz (h0 := st.h) (D := fun _ => true) (p := p) ds.length (fun k e _ hk _ => by
      by_cases h : k = k0
      · rw [h, hk0] at hk; cases hk; exact hW
      · exact (hno k e hk h).2)]
    exact hfin
  have hnx : st'.nx = ji ds st.nx ds.length := R.fin.2.2
  refine W2 hm (H := Kh ds st.h p k0 lits) (stF := stF) R (fun o => ?_) (fun D hD o => ?_) hnF (fun w0 D a' w' i d Q K hi hD hrd A hK => ?_) hnear hc hr hd hK
  · unfold Kh
    by_cases e : o = p
    · rw [if_pos e, if_neg (by simp), e]
    · rw [if_neg e, El]
  · unfold Kh
    rw [hF]
    by_cases e : o = p
    · rw [if_pos e, if_pos e, if_pos (hD k0 hlt0), ao3 (fun q hq => hD _ (hlen q hq))]
    · rw [if_neg e, if_neg e, Hg _ hD, ← R.fin.2.1 o]
  · have hbef := vz A.closed (R.get hi) hrd
    have hmem := List.mem_of_getElem? hi
    have hgv := hgY d hmem
    have hcalm := C9 R C hi hD A.closed hrd
    cases hins : ub d.o with
    | false =>
      have hgv' : x0 ops d.L d.o = some d.want := by unfold vq at hgv; rw [hins] at hgv; exact hgv
      have hnl : ∀ q ∈ lits, q.i ≠ i := fun q hq e => by
        obtain ⟨d', h1, t, m, k, x, kt, et, h2, _⟩ := (hat q hq).vj
        rw [e, hi] at h1
        cases h1
        unfold ub at hins
        rw [h2] at hins
        cases hins
      refine At.step hT R hg hdst hi hgv' (fun o ho => ?_) (fun o => ?_) hD hrd A hK
      · unfold Kh
        by_cases e : o = p
        · subst e
          by_cases hik : i = k0
          · subst hik
            rw [if_pos rfl, if_neg (by rw [hD]; simp)]
            rw [(R.vj i d hi).2.1 o, Dz i (fun k e hk he _ => (hno k e he (by omega)).2)]
          · exact ((hno i d hi hik).1 ho).elim
        · rw [if_neg e]; exact hcalm.1 o ho
      · unfold Kh
        by_cases e : o = p
        · subst e
          rw [if_pos rfl, if_pos rfl]
          by_cases hik : i = k0
          · subst hik
            rw [hk0] at hi
            cases hi
            have hen : pq lits (kp D i) = [] := akr (fun q hq => by
              have hne := hne0 q hq
              simp only [kp, if_neg hne]
              cases hDq : D q.i with
              | false => rfl
              | true => have := A.closed q.i i hDq (hat q hq).bef; rw [hD] at this; cases this)
            rw [if_pos (show kp D i i = true from by simp [kp]), hen]
            by_cases hW : o ∈ d0.W
            · rw [if_pos hW, hW0 hW]
            · rw [if_neg hW, if_neg (by rw [hD]; simp), hN0 hW]
          · rw [if_neg (hno i d hi hik).2, ahx hnl]
            simp only [kp, if_neg (Ne.symm hik)]
        · rw [if_neg e, if_neg e]; exact hcalm.2 o
    | true =>
      obtain ⟨q, hq, rfl⟩ := hall i d hi hins
      obtain ⟨d', h1, t, m, k, x, kt, et, h2, h3, h4, h5, h6, h7, h8, h9, h10⟩ := (hat q hq).vj
      rw [hi] at h1
      cases h1
      have hDk : D k0 = true := hbef k0 (hat q hq).bef
      have hne := hne0 q hq
      have hothers : ∀ e ∈ pq lits D, ∃ r ∈ lits, r.i ≠ q.i ∧ r.e = e := fun e he => by
        obtain ⟨r, r1, r2, r3⟩ := aay he
        exact ⟨r, r1, (fun e => by rw [e, hD] at r2; cases r2), r3⟩
      have hperm := anw hl.idx hq hD
      have hW : d.W = [] := by
        have : d.want = false := by
          unfold vq at hgv
          rw [hins] at hgv
          simpa using hgv.symm
        exact ((R.ok d hmem).skip this).2.2.2
      refine At.ins hT R hi hD hrd A h2 h3 h4 h5 h7 h8 h9 (es := pq lits D) (es' := pq lits (kp D q.i)) ?_ hlim (by rw [← hnx]; exact hplt) (ah0 h6 (fun e he => ?_)) ?_ ?_ ?_ (fun o e => ?_) hK
      · unfold Kh; rw [if_pos rfl, if_pos hDk]
      · obtain ⟨r, r1, r2, rfl⟩ := hothers e he
        exact (hl.apart q hq r r1 (Ne.symm r2)).2
      · have hqe : (q.e.1, br d.o d.L x) = q.e := by rw [h10]
        rw [hqe]
        unfold stays
        cases hlo : loose (pq lits D) with
        | false => rfl
        | true =>
          have : loose (pq lits D ++ [q.e]) = true := by
            unfold loose at hlo ⊢
            simp only [Bool.and_eq_true] at hlo ⊢
            refine ⟨Nat.ble_eq_true_of_le (by have := Nat.le_of_ble_eq_true hlo.1; rw [List.length_append]; omega), ?_⟩
            have key : ∀ l : List (Value × AV), qt l = true → (∀ e ∈ l, nv e.1 q.e.1 = true) → qt (l ++ [q.e]) = true := by
              intro l
              induction l with
              | nil => intro _ _; rfl
              | cons b l ih =>
                intro h1 h2
                simp only [qt, List.cons_append, Bool.and_eq_true, List.all_eq_true] at h1 ⊢
                refine ⟨fun y hy => ?_, ih h1.2 (fun e he => h2 e (by simp [he]))⟩
                rcases List.mem_append.1 hy with hy | hy
                · exact h1.1 y hy
                · rw [List.mem_singleton] at hy; rw [hy]; exact h2 b (by simp)
            refine key _ hlo.2 (fun e he => ?_)
            obtain ⟨r, r1, r2, rfl⟩ := hothers e he
            exact (hl.apart r r1 q hq r2).1
          rw [this]; rfl
      · unfold Kh; rw [if_pos rfl, if_pos (by simp [kp, hDk])]
      · have hqe : (q.e.1, br d.o d.L x) = q.e := by rw [h10]
        rw [hqe]
        by_cases h2 : 2 ≤ (pq lits (kp D q.i)).length
        · refine .perm _ _ hperm ?_
          unfold loose
          rw [Nat.ble_eq_true_of_le h2, M5 hl]
          rfl
        · have h3 : (pq lits D).length = 0 := by have := hperm.length_eq; rw [List.length_append] at this; simp at this; omega
          have h4 : pq lits D = [] := List.eq_nil_of_length_eq_zero h3
          rw [h4] at hperm ⊢
          rw [List.nil_append] at hperm ⊢
          rw [List.perm_singleton.1 hperm]
          exact .rfl _
      · unfold Kh
        rw [if_neg e, if_neg e, hcalm.2 o, hW, if_neg (by simp)]
end
end Go.Vm
namespace Go.Vm
noncomputable section
abbrev ec := Nat → Option (Bool × (List AV → M AV))
def Ho : Nat := 10000
def P7 (look : ec) (f : Nat) (args : List AV) : M AV :=
  bif Nat.blt f Ho then
    match look f with
    | some p => mono (p.2 args)
    | none => .fail
  else .fail
def Cn (look : ec) (g : Fn) (args : List AV) : M AV :=
  match g with
  | .func g => P7 look g args
  | _ => .fail
def Km (look : ec) (f : AV) (args : List AV) : M AV :=
  match f with
  | .fn g first captured => Cn look g (first ++ args ++ captured)
  | .sc x =>
    match x with
    | .func g first captured => Cn look g (first.toList.map .sc ++ args ++ captured.toList.map .sc)
    | _ => .fail
  | _ => .fail
def E5 (P : Program) (look : ec) (o : Oper) (ρ : Operand → AV) : M AV :=
  match o.op with
  | .call { callee := .value f, args, .. } => Km look (ρ f) (args.toList.map ρ)
  | _ => mono (Bm P o ρ)
def ay {α : Type} (m : M α) : Prop := ∀ st a bc, m st = some (a, bc) → st.nx ≤ bc.nx
theorem ay.pure {α : Type} (a : α) : ay (M.pure a) := fun st _ bc h => by cases h; exact Nat.le_refl _
theorem ay.fail {α : Type} : ay (M.fail : M α) := fun st _ bc h => by cases h
theorem ay.of {α : Type} (a : Option α) : ay (M.of a) := by cases a; exact ay.fail; exact ay.pure _
theorem ay.cond {α : Type} {b : Bool} {x y : M α} (hx : ay x) (hy : ay y) : ay (bif b then x else y) := by cases b <;> assumption
theorem ay.bind {α β : Type} {m : M α} {f : α → M β} (hm : ay m) (hf : ∀ x, ay (f x)) : ay (m.bind f) := fun st b st2 h => by
  obtain ⟨x, s1, h1, h2⟩ := bind_some h
  exact Nat.le_trans (hm _ _ _ h1) (hf x _ _ _ h2)
theorem ay.cr (id : Nat) : ay (Vm.cr id) := fun st a bc h => by
  unfold Vm.cr at h
  split at h
  · cases h; exact Nat.le_refl _
  · cases h
theorem ay.i7 (id : Nat) (x : ba) : ay (Vm.i7 id x) := fun st a bc h => by
  unfold Vm.i7 at h
  split at h
  · cases hb : Nat.ble id bw with
    | true => rw [hb] at h; cases h; exact Nat.le_refl _
    | false => rw [hb] at h; cases h
  · cases h
theorem ay.vg (id : Nat) : ay (Vm.vg id) := fun st a bc h => by
  unfold Vm.vg at h
  split at h
  · cases hb : Nat.ble id bw with
    | true => rw [hb] at h; cases h; exact Nat.le_refl _
    | false => rw [hb] at h; cases h
  · cases h
theorem ay.iq (x : ba) : ay (Vm.iq x) := fun st a bc h => by
  unfold Vm.iq at h
  cases hb : Nat.ble st.nx bw with
  | true => rw [hb] at h; cases h; exact Nat.le_succ _
  | false => rw [hb] at h; cases h
theorem ay.mono {α : Type} {m : M α} (h : ay m) : Vm.mono m = m := by
  funext st
  unfold Vm.mono
  cases hm : m st with
  | none => rfl
  | some p =>
    obtain ⟨a, bc⟩ := p
    simp only
    rw [show Nat.ble st.nx bc.nx = true from Nat.ble_eq_true_of_le (h st a bc hm)]
    rfl
theorem ay.cellsIn (sz : Nat) (v : AV) : ay (Vm.cellsIn sz v) := by
  unfold Vm.cellsIn xq
  repeat' (first | exact ay.pure _ | exact ay.fail | exact ay.cr _ | apply ay.cond | (refine ay.bind ?_ fun x => ?_) | split)
theorem ay.zf {P : Program} {ρ : Operand → AV} {o : Oper} {l : List Operand} : ay (g7 P ρ o l) := by unfold g7; exact ay.cond (ay.of _) ay.fail
theorem ay.bx {t : TypeId} {x : AV} : ay (xj t x) := by
  unfold xj
  repeat' (first | exact ay.pure _ | exact ay.fail | exact ay.iq _ | apply ay.cond | (refine ay.bind ?_ fun x => ?_) | split)
theorem ak6 {P : Program} {o : Oper} {ρ : Operand → AV} : ay (Bm P o ρ) := by
  unfold Bm
  cases ho : o.op with
  | move x => exact ay.pure _
  | assign x => exact ay.pure _
  | load t a =>
    show ay (jj P t (ρ a))
    unfold jj As
    repeat' (first | exact ay.pure _ | exact ay.fail | exact ay.of _ | exact ay.cr _ | (refine ay.bind ?_ fun x => ?_) | split)
  | fieldAddr s x f =>
    show ay (kq P s (ρ x) f)
    unfold kq
    repeat' (first | exact ay.pure _ | exact ay.fail | exact ay.of _ | apply ay.cond | split)
  | binOp op t x y u =>
    show ay (xl P ρ o op t x y)
    have he : ∀ a b, ay (lz P ρ o op t a b) := fun a b => by
      unfold lz Fb Rq Cm Yf Yb Rv Lp od
      repeat' (first | exact ay.pure _ | exact ay.fail | exact ay.of _ | exact ay.cr _ | apply ay.cond | (refine ay.bind ?_ fun x => ?_) | split)
    unfold xl C2 K0
    repeat' (first | exact he _ _ | exact ay.pure _ | exact ay.fail | exact ay.of _ | apply ay.cond | split)
  | pick c a b =>
    show ay (uu (ρ c) (ρ a) (ρ b))
    unfold uu
    repeat' (first | exact ay.pure _ | exact ay.fail | split)
  | store t a x =>
    show ay (oz P t (ρ a) (ρ x))
    unfold oz xw
    repeat' (first | exact ay.pure _ | exact ay.fail | exact ay.cr _ | exact ay.i7 _ _ | apply ay.cond | (refine ay.bind ?_ fun x => ?_) | split)
  | mapUpdate t m k x =>
    show ay (n7 P t (ρ m) (ρ k) (ρ x))
    unfold n7 s8
    repeat' (first | exact ay.pure _ | exact ay.fail | exact ay.cr _ | exact ay.i7 _ _ | apply ay.cond | (refine ay.bind ?_ fun x => ?_) | split)
  | insert t m k x =>
    show ay (n7 P t (ρ m) (ρ k) (ρ x))
    unfold n7 s8
    repeat' (first | exact ay.pure _ | exact ay.fail | exact ay.cr _ | exact ay.i7 _ _ | apply ay.cond | (refine ay.bind ?_ fun x => ?_) | split)
  | extract t ix =>
    show ay (nm (ρ t) ix)
    unfold nm
    repeat' (first | exact ay.pure _ | exact ay.fail | exact ay.of _ | split)
  | indexAddr t x ix =>
    show ay (kr P t (ρ x) (ρ ix))
    unfold kr vc
    repeat' (first | exact ay.pure _ | exact ay.fail | exact ay.of _ | apply ay.cond | split)
  | nilCheck x =>
    show ay (j9 (ρ x))
    unfold j9
    repeat' (first | exact ay.pure _ | exact ay.fail | split)
  | alloc t =>
    show ay (ri P t)
    unfold ri
    split
    · exact ay.fail
    · exact ay.bx
  | box t x => exact ay.bx
  | build t ps =>
    show ay (qg P t _)
    unfold qg
    repeat' (first | exact ay.pure _ | exact ay.fail | exact ay.of _ | split)
  | buildSlice t len ps =>
    show ay (jk P t len _)
    unfold jk lg
    repeat' (first | exact ay.iq _ | exact ay.pure _ | exact ay.fail | exact ay.of _ | apply ay.cond | (refine ay.bind ?_ fun x => ?_) | split)
  | makeSlice t l c =>
    show ay (qc P t (ρ l) (ρ c))
    unfold qc lg
    repeat' (first | exact ay.iq _ | exact ay.pure _ | exact ay.fail | exact ay.of _ | apply ay.cond | (refine ay.bind ?_ fun x => ?_) | split)
  | makeMap t r =>
    show ay (vx r)
    unfold vx
    repeat' (first | exact ay.iq _ | exact ay.pure _ | exact ay.fail | (refine ay.bind ?_ fun x => ?_) | split)
  | makeFunc f a b => exact ay.pure _
  | convert src dst x =>
    show ay (ov P ρ o src dst (ρ x))
    have he : ay (sh P ρ o (ρ x)) := by unfold sh; split; exact ay.of _; exact ay.fail
    unfold ov ot
    repeat' (first | exact he | exact ay.fail | split)
    · unfold Dy; repeat' (first | exact ay.iq _ | exact ay.pure _ | exact ay.fail | apply ay.cond | (refine ay.bind ?_ fun x => ?_) | split)
    · unfold Gf An; repeat' (first | exact ay.cellsIn _ _ | exact ay.pure _ | exact ay.fail | apply ay.cond | (refine ay.bind ?_ fun x => ?_) | split)
    · unfold K5 Ic; repeat' (first | exact ay.cr _ | exact ay.pure _ | exact ay.fail | apply ay.cond | (refine ay.bind ?_ fun x => ?_) | split)
    · unfold Kl Ht; repeat' (first | exact ay.cr _ | exact ay.pure _ | exact ay.fail | apply ay.cond | (refine ay.bind ?_ fun x => ?_) | split)
    · unfold Cl; repeat' (first | exact ay.pure _ | exact ay.fail | split)
  | makeInterface t x =>
    show ay (lq P t (ρ x))
    unfold lq
    repeat' (first | exact ay.pure _ | exact ay.fail | split)
  | field s x f =>
    show ay (sr P s (ρ x) f)
    unfold sr
    repeat' (first | exact ay.pure _ | exact ay.fail | exact ay.of _ | split)
  | index t x ix =>
    show ay (sw P ρ o t x ix)
    unfold sw
    repeat' (first | exact ay.zf | exact ay.pure _ | exact ay.fail | exact ay.of _ | apply ay.cond | split)
  | slice t x lo hi mx =>
    show ay (qx P ρ o t x lo hi mx)
    unfold qx Oz
    repeat' (first | exact ay.zf | exact ay.cr _ | exact ay.pure _ | exact ay.fail | exact ay.of _ | apply ay.cond | (refine ay.bind ?_ fun x => ?_) | split)
  | lookup t x ix ok =>
    show ay (vv P t (ρ x) (ρ ix) ok)
    unfold vv Bk found
    repeat' (first | exact ay.cr _ | exact ay.pure _ | exact ay.fail | exact ay.of _ | apply ay.cond | (refine ay.bind ?_ fun x => ?_) | split)
  | typeAssert x t a ok =>
    show ay (ou P ρ o (ρ x) a ok)
    unfold ou
    repeat' (first | exact ay.pure _ | exact ay.fail | exact ay.of _ | apply ay.cond | split)
  | unOp op t x => exact ay.zf
  | call c =>
    obtain ⟨callee, args, ts⟩ := c
    cases callee with
    | value f => exact ay.fail
    | invoke r m => exact ay.fail
    | builtin b =>
      show ay (tf P ρ o b args.toList ts)
      unfold tf
      split <;> first | exact ay.fail | exact ay.zf | skip
      · unfold ru aca
        repeat' (first | exact ay.cr _ | exact ay.pure _ | exact ay.fail | (refine ay.bind ?_ fun x => ?_) | split)
      · have ha : ∀ e sz bytes s new, ay (oa e sz bytes s new) := fun e sz bytes s new => by
          unfold oa yj lg
          repeat' (first | exact ay.cr _ | exact ay.iq _ | exact ay.vg _ | exact ay.pure _ | exact ay.fail | apply ay.cond | (refine ay.bind ?_ fun x => ?_) | split)
        unfold ng
        repeat' (first | exact ha _ _ _ _ _ | exact ay.cellsIn _ _ | exact ay.pure _ | exact ay.fail | apply ay.cond | (refine ay.bind ?_ fun x => ?_) | split)
      · unfold Gt L9
        repeat' (first | exact ay.cr _ | exact ay.i7 _ _ | exact ay.cellsIn _ _ | exact ay.pure _ | exact ay.fail | apply ay.cond | (refine ay.bind ?_ fun x => ?_) | split)
      · unfold z6 Bf
        repeat' (first | exact ay.cr _ | exact ay.i7 _ _ | exact ay.pure _ | exact ay.fail | apply ay.cond | (refine ay.bind ?_ fun x => ?_) | split)
      · unfold A4
        repeat' (first | exact ay.pure _ | exact ay.fail | split)
      · unfold u5
        repeat' (first | exact ay.pure _ | exact ay.fail | apply ay.cond | split)
      · unfold qf J6
        repeat' (first | exact ay.cr _ | exact ay.i7 _ _ | exact ay.pure _ | exact ay.fail | apply ay.cond | (refine ay.bind ?_ fun x => ?_) | split)
  | _ => exact ay.fail
structure XA where
  run : ec → (Operand → AV) → M AV
def avi (P : Program) (o : Oper) (op : BinOp) (t : TypeId) (x y : Operand) : XA := ⟨fun _ ρ => xl P ρ o op t x y⟩
def aqa (P : Program) (o : Oper) (b : Builtin) (args : List Operand) (ts : Array TypeId) : XA :=
  match b, args with
  | .len, [x] => ⟨fun _ ρ => (ru ((ts[0]?).bind P.underlying) (ρ x))⟩
  | .append, [s, x] => ⟨fun _ ρ => (ng P ts[0]? ((ts[1]?).bind P.underlying) (ρ s) (ρ x))⟩
  | .copy, [d, x] => ⟨fun _ ρ => (Gt P ts[0]? (ρ d) (ρ x))⟩
  | .delete, [m, k] => ⟨fun _ ρ => (z6 P ((ts[0]?).bind P.underlying) (ρ m) (ρ k))⟩
  | .cap, [x] => ⟨fun _ ρ => (A4 ((ts[0]?).bind P.underlying) (ρ x))⟩
  | .unsafeSliceData, [x] => ⟨fun _ ρ => (u5 (ρ x))⟩
  | .unsafeString, [x, y] => ⟨fun _ ρ => (qf P ts[0]? (ρ x) (ρ y))⟩
  | .min, l => ⟨fun _ ρ => (g7 P ρ o l)⟩
  | .max, l => ⟨fun _ ρ => (g7 P ρ o l)⟩
  | _, _ => ⟨fun _ _ => .fail⟩
def lu (P : Program) (o : Oper) : XA :=
  match o.op with
  | .move x => ⟨fun _ ρ => (.pure (ρ x))⟩
  | .assign x => ⟨fun _ ρ => (.pure (ρ x))⟩
  | .load t a => ⟨fun _ ρ => (jj P t (ρ a))⟩
  | .fieldAddr s x f => ⟨fun _ ρ => (kq P s (ρ x) f)⟩
  | .binOp op t x y _ => avi P o op t x y
  | .pick c a b => ⟨fun _ ρ => (uu (ρ c) (ρ a) (ρ b))⟩
  | .store t a x => ⟨fun _ ρ => (oz P t (ρ a) (ρ x))⟩
  | .extract t ix => ⟨fun _ ρ => (nm (ρ t) ix)⟩
  | .call { callee := .value f, args, .. } => ⟨fun look ρ => Km look (ρ f) (args.toList.map ρ)⟩
  | .call { callee := .builtin b, args, argTypes } => aqa P o b args.toList argTypes
  | .indexAddr t x ix => ⟨fun _ ρ => (kr P t (ρ x) (ρ ix))⟩
  | .nilCheck x => ⟨fun _ ρ => (j9 (ρ x))⟩
  | .alloc t => ⟨fun _ _ => (ri P t)⟩
  | .box t x => ⟨fun _ ρ => (xj t (ρ x))⟩
  | .build t parts => ⟨fun _ ρ => (qg P t (parts.toList.map fun p => (p.1, ρ p.2)))⟩
  | .buildSlice t len parts => ⟨fun _ ρ => (jk P t len (parts.toList.map fun p => (p.1, ρ p.2)))⟩
  | .makeSlice t l c => ⟨fun _ ρ => (qc P t (ρ l) (ρ c))⟩
  | .makeMap _ r => ⟨fun _ _ => (vx r)⟩
  | .makeFunc f first captured => ⟨fun _ ρ => (.pure (.fn f (first.toList.map ρ) (captured.toList.map ρ)))⟩
  | .convert src dst x => ⟨fun _ ρ => (ov P ρ o src dst (ρ x))⟩
  | .makeInterface t x => ⟨fun _ ρ => (lq P t (ρ x))⟩
  | .field s x f => ⟨fun _ ρ => (sr P s (ρ x) f)⟩
  | .index t x ix => ⟨fun _ ρ => (sw P ρ o t x ix)⟩
  | .slice t x lo hi mx => ⟨fun _ ρ => (qx P ρ o t x lo hi mx)⟩
  | .lookup t x ix ok => ⟨fun _ ρ => (vv P t (ρ x) (ρ ix) ok)⟩
  | .mapUpdate t m k x | .insert t m k x => ⟨fun _ ρ => (n7 P t (ρ m) (ρ k) (ρ x))⟩
  | .typeAssert x _ asserted ok => ⟨fun _ ρ => (ou P ρ o (ρ x) asserted ok)⟩
  | .unOp _ _ x => ⟨fun _ ρ => (g7 P ρ o [x])⟩
  | _ => ⟨fun _ _ => .fail⟩
theorem Ia (P : Program) (look : ec) (o : Oper) (ρ : Operand → AV) : (lu P o).run look ρ = E5 P look o ρ := by
  have key : ∀ (h : ∀ f args ts, o.op ≠ .call { callee := .value f, args, argTypes := ts }), (lu P o).run look ρ = Bm P o ρ := by
    intro h
    unfold lu Bm
    cases ho : o.op with
    | call c =>
      obtain ⟨callee, args, ts⟩ := c
      cases callee with
      | builtin b =>
        dsimp only
        unfold aqa tf
        generalize args.toList = l
        cases b <;> rcases l with _ | ⟨x, _ | ⟨y, _ | ⟨z, l⟩⟩⟩ <;> rfl
      | value f => exact (h f args ts ho).elim
      | _ => rfl
    | _ => rfl
  unfold E5
  split
  · rename_i f args ts ho
    unfold lu
    rw [ho]
  · rename_i hn
    rw [ak6.mono]
    exact key hn
def L5 (look : ec) : Nat → dr
  | 0 => []
  | n + 1 =>
    match look n with
    | some p => (n, p.1, p.2) :: L5 look n
    | none => L5 look n
theorem H2 (look : ec) (f : Nat) : ∀ n, (L5 look n).find f = if f < n then look f else none
  | 0 => by simp [L5, dr.find]
  | n + 1 => by
    rw [L5]
    cases hl : look n with
    | some p =>
      simp only [dr.find]
      by_cases e : n = f
      · subst e; simp [hl]
      · rw [mu e, cond_false, H2 look f n]
        by_cases h : f < n
        · rw [if_pos h, if_pos (by omega)]
        · rw [if_neg h, if_neg (by omega)]
    | none =>
      simp only
      rw [H2 look f n]
      by_cases h : f < n
      · rw [if_pos h, if_pos (by omega)]
      · rw [if_neg h]
        by_cases e : f = n
        · subst e; rw [if_pos (by omega), hl]
        · rw [if_neg (by omega)]
def su (look : ec) : dr := L5 look Ho
theorem Wd (look : ec) (f : Nat) : (su look).find f = bif Nat.blt f Ho then look f else none := by
  rw [su, H2]
  by_cases h : f < Ho
  · rw [if_pos h, show Nat.blt f Ho = true from by simpa using h]; rfl
  · rw [if_neg h, show Nat.blt f Ho = false from by cases hb : Nat.blt f Ho with | false => rfl | true => exact (h (by simpa using hb)).elim]; rfl
theorem ao8 (look : ec) : P7 look = sm (su look) := by
  funext f args
  unfold P7 sm
  rw [Wd]
  cases Nat.blt f Ho with
  | false => rfl
  | true => cases look f <;> rfl
theorem Pz (P : Program) (look : ec) : E5 P look = fj P (su look) := by
  have h1 : Cn look = Jf (su look) := by funext g args; unfold Cn Jf; rw [ao8]; rfl
  have h2 : Km look = tw (su look) := by funext f args; unfold Km tw; rw [h1]; rfl
  funext o ρ
  unfold E5 fj
  rw [h2]
  rfl
def Dg (P : Program) (look : ec) (ops : Array Oper) (o : Oper) (L : SL) (st : St) : Option (SL × St) :=
  match x0 ops L o with
  | some true =>
    match (lu P o).run look (cf L) st with
    | some (v, st') => some (gp o.dst v L, st')
    | none => none
  | some false => some (gp o.dst (.sc undef) L, st)
  | none => none
structure XO where
  run : ec → SL → St → Option (SL × St)
def aim (P : Program) (o : Oper) (d : Nat) : XO :=
  match o.op with
  | .move x => ⟨fun _ L st => some ((d, cf L x) :: L, st)⟩
  | .assign x => ⟨fun _ L st => some ((d, cf L x) :: L, st)⟩
  | _ => ⟨fun look L st => Option.rec (motive := fun _ => Option (SL × St)) none (fun p => some ((d, p.1) :: L, p.2)) ((lu P o).run look (cf L) st)⟩
def zt (P : Program) (ops : Array Oper) (o : Oper) : XO :=
  match o.guard with
  | none =>
    match o.dst with
    | some d => aim P o d
    | none => ⟨fun look L st => Option.rec (motive := fun _ => Option (SL × St)) none (fun p => some (L, p.2)) ((lu P o).run look (cf L) st)⟩
  | some _ => ⟨fun look L st => Dg P look ops o L st⟩
theorem H4 (P : Program) (look : ec) (ops : Array Oper) (o : Oper) (L : SL) (st : St) : (zt P ops o).run look L st = Dg P look ops o L st := by
  unfold zt
  cases hg : o.guard with
  | some q => rfl
  | none =>
    have hx : Dg P look ops o L st = match (lu P o).run look (cf L) st with
        | some (v, st') => some (gp o.dst v L, st')
        | none => none := by
      unfold Dg x0
      rw [hg]
    rw [hx]
    cases hd : o.dst with
    | none =>
      show Option.rec (motive := fun _ => Option (SL × St)) none (fun p => some (L, p.2)) ((lu P o).run look (cf L) st) = _
      cases (lu P o).run look (cf L) st <;> rfl
    | some d =>
      show (aim P o d).run look L st = _
      unfold aim
      cases ho : o.op with
      | move x => rw [show (lu P o).run look (cf L) st = some (cf L x, st) from by unfold lu; rw [ho]; rfl]; rfl
      | assign x => rw [show (lu P o).run look (cf L) st = some (cf L x, st) from by unfold lu; rw [ho]; rfl]; rfl
      | _ =>
        show Option.rec (motive := fun _ => Option (SL × St)) none (fun p => some ((d, p.1) :: L, p.2)) ((lu P o).run look (cf L) st) = _
        cases (lu P o).run look (cf L) st <;> rfl
theorem Zk {P look ops o L st r} (h : (zt P ops o).run look L st = some r) : Dg P look ops o L st = some r := by rw [← H4]; exact h
def so (P : Program) (ops : Array Oper) (l : List Oper) : XO :=
  List.rec (motive := fun _ => XO) ⟨fun _ L st => some (L, st)⟩ (fun o _ ih => ⟨fun look L st =>
    Option.rec (motive := fun _ => Option (SL × St)) none (fun p => ih.run look p.1 p.2) ((zt P ops o).run look L st)⟩) l
theorem Fm (P : Program) (look : ec) (ops : Array Oper) (o : Oper) (l : List Oper) (L : SL) (st : St) : (so P ops (o :: l)).run look L st = (match (zt P ops o).run look L st with | some p => (so P ops l).run look p.1 p.2 | none => none) := by
  show Option.rec (motive := fun _ => Option (SL × St)) none (fun p => (so P ops l).run look p.1 p.2) ((zt P ops o).run look L st) = _
  cases (zt P ops o).run look L st <;> rfl
theorem ali {P : Program} {look : ec} {ops : Array Oper} {t : Nat} : ∀ (l : List Oper) (L : SL) (st : St) (p : SL × St), (so P ops l).run look L st = some p → (∀ o ∈ l, o.dst ≠ some t) → lk p.1 t = lk L t := by
  intro l
  induction l with
  | nil => intro L st p h _; cases h; rfl
  | cons o l ih =>
    intro L st p h hn
    rw [Fm] at h
    cases h1 : (zt P ops o).run look L st with
    | none => rw [h1] at h; cases h
    | some q =>
      rw [h1] at h
      rw [ih _ _ p h (fun o ho => hn o (by simp [ho]))]
      have h2 := Zk h1
      have hq : ∃ v, q.1 = gp o.dst v L := by
        unfold Dg at h2
        split at h2
        · split at h2
          · cases h2; exact ⟨_, rfl⟩
          · cases h2
        · cases h2; exact ⟨_, rfl⟩
        · cases h2
      obtain ⟨v, hv⟩ := hq
      rw [hv, Tj, if_neg (hn o (by simp))]
def hasB (s t : Nat) : Bool := Nat.beq (Nat.land (Nat.shiftRight s t) 1) 1
def J9 (s t : Nat) : Nat := Nat.lor s (Nat.shiftLeft 1 t)
def po (ks : List Nat) (L L0 : SL) : SL := List.rec (motive := fun _ => SL) L0 (fun t _ ih => (t, lk L t) :: ih) ks
theorem Pw (L L0 : SL) (t : Nat) : ∀ ks, lk (po ks L L0) t = if t ∈ ks then lk L t else lk L0 t
  | [] => by simp [po]
  | k :: ks => by
    show lk ((k, lk L k) :: po ks L L0) t = _
    rw [nl, Pw L L0 t ks]
    by_cases e : k = t
    · subst e; simp
    · rw [if_neg e]
      simp only [List.mem_cons, Ne.symm e, false_or]
def n5 (L : SL) : Nat → SL := List.rec (motive := fun _ => Nat → SL) (fun _ => []) (fun p _ ih s => Bool.rec (motive := fun _ => SL) (p :: ih (J9 s p.1)) (ih s) (hasB s p.1)) L
theorem aj0 (s t u : Nat) : hasB (J9 s t) u = (hasB s u || decide (t = u)) := by
  have key : ∀ s u, hasB s u = s.testBit u := by
    intro s u
    unfold hasB
    rw [Nat.testBit]
    show Nat.beq ((s >>> u) &&& 1) 1 = _
    rw [Nat.and_comm]
    have : 1 &&& (s >>> u) < 2 := Nat.lt_of_le_of_lt Nat.and_le_left (by omega)
    rcases (by omega : 1 &&& (s >>> u) = 0 ∨ 1 &&& (s >>> u) = 1) with h | h <;> rw [h] <;> rfl
  rw [key, key]
  show (s ||| (1 <<< t)).testBit u = _
  rw [Nat.testBit_or, Nat.shiftLeft_eq, Nat.one_mul, Nat.testBit_two_pow]
theorem Jd (t : Nat) : ∀ (L : SL) (s : Nat), lk (n5 L s) t = bif hasB s t then .bad else lk L t
  | [], s => by cases h : hasB s t <;> rfl
  | p :: L, s => by
    obtain ⟨k, v⟩ := p
    show lk (Bool.rec (motive := fun _ => SL) ((k, v) :: n5 L (J9 s k)) (n5 L s) (hasB s k)) t = _
    rw [nl]
    cases hk : hasB s k with
    | true =>
      show lk (n5 L s) t = _
      rw [Jd t L s]
      by_cases e : k = t
      · subst e; rw [hk]; rfl
      · rw [if_neg e]
    | false =>
      show lk ((k, v) :: n5 L (J9 s k)) t = _
      rw [nl, Jd t L, aj0]
      by_cases e : k = t
      · subst e; rw [if_pos rfl, if_pos rfl, hk]; rfl
      · rw [if_neg e, if_neg e, decide_eq_false e, Bool.or_false]
def Tv (L' L : SL) : Prop := ∀ t, lk L' t = lk L t ∨ lk L' t = .bad
theorem dt.less {g w nt L L' tmps} (h : dt g w nt L tmps) (hl : Tv L' L) : dt g w nt L' tmps :=
  ⟨h.1, fun t => by rcases hl t with e | e <;> rw [e]; exact h.2 t; exact .bad _⟩
def mg (ex : Nat) (L : SL) : Prop := ∀ t, hasB ex t = false → lk L t = .bad
def ni (ex : Nat) (ops : Array Oper) : List Nat := (ops.toList.filterMap (·.dst)).filter (hasB ex)
theorem A5 {ex : Nat} {ops : Array Oper} {L L0 : SL} (hw : mg ex L0) (hlk : ∀ t, (∀ o ∈ ops.toList, o.dst ≠ some t) → lk L t = lk L0 t) : Tv (po (ni ex ops) L L0) L ∧ mg ex (po (ni ex ops) L L0) := by
  have hm : ∀ t, t ∈ ni ex ops ↔ (∃ o ∈ ops.toList, o.dst = some t) ∧ hasB ex t = true := by
    intro t; simp [ni, List.mem_filter, List.mem_filterMap]
  refine ⟨fun t => ?_, fun t ht => ?_⟩
  · rw [Pw]
    by_cases h : t ∈ ni ex ops
    · rw [if_pos h]; exact .inl rfl
    · rw [if_neg h]
      cases hx : hasB ex t with
      | false => exact .inr (hw t hx)
      | true =>
        refine .inl (hlk t fun o ho e => h ((hm t).2 ⟨⟨o, ho, e⟩, hx⟩)).symm
  · rw [Pw, if_neg (fun h => by have := ((hm t).1 h).2; rw [ht] at this; cases this)]
    exact hw t ht
def sq {α : Type} (m : M α) : M (α × List Nat × List Nat) := fun st =>
  match m { h := st.h, nx := st.nx, rl := [], wl := [] } with
  | some p => some ((p.1, p.2.rl, p.2.wl), { h := p.2.h, nx := p.2.nx, rl := p.2.rl ++ st.rl, wl := p.2.wl ++ st.wl })
  | none => none
def pz (P : Program) (look : ec) (ops : Array Oper) (l : List Oper) : List Rec → SL → St → Option (List Rec × SL × St) :=
  List.rec (motive := fun _ => List Rec → SL → St → Option (List Rec × SL × St)) (fun recs L st => some (recs, L, st)) (fun o _ ih recs L st =>
    match vq ops L o with
    | some true =>
      match sq ((lu P o).run look (br o L)) st with
      | some p => bif Nat.ble p.2.nx bw then ih (recs ++ [⟨p.1.2.1, p.1.2.2⟩]) (gp o.dst p.1.1 L) p.2 else none
      | none => none
    | some false => ih (recs ++ [⟨[], []⟩]) (gp o.dst (.sc undef) L) st
    | none => none) l
def L7 (o : Oper) (u : Nat) : Bool := o.op.operands.any fun x => match x with | .tmp t => Nat.beq t u | _ => false
def S1 (ops : Array Oper) (i : Nat) (o : Oper) : Bool := ops.toList.zipIdx.all fun r => Nat.blt r.2 i || (match r.1.dst with | some d => !(L7 o d) | none => true)
def ank (p : Nat) (a : AV) : Bool := match a with | .mp q => Nat.beq q p | _ => false
def Mb (P : Program) (ops : Array Oper) (L : SL) (p k0 i : Nat) (o : Oper) : Option Lit :=
  match o.op, o.dst, o.guard with
  | .insert t m k x, none, none =>
    match P.underlying t with
    | some (.map kt _) =>
      match P.underlying kt, (cf L k).ff with
      | some d, some key =>
        match ev P (Instr.checkKey false 10000 kt key) with
        | some _ => bif (ank p (cf L m) && ((Region.before ops).getD i 0).testBit k0) && S1 ops i o then some ⟨i, d, (key, cf L x)⟩ else none
        | none => none
      | _, _ => none
    | _ => none
  | _, _, _ => none
def Hy (f : Nat → Oper → Option Lit) : List Oper → Nat → Option (List Lit)
  | [], _ => some []
  | o :: r, i =>
    bif ub o then
      match f i o, Hy f r (i + 1) with
      | some q, some l => some (q :: l)
      | _, _ => none
    else Hy f r (i + 1)
def isFalse (b : Option Bool) : Bool := match b with | some false => true | _ => false
def Yn (ops : Array Oper) (recs : List Rec) (p k0 : Nat) (lits : List Lit) : Bool :=
  (lits.all (fun q => lits.all fun r => Nat.beq q.i r.i || (nv q.e.1 r.e.1 && isFalse (Instr.sameNow q.d q.e.1 r.e.1))) && Nat.ble p bw) &&
  ((recs.zipIdx.all fun r => Nat.beq r.2 k0 || (!(we p r.1.R) && !(we p r.1.W))) && (match ops[k0]? with | some o => !(ub o) | none => false))
def T8 (p : Nat) : List Rec → Nat → Option Nat
  | [], _ => none
  | a :: r, i => bif we p a.W then some i else T8 p r (i + 1)
def J1 (l : List Oper) : Option Oper := List.rec (motive := fun _ => Option Oper) none (fun o _ ih => bif ub o then some o else ih) l
def amc (p : Nat) (lits : List Lit) (x : ba) : M Unit :=
  match x with
  | .map [] => i7 p (.map (lits.map (·.e)))
  | _ => M.fail
def aah (P : Program) (ops : Array Oper) (recs : List Rec) (L : SL) (p : Nat) : M Unit :=
  match T8 p recs 0 with
  | some k0 =>
    match Hy (Mb P ops L p k0) ops.toList 0 with
    | some lits => bif Yn ops recs p k0 lits then (cr p).bind (amc p lits) else M.fail
    | none => M.fail
  | none => M.fail
def pj (P : Program) (ops : Array Oper) (recs : List Rec) (L : SL) : M Unit :=
  match J1 ops.toList with
  | none => M.pure ()
  | some o =>
    match o.op with
    | .insert _ m _ _ =>
      match cf L m with
      | .mp p => aah P ops recs L p
      | _ => M.fail
    | _ => M.fail
end
end Go.Vm
namespace Go.Vm
noncomputable section
def ae {α : Type} (m : M α) : Prop :=
  ∀ st a bc, si st → m st = some (a, bc) →
    st.nx ≤ bc.nx ∧ ∃ r w, bc.rl = r ++ st.rl ∧ bc.wl = w ++ st.wl ∧ (∀ o ∈ w, o < bc.nx) ∧ (∀ o, st.nx ≤ o → o < bc.nx → o ∈ w) ∧ (∀ o, o ∉ w → bc.h.get o = st.h.get o) ∧
      ∀ h' rl' wl', (∀ o x, h'.get o = some x → o < st.nx) → (∀ o, o ∈ r ∨ o ∈ w → h'.get o = st.h.get o) →
        ∃ h1', m { h := h', nx := st.nx, rl := rl', wl := wl' } = some (a, { h := h1', nx := bc.nx, rl := r ++ rl', wl := w ++ wl' }) ∧ ∀ o, h1'.get o = if o ∈ w then bc.h.get o else h'.get o
theorem ae.low {α : Type} {m : M α} (h : ae m) {st bc a} (hl : si st) (hm : m st = some (a, bc)) : si bc := by
  obtain ⟨h1, r, w, _, _, h2, _, h3, _⟩ := h st a bc hl hm
  intro o x hx
  by_cases ho : o ∈ w
  · exact h2 o ho
  · rw [h3 o ho] at hx; exact Nat.lt_of_lt_of_le (hl o x hx) h1
theorem ae.pure {α : Type} (a : α) : ae (M.pure a) := fun st b bc hl h => by
  cases h
  exact ⟨Nat.le_refl _, [], [], rfl, rfl, (fun o ho => by cases ho), (fun o h1 h2 => by omega), (fun _ _ => rfl), fun h' rl' wl' _ _ => ⟨h', rfl, fun o => by simp⟩⟩
theorem ae.fail {α : Type} : ae (M.fail : M α) := fun st b bc _ h => by cases h
theorem ae.of {α : Type} (a : Option α) : ae (M.of a) := by cases a; exact ae.fail; exact ae.pure _
theorem ae.cond {α : Type} {b : Bool} {x y : M α} (hx : ae x) (hy : ae y) : ae (bif b then x else y) := by cases b <;> assumption
theorem ae.bind {α β : Type} {m : M α} {f : α → M β} (hm : ae m) (hf : ∀ x, ae (f x)) : ae (m.bind f) := fun st b st2 hl h => by
  obtain ⟨a, bc, h1, h2⟩ := bind_some h
  have hl1 := hm.low hl h1
  obtain ⟨k1, r1, w1, k2, k3, k4, k5, k6, k7⟩ := hm st a bc hl h1
  obtain ⟨q1, r2, w2, q2, q3, q4, q5, q6, q7⟩ := hf a bc b st2 hl1 h2
  refine ⟨Nat.le_trans k1 q1, r2 ++ r1, w2 ++ w1, by rw [q2, k2, List.append_assoc], by rw [q3, k3, List.append_assoc], fun o ho => ?_, fun o h3 h4 => ?_, fun o ho => ?_, fun h' rl' wl' hl' ha => ?_⟩
  · rcases List.mem_append.1 ho with ho | ho
    · exact q4 o ho
    · exact Nat.lt_of_lt_of_le (k4 o ho) q1
  · rcases Nat.lt_or_ge o bc.nx with h5 | h5
    · exact List.mem_append.2 (.inr (k5 o h3 h5))
    · exact List.mem_append.2 (.inl (q5 o h5 h4))
  · rw [q6 o (fun h => ho (List.mem_append.2 (.inl h))), k6 o (fun h => ho (List.mem_append.2 (.inr h)))]
  · obtain ⟨h1', e1, e2⟩ := k7 h' rl' wl' hl' (fun o ho => ha o (ho.imp (fun h => List.mem_append.2 (.inr h)) (fun h => List.mem_append.2 (.inr h))))
    have hlo1 : ∀ o x, h1'.get o = some x → o < bc.nx := fun o x hx => by
      rw [e2] at hx
      by_cases ho : o ∈ w1
      · exact k4 o ho
      · rw [if_neg ho] at hx; exact Nat.lt_of_lt_of_le (hl' o x hx) k1
    obtain ⟨h2', e3, e4⟩ := q7 h1' (r1 ++ rl') (w1 ++ wl') hlo1 (fun o ho => by
      rw [e2]
      by_cases hw : o ∈ w1
      · rw [if_pos hw]
      · rw [if_neg hw, k6 o hw]
        exact ha o (ho.imp (fun h => List.mem_append.2 (.inl h)) (fun h => List.mem_append.2 (.inl h))))
    refine ⟨h2', ?_, fun o => ?_⟩
    · show M.bind m f _ = _
      unfold M.bind
      rw [e1]
      simp only
      rw [e3, List.append_assoc, List.append_assoc]
    · rw [e4]
      by_cases h5 : o ∈ w2
      · rw [if_pos h5, if_pos (List.mem_append.2 (.inl h5))]
      · rw [if_neg h5, e2]
        by_cases h6 : o ∈ w1
        · rw [if_pos h6, if_pos (List.mem_append.2 (.inr h6)), q6 o h5]
        · rw [if_neg h6, if_neg (fun h => by rcases List.mem_append.1 h with h | h; exact h5 h; exact h6 h)]
theorem ae.mono {α : Type} {m : M α} (h : ae m) : ae (Vm.mono m) := fun st a bc hl hm => by
  obtain ⟨h1, h2⟩ := ya hm
  obtain ⟨k1, r, w, k2, k3, k4, k5, k6, k7⟩ := h st a bc hl h1
  refine ⟨k1, r, w, k2, k3, k4, k5, k6, fun h' rl' wl' hl' ha => ?_⟩
  obtain ⟨h1', e1, e2⟩ := k7 h' rl' wl' hl' ha
  refine ⟨h1', ?_, e2⟩
  unfold Vm.mono
  rw [e1]
  simp only
  rw [show Nat.ble st.nx bc.nx = true from Nat.ble_eq_true_of_le k1]
  rfl
theorem ae.cr (id : Nat) : ae (Vm.cr id) := fun st a bc hl h => by
  unfold Vm.cr at h
  cases hx : st.h.get id with
  | none => rw [hx] at h; cases h
  | some x =>
    rw [hx] at h
    cases h
    refine ⟨Nat.le_refl _, [id], [], rfl, rfl, (fun o ho => by cases ho), (fun o h1 h2 => by simp at h2; omega), (fun _ _ => rfl), fun h' rl' wl' _ ha => ⟨h', ?_, fun o => by simp⟩⟩
    unfold Vm.cr
    simp only [ha id (.inl (by simp)), hx]
    rfl
theorem ae.i7 (id : Nat) (x : ba) : ae (Vm.i7 id x) := fun st a bc hl h => by
  unfold Vm.i7 at h
  cases hx : st.h.get id with
  | none => rw [hx] at h; cases h
  | some y =>
    rw [hx] at h
    cases hb : Nat.ble id bw with
    | false => rw [hb] at h; cases h
    | true =>
      rw [hb] at h
      cases h
      have hlt := Nat.le_of_ble_eq_true hb
      refine ⟨Nat.le_refl _, [], [id], rfl, rfl, (fun o ho => by simp at ho; subst ho; exact hl _ y hx), (fun o h1 h2 => by simp at h2; omega), (fun o ho => by simp at ho; simp only; rw [en _ _ _ _ hlt, if_neg ho]), fun h' rl' wl' _ ha => ⟨h'.set depth id (some x), ?_, fun o => ?_⟩⟩
      · unfold Vm.i7
        simp only [ha id (.inr (by simp)), hx, hb, cond_true]
        rfl
      · simp only [en _ _ _ _ hlt, List.mem_singleton]
        by_cases e : o = id
        · rw [if_pos e, if_pos e, if_pos e]
        · rw [if_neg e, if_neg e]
theorem ae.vg (id : Nat) : ae (Vm.vg id) := fun st a bc hl h => by
  unfold Vm.vg at h
  cases hx : st.h.get id with
  | none => rw [hx] at h; cases h
  | some y =>
    rw [hx] at h
    cases hb : Nat.ble id bw with
    | false => rw [hb] at h; cases h
    | true =>
      rw [hb] at h
      cases h
      have hlt := Nat.le_of_ble_eq_true hb
      refine ⟨Nat.le_refl _, [], [id], rfl, rfl, (fun o ho => by simp at ho; subst ho; exact hl _ y hx), (fun o h1 h2 => by simp at h2; omega), (fun o ho => by simp at ho; simp only; rw [en _ _ _ _ hlt, if_neg ho]), fun h' rl' wl' _ ha => ⟨h'.set depth id none, ?_, fun o => ?_⟩⟩
      · unfold Vm.vg
        simp only [ha id (.inr (by simp)), hx, hb, cond_true]
        rfl
      · simp only [en _ _ _ _ hlt, List.mem_singleton]
        by_cases e : o = id
        · rw [if_pos e, if_pos e, if_pos e]
        · rw [if_neg e, if_neg e]
theorem ae.iq (x : ba) : ae (Vm.iq x) := fun st a bc hl h => by
  unfold Vm.iq at h
  cases hb : Nat.ble st.nx bw with
  | false => rw [hb] at h; cases h
  | true =>
    rw [hb] at h
    cases h
    have hlt := Nat.le_of_ble_eq_true hb
    refine ⟨Nat.le_succ _, [], [st.nx], rfl, rfl, (fun o ho => by simp at ho; subst ho; exact Nat.lt_succ_self _), (fun o h1 h2 => by simp at h2 ⊢; omega), (fun o ho => by simp at ho; simp only; rw [en _ _ _ _ hlt, if_neg ho]), fun h' rl' wl' _ ha => ⟨h'.set depth st.nx (some x), ?_, fun o => ?_⟩⟩
    · unfold Vm.iq
      simp only [hb, cond_true]
      rfl
    · simp only [en _ _ _ _ hlt, List.mem_singleton]
      by_cases e : o = st.nx
      · rw [if_pos e, if_pos e, if_pos e]
      · rw [if_neg e, if_neg e]
theorem ae.sq {α : Type} {m : M α} (h : ae m) : ae (Vm.sq m) := fun st a bc hl hm => by
  unfold Vm.sq at hm
  cases h1 : m { h := st.h, nx := st.nx, rl := [], wl := [] } with
  | none => rw [h1] at hm; cases hm
  | some p =>
    rw [h1] at hm
    cases hm
    obtain ⟨k1, r, w, k2, k3, k4, k5, k6, k7⟩ := h { h := st.h, nx := st.nx, rl := [], wl := [] } p.1 p.2 hl h1
    rw [List.append_nil] at k2 k3
    refine ⟨k1, r, w, by simp only [k2], by simp only [k3], k4, k5, k6, fun h' rl' wl' hl' ha => ?_⟩
    obtain ⟨h1', e1, e2⟩ := k7 h' [] [] hl' ha
    refine ⟨h1', ?_, e2⟩
    unfold Vm.sq
    simp only at e1 ⊢
    rw [e1]
    simp only [List.append_nil, k2, k3]
theorem ae.cellsIn (sz : Nat) (v : AV) : ae (Vm.cellsIn sz v) := by
  unfold Vm.cellsIn xq
  repeat' (first | exact ae.pure _ | exact ae.fail | exact ae.cr _ | apply ae.cond | (refine ae.bind ?_ fun x => ?_) | split)
theorem ae.zf {P : Program} {ρ : Operand → AV} {o : Oper} {l : List Operand} : ae (g7 P ρ o l) := by unfold g7; exact ae.cond (ae.of _) ae.fail
theorem ae.bx {t : TypeId} {x : AV} : ae (xj t x) := by
  unfold xj
  repeat' (first | exact ae.pure _ | exact ae.fail | exact ae.iq _ | apply ae.cond | (refine ae.bind ?_ fun x => ?_) | split)
theorem ajt {P : Program} {o : Oper} {ρ : Operand → AV} : ae (Bm P o ρ) := by
  unfold Bm
  cases ho : o.op with
  | move x => exact ae.pure _
  | assign x => exact ae.pure _
  | load t a =>
    show ae (jj P t (ρ a))
    unfold jj As
    repeat' (first | exact ae.pure _ | exact ae.fail | exact ae.of _ | exact ae.cr _ | (refine ae.bind ?_ fun x => ?_) | split)
  | fieldAddr s x f =>
    show ae (kq P s (ρ x) f)
    unfold kq
    repeat' (first | exact ae.pure _ | exact ae.fail | exact ae.of _ | apply ae.cond | split)
  | binOp op t x y u =>
    show ae (xl P ρ o op t x y)
    have he : ∀ a b, ae (lz P ρ o op t a b) := fun a b => by
      unfold lz Fb Rq Cm Yf Yb Rv Lp od
      repeat' (first | exact ae.pure _ | exact ae.fail | exact ae.of _ | exact ae.cr _ | apply ae.cond | (refine ae.bind ?_ fun x => ?_) | split)
    unfold xl C2 K0
    repeat' (first | exact he _ _ | exact ae.pure _ | exact ae.fail | exact ae.of _ | apply ae.cond | split)
  | pick c a b =>
    show ae (uu (ρ c) (ρ a) (ρ b))
    unfold uu
    repeat' (first | exact ae.pure _ | exact ae.fail | split)
  | store t a x =>
    show ae (oz P t (ρ a) (ρ x))
    unfold oz xw
    repeat' (first | exact ae.pure _ | exact ae.fail | exact ae.cr _ | exact ae.i7 _ _ | apply ae.cond | (refine ae.bind ?_ fun x => ?_) | split)
  | mapUpdate t m k x =>
    show ae (n7 P t (ρ m) (ρ k) (ρ x))
    unfold n7 s8
    repeat' (first | exact ae.pure _ | exact ae.fail | exact ae.cr _ | exact ae.i7 _ _ | apply ae.cond | (refine ae.bind ?_ fun x => ?_) | split)
  | insert t m k x =>
    show ae (n7 P t (ρ m) (ρ k) (ρ x))
    unfold n7 s8
    repeat' (first | exact ae.pure _ | exact ae.fail | exact ae.cr _ | exact ae.i7 _ _ | apply ae.cond | (refine ae.bind ?_ fun x => ?_) | split)
  | extract t ix =>
    show ae (nm (ρ t) ix)
    unfold nm
    repeat' (first | exact ae.pure _ | exact ae.fail | exact ae.of _ | split)
  | indexAddr t x ix =>
    show ae (kr P t (ρ x) (ρ ix))
    unfold kr vc
    repeat' (first | exact ae.pure _ | exact ae.fail | exact ae.of _ | apply ae.cond | split)
  | nilCheck x =>
    show ae (j9 (ρ x))
    unfold j9
    repeat' (first | exact ae.pure _ | exact ae.fail | split)
  | alloc t =>
    show ae (ri P t)
    unfold ri
    split
    · exact ae.fail
    · exact ae.bx
  | box t x => exact ae.bx
  | build t ps =>
    show ae (qg P t _)
    unfold qg
    repeat' (first | exact ae.pure _ | exact ae.fail | exact ae.of _ | split)
  | buildSlice t len ps =>
    show ae (jk P t len _)
    unfold jk lg
    repeat' (first | exact ae.iq _ | exact ae.pure _ | exact ae.fail | exact ae.of _ | apply ae.cond | (refine ae.bind ?_ fun x => ?_) | split)
  | makeSlice t l c =>
    show ae (qc P t (ρ l) (ρ c))
    unfold qc lg
    repeat' (first | exact ae.iq _ | exact ae.pure _ | exact ae.fail | exact ae.of _ | apply ae.cond | (refine ae.bind ?_ fun x => ?_) | split)
  | makeMap t r =>
    show ae (vx r)
    unfold vx
    repeat' (first | exact ae.iq _ | exact ae.pure _ | exact ae.fail | (refine ae.bind ?_ fun x => ?_) | split)
  | makeFunc f a b => exact ae.pure _
  | convert src dst x =>
    show ae (ov P ρ o src dst (ρ x))
    have he : ae (sh P ρ o (ρ x)) := by unfold sh; split; exact ae.of _; exact ae.fail
    unfold ov ot
    repeat' (first | exact he | exact ae.fail | split)
    · unfold Dy; repeat' (first | exact ae.iq _ | exact ae.pure _ | exact ae.fail | apply ae.cond | (refine ae.bind ?_ fun x => ?_) | split)
    · unfold Gf An; repeat' (first | exact ae.cellsIn _ _ | exact ae.pure _ | exact ae.fail | apply ae.cond | (refine ae.bind ?_ fun x => ?_) | split)
    · unfold K5 Ic; repeat' (first | exact ae.cr _ | exact ae.pure _ | exact ae.fail | apply ae.cond | (refine ae.bind ?_ fun x => ?_) | split)
    · unfold Kl Ht; repeat' (first | exact ae.cr _ | exact ae.pure _ | exact ae.fail | apply ae.cond | (refine ae.bind ?_ fun x => ?_) | split)
    · unfold Cl; repeat' (first | exact ae.pure _ | exact ae.fail | split)
  | makeInterface t x =>
    show ae (lq P t (ρ x))
    unfold lq
    repeat' (first | exact ae.pure _ | exact ae.fail | split)
  | field s x f =>
    show ae (sr P s (ρ x) f)
    unfold sr
    repeat' (first | exact ae.pure _ | exact ae.fail | exact ae.of _ | split)
  | index t x ix =>
    show ae (sw P ρ o t x ix)
    unfold sw
    repeat' (first | exact ae.zf | exact ae.pure _ | exact ae.fail | exact ae.of _ | apply ae.cond | split)
  | slice t x lo hi mx =>
    show ae (qx P ρ o t x lo hi mx)
    unfold qx Oz
    repeat' (first | exact ae.zf | exact ae.cr _ | exact ae.pure _ | exact ae.fail | exact ae.of _ | apply ae.cond | (refine ae.bind ?_ fun x => ?_) | split)
  | lookup t x ix ok =>
    show ae (vv P t (ρ x) (ρ ix) ok)
    unfold vv Bk found
    repeat' (first | exact ae.cr _ | exact ae.pure _ | exact ae.fail | exact ae.of _ | apply ae.cond | (refine ae.bind ?_ fun x => ?_) | split)
  | typeAssert x t a ok =>
    show ae (ou P ρ o (ρ x) a ok)
    unfold ou
    repeat' (first | exact ae.pure _ | exact ae.fail | exact ae.of _ | apply ae.cond | split)
  | unOp op t x => exact ae.zf
  | call c =>
    obtain ⟨callee, args, ts⟩ := c
    cases callee with
    | value f => exact ae.fail
    | invoke r m => exact ae.fail
    | builtin b =>
      show ae (tf P ρ o b args.toList ts)
      unfold tf
      split <;> first | exact ae.fail | exact ae.zf | skip
      · unfold ru aca
        repeat' (first | exact ae.cr _ | exact ae.pure _ | exact ae.fail | (refine ae.bind ?_ fun x => ?_) | split)
      · have ha : ∀ e sz bytes s new, ae (oa e sz bytes s new) := fun e sz bytes s new => by
          unfold oa yj lg
          repeat' (first | exact ae.cr _ | exact ae.iq _ | exact ae.vg _ | exact ae.pure _ | exact ae.fail | apply ae.cond | (refine ae.bind ?_ fun x => ?_) | split)
        unfold ng
        repeat' (first | exact ha _ _ _ _ _ | exact ae.cellsIn _ _ | exact ae.pure _ | exact ae.fail | apply ae.cond | (refine ae.bind ?_ fun x => ?_) | split)
      · unfold Gt L9
        repeat' (first | exact ae.cr _ | exact ae.i7 _ _ | exact ae.cellsIn _ _ | exact ae.pure _ | exact ae.fail | apply ae.cond | (refine ae.bind ?_ fun x => ?_) | split)
      · unfold z6 Bf
        repeat' (first | exact ae.cr _ | exact ae.i7 _ _ | exact ae.pure _ | exact ae.fail | apply ae.cond | (refine ae.bind ?_ fun x => ?_) | split)
      · unfold A4
        repeat' (first | exact ae.pure _ | exact ae.fail | split)
      · unfold u5
        repeat' (first | exact ae.pure _ | exact ae.fail | apply ae.cond | split)
      · unfold qf J6
        repeat' (first | exact ae.cr _ | exact ae.i7 _ _ | exact ae.pure _ | exact ae.fail | apply ae.cond | (refine ae.bind ?_ fun x => ?_) | split)
  | _ => exact ae.fail
def gh (look : ec) : Prop := ∀ f p, look f = some p → ∀ args, ae (p.2 args)
theorem zk {P : Program} {look : ec} {o : Oper} {ρ : Operand → AV} (h : ae (E5 P look o ρ)) : ae ((lu P o).run look ρ) := by rw [Ia]; exact h
theorem za {P : Program} {look : ec} (hl : gh look) {o : Oper} {ρ : Operand → AV} : ae (E5 P look o ρ) := by
  have hcall : ∀ g args, ae (P7 look g args) := by
    intro g args
    unfold P7
    refine ae.cond ?_ ae.fail
    split
    · rename_i p hp; exact (hl g p hp args).mono
    · exact ae.fail
  have hfn : ∀ g args, ae (Cn look g args) := by
    intro g args
    unfold Cn
    split
    · exact hcall _ _
    · exact ae.fail
  unfold E5
  split
  · unfold Km
    split
    · exact hfn _ _
    · split
      · exact hfn _ _
      · exact ae.fail
    · exact ae.fail
  · exact ajt.mono
theorem ae.congr {α : Type} {m m' : M α} (h : ae m) (e : ∀ st, m' st = m st) : ae m' := by
  rw [show m' = m from funext e]; exact h
theorem C5 {P : Program} {look : ec} (hl : gh look) (ops : Array Oper) (o : Oper) (L : SL) : ae (α := SL) ((zt P ops o).run look L) := by
  cases hg : x0 ops L o with
  | none => exact ae.fail.congr (fun st => by rw [H4]; unfold Dg; rw [hg]; rfl)
  | some b =>
    cases b with
    | false => exact (ae.pure (gp o.dst (.sc undef) L)).congr (fun st => by rw [H4]; unfold Dg; rw [hg]; rfl)
    | true =>
      refine (ae.bind (zk (za (P := P) hl (o := o) (ρ := cf L))) (fun v => ae.pure (gp o.dst v L))).congr (fun st => ?_)
      rw [H4]
      show Dg P look ops o L st = M.bind _ _ st
      unfold Dg M.bind
      rw [hg]
      simp only
      cases (lu P o).run look (cf L) st <;> rfl
theorem Ix {P : Program} {look : ec} (hl : gh look) (ops : Array Oper) : ∀ (l : List Oper) (L : SL), ae (α := SL) ((so P ops l).run look L) := by
  intro l
  induction l with
  | nil => intro L; exact ae.pure L
  | cons o l ih =>
    intro L
    refine (ae.bind (C5 (P := P) hl ops o L) (fun L' => ih L')).congr (fun st => ?_)
    rw [Fm]
    unfold M.bind
    cases (zt P ops o).run look L st <;> rfl
theorem ajh {P : Program} {look : ec} (hT : nw P (su look)) (hl : gh look) {ops : Array Oper} {ro : Option Nat} {N : Nat} {B : fv} {nt : Nat} {Q : Exit → Act → World → Prop} (hg : o8 nt ops = true) (hd : uz nt ops = true) {p : SL × St}
    (rest : List Nat) (hK : ∀ g w (a : Act), fk B g p.2 w → dt g w nt p.1 a.tmps → Marks B.n0 p.2.h g w a.defers → wpOpsIn (fw ro) N P ops Q rest a w) :
    ∀ (l : List Oper) (is : List Nat), (∀ o ∈ l, o ∈ ops) → is.map (fun i => ops[i]?) = l.map some → ∀ L st g w a, (so P ops l).run look L st = some p → si st → B.ve st.nx p.2.nx → fk B g st w → dt g w nt L a.tmps → Marks B.n0 st.h g w a.defers → wpOpsIn (fw ro) N P ops Q (is ++ rest) a w := by
  intro l
  induction l with
  | nil =>
    intro is _ his L st g w a h hlo hn hc hr hdf
    cases is with
    | nil => cases h; exact hK g w a hc hr hdf
    | cons i is => cases his
  | cons o l ih =>
    intro is hmem his L st g w a h hlo hn hc hr hdf
    cases is with
    | nil => cases his
    | cons i is =>
      simp only [List.map_cons, List.cons.injEq] at his
      obtain ⟨hi, his⟩ := his
      have ho := hmem o (by simp)
      rw [Fm] at h
      cases h1 : (zt P ops o).run look L st with
      | none => rw [h1] at h; cases h
      | some q =>
      have hlo' : si q.2 := (C5 (P := P) hl ops o L).low hlo h1
      have hle1 : st.nx ≤ q.2.nx := (C5 hl ops o L st q.1 q.2 hlo h1).1
      rw [h1] at h
      simp only at h
      have hle2 : q.2.nx ≤ p.2.nx := (Ix hl ops l q.1 q.2 p.1 p.2 hlo' h).1
      have h2 := Zk h1
      unfold Dg at h2
      simp only [List.cons_append, wpOpsIn, hi]
      cases hb : x0 ops L o with
      | none => rw [hb] at h2; cases h2
      | some b =>
      rw [hb] at h2
      have hw : Region.wanted o (yielded ops a.tmps) = b := Hs hr.1 (Ds hg ho) (fun j c _ => hr.2 _) hb
      rw [hw]
      cases b with
      | true =>
        rw [if_pos rfl]
        simp only at h2
        rw [Ia, Pz] at h2
        cases hop : fj P (su look) o (cf L) st with
        | none => rw [hop] at h2; cases h2
        | some r =>
          obtain ⟨v, st'⟩ := r
          rw [hop] at h2
          cases h2
          refine D7 hT hc.ok (hc.free (hn.sub (Nat.le_refl _) hle2)) hlo hr.eval hop ro N _ _ ?_
          rintro u w' ⟨g', q1, q2, q3⟩
          exact ih is (fun o ho => hmem o (by simp [ho])) his _ st' g' w' _ h hlo' (hn.sub hle1 (Nat.le_refl _)) (hc.step (hn.sub (Nat.le_refl _) hle2) ⟨xp hop, q1⟩ q2) ((hr.ext q1.ext).put q3 (uq hd ho)) (by rw [put_defers]; exact hdf.step q1)
      | false =>
        simp only at h2
        cases h2
        rw [if_neg (by simp)]
        refine ⟨l6 ro P o a w, ?_⟩
        exact ih is (fun o ho => hmem o (by simp [ho])) his _ st g w _ h hlo hn hc (hr.put (.sc _) (uq hd ho)) (by rw [put_defers]; exact hdf)
theorem amr {P : Program} {look : ec} (hT : nw P (su look)) (hl : gh look) {ops : Array Oper} {ro : Option Nat} {N : Nat} {B : fv} {nt : Nat} {Q : Exit → Act → World → Prop} (hg : o8 nt ops = true) (hd : uz nt ops = true) {p : SL × St}
    (hK : ∀ g w (a : Act), fk B g p.2 w → dt g w nt p.1 a.tmps → Marks B.n0 p.2.h g w a.defers → Q .normal a w) :
    ∀ (l : List Oper) (is : List Nat), (∀ o ∈ l, o ∈ ops) → is.map (fun i => ops[i]?) = l.map some → ∀ L st g w a, (so P ops l).run look L st = some p → si st → B.ve st.nx p.2.nx → fk B g st w → dt g w nt L a.tmps → Marks B.n0 st.h g w a.defers → wpOpsIn (fw ro) N P ops Q is a w := by
  intro l is h1 h2 L st g w a h3 h4 h5 h6 h7 h8
  rw [show is = is ++ [] from (List.append_nil is).symm]
  exact ajh hT hl hg hd [] (fun g w a h1 h2 h3 => hK g w a h1 h2 h3) l is h1 h2 L st g w a h3 h4 h5 h6 h7 h8
def kz {α β : Type} (X : St → Option (α × β × St)) : M (α × β) := fun st =>
  match X st with
  | some q => some ((q.1, q.2.1), q.2.2)
  | none => none
theorem z8 {α β : Type} {X : St → Option (α × β × St)} {st : St} {q : α × β × St} (h : X st = some q) : kz X st = some ((q.1, q.2.1), q.2.2) := by unfold kz; rw [h]
def Cz {α : Type} (m : M α) : M α := fun st => bif Nat.ble st.nx bw then m st else none
theorem ae.Cz {α : Type} {m : M α} (h : ae m) : ae (Vm.Cz m) := fun st a bc hl hm => by
  unfold Vm.Cz at hm
  cases hb : Nat.ble st.nx bw with
  | false => rw [hb] at hm; cases hm
  | true =>
    rw [hb] at hm
    obtain ⟨k1, r, w, k2, k3, k4, k5, k6, k7⟩ := h st a bc hl hm
    refine ⟨k1, r, w, k2, k3, k4, k5, k6, fun h' rl' wl' hl' ha => ?_⟩
    obtain ⟨h1', e1, e2⟩ := k7 h' rl' wl' hl' ha
    exact ⟨h1', by unfold Vm.Cz; simp only [hb, cond_true]; exact e1, e2⟩
theorem Kt {P : Program} {look : ec} (hl : gh look) (ops : Array Oper) : ∀ (l : List Oper) (recs : List Rec) (L : SL), ae (kz (pz P look ops l recs L)) := by
  intro l
  induction l with
  | nil => intro recs L; exact ae.pure (recs, L)
  | cons o l ih =>
    intro recs L
    have e : ∀ st, pz P look ops (o :: l) recs L st = (match vq ops L o with
      | some true =>
        match sq ((lu P o).run look (br o L)) st with
        | some p => bif Nat.ble p.2.nx bw then pz P look ops l (recs ++ [⟨p.1.2.1, p.1.2.2⟩]) (gp o.dst p.1.1 L) p.2 else none
        | none => none
      | some false => pz P look ops l (recs ++ [⟨[], []⟩]) (gp o.dst (.sc undef) L) st
      | none => none) := fun st => rfl
    cases hg : vq ops L o with
    | none => exact ae.fail.congr (fun st => by unfold kz; rw [e, hg]; rfl)
    | some b =>
      cases b with
      | false => exact (ih (recs ++ [⟨[], []⟩]) (gp o.dst (.sc undef) L)).congr (fun st => by unfold kz; rw [e, hg])
      | true =>
        refine (ae.bind (zk (za (P := P) hl (o := o) (ρ := br o L))).sq (fun p => (ih (recs ++ [⟨p.2.1, p.2.2⟩]) (gp o.dst p.1 L)).Cz)).congr (fun st => ?_)
        unfold kz M.bind
        rw [e, hg]
        simp only
        cases sq ((lu P o).run look (br o L)) st with
        | none => rfl
        | some p =>
          simp only [Cz]
          cases Nat.ble p.2.nx bw <;> rfl
theorem aoi {P : Program} {look : ec} {ops : Array Oper} {t : Nat} : ∀ (l : List Oper) (recs : List Rec) (L : SL) (st : St) (r : List Rec × SL × St), pz P look ops l recs L st = some r → (∀ o ∈ l, o.dst ≠ some t) → lk r.2.1 t = lk L t := by
  intro l
  induction l with
  | nil => intro recs L st r h _; cases h; rfl
  | cons o l ih =>
    intro recs L st r h hn
    change (match vq ops L o with
      | some true =>
        match sq ((lu P o).run look (br o L)) st with
        | some p => bif Nat.ble p.2.nx bw then pz P look ops l (recs ++ [⟨p.1.2.1, p.1.2.2⟩]) (gp o.dst p.1.1 L) p.2 else none
        | none => none
      | some false => pz P look ops l (recs ++ [⟨[], []⟩]) (gp o.dst (.sc undef) L) st
      | none => none) = some r at h
    have step : ∀ v recs bc, pz P look ops l recs (gp o.dst v L) bc = some r → lk r.2.1 t = lk L t := by
      intro v recs bc h'
      rw [ih _ _ _ r h' (fun o ho => hn o (by simp [ho])), Tj, if_neg (hn o (by simp))]
    split at h
    · split at h
      · rename_i p _
        cases hb : Nat.ble p.2.nx bw with
        | true => rw [hb] at h; exact step _ _ _ h
        | false => rw [hb] at h; cases h
      · cases h
    · exact step _ _ _ h
    · cases h
theorem al3 {a b a' b' : List Nat} (h : l0 a b = true) (ha : ∀ o ∈ a', o ∈ a) (hb : ∀ o ∈ b', o ∈ b) : l0 a' b' = true :=
  (B9 _ _).2 fun o h1 h2 => wi h (ha o h1) (hb o h2)
def xe (a a' : Rec) : Prop := (∀ o ∈ a'.W, o ∈ a.W) ∧ ∀ o ∈ a'.R, o ∈ a.R ∨ o ∈ a.W
theorem am8 {a b c x y : List Nat} (h1 : l0 a b = true) (h2 : l0 a c = true) (hx : ∀ o ∈ x, o ∈ a) (hy : ∀ o ∈ y, o ∈ b ∨ o ∈ c) : l0 x y = true :=
  (B9 _ _).2 fun o k1 k2 => (hy o k2).elim (wi h1 (hx o k1)) (wi h2 (hx o k1))
theorem ais {a b c x y : List Nat} (h1 : l0 b a = true) (h2 : l0 c a = true) (hx : ∀ o ∈ x, o ∈ b ∨ o ∈ c) (hy : ∀ o ∈ y, o ∈ a) : l0 x y = true :=
  (B9 _ _).2 fun o k1 k2 => (hx o k1).elim (fun h => wi h1 h (hy o k2)) (fun h => wi h2 h (hy o k2))
theorem ace {before : Array Nat} {i j : Nat} {a b a' b' : Rec} (ha : xe a a') (hb : xe b b') (h : vw before i j a b = true) : vw before i j a' b' = true := by
  unfold vw at h ⊢
  simp only [Bool.or_eq_true, Bool.and_eq_true] at h ⊢
  rcases h with ⟨⟨h1, h2⟩, h3⟩ | h
  · exact .inl ⟨⟨am8 h1 h2 ha.1 hb.2, al3 h2 ha.1 hb.1⟩, ais h3 h2 ha.2 hb.1⟩
  · exact .inr h
theorem Om {before : Array Nat} {i : Nat} {a a' : Rec} (ha : xe a a') : ∀ (l l' : List Rec) (j : Nat), l.length = l'.length → (∀ (k : Nat) x y, l[k]? = some x → l'[k]? = some y → xe x y) → Ao before i a j l = true → Ao before i a' j l' = true
  | [], [], _, _, _, _ => rfl
  | [], _ :: _, _, h, _, _ => by simp at h
  | _ :: _, [], _, h, _, _ => by simp at h
  | x :: l, y :: l', j, hl, hs, h => by
    simp only [Ao, Bool.and_eq_true] at h ⊢
    exact ⟨ace ha (hs 0 x y rfl rfl) h.1, Om ha l l' (j + 1) (by simpa using hl) (fun k u v hu hv => hs (k + 1) u v (by simpa using hu) (by simpa using hv)) h.2⟩
theorem Oi {before : Array Nat} : ∀ (l l' : List Rec) (j : Nat), l.length = l'.length → (∀ (k : Nat) x y, l[k]? = some x → l'[k]? = some y → xe x y) → ib before j l = true → ib before j l' = true
  | [], [], _, _, _, _ => rfl
  | [], _ :: _, _, h, _, _ => by simp at h
  | _ :: _, [], _, h, _, _ => by simp at h
  | x :: l, y :: l', j, hl, hs, h => by
    simp only [ib, Bool.and_eq_true] at h ⊢
    exact ⟨Om (hs 0 x y rfl rfl) l l' (j + 1) (by simpa using hl) (fun k u v hu hv => hs (k + 1) u v (by simpa using hu) (by simpa using hv)) h.1, Oi l l' (j + 1) (by simpa using hl) (fun k u v hu hv => hs (k + 1) u v (by simpa using hu) (by simpa using hv)) h.2⟩
theorem ann {P : Program} {look : ec} (hl : gh look) {ops : Array Oper} {E : List Rec → Prop} {K : SL → St → Prop} : ∀ (l : List Oper) (recs recs' : List Rec) (L : SL) (st st' : St) (r : List Rec × SL × St), pz P look ops l recs L st = some r → si st → (∀ o, st'.h.get o = st.h.get o) → st'.nx = st.nx →
    recs.length = recs'.length → (∀ (k : Nat) x y, recs[k]? = some x → recs'[k]? = some y → xe x y) → (∀ l', r.1.length = l'.length → (∀ (k : Nat) x y, r.1[k]? = some x → l'[k]? = some y → xe x y) → E l') → (∀ st2, (∀ o, st2.h.get o = r.2.2.h.get o) → st2.nx = r.2.2.nx → K r.2.1 st2) →
    aii P (su look) ops E l K recs' L st' := by
  intro l
  induction l with
  | nil =>
    intro recs recs' L st st' r h hlo hh hnx hlen hsub hc hk
    cases h
    exact ⟨hc _ hlen hsub, hk st' hh hnx⟩
  | cons o l ih =>
    intro recs recs' L st st' r h hlo hh hnx hlen hsub hc hk
    change (match vq ops L o with
      | some true =>
        match sq ((lu P o).run look (br o L)) st with
        | some p => bif Nat.ble p.2.nx bw then pz P look ops l (recs ++ [⟨p.1.2.1, p.1.2.2⟩]) (gp o.dst p.1.1 L) p.2 else none
        | none => none
      | some false => pz P look ops l (recs ++ [⟨[], []⟩]) (gp o.dst (.sc undef) L) st
      | none => none) = some r at h
    have hsnoc : ∀ (a a' : Rec), xe a a' → ∀ (k : Nat) x y, (recs ++ [a])[k]? = some x → (recs' ++ [a'])[k]? = some y → xe x y := by
      intro a a' ha k x y hx hy
      rcases Nat.lt_trichotomy k recs.length with hk' | hk' | hk'
      · rw [List.getElem?_append_left hk'] at hx
        rw [List.getElem?_append_left (by omega)] at hy
        exact hsub k x y hx hy
      · subst hk'
        rw [List.getElem?_append_right (Nat.le_refl _), Nat.sub_self] at hx
        rw [List.getElem?_append_right (by omega), hlen, Nat.sub_self] at hy
        cases hx; cases hy
        exact ha
      · rw [List.getElem?_eq_none (by simp; omega)] at hx; cases hx
    cases hb : vq ops L o with
    | none => rw [hb] at h; cases h
    | some b =>
      rw [hb] at h
      cases b with
      | true =>
        refine .inl ⟨hb, ?_⟩
        simp only at h
        cases h1 : sq ((lu P o).run look (br o L)) st with
        | none => rw [h1] at h; cases h
        | some p =>
        rw [h1] at h
        simp only at h
        rw [Ia] at h1
        have hfr := (za (P := P) hl (o := o) (ρ := br o L))
        have hlo1 : si p.2 := hfr.sq.low hlo h1
        unfold sq at h1
        cases h2 : E5 P look o (br o L) { h := st.h, nx := st.nx, rl := [], wl := [] } with
        | none => rw [h2] at h1; cases h1
        | some q =>
        rw [h2] at h1
        cases h1
        obtain ⟨v, bc⟩ := q
        simp only at h
        cases hlim : Nat.ble bc.nx bw with
        | false => rw [hlim] at h; cases h
        | true =>
        rw [hlim, cond_true] at h
        have hlim := Nat.le_of_ble_eq_true hlim
        obtain ⟨k1, rr, ww, k2, k3, k4, k5, k6, k7⟩ := hfr { h := st.h, nx := st.nx, rl := [], wl := [] } v bc hlo h2
        rw [List.append_nil] at k2 k3
        simp only at k1 k5 k6 k7
        obtain ⟨F, hF⟩ : ∃ F, F = (rr ++ ww).filter (fun o => decide (o < st.nx)) := ⟨_, rfl⟩
        obtain ⟨W, hW⟩ : ∃ W, W = ww.filter (fun o => decide (o < st.nx)) := ⟨_, rfl⟩
        have mF : ∀ o, o ∈ F ↔ (o ∈ rr ∨ o ∈ ww) ∧ o < st.nx := fun o => by rw [hF, List.mem_filter, List.mem_append, decide_eq_true_eq]
        have mW : ∀ o, o ∈ W ↔ o ∈ ww ∧ o < st.nx := fun o => by rw [hW]; simp
        have hFl : ∀ q ∈ F, q ≤ bw := fun q hq => by have := ((mF q).1 hq).2; omega
        have hmask : ∀ o, (ke st'.h F).get o = if o ∈ F then st'.h.get o else none := fun o => qa _ _ _ hFl
        obtain ⟨h1', e1, e2⟩ := k7 (ke st'.h F) [] [] (fun o x hx => by
          rw [hmask] at hx
          by_cases ho : o ∈ F
          · exact ((mF o).1 ho).2
          · rw [if_neg ho] at hx; cases hx) (fun o ho => by
          rw [hmask]
          by_cases hlt : o < st.nx
          · rw [if_pos ((mF o).2 ⟨ho, hlt⟩)]; exact hh o
          · rw [if_neg (fun h => hlt ((mF o).1 h).2)]
            cases hx : st.h.get o with
            | none => rfl
            | some x => exact absurd (hlo o x hx) hlt)
        rw [List.append_nil, List.append_nil] at e1
        refine ⟨F, W, v, { h := h1', nx := bc.nx, rl := rr, wl := ww }, ?_, fun q hq => (mF q).2 ⟨.inr ((mW q).1 hq).1, ((mW q).1 hq).2⟩, fun q hq hqn => ?_, fun q hq => by rw [hnx]; exact ((mF q).1 hq).2, hlim, ?_⟩
        · rw [← Pz, hnx]; exact e1
        · simp only
          rw [e2, if_neg (fun h => hqn ((mW q).2 ⟨h, ((mF q).1 hq).2⟩))]
        · have iq : ∀ q ∈ F ++ dh st'.nx (bc.nx - st'.nx), q ≤ bw := fun q hq => by
            rcases List.mem_append.1 hq with hq | hq
            · exact hFl q hq
            · rw [ir] at hq; omega
          refine ih _ _ _ _ _ r h hlo1 (fun q => ?_) rfl (by simp [hlen]) (hsnoc _ _ ⟨fun q hq => ?_, fun q hq => ?_⟩) hc hk
          · simp only
            rw [og _ _ _ _ iq]
            by_cases hq : q ∈ F ++ dh st'.nx (bc.nx - st'.nx)
            · rw [if_pos hq, e2]
              by_cases hw : q ∈ ww
              · rw [if_pos hw]
              · rw [if_neg hw, hmask]
                have hqF : q ∈ F := by
                  rcases List.mem_append.1 hq with hq | hq
                  · exact hq
                  · rw [ir] at hq
                    exact absurd (k5 q (by omega) (by omega)) hw
                rw [if_pos hqF, hh q]
                exact (k6 q hw).symm
            · rw [if_neg hq]
              have hw : q ∉ ww := fun hw => hq (by
                rcases Nat.lt_or_ge q st.nx with h9 | h9
                · exact List.mem_append.2 (.inl ((mF q).2 ⟨.inr hw, h9⟩))
                · refine List.mem_append.2 (.inr ?_)
                  rw [ir]
                  have := k4 q hw
                  omega)
              rw [hh q]
              exact (k6 q hw).symm
          · simp only [k3]
            rcases List.mem_append.1 hq with hq | hq
            · exact ((mW q).1 hq).1
            · rw [ir] at hq
              simp only at hq
              exact k5 q (by omega) (by omega)
          · simp only [k2, k3]
            exact ((mF q).1 hq).1
      | false =>
        refine .inr ⟨hb, ?_⟩
        simp only at h
        exact ih _ _ _ _ _ r h hlo hh hnx (by simp [hlen]) (hsnoc _ _ ⟨fun o ho => ho, fun o ho => .inl ho⟩) hc hk
end
end Go.Vm
