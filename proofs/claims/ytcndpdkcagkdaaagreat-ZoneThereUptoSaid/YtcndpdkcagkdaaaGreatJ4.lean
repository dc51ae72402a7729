/- A piece of the proof. Proved: where the arguments are together of bulk at most 1048576, the law ZoneThere returns true (which names are there), and what it was given reads afterwards as it did before. No other conditions. -/
import Derived.WalkKit
import Derived.CallsIn
import Derived.RangeFuncIn
import Derived.RangeFuncLeaves
import Derived.Orders
import Derived.OrdersIn
import Derived.Scope
import Derived.RangeFuncOwn
import Derived.Stop.SameAnswer
import Derived.Laws.Externs
import Derived.Lib.Bytealg
import Derived.ProofKit
import Derived.OpenShut
import Derived.ReadAgain
import Derived.Deep.Slices
import Derived.ChangeSame
import Derived.Test.YtcndpdkcagkdaaaGreatProg
import Derived.KernelRfl
import Derived.Test.YtcndpdkcagkdaaaGreatRows
import Derived.Maps.RangeRun
import Derived.JoinedCond
import Derived.Test.YtcndpdkcagkdaaaGreatJ3
set_option linter.unusedSimpArgs false
set_option linter.unusedVariables false
section
set_option linter.unusedSimpArgs false
set_option linter.unusedVariables false
namespace Go.Proofs.YtcndpdkcagkdaaaGreat
open Go.Vm
set_option maxRecDepth 2000000
def needE (b : Bool) (err e : Int) : Int := if e = 0 ∧ b = false then err else e
def eachE (err : Int) (p : Nat → RSet → Bool) : Nat → List RSet → Int → Int
  | _, [], e => e
  | i, s :: r, e => if e ≠ 0 then e else eachE err p (i + 1) r (needE (p i s) err e)
def sumData (l : List RSet) : Nat := l.foldl (fun n s => n + s.data.length) 0
noncomputable def setsE : List RSet → Int → Int
  | [], e => e
  | s :: r, e => setsE r (if e = 0 then setErr s else e)
noncomputable def firstV (z : RZone) : Int := if nameErr z.origin ≠ 0 then nameErr z.origin else setsE z.sets (needE (decide (sumData z.sets ≤ 2048)) 3 0)
def apexL (z : RZone) (l : List RSet) : Bool := l.any fun s => decide ((s.type.toNat : Int) = 2) && sameN s.owner z.origin
def apexV (z : RZone) : Bool := apexL z z.sets
theorem apexL_at {z : RZone} {l : List RSet} {i : Nat} {c : RSet} (h : l.drop i = c :: l.drop (i + 1)) : apexL z (l.drop i) = ((decide ((c.type.toNat : Int) = 2) && sameN c.owner z.origin) || apexL z (l.drop (i + 1))) := by rw [h]; rfl
noncomputable def zoneE1 (z : RZone) : Int := eachE 260 (risesV z) 0 z.sets (firstV z)
noncomputable def zoneE2 (z : RZone) : Int := eachE 261 (fun _ s => classV s) 0 z.sets (zoneE1 z)
noncomputable def zoneE3 (z : RZone) : Int := eachE 262 (fun _ s => underN s.owner z.origin) 0 z.sets (zoneE2 z)
noncomputable def zoneE4 (z : RZone) : Int := needE (decide ((soasV z).1 = 1) && decide ((soasV z).2 = 1)) 263 (zoneE3 z)
noncomputable def zoneE5 (z : RZone) : Int := needE (apexV z) 264 (zoneE4 z)
noncomputable def zoneE6 (z : RZone) : Int := eachE 265 (aloneV z) 0 z.sets (zoneE5 z)
noncomputable def zoneE7 (z : RZone) : Int := eachE 266 (fun _ s => starV s) 0 z.sets (zoneE6 z)
noncomputable def zoneE8 (z : RZone) : Int := eachE 267 (fun _ s => occV z s) 0 z.sets (zoneE7 z)
noncomputable def zoneErr (z : RZone) : Int := if firstV z ≠ 0 then firstV z else zoneE8 z
theorem sumData_take (l : List RSet) (i : Nat) (c : RSet) (h : l[i]? = some c) : sumData (l.take (i + 1)) = sumData (l.take i) + c.data.length := by
  obtain ⟨hk, rfl⟩ := List.getElem?_eq_some_iff.1 h
  rw [List.take_succ_eq_append_getElem hk]; simp only [sumData, List.foldl_append, List.foldl_cons, List.foldl_nil]
theorem sumData_from (l : List RSet) : ∀ k, l.foldl (fun n s => n + s.data.length) k ≤ k + wtL wtS l := by
  induction l with
  | nil => intro k; exact Nat.le_refl _
  | cons a l ih =>
    intro k
    have h1 := ih (k + a.data.length)
    have h2 := wtL_len wtD a.data
    simp only [wtL, List.foldr_cons, List.foldl_cons, wtS] at h1 ⊢
    unfold wtL at h2
    omega
theorem sumData_le (l : List RSet) : sumData l ≤ wtL wtS l := by have := sumData_from l 0; unfold sumData; omega
theorem setsE_at {l : List RSet} {i : Nat} {c : RSet} (h : l.drop i = c :: l.drop (i + 1)) (e : Int) : setsE (l.drop i) e = setsE (l.drop (i + 1)) (if e = 0 then setErr c else e) := by rw [h]; rfl
theorem eachE_at {l : List RSet} {i : Nat} {c : RSet} (h : l.drop i = c :: l.drop (i + 1)) (err : Int) (p : Nat → RSet → Bool) (e : Int) : eachE err p i (l.drop i) e = if e ≠ 0 then e else eachE err p (i + 1) (l.drop (i + 1)) (needE (p i c) err e) := by rw [h]; rfl
set_option maxHeartbeats 4000000 in
theorem zoneCheck_wl (z : RZone) (hz : smallZ z) : wl PP [nameCheck, nameSame, setCheck, zRises, zAlone, zClass, zInside, zStar, zOcc, zSoas] 0 (Tryz.f6.body.getD .skip) (retQ PP Tryz.f6.results.toList (fun r st => (r1 (codInt .i64)).get true st.h r = some (zoneErr z))) (argsL 0 [codZone.val false z]) (stK []) := by
  have hl := hz.len
  have ok : TabOk PP [nameCheck, nameSame, setCheck, zRises, zAlone, zClass, zInside, zStar, zOcc, zSoas] := TabOk.cons (pure_entry nameCheck_pure) (TabOk.cons (pure_entry nameSame_pure) (TabOk.cons (pure_entry setCheck_pure) (TabOk.cons (pure_entry zRises_pure) (TabOk.cons (pure_entry zAlone_pure) (TabOk.cons (pure_entry zClass_pure) (TabOk.cons (pure_entry zInside_pure) (TabOk.cons (pure_entry zStar_pure) (TabOk.cons (pure_entry zOcc_pure) (TabOk.cons (pure_entry zSoas_pure) (TabOk.nil PP))))))))))
  unfold Tryz.f6
  simp only [codZone_val]
  simp only [↓wR, RA, simprocAttr, TF, CD0]
  refine callAt_join (fun r st' => r = .tup [] ∧ st' = stK [some (.row [.vl false 1 (z.origin.map (codStr.val false)), .vl false 5 (z.sets.map (codSet.val false))] 0 2 26), some (.row [.vl false 1 (z.origin.map (codStr.val false)), .vl false 5 (z.sets.map (codSet.val false)), .sc (.int .i64 (firstV z))] 0 2 52)]) rfl ?_ ?_
  · refine callAt_of_wl (T := [nameCheck, nameSame, setCheck, zRises, zAlone, zClass, zInside, zStar, zOcc, zSoas]) ok mixed Tryz.func16 rfl (by kernel_rfl) (by kernel_rfl) (by kernel_rfl) (by kernel_rfl) ?_; unfold Tryz.f16
    simp only [↓wR, RA, simprocAttr, TF, CD0, nameCheckF, hz.origin.fit]
    unfold firstV
    rw [boolK_b]; refine ⟨fun h => ?_, fun h => ?_⟩
    · have he : nameErr z.origin ≠ 0 := by simpa using h
      rw [if_pos he]
      simp only [↓wR, RA, simprocAttr, TF, CD0, h, cjV, cjS, cjN, namesAt]
    have he : nameErr z.origin = 0 := by simpa using h
    rw [if_neg (by omega)]
    simp only [↓wR, RA, simprocAttr, TF, CD0, h, he]
    refine loop_of [0, 2, 25, 26, 27] (fun (i : Nat) => [.ptr 1 0, .sc (.int .i64 (sumData (z.sets.take i))), .vl false 5 (z.sets.map (codSet.val false)), .sc (.int .i64 (z.sets.length)), .sc (.int .i64 (i))]) (fun _ => [some (.row [.vl false 1 (z.origin.map (codStr.val false)), .vl false 5 (z.sets.map (codSet.val false))] 0 2 26), some (.row [.vl false 1 (z.origin.map (codStr.val false)), .vl false 5 (z.sets.map (codSet.val false)), .sc (.int .i64 (0))] 0 2 52)]) (fun i => i ≤ z.sets.length) (fun i => z.sets.length - i) 0 (Nat.zero_le _) (by simp only [↓wR, RA, simprocAttr, TF, CD0] <;> rfl) (by simp only [↓wR, RA, simprocAttr, TF, CD0] <;> rfl) ?_
    clear h
    intro i hi
    have hsum := sumData_le (z.sets.take i)
    have hsum2 := wtL_take wtS z.sets i
    have hzz : wtL wtS z.sets ≤ 16777216 := by unfold smallZ wtZ at hz; omega
    simp only [↓wR, RA, simprocAttr, TF, CD0]
    rw [boolK_d]; refine ⟨fun h => ?_, fun h => ?_⟩
    · obtain ⟨c, hc, hd1, hlt⟩ := at_lt (decide_eq_true h)
      have hst := sumData_take z.sets i c hc
      have hcl := (hz.set c (List.mem_of_getElem? hc)).data.len
      simp only [↓wR, RA, simprocAttr, TF, CD0, h, hc]; repeat (simp (disch := omega) only [wrapI64, dleN, dltN, dleI, dltI]; try simp only [↓wR, RA, simprocAttr, TF, CD0, h, hc])
      exact ⟨i + 1, hlt, by omega, by rw [hst]; (first | rfl | trivial | omega | (simp (disch := omega) only [wrapI64]; first | done | rfl | (simp only [List.cons.injEq, accV_snoc, accO_snoc, List.length_append, List.length_cons, List.length_nil, List.map_append, List.map_cons, List.map_nil, and_true, true_and, and_self, AV.sc.injEq, AV.sl.injEq, AObj.row.injEq, Option.some.injEq, Value.int.injEq, Nat.zero_add]; first | done | rfl | omega)) | (simp only [List.cons.injEq, accV_snoc, accO_snoc, List.length_append, List.length_cons, List.length_nil, List.map_append, List.map_cons, List.map_nil, and_true, true_and, and_self, AV.sc.injEq, AV.sl.injEq, AObj.row.injEq, Option.some.injEq, Value.int.injEq, Nat.zero_add]; first | done | rfl | omega))⟩
    have hin : i = z.sets.length := by omega
    rw [hin, List.take_length] at hsum ⊢
    simp only [↓wR, RA, simprocAttr, TF, CD0, h]
    have hd : decide ((sumData z.sets : Int) ≤ 2048) = decide (sumData z.sets ≤ 2048) := by rw [decide_eq_decide]; omega
    rw [hd]
    refine callAt_join (fun r st' => r = .tup [] ∧ st' = stK [some (.row [.vl false 1 (z.origin.map (codStr.val false)), .vl false 5 (z.sets.map (codSet.val false))] 0 2 26), some (.row [.vl false 1 (z.origin.map (codStr.val false)), .vl false 5 (z.sets.map (codSet.val false)), .sc (.int .i64 (needE (decide (sumData z.sets ≤ 2048)) 3 (0)))] 0 2 52)]) rfl ?_ ?_
    · refine callAt_of_wl (T := [nameCheck, nameSame, setCheck, zRises, zAlone, zClass, zInside, zStar, zOcc, zSoas]) ok mixed Tryz.func22 rfl (by kernel_rfl) (by kernel_rfl) (by kernel_rfl) (by kernel_rfl) ?_; unfold Tryz.f22
      simp only [↓wR, RA, simprocAttr, TF, CD0]
      rw [boolK_b]; refine ⟨fun hn2 => ?_, fun hn2 => ?_⟩
      · have hb : (decide (sumData z.sets ≤ 2048)) = false := by simpa only [Bool.not_eq_true'] using hn2
        have hv : needE (decide (sumData z.sets ≤ 2048)) 3 (0) = 3 := by unfold needE; rw [if_pos ⟨rfl, hb⟩]
        simp only [↓wR, RA, simprocAttr, TF, CD0, hn2, cjV, cjS, cjN, namesAt]
        try rw [hv]
      · have hb : (decide (sumData z.sets ≤ 2048)) = true := by simpa only [Bool.not_eq_false'] using hn2
        have hv : needE (decide (sumData z.sets ≤ 2048)) 3 (0) = 0 := by unfold needE; rw [if_neg (fun q => by rw [hb] at q; cases q.2)]
        simp only [↓wR, RA, simprocAttr, TF, CD0, hn2, cjV, cjS, cjN, namesAt]
        try rw [hv]
    rintro _ _ ⟨rfl, rfl⟩
    simp only [↓wR, RA, simprocAttr, TF, CD0, contK]
    refine loop_of [0, 45, 46, 47] (fun (x : Nat × Int) => [.ptr 1 0, .vl false 5 (z.sets.map (codSet.val false)), .sc (.int .i64 (z.sets.length)), .sc (.int .i64 (x.1))]) (fun x => [some (.row [.vl false 1 (z.origin.map (codStr.val false)), .vl false 5 (z.sets.map (codSet.val false))] 0 2 26), some (.row [.vl false 1 (z.origin.map (codStr.val false)), .vl false 5 (z.sets.map (codSet.val false)), .sc (.int .i64 (x.2))] 0 2 52)]) (fun x => x.1 ≤ z.sets.length ∧ setsE z.sets (needE (decide (sumData z.sets ≤ 2048)) 3 0) = setsE (z.sets.drop x.1) x.2) (fun x => z.sets.length - x.1) (0, needE (decide (sumData z.sets ≤ 2048)) 3 0) ⟨Nat.zero_le _, rfl⟩ (by simp only [↓wR, RA, simprocAttr, TF, CD0] <;> rfl) (by simp only [↓wR, RA, simprocAttr, TF, CD0] <;> rfl) ?_
    clear h hi hin hd
    rintro ⟨i, e⟩ ⟨hi, hx⟩
    simp only at hi hx
    simp only [↓wR, RA, simprocAttr, TF, CD0]
    rw [boolK_d]; refine ⟨fun h => ?_, fun h => ?_⟩
    · obtain ⟨c, hc, hd1, hlt⟩ := at_lt (decide_eq_true h)
      rw [setsE_at hd1] at hx
      have hcs := hz.set c (List.mem_of_getElem? hc)
      simp only [↓wR, RA, simprocAttr, TF, CD0, h, hc]
      rw [boolK_eqI]; refine ⟨fun ⟨h1, e1⟩ => ?_, fun ⟨h1, e1⟩ => ?_⟩
      · rw [if_pos e1] at hx
        simp only [↓wR, RA, simprocAttr, TF, CD0, h1, setCheckF, hcs]; repeat (simp (disch := omega) only [wrapI64, dleN, dltN, dleI, dltI]; try simp only [↓wR, RA, simprocAttr, TF, CD0, h1, setCheckF, hcs])
        exact ⟨(i + 1, setErr c), ⟨hlt, hx⟩, by simp; omega, by (first | rfl | trivial | omega | (simp (disch := omega) only [wrapI64]; first | done | rfl | (simp only [List.cons.injEq, accV_snoc, accO_snoc, List.length_append, List.length_cons, List.length_nil, List.map_append, List.map_cons, List.map_nil, and_true, true_and, and_self, AV.sc.injEq, AV.sl.injEq, AObj.row.injEq, Option.some.injEq, Value.int.injEq, Nat.zero_add]; first | done | rfl | omega)) | (simp only [List.cons.injEq, accV_snoc, accO_snoc, List.length_append, List.length_cons, List.length_nil, List.map_append, List.map_cons, List.map_nil, and_true, true_and, and_self, AV.sc.injEq, AV.sl.injEq, AObj.row.injEq, Option.some.injEq, Value.int.injEq, Nat.zero_add]; first | done | rfl | omega)), by (first | rfl | trivial | omega | (simp (disch := omega) only [wrapI64]; first | done | rfl | (simp only [List.cons.injEq, accV_snoc, accO_snoc, List.length_append, List.length_cons, List.length_nil, List.map_append, List.map_cons, List.map_nil, and_true, true_and, and_self, AV.sc.injEq, AV.sl.injEq, AObj.row.injEq, Option.some.injEq, Value.int.injEq, Nat.zero_add]; first | done | rfl | omega)) | (simp only [List.cons.injEq, accV_snoc, accO_snoc, List.length_append, List.length_cons, List.length_nil, List.map_append, List.map_cons, List.map_nil, and_true, true_and, and_self, AV.sc.injEq, AV.sl.injEq, AObj.row.injEq, Option.some.injEq, Value.int.injEq, Nat.zero_add]; first | done | rfl | omega))⟩
      · rw [if_neg e1] at hx
        simp only [↓wR, RA, simprocAttr, TF, CD0, h1]; repeat (simp (disch := omega) only [wrapI64, dleN, dltN, dleI, dltI]; try simp only [↓wR, RA, simprocAttr, TF, CD0, h1])
        exact ⟨(i + 1, e), ⟨hlt, hx⟩, by simp; omega, by (first | rfl | trivial | omega | (simp (disch := omega) only [wrapI64]; first | done | rfl | (simp only [List.cons.injEq, accV_snoc, accO_snoc, List.length_append, List.length_cons, List.length_nil, List.map_append, List.map_cons, List.map_nil, and_true, true_and, and_self, AV.sc.injEq, AV.sl.injEq, AObj.row.injEq, Option.some.injEq, Value.int.injEq, Nat.zero_add]; first | done | rfl | omega)) | (simp only [List.cons.injEq, accV_snoc, accO_snoc, List.length_append, List.length_cons, List.length_nil, List.map_append, List.map_cons, List.map_nil, and_true, true_and, and_self, AV.sc.injEq, AV.sl.injEq, AObj.row.injEq, Option.some.injEq, Value.int.injEq, Nat.zero_add]; first | done | rfl | omega)), by (first | rfl | trivial | omega | (simp (disch := omega) only [wrapI64]; first | done | rfl | (simp only [List.cons.injEq, accV_snoc, accO_snoc, List.length_append, List.length_cons, List.length_nil, List.map_append, List.map_cons, List.map_nil, and_true, true_and, and_self, AV.sc.injEq, AV.sl.injEq, AObj.row.injEq, Option.some.injEq, Value.int.injEq, Nat.zero_add]; first | done | rfl | omega)) | (simp only [List.cons.injEq, accV_snoc, accO_snoc, List.length_append, List.length_cons, List.length_nil, List.map_append, List.map_cons, List.map_nil, and_true, true_and, and_self, AV.sc.injEq, AV.sl.injEq, AObj.row.injEq, Option.some.injEq, Value.int.injEq, Nat.zero_add]; first | done | rfl | omega))⟩
    · rw [at_ge (decide_eq_false h)] at hx
      simp only [↓wR, RA, simprocAttr, TF, CD0, h, cjV, cjS, cjN, namesAt]
      rw [hx]; rfl
  rintro _ _ ⟨rfl, rfl⟩
  simp only [↓wR, RA, simprocAttr, TF, CD0, contK]
  unfold zoneErr
  rw [boolK_b]; refine ⟨fun h => ?_, fun h => ?_⟩
  · have he : firstV z ≠ 0 := by simpa using h
    rw [if_pos he]
    simp only [↓wR, RA, simprocAttr, TF, CD0, h]
  have he : firstV z = 0 := by simpa using h
  rw [if_neg (by omega)]
  simp only [↓wR, RA, simprocAttr, TF, CD0, h]
  clear h he
  obtain ⟨e0, he0⟩ : ∃ e0, firstV z = e0 := ⟨_, rfl⟩
  rw [he0]
  refine callAt_join (fun r st' => r = .tup [] ∧ st' = stK [some (.row [.vl false 1 (z.origin.map (codStr.val false)), .vl false 5 (z.sets.map (codSet.val false))] 0 2 26), some (.row [.vl false 1 (z.origin.map (codStr.val false)), .vl false 5 (z.sets.map (codSet.val false)), .sc (.int .i64 (eachE 260 (risesV z) 0 z.sets e0))] 0 2 52)]) rfl ?_ ?_
  · refine callAt_of_wl (T := [nameCheck, nameSame, setCheck, zRises, zAlone, zClass, zInside, zStar, zOcc, zSoas]) ok mixed Tryz.func17 rfl (by kernel_rfl) (by kernel_rfl) (by kernel_rfl) (by kernel_rfl) ?_; unfold Tryz.f17
    simp only [↓wR, RA, simprocAttr, TF, CD0]
    refine loop_of [0, 1, 2, 12, 13, 14] (fun (x : Nat × Int) => [.ptr 1 0, .sc (.int .i64 (260)), .fn (.func 18) [.ptr 1 0] [], .vl false 5 (z.sets.map (codSet.val false)), .sc (.int .i64 (z.sets.length)), .sc (.int .i64 (x.1))]) (fun x => [some (.row [.vl false 1 (z.origin.map (codStr.val false)), .vl false 5 (z.sets.map (codSet.val false))] 0 2 26), some (.row [.vl false 1 (z.origin.map (codStr.val false)), .vl false 5 (z.sets.map (codSet.val false)), .sc (.int .i64 (x.2))] 0 2 52)]) (fun x => x.1 ≤ z.sets.length ∧ eachE 260 (risesV z) 0 z.sets e0 = eachE 260 (risesV z) x.1 (z.sets.drop x.1) x.2) (fun x => z.sets.length - x.1) (0, e0) ⟨Nat.zero_le _, rfl⟩ (by simp only [↓wR, RA, simprocAttr, TF, CD0] <;> rfl) (by simp only [↓wR, RA, simprocAttr, TF, CD0] <;> rfl) ?_
    rintro ⟨i, e⟩ ⟨hi, hx⟩
    simp only at hi hx
    simp only [↓wR, RA, simprocAttr, TF, CD0]
    rw [boolK_d]; refine ⟨fun h => ?_, fun h => ?_⟩
    · obtain ⟨c, hc, hd1, hlt⟩ := at_lt (decide_eq_true h)
      rw [eachE_at hd1] at hx
      have hcs := hz.set c (List.mem_of_getElem? hc)
      have hi2 : (0 : Int) ≤ i ∧ (i : Int) ≤ z.sets.length := by omega
      simp only [↓wR, RA, simprocAttr, TF, CD0, h, hc]
      rw [boolK_neI]; refine ⟨fun ⟨h1, e1⟩ => ?_, fun ⟨h1, e1⟩ => ?_⟩
      · rw [if_pos e1] at hx
        simp only [↓wR, RA, simprocAttr, TF, CD0, h1, cjV, cjS, cjN, namesAt]
        rw [hx]
      · rw [if_neg (by omega)] at hx
        simp only [↓wR, RA, simprocAttr, TF, CD0, h1, hcs, hz, hi2, zRisesF]
        refine callAt_join (fun r st' => r = .tup [] ∧ st' = stK [some (.row [.vl false 1 (z.origin.map (codStr.val false)), .vl false 5 (z.sets.map (codSet.val false))] 0 2 26), some (.row [.vl false 1 (z.origin.map (codStr.val false)), .vl false 5 (z.sets.map (codSet.val false)), .sc (.int .i64 (needE ((risesV z) i c) 260 e))] 0 2 52), some (.row [.vl false 1 (c.owner.map (codStr.val false)), .sc (.int .u16 c.type.toNat), .sc (.int .u16 c.cls.toNat), .sc (.int .u32 c.ttl.toNat), .vl false 4 (c.data.map (codData.val false))] 0 2 39)]) rfl ?_ ?_
        · refine callAt_of_wl (T := [nameCheck, nameSame, setCheck, zRises, zAlone, zClass, zInside, zStar, zOcc, zSoas]) ok mixed Tryz.func22 rfl (by kernel_rfl) (by kernel_rfl) (by kernel_rfl) (by kernel_rfl) ?_; unfold Tryz.f22
          simp only [↓wR, RA, simprocAttr, TF, CD0, e1]
          rw [boolK_b]; refine ⟨fun hn2 => ?_, fun hn2 => ?_⟩
          · have hb : ((risesV z) i c) = false := by simpa only [Bool.not_eq_true'] using hn2
            have hv : needE ((risesV z) i c) 260 0 = 260 := by unfold needE; rw [if_pos ⟨rfl, hb⟩]
            simp only [↓wR, RA, simprocAttr, TF, CD0, hn2, cjV, cjS, cjN, namesAt]
            try rw [hv]
          · have hb : ((risesV z) i c) = true := by simpa only [Bool.not_eq_false'] using hn2
            have hv : needE ((risesV z) i c) 260 0 = 0 := by unfold needE; rw [if_neg (fun q => by rw [hb] at q; cases q.2)]
            simp only [↓wR, RA, simprocAttr, TF, CD0, hn2, cjV, cjS, cjN, namesAt]
            try rw [hv]
        rintro _ _ ⟨rfl, rfl⟩
        simp only [↓wR, RA, simprocAttr, TF, CD0, contK]; repeat (simp (disch := omega) only [wrapI64, dleN, dltN, dleI, dltI]; try simp only [↓wR, RA, simprocAttr, TF, CD0, contK])
        exact ⟨(i + 1, needE ((risesV z) i c) 260 e), ⟨hlt, hx⟩, by simp; omega, by (first | rfl | trivial | omega | (simp (disch := omega) only [wrapI64]; first | done | rfl | (simp only [List.cons.injEq, accV_snoc, accO_snoc, List.length_append, List.length_cons, List.length_nil, List.map_append, List.map_cons, List.map_nil, and_true, true_and, and_self, AV.sc.injEq, AV.sl.injEq, AObj.row.injEq, Option.some.injEq, Value.int.injEq, Nat.zero_add]; first | done | rfl | omega)) | (simp only [List.cons.injEq, accV_snoc, accO_snoc, List.length_append, List.length_cons, List.length_nil, List.map_append, List.map_cons, List.map_nil, and_true, true_and, and_self, AV.sc.injEq, AV.sl.injEq, AObj.row.injEq, Option.some.injEq, Value.int.injEq, Nat.zero_add]; first | done | rfl | omega)), by (first | rfl | trivial | omega | (simp (disch := omega) only [wrapI64]; first | done | rfl | (simp only [List.cons.injEq, accV_snoc, accO_snoc, List.length_append, List.length_cons, List.length_nil, List.map_append, List.map_cons, List.map_nil, and_true, true_and, and_self, AV.sc.injEq, AV.sl.injEq, AObj.row.injEq, Option.some.injEq, Value.int.injEq, Nat.zero_add]; first | done | rfl | omega)) | (simp only [List.cons.injEq, accV_snoc, accO_snoc, List.length_append, List.length_cons, List.length_nil, List.map_append, List.map_cons, List.map_nil, and_true, true_and, and_self, AV.sc.injEq, AV.sl.injEq, AObj.row.injEq, Option.some.injEq, Value.int.injEq, Nat.zero_add]; first | done | rfl | omega))⟩
    · rw [at_ge (decide_eq_false h)] at hx
      simp only [↓wR, RA, simprocAttr, TF, CD0, h, cjV, cjS, cjN, namesAt]
      rw [hx]; rfl
  rintro _ _ ⟨rfl, rfl⟩
  rw [← he0]
  clear he0
  simp only [↓wR, RA, simprocAttr, TF, CD0, contK]
  rw [show eachE 260 (risesV z) 0 z.sets (firstV z) = zoneE1 z from rfl]
  obtain ⟨e0, he0⟩ : ∃ e0, zoneE1 z = e0 := ⟨_, rfl⟩
  rw [he0]
  refine callAt_join (fun r st' => r = .tup [] ∧ st' = stK [some (.row [.vl false 1 (z.origin.map (codStr.val false)), .vl false 5 (z.sets.map (codSet.val false))] 0 2 26), some (.row [.vl false 1 (z.origin.map (codStr.val false)), .vl false 5 (z.sets.map (codSet.val false)), .sc (.int .i64 (eachE 261 (fun _ s => classV s) 0 z.sets e0))] 0 2 52)]) rfl ?_ ?_
  · refine callAt_of_wl (T := [nameCheck, nameSame, setCheck, zRises, zAlone, zClass, zInside, zStar, zOcc, zSoas]) ok mixed Tryz.func17 rfl (by kernel_rfl) (by kernel_rfl) (by kernel_rfl) (by kernel_rfl) ?_; unfold Tryz.f17
    simp only [↓wR, RA, simprocAttr, TF, CD0]
    refine loop_of [0, 1, 2, 12, 13, 14] (fun (x : Nat × Int) => [.ptr 1 0, .sc (.int .i64 (261)), .sc (.func (.func 19) #[] #[]), .vl false 5 (z.sets.map (codSet.val false)), .sc (.int .i64 (z.sets.length)), .sc (.int .i64 (x.1))]) (fun x => [some (.row [.vl false 1 (z.origin.map (codStr.val false)), .vl false 5 (z.sets.map (codSet.val false))] 0 2 26), some (.row [.vl false 1 (z.origin.map (codStr.val false)), .vl false 5 (z.sets.map (codSet.val false)), .sc (.int .i64 (x.2))] 0 2 52)]) (fun x => x.1 ≤ z.sets.length ∧ eachE 261 (fun _ s => classV s) 0 z.sets e0 = eachE 261 (fun _ s => classV s) x.1 (z.sets.drop x.1) x.2) (fun x => z.sets.length - x.1) (0, e0) ⟨Nat.zero_le _, rfl⟩ (by simp only [↓wR, RA, simprocAttr, TF, CD0] <;> rfl) (by simp only [↓wR, RA, simprocAttr, TF, CD0] <;> rfl) ?_
    rintro ⟨i, e⟩ ⟨hi, hx⟩
    simp only at hi hx
    simp only [↓wR, RA, simprocAttr, TF, CD0]
    rw [boolK_d]; refine ⟨fun h => ?_, fun h => ?_⟩
    · obtain ⟨c, hc, hd1, hlt⟩ := at_lt (decide_eq_true h)
      rw [eachE_at hd1] at hx
      have hcs := hz.set c (List.mem_of_getElem? hc)
      have hi2 : (0 : Int) ≤ i ∧ (i : Int) ≤ z.sets.length := by omega
      simp only [↓wR, RA, simprocAttr, TF, CD0, h, hc]
      rw [boolK_neI]; refine ⟨fun ⟨h1, e1⟩ => ?_, fun ⟨h1, e1⟩ => ?_⟩
      · rw [if_pos e1] at hx
        simp only [↓wR, RA, simprocAttr, TF, CD0, h1, cjV, cjS, cjN, namesAt]
        rw [hx]
      · rw [if_neg (by omega)] at hx
        simp only [↓wR, RA, simprocAttr, TF, CD0, h1, hcs, hz, hi2, zClassF]
        refine callAt_join (fun r st' => r = .tup [] ∧ st' = stK [some (.row [.vl false 1 (z.origin.map (codStr.val false)), .vl false 5 (z.sets.map (codSet.val false))] 0 2 26), some (.row [.vl false 1 (z.origin.map (codStr.val false)), .vl false 5 (z.sets.map (codSet.val false)), .sc (.int .i64 (needE ((fun _ s => classV s) i c) 261 e))] 0 2 52), some (.row [.vl false 1 (c.owner.map (codStr.val false)), .sc (.int .u16 c.type.toNat), .sc (.int .u16 c.cls.toNat), .sc (.int .u32 c.ttl.toNat), .vl false 4 (c.data.map (codData.val false))] 0 2 39)]) rfl ?_ ?_
        · refine callAt_of_wl (T := [nameCheck, nameSame, setCheck, zRises, zAlone, zClass, zInside, zStar, zOcc, zSoas]) ok mixed Tryz.func22 rfl (by kernel_rfl) (by kernel_rfl) (by kernel_rfl) (by kernel_rfl) ?_; unfold Tryz.f22
          simp only [↓wR, RA, simprocAttr, TF, CD0, e1]
          rw [boolK_b]; refine ⟨fun hn2 => ?_, fun hn2 => ?_⟩
          · have hb : ((fun _ s => classV s) i c) = false := by simpa only [Bool.not_eq_true'] using hn2
            have hv : needE ((fun _ s => classV s) i c) 261 0 = 261 := by unfold needE; rw [if_pos ⟨rfl, hb⟩]
            simp only [↓wR, RA, simprocAttr, TF, CD0, hn2, cjV, cjS, cjN, namesAt]
            try rw [hv]
          · have hb : ((fun _ s => classV s) i c) = true := by simpa only [Bool.not_eq_false'] using hn2
            have hv : needE ((fun _ s => classV s) i c) 261 0 = 0 := by unfold needE; rw [if_neg (fun q => by rw [hb] at q; cases q.2)]
            simp only [↓wR, RA, simprocAttr, TF, CD0, hn2, cjV, cjS, cjN, namesAt]
            try rw [hv]
        rintro _ _ ⟨rfl, rfl⟩
        simp only [↓wR, RA, simprocAttr, TF, CD0, contK]; repeat (simp (disch := omega) only [wrapI64, dleN, dltN, dleI, dltI]; try simp only [↓wR, RA, simprocAttr, TF, CD0, contK])
        exact ⟨(i + 1, needE ((fun _ s => classV s) i c) 261 e), ⟨hlt, hx⟩, by simp; omega, by (first | rfl | trivial | omega | (simp (disch := omega) only [wrapI64]; first | done | rfl | (simp only [List.cons.injEq, accV_snoc, accO_snoc, List.length_append, List.length_cons, List.length_nil, List.map_append, List.map_cons, List.map_nil, and_true, true_and, and_self, AV.sc.injEq, AV.sl.injEq, AObj.row.injEq, Option.some.injEq, Value.int.injEq, Nat.zero_add]; first | done | rfl | omega)) | (simp only [List.cons.injEq, accV_snoc, accO_snoc, List.length_append, List.length_cons, List.length_nil, List.map_append, List.map_cons, List.map_nil, and_true, true_and, and_self, AV.sc.injEq, AV.sl.injEq, AObj.row.injEq, Option.some.injEq, Value.int.injEq, Nat.zero_add]; first | done | rfl | omega)), by (first | rfl | trivial | omega | (simp (disch := omega) only [wrapI64]; first | done | rfl | (simp only [List.cons.injEq, accV_snoc, accO_snoc, List.length_append, List.length_cons, List.length_nil, List.map_append, List.map_cons, List.map_nil, and_true, true_and, and_self, AV.sc.injEq, AV.sl.injEq, AObj.row.injEq, Option.some.injEq, Value.int.injEq, Nat.zero_add]; first | done | rfl | omega)) | (simp only [List.cons.injEq, accV_snoc, accO_snoc, List.length_append, List.length_cons, List.length_nil, List.map_append, List.map_cons, List.map_nil, and_true, true_and, and_self, AV.sc.injEq, AV.sl.injEq, AObj.row.injEq, Option.some.injEq, Value.int.injEq, Nat.zero_add]; first | done | rfl | omega))⟩
    · rw [at_ge (decide_eq_false h)] at hx
      simp only [↓wR, RA, simprocAttr, TF, CD0, h, cjV, cjS, cjN, namesAt]
      rw [hx]; rfl
  rintro _ _ ⟨rfl, rfl⟩
  rw [← he0]
  clear he0
  simp only [↓wR, RA, simprocAttr, TF, CD0, contK]
  rw [show eachE 261 (fun _ s => classV s) 0 z.sets (zoneE1 z) = zoneE2 z from rfl]
  obtain ⟨e0, he0⟩ : ∃ e0, zoneE2 z = e0 := ⟨_, rfl⟩
  rw [he0]
  refine callAt_join (fun r st' => r = .tup [] ∧ st' = stK [some (.row [.vl false 1 (z.origin.map (codStr.val false)), .vl false 5 (z.sets.map (codSet.val false))] 0 2 26), some (.row [.vl false 1 (z.origin.map (codStr.val false)), .vl false 5 (z.sets.map (codSet.val false)), .sc (.int .i64 (eachE 262 (fun _ s => underN s.owner z.origin) 0 z.sets e0))] 0 2 52)]) rfl ?_ ?_
  · refine callAt_of_wl (T := [nameCheck, nameSame, setCheck, zRises, zAlone, zClass, zInside, zStar, zOcc, zSoas]) ok mixed Tryz.func17 rfl (by kernel_rfl) (by kernel_rfl) (by kernel_rfl) (by kernel_rfl) ?_; unfold Tryz.f17
    simp only [↓wR, RA, simprocAttr, TF, CD0]
    refine loop_of [0, 1, 2, 12, 13, 14] (fun (x : Nat × Int) => [.ptr 1 0, .sc (.int .i64 (262)), .fn (.func 20) [] [.ptr 0 0], .vl false 5 (z.sets.map (codSet.val false)), .sc (.int .i64 (z.sets.length)), .sc (.int .i64 (x.1))]) (fun x => [some (.row [.vl false 1 (z.origin.map (codStr.val false)), .vl false 5 (z.sets.map (codSet.val false))] 0 2 26), some (.row [.vl false 1 (z.origin.map (codStr.val false)), .vl false 5 (z.sets.map (codSet.val false)), .sc (.int .i64 (x.2))] 0 2 52)]) (fun x => x.1 ≤ z.sets.length ∧ eachE 262 (fun _ s => underN s.owner z.origin) 0 z.sets e0 = eachE 262 (fun _ s => underN s.owner z.origin) x.1 (z.sets.drop x.1) x.2) (fun x => z.sets.length - x.1) (0, e0) ⟨Nat.zero_le _, rfl⟩ (by simp only [↓wR, RA, simprocAttr, TF, CD0] <;> rfl) (by simp only [↓wR, RA, simprocAttr, TF, CD0] <;> rfl) ?_
    rintro ⟨i, e⟩ ⟨hi, hx⟩
    simp only at hi hx
    simp only [↓wR, RA, simprocAttr, TF, CD0]
    rw [boolK_d]; refine ⟨fun h => ?_, fun h => ?_⟩
    · obtain ⟨c, hc, hd1, hlt⟩ := at_lt (decide_eq_true h)
      rw [eachE_at hd1] at hx
      have hcs := hz.set c (List.mem_of_getElem? hc)
      have hi2 : (0 : Int) ≤ i ∧ (i : Int) ≤ z.sets.length := by omega
      simp only [↓wR, RA, simprocAttr, TF, CD0, h, hc]
      rw [boolK_neI]; refine ⟨fun ⟨h1, e1⟩ => ?_, fun ⟨h1, e1⟩ => ?_⟩
      · rw [if_pos e1] at hx
        simp only [↓wR, RA, simprocAttr, TF, CD0, h1, cjV, cjS, cjN, namesAt]
        rw [hx]
      · rw [if_neg (by omega)] at hx
        simp only [↓wR, RA, simprocAttr, TF, CD0, h1, hcs, hz, hi2, zInsideF]
        refine callAt_join (fun r st' => r = .tup [] ∧ st' = stK [some (.row [.vl false 1 (z.origin.map (codStr.val false)), .vl false 5 (z.sets.map (codSet.val false))] 0 2 26), some (.row [.vl false 1 (z.origin.map (codStr.val false)), .vl false 5 (z.sets.map (codSet.val false)), .sc (.int .i64 (needE ((fun _ s => underN s.owner z.origin) i c) 262 e))] 0 2 52), some (.row [.vl false 1 (c.owner.map (codStr.val false)), .sc (.int .u16 c.type.toNat), .sc (.int .u16 c.cls.toNat), .sc (.int .u32 c.ttl.toNat), .vl false 4 (c.data.map (codData.val false))] 0 2 39)]) rfl ?_ ?_
        · refine callAt_of_wl (T := [nameCheck, nameSame, setCheck, zRises, zAlone, zClass, zInside, zStar, zOcc, zSoas]) ok mixed Tryz.func22 rfl (by kernel_rfl) (by kernel_rfl) (by kernel_rfl) (by kernel_rfl) ?_; unfold Tryz.f22
          simp only [↓wR, RA, simprocAttr, TF, CD0, e1]
          rw [boolK_b]; refine ⟨fun hn2 => ?_, fun hn2 => ?_⟩
          · have hb : ((fun _ s => underN s.owner z.origin) i c) = false := by simpa only [Bool.not_eq_true'] using hn2
            have hv : needE ((fun _ s => underN s.owner z.origin) i c) 262 0 = 262 := by unfold needE; rw [if_pos ⟨rfl, hb⟩]
            simp only [↓wR, RA, simprocAttr, TF, CD0, hn2, cjV, cjS, cjN, namesAt]
            try rw [hv]
          · have hb : ((fun _ s => underN s.owner z.origin) i c) = true := by simpa only [Bool.not_eq_false'] using hn2
            have hv : needE ((fun _ s => underN s.owner z.origin) i c) 262 0 = 0 := by unfold needE; rw [if_neg (fun q => by rw [hb] at q; cases q.2)]
            simp only [↓wR, RA, simprocAttr, TF, CD0, hn2, cjV, cjS, cjN, namesAt]
            try rw [hv]
        rintro _ _ ⟨rfl, rfl⟩
        simp only [↓wR, RA, simprocAttr, TF, CD0, contK]; repeat (simp (disch := omega) only [wrapI64, dleN, dltN, dleI, dltI]; try simp only [↓wR, RA, simprocAttr, TF, CD0, contK])
        exact ⟨(i + 1, needE ((fun _ s => underN s.owner z.origin) i c) 262 e), ⟨hlt, hx⟩, by simp; omega, by (first | rfl | trivial | omega | (simp (disch := omega) only [wrapI64]; first | done | rfl | (simp only [List.cons.injEq, accV_snoc, accO_snoc, List.length_append, List.length_cons, List.length_nil, List.map_append, List.map_cons, List.map_nil, and_true, true_and, and_self, AV.sc.injEq, AV.sl.injEq, AObj.row.injEq, Option.some.injEq, Value.int.injEq, Nat.zero_add]; first | done | rfl | omega)) | (simp only [List.cons.injEq, accV_snoc, accO_snoc, List.length_append, List.length_cons, List.length_nil, List.map_append, List.map_cons, List.map_nil, and_true, true_and, and_self, AV.sc.injEq, AV.sl.injEq, AObj.row.injEq, Option.some.injEq, Value.int.injEq, Nat.zero_add]; first | done | rfl | omega)), by (first | rfl | trivial | omega | (simp (disch := omega) only [wrapI64]; first | done | rfl | (simp only [List.cons.injEq, accV_snoc, accO_snoc, List.length_append, List.length_cons, List.length_nil, List.map_append, List.map_cons, List.map_nil, and_true, true_and, and_self, AV.sc.injEq, AV.sl.injEq, AObj.row.injEq, Option.some.injEq, Value.int.injEq, Nat.zero_add]; first | done | rfl | omega)) | (simp only [List.cons.injEq, accV_snoc, accO_snoc, List.length_append, List.length_cons, List.length_nil, List.map_append, List.map_cons, List.map_nil, and_true, true_and, and_self, AV.sc.injEq, AV.sl.injEq, AObj.row.injEq, Option.some.injEq, Value.int.injEq, Nat.zero_add]; first | done | rfl | omega))⟩
    · rw [at_ge (decide_eq_false h)] at hx
      simp only [↓wR, RA, simprocAttr, TF, CD0, h, cjV, cjS, cjN, namesAt]
      rw [hx]; rfl
  rintro _ _ ⟨rfl, rfl⟩
  rw [← he0]
  clear he0
  simp only [↓wR, RA, simprocAttr, TF, CD0, contK, zSoasF, hz]
  rw [show eachE 262 (fun _ s => underN s.owner z.origin) 0 z.sets (zoneE2 z) = zoneE3 z from rfl]
  rw [boolK_eqI]; refine ⟨fun ⟨hs1, es1⟩ => ?_, fun ⟨hs1, es1⟩ => ?_⟩
  · simp only [↓wR, RA, simprocAttr, TF, CD0, hs1]
    rw [show (((soasV z).2 : Int) == 1) = (decide ((soasV z).1 = 1) && decide ((soasV z).2 = 1)) from by rw [decide_eq_true (show (soasV z).1 = 1 by omega), Bool.true_and, Bool.eq_iff_iff]; simp; omega]
    refine callAt_join (fun r st' => r = .tup [] ∧ st' = stK [some (.row [.vl false 1 (z.origin.map (codStr.val false)), .vl false 5 (z.sets.map (codSet.val false))] 0 2 26), some (.row [.vl false 1 (z.origin.map (codStr.val false)), .vl false 5 (z.sets.map (codSet.val false)), .sc (.int .i64 (needE (decide ((soasV z).1 = 1) && decide ((soasV z).2 = 1)) 263 (zoneE3 z)))] 0 2 52)]) rfl ?_ ?_
    · refine callAt_of_wl (T := [nameCheck, nameSame, setCheck, zRises, zAlone, zClass, zInside, zStar, zOcc, zSoas]) ok mixed Tryz.func22 rfl (by kernel_rfl) (by kernel_rfl) (by kernel_rfl) (by kernel_rfl) ?_; unfold Tryz.f22
      simp only [↓wR, RA, simprocAttr, TF, CD0]
      rw [boolK_eqI]; refine ⟨fun ⟨hn1, en1⟩ => ?_, fun ⟨hn1, en1⟩ => ?_⟩
      · simp only [↓wR, RA, simprocAttr, TF, CD0, hn1]
        rw [boolK_b]; refine ⟨fun hn2 => ?_, fun hn2 => ?_⟩
        · have hb : (decide ((soasV z).1 = 1) && decide ((soasV z).2 = 1)) = false := by simpa only [Bool.not_eq_true'] using hn2
          have hv : needE (decide ((soasV z).1 = 1) && decide ((soasV z).2 = 1)) 263 (zoneE3 z) = 263 := by unfold needE; rw [if_pos ⟨en1, hb⟩]
          simp only [↓wR, RA, simprocAttr, TF, CD0, hn1, hn2, cjV, cjS, cjN, namesAt]
          try rw [hv]
        · have hb : (decide ((soasV z).1 = 1) && decide ((soasV z).2 = 1)) = true := by simpa only [Bool.not_eq_false'] using hn2
          have hv : needE (decide ((soasV z).1 = 1) && decide ((soasV z).2 = 1)) 263 (zoneE3 z) = zoneE3 z := by unfold needE; rw [if_neg (fun q => by rw [hb] at q; cases q.2)]
          simp only [↓wR, RA, simprocAttr, TF, CD0, hn1, hn2, cjV, cjS, cjN, namesAt]
          try rw [hv]
      · have hv : needE (decide ((soasV z).1 = 1) && decide ((soasV z).2 = 1)) 263 (zoneE3 z) = zoneE3 z := by unfold needE; rw [if_neg (fun q => en1 q.1)]
        simp only [↓wR, RA, simprocAttr, TF, CD0, hn1, cjV, cjS, cjN, namesAt]
        try rw [hv]
    rintro _ _ ⟨rfl, rfl⟩
    rw [show needE (decide ((soasV z).1 = 1) && decide ((soasV z).2 = 1)) 263 (zoneE3 z) = zoneE4 z from rfl]
    simp only [↓wR, RA, simprocAttr, TF, CD0, contK]
    refine callAt_of_wl (T := []) (TabOk.nil PP) mixed Tryz.func23 rfl (by kernel_rfl) (by kernel_rfl) (by kernel_rfl) (by kernel_rfl) ?_; unfold Tryz.f23
    simp only [↓wR, RA, simprocAttr, TF, CD0]
    refine ⟨[1, 3, 6, 45], ?_⟩
    have hib : iterB PP 41 = some (Tryz.f41.ntmps, Tryz.f41.body.getD .skip) := by kernel_rfl
    simp only [↓wR, RA, simprocAttr, TF, CD0, hib]
    refine ⟨by kernel_rfl, fun l => ?_⟩
    unfold Tryz.f41
    simp only [↓wR, RA, simprocAttr, TF, CD0]
    refine loopI_of' [0, 2, 7, 8, 9] (fun (x : Nat × Bool) => [.sc (.func (.yield l) #[] #[]), .ptr 4 0, .vl false 5 (z.sets.map (codSet.val false)), .sc (.int .i64 (z.sets.length)), .sc (.int .i64 (x.1))]) (fun x => [some (.row [.vl false 1 (z.origin.map (codStr.val false)), .vl false 5 (z.sets.map (codSet.val false))] 0 2 26), some (.row [.vl false 1 (z.origin.map (codStr.val false)), .vl false 5 (z.sets.map (codSet.val false)), .sc (.int .i64 (zoneE4 z))] 0 2 52), some (.row [.sc (.bool (x.2))] 0 2 4), some (.row [.vl false 1 (z.origin.map (codStr.val false)), .vl false 5 (z.sets.map (codSet.val false))] 0 2 26), some (.row [.sc (.int .u16 2)] 0 2 34)]) (fun x => x.1 ≤ z.sets.length ∧ apexV z = (x.2 || apexL z (z.sets.drop x.1))) (fun x => z.sets.length - x.1) (0, false) ⟨Nat.zero_le _, by rw [Bool.false_or]; rfl⟩ (by simp only [↓wR, RA, simprocAttr, TF, CD0] <;> rfl) (by simp only [↓wR, RA, simprocAttr, TF, CD0] <;> rfl) ?_
    rintro ⟨i, b⟩ ⟨hi, hx⟩
    simp only at hi hx
    simp only [↓wR, RA, simprocAttr, TF, CD0]
    rw [boolI_b]; refine ⟨fun h => ?_, fun h => ?_⟩
    · obtain ⟨c, hc, hd1, hlt⟩ := at_lt h
      have hcs := hz.set c (List.mem_of_getElem? hc)
      rw [apexL_at hd1] at hx
      simp only [↓wR, RA, simprocAttr, TF, CD0, h, hc]
      rw [boolI_b]; refine ⟨fun h2 => ?_, fun h2 => ?_⟩
      · have e2 : (c.type.toNat : Int) = 2 := by simpa using h2
        rw [decide_eq_true e2, Bool.true_and] at hx
        simp only [↓wR, RA, simprocAttr, TF, CD0, h2]
        refine yield_keep [0, 2, 7, 8, 9, 17, 19] ?_
        simp only [↓wR, RA, simprocAttr, TF, CD0, yieldC, roundC]
        cases b with
        | true =>
          simp only [↓wR, RA, simprocAttr, TF, CD0]; repeat (simp (disch := omega) only [wrapI64, dleN, dltN, dleI, dltI]; try simp only [↓wR, RA, simprocAttr, TF, CD0])
          exact ⟨(i + 1, true), ⟨hlt, by rw [hx]; rfl⟩, by simp; omega, by (first | rfl | trivial | omega | (simp (disch := omega) only [wrapI64]; first | done | rfl | (simp only [List.cons.injEq, accV_snoc, accO_snoc, List.length_append, List.length_cons, List.length_nil, List.map_append, List.map_cons, List.map_nil, and_true, true_and, and_self, AV.sc.injEq, AV.sl.injEq, AObj.row.injEq, Option.some.injEq, Value.int.injEq, Nat.zero_add]; first | done | rfl | omega)) | (simp only [List.cons.injEq, accV_snoc, accO_snoc, List.length_append, List.length_cons, List.length_nil, List.map_append, List.map_cons, List.map_nil, and_true, true_and, and_self, AV.sc.injEq, AV.sl.injEq, AObj.row.injEq, Option.some.injEq, Value.int.injEq, Nat.zero_add]; first | done | rfl | omega)), by (first | rfl | trivial | omega | (simp (disch := omega) only [wrapI64]; first | done | rfl | (simp only [List.cons.injEq, accV_snoc, accO_snoc, List.length_append, List.length_cons, List.length_nil, List.map_append, List.map_cons, List.map_nil, and_true, true_and, and_self, AV.sc.injEq, AV.sl.injEq, AObj.row.injEq, Option.some.injEq, Value.int.injEq, Nat.zero_add]; first | done | rfl | omega)) | (simp only [List.cons.injEq, accV_snoc, accO_snoc, List.length_append, List.length_cons, List.length_nil, List.map_append, List.map_cons, List.map_nil, and_true, true_and, and_self, AV.sc.injEq, AV.sl.injEq, AObj.row.injEq, Option.some.injEq, Value.int.injEq, Nat.zero_add]; first | done | rfl | omega))⟩
        | false =>
          simp only [↓wR, RA, simprocAttr, TF, CD0, nameSameF, hcs.owner, hz.origin]; repeat (simp (disch := omega) only [wrapI64, dleN, dltN, dleI, dltI]; try simp only [↓wR, RA, simprocAttr, TF, CD0, nameSameF, hcs.owner, hz.origin])
          exact ⟨(i + 1, sameN c.owner z.origin), ⟨hlt, by rw [hx, Bool.false_or]⟩, by simp; omega, by (first | rfl | trivial | omega | (simp (disch := omega) only [wrapI64]; first | done | rfl | (simp only [List.cons.injEq, accV_snoc, accO_snoc, List.length_append, List.length_cons, List.length_nil, List.map_append, List.map_cons, List.map_nil, and_true, true_and, and_self, AV.sc.injEq, AV.sl.injEq, AObj.row.injEq, Option.some.injEq, Value.int.injEq, Nat.zero_add]; first | done | rfl | omega)) | (simp only [List.cons.injEq, accV_snoc, accO_snoc, List.length_append, List.length_cons, List.length_nil, List.map_append, List.map_cons, List.map_nil, and_true, true_and, and_self, AV.sc.injEq, AV.sl.injEq, AObj.row.injEq, Option.some.injEq, Value.int.injEq, Nat.zero_add]; first | done | rfl | omega)), by (first | rfl | trivial | omega | (simp (disch := omega) only [wrapI64]; first | done | rfl | (simp only [List.cons.injEq, accV_snoc, accO_snoc, List.length_append, List.length_cons, List.length_nil, List.map_append, List.map_cons, List.map_nil, and_true, true_and, and_self, AV.sc.injEq, AV.sl.injEq, AObj.row.injEq, Option.some.injEq, Value.int.injEq, Nat.zero_add]; first | done | rfl | omega)) | (simp only [List.cons.injEq, accV_snoc, accO_snoc, List.length_append, List.length_cons, List.length_nil, List.map_append, List.map_cons, List.map_nil, and_true, true_and, and_self, AV.sc.injEq, AV.sl.injEq, AObj.row.injEq, Option.some.injEq, Value.int.injEq, Nat.zero_add]; first | done | rfl | omega))⟩
      · have e2 : ¬ (c.type.toNat : Int) = 2 := by simpa using h2
        rw [decide_eq_false e2, Bool.false_and, Bool.false_or] at hx
        simp only [↓wR, RA, simprocAttr, TF, CD0, h2]; repeat (simp (disch := omega) only [wrapI64, dleN, dltN, dleI, dltI]; try simp only [↓wR, RA, simprocAttr, TF, CD0, h2])
        exact ⟨(i + 1, b), ⟨hlt, hx⟩, by simp; omega, by (first | rfl | trivial | omega | (simp (disch := omega) only [wrapI64]; first | done | rfl | (simp only [List.cons.injEq, accV_snoc, accO_snoc, List.length_append, List.length_cons, List.length_nil, List.map_append, List.map_cons, List.map_nil, and_true, true_and, and_self, AV.sc.injEq, AV.sl.injEq, AObj.row.injEq, Option.some.injEq, Value.int.injEq, Nat.zero_add]; first | done | rfl | omega)) | (simp only [List.cons.injEq, accV_snoc, accO_snoc, List.length_append, List.length_cons, List.length_nil, List.map_append, List.map_cons, List.map_nil, and_true, true_and, and_self, AV.sc.injEq, AV.sl.injEq, AObj.row.injEq, Option.some.injEq, Value.int.injEq, Nat.zero_add]; first | done | rfl | omega)), by (first | rfl | trivial | omega | (simp (disch := omega) only [wrapI64]; first | done | rfl | (simp only [List.cons.injEq, accV_snoc, accO_snoc, List.length_append, List.length_cons, List.length_nil, List.map_append, List.map_cons, List.map_nil, and_true, true_and, and_self, AV.sc.injEq, AV.sl.injEq, AObj.row.injEq, Option.some.injEq, Value.int.injEq, Nat.zero_add]; first | done | rfl | omega)) | (simp only [List.cons.injEq, accV_snoc, accO_snoc, List.length_append, List.length_cons, List.length_nil, List.map_append, List.map_cons, List.map_nil, and_true, true_and, and_self, AV.sc.injEq, AV.sl.injEq, AObj.row.injEq, Option.some.injEq, Value.int.injEq, Nat.zero_add]; first | done | rfl | omega))⟩
    rw [at_ge h] at hx
    have hb : b = apexV z := by rw [hx]; simp [apexL]
    simp only [↓wR, RA, simprocAttr, TF, CD0, h]
    rw [hb]
    clear h hx hb
    refine callAt_join (fun r st' => r = .tup [] ∧ st' = stK [some (.row [.vl false 1 (z.origin.map (codStr.val false)), .vl false 5 (z.sets.map (codSet.val false))] 0 2 26), some (.row [.vl false 1 (z.origin.map (codStr.val false)), .vl false 5 (z.sets.map (codSet.val false)), .sc (.int .i64 (needE (apexV z) 264 (zoneE4 z)))] 0 2 52), some (.row [.sc (.bool (apexV z))] 0 2 4), some (.row [.vl false 1 (z.origin.map (codStr.val false)), .vl false 5 (z.sets.map (codSet.val false))] 0 2 26), some (.row [.sc (.int .u16 2)] 0 2 34)]) rfl ?_ ?_
    · refine callAt_of_wl (T := [nameCheck, nameSame, setCheck, zRises, zAlone, zClass, zInside, zStar, zOcc, zSoas]) ok mixed Tryz.func22 rfl (by kernel_rfl) (by kernel_rfl) (by kernel_rfl) (by kernel_rfl) ?_; unfold Tryz.f22
      simp only [↓wR, RA, simprocAttr, TF, CD0]
      rw [boolK_eqI]; refine ⟨fun ⟨hn1, en1⟩ => ?_, fun ⟨hn1, en1⟩ => ?_⟩
      · simp only [↓wR, RA, simprocAttr, TF, CD0, hn1]
        rw [boolK_b]; refine ⟨fun hn2 => ?_, fun hn2 => ?_⟩
        · have hb : (apexV z) = false := by simpa only [Bool.not_eq_true'] using hn2
          have hv : needE (apexV z) 264 (zoneE4 z) = 264 := by unfold needE; rw [if_pos ⟨en1, hb⟩]
          simp only [↓wR, RA, simprocAttr, TF, CD0, hn1, hn2, cjV, cjS, cjN, namesAt]
          try rw [hv]
        · have hb : (apexV z) = true := by simpa only [Bool.not_eq_false'] using hn2
          have hv : needE (apexV z) 264 (zoneE4 z) = zoneE4 z := by unfold needE; rw [if_neg (fun q => by rw [hb] at q; cases q.2)]
          simp only [↓wR, RA, simprocAttr, TF, CD0, hn1, hn2, cjV, cjS, cjN, namesAt]
          try rw [hv]
      · have hv : needE (apexV z) 264 (zoneE4 z) = zoneE4 z := by unfold needE; rw [if_neg (fun q => en1 q.1)]
        simp only [↓wR, RA, simprocAttr, TF, CD0, hn1, cjV, cjS, cjN, namesAt]
        try rw [hv]
    rintro _ _ ⟨rfl, rfl⟩
    rw [show needE (apexV z) 264 (zoneE4 z) = zoneE5 z from rfl]
    simp only [↓wR, RA, simprocAttr, TF, CD0, contK]
    obtain ⟨e0, he0⟩ : ∃ e0, zoneE5 z = e0 := ⟨_, rfl⟩
    rw [he0]
    refine callAt_join (fun r st' => r = .tup [] ∧ st' = stK [some (.row [.vl false 1 (z.origin.map (codStr.val false)), .vl false 5 (z.sets.map (codSet.val false))] 0 2 26), some (.row [.vl false 1 (z.origin.map (codStr.val false)), .vl false 5 (z.sets.map (codSet.val false)), .sc (.int .i64 (eachE 265 (aloneV z) 0 z.sets e0))] 0 2 52), some (.row [.sc (.bool (apexV z))] 0 2 4), some (.row [.vl false 1 (z.origin.map (codStr.val false)), .vl false 5 (z.sets.map (codSet.val false))] 0 2 26), some (.row [.sc (.int .u16 2)] 0 2 34)]) rfl ?_ ?_
    · refine callAt_of_wl (T := [nameCheck, nameSame, setCheck, zRises, zAlone, zClass, zInside, zStar, zOcc, zSoas]) ok mixed Tryz.func17 rfl (by kernel_rfl) (by kernel_rfl) (by kernel_rfl) (by kernel_rfl) ?_; unfold Tryz.f17
      simp only [↓wR, RA, simprocAttr, TF, CD0]
      refine loop_of [0, 1, 2, 12, 13, 14] (fun (x : Nat × Int) => [.ptr 1 0, .sc (.int .i64 (265)), .fn (.func 24) [.ptr 1 0] [], .vl false 5 (z.sets.map (codSet.val false)), .sc (.int .i64 (z.sets.length)), .sc (.int .i64 (x.1))]) (fun x => [some (.row [.vl false 1 (z.origin.map (codStr.val false)), .vl false 5 (z.sets.map (codSet.val false))] 0 2 26), some (.row [.vl false 1 (z.origin.map (codStr.val false)), .vl false 5 (z.sets.map (codSet.val false)), .sc (.int .i64 (x.2))] 0 2 52), some (.row [.sc (.bool (apexV z))] 0 2 4), some (.row [.vl false 1 (z.origin.map (codStr.val false)), .vl false 5 (z.sets.map (codSet.val false))] 0 2 26), some (.row [.sc (.int .u16 2)] 0 2 34)]) (fun x => x.1 ≤ z.sets.length ∧ eachE 265 (aloneV z) 0 z.sets e0 = eachE 265 (aloneV z) x.1 (z.sets.drop x.1) x.2) (fun x => z.sets.length - x.1) (0, e0) ⟨Nat.zero_le _, rfl⟩ (by simp only [↓wR, RA, simprocAttr, TF, CD0] <;> rfl) (by simp only [↓wR, RA, simprocAttr, TF, CD0] <;> rfl) ?_
      rintro ⟨i, e⟩ ⟨hi, hx⟩
      simp only at hi hx
      simp only [↓wR, RA, simprocAttr, TF, CD0]
      rw [boolK_d]; refine ⟨fun h => ?_, fun h => ?_⟩
      · obtain ⟨c, hc, hd1, hlt⟩ := at_lt (decide_eq_true h)
        rw [eachE_at hd1] at hx
        have hcs := hz.set c (List.mem_of_getElem? hc)
        have hi2 : (0 : Int) ≤ i ∧ (i : Int) ≤ z.sets.length := by omega
        simp only [↓wR, RA, simprocAttr, TF, CD0, h, hc]
        rw [boolK_neI]; refine ⟨fun ⟨h1, e1⟩ => ?_, fun ⟨h1, e1⟩ => ?_⟩
        · rw [if_pos e1] at hx
          simp only [↓wR, RA, simprocAttr, TF, CD0, h1, cjV, cjS, cjN, namesAt]
          rw [hx]
        · rw [if_neg (by omega)] at hx
          simp only [↓wR, RA, simprocAttr, TF, CD0, h1, hcs, hz, hi2, zAloneF]
          refine callAt_join (fun r st' => r = .tup [] ∧ st' = stK [some (.row [.vl false 1 (z.origin.map (codStr.val false)), .vl false 5 (z.sets.map (codSet.val false))] 0 2 26), some (.row [.vl false 1 (z.origin.map (codStr.val false)), .vl false 5 (z.sets.map (codSet.val false)), .sc (.int .i64 (needE ((aloneV z) i c) 265 e))] 0 2 52), some (.row [.sc (.bool (apexV z))] 0 2 4), some (.row [.vl false 1 (z.origin.map (codStr.val false)), .vl false 5 (z.sets.map (codSet.val false))] 0 2 26), some (.row [.sc (.int .u16 2)] 0 2 34), some (.row [.vl false 1 (c.owner.map (codStr.val false)), .sc (.int .u16 c.type.toNat), .sc (.int .u16 c.cls.toNat), .sc (.int .u32 c.ttl.toNat), .vl false 4 (c.data.map (codData.val false))] 0 2 39)]) rfl ?_ ?_
          · refine callAt_of_wl (T := [nameCheck, nameSame, setCheck, zRises, zAlone, zClass, zInside, zStar, zOcc, zSoas]) ok mixed Tryz.func22 rfl (by kernel_rfl) (by kernel_rfl) (by kernel_rfl) (by kernel_rfl) ?_; unfold Tryz.f22
            simp only [↓wR, RA, simprocAttr, TF, CD0, e1]
            rw [boolK_b]; refine ⟨fun hn2 => ?_, fun hn2 => ?_⟩
            · have hb : ((aloneV z) i c) = false := by simpa only [Bool.not_eq_true'] using hn2
              have hv : needE ((aloneV z) i c) 265 0 = 265 := by unfold needE; rw [if_pos ⟨rfl, hb⟩]
              simp only [↓wR, RA, simprocAttr, TF, CD0, hn2, cjV, cjS, cjN, namesAt]
              try rw [hv]
            · have hb : ((aloneV z) i c) = true := by simpa only [Bool.not_eq_false'] using hn2
              have hv : needE ((aloneV z) i c) 265 0 = 0 := by unfold needE; rw [if_neg (fun q => by rw [hb] at q; cases q.2)]
              simp only [↓wR, RA, simprocAttr, TF, CD0, hn2, cjV, cjS, cjN, namesAt]
              try rw [hv]
          rintro _ _ ⟨rfl, rfl⟩
          simp only [↓wR, RA, simprocAttr, TF, CD0, contK]; repeat (simp (disch := omega) only [wrapI64, dleN, dltN, dleI, dltI]; try simp only [↓wR, RA, simprocAttr, TF, CD0, contK])
          exact ⟨(i + 1, needE ((aloneV z) i c) 265 e), ⟨hlt, hx⟩, by simp; omega, by (first | rfl | trivial | omega | (simp (disch := omega) only [wrapI64]; first | done | rfl | (simp only [List.cons.injEq, accV_snoc, accO_snoc, List.length_append, List.length_cons, List.length_nil, List.map_append, List.map_cons, List.map_nil, and_true, true_and, and_self, AV.sc.injEq, AV.sl.injEq, AObj.row.injEq, Option.some.injEq, Value.int.injEq, Nat.zero_add]; first | done | rfl | omega)) | (simp only [List.cons.injEq, accV_snoc, accO_snoc, List.length_append, List.length_cons, List.length_nil, List.map_append, List.map_cons, List.map_nil, and_true, true_and, and_self, AV.sc.injEq, AV.sl.injEq, AObj.row.injEq, Option.some.injEq, Value.int.injEq, Nat.zero_add]; first | done | rfl | omega)), by (first | rfl | trivial | omega | (simp (disch := omega) only [wrapI64]; first | done | rfl | (simp only [List.cons.injEq, accV_snoc, accO_snoc, List.length_append, List.length_cons, List.length_nil, List.map_append, List.map_cons, List.map_nil, and_true, true_and, and_self, AV.sc.injEq, AV.sl.injEq, AObj.row.injEq, Option.some.injEq, Value.int.injEq, Nat.zero_add]; first | done | rfl | omega)) | (simp only [List.cons.injEq, accV_snoc, accO_snoc, List.length_append, List.length_cons, List.length_nil, List.map_append, List.map_cons, List.map_nil, and_true, true_and, and_self, AV.sc.injEq, AV.sl.injEq, AObj.row.injEq, Option.some.injEq, Value.int.injEq, Nat.zero_add]; first | done | rfl | omega))⟩
      · rw [at_ge (decide_eq_false h)] at hx
        simp only [↓wR, RA, simprocAttr, TF, CD0, h, cjV, cjS, cjN, namesAt]
        rw [hx]; rfl
    rintro _ _ ⟨rfl, rfl⟩
    rw [← he0]
    clear he0
    simp only [↓wR, RA, simprocAttr, TF, CD0, contK]
    rw [show eachE 265 (aloneV z) 0 z.sets (zoneE5 z) = zoneE6 z from rfl]
    obtain ⟨e0, he0⟩ : ∃ e0, zoneE6 z = e0 := ⟨_, rfl⟩
    rw [he0]
    refine callAt_join (fun r st' => r = .tup [] ∧ st' = stK [some (.row [.vl false 1 (z.origin.map (codStr.val false)), .vl false 5 (z.sets.map (codSet.val false))] 0 2 26), some (.row [.vl false 1 (z.origin.map (codStr.val false)), .vl false 5 (z.sets.map (codSet.val false)), .sc (.int .i64 (eachE 266 (fun _ s => starV s) 0 z.sets e0))] 0 2 52), some (.row [.sc (.bool (apexV z))] 0 2 4), some (.row [.vl false 1 (z.origin.map (codStr.val false)), .vl false 5 (z.sets.map (codSet.val false))] 0 2 26), some (.row [.sc (.int .u16 2)] 0 2 34)]) rfl ?_ ?_
    · refine callAt_of_wl (T := [nameCheck, nameSame, setCheck, zRises, zAlone, zClass, zInside, zStar, zOcc, zSoas]) ok mixed Tryz.func17 rfl (by kernel_rfl) (by kernel_rfl) (by kernel_rfl) (by kernel_rfl) ?_; unfold Tryz.f17
      simp only [↓wR, RA, simprocAttr, TF, CD0]
      refine loop_of [0, 1, 2, 12, 13, 14] (fun (x : Nat × Int) => [.ptr 1 0, .sc (.int .i64 (266)), .sc (.func (.func 25) #[] #[]), .vl false 5 (z.sets.map (codSet.val false)), .sc (.int .i64 (z.sets.length)), .sc (.int .i64 (x.1))]) (fun x => [some (.row [.vl false 1 (z.origin.map (codStr.val false)), .vl false 5 (z.sets.map (codSet.val false))] 0 2 26), some (.row [.vl false 1 (z.origin.map (codStr.val false)), .vl false 5 (z.sets.map (codSet.val false)), .sc (.int .i64 (x.2))] 0 2 52), some (.row [.sc (.bool (apexV z))] 0 2 4), some (.row [.vl false 1 (z.origin.map (codStr.val false)), .vl false 5 (z.sets.map (codSet.val false))] 0 2 26), some (.row [.sc (.int .u16 2)] 0 2 34)]) (fun x => x.1 ≤ z.sets.length ∧ eachE 266 (fun _ s => starV s) 0 z.sets e0 = eachE 266 (fun _ s => starV s) x.1 (z.sets.drop x.1) x.2) (fun x => z.sets.length - x.1) (0, e0) ⟨Nat.zero_le _, rfl⟩ (by simp only [↓wR, RA, simprocAttr, TF, CD0] <;> rfl) (by simp only [↓wR, RA, simprocAttr, TF, CD0] <;> rfl) ?_
      rintro ⟨i, e⟩ ⟨hi, hx⟩
      simp only at hi hx
      simp only [↓wR, RA, simprocAttr, TF, CD0]
      rw [boolK_d]; refine ⟨fun h => ?_, fun h => ?_⟩
      · obtain ⟨c, hc, hd1, hlt⟩ := at_lt (decide_eq_true h)
        rw [eachE_at hd1] at hx
        have hcs := hz.set c (List.mem_of_getElem? hc)
        have hi2 : (0 : Int) ≤ i ∧ (i : Int) ≤ z.sets.length := by omega
        simp only [↓wR, RA, simprocAttr, TF, CD0, h, hc]
        rw [boolK_neI]; refine ⟨fun ⟨h1, e1⟩ => ?_, fun ⟨h1, e1⟩ => ?_⟩
        · rw [if_pos e1] at hx
          simp only [↓wR, RA, simprocAttr, TF, CD0, h1, cjV, cjS, cjN, namesAt]
          rw [hx]
        · rw [if_neg (by omega)] at hx
          simp only [↓wR, RA, simprocAttr, TF, CD0, h1, hcs, hz, hi2, zStarF]
          refine callAt_join (fun r st' => r = .tup [] ∧ st' = stK [some (.row [.vl false 1 (z.origin.map (codStr.val false)), .vl false 5 (z.sets.map (codSet.val false))] 0 2 26), some (.row [.vl false 1 (z.origin.map (codStr.val false)), .vl false 5 (z.sets.map (codSet.val false)), .sc (.int .i64 (needE ((fun _ s => starV s) i c) 266 e))] 0 2 52), some (.row [.sc (.bool (apexV z))] 0 2 4), some (.row [.vl false 1 (z.origin.map (codStr.val false)), .vl false 5 (z.sets.map (codSet.val false))] 0 2 26), some (.row [.sc (.int .u16 2)] 0 2 34), some (.row [.vl false 1 (c.owner.map (codStr.val false)), .sc (.int .u16 c.type.toNat), .sc (.int .u16 c.cls.toNat), .sc (.int .u32 c.ttl.toNat), .vl false 4 (c.data.map (codData.val false))] 0 2 39)]) rfl ?_ ?_
          · refine callAt_of_wl (T := [nameCheck, nameSame, setCheck, zRises, zAlone, zClass, zInside, zStar, zOcc, zSoas]) ok mixed Tryz.func22 rfl (by kernel_rfl) (by kernel_rfl) (by kernel_rfl) (by kernel_rfl) ?_; unfold Tryz.f22
            simp only [↓wR, RA, simprocAttr, TF, CD0, e1]
            rw [boolK_b]; refine ⟨fun hn2 => ?_, fun hn2 => ?_⟩
            · have hb : ((fun _ s => starV s) i c) = false := by simpa only [Bool.not_eq_true'] using hn2
              have hv : needE ((fun _ s => starV s) i c) 266 0 = 266 := by unfold needE; rw [if_pos ⟨rfl, hb⟩]
              simp only [↓wR, RA, simprocAttr, TF, CD0, hn2, cjV, cjS, cjN, namesAt]
              try rw [hv]
            · have hb : ((fun _ s => starV s) i c) = true := by simpa only [Bool.not_eq_false'] using hn2
              have hv : needE ((fun _ s => starV s) i c) 266 0 = 0 := by unfold needE; rw [if_neg (fun q => by rw [hb] at q; cases q.2)]
              simp only [↓wR, RA, simprocAttr, TF, CD0, hn2, cjV, cjS, cjN, namesAt]
              try rw [hv]
          rintro _ _ ⟨rfl, rfl⟩
          simp only [↓wR, RA, simprocAttr, TF, CD0, contK]; repeat (simp (disch := omega) only [wrapI64, dleN, dltN, dleI, dltI]; try simp only [↓wR, RA, simprocAttr, TF, CD0, contK])
          exact ⟨(i + 1, needE ((fun _ s => starV s) i c) 266 e), ⟨hlt, hx⟩, by simp; omega, by (first | rfl | trivial | omega | (simp (disch := omega) only [wrapI64]; first | done | rfl | (simp only [List.cons.injEq, accV_snoc, accO_snoc, List.length_append, List.length_cons, List.length_nil, List.map_append, List.map_cons, List.map_nil, and_true, true_and, and_self, AV.sc.injEq, AV.sl.injEq, AObj.row.injEq, Option.some.injEq, Value.int.injEq, Nat.zero_add]; first | done | rfl | omega)) | (simp only [List.cons.injEq, accV_snoc, accO_snoc, List.length_append, List.length_cons, List.length_nil, List.map_append, List.map_cons, List.map_nil, and_true, true_and, and_self, AV.sc.injEq, AV.sl.injEq, AObj.row.injEq, Option.some.injEq, Value.int.injEq, Nat.zero_add]; first | done | rfl | omega)), by (first | rfl | trivial | omega | (simp (disch := omega) only [wrapI64]; first | done | rfl | (simp only [List.cons.injEq, accV_snoc, accO_snoc, List.length_append, List.length_cons, List.length_nil, List.map_append, List.map_cons, List.map_nil, and_true, true_and, and_self, AV.sc.injEq, AV.sl.injEq, AObj.row.injEq, Option.some.injEq, Value.int.injEq, Nat.zero_add]; first | done | rfl | omega)) | (simp only [List.cons.injEq, accV_snoc, accO_snoc, List.length_append, List.length_cons, List.length_nil, List.map_append, List.map_cons, List.map_nil, and_true, true_and, and_self, AV.sc.injEq, AV.sl.injEq, AObj.row.injEq, Option.some.injEq, Value.int.injEq, Nat.zero_add]; first | done | rfl | omega))⟩
      · rw [at_ge (decide_eq_false h)] at hx
        simp only [↓wR, RA, simprocAttr, TF, CD0, h, cjV, cjS, cjN, namesAt]
        rw [hx]; rfl
    rintro _ _ ⟨rfl, rfl⟩
    rw [← he0]
    clear he0
    simp only [↓wR, RA, simprocAttr, TF, CD0, contK]
    rw [show eachE 266 (fun _ s => starV s) 0 z.sets (zoneE6 z) = zoneE7 z from rfl]
    obtain ⟨e0, he0⟩ : ∃ e0, zoneE7 z = e0 := ⟨_, rfl⟩
    rw [he0]
    refine callAt_join (fun r st' => r = .tup [] ∧ st' = stK [some (.row [.vl false 1 (z.origin.map (codStr.val false)), .vl false 5 (z.sets.map (codSet.val false))] 0 2 26), some (.row [.vl false 1 (z.origin.map (codStr.val false)), .vl false 5 (z.sets.map (codSet.val false)), .sc (.int .i64 (eachE 267 (fun _ s => occV z s) 0 z.sets e0))] 0 2 52), some (.row [.sc (.bool (apexV z))] 0 2 4), some (.row [.vl false 1 (z.origin.map (codStr.val false)), .vl false 5 (z.sets.map (codSet.val false))] 0 2 26), some (.row [.sc (.int .u16 2)] 0 2 34)]) rfl ?_ ?_
    · refine callAt_of_wl (T := [nameCheck, nameSame, setCheck, zRises, zAlone, zClass, zInside, zStar, zOcc, zSoas]) ok mixed Tryz.func17 rfl (by kernel_rfl) (by kernel_rfl) (by kernel_rfl) (by kernel_rfl) ?_; unfold Tryz.f17
      simp only [↓wR, RA, simprocAttr, TF, CD0]
      refine loop_of [0, 1, 2, 12, 13, 14] (fun (x : Nat × Int) => [.ptr 1 0, .sc (.int .i64 (267)), .fn (.func 26) [] [.ptr 0 0], .vl false 5 (z.sets.map (codSet.val false)), .sc (.int .i64 (z.sets.length)), .sc (.int .i64 (x.1))]) (fun x => [some (.row [.vl false 1 (z.origin.map (codStr.val false)), .vl false 5 (z.sets.map (codSet.val false))] 0 2 26), some (.row [.vl false 1 (z.origin.map (codStr.val false)), .vl false 5 (z.sets.map (codSet.val false)), .sc (.int .i64 (x.2))] 0 2 52), some (.row [.sc (.bool (apexV z))] 0 2 4), some (.row [.vl false 1 (z.origin.map (codStr.val false)), .vl false 5 (z.sets.map (codSet.val false))] 0 2 26), some (.row [.sc (.int .u16 2)] 0 2 34)]) (fun x => x.1 ≤ z.sets.length ∧ eachE 267 (fun _ s => occV z s) 0 z.sets e0 = eachE 267 (fun _ s => occV z s) x.1 (z.sets.drop x.1) x.2) (fun x => z.sets.length - x.1) (0, e0) ⟨Nat.zero_le _, rfl⟩ (by simp only [↓wR, RA, simprocAttr, TF, CD0] <;> rfl) (by simp only [↓wR, RA, simprocAttr, TF, CD0] <;> rfl) ?_
      rintro ⟨i, e⟩ ⟨hi, hx⟩
      simp only at hi hx
      simp only [↓wR, RA, simprocAttr, TF, CD0]
      rw [boolK_d]; refine ⟨fun h => ?_, fun h => ?_⟩
      · obtain ⟨c, hc, hd1, hlt⟩ := at_lt (decide_eq_true h)
        rw [eachE_at hd1] at hx
        have hcs := hz.set c (List.mem_of_getElem? hc)
        have hi2 : (0 : Int) ≤ i ∧ (i : Int) ≤ z.sets.length := by omega
        simp only [↓wR, RA, simprocAttr, TF, CD0, h, hc]
        rw [boolK_neI]; refine ⟨fun ⟨h1, e1⟩ => ?_, fun ⟨h1, e1⟩ => ?_⟩
        · rw [if_pos e1] at hx
          simp only [↓wR, RA, simprocAttr, TF, CD0, h1, cjV, cjS, cjN, namesAt]
          rw [hx]
        · rw [if_neg (by omega)] at hx
          simp only [↓wR, RA, simprocAttr, TF, CD0, h1, hcs, hz, hi2, zOccF]
          refine callAt_join (fun r st' => r = .tup [] ∧ st' = stK [some (.row [.vl false 1 (z.origin.map (codStr.val false)), .vl false 5 (z.sets.map (codSet.val false))] 0 2 26), some (.row [.vl false 1 (z.origin.map (codStr.val false)), .vl false 5 (z.sets.map (codSet.val false)), .sc (.int .i64 (needE ((fun _ s => occV z s) i c) 267 e))] 0 2 52), some (.row [.sc (.bool (apexV z))] 0 2 4), some (.row [.vl false 1 (z.origin.map (codStr.val false)), .vl false 5 (z.sets.map (codSet.val false))] 0 2 26), some (.row [.sc (.int .u16 2)] 0 2 34), some (.row [.vl false 1 (c.owner.map (codStr.val false)), .sc (.int .u16 c.type.toNat), .sc (.int .u16 c.cls.toNat), .sc (.int .u32 c.ttl.toNat), .vl false 4 (c.data.map (codData.val false))] 0 2 39)]) rfl ?_ ?_
          · refine callAt_of_wl (T := [nameCheck, nameSame, setCheck, zRises, zAlone, zClass, zInside, zStar, zOcc, zSoas]) ok mixed Tryz.func22 rfl (by kernel_rfl) (by kernel_rfl) (by kernel_rfl) (by kernel_rfl) ?_; unfold Tryz.f22
            simp only [↓wR, RA, simprocAttr, TF, CD0, e1]
            rw [boolK_b]; refine ⟨fun hn2 => ?_, fun hn2 => ?_⟩
            · have hb : ((fun _ s => occV z s) i c) = false := by simpa only [Bool.not_eq_true'] using hn2
              have hv : needE ((fun _ s => occV z s) i c) 267 0 = 267 := by unfold needE; rw [if_pos ⟨rfl, hb⟩]
              simp only [↓wR, RA, simprocAttr, TF, CD0, hn2, cjV, cjS, cjN, namesAt]
              try rw [hv]
            · have hb : ((fun _ s => occV z s) i c) = true := by simpa only [Bool.not_eq_false'] using hn2
              have hv : needE ((fun _ s => occV z s) i c) 267 0 = 0 := by unfold needE; rw [if_neg (fun q => by rw [hb] at q; cases q.2)]
              simp only [↓wR, RA, simprocAttr, TF, CD0, hn2, cjV, cjS, cjN, namesAt]
              try rw [hv]
          rintro _ _ ⟨rfl, rfl⟩
          simp only [↓wR, RA, simprocAttr, TF, CD0, contK]; repeat (simp (disch := omega) only [wrapI64, dleN, dltN, dleI, dltI]; try simp only [↓wR, RA, simprocAttr, TF, CD0, contK])
          exact ⟨(i + 1, needE ((fun _ s => occV z s) i c) 267 e), ⟨hlt, hx⟩, by simp; omega, by (first | rfl | trivial | omega | (simp (disch := omega) only [wrapI64]; first | done | rfl | (simp only [List.cons.injEq, accV_snoc, accO_snoc, List.length_append, List.length_cons, List.length_nil, List.map_append, List.map_cons, List.map_nil, and_true, true_and, and_self, AV.sc.injEq, AV.sl.injEq, AObj.row.injEq, Option.some.injEq, Value.int.injEq, Nat.zero_add]; first | done | rfl | omega)) | (simp only [List.cons.injEq, accV_snoc, accO_snoc, List.length_append, List.length_cons, List.length_nil, List.map_append, List.map_cons, List.map_nil, and_true, true_and, and_self, AV.sc.injEq, AV.sl.injEq, AObj.row.injEq, Option.some.injEq, Value.int.injEq, Nat.zero_add]; first | done | rfl | omega)), by (first | rfl | trivial | omega | (simp (disch := omega) only [wrapI64]; first | done | rfl | (simp only [List.cons.injEq, accV_snoc, accO_snoc, List.length_append, List.length_cons, List.length_nil, List.map_append, List.map_cons, List.map_nil, and_true, true_and, and_self, AV.sc.injEq, AV.sl.injEq, AObj.row.injEq, Option.some.injEq, Value.int.injEq, Nat.zero_add]; first | done | rfl | omega)) | (simp only [List.cons.injEq, accV_snoc, accO_snoc, List.length_append, List.length_cons, List.length_nil, List.map_append, List.map_cons, List.map_nil, and_true, true_and, and_self, AV.sc.injEq, AV.sl.injEq, AObj.row.injEq, Option.some.injEq, Value.int.injEq, Nat.zero_add]; first | done | rfl | omega))⟩
      · rw [at_ge (decide_eq_false h)] at hx
        simp only [↓wR, RA, simprocAttr, TF, CD0, h, cjV, cjS, cjN, namesAt]
        rw [hx]; rfl
    rintro _ _ ⟨rfl, rfl⟩
    rw [← he0]
    clear he0
    simp only [↓wR, RA, simprocAttr, TF, CD0, contK]
    rfl
  · simp only [↓wR, RA, simprocAttr, TF, CD0, hs1]
    have hbf : (decide ((soasV z).1 = 1) && decide ((soasV z).2 = 1)) = false := by rw [decide_eq_false (show ¬ (soasV z).1 = 1 by omega), Bool.false_and]
    refine callAt_join (fun r st' => r = .tup [] ∧ st' = stK [some (.row [.vl false 1 (z.origin.map (codStr.val false)), .vl false 5 (z.sets.map (codSet.val false))] 0 2 26), some (.row [.vl false 1 (z.origin.map (codStr.val false)), .vl false 5 (z.sets.map (codSet.val false)), .sc (.int .i64 (needE (decide ((soasV z).1 = 1) && decide ((soasV z).2 = 1)) 263 (zoneE3 z)))] 0 2 52)]) rfl ?_ ?_
    · refine callAt_of_wl (T := [nameCheck, nameSame, setCheck, zRises, zAlone, zClass, zInside, zStar, zOcc, zSoas]) ok mixed Tryz.func22 rfl (by kernel_rfl) (by kernel_rfl) (by kernel_rfl) (by kernel_rfl) ?_; unfold Tryz.f22
      simp only [↓wR, RA, simprocAttr, TF, CD0]
      rw [boolK_eqI]; refine ⟨fun ⟨hn1, en1⟩ => ?_, fun ⟨hn1, en1⟩ => ?_⟩
      · have hv : needE (decide ((soasV z).1 = 1) && decide ((soasV z).2 = 1)) 263 (zoneE3 z) = 263 := by unfold needE; rw [if_pos ⟨en1, hbf⟩]
        simp only [↓wR, RA, simprocAttr, TF, CD0, hn1, cjV, cjS, cjN, namesAt]
        try rw [hv]
      · have hv : needE (decide ((soasV z).1 = 1) && decide ((soasV z).2 = 1)) 263 (zoneE3 z) = zoneE3 z := by unfold needE; rw [if_neg (fun q => en1 q.1)]
        simp only [↓wR, RA, simprocAttr, TF, CD0, hn1, cjV, cjS, cjN, namesAt]
        try rw [hv]
    rintro _ _ ⟨rfl, rfl⟩
    rw [show needE (decide ((soasV z).1 = 1) && decide ((soasV z).2 = 1)) 263 (zoneE3 z) = zoneE4 z from rfl]
    simp only [↓wR, RA, simprocAttr, TF, CD0, contK]
    refine callAt_of_wl (T := []) (TabOk.nil PP) mixed Tryz.func23 rfl (by kernel_rfl) (by kernel_rfl) (by kernel_rfl) (by kernel_rfl) ?_; unfold Tryz.f23
    simp only [↓wR, RA, simprocAttr, TF, CD0]
    refine ⟨[1, 3, 6, 45], ?_⟩
    have hib : iterB PP 41 = some (Tryz.f41.ntmps, Tryz.f41.body.getD .skip) := by kernel_rfl
    simp only [↓wR, RA, simprocAttr, TF, CD0, hib]
    refine ⟨by kernel_rfl, fun l => ?_⟩
    unfold Tryz.f41
    simp only [↓wR, RA, simprocAttr, TF, CD0]
    refine loopI_of' [0, 2, 7, 8, 9] (fun (x : Nat × Bool) => [.sc (.func (.yield l) #[] #[]), .ptr 4 0, .vl false 5 (z.sets.map (codSet.val false)), .sc (.int .i64 (z.sets.length)), .sc (.int .i64 (x.1))]) (fun x => [some (.row [.vl false 1 (z.origin.map (codStr.val false)), .vl false 5 (z.sets.map (codSet.val false))] 0 2 26), some (.row [.vl false 1 (z.origin.map (codStr.val false)), .vl false 5 (z.sets.map (codSet.val false)), .sc (.int .i64 (zoneE4 z))] 0 2 52), some (.row [.sc (.bool (x.2))] 0 2 4), some (.row [.vl false 1 (z.origin.map (codStr.val false)), .vl false 5 (z.sets.map (codSet.val false))] 0 2 26), some (.row [.sc (.int .u16 2)] 0 2 34)]) (fun x => x.1 ≤ z.sets.length ∧ apexV z = (x.2 || apexL z (z.sets.drop x.1))) (fun x => z.sets.length - x.1) (0, false) ⟨Nat.zero_le _, by rw [Bool.false_or]; rfl⟩ (by simp only [↓wR, RA, simprocAttr, TF, CD0] <;> rfl) (by simp only [↓wR, RA, simprocAttr, TF, CD0] <;> rfl) ?_
    rintro ⟨i, b⟩ ⟨hi, hx⟩
    simp only at hi hx
    simp only [↓wR, RA, simprocAttr, TF, CD0]
    rw [boolI_b]; refine ⟨fun h => ?_, fun h => ?_⟩
    · obtain ⟨c, hc, hd1, hlt⟩ := at_lt h
      have hcs := hz.set c (List.mem_of_getElem? hc)
      rw [apexL_at hd1] at hx
      simp only [↓wR, RA, simprocAttr, TF, CD0, h, hc]
      rw [boolI_b]; refine ⟨fun h2 => ?_, fun h2 => ?_⟩
      · have e2 : (c.type.toNat : Int) = 2 := by simpa using h2
        rw [decide_eq_true e2, Bool.true_and] at hx
        simp only [↓wR, RA, simprocAttr, TF, CD0, h2]
        refine yield_keep [0, 2, 7, 8, 9, 17, 19] ?_
        simp only [↓wR, RA, simprocAttr, TF, CD0, yieldC, roundC]
        cases b with
        | true =>
          simp only [↓wR, RA, simprocAttr, TF, CD0]; repeat (simp (disch := omega) only [wrapI64, dleN, dltN, dleI, dltI]; try simp only [↓wR, RA, simprocAttr, TF, CD0])
          exact ⟨(i + 1, true), ⟨hlt, by rw [hx]; rfl⟩, by simp; omega, by (first | rfl | trivial | omega | (simp (disch := omega) only [wrapI64]; first | done | rfl | (simp only [List.cons.injEq, accV_snoc, accO_snoc, List.length_append, List.length_cons, List.length_nil, List.map_append, List.map_cons, List.map_nil, and_true, true_and, and_self, AV.sc.injEq, AV.sl.injEq, AObj.row.injEq, Option.some.injEq, Value.int.injEq, Nat.zero_add]; first | done | rfl | omega)) | (simp only [List.cons.injEq, accV_snoc, accO_snoc, List.length_append, List.length_cons, List.length_nil, List.map_append, List.map_cons, List.map_nil, and_true, true_and, and_self, AV.sc.injEq, AV.sl.injEq, AObj.row.injEq, Option.some.injEq, Value.int.injEq, Nat.zero_add]; first | done | rfl | omega)), by (first | rfl | trivial | omega | (simp (disch := omega) only [wrapI64]; first | done | rfl | (simp only [List.cons.injEq, accV_snoc, accO_snoc, List.length_append, List.length_cons, List.length_nil, List.map_append, List.map_cons, List.map_nil, and_true, true_and, and_self, AV.sc.injEq, AV.sl.injEq, AObj.row.injEq, Option.some.injEq, Value.int.injEq, Nat.zero_add]; first | done | rfl | omega)) | (simp only [List.cons.injEq, accV_snoc, accO_snoc, List.length_append, List.length_cons, List.length_nil, List.map_append, List.map_cons, List.map_nil, and_true, true_and, and_self, AV.sc.injEq, AV.sl.injEq, AObj.row.injEq, Option.some.injEq, Value.int.injEq, Nat.zero_add]; first | done | rfl | omega))⟩
        | false =>
          simp only [↓wR, RA, simprocAttr, TF, CD0, nameSameF, hcs.owner, hz.origin]; repeat (simp (disch := omega) only [wrapI64, dleN, dltN, dleI, dltI]; try simp only [↓wR, RA, simprocAttr, TF, CD0, nameSameF, hcs.owner, hz.origin])
          exact ⟨(i + 1, sameN c.owner z.origin), ⟨hlt, by rw [hx, Bool.false_or]⟩, by simp; omega, by (first | rfl | trivial | omega | (simp (disch := omega) only [wrapI64]; first | done | rfl | (simp only [List.cons.injEq, accV_snoc, accO_snoc, List.length_append, List.length_cons, List.length_nil, List.map_append, List.map_cons, List.map_nil, and_true, true_and, and_self, AV.sc.injEq, AV.sl.injEq, AObj.row.injEq, Option.some.injEq, Value.int.injEq, Nat.zero_add]; first | done | rfl | omega)) | (simp only [List.cons.injEq, accV_snoc, accO_snoc, List.length_append, List.length_cons, List.length_nil, List.map_append, List.map_cons, List.map_nil, and_true, true_and, and_self, AV.sc.injEq, AV.sl.injEq, AObj.row.injEq, Option.some.injEq, Value.int.injEq, Nat.zero_add]; first | done | rfl | omega)), by (first | rfl | trivial | omega | (simp (disch := omega) only [wrapI64]; first | done | rfl | (simp only [List.cons.injEq, accV_snoc, accO_snoc, List.length_append, List.length_cons, List.length_nil, List.map_append, List.map_cons, List.map_nil, and_true, true_and, and_self, AV.sc.injEq, AV.sl.injEq, AObj.row.injEq, Option.some.injEq, Value.int.injEq, Nat.zero_add]; first | done | rfl | omega)) | (simp only [List.cons.injEq, accV_snoc, accO_snoc, List.length_append, List.length_cons, List.length_nil, List.map_append, List.map_cons, List.map_nil, and_true, true_and, and_self, AV.sc.injEq, AV.sl.injEq, AObj.row.injEq, Option.some.injEq, Value.int.injEq, Nat.zero_add]; first | done | rfl | omega))⟩
      · have e2 : ¬ (c.type.toNat : Int) = 2 := by simpa using h2
        rw [decide_eq_false e2, Bool.false_and, Bool.false_or] at hx
        simp only [↓wR, RA, simprocAttr, TF, CD0, h2]; repeat (simp (disch := omega) only [wrapI64, dleN, dltN, dleI, dltI]; try simp only [↓wR, RA, simprocAttr, TF, CD0, h2])
        exact ⟨(i + 1, b), ⟨hlt, hx⟩, by simp; omega, by (first | rfl | trivial | omega | (simp (disch := omega) only [wrapI64]; first | done | rfl | (simp only [List.cons.injEq, accV_snoc, accO_snoc, List.length_append, List.length_cons, List.length_nil, List.map_append, List.map_cons, List.map_nil, and_true, true_and, and_self, AV.sc.injEq, AV.sl.injEq, AObj.row.injEq, Option.some.injEq, Value.int.injEq, Nat.zero_add]; first | done | rfl | omega)) | (simp only [List.cons.injEq, accV_snoc, accO_snoc, List.length_append, List.length_cons, List.length_nil, List.map_append, List.map_cons, List.map_nil, and_true, true_and, and_self, AV.sc.injEq, AV.sl.injEq, AObj.row.injEq, Option.some.injEq, Value.int.injEq, Nat.zero_add]; first | done | rfl | omega)), by (first | rfl | trivial | omega | (simp (disch := omega) only [wrapI64]; first | done | rfl | (simp only [List.cons.injEq, accV_snoc, accO_snoc, List.length_append, List.length_cons, List.length_nil, List.map_append, List.map_cons, List.map_nil, and_true, true_and, and_self, AV.sc.injEq, AV.sl.injEq, AObj.row.injEq, Option.some.injEq, Value.int.injEq, Nat.zero_add]; first | done | rfl | omega)) | (simp only [List.cons.injEq, accV_snoc, accO_snoc, List.length_append, List.length_cons, List.length_nil, List.map_append, List.map_cons, List.map_nil, and_true, true_and, and_self, AV.sc.injEq, AV.sl.injEq, AObj.row.injEq, Option.some.injEq, Value.int.injEq, Nat.zero_add]; first | done | rfl | omega))⟩
    rw [at_ge h] at hx
    have hb : b = apexV z := by rw [hx]; simp [apexL]
    simp only [↓wR, RA, simprocAttr, TF, CD0, h]
    rw [hb]
    clear h hx hb
    refine callAt_join (fun r st' => r = .tup [] ∧ st' = stK [some (.row [.vl false 1 (z.origin.map (codStr.val false)), .vl false 5 (z.sets.map (codSet.val false))] 0 2 26), some (.row [.vl false 1 (z.origin.map (codStr.val false)), .vl false 5 (z.sets.map (codSet.val false)), .sc (.int .i64 (needE (apexV z) 264 (zoneE4 z)))] 0 2 52), some (.row [.sc (.bool (apexV z))] 0 2 4), some (.row [.vl false 1 (z.origin.map (codStr.val false)), .vl false 5 (z.sets.map (codSet.val false))] 0 2 26), some (.row [.sc (.int .u16 2)] 0 2 34)]) rfl ?_ ?_
    · refine callAt_of_wl (T := [nameCheck, nameSame, setCheck, zRises, zAlone, zClass, zInside, zStar, zOcc, zSoas]) ok mixed Tryz.func22 rfl (by kernel_rfl) (by kernel_rfl) (by kernel_rfl) (by kernel_rfl) ?_; unfold Tryz.f22
      simp only [↓wR, RA, simprocAttr, TF, CD0]
      rw [boolK_eqI]; refine ⟨fun ⟨hn1, en1⟩ => ?_, fun ⟨hn1, en1⟩ => ?_⟩
      · simp only [↓wR, RA, simprocAttr, TF, CD0, hn1]
        rw [boolK_b]; refine ⟨fun hn2 => ?_, fun hn2 => ?_⟩
        · have hb : (apexV z) = false := by simpa only [Bool.not_eq_true'] using hn2
          have hv : needE (apexV z) 264 (zoneE4 z) = 264 := by unfold needE; rw [if_pos ⟨en1, hb⟩]
          simp only [↓wR, RA, simprocAttr, TF, CD0, hn1, hn2, cjV, cjS, cjN, namesAt]
          try rw [hv]
        · have hb : (apexV z) = true := by simpa only [Bool.not_eq_false'] using hn2
          have hv : needE (apexV z) 264 (zoneE4 z) = zoneE4 z := by unfold needE; rw [if_neg (fun q => by rw [hb] at q; cases q.2)]
          simp only [↓wR, RA, simprocAttr, TF, CD0, hn1, hn2, cjV, cjS, cjN, namesAt]
          try rw [hv]
      · have hv : needE (apexV z) 264 (zoneE4 z) = zoneE4 z := by unfold needE; rw [if_neg (fun q => en1 q.1)]
        simp only [↓wR, RA, simprocAttr, TF, CD0, hn1, cjV, cjS, cjN, namesAt]
        try rw [hv]
    rintro _ _ ⟨rfl, rfl⟩
    rw [show needE (apexV z) 264 (zoneE4 z) = zoneE5 z from rfl]
    simp only [↓wR, RA, simprocAttr, TF, CD0, contK]
    obtain ⟨e0, he0⟩ : ∃ e0, zoneE5 z = e0 := ⟨_, rfl⟩
    rw [he0]
    refine callAt_join (fun r st' => r = .tup [] ∧ st' = stK [some (.row [.vl false 1 (z.origin.map (codStr.val false)), .vl false 5 (z.sets.map (codSet.val false))] 0 2 26), some (.row [.vl false 1 (z.origin.map (codStr.val false)), .vl false 5 (z.sets.map (codSet.val false)), .sc (.int .i64 (eachE 265 (aloneV z) 0 z.sets e0))] 0 2 52), some (.row [.sc (.bool (apexV z))] 0 2 4), some (.row [.vl false 1 (z.origin.map (codStr.val false)), .vl false 5 (z.sets.map (codSet.val false))] 0 2 26), some (.row [.sc (.int .u16 2)] 0 2 34)]) rfl ?_ ?_
    · refine callAt_of_wl (T := [nameCheck, nameSame, setCheck, zRises, zAlone, zClass, zInside, zStar, zOcc, zSoas]) ok mixed Tryz.func17 rfl (by kernel_rfl) (by kernel_rfl) (by kernel_rfl) (by kernel_rfl) ?_; unfold Tryz.f17
      simp only [↓wR, RA, simprocAttr, TF, CD0]
      refine loop_of [0, 1, 2, 12, 13, 14] (fun (x : Nat × Int) => [.ptr 1 0, .sc (.int .i64 (265)), .fn (.func 24) [.ptr 1 0] [], .vl false 5 (z.sets.map (codSet.val false)), .sc (.int .i64 (z.sets.length)), .sc (.int .i64 (x.1))]) (fun x => [some (.row [.vl false 1 (z.origin.map (codStr.val false)), .vl false 5 (z.sets.map (codSet.val false))] 0 2 26), some (.row [.vl false 1 (z.origin.map (codStr.val false)), .vl false 5 (z.sets.map (codSet.val false)), .sc (.int .i64 (x.2))] 0 2 52), some (.row [.sc (.bool (apexV z))] 0 2 4), some (.row [.vl false 1 (z.origin.map (codStr.val false)), .vl false 5 (z.sets.map (codSet.val false))] 0 2 26), some (.row [.sc (.int .u16 2)] 0 2 34)]) (fun x => x.1 ≤ z.sets.length ∧ eachE 265 (aloneV z) 0 z.sets e0 = eachE 265 (aloneV z) x.1 (z.sets.drop x.1) x.2) (fun x => z.sets.length - x.1) (0, e0) ⟨Nat.zero_le _, rfl⟩ (by simp only [↓wR, RA, simprocAttr, TF, CD0] <;> rfl) (by simp only [↓wR, RA, simprocAttr, TF, CD0] <;> rfl) ?_
      rintro ⟨i, e⟩ ⟨hi, hx⟩
      simp only at hi hx
      simp only [↓wR, RA, simprocAttr, TF, CD0]
      rw [boolK_d]; refine ⟨fun h => ?_, fun h => ?_⟩
      · obtain ⟨c, hc, hd1, hlt⟩ := at_lt (decide_eq_true h)
        rw [eachE_at hd1] at hx
        have hcs := hz.set c (List.mem_of_getElem? hc)
        have hi2 : (0 : Int) ≤ i ∧ (i : Int) ≤ z.sets.length := by omega
        simp only [↓wR, RA, simprocAttr, TF, CD0, h, hc]
        rw [boolK_neI]; refine ⟨fun ⟨h1, e1⟩ => ?_, fun ⟨h1, e1⟩ => ?_⟩
        · rw [if_pos e1] at hx
          simp only [↓wR, RA, simprocAttr, TF, CD0, h1, cjV, cjS, cjN, namesAt]
          rw [hx]
        · rw [if_neg (by omega)] at hx
          simp only [↓wR, RA, simprocAttr, TF, CD0, h1, hcs, hz, hi2, zAloneF]
          refine callAt_join (fun r st' => r = .tup [] ∧ st' = stK [some (.row [.vl false 1 (z.origin.map (codStr.val false)), .vl false 5 (z.sets.map (codSet.val false))] 0 2 26), some (.row [.vl false 1 (z.origin.map (codStr.val false)), .vl false 5 (z.sets.map (codSet.val false)), .sc (.int .i64 (needE ((aloneV z) i c) 265 e))] 0 2 52), some (.row [.sc (.bool (apexV z))] 0 2 4), some (.row [.vl false 1 (z.origin.map (codStr.val false)), .vl false 5 (z.sets.map (codSet.val false))] 0 2 26), some (.row [.sc (.int .u16 2)] 0 2 34), some (.row [.vl false 1 (c.owner.map (codStr.val false)), .sc (.int .u16 c.type.toNat), .sc (.int .u16 c.cls.toNat), .sc (.int .u32 c.ttl.toNat), .vl false 4 (c.data.map (codData.val false))] 0 2 39)]) rfl ?_ ?_
          · refine callAt_of_wl (T := [nameCheck, nameSame, setCheck, zRises, zAlone, zClass, zInside, zStar, zOcc, zSoas]) ok mixed Tryz.func22 rfl (by kernel_rfl) (by kernel_rfl) (by kernel_rfl) (by kernel_rfl) ?_; unfold Tryz.f22
            simp only [↓wR, RA, simprocAttr, TF, CD0, e1]
            rw [boolK_b]; refine ⟨fun hn2 => ?_, fun hn2 => ?_⟩
            · have hb : ((aloneV z) i c) = false := by simpa only [Bool.not_eq_true'] using hn2
              have hv : needE ((aloneV z) i c) 265 0 = 265 := by unfold needE; rw [if_pos ⟨rfl, hb⟩]
              simp only [↓wR, RA, simprocAttr, TF, CD0, hn2, cjV, cjS, cjN, namesAt]
              try rw [hv]
            · have hb : ((aloneV z) i c) = true := by simpa only [Bool.not_eq_false'] using hn2
              have hv : needE ((aloneV z) i c) 265 0 = 0 := by unfold needE; rw [if_neg (fun q => by rw [hb] at q; cases q.2)]
              simp only [↓wR, RA, simprocAttr, TF, CD0, hn2, cjV, cjS, cjN, namesAt]
              try rw [hv]
          rintro _ _ ⟨rfl, rfl⟩
          simp only [↓wR, RA, simprocAttr, TF, CD0, contK]; repeat (simp (disch := omega) only [wrapI64, dleN, dltN, dleI, dltI]; try simp only [↓wR, RA, simprocAttr, TF, CD0, contK])
          exact ⟨(i + 1, needE ((aloneV z) i c) 265 e), ⟨hlt, hx⟩, by simp; omega, by (first | rfl | trivial | omega | (simp (disch := omega) only [wrapI64]; first | done | rfl | (simp only [List.cons.injEq, accV_snoc, accO_snoc, List.length_append, List.length_cons, List.length_nil, List.map_append, List.map_cons, List.map_nil, and_true, true_and, and_self, AV.sc.injEq, AV.sl.injEq, AObj.row.injEq, Option.some.injEq, Value.int.injEq, Nat.zero_add]; first | done | rfl | omega)) | (simp only [List.cons.injEq, accV_snoc, accO_snoc, List.length_append, List.length_cons, List.length_nil, List.map_append, List.map_cons, List.map_nil, and_true, true_and, and_self, AV.sc.injEq, AV.sl.injEq, AObj.row.injEq, Option.some.injEq, Value.int.injEq, Nat.zero_add]; first | done | rfl | omega)), by (first | rfl | trivial | omega | (simp (disch := omega) only [wrapI64]; first | done | rfl | (simp only [List.cons.injEq, accV_snoc, accO_snoc, List.length_append, List.length_cons, List.length_nil, List.map_append, List.map_cons, List.map_nil, and_true, true_and, and_self, AV.sc.injEq, AV.sl.injEq, AObj.row.injEq, Option.some.injEq, Value.int.injEq, Nat.zero_add]; first | done | rfl | omega)) | (simp only [List.cons.injEq, accV_snoc, accO_snoc, List.length_append, List.length_cons, List.length_nil, List.map_append, List.map_cons, List.map_nil, and_true, true_and, and_self, AV.sc.injEq, AV.sl.injEq, AObj.row.injEq, Option.some.injEq, Value.int.injEq, Nat.zero_add]; first | done | rfl | omega))⟩
      · rw [at_ge (decide_eq_false h)] at hx
        simp only [↓wR, RA, simprocAttr, TF, CD0, h, cjV, cjS, cjN, namesAt]
        rw [hx]; rfl
    rintro _ _ ⟨rfl, rfl⟩
    rw [← he0]
    clear he0
    simp only [↓wR, RA, simprocAttr, TF, CD0, contK]
    rw [show eachE 265 (aloneV z) 0 z.sets (zoneE5 z) = zoneE6 z from rfl]
    obtain ⟨e0, he0⟩ : ∃ e0, zoneE6 z = e0 := ⟨_, rfl⟩
    rw [he0]
    refine callAt_join (fun r st' => r = .tup [] ∧ st' = stK [some (.row [.vl false 1 (z.origin.map (codStr.val false)), .vl false 5 (z.sets.map (codSet.val false))] 0 2 26), some (.row [.vl false 1 (z.origin.map (codStr.val false)), .vl false 5 (z.sets.map (codSet.val false)), .sc (.int .i64 (eachE 266 (fun _ s => starV s) 0 z.sets e0))] 0 2 52), some (.row [.sc (.bool (apexV z))] 0 2 4), some (.row [.vl false 1 (z.origin.map (codStr.val false)), .vl false 5 (z.sets.map (codSet.val false))] 0 2 26), some (.row [.sc (.int .u16 2)] 0 2 34)]) rfl ?_ ?_
    · refine callAt_of_wl (T := [nameCheck, nameSame, setCheck, zRises, zAlone, zClass, zInside, zStar, zOcc, zSoas]) ok mixed Tryz.func17 rfl (by kernel_rfl) (by kernel_rfl) (by kernel_rfl) (by kernel_rfl) ?_; unfold Tryz.f17
      simp only [↓wR, RA, simprocAttr, TF, CD0]
      refine loop_of [0, 1, 2, 12, 13, 14] (fun (x : Nat × Int) => [.ptr 1 0, .sc (.int .i64 (266)), .sc (.func (.func 25) #[] #[]), .vl false 5 (z.sets.map (codSet.val false)), .sc (.int .i64 (z.sets.length)), .sc (.int .i64 (x.1))]) (fun x => [some (.row [.vl false 1 (z.origin.map (codStr.val false)), .vl false 5 (z.sets.map (codSet.val false))] 0 2 26), some (.row [.vl false 1 (z.origin.map (codStr.val false)), .vl false 5 (z.sets.map (codSet.val false)), .sc (.int .i64 (x.2))] 0 2 52), some (.row [.sc (.bool (apexV z))] 0 2 4), some (.row [.vl false 1 (z.origin.map (codStr.val false)), .vl false 5 (z.sets.map (codSet.val false))] 0 2 26), some (.row [.sc (.int .u16 2)] 0 2 34)]) (fun x => x.1 ≤ z.sets.length ∧ eachE 266 (fun _ s => starV s) 0 z.sets e0 = eachE 266 (fun _ s => starV s) x.1 (z.sets.drop x.1) x.2) (fun x => z.sets.length - x.1) (0, e0) ⟨Nat.zero_le _, rfl⟩ (by simp only [↓wR, RA, simprocAttr, TF, CD0] <;> rfl) (by simp only [↓wR, RA, simprocAttr, TF, CD0] <;> rfl) ?_
      rintro ⟨i, e⟩ ⟨hi, hx⟩
      simp only at hi hx
      simp only [↓wR, RA, simprocAttr, TF, CD0]
      rw [boolK_d]; refine ⟨fun h => ?_, fun h => ?_⟩
      · obtain ⟨c, hc, hd1, hlt⟩ := at_lt (decide_eq_true h)
        rw [eachE_at hd1] at hx
        have hcs := hz.set c (List.mem_of_getElem? hc)
        have hi2 : (0 : Int) ≤ i ∧ (i : Int) ≤ z.sets.length := by omega
        simp only [↓wR, RA, simprocAttr, TF, CD0, h, hc]
        rw [boolK_neI]; refine ⟨fun ⟨h1, e1⟩ => ?_, fun ⟨h1, e1⟩ => ?_⟩
        · rw [if_pos e1] at hx
          simp only [↓wR, RA, simprocAttr, TF, CD0, h1, cjV, cjS, cjN, namesAt]
          rw [hx]
        · rw [if_neg (by omega)] at hx
          simp only [↓wR, RA, simprocAttr, TF, CD0, h1, hcs, hz, hi2, zStarF]
          refine callAt_join (fun r st' => r = .tup [] ∧ st' = stK [some (.row [.vl false 1 (z.origin.map (codStr.val false)), .vl false 5 (z.sets.map (codSet.val false))] 0 2 26), some (.row [.vl false 1 (z.origin.map (codStr.val false)), .vl false 5 (z.sets.map (codSet.val false)), .sc (.int .i64 (needE ((fun _ s => starV s) i c) 266 e))] 0 2 52), some (.row [.sc (.bool (apexV z))] 0 2 4), some (.row [.vl false 1 (z.origin.map (codStr.val false)), .vl false 5 (z.sets.map (codSet.val false))] 0 2 26), some (.row [.sc (.int .u16 2)] 0 2 34), some (.row [.vl false 1 (c.owner.map (codStr.val false)), .sc (.int .u16 c.type.toNat), .sc (.int .u16 c.cls.toNat), .sc (.int .u32 c.ttl.toNat), .vl false 4 (c.data.map (codData.val false))] 0 2 39)]) rfl ?_ ?_
          · refine callAt_of_wl (T := [nameCheck, nameSame, setCheck, zRises, zAlone, zClass, zInside, zStar, zOcc, zSoas]) ok mixed Tryz.func22 rfl (by kernel_rfl) (by kernel_rfl) (by kernel_rfl) (by kernel_rfl) ?_; unfold Tryz.f22
            simp only [↓wR, RA, simprocAttr, TF, CD0, e1]
            rw [boolK_b]; refine ⟨fun hn2 => ?_, fun hn2 => ?_⟩
            · have hb : ((fun _ s => starV s) i c) = false := by simpa only [Bool.not_eq_true'] using hn2
              have hv : needE ((fun _ s => starV s) i c) 266 0 = 266 := by unfold needE; rw [if_pos ⟨rfl, hb⟩]
              simp only [↓wR, RA, simprocAttr, TF, CD0, hn2, cjV, cjS, cjN, namesAt]
              try rw [hv]
            · have hb : ((fun _ s => starV s) i c) = true := by simpa only [Bool.not_eq_false'] using hn2
              have hv : needE ((fun _ s => starV s) i c) 266 0 = 0 := by unfold needE; rw [if_neg (fun q => by rw [hb] at q; cases q.2)]
              simp only [↓wR, RA, simprocAttr, TF, CD0, hn2, cjV, cjS, cjN, namesAt]
              try rw [hv]
          rintro _ _ ⟨rfl, rfl⟩
          simp only [↓wR, RA, simprocAttr, TF, CD0, contK]; repeat (simp (disch := omega) only [wrapI64, dleN, dltN, dleI, dltI]; try simp only [↓wR, RA, simprocAttr, TF, CD0, contK])
          exact ⟨(i + 1, needE ((fun _ s => starV s) i c) 266 e), ⟨hlt, hx⟩, by simp; omega, by (first | rfl | trivial | omega | (simp (disch := omega) only [wrapI64]; first | done | rfl | (simp only [List.cons.injEq, accV_snoc, accO_snoc, List.length_append, List.length_cons, List.length_nil, List.map_append, List.map_cons, List.map_nil, and_true, true_and, and_self, AV.sc.injEq, AV.sl.injEq, AObj.row.injEq, Option.some.injEq, Value.int.injEq, Nat.zero_add]; first | done | rfl | omega)) | (simp only [List.cons.injEq, accV_snoc, accO_snoc, List.length_append, List.length_cons, List.length_nil, List.map_append, List.map_cons, List.map_nil, and_true, true_and, and_self, AV.sc.injEq, AV.sl.injEq, AObj.row.injEq, Option.some.injEq, Value.int.injEq, Nat.zero_add]; first | done | rfl | omega)), by (first | rfl | trivial | omega | (simp (disch := omega) only [wrapI64]; first | done | rfl | (simp only [List.cons.injEq, accV_snoc, accO_snoc, List.length_append, List.length_cons, List.length_nil, List.map_append, List.map_cons, List.map_nil, and_true, true_and, and_self, AV.sc.injEq, AV.sl.injEq, AObj.row.injEq, Option.some.injEq, Value.int.injEq, Nat.zero_add]; first | done | rfl | omega)) | (simp only [List.cons.injEq, accV_snoc, accO_snoc, List.length_append, List.length_cons, List.length_nil, List.map_append, List.map_cons, List.map_nil, and_true, true_and, and_self, AV.sc.injEq, AV.sl.injEq, AObj.row.injEq, Option.some.injEq, Value.int.injEq, Nat.zero_add]; first | done | rfl | omega))⟩
      · rw [at_ge (decide_eq_false h)] at hx
        simp only [↓wR, RA, simprocAttr, TF, CD0, h, cjV, cjS, cjN, namesAt]
        rw [hx]; rfl
    rintro _ _ ⟨rfl, rfl⟩
    rw [← he0]
    clear he0
    simp only [↓wR, RA, simprocAttr, TF, CD0, contK]
    rw [show eachE 266 (fun _ s => starV s) 0 z.sets (zoneE6 z) = zoneE7 z from rfl]
    obtain ⟨e0, he0⟩ : ∃ e0, zoneE7 z = e0 := ⟨_, rfl⟩
    rw [he0]
    refine callAt_join (fun r st' => r = .tup [] ∧ st' = stK [some (.row [.vl false 1 (z.origin.map (codStr.val false)), .vl false 5 (z.sets.map (codSet.val false))] 0 2 26), some (.row [.vl false 1 (z.origin.map (codStr.val false)), .vl false 5 (z.sets.map (codSet.val false)), .sc (.int .i64 (eachE 267 (fun _ s => occV z s) 0 z.sets e0))] 0 2 52), some (.row [.sc (.bool (apexV z))] 0 2 4), some (.row [.vl false 1 (z.origin.map (codStr.val false)), .vl false 5 (z.sets.map (codSet.val false))] 0 2 26), some (.row [.sc (.int .u16 2)] 0 2 34)]) rfl ?_ ?_
    · refine callAt_of_wl (T := [nameCheck, nameSame, setCheck, zRises, zAlone, zClass, zInside, zStar, zOcc, zSoas]) ok mixed Tryz.func17 rfl (by kernel_rfl) (by kernel_rfl) (by kernel_rfl) (by kernel_rfl) ?_; unfold Tryz.f17
      simp only [↓wR, RA, simprocAttr, TF, CD0]
      refine loop_of [0, 1, 2, 12, 13, 14] (fun (x : Nat × Int) => [.ptr 1 0, .sc (.int .i64 (267)), .fn (.func 26) [] [.ptr 0 0], .vl false 5 (z.sets.map (codSet.val false)), .sc (.int .i64 (z.sets.length)), .sc (.int .i64 (x.1))]) (fun x => [some (.row [.vl false 1 (z.origin.map (codStr.val false)), .vl false 5 (z.sets.map (codSet.val false))] 0 2 26), some (.row [.vl false 1 (z.origin.map (codStr.val false)), .vl false 5 (z.sets.map (codSet.val false)), .sc (.int .i64 (x.2))] 0 2 52), some (.row [.sc (.bool (apexV z))] 0 2 4), some (.row [.vl false 1 (z.origin.map (codStr.val false)), .vl false 5 (z.sets.map (codSet.val false))] 0 2 26), some (.row [.sc (.int .u16 2)] 0 2 34)]) (fun x => x.1 ≤ z.sets.length ∧ eachE 267 (fun _ s => occV z s) 0 z.sets e0 = eachE 267 (fun _ s => occV z s) x.1 (z.sets.drop x.1) x.2) (fun x => z.sets.length - x.1) (0, e0) ⟨Nat.zero_le _, rfl⟩ (by simp only [↓wR, RA, simprocAttr, TF, CD0] <;> rfl) (by simp only [↓wR, RA, simprocAttr, TF, CD0] <;> rfl) ?_
      rintro ⟨i, e⟩ ⟨hi, hx⟩
      simp only at hi hx
      simp only [↓wR, RA, simprocAttr, TF, CD0]
      rw [boolK_d]; refine ⟨fun h => ?_, fun h => ?_⟩
      · obtain ⟨c, hc, hd1, hlt⟩ := at_lt (decide_eq_true h)
        rw [eachE_at hd1] at hx
        have hcs := hz.set c (List.mem_of_getElem? hc)
        have hi2 : (0 : Int) ≤ i ∧ (i : Int) ≤ z.sets.length := by omega
        simp only [↓wR, RA, simprocAttr, TF, CD0, h, hc]
        rw [boolK_neI]; refine ⟨fun ⟨h1, e1⟩ => ?_, fun ⟨h1, e1⟩ => ?_⟩
        · rw [if_pos e1] at hx
          simp only [↓wR, RA, simprocAttr, TF, CD0, h1, cjV, cjS, cjN, namesAt]
          rw [hx]
        · rw [if_neg (by omega)] at hx
          simp only [↓wR, RA, simprocAttr, TF, CD0, h1, hcs, hz, hi2, zOccF]
          refine callAt_join (fun r st' => r = .tup [] ∧ st' = stK [some (.row [.vl false 1 (z.origin.map (codStr.val false)), .vl false 5 (z.sets.map (codSet.val false))] 0 2 26), some (.row [.vl false 1 (z.origin.map (codStr.val false)), .vl false 5 (z.sets.map (codSet.val false)), .sc (.int .i64 (needE ((fun _ s => occV z s) i c) 267 e))] 0 2 52), some (.row [.sc (.bool (apexV z))] 0 2 4), some (.row [.vl false 1 (z.origin.map (codStr.val false)), .vl false 5 (z.sets.map (codSet.val false))] 0 2 26), some (.row [.sc (.int .u16 2)] 0 2 34), some (.row [.vl false 1 (c.owner.map (codStr.val false)), .sc (.int .u16 c.type.toNat), .sc (.int .u16 c.cls.toNat), .sc (.int .u32 c.ttl.toNat), .vl false 4 (c.data.map (codData.val false))] 0 2 39)]) rfl ?_ ?_
          · refine callAt_of_wl (T := [nameCheck, nameSame, setCheck, zRises, zAlone, zClass, zInside, zStar, zOcc, zSoas]) ok mixed Tryz.func22 rfl (by kernel_rfl) (by kernel_rfl) (by kernel_rfl) (by kernel_rfl) ?_; unfold Tryz.f22
            simp only [↓wR, RA, simprocAttr, TF, CD0, e1]
            rw [boolK_b]; refine ⟨fun hn2 => ?_, fun hn2 => ?_⟩
            · have hb : ((fun _ s => occV z s) i c) = false := by simpa only [Bool.not_eq_true'] using hn2
              have hv : needE ((fun _ s => occV z s) i c) 267 0 = 267 := by unfold needE; rw [if_pos ⟨rfl, hb⟩]
              simp only [↓wR, RA, simprocAttr, TF, CD0, hn2, cjV, cjS, cjN, namesAt]
              try rw [hv]
            · have hb : ((fun _ s => occV z s) i c) = true := by simpa only [Bool.not_eq_false'] using hn2
              have hv : needE ((fun _ s => occV z s) i c) 267 0 = 0 := by unfold needE; rw [if_neg (fun q => by rw [hb] at q; cases q.2)]
              simp only [↓wR, RA, simprocAttr, TF, CD0, hn2, cjV, cjS, cjN, namesAt]
              try rw [hv]
          rintro _ _ ⟨rfl, rfl⟩
          simp only [↓wR, RA, simprocAttr, TF, CD0, contK]; repeat (simp (disch := omega) only [wrapI64, dleN, dltN, dleI, dltI]; try simp only [↓wR, RA, simprocAttr, TF, CD0, contK])
          exact ⟨(i + 1, needE ((fun _ s => occV z s) i c) 267 e), ⟨hlt, hx⟩, by simp; omega, by (first | rfl | trivial | omega | (simp (disch := omega) only [wrapI64]; first | done | rfl | (simp only [List.cons.injEq, accV_snoc, accO_snoc, List.length_append, List.length_cons, List.length_nil, List.map_append, List.map_cons, List.map_nil, and_true, true_and, and_self, AV.sc.injEq, AV.sl.injEq, AObj.row.injEq, Option.some.injEq, Value.int.injEq, Nat.zero_add]; first | done | rfl | omega)) | (simp only [List.cons.injEq, accV_snoc, accO_snoc, List.length_append, List.length_cons, List.length_nil, List.map_append, List.map_cons, List.map_nil, and_true, true_and, and_self, AV.sc.injEq, AV.sl.injEq, AObj.row.injEq, Option.some.injEq, Value.int.injEq, Nat.zero_add]; first | done | rfl | omega)), by (first | rfl | trivial | omega | (simp (disch := omega) only [wrapI64]; first | done | rfl | (simp only [List.cons.injEq, accV_snoc, accO_snoc, List.length_append, List.length_cons, List.length_nil, List.map_append, List.map_cons, List.map_nil, and_true, true_and, and_self, AV.sc.injEq, AV.sl.injEq, AObj.row.injEq, Option.some.injEq, Value.int.injEq, Nat.zero_add]; first | done | rfl | omega)) | (simp only [List.cons.injEq, accV_snoc, accO_snoc, List.length_append, List.length_cons, List.length_nil, List.map_append, List.map_cons, List.map_nil, and_true, true_and, and_self, AV.sc.injEq, AV.sl.injEq, AObj.row.injEq, Option.some.injEq, Value.int.injEq, Nat.zero_add]; first | done | rfl | omega))⟩
      · rw [at_ge (decide_eq_false h)] at hx
        simp only [↓wR, RA, simprocAttr, TF, CD0, h, cjV, cjS, cjN, namesAt]
        rw [hx]; rfl
    rintro _ _ ⟨rfl, rfl⟩
    rw [← he0]
    clear he0
    simp only [↓wR, RA, simprocAttr, TF, CD0, contK]
    rfl
noncomputable def zCheckF (x : RZone × Unit) : Option AV := if smallZ x.1 then some ((r1 (codInt .i64)).E true (zoneErr x.1)) else none
set_option maxRecDepth 2000000 in
theorem zCheck_pure (x : RZone × Unit) (r : AV) (h : zCheckF x = some r) : CallPure PP 6 ((aC codZone a0).E x) r := by
  by_cases hc : smallZ x.1
  case neg => simp only [zCheckF, if_neg hc] at h; cases h
  simp only [zCheckF, if_pos hc] at h
  cases h
  exact callPure_wl (TabOk.cons (pure_entry nameCheck_pure) (TabOk.cons (pure_entry nameSame_pure) (TabOk.cons (pure_entry setCheck_pure) (TabOk.cons (pure_entry zRises_pure) (TabOk.cons (pure_entry zAlone_pure) (TabOk.cons (pure_entry zClass_pure) (TabOk.cons (pure_entry zInside_pure) (TabOk.cons (pure_entry zStar_pure) (TabOk.cons (pure_entry zOcc_pure) (TabOk.cons (pure_entry zSoas_pure) (TabOk.nil PP))))))))))) Tryz.func6 (by kernel_rfl) (by kernel_rfl) (by kernel_rfl) (Nat.le_of_ble_eq_true (by kernel_rfl)) (r1 (codInt .i64)) true (zoneErr x.1) (zoneCheck_wl x.1 hc)
noncomputable abbrev zCheck : Nat × Bool × (List AV → M AV) := (6, true, pureM (aC codZone a0) zCheckF)
end Go.Proofs.YtcndpdkcagkdaaaGreat
end
section
set_option linter.unusedSimpArgs false
set_option linter.unusedVariables false
namespace Go.Proofs.YtcndpdkcagkdaaaGreat
open Go.Vm
set_option maxRecDepth 2000000
def fewL (l : List RSet) : Bool := l.all fun s => !decide ((20 : Int) < s.data.length)
def fewV (z : RZone) : Bool := fewL z.sets && decide ((z.sets.length : Int) ≤ 40)
theorem few_wl (z : RZone) (hz : smallZ z) : wl PP [] 0 (Tryz.f5.body.getD .skip) (retQ PP Tryz.f5.results.toList (fun r st => (r1 codBool).get true st.h r = some (fewV z))) (argsL 0 [codZone.val false z]) (stK []) := by
  have hl := hz.len
  unfold Tryz.f5
  simp only [codZone_val]
  simp only [↓wR, RA, simprocAttr, TF, CD0]
  refine loop_of [1, 3] (fun (i : Nat) => [.ptr 0 0, .sc (.int .i64 (i))]) (fun _ => [some (.row [.vl false 1 (z.origin.map (codStr.val false)), .vl false 5 (z.sets.map (codSet.val false))] 0 2 26)]) (fun i => i ≤ z.sets.length ∧ fewL z.sets = fewL (z.sets.drop i)) (fun i => z.sets.length - i) 0 ⟨Nat.zero_le _, rfl⟩ (by simp only [↓wR, RA, simprocAttr, TF, CD0] <;> rfl) (by simp only [↓wR, RA, simprocAttr, TF, CD0] <;> rfl) ?_
  rintro i ⟨hi, hx⟩
  simp only [↓wR, RA, simprocAttr, TF, CD0]
  rw [boolK_d]; refine ⟨fun h => ?_, fun h => ?_⟩
  · obtain ⟨c, hc, hd1, hlt⟩ := at_lt (decide_eq_true h)
    have hx' : fewL z.sets = (!decide ((20 : Int) < c.data.length) && fewL (z.sets.drop (i + 1))) := by rw [hx, hd1]; rfl
    simp only [↓wR, RA, simprocAttr, TF, CD0, h, hc]; repeat (simp (disch := omega) only [wrapI64, dleN, dltN, dleI, dltI]; try simp only [↓wR, RA, simprocAttr, TF, CD0, h, hc])
    rw [boolK_d]; refine ⟨fun h2 => ?_, fun h2 => ?_⟩
    · rw [decide_eq_true h2, Bool.not_true, Bool.false_and] at hx'
      simp only [↓wR, RA, simprocAttr, TF, CD0, h2]; repeat (simp (disch := omega) only [wrapI64, dleN, dltN, dleI, dltI]; try simp only [↓wR, RA, simprocAttr, TF, CD0, h2])
      rw [fewV, hx']; rfl
    · rw [decide_eq_false h2, Bool.not_false, Bool.true_and] at hx'
      simp only [↓wR, RA, simprocAttr, TF, CD0, h2]; repeat (simp (disch := omega) only [wrapI64, dleN, dltN, dleI, dltI]; try simp only [↓wR, RA, simprocAttr, TF, CD0, h2])
      exact ⟨i + 1, ⟨hlt, hx'⟩, by omega, by (first | rfl | trivial | omega | (simp (disch := omega) only [wrapI64]; first | done | rfl | (simp only [List.cons.injEq, accV_snoc, accO_snoc, List.length_append, List.length_cons, List.length_nil, List.map_append, List.map_cons, List.map_nil, and_true, true_and, and_self, AV.sc.injEq, AV.sl.injEq, AObj.row.injEq, Option.some.injEq, Value.int.injEq, Nat.zero_add]; first | done | rfl | omega)) | (simp only [List.cons.injEq, accV_snoc, accO_snoc, List.length_append, List.length_cons, List.length_nil, List.map_append, List.map_cons, List.map_nil, and_true, true_and, and_self, AV.sc.injEq, AV.sl.injEq, AObj.row.injEq, Option.some.injEq, Value.int.injEq, Nat.zero_add]; first | done | rfl | omega))⟩
  · rw [at_ge (decide_eq_false h)] at hx
    simp only [↓wR, RA, simprocAttr, TF, CD0, h]
    rw [fewV, hx]; rfl
noncomputable def fewCF (x : RZone × Unit) : Option AV := if smallZ x.1 then some ((r1 codBool).E true (fewV x.1)) else none
set_option maxRecDepth 2000000 in
theorem fewC_pure (x : RZone × Unit) (r : AV) (h : fewCF x = some r) : CallPure PP 5 ((aC codZone a0).E x) r := by
  by_cases hc : smallZ x.1
  case neg => simp only [fewCF, if_neg hc] at h; cases h
  simp only [fewCF, if_pos hc] at h
  cases h
  exact callPure_wl (TabOk.nil PP) Tryz.func5 (by kernel_rfl) (by kernel_rfl) (by kernel_rfl) (Nat.le_of_ble_eq_true (by kernel_rfl)) (r1 codBool) true (fewV x.1) (few_wl x.1 hc)
noncomputable abbrev fewC : Nat × Bool × (List AV → M AV) := (5, true, pureM (aC codZone a0) fewCF)
end Go.Proofs.YtcndpdkcagkdaaaGreat
end
section
namespace Go.Proofs.YtcndpdkcagkdaaaGreat
open Go.Vm
theorem eachE_zero {err : Int} (he : err ≠ 0) (p : Nat → RSet → Bool) : ∀ (l : List RSet) (i : Nat) (e : Int), eachE err p i l e = 0 → e = 0 ∧ ∀ k s, l[k]? = some s → p (i + k) s = true := by
  intro l
  induction l with
  | nil => intro i e h; exact ⟨h, fun k s hs => by simp at hs⟩
  | cons a l ih =>
    intro i e h
    rw [eachE] at h
    split at h
    · contradiction
    · rename_i h0
      have h0 : e = 0 := by omega
      obtain ⟨h1, h2⟩ := ih (i + 1) _ h
      refine ⟨h0, fun k s hs => ?_⟩
      cases k with
      | zero =>
        simp at hs
        subst hs
        cases hp : p i a with
        | true => simp [hp]
        | false => rw [needE, if_pos ⟨h0, hp⟩] at h1; exact (he h1).elim
      | succ k =>
        have := h2 k s (by simpa using hs)
        rwa [show i + 1 + k = i + (k + 1) from by omega] at this
theorem needE_zero {b : Bool} {err e : Int} (he : err ≠ 0) (h : needE b err e = 0) : e = 0 ∧ b = true := by
  unfold needE at h
  split at h
  · exact (he h).elim
  · rename_i hn
    refine ⟨h, ?_⟩
    cases b with
    | true => rfl
    | false => exact (hn ⟨h, rfl⟩).elim
structure GoodZ (z : RZone) : Prop where
  first : firstV z = 0
  rises : ∀ k s, z.sets[k]? = some s → risesV z k s = true
  cls : ∀ s ∈ z.sets, classV s = true
  inside : ∀ s ∈ z.sets, underN s.owner z.origin = true
  soas : (soasV z).1 = 1 ∧ (soasV z).2 = 1
  apex : apexV z = true
  alone : ∀ k s, z.sets[k]? = some s → aloneV z k s = true
  star : ∀ s ∈ z.sets, starV s = true
  occ : ∀ s ∈ z.sets, occV z s = true
theorem goodZ {z : RZone} (h : zoneErr z = 0) : GoodZ z := by
  unfold zoneErr at h
  split at h
  · contradiction
  rename_i h0
  obtain ⟨h7, p8⟩ := eachE_zero (by decide) _ _ _ _ h
  obtain ⟨h6, p7⟩ := eachE_zero (by decide) _ _ _ _ h7
  obtain ⟨h5, p6⟩ := eachE_zero (by decide) _ _ _ _ h6
  obtain ⟨h4, p5⟩ := needE_zero (by decide) h5
  obtain ⟨h3, p4⟩ := needE_zero (by decide) h4
  obtain ⟨h2, p3⟩ := eachE_zero (by decide) _ _ _ _ h3
  obtain ⟨h1, p2⟩ := eachE_zero (by decide) _ _ _ _ h2
  obtain ⟨_, p1⟩ := eachE_zero (by decide) _ _ _ _ h1
  have mem : ∀ (p : RSet → Bool), (∀ k s, z.sets[k]? = some s → p s = true) → ∀ s ∈ z.sets, p s = true := fun p hp s hs => by
    obtain ⟨k, hk, rfl⟩ := List.getElem_of_mem hs
    exact hp k _ (List.getElem?_eq_getElem hk)
  simp only [Bool.and_eq_true, decide_eq_true_eq] at p4
  exact ⟨by omega, fun k s hs => by simpa using p1 k s hs, mem _ p2, mem _ p3, p4, p5, fun k s hs => by simpa using p6 k s hs, mem _ p7, mem _ p8⟩
theorem sameN_iff {a b : Name} : sameN a b = true ↔ foldN a = foldN b := by simp [sameN]
theorem underN_iff {a b : Name} : underN a b = true ↔ foldN b <:+ foldN a := by simp [underN]
theorem same_under {a b : Name} (h : sameN a b = true) : underN a b = true := underN_iff.2 (by rw [sameN_iff.1 h]; exact List.suffix_refl _)
theorem under_trans {a b c : Name} (h1 : underN a b = true) (h2 : underN b c = true) : underN a c = true := underN_iff.2 ((underN_iff.1 h2).trans (underN_iff.1 h1))
theorem under_congr {a a' b : Name} (h : sameN a a' = true) : underN a b = underN a' b := by simp only [underN, sameN_iff.1 h]
theorem same_congr {a a' b : Name} (h : sameN a a' = true) : sameN b a = sameN b a' := by simp only [sameN, sameN_iff.1 h]
theorem cut_congr {z : RZone} {n m : Name} (h : sameN n m = true) : cutV z n = cutV z m := by
  have : cutStep z n = cutStep z m := by funext b s; simp only [cutStep, under_congr h]
  unfold cutV; rw [this]
def thereV (z : RZone) (n : Name) : Bool := sameN n z.origin || z.sets.any fun s => underN s.owner n && underN n z.origin
theorem has_there (z : RZone) (n : Name) : hasZ z n = thereV z n := by
  unfold hasZ thereV
  cases hu : underN n z.origin with
  | true => simp
  | false =>
    cases hs : sameN n z.origin with
    | true => rw [same_under hs] at hu; cases hu
    | false => simp
theorem has_parent {z : RZone} {a : ByteArray} {r : Name} (h : hasZ z (a :: r) = true) (hs : sameN (a :: r) z.origin = false) : hasZ z r = true := by
  unfold hasZ at h ⊢
  rw [hs, Bool.false_or, Bool.and_eq_true] at h
  obtain ⟨hu, ha⟩ := h
  have hr : underN r z.origin = true := by
    have h2 : foldN z.origin <:+ fold a :: foldN r := underN_iff.1 hu
    rcases List.suffix_cons_iff.1 h2 with h3 | h3
    · have : sameN (a :: r) z.origin = true := sameN_iff.2 h3.symm
      rw [hs] at this; cases this
    · exact underN_iff.2 h3
  rw [hr, Bool.true_and, Bool.or_eq_true]
  right
  obtain ⟨s, hs1, hs2⟩ := List.any_eq_true.1 ha
  exact List.any_eq_true.2 ⟨s, hs1, under_trans hs2 (underN_iff.2 (List.suffix_cons _ _))⟩
end Go.Proofs.YtcndpdkcagkdaaaGreat
end
section
set_option linter.unusedSimpArgs false
set_option linter.unusedVariables false
namespace Go.Proofs.YtcndpdkcagkdaaaGreat
open Go.Vm
set_option maxRecDepth 2000000
noncomputable abbrev awake16 : Nat × Bool × (List AV → M AV) := (4, true, pureM a0 (fun _ => some (.sc (.bool true))))
theorem parent_small {n : Name} (hn : smallN n) : smallN (nameParentV n).1 := by
  unfold nameParentV
  split
  · show nameSize [] ≤ _; decide
  split
  · show nameSize [] ≤ _; decide
  · have := hn.drop 1; rwa [List.drop_one] at this
theorem cut_is_small {z : RZone} {n c : Name} (hz : smallZ z) (h : cutV z n = some c) : smallN c := cut_small hz z.sets none (fun _ h => h) (fun m hm => by cases hm) c h
set_option maxHeartbeats 4000000 in
theorem law_wl (z : RZone) (n : Name) (hz : smallZ z) (hn : smallN n) : wl PP [awake16, fewC, zCheck, nameCheck, nameSame, nameUnder, zHas, nameParent, zAt, zCut] 0 (Tryz.f3.body.getD .skip) (retQ PP Tryz.f3.results.toList (fun r st => (r1 codBool).get true st.h r = some true)) (argsL 0 [codZone.val false z, codName.val false n]) (stK []) := by
  have hl := hz.len
  unfold Tryz.f3
  simp only [codZone_val, codName_val]
  simp only [↓wR, RA, simprocAttr, TF, CD0, fewCF, hz]
  rw [boolK_b]; refine ⟨fun h1 => ?_, fun h1 => ?_⟩
  · have h1' : fewV z = false := by simpa only [Bool.not_eq_true'] using h1
    simp only [↓wR, RA, simprocAttr, TF, CD0, h1, h1']
  have h1' : fewV z = true := by simpa only [Bool.not_eq_false'] using h1
  simp only [↓wR, RA, simprocAttr, TF, CD0, h1, h1', zCheckF, hz]
  rw [boolK_b]; refine ⟨fun h2 => ?_, fun h2 => ?_⟩
  · simp only [↓wR, RA, simprocAttr, TF, CD0, h2]
  have hze : zoneErr z = 0 := by simpa using h2
  simp only [↓wR, RA, simprocAttr, TF, CD0, h2, nameCheckF, hn.fit]
  rw [boolK_b]; refine ⟨fun h3 => ?_, fun h3 => ?_⟩
  · simp only [↓wR, RA, simprocAttr, TF, CD0, h3]
  have hne : nameErr n = 0 := by simpa using h3
  have hg := goodZ hze
  simp only [↓wR, RA, simprocAttr, TF, CD0, h3, nameSameF, hn, hz.origin]
  refine loop_of [1, 2, 5, 6, 7] (fun (x : Nat × Bool) => [.vl false 1 (n.map (codStr.val false)), .ptr 0 0, .sc (.bool true), .sc (.bool x.2), .sc (.int .i64 (x.1))]) (fun _ => [some (.row [.vl false 1 (z.origin.map (codStr.val false)), .vl false 5 (z.sets.map (codSet.val false))] 0 2 26)]) (fun x => x.1 ≤ z.sets.length ∧ thereV z n = (x.2 || (z.sets.drop x.1).any fun s => underN s.owner n && underN n z.origin)) (fun x => z.sets.length - x.1) (0, sameN n z.origin) ⟨Nat.zero_le _, rfl⟩ (by simp only [↓wR, RA, simprocAttr, TF, CD0] <;> rfl) (by simp only [↓wR, RA, simprocAttr, TF, CD0] <;> rfl) ?_
  rintro ⟨i, b⟩ ⟨hi, hx⟩
  simp only at hi hx
  simp only [↓wR, RA, simprocAttr, TF, CD0]
  rw [boolK_d]; refine ⟨fun h => ?_, fun h => ?_⟩
  · obtain ⟨c, hc, hd1, hlt⟩ := at_lt (decide_eq_true h)
    rw [hd1, List.any_cons] at hx
    have hcs := hz.set c (List.mem_of_getElem? hc)
    cases b with
    | true =>
      simp only [↓wR, RA, simprocAttr, TF, CD0, h]; repeat (simp (disch := omega) only [wrapI64, dleN, dltN, dleI, dltI]; try simp only [↓wR, RA, simprocAttr, TF, CD0, h])
      exact ⟨(i + 1, true), ⟨hlt, by rw [hx]; simp⟩, by simp; omega, by (first | rfl | trivial | omega | (simp (disch := omega) only [wrapI64]; first | done | rfl | (simp only [List.cons.injEq, accV_snoc, accO_snoc, List.length_append, List.length_cons, List.length_nil, List.map_append, List.map_cons, List.map_nil, and_true, true_and, and_self, AV.sc.injEq, AV.sl.injEq, AObj.row.injEq, Option.some.injEq, Value.int.injEq, Nat.zero_add]; first | done | rfl | omega)) | (simp only [List.cons.injEq, accV_snoc, accO_snoc, List.length_append, List.length_cons, List.length_nil, List.map_append, List.map_cons, List.map_nil, and_true, true_and, and_self, AV.sc.injEq, AV.sl.injEq, AObj.row.injEq, Option.some.injEq, Value.int.injEq, Nat.zero_add]; first | done | rfl | omega))⟩
    | false =>
      rw [Bool.false_or] at hx
      simp only [↓wR, RA, simprocAttr, TF, CD0, h, hc, nameUnderF, hcs.owner, hn]; repeat (simp (disch := omega) only [wrapI64, dleN, dltN, dleI, dltI]; try simp only [↓wR, RA, simprocAttr, TF, CD0, h, hc, nameUnderF, hcs.owner, hn])
      rw [boolK_b]; refine ⟨fun h5 => ?_, fun h5 => ?_⟩
      · rw [h5, Bool.true_and] at hx
        simp only [↓wR, RA, simprocAttr, TF, CD0, h5, nameUnderF, hn, hz.origin]; repeat (simp (disch := omega) only [wrapI64, dleN, dltN, dleI, dltI]; try simp only [↓wR, RA, simprocAttr, TF, CD0, h5, nameUnderF, hn, hz.origin])
        exact ⟨(i + 1, underN n z.origin), ⟨hlt, hx⟩, by simp; omega, by (first | rfl | trivial | omega | (simp (disch := omega) only [wrapI64]; first | done | rfl | (simp only [List.cons.injEq, accV_snoc, accO_snoc, List.length_append, List.length_cons, List.length_nil, List.map_append, List.map_cons, List.map_nil, and_true, true_and, and_self, AV.sc.injEq, AV.sl.injEq, AObj.row.injEq, Option.some.injEq, Value.int.injEq, Nat.zero_add]; first | done | rfl | omega)) | (simp only [List.cons.injEq, accV_snoc, accO_snoc, List.length_append, List.length_cons, List.length_nil, List.map_append, List.map_cons, List.map_nil, and_true, true_and, and_self, AV.sc.injEq, AV.sl.injEq, AObj.row.injEq, Option.some.injEq, Value.int.injEq, Nat.zero_add]; first | done | rfl | omega))⟩
      · rw [h5, Bool.false_and, Bool.false_or] at hx
        simp only [↓wR, RA, simprocAttr, TF, CD0, h5]; repeat (simp (disch := omega) only [wrapI64, dleN, dltN, dleI, dltI]; try simp only [↓wR, RA, simprocAttr, TF, CD0, h5])
        exact ⟨(i + 1, false), ⟨hlt, by rw [hx]; rfl⟩, by simp; omega, by (first | rfl | trivial | omega | (simp (disch := omega) only [wrapI64]; first | done | rfl | (simp only [List.cons.injEq, accV_snoc, accO_snoc, List.length_append, List.length_cons, List.length_nil, List.map_append, List.map_cons, List.map_nil, and_true, true_and, and_self, AV.sc.injEq, AV.sl.injEq, AObj.row.injEq, Option.some.injEq, Value.int.injEq, Nat.zero_add]; first | done | rfl | omega)) | (simp only [List.cons.injEq, accV_snoc, accO_snoc, List.length_append, List.length_cons, List.length_nil, List.map_append, List.map_cons, List.map_nil, and_true, true_and, and_self, AV.sc.injEq, AV.sl.injEq, AObj.row.injEq, Option.some.injEq, Value.int.injEq, Nat.zero_add]; first | done | rfl | omega))⟩
  rw [at_ge (decide_eq_false h), List.any_nil, Bool.or_false, ← has_there] at hx
  subst hx
  simp only [↓wR, RA, simprocAttr, TF, CD0, h, zHasF, hz, hn, bne_self_eq_false]
  have hps := parent_small hn
  simp only [↓wR, RA, simprocAttr, TF, CD0, nameParentF, hn]
  have hpv : sameN n z.origin = false → hasZ z n = true → (nameParentV n).2 = 0 ∧ hasZ z (nameParentV n).1 = true := fun h1 h2 => by
    cases n with
    | nil =>
      have hu : underN [] z.origin = true := by unfold hasZ at h2; rw [Bool.and_eq_true] at h2; exact h2.1
      have h3 : foldN z.origin = [] := List.suffix_nil.1 (underN_iff.1 hu)
      have : sameN [] z.origin = true := sameN_iff.2 h3.symm
      rw [h1] at this; cases this
    | cons a r =>
      have : nameParentV (a :: r) = (r, 0) := by unfold nameParentV; rw [if_neg (by omega), if_neg (by simp)]; rfl
      rw [this]
      exact ⟨rfl, has_parent h2 h1⟩
  have hcutS : ∀ c, cutV z n = some c → smallN c := fun c hc => cut_is_small hz hc
  have hocc : ∀ s ∈ atV z n, ∀ c, cutV z n = some c → (s.type.toNat : Int) = 1 ∨ (s.type.toNat : Int) = 28 ∨ ((s.type.toNat : Int) = 2 ∧ sameN c n = true) := fun s hs c hc => by
    obtain ⟨hs1, hs2⟩ := List.mem_filter.1 hs
    have ho := hg.occ s hs1
    unfold occV at ho
    rw [cut_congr hs2, hc] at ho
    simp only at ho
    split at ho
    · rename_i e; exact .inl e
    split at ho
    · rename_i e; exact .inr (.inl e)
    split at ho
    · rename_i e; exact .inr (.inr ⟨e, by rw [← same_congr hs2]; exact ho⟩)
    · cases ho
  have hthere : 0 < (atV z n).length → hasZ z n = true := fun hp => by
    obtain ⟨s, hs⟩ := List.exists_mem_of_length_pos hp
    obtain ⟨hs1, hs2⟩ := List.mem_filter.1 hs
    have hi := hg.inside s hs1
    unfold hasZ
    rw [← under_congr hs2, hi, Bool.true_and, Bool.or_eq_true]
    exact .inr (List.any_eq_true.2 ⟨s, hs1, same_under hs2⟩)
  rw [boolK_b]; refine ⟨fun h6 => ?_, fun h6 => ?_⟩
  · simp only [↓wR, RA, simprocAttr, TF, CD0, h6, nameSameF, hn, hz.origin]
    rw [boolK_b]; refine ⟨fun h7 => ?_, fun h7 => ?_⟩
    · have h7' : sameN n z.origin = false := by simpa only [Bool.not_eq_true'] using h7
      obtain ⟨p1, p2⟩ := hpv h7' h6
      simp only [↓wR, RA, simprocAttr, TF, CD0, h7, p1, zHasF, hz, hps, p2, bne_self_eq_false]
      simp only [↓wR, RA, simprocAttr, TF, CD0, zAtF, zCutF, hz, hn]
      refine loop_of [1, 5, 6, 10, 11, 12, 13] (fun (i : Nat) => [.vl false 1 (n.map (codStr.val false)), .sc (.bool true), .sc (.bool true), .vl true 5 ((atV z n).map (codSet.val true)), codName.val true ((cutV z n).getD []), .sc (.bool (cutV z n).isSome), .sc (.int .i64 (i))]) (fun _ => []) (fun i => i ≤ (atV z n).length) (fun i => (atV z n).length - i) 0 (Nat.zero_le _) (by simp only [↓wR, RA, simprocAttr, TF, CD0] <;> rfl) (by simp only [↓wR, RA, simprocAttr, TF, CD0] <;> rfl) ?_
      clear hi
      intro i hi
      have hal : (atV z n).length ≤ z.sets.length := filter_len _
      simp only [↓wR, RA, simprocAttr, TF, CD0]
      rw [boolK_d]; refine ⟨fun h8 => ?_, fun h8 => ?_⟩
      · obtain ⟨c, hc, hd1, hlt⟩ := at_lt (decide_eq_true h8)
        have ho := hocc c (List.mem_of_getElem? hc)
        cases hcut : cutV z n with
        | none =>
          simp only [↓wR, RA, simprocAttr, TF, CD0, h8, Option.isSome_none]; repeat (simp (disch := omega) only [wrapI64, dleN, dltN, dleI, dltI]; try simp only [↓wR, RA, simprocAttr, TF, CD0, h8, Option.isSome_none])
          exact ⟨i + 1, hlt, by omega, by (first | rfl | trivial | omega | (simp (disch := omega) only [wrapI64]; first | done | rfl | (simp only [List.cons.injEq, accV_snoc, accO_snoc, List.length_append, List.length_cons, List.length_nil, List.map_append, List.map_cons, List.map_nil, and_true, true_and, and_self, AV.sc.injEq, AV.sl.injEq, AObj.row.injEq, Option.some.injEq, Value.int.injEq, Nat.zero_add]; first | done | rfl | omega)) | (simp only [List.cons.injEq, accV_snoc, accO_snoc, List.length_append, List.length_cons, List.length_nil, List.map_append, List.map_cons, List.map_nil, and_true, true_and, and_self, AV.sc.injEq, AV.sl.injEq, AObj.row.injEq, Option.some.injEq, Value.int.injEq, Nat.zero_add]; first | done | rfl | omega))⟩
        | some q =>
          have ho := ho q hcut
          simp only [↓wR, RA, simprocAttr, TF, CD0, h8, hc]; repeat (simp (disch := omega) only [wrapI64, dleN, dltN, dleI, dltI]; try simp only [↓wR, RA, simprocAttr, TF, CD0, h8, hc])
          rw [boolK_neI]; refine ⟨fun ⟨h9, e9⟩ => ?_, fun ⟨h9, e9⟩ => ?_⟩
          · simp only [↓wR, RA, simprocAttr, TF, CD0, h9, hc]; repeat (simp (disch := omega) only [wrapI64, dleN, dltN, dleI, dltI]; try simp only [↓wR, RA, simprocAttr, TF, CD0, h9, hc])
            rw [boolK_neI]; refine ⟨fun ⟨h10, e10⟩ => ?_, fun ⟨h10, e10⟩ => ?_⟩
            · have ho := (ho.resolve_left e9).resolve_left e10
              have e11 : ((c.type.toNat : Int) == 2) = true := by rw [ho.1]; rfl
              simp only [↓wR, RA, simprocAttr, TF, CD0, h10, hc, e11, nameSameF, hcutS q hcut, hn, ho.2]; repeat (simp (disch := omega) only [wrapI64, dleN, dltN, dleI, dltI]; try simp only [↓wR, RA, simprocAttr, TF, CD0, h10, hc, e11, nameSameF, hcutS q hcut, hn, ho.2])
              exact ⟨i + 1, hlt, by omega, by (first | rfl | trivial | omega | (simp (disch := omega) only [wrapI64]; first | done | rfl | (simp only [List.cons.injEq, accV_snoc, accO_snoc, List.length_append, List.length_cons, List.length_nil, List.map_append, List.map_cons, List.map_nil, and_true, true_and, and_self, AV.sc.injEq, AV.sl.injEq, AObj.row.injEq, Option.some.injEq, Value.int.injEq, Nat.zero_add]; first | done | rfl | omega)) | (simp only [List.cons.injEq, accV_snoc, accO_snoc, List.length_append, List.length_cons, List.length_nil, List.map_append, List.map_cons, List.map_nil, and_true, true_and, and_self, AV.sc.injEq, AV.sl.injEq, AObj.row.injEq, Option.some.injEq, Value.int.injEq, Nat.zero_add]; first | done | rfl | omega))⟩
            · simp only [↓wR, RA, simprocAttr, TF, CD0, h10, hc]; repeat (simp (disch := omega) only [wrapI64, dleN, dltN, dleI, dltI]; try simp only [↓wR, RA, simprocAttr, TF, CD0, h10, hc])
              exact ⟨i + 1, hlt, by omega, by (first | rfl | trivial | omega | (simp (disch := omega) only [wrapI64]; first | done | rfl | (simp only [List.cons.injEq, accV_snoc, accO_snoc, List.length_append, List.length_cons, List.length_nil, List.map_append, List.map_cons, List.map_nil, and_true, true_and, and_self, AV.sc.injEq, AV.sl.injEq, AObj.row.injEq, Option.some.injEq, Value.int.injEq, Nat.zero_add]; first | done | rfl | omega)) | (simp only [List.cons.injEq, accV_snoc, accO_snoc, List.length_append, List.length_cons, List.length_nil, List.map_append, List.map_cons, List.map_nil, and_true, true_and, and_self, AV.sc.injEq, AV.sl.injEq, AObj.row.injEq, Option.some.injEq, Value.int.injEq, Nat.zero_add]; first | done | rfl | omega))⟩
          · simp only [↓wR, RA, simprocAttr, TF, CD0, h9, hc]; repeat (simp (disch := omega) only [wrapI64, dleN, dltN, dleI, dltI]; try simp only [↓wR, RA, simprocAttr, TF, CD0, h9, hc])
            exact ⟨i + 1, hlt, by omega, by (first | rfl | trivial | omega | (simp (disch := omega) only [wrapI64]; first | done | rfl | (simp only [List.cons.injEq, accV_snoc, accO_snoc, List.length_append, List.length_cons, List.length_nil, List.map_append, List.map_cons, List.map_nil, and_true, true_and, and_self, AV.sc.injEq, AV.sl.injEq, AObj.row.injEq, Option.some.injEq, Value.int.injEq, Nat.zero_add]; first | done | rfl | omega)) | (simp only [List.cons.injEq, accV_snoc, accO_snoc, List.length_append, List.length_cons, List.length_nil, List.map_append, List.map_cons, List.map_nil, and_true, true_and, and_self, AV.sc.injEq, AV.sl.injEq, AObj.row.injEq, Option.some.injEq, Value.int.injEq, Nat.zero_add]; first | done | rfl | omega))⟩
      · simp only [↓wR, RA, simprocAttr, TF, CD0, h8]
        rw [boolK_eqI]; refine ⟨fun ⟨h12, e12⟩ => ?_, fun ⟨h12, e12⟩ => ?_⟩
        · simp only [↓wR, RA, simprocAttr, TF, CD0, h12]
        · have hB := hthere (by omega)
          first
            | (rw [h6] at hB; exact absurd hB (by decide))
            | simp only [↓wR, RA, simprocAttr, TF, CD0, h12]
    · simp only [↓wR, RA, simprocAttr, TF, CD0, h7]
      simp only [↓wR, RA, simprocAttr, TF, CD0, zAtF, zCutF, hz, hn]
      refine loop_of [1, 5, 6, 10, 11, 12, 13] (fun (i : Nat) => [.vl false 1 (n.map (codStr.val false)), .sc (.bool true), .sc (.bool true), .vl true 5 ((atV z n).map (codSet.val true)), codName.val true ((cutV z n).getD []), .sc (.bool (cutV z n).isSome), .sc (.int .i64 (i))]) (fun _ => []) (fun i => i ≤ (atV z n).length) (fun i => (atV z n).length - i) 0 (Nat.zero_le _) (by simp only [↓wR, RA, simprocAttr, TF, CD0] <;> rfl) (by simp only [↓wR, RA, simprocAttr, TF, CD0] <;> rfl) ?_
      clear hi
      intro i hi
      have hal : (atV z n).length ≤ z.sets.length := filter_len _
      simp only [↓wR, RA, simprocAttr, TF, CD0]
      rw [boolK_d]; refine ⟨fun h8 => ?_, fun h8 => ?_⟩
      · obtain ⟨c, hc, hd1, hlt⟩ := at_lt (decide_eq_true h8)
        have ho := hocc c (List.mem_of_getElem? hc)
        cases hcut : cutV z n with
        | none =>
          simp only [↓wR, RA, simprocAttr, TF, CD0, h8, Option.isSome_none]; repeat (simp (disch := omega) only [wrapI64, dleN, dltN, dleI, dltI]; try simp only [↓wR, RA, simprocAttr, TF, CD0, h8, Option.isSome_none])
          exact ⟨i + 1, hlt, by omega, by (first | rfl | trivial | omega | (simp (disch := omega) only [wrapI64]; first | done | rfl | (simp only [List.cons.injEq, accV_snoc, accO_snoc, List.length_append, List.length_cons, List.length_nil, List.map_append, List.map_cons, List.map_nil, and_true, true_and, and_self, AV.sc.injEq, AV.sl.injEq, AObj.row.injEq, Option.some.injEq, Value.int.injEq, Nat.zero_add]; first | done | rfl | omega)) | (simp only [List.cons.injEq, accV_snoc, accO_snoc, List.length_append, List.length_cons, List.length_nil, List.map_append, List.map_cons, List.map_nil, and_true, true_and, and_self, AV.sc.injEq, AV.sl.injEq, AObj.row.injEq, Option.some.injEq, Value.int.injEq, Nat.zero_add]; first | done | rfl | omega))⟩
        | some q =>
          have ho := ho q hcut
          simp only [↓wR, RA, simprocAttr, TF, CD0, h8, hc]; repeat (simp (disch := omega) only [wrapI64, dleN, dltN, dleI, dltI]; try simp only [↓wR, RA, simprocAttr, TF, CD0, h8, hc])
          rw [boolK_neI]; refine ⟨fun ⟨h9, e9⟩ => ?_, fun ⟨h9, e9⟩ => ?_⟩
          · simp only [↓wR, RA, simprocAttr, TF, CD0, h9, hc]; repeat (simp (disch := omega) only [wrapI64, dleN, dltN, dleI, dltI]; try simp only [↓wR, RA, simprocAttr, TF, CD0, h9, hc])
            rw [boolK_neI]; refine ⟨fun ⟨h10, e10⟩ => ?_, fun ⟨h10, e10⟩ => ?_⟩
            · have ho := (ho.resolve_left e9).resolve_left e10
              have e11 : ((c.type.toNat : Int) == 2) = true := by rw [ho.1]; rfl
              simp only [↓wR, RA, simprocAttr, TF, CD0, h10, hc, e11, nameSameF, hcutS q hcut, hn, ho.2]; repeat (simp (disch := omega) only [wrapI64, dleN, dltN, dleI, dltI]; try simp only [↓wR, RA, simprocAttr, TF, CD0, h10, hc, e11, nameSameF, hcutS q hcut, hn, ho.2])
              exact ⟨i + 1, hlt, by omega, by (first | rfl | trivial | omega | (simp (disch := omega) only [wrapI64]; first | done | rfl | (simp only [List.cons.injEq, accV_snoc, accO_snoc, List.length_append, List.length_cons, List.length_nil, List.map_append, List.map_cons, List.map_nil, and_true, true_and, and_self, AV.sc.injEq, AV.sl.injEq, AObj.row.injEq, Option.some.injEq, Value.int.injEq, Nat.zero_add]; first | done | rfl | omega)) | (simp only [List.cons.injEq, accV_snoc, accO_snoc, List.length_append, List.length_cons, List.length_nil, List.map_append, List.map_cons, List.map_nil, and_true, true_and, and_self, AV.sc.injEq, AV.sl.injEq, AObj.row.injEq, Option.some.injEq, Value.int.injEq, Nat.zero_add]; first | done | rfl | omega))⟩
            · simp only [↓wR, RA, simprocAttr, TF, CD0, h10, hc]; repeat (simp (disch := omega) only [wrapI64, dleN, dltN, dleI, dltI]; try simp only [↓wR, RA, simprocAttr, TF, CD0, h10, hc])
              exact ⟨i + 1, hlt, by omega, by (first | rfl | trivial | omega | (simp (disch := omega) only [wrapI64]; first | done | rfl | (simp only [List.cons.injEq, accV_snoc, accO_snoc, List.length_append, List.length_cons, List.length_nil, List.map_append, List.map_cons, List.map_nil, and_true, true_and, and_self, AV.sc.injEq, AV.sl.injEq, AObj.row.injEq, Option.some.injEq, Value.int.injEq, Nat.zero_add]; first | done | rfl | omega)) | (simp only [List.cons.injEq, accV_snoc, accO_snoc, List.length_append, List.length_cons, List.length_nil, List.map_append, List.map_cons, List.map_nil, and_true, true_and, and_self, AV.sc.injEq, AV.sl.injEq, AObj.row.injEq, Option.some.injEq, Value.int.injEq, Nat.zero_add]; first | done | rfl | omega))⟩
          · simp only [↓wR, RA, simprocAttr, TF, CD0, h9, hc]; repeat (simp (disch := omega) only [wrapI64, dleN, dltN, dleI, dltI]; try simp only [↓wR, RA, simprocAttr, TF, CD0, h9, hc])
            exact ⟨i + 1, hlt, by omega, by (first | rfl | trivial | omega | (simp (disch := omega) only [wrapI64]; first | done | rfl | (simp only [List.cons.injEq, accV_snoc, accO_snoc, List.length_append, List.length_cons, List.length_nil, List.map_append, List.map_cons, List.map_nil, and_true, true_and, and_self, AV.sc.injEq, AV.sl.injEq, AObj.row.injEq, Option.some.injEq, Value.int.injEq, Nat.zero_add]; first | done | rfl | omega)) | (simp only [List.cons.injEq, accV_snoc, accO_snoc, List.length_append, List.length_cons, List.length_nil, List.map_append, List.map_cons, List.map_nil, and_true, true_and, and_self, AV.sc.injEq, AV.sl.injEq, AObj.row.injEq, Option.some.injEq, Value.int.injEq, Nat.zero_add]; first | done | rfl | omega))⟩
      · simp only [↓wR, RA, simprocAttr, TF, CD0, h8]
        rw [boolK_eqI]; refine ⟨fun ⟨h12, e12⟩ => ?_, fun ⟨h12, e12⟩ => ?_⟩
        · simp only [↓wR, RA, simprocAttr, TF, CD0, h12]
        · have hB := hthere (by omega)
          first
            | (rw [h6] at hB; exact absurd hB (by decide))
            | simp only [↓wR, RA, simprocAttr, TF, CD0, h12]
  · simp only [↓wR, RA, simprocAttr, TF, CD0, h6]
    simp only [↓wR, RA, simprocAttr, TF, CD0, zAtF, zCutF, hz, hn]
    refine loop_of [1, 5, 6, 10, 11, 12, 13] (fun (i : Nat) => [.vl false 1 (n.map (codStr.val false)), .sc (.bool true), .sc (.bool false), .vl true 5 ((atV z n).map (codSet.val true)), codName.val true ((cutV z n).getD []), .sc (.bool (cutV z n).isSome), .sc (.int .i64 (i))]) (fun _ => []) (fun i => i ≤ (atV z n).length) (fun i => (atV z n).length - i) 0 (Nat.zero_le _) (by simp only [↓wR, RA, simprocAttr, TF, CD0] <;> rfl) (by simp only [↓wR, RA, simprocAttr, TF, CD0] <;> rfl) ?_
    clear hi
    intro i hi
    have hal : (atV z n).length ≤ z.sets.length := filter_len _
    simp only [↓wR, RA, simprocAttr, TF, CD0]
    rw [boolK_d]; refine ⟨fun h8 => ?_, fun h8 => ?_⟩
    · obtain ⟨c, hc, hd1, hlt⟩ := at_lt (decide_eq_true h8)
      have ho := hocc c (List.mem_of_getElem? hc)
      cases hcut : cutV z n with
      | none =>
        simp only [↓wR, RA, simprocAttr, TF, CD0, h8, Option.isSome_none]; repeat (simp (disch := omega) only [wrapI64, dleN, dltN, dleI, dltI]; try simp only [↓wR, RA, simprocAttr, TF, CD0, h8, Option.isSome_none])
        exact ⟨i + 1, hlt, by omega, by (first | rfl | trivial | omega | (simp (disch := omega) only [wrapI64]; first | done | rfl | (simp only [List.cons.injEq, accV_snoc, accO_snoc, List.length_append, List.length_cons, List.length_nil, List.map_append, List.map_cons, List.map_nil, and_true, true_and, and_self, AV.sc.injEq, AV.sl.injEq, AObj.row.injEq, Option.some.injEq, Value.int.injEq, Nat.zero_add]; first | done | rfl | omega)) | (simp only [List.cons.injEq, accV_snoc, accO_snoc, List.length_append, List.length_cons, List.length_nil, List.map_append, List.map_cons, List.map_nil, and_true, true_and, and_self, AV.sc.injEq, AV.sl.injEq, AObj.row.injEq, Option.some.injEq, Value.int.injEq, Nat.zero_add]; first | done | rfl | omega))⟩
      | some q =>
        have ho := ho q hcut
        simp only [↓wR, RA, simprocAttr, TF, CD0, h8, hc]; repeat (simp (disch := omega) only [wrapI64, dleN, dltN, dleI, dltI]; try simp only [↓wR, RA, simprocAttr, TF, CD0, h8, hc])
        rw [boolK_neI]; refine ⟨fun ⟨h9, e9⟩ => ?_, fun ⟨h9, e9⟩ => ?_⟩
        · simp only [↓wR, RA, simprocAttr, TF, CD0, h9, hc]; repeat (simp (disch := omega) only [wrapI64, dleN, dltN, dleI, dltI]; try simp only [↓wR, RA, simprocAttr, TF, CD0, h9, hc])
          rw [boolK_neI]; refine ⟨fun ⟨h10, e10⟩ => ?_, fun ⟨h10, e10⟩ => ?_⟩
          · have ho := (ho.resolve_left e9).resolve_left e10
            have e11 : ((c.type.toNat : Int) == 2) = true := by rw [ho.1]; rfl
            simp only [↓wR, RA, simprocAttr, TF, CD0, h10, hc, e11, nameSameF, hcutS q hcut, hn, ho.2]; repeat (simp (disch := omega) only [wrapI64, dleN, dltN, dleI, dltI]; try simp only [↓wR, RA, simprocAttr, TF, CD0, h10, hc, e11, nameSameF, hcutS q hcut, hn, ho.2])
            exact ⟨i + 1, hlt, by omega, by (first | rfl | trivial | omega | (simp (disch := omega) only [wrapI64]; first | done | rfl | (simp only [List.cons.injEq, accV_snoc, accO_snoc, List.length_append, List.length_cons, List.length_nil, List.map_append, List.map_cons, List.map_nil, and_true, true_and, and_self, AV.sc.injEq, AV.sl.injEq, AObj.row.injEq, Option.some.injEq, Value.int.injEq, Nat.zero_add]; first | done | rfl | omega)) | (simp only [List.cons.injEq, accV_snoc, accO_snoc, List.length_append, List.length_cons, List.length_nil, List.map_append, List.map_cons, List.map_nil, and_true, true_and, and_self, AV.sc.injEq, AV.sl.injEq, AObj.row.injEq, Option.some.injEq, Value.int.injEq, Nat.zero_add]; first | done | rfl | omega))⟩
          · simp only [↓wR, RA, simprocAttr, TF, CD0, h10, hc]; repeat (simp (disch := omega) only [wrapI64, dleN, dltN, dleI, dltI]; try simp only [↓wR, RA, simprocAttr, TF, CD0, h10, hc])
            exact ⟨i + 1, hlt, by omega, by (first | rfl | trivial | omega | (simp (disch := omega) only [wrapI64]; first | done | rfl | (simp only [List.cons.injEq, accV_snoc, accO_snoc, List.length_append, List.length_cons, List.length_nil, List.map_append, List.map_cons, List.map_nil, and_true, true_and, and_self, AV.sc.injEq, AV.sl.injEq, AObj.row.injEq, Option.some.injEq, Value.int.injEq, Nat.zero_add]; first | done | rfl | omega)) | (simp only [List.cons.injEq, accV_snoc, accO_snoc, List.length_append, List.length_cons, List.length_nil, List.map_append, List.map_cons, List.map_nil, and_true, true_and, and_self, AV.sc.injEq, AV.sl.injEq, AObj.row.injEq, Option.some.injEq, Value.int.injEq, Nat.zero_add]; first | done | rfl | omega))⟩
        · simp only [↓wR, RA, simprocAttr, TF, CD0, h9, hc]; repeat (simp (disch := omega) only [wrapI64, dleN, dltN, dleI, dltI]; try simp only [↓wR, RA, simprocAttr, TF, CD0, h9, hc])
          exact ⟨i + 1, hlt, by omega, by (first | rfl | trivial | omega | (simp (disch := omega) only [wrapI64]; first | done | rfl | (simp only [List.cons.injEq, accV_snoc, accO_snoc, List.length_append, List.length_cons, List.length_nil, List.map_append, List.map_cons, List.map_nil, and_true, true_and, and_self, AV.sc.injEq, AV.sl.injEq, AObj.row.injEq, Option.some.injEq, Value.int.injEq, Nat.zero_add]; first | done | rfl | omega)) | (simp only [List.cons.injEq, accV_snoc, accO_snoc, List.length_append, List.length_cons, List.length_nil, List.map_append, List.map_cons, List.map_nil, and_true, true_and, and_self, AV.sc.injEq, AV.sl.injEq, AObj.row.injEq, Option.some.injEq, Value.int.injEq, Nat.zero_add]; first | done | rfl | omega))⟩
    · simp only [↓wR, RA, simprocAttr, TF, CD0, h8]
      rw [boolK_eqI]; refine ⟨fun ⟨h12, e12⟩ => ?_, fun ⟨h12, e12⟩ => ?_⟩
      · simp only [↓wR, RA, simprocAttr, TF, CD0, h12]
      · have hB := hthere (by omega)
        first
          | (rw [h6] at hB; exact absurd hB (by decide))
          | simp only [↓wR, RA, simprocAttr, TF, CD0, h12]
end Go.Proofs.YtcndpdkcagkdaaaGreat
end
section
set_option linter.unusedSimpArgs false
set_option linter.unusedVariables false
namespace Go.Proofs.YtcndpdkcagkdaaaGreat
open Go.Vm
set_option maxRecDepth 2000000
noncomputable section
def muP {α β : Type} (μ : α → Nat) (ν : β → Nat) (p : α × β) : Nat := μ p.1 + ν p.2
def muL {α : Type} (μ : α → Nat) (l : List α) : Nat := sumμ μ l + 1
def mu1 {α : Type} (_ : α) : Nat := 1
def muI {α β : Type} (f : β → α) (μ : α → Nat) (y : β) : Nat := μ (f y) + 1
def fieldsT (P : Program) (t : TypeId) : List Field := match P.underlying t with | some (.struct fs) => fs.toList | _ => []
def offH (l : List Field) : Nat := match l with | f :: _ => f.offset | [] => 0
def tyH (l : List Field) : TypeId := match l with | f :: _ => f.type | [] => 0
def moreF (l : List Field) : Bool := match l with | _ :: _ => true | [] => false
def oneF (l : List Field) : Bool := match l with | [_] => true | _ => false
theorem rdF_one' {P : Program} {l : List Field} {off : Nat} {t : TypeId} {α : Type} {C : Cod α} {μ : α → Nat} (hl : oneF l = true) (ho : offH l = off) (ht : tyH l = t) (hs : P.cellsOf t = C.sz) (h : Rd P t C μ) : RdF P l off C μ := by
  match l, hl with
  | [f], _ => subst ht; exact fun {H} => rdF_one ho hs h
theorem rdF_cons' {P : Program} {l : List Field} {off : Nat} {t : TypeId} {α β : Type} {A : Cod α} {B : Cod β} {μ : α → Nat} {ν : β → Nat} (hl : moreF l = true) (ho : offH l = off) (ht : tyH l = t) (hs : P.cellsOf t = A.sz) (h : Rd P t A μ) (hr : RdF P l.tail (off + A.sz) B ν) : RdF P l off (codP A B) (muP μ ν) := by
  match l, hl with
  | f :: fs, _ => subst ht; exact fun {H} => rdF_cons ho hs h hr
theorem rd_struct' {P : Program} {t : TypeId} {α β : Type} {C : Cod α} {μ : α → Nat} {f : β → α} {i : α → β} {h1 : ∀ y, i (f y) = y} {h2 : ∀ x, f (i x) = x} (ht : moreF (fieldsT P t) = true) (hc : P.cellsOf t = C.sz) (h : RdF P (fieldsT P t) 0 C μ) : Rd P t (codIso C f i h1 h2) (muI f μ) := by
  unfold fieldsT at ht h
  cases hu : P.underlying t with
  | none => rw [hu] at ht; cases ht
  | some d =>
    rw [hu] at ht h
    cases d with
    | struct fs => exact fun {H} => rd_iso (rd_struct hu hc h)
    | _ => cases ht
theorem rd_list' {P : Program} {t e : TypeId} {α : Type} {C : Cod α} {μ : α → Nat} (ht : P.underlying t = some (.slice e)) (hsz : P.cellsOf e = C.sz) (hpos : 0 < C.sz) (he : Rd P e C μ) : Rd P t (codL C) (muL μ) := rd_list ht hsz hpos he
def muLab (s : ByteArray) : Nat := s.size + 1
theorem rdS : Rd PP 9 codStr muLab := rd_str (by kernel_rfl)
def muName : Name → Nat := muL muLab
theorem rdName : Rd PP 23 codName muName := rd_list' (e := 9) (by kernel_rfl) (by kernel_rfl) (by decide) rdS
theorem rdTexts : Rd PP 22 codName muName := rd_list' (e := 9) (by kernel_rfl) (by kernel_rfl) (by decide) rdS
theorem rdNames : Rd PP 71 (codL codName) (muL muName) := rd_list' (e := 23) (by kernel_rfl) (by kernel_rfl) (by decide) rdName
theorem rdNums : Rd PP 72 (codL codU32) (muL mu1) := rd_list' (e := 36) (by kernel_rfl) (by kernel_rfl) (by decide) (rd_u32 (by kernel_rfl))
theorem rdRaw : Rd PP 73 (codL codU8) (muL mu1) := rd_list' (e := 5) (by kernel_rfl) (by kernel_rfl) (by decide) (rd_u8 (by kernel_rfl))
def muData (d : RData) : Nat := muL muName d.names + (muL mu1 d.nums + (muName d.texts + muL mu1 d.raw)) + 1
theorem rdData : Rd PP 75 codData muData :=
  rd_struct' (by kernel_rfl) (by kernel_rfl) (rdF_cons' (by kernel_rfl) (by kernel_rfl) (by kernel_rfl) (by kernel_rfl) rdNames (rdF_cons' (by kernel_rfl) (by kernel_rfl) (by kernel_rfl) (by kernel_rfl) rdNums (rdF_cons' (by kernel_rfl) (by kernel_rfl) (by kernel_rfl) (by kernel_rfl) rdTexts (rdF_one' (by kernel_rfl) (by kernel_rfl) (by kernel_rfl) (by kernel_rfl) rdRaw))))
theorem rdDatas : Rd PP 37 (codL codData) (muL muData) := rd_list' (e := 75) (by kernel_rfl) (by kernel_rfl) (by decide) rdData
theorem rdType : Rd PP 34 codU16 mu1 := rd_u16 (by kernel_rfl)
theorem rdClass : Rd PP 35 codU16 mu1 := rd_u16 (by kernel_rfl)
theorem rdU32 : Rd PP 36 codU32 mu1 := rd_u32 (by kernel_rfl)
def muSet (s : RSet) : Nat := muName s.owner + (1 + (1 + (1 + muL muData s.data))) + 1
theorem rdSet : Rd PP 39 codSet muSet :=
  rd_struct' (by kernel_rfl) (by kernel_rfl) (rdF_cons' (by kernel_rfl) (by kernel_rfl) (by kernel_rfl) (by kernel_rfl) rdName (rdF_cons' (by kernel_rfl) (by kernel_rfl) (by kernel_rfl) (by kernel_rfl) rdType (rdF_cons' (by kernel_rfl) (by kernel_rfl) (by kernel_rfl) (by kernel_rfl) rdClass (rdF_cons' (by kernel_rfl) (by kernel_rfl) (by kernel_rfl) (by kernel_rfl) rdU32 (rdF_one' (by kernel_rfl) (by kernel_rfl) (by kernel_rfl) (by kernel_rfl) rdDatas)))))
theorem rdSets : Rd PP 24 (codL codSet) (muL muSet) := rd_list' (e := 39) (by kernel_rfl) (by kernel_rfl) (by decide) rdSet
def muZone (z : RZone) : Nat := muName z.origin + muL muSet z.sets + 1
theorem rdZone : Rd PP 26 codZone muZone :=
  rd_struct' (by kernel_rfl) (by kernel_rfl) (rdF_cons' (by kernel_rfl) (by kernel_rfl) (by kernel_rfl) (by kernel_rfl) rdName (rdF_one' (by kernel_rfl) (by kernel_rfl) (by kernel_rfl) (by kernel_rfl) rdSets))
theorem wt_name (n : Name) : nameSize n = muName n := by
  suffices h : ∀ (n : Name) (k : Nat), n.foldl (fun k s => k + (s.size + 1)) k = k + sumμ muLab n by
    have := h n 1; simp only [nameSize, muName, muL]; omega
  intro n
  induction n with
  | nil => intro k; rfl
  | cons a n ih => intro k; rw [List.foldl_cons, ih]; simp only [sumμ, muLab]; omega
theorem wt_list {α : Type} {f μ : α → Nat} {c : Nat} {l : List α} (h : ∀ x, f x + 1 ≤ c * μ x) : wtL f l ≤ c * sumμ μ l := by
  induction l with
  | nil => simp [wtL, sumμ]
  | cons a l ih =>
    have := h a
    simp only [wtL, List.foldr_cons, sumμ, Nat.mul_add] at ih ⊢
    omega
theorem sum_mu1 {α : Type} (l : List α) : sumμ mu1 l = l.length := by
  induction l with
  | nil => rfl
  | cons a l ih => simp only [sumμ, ih, mu1, List.length_cons]; omega
theorem wt_data (d : RData) : wtD d + 1 ≤ 3 * muData d := by
  have h1 := wt_list (f := nameSize) (μ := muName) (c := 2) (l := d.names) (fun n => by rw [wt_name]; simp only [muName, muL]; omega)
  have h2 := wt_list (f := ByteArray.size) (μ := muLab) (c := 1) (l := d.texts) (fun n => by unfold muLab; omega)
  have h3 := sum_mu1 d.nums
  have h4 := sum_mu1 d.raw
  simp only [wtD, muData, muName, muL] at *
  omega
theorem wt_set (s : RSet) : wtS s + 1 ≤ 4 * muSet s := by
  have h1 := wt_list (f := wtD) (μ := muData) (c := 3) (l := s.data) wt_data
  have h2 := wt_name s.owner
  simp only [wtS, muSet, muName, muL] at *
  omega
theorem wt_zone (z : RZone) : wtZ z ≤ 4 * muZone z := by
  have h1 := wt_list (f := wtS) (μ := muSet) (c := 4) (l := z.sets) wt_set
  have h2 := wt_name z.origin
  simp only [wtZ, muZone, muName, muL] at *
  omega
theorem zone_small {z : RZone} (h : muZone z ≤ 1048576) : smallZ z := by have := wt_zone z; unfold smallZ; omega
theorem name_small {n : Name} (h : muName n ≤ 1048576) : smallN n := by unfold smallN; rw [wt_name]; omega
end
end Go.Proofs.YtcndpdkcagkdaaaGreat
end
namespace Go.Vm
noncomputable section
inductive Same : AObj → AObj → Prop
  | rfl (x : AObj) : Same x x
  | perm (es es' : List (Value × AV)) (h : es.Perm es') (hl : loose es = true) : Same (.map es) (.map es')
theorem Same.ghost {x y} (hs : Same x y) (h : Ghostly y) : Ghostly x := by
  cases hs with
  | rfl => exact h
  | perm es es' hp hl => obtain ⟨s, e, he⟩ := h; cases he
theorem Same.obj {g w b base x y} (hs : Same x y) (h : ObjRel g w b base y) : ObjRel g w b base x := by
  cases hs with
  | rfl => exact h
  | perm es es' hp hl =>
    obtain ⟨h0, ms, clock, h1, h2, h3, h4, l, h5, h6, h7⟩ := h
    refine ⟨h0, ms, clock, h1, by rw [h2, hp.length_eq], h3, h4, ?_⟩
    have hlen : l.length = es'.length := by rw [h5.length_eq, ← h2]; simp
    have key : ∀ (k k' : List (Value × AV)), k.Perm k' → ∀ l' : List MapEntry, l'.length = k'.length → (∀ (i : Nat) e m, k'[i]? = some e → l'[i]? = some m → m.key = e.1 ∧ Rel g w e.2 m.val) →
        ∃ l : List MapEntry, l.Perm l' ∧ l.length = k.length ∧ (∀ (i : Nat) e m, k[i]? = some e → l[i]? = some m → m.key = e.1 ∧ Rel g w e.2 m.val) := by
      intro k k' hp
      induction hp with
      | nil => intro l' hl' hr; exact ⟨l', .refl _, hl', hr⟩
      | cons a _ ih =>
        intro l' hl' hr
        cases l' with
        | nil => simp at hl'
        | cons m l' =>
          obtain ⟨l, q1, q2, q3⟩ := ih l' (by simpa using hl') (fun i e m' he hm => hr (i + 1) e m' (by simpa using he) (by simpa using hm))
          refine ⟨m :: l, q1.cons m, by simp [q2], fun i e m' he hm => ?_⟩
          cases i with
          | zero => exact hr 0 e m' (by simpa using he) (by simpa using hm)
          | succ i => exact q3 i e m' (by simpa using he) (by simpa using hm)
      | swap a b k =>
        intro l' hl' hr
        match l', hl' with
        | m :: n :: l', hl' =>
          refine ⟨n :: m :: l', List.Perm.swap _ _ _, by simpa using hl', fun i e m' he hm => ?_⟩
          match i with
          | 0 => exact hr 1 e m' (by simpa using he) (by simpa using hm)
          | 1 => exact hr 0 e m' (by simpa using he) (by simpa using hm)
          | i + 2 => exact hr (i + 2) e m' (by simpa using he) (by simpa using hm)
      | trans _ _ ih1 ih2 =>
        intro l' hl' hr
        obtain ⟨l2, q1, q2, q3⟩ := ih2 l' hl' hr
        obtain ⟨l1, p1, p2, p3⟩ := ih1 l2 q2 q3
        exact ⟨l1, p1.trans q1, p2, p3⟩
    obtain ⟨l2, q1, _, q3⟩ := key es es' hp l hlen h6
    exact ⟨l2, q1.trans h5, q3, .inr hl⟩
theorem Ok.covers {g h h' w} (hok : Ok g h' w) (hs : ∀ o x, h.get o = some x → ∃ y, h'.get o = some y ∧ Same x y) : Ok g h w := by
  refine ⟨hok.size, fun o x hx => ?_, fun o o' x x' b base base' hne hx hx' => ?_, hok.K⟩
  · obtain ⟨y, h1, h2⟩ := hs o x hx
    refine (hok.obj' o y h1).imp (fun q => ⟨q.1, h2.ghost q.2⟩) ?_
    rintro ⟨b, base, q1, q2, q3⟩
    exact ⟨b, base, q1, q2, h2.obj q3⟩
  · obtain ⟨y, h1, _⟩ := hs o x hx
    obtain ⟨y', h1', _⟩ := hs o' x' hx'
    exact hok.sep o o' y y' b base base' hne h1 h1'
theorem isSome_covers {h h' : Tr AObj} (hs : ∀ o x, h.get o = some x → ∃ y, h'.get o = some y ∧ Same x y) {o : Nat} (ho : (h.get o).isSome = true) : (h'.get o).isSome = true := by
  obtain ⟨x, hx⟩ := Option.isSome_iff_exists.1 ho
  obtain ⟨y, h1, _⟩ := hs o x hx
  rw [h1]; rfl
structure Lit where
  i : Nat
  d : TypeDesc
  e : Value × AV
def ents (lits : List Lit) (D : Nat → Bool) : List (Value × AV) := (lits.filter fun q => D q.i).map (·.e)
structure LitsOk (lits : List Lit) : Prop where
  idx : (lits.map (·.i)).Nodup
  apart : ∀ q ∈ lits, ∀ r ∈ lits, q.i ≠ r.i → apartV q.e.1 r.e.1 = true ∧ Instr.sameNow q.d q.e.1 r.e.1 = some false
theorem ents_mem {lits : List Lit} {D : Nat → Bool} {e : Value × AV} (h : e ∈ ents lits D) : ∃ q ∈ lits, D q.i = true ∧ q.e = e := by
  simp only [ents, List.mem_map, List.mem_filter] at h
  obtain ⟨q, ⟨h1, h2⟩, h3⟩ := h
  exact ⟨q, h1, h2, h3⟩
theorem apartK_ents {D : Nat → Bool} : ∀ {lits : List Lit}, LitsOk lits → apartK (ents lits D) = true
  | [], _ => rfl
  | q :: l, h => by
    have hl : LitsOk l := ⟨by have := h.idx; rw [List.map_cons, List.nodup_cons] at this; exact this.2, fun a ha b hb => h.apart a (by simp [ha]) b (by simp [hb])⟩
    have ih := apartK_ents (D := D) hl
    unfold ents at ih ⊢
    rw [List.filter_cons]
    split
    · simp only [List.map_cons, apartK, Bool.and_eq_true, List.all_eq_true]
      refine ⟨fun x hx => ?_, ih⟩
      obtain ⟨r, h1, _, rfl⟩ := ents_mem (D := D) hx
      refine (h.apart q (by simp) r (by simp [h1]) (fun e => ?_)).1
      have := h.idx
      rw [List.map_cons, List.nodup_cons] at this
      exact this.1 (by rw [e]; exact List.mem_map_of_mem h1)
    · exact ih
theorem ents_upd {lits : List Lit} (h : (lits.map (·.i)).Nodup) {D : Nat → Bool} {q : Lit} (hq : q ∈ lits) (hD : D q.i = false) : (ents lits (upd D q.i)).Perm (ents lits D ++ [q.e]) := by
  induction lits with
  | nil => cases hq
  | cons a l ih =>
    rw [List.map_cons, List.nodup_cons] at h
    unfold ents at ih ⊢
    rcases List.mem_cons.1 hq with rfl | hq
    · rw [List.filter_cons_of_pos (by simp [upd]), List.filter_cons_of_neg (by simp [hD])]
      have : l.filter (fun r => upd D q.i r.i) = l.filter (fun r => D r.i) := by
        refine List.filter_congr fun r hr => ?_
        have : r.i ≠ q.i := fun e => h.1 (by rw [← e]; exact List.mem_map_of_mem hr)
        simp [upd, this]
      rw [this, List.map_cons]
      exact (List.perm_append_singleton _ _).symm
    · have hne : a.i ≠ q.i := fun e => h.1 (by rw [e]; exact List.mem_map_of_mem hq)
      have hu : upd D q.i a.i = D a.i := by simp [upd, hne]
      cases hb : D a.i with
      | true =>
        rw [List.filter_cons_of_pos (by rw [hu, hb]), List.filter_cons_of_pos (by rw [hb])]
        exact (ih h.2 hq).cons _
      | false =>
        rw [List.filter_cons_of_neg (by rw [hu, hb]; simp), List.filter_cons_of_neg (by rw [hb]; simp)]
        exact ih h.2 hq
theorem ents_other {lits : List Lit} {D : Nat → Bool} {i : Nat} (h : ∀ q ∈ lits, q.i ≠ i) : ents lits (upd D i) = ents lits D := by
  unfold ents
  congr 1
  exact List.filter_congr fun q hq => by simp [upd, h q hq]
theorem ents_none {lits : List Lit} {D : Nat → Bool} (h : ∀ q ∈ lits, D q.i = false) : ents lits D = [] := by
  unfold ents
  rw [List.filter_eq_nil_iff.2 (fun q hq => by simp [h q hq])]
  rfl
theorem ents_all {lits : List Lit} {D : Nat → Bool} (h : ∀ q ∈ lits, D q.i = true) : ents lits D = lits.map (·.e) := by
  unfold ents
  rw [List.filter_eq_self.2 (fun q hq => h q hq)]
theorem findNow_none (d : TypeDesc) (k : Value) : ∀ (l : List MapEntry) (i : Nat), (∀ m ∈ l, Instr.sameNow d k m.key = some false) → Instr.findNow d k l i = some none
  | [], _, _ => rfl
  | m :: l, i, h => by
    rw [Instr.findNow, h m (by simp)]
    exact findNow_none d k l (i + 1) (fun m hm => h m (by simp [hm]))
theorem findK_none {P : Program} {kt : TypeId} {d : TypeDesc} {k : Value} {es : List (Value × AV)} (hu : P.underlying kt = some d) (h : ∀ e ∈ es, Instr.sameNow d k e.1 = some false) : findK P kt k es = some none := by
  have hf : Instr.findNow d k (keysM es) 0 = some none := findNow_none d k _ 0 (fun m hm => by
    simp only [keysM, List.mem_map] at hm
    obtain ⟨e, he, rfl⟩ := hm
    exact h e he)
  have hn : nowOk P kt k es = true := by unfold nowOk; rw [hu]; simp only; rw [hf]; rfl
  unfold findK
  rw [hn, Bool.or_true, cond_true]
  have hevu : ev P (underlying kt) = some d := by
    simp [underlying, program, ev, hu, ev_bind', ev_pure, Sem.bind, bind]
  have : ev P (Instr.findKey kt k (keysM es)) = some none := by
    unfold Instr.findKey
    rw [ev_bind', hevu]
    simp only [Option.bind_some]
    rw [hf]; rfl
  rw [this]; rfl
theorem Step.covers {g h w lo hi g' h' h'' w'} (s : Step g h w lo hi g' h' w') (hs : ∀ o x, h''.get o = some x → ∃ y, h'.get o = some y ∧ Same x y) : Step g h w lo hi g' h'' w' :=
  ⟨s.ext, s.size, s.os, s.tape, s.output, s.frame, s.fresh, fun o b base ho hi => s.own o b base (isSome_covers hs ho) hi, s.Kold⟩
def isIns (o : Oper) : Bool := match o.op with | .insert .. => true | _ => false
def gvalY (ops : Array Oper) (L : SL) (o : Oper) : Option Bool := bif isIns o then some false else gval ops L o
def opsY (P : Program) (T : Tab) (ops : Array Oper) (E : List Rec → Prop) : List Oper → (SL → St → Prop) → List Rec → SL → St → Prop
  | [], K => fun recs L st => E recs ∧ K L st
  | o :: r, K => fun recs L st => (gvalY ops L o = some true ∧ opDoX P T o recs (opsY P T ops E r K) L st) ∨ (gvalY ops L o = some false ∧ opsY P T ops E r K (recs ++ [⟨[], []⟩]) (putL o.dst (.sc undef) L) st)
theorem opsY_run {P : Program} {T : Tab} {ops : Array Oper} {E : List Rec → Prop} {K : SL → St → Prop} : ∀ (l : List Oper) (L : SL) (st : St) (recs : List Rec), opsY P T ops E l K recs L st →
    ∃ ds L' st', ds.map (·.o) = l ∧ (∀ d ∈ ds, DSRun P T d ∧ gvalY ops d.L d.o = some d.want) ∧ Chain ds L st L' st' ∧ E (recs ++ ds.map fun d => ⟨d.R, d.W⟩) ∧ K L' st' := by
  intro l
  induction l with
  | nil => intro L st recs h; exact ⟨[], L, st, rfl, by simp, ⟨rfl, rfl⟩, by simpa using h.1, h.2⟩
  | cons o l ih =>
    intro L st recs h
    rcases h with ⟨hb, F, W, v, st1, hop, h4, h5, h6, h7, h8⟩ | ⟨hb, h3⟩
    · obtain ⟨ds, L', st', e1, e2, e3, e4, e5⟩ := ih _ _ _ h8
      have hle := operL_le hop
      refine ⟨{ o, L, st, want := true, v, st1, R := F, W := W ++ fromTo st.nx (st1.nx - st.nx) } :: ds, L', st', by simp [e1], ?_, ⟨rfl, rfl, ?_⟩, ?_, e5⟩
      · intro d hd
        rcases List.mem_cons.1 hd with rfl | hd
        · refine ⟨⟨fun _ => ⟨hop, h6, h7, fun q => ?_, fun q hq hn => ?_⟩, fun e => by cases e⟩, hb⟩
          · simp only [List.mem_append, fromTo_mem]
            constructor
            · rintro (hq | hq)
              · exact .inl ⟨.inl hq, h4 q hq⟩
              · exact .inr ⟨hq.1, by simp at hle; omega⟩
            · rintro (hq | hq)
              · exact hq.1
              · exact .inr ⟨hq.1, by omega⟩
          · have := h5 q hq (fun hw => hn (List.mem_append.2 (.inl hw)))
            rw [maskH_get _ _ _ (fun p hp => by have := h6 p hp; simp at hle; omega), if_pos hq] at this
            exact this
        · exact e2 d hd
      · exact e3
      · simpa [List.append_assoc] using e4
    · obtain ⟨ds, L', st', e1, e2, e3, e4, e5⟩ := ih _ _ _ h3
      refine ⟨{ o, L, st, want := false, v := .sc undef, st1 := st, R := [], W := [] } :: ds, L', st', by simp [e1], ?_, ⟨rfl, rfl, ?_⟩, ?_, e5⟩
      · intro d hd
        rcases List.mem_cons.1 hd with rfl | hd
        · exact ⟨⟨(fun e => by cases e), fun _ => ⟨rfl, rfl, rfl, rfl⟩⟩, hb⟩
        · exact e2 d hd
      · exact e3
      · simpa [List.append_assoc] using e4
theorem runOk_of {P : Program} {T : Tab} {ops : Array Oper} {ds : List DS} {L : SL} {st : St} {L' : SL} {st' : St} (hs : slotsCalm ops = true) (e1 : ds.map (·.o) = ops.toList) (e2 : ∀ d ∈ ds, DSRun P T d) (e3 : Chain ds L st L' st') : RunOk P T ops ds L st L' st' := by
  obtain ⟨c1, c2, c3, c4⟩ := chain_at e2 e3
  unfold slotsCalm at hs
  rw [Bool.and_eq_true] at hs
  refine ⟨e1, e2, c1, ⟨c2, c3, c4⟩, fun i k x y t hik hx hy ht hdt => ?_, fun i o ho e he hb => ?_⟩
  · have hxi : (x.o, i) ∈ ops.toList.zipIdx := by
      rw [List.mem_zipIdx_iff_getElem?, ← e1]; simp [hx]
    have hyk : (y.o, k) ∈ ops.toList.zipIdx := by
      rw [List.mem_zipIdx_iff_getElem?, ← e1]; simp [hy]
    have h1 := List.all_eq_true.1 hs.1 _ hxi
    have h2 := List.all_eq_true.1 h1 t ht
    have h3 := List.all_eq_true.1 h2 _ hyk
    simp only [hdt, Bool.or_eq_true] at h3
    rcases h3 with (h3 | h3) | h3
    · simp at h3
    · simp at h3; omega
    · rw [Nat.max_comm, Nat.min_comm]; exact h3
  · have hoi : (o, i) ∈ ops.toList.zipIdx := by rw [List.mem_zipIdx_iff_getElem?]; simpa using ho
    have h1 := List.all_eq_true.1 hs.2 _ hoi
    rw [Array.all_eq_true_iff_forall_mem] at h1
    have := h1 e he
    rw [hb] at this
    simpa using this
theorem calm_of {ops : Array Oper} {ds : List DS} (e4 : calmAll (Region.before ops) 0 (ds.map fun d => ⟨d.R, d.W⟩) = true) : Calm ops ds := fun i k x y hik hx hy => by
  have := calmAll_get _ 0 e4 i k ⟨x.R, x.W⟩ ⟨y.R, y.W⟩ hik (by simp [hx]) (by simp [hy])
  simp only [calmPair, Nat.zero_add, Bool.or_eq_true, Bool.and_eq_true] at this
  rcases this with h1 | h1
  · exact .inr ⟨h1.1.1, h1.1.2, h1.2⟩
  · exact .inl h1
end
end Go.Vm
namespace Go.Vm
noncomputable section
theorem At.ins {H : (Nat → Bool) → Nat → Option AObj} {P : Program} {T : Tab} (hT : TabOkF P T) {ops : Array Oper} {ds : List DS} {L0 : SL} {g0 : Gh} {st0 : St} {w0 : World} {df : List Deferred} {ro : Option Nat} {N : Nat} {nt : Nat} {L' : SL} {st' : St} (R : RunOk P T ops ds L0 st0 L' st')
    {D : Nat → Bool} {a : Act} {w : World} {i : Nat} {d : DS} (hi : ds[i]? = some d) (hD : D i = false) (hr : ∀ e ∈ d.o.after, Region.binds .any e = true → D e.on = true) (A : At H ops ds L0 g0 st0 w0 df nt (nxAt ds st0.nx ds.length) D a w)
    {t : TypeId} {m k x : Operand} (hop : d.o.op = .insert t m k x) (hdst : d.o.dst = none) (hgd : d.o.guard = none) {p : Nat} {kt et : TypeId} {key : Value} (hu : P.underlying t = some (.map kt et)) (hm : onlyOf d.o d.L m = .mp p) (hkey : (onlyOf d.o d.L k).toV = some key)
    (hck : ev P (Instr.checkKey false 10000 kt key) = some ()) {es : List (Value × AV)} (hes : H D p = some (.map es)) (hlim : p ≤ limit) (hplt : p < nxAt ds st0.nx ds.length) (hfind : findK P kt key es = some none) (hst : stays es (es ++ [(key, onlyOf d.o d.L x)]) = true)
    {es' : List (Value × AV)} (hes' : H (upd D i) p = some (.map es')) (hsame : Same (.map es') (.map (es ++ [(key, onlyOf d.o d.L x)]))) (hoth : ∀ o, o ≠ p → H (upd D i) o = H D o)
    {Q : Exit → Act → World → Prop} {K : Act → World → Prop} (hK : ∀ a' w', At H ops ds L0 g0 st0 w0 df nt (nxAt ds st0.nx ds.length) (upd D i) a' w' → K a' w') : wpOpIn (fence ro) N P ops Q i K a w := by
  have ho := R.get hi
  have hbef := ready_before A.closed ho hr
  have hcl := A.closed.upd ho hr
  obtain ⟨a1, a2, a3, a4⟩ := R.at' i d hi
  obtain ⟨g, h, h1, h2, h3, h4, h5⟩ := A.mem
  have slot : ∀ t ∈ usesOf ops d.o, valS ds L0 D ds.length t = lk d.L t := by
    intro t ht
    have hlt : i < ds.length := (List.getElem?_eq_some_iff.1 hi).1
    have := valS_upto (L0 := L0) (D := D) (i := i) (t := t) (ds := ds) (fun k e hk he => ?_) ds.length
    · rw [this, a1 t]; congr 1; omega
    · rcases Nat.lt_trichotomy k i with hlt' | rfl | hgt
      · have := R.slots i k d e t (by omega) hi hk ht he
        rw [show max i k = i from by omega, show min i k = k from by omega] at this
        exact ⟨fun _ => hlt', fun _ => hbef k this⟩
      · exact ⟨(fun q => by rw [hD] at q; cases q), (fun q => by omega)⟩
      · have := R.slots i k d e t (by omega) hi hk ht he
        rw [show max i k = k from by omega, show min i k = i from by omega] at this
        exact ⟨(fun q => by have := A.closed k i q this; rw [hD] at this; cases this), (fun q => by omega)⟩
  have mono1 : ∀ i d, ds[i]? = some d → d.st.nx = nxAt ds st0.nx i ∧ d.st.nx ≤ d.st1.nx := fun i d hd => ⟨(R.at' i d hd).2.2.1, (R.at' i d hd).2.2.2⟩
  have hp : ∀ q ∈ [p], q ≤ limit := fun q hq => by rw [List.mem_singleton] at hq; subst hq; exact hlim
  have hmask : ∀ o, (maskH h [p]).get o = if o = p then h.get o else none := fun o => by rw [maskH_get _ _ _ hp]; simp
  have hsub : ∀ o x, (maskH h [p]).get o = some x → h.get o = some x := fun o x hx => by
    rw [hmask] at hx
    by_cases e : o = p
    · rw [if_pos e] at hx; exact hx
    · rw [if_neg e] at hx; cases hx
  have hrel : RelF g w (onlyOf d.o d.L) a.eval := onlyOf_rel fun t ⟨x, hx, e⟩ => by
    have hu : t ∈ usesOf ops d.o := by
      simp only [usesOf, List.mem_append, List.mem_filterMap]
      exact .inl (.inr ⟨x, hx, by rw [e]⟩)
    rw [← slot t hu]
    exact h4 t
  have hgp : (maskH h [p]).get p = some (.map es) := by rw [hmask, if_pos rfl, h1, hes]
  obtain ⟨st1, hst1⟩ : ∃ st1 : St, st1 = { h := (maskH h [p]).set depth p (some (.map (es ++ [(key, onlyOf d.o d.L x)]))), nx := nxAt ds st0.nx ds.length, rl := [p], wl := [p] } := ⟨_, rfl⟩
  have hrun : operL P T d.o (onlyOf d.o d.L) { h := maskH h [p], nx := nxAt ds st0.nx ds.length, rl := [], wl := [] } = some (.sc undef, st1) := by
    have h6 : aop P d.o (onlyOf d.o d.L) { h := maskH h [p], nx := nxAt ds st0.nx ds.length, rl := [], wl := [] } = some (.sc undef, st1) := by
      unfold aop
      rw [hop]
      simp only [opUpdate, hu, hm, hkey, M.bind, hget, hgp, updateObj, hck, hfind, hst, cond_true, hset, M.pure, hst1]
      rw [show Nat.ble p limit = true from Nat.ble_eq_true_of_le hlim]
      rfl
    have h7 : operL P T d.o (onlyOf d.o d.L) = mono (aop P d.o (onlyOf d.o d.L)) := by unfold operL; rw [hop]
    rw [h7, mono, h6]
    simp only
    rw [hst1]
    simp only
    rw [show Nat.ble (nxAt ds st0.nx ds.length) (nxAt ds st0.nx ds.length) = true from Nat.ble_eq_true_of_le (Nat.le_refl _)]
    rfl
  unfold wpOpIn
  rw [ho]
  dsimp only
  rw [if_pos (by simp [Region.wanted, hgd])]
  refine operL_okF hT (h2.part hsub) (fun o q1 q2 => by rw [hst1] at q2; exact absurd (Nat.lt_of_le_of_lt q1 q2) (Nat.lt_irrefl _)) (fun o x hx => ?_) hrel hrun ro N _ _ ?_
  · have hx' : (maskH h [p]).get o = some x := hx
    rw [hmask] at hx'
    by_cases e : o = p
    · subst e; exact hplt
    · rw [if_neg e] at hx'; cases hx'
  rintro u w' ⟨g', q1, q2, q3⟩
  have hget1 : ∀ o, st1.h.get o = if o = p then some (.map (es ++ [(key, onlyOf d.o d.L x)])) else none := fun o => by
    rw [hst1]
    simp only
    rw [get_set _ _ _ _ hlim, hmask]
    by_cases e : o = p
    · rw [if_pos e, if_pos e]
    · rw [if_neg e, if_neg e, if_neg e]
  have hfs := frame_step (h' := mergeH st1.h [p] h) (S := fun o => o ∈ [p]) h2 hsub (fun o x hx => by
    rw [hmask] at hx
    by_cases e : o = p
    · rw [e]; exact List.mem_singleton.2 rfl
    · rw [if_neg e] at hx; cases hx) q1 q2 (fun o hS => by rw [mergeH_get _ _ _ _ hp, if_pos hS]) (fun o hS => by rw [mergeH_get _ _ _ _ hp, if_neg hS]) (fun o e1 e2 => by rw [hst1] at e2; exact absurd (Nat.lt_of_le_of_lt e1 e2) (Nat.lt_irrefl _))
  have hH : ∀ o, ((mergeH st1.h [p] h).set depth p (some (.map es'))).get o = H (upd D i) o := fun o => by
    rw [get_set _ _ _ _ hlim]
    by_cases e : o = p
    · rw [if_pos e, e, hes']
    · rw [if_neg e, mergeH_get _ _ _ _ hp, if_neg (by simpa using e), h1, hoth o e]
  have hcov : ∀ o y, ((mergeH st1.h [p] h).set depth p (some (.map es'))).get o = some y → ∃ z, (mergeH st1.h [p] h).get o = some z ∧ Same y z := fun o y hy => by
    rw [get_set _ _ _ _ hlim] at hy
    by_cases e : o = p
    · rw [if_pos e] at hy
      cases hy
      refine ⟨_, ?_, hsame⟩
      rw [mergeH_get _ _ _ _ hp, if_pos (by simpa using e), hget1, if_pos e]
    · rw [if_neg e] at hy
      exact ⟨y, hy, .rfl _⟩
  have hnx1 : st1.nx = nxAt ds st0.nx ds.length := by rw [hst1]
  refine hK _ _ ⟨⟨g', _, hH, hfs.2.covers hcov, (h3.both ((by have := hfs.1; rw [hnx1] at this; exact this.widen (nxAt_mono mono1 ds.length 0 (Nat.zero_le _)) (Nat.le_refl _)))).covers hcov, fun t => ?_, fun k e hk hkD o o1 o2 => ?_⟩, by rw [put_size]; exact A.size, by rw [put_defers]; exact A.defers, hcl⟩
  · rw [valS_upd hi (fun q => by rw [hdst] at q; cases q), if_neg (fun q => by have := q.1; rw [hdst] at this; cases this), hdst]
    exact (h4 t).ext q1.ext
  · have hki : k ≠ i := fun q => by subst q; simp [upd] at hkD
    simp only [upd, if_neg hki] at hkD
    exact q1.fresh o (h5 k e hk hkD o o1 o2) (fun q => by have := q.2; rw [hnx1] at this; exact absurd (Nat.lt_of_le_of_lt q.1 this) (Nat.lt_irrefl _))
theorem drawn_gen {P : Program} {T : Tab} (hm : P.follows .mixedOrders = true) {H : (Nat → Bool) → Nat → Option AObj} {ops : Array Oper} {ro : Option Nat} {N : Nat} {B : BaseP} {nt id : Nat} {Q : Exit → Act → World → Prop} {ds : List DS} {L : SL} {st : St} {L' : SL} {st' stF : St} (R : RunOk P T ops ds L st L' st')
    {g : Gh} {w : World} {a : Act} (h0 : ∀ o, H (fun _ => false) o = st.h.get o) (hF : ∀ D, (∀ i, i < ds.length → D i = true) → ∀ o, H D o = stF.h.get o) (hnF : stF.nx = st'.nx)
    (hstep : ∀ (w0 : World) (D : Nat → Bool) (a' : Act) (w' : World) (i : Nat) (d : DS) (Q : Exit → Act → World → Prop) (K : Act → World → Prop), ds[i]? = some d → D i = false → (∀ e ∈ d.o.after, Region.binds .any e = true → D e.on = true) → At H ops ds L g st w0 a.defers nt (nxAt ds st.nx ds.length) D a' w' → (∀ a'' w'', At H ops ds L g st w0 a.defers nt (nxAt ds st.nx ds.length) (upd D i) a'' w'' → K a'' w'') → wpOpIn (fence ro) N P ops Q i K a' w')
    (hnear : B.Near st.nx st'.nx) (hc : Cur B g st w) (hr : RelSL g w nt L a.tmps) (hd : Marks B.n0 st.h g w a.defers)
    (hK : ∀ g w a', Cur B g stF w → RelSL g w nt L' a'.tmps → Marks B.n0 stF.h g w a'.defers → a'.defers = a.defers → Q .normal a' w) :
    (Code.region id ops true).wpIn (fence ro) N P Q a w := by
  have c1 := R.at'
  obtain ⟨c2, c3, c4⟩ := R.fin
  have hc1 := hc.drawn
  have hd' : Marks B.n0 st.h g { w with drawn := w.drawn + 1 } a.defers := hd
  have mono1 : ∀ i d, ds[i]? = some d → d.st.nx = nxAt ds st.nx i ∧ d.st.nx ≤ d.st1.nx := fun i d hd => ⟨(c1 i d hd).2.2.1, (c1 i d hd).2.2.2⟩
  refine wpIn_region_any hm (any_ok (H := H) (L0 := L) (g0 := g) (st0 := st) (w0 := { w with drawn := w.drawn + 1 }) (df := a.defers) R (fun D a w i d Q K hi hD hr A hK => hstep _ D a w i d Q K hi hD hr A hK) ?_ ops.size _ a _ (by simp) ?_ ?_)
  · intro D a' w' hall A
    obtain ⟨g', h', q1, q2, q3, q4, q5⟩ := A.mem
    have hh : ∀ o, h'.get o = stF.h.get o := fun o => by rw [q1 o, hF D hall o]
    have hle : st.nx ≤ st'.nx := by rw [c4]; exact nxAt_mono mono1 ds.length 0 (Nat.zero_le _)
    refine hK g' w' a' (hc1.step (st' := stF) (by rw [hnF]; exact hnear) ⟨by rw [hnF]; exact hle, ?_⟩ (q2.congr hh)) ⟨A.size, fun t => ?_⟩ (by rw [A.defers]; exact Marks.congr (Marks.step q3 hd') hh) A.defers
    · rw [hnF, c4]; exact q3.congr hh
    · rw [c2 t, ← valS_all _ hall]; exact q4 t
  · exact left_le _ _
  · have hf : (fun k => (Array.replicate ops.size false).getD k false) = fun _ => false := by
      funext k
      simp only [Array.getD_eq_getD_getElem?, Array.getElem?_replicate]
      split <;> rfl
    rw [hf]
    exact ⟨⟨g, st.h, fun o => (h0 o).symm, hc1.ok, .refl _ _ _ _ _, fun t => by
        rw [valS_none]; exact (hr.2 t).ext (Ext.same (w := w) (w' := { w with drawn := w.drawn + 1 }) rfl), fun i d hd _ o h1 h9 => hc.fresh o (by
        have := nxAt_mono mono1 i 0 (Nat.zero_le _)
        rw [(c1 i d hd).2.2.1] at h1
        exact Nat.le_trans this h1) (hnear o (by
        have := nxAt_mono mono1 i 0 (Nat.zero_le _)
        rw [(c1 i d hd).2.2.1] at h1
        exact Nat.le_trans this h1) (by
        rw [c4]
        have h10 := nxAt_mono mono1 ds.length (i + 1) (List.getElem?_eq_some_iff.1 hd).1
        rw [nxAt.eq_2, hd] at h10
        exact Nat.lt_of_lt_of_le h9 h10))⟩, hr.1, rfl, fun i k hik => by cases hik⟩
theorem valH_nowrite {ds : List DS} {h0 : Tr AObj} {D : Nat → Bool} {p : Nat} : ∀ m, (∀ k e, k < m → ds[k]? = some e → D k = true → p ∉ e.W) → valH ds h0 D m p = h0.get p
  | 0, _ => rfl
  | m + 1, h => by
    have ih := valH_nowrite (h0 := h0) (D := D) (p := p) m (fun k e hk => h k e (by omega))
    rw [valH]
    cases hd : ds[m]? with
    | none => exact ih
    | some d =>
      simp only
      rw [if_neg (fun q => h m d (by omega) hd q.1 q.2), ih]
theorem valH_only {ds : List DS} {h0 : Tr AObj} {D : Nat → Bool} {p k0 : Nat} {d : DS} (hd : ds[k0]? = some d) (hW : p ∈ d.W) (hD : D k0 = true) (ho : ∀ k e, ds[k]? = some e → k ≠ k0 → p ∉ e.W) : ∀ m, k0 < m → valH ds h0 D m p = d.st1.h.get p
  | 0, h => by omega
  | m + 1, h => by
    rw [valH]
    by_cases e : m = k0
    · subst e
      rw [hd]
      simp only
      rw [if_pos ⟨hD, hW⟩]
    · have ih := valH_only (h0 := h0) hd hW hD ho m (by omega)
      cases hm : ds[m]? with
      | none => exact ih
      | some f =>
        simp only
        rw [if_neg (fun q => ho m f hm e q.2), ih]
def litH (ds : List DS) (h0 : Tr AObj) (p k0 : Nat) (lits : List Lit) (D : Nat → Bool) (o : Nat) : Option AObj := if o = p then (if D k0 = true then some (.map (ents lits D)) else h0.get p) else valH ds h0 D ds.length o
structure LitAt (P : Program) (ops : Array Oper) (ds : List DS) (p k0 : Nat) (q : Lit) : Prop where
  at' : ∃ d, ds[q.i]? = some d ∧ ∃ t m k x kt et, d.o.op = .insert t m k x ∧ d.o.dst = none ∧ d.o.guard = none ∧ P.underlying t = some (.map kt et) ∧ P.underlying kt = some q.d ∧ onlyOf d.o d.L m = .mp p ∧ (onlyOf d.o d.L k).toV = some q.e.1 ∧ ev P (Instr.checkKey false 10000 kt q.e.1) = some () ∧ onlyOf d.o d.L x = q.e.2
  bef : ((Region.before ops).getD q.i 0).testBit k0 = true
theorem drawn_lit {P : Program} {T : Tab} (hT : TabOkF P T) (hm : P.follows .mixedOrders = true) {ops : Array Oper} {ro : Option Nat} {N : Nat} {B : BaseP} {nt id : Nat} {Q : Exit → Act → World → Prop} (hg : guardsIn nt ops = true) (hdst : dstsIn nt ops = true) {ds : List DS} {L : SL} {st : St} {L' : SL} {st' stF : St} (R : RunOk P T ops ds L st L' st') (C : Calm ops ds)
    (hgY : ∀ d ∈ ds, gvalY ops d.L d.o = some d.want) {p k0 : Nat} {lits : List Lit} (hl : LitsOk lits) (hat : ∀ q ∈ lits, LitAt P ops ds p k0 q) (hall : ∀ i d, ds[i]? = some d → isIns d.o = true → ∃ q ∈ lits, q.i = i) {d0 : DS} (hk0 : ds[k0]? = some d0) (hk0' : isIns d0.o = false) (hno : ∀ k e, ds[k]? = some e → k ≠ k0 → p ∉ e.R ∧ p ∉ e.W)
    (hp : st'.h.get p = some (.map [])) (hplt : p < st'.nx) (hlim : p ≤ limit) (hF : ∀ o, stF.h.get o = if o = p then some (.map (lits.map (·.e))) else st'.h.get o) (hnF : stF.nx = st'.nx)
    {g : Gh} {w : World} {a : Act} (hnear : B.Near st.nx st'.nx) (hc : Cur B g st w) (hr : RelSL g w nt L a.tmps) (hd : Marks B.n0 st.h g w a.defers)
    (hK : ∀ g w a', Cur B g stF w → RelSL g w nt L' a'.tmps → Marks B.n0 stF.h g w a'.defers → a'.defers = a.defers → Q .normal a' w) :
    (Code.region id ops true).wpIn (fence ro) N P Q a w := by
  have hlt0 : k0 < ds.length := (List.getElem?_eq_some_iff.1 hk0).1
  have hlen : ∀ q ∈ lits, q.i < ds.length := fun q hq => by
    obtain ⟨d, h1, _⟩ := (hat q hq).at'
    exact (List.getElem?_eq_some_iff.1 h1).1
  have hne0 : ∀ q ∈ lits, q.i ≠ k0 := fun q hq e => by
    obtain ⟨d, h1, t, m, k, x, kt, et, h2, _⟩ := (hat q hq).at'
    rw [e, hk0] at h1
    cases h1
    unfold isIns at hk0'
    rw [h2] at hk0'
    cases hk0'
  have hfin : valH ds st.h (fun _ => true) ds.length p = some (.map []) := by rw [← R.fin.2.1 p, hp]
  have hW0 : p ∈ d0.W → d0.st1.h.get p = some (.map []) := fun hW => by
    rw [← valH_only (h0 := st.h) (D := fun _ => true) hk0 hW rfl (fun k e hk hne => (hno k e hk hne).2) ds.length hlt0]; exact hfin
  have hN0 : p ∉ d0.W → st.h.get p = some (.map []) := fun hW => by
    rw [← valH_nowrite (h0 := st.h) (D := fun _ => true) (p := p) ds.length (fun k e _ hk _ => by
      by_cases h : k = k0
      · rw [h, hk0] at hk; cases hk; exact hW
      · exact (hno k e hk h).2)]
    exact hfin
  have hnx : st'.nx = nxAt ds st.nx ds.length := R.fin.2.2
  refine drawn_gen hm (H := litH ds st.h p k0 lits) (stF := stF) R (fun o => ?_) (fun D hD o => ?_) hnF (fun w0 D a' w' i d Q K hi hD hrd A hK => ?_) hnear hc hr hd hK
  · unfold litH
    by_cases e : o = p
    · rw [if_pos e, if_neg (by simp), e]
    · rw [if_neg e, valH_none]
  · unfold litH
    rw [hF]
    by_cases e : o = p
    · rw [if_pos e, if_pos e, if_pos (hD k0 hlt0), ents_all (fun q hq => hD _ (hlen q hq))]
    · rw [if_neg e, if_neg e, valH_all _ hD, ← R.fin.2.1 o]
  · have hbef := ready_before A.closed (R.get hi) hrd
    have hmem := List.mem_of_getElem? hi
    have hgv := hgY d hmem
    have hcalm := calm_obj R C hi hD A.closed hrd
    cases hins : isIns d.o with
    | false =>
      have hgv' : gval ops d.L d.o = some d.want := by unfold gvalY at hgv; rw [hins] at hgv; exact hgv
      have hnl : ∀ q ∈ lits, q.i ≠ i := fun q hq e => by
        obtain ⟨d', h1, t, m, k, x, kt, et, h2, _⟩ := (hat q hq).at'
        rw [e, hi] at h1
        cases h1
        unfold isIns at hins
        rw [h2] at hins
        cases hins
      refine At.step hT R hg hdst hi hgv' (fun o ho => ?_) (fun o => ?_) hD hrd A hK
      · unfold litH
        by_cases e : o = p
        · subst e
          by_cases hik : i = k0
          · subst hik
            rw [if_pos rfl, if_neg (by rw [hD]; simp)]
            rw [(R.at' i d hi).2.1 o, valH_nowrite i (fun k e hk he _ => (hno k e he (by omega)).2)]
          · exact ((hno i d hi hik).1 ho).elim
        · rw [if_neg e]; exact hcalm.1 o ho
      · unfold litH
        by_cases e : o = p
        · subst e
          rw [if_pos rfl, if_pos rfl]
          by_cases hik : i = k0
          · subst hik
            rw [hk0] at hi
            cases hi
            have hen : ents lits (upd D i) = [] := ents_none (fun q hq => by
              have hne := hne0 q hq
              simp only [upd, if_neg hne]
              cases hDq : D q.i with
              | false => rfl
              | true => have := A.closed q.i i hDq (hat q hq).bef; rw [hD] at this; cases this)
            rw [if_pos (show upd D i i = true from by simp [upd]), hen]
            by_cases hW : o ∈ d0.W
            · rw [if_pos hW, hW0 hW]
            · rw [if_neg hW, if_neg (by rw [hD]; simp), hN0 hW]
          · rw [if_neg (hno i d hi hik).2, ents_other hnl]
            simp only [upd, if_neg (Ne.symm hik)]
        · rw [if_neg e, if_neg e]; exact hcalm.2 o
    | true =>
      obtain ⟨q, hq, rfl⟩ := hall i d hi hins
      obtain ⟨d', h1, t, m, k, x, kt, et, h2, h3, h4, h5, h6, h7, h8, h9, h10⟩ := (hat q hq).at'
      rw [hi] at h1
      cases h1
      have hDk : D k0 = true := hbef k0 (hat q hq).bef
      have hne := hne0 q hq
      have hothers : ∀ e ∈ ents lits D, ∃ r ∈ lits, r.i ≠ q.i ∧ r.e = e := fun e he => by
        obtain ⟨r, r1, r2, r3⟩ := ents_mem he
        exact ⟨r, r1, (fun e => by rw [e, hD] at r2; cases r2), r3⟩
      have hperm := ents_upd hl.idx hq hD
      have hW : d.W = [] := by
        have : d.want = false := by
          unfold gvalY at hgv
          rw [hins] at hgv
          simpa using hgv.symm
        exact ((R.ok d hmem).skip this).2.2.2
      refine At.ins hT R hi hD hrd A h2 h3 h4 h5 h7 h8 h9 (es := ents lits D) (es' := ents lits (upd D q.i)) ?_ hlim (by rw [← hnx]; exact hplt) (findK_none h6 (fun e he => ?_)) ?_ ?_ ?_ (fun o e => ?_) hK
      · unfold litH; rw [if_pos rfl, if_pos hDk]
      · obtain ⟨r, r1, r2, rfl⟩ := hothers e he
        exact (hl.apart q hq r r1 (Ne.symm r2)).2
      · have hqe : (q.e.1, onlyOf d.o d.L x) = q.e := by rw [h10]
        rw [hqe]
        unfold stays
        cases hlo : loose (ents lits D) with
        | false => rfl
        | true =>
          have : loose (ents lits D ++ [q.e]) = true := by
            unfold loose at hlo ⊢
            simp only [Bool.and_eq_true] at hlo ⊢
            refine ⟨Nat.ble_eq_true_of_le (by have := Nat.le_of_ble_eq_true hlo.1; rw [List.length_append]; omega), ?_⟩
            have key : ∀ l : List (Value × AV), apartK l = true → (∀ e ∈ l, apartV e.1 q.e.1 = true) → apartK (l ++ [q.e]) = true := by
              intro l
              induction l with
              | nil => intro _ _; rfl
              | cons b l ih =>
                intro h1 h2
                simp only [apartK, List.cons_append, Bool.and_eq_true, List.all_eq_true] at h1 ⊢
                refine ⟨fun y hy => ?_, ih h1.2 (fun e he => h2 e (by simp [he]))⟩
                rcases List.mem_append.1 hy with hy | hy
                · exact h1.1 y hy
                · rw [List.mem_singleton] at hy; rw [hy]; exact h2 b (by simp)
            refine key _ hlo.2 (fun e he => ?_)
            obtain ⟨r, r1, r2, rfl⟩ := hothers e he
            exact (hl.apart r r1 q hq r2).1
          rw [this]; rfl
      · unfold litH; rw [if_pos rfl, if_pos (by simp [upd, hDk])]
      · have hqe : (q.e.1, onlyOf d.o d.L x) = q.e := by rw [h10]
        rw [hqe]
        by_cases h2 : 2 ≤ (ents lits (upd D q.i)).length
        · refine .perm _ _ hperm ?_
          unfold loose
          rw [Nat.ble_eq_true_of_le h2, apartK_ents hl]
          rfl
        · have h3 : (ents lits D).length = 0 := by have := hperm.length_eq; rw [List.length_append] at this; simp at this; omega
          have h4 : ents lits D = [] := List.eq_nil_of_length_eq_zero h3
          rw [h4] at hperm ⊢
          rw [List.nil_append] at hperm ⊢
          rw [List.perm_singleton.1 hperm]
          exact .rfl _
      · unfold litH
        rw [if_neg e, if_neg e, hcalm.2 o, hW, if_neg (by simp)]
end
end Go.Vm
namespace Go.Vm
noncomputable section
abbrev Look := Nat → Option (Bool × (List AV → M AV))
def topF : Nat := 10000
def callX (look : Look) (f : Nat) (args : List AV) : M AV :=
  bif Nat.blt f topF then
    match look f with
    | some p => mono (p.2 args)
    | none => .fail
  else .fail
def callFnX (look : Look) (g : Fn) (args : List AV) : M AV :=
  match g with
  | .func g => callX look g args
  | _ => .fail
def callVX (look : Look) (f : AV) (args : List AV) : M AV :=
  match f with
  | .fn g first captured => callFnX look g (first ++ args ++ captured)
  | .sc x =>
    match x with
    | .func g first captured => callFnX look g (first.toList.map .sc ++ args ++ captured.toList.map .sc)
    | _ => .fail
  | _ => .fail
def operX (P : Program) (look : Look) (o : Oper) (ρ : Operand → AV) : M AV :=
  match o.op with
  | .call { callee := .value f, args, .. } => callVX look (ρ f) (args.toList.map ρ)
  | _ => mono (aop P o ρ)
def Grows {α : Type} (m : M α) : Prop := ∀ st a st1, m st = some (a, st1) → st.nx ≤ st1.nx
theorem Grows.pure {α : Type} (a : α) : Grows (M.pure a) := fun st _ st1 h => by cases h; exact Nat.le_refl _
theorem Grows.fail {α : Type} : Grows (M.fail : M α) := fun st _ st1 h => by cases h
theorem Grows.of {α : Type} (a : Option α) : Grows (M.of a) := by cases a; exact Grows.fail; exact Grows.pure _
theorem Grows.cond {α : Type} {b : Bool} {x y : M α} (hx : Grows x) (hy : Grows y) : Grows (bif b then x else y) := by cases b <;> assumption
theorem Grows.bind {α β : Type} {m : M α} {f : α → M β} (hm : Grows m) (hf : ∀ x, Grows (f x)) : Grows (m.bind f) := fun st b st2 h => by
  obtain ⟨x, s1, h1, h2⟩ := bind_some h
  exact Nat.le_trans (hm _ _ _ h1) (hf x _ _ _ h2)
theorem Grows.hget (id : Nat) : Grows (Vm.hget id) := fun st a st1 h => by
  unfold Vm.hget at h
  split at h
  · cases h; exact Nat.le_refl _
  · cases h
theorem Grows.hset (id : Nat) (x : AObj) : Grows (Vm.hset id x) := fun st a st1 h => by
  unfold Vm.hset at h
  split at h
  · cases hb : Nat.ble id limit with
    | true => rw [hb] at h; cases h; exact Nat.le_refl _
    | false => rw [hb] at h; cases h
  · cases h
theorem Grows.hdel (id : Nat) : Grows (Vm.hdel id) := fun st a st1 h => by
  unfold Vm.hdel at h
  split at h
  · cases hb : Nat.ble id limit with
    | true => rw [hb] at h; cases h; exact Nat.le_refl _
    | false => rw [hb] at h; cases h
  · cases h
theorem Grows.hnew (x : AObj) : Grows (Vm.hnew x) := fun st a st1 h => by
  unfold Vm.hnew at h
  cases hb : Nat.ble st.nx limit with
  | true => rw [hb] at h; cases h; exact Nat.le_succ _
  | false => rw [hb] at h; cases h
theorem Grows.mono {α : Type} {m : M α} (h : Grows m) : Vm.mono m = m := by
  funext st
  unfold Vm.mono
  cases hm : m st with
  | none => rfl
  | some p =>
    obtain ⟨a, st1⟩ := p
    simp only
    rw [show Nat.ble st.nx st1.nx = true from Nat.ble_eq_true_of_le (h st a st1 hm)]
    rfl
theorem Grows.cellsIn (sz : Nat) (v : AV) : Grows (Vm.cellsIn sz v) := by
  unfold Vm.cellsIn cellsObj
  repeat' (first | exact Grows.pure _ | exact Grows.fail | exact Grows.hget _ | apply Grows.cond | (refine Grows.bind ?_ fun x => ?_) | split)
theorem Grows.exacts {P : Program} {ρ : Operand → AV} {o : Oper} {l : List Operand} : Grows (opPure P ρ o l) := by unfold opPure; exact Grows.cond (Grows.of _) Grows.fail
theorem Grows.bx {t : TypeId} {x : AV} : Grows (opBox t x) := by
  unfold opBox
  repeat' (first | exact Grows.pure _ | exact Grows.fail | exact Grows.hnew _ | apply Grows.cond | (refine Grows.bind ?_ fun x => ?_) | split)
theorem aop_grows {P : Program} {o : Oper} {ρ : Operand → AV} : Grows (aop P o ρ) := by
  unfold aop
  cases ho : o.op with
  | move x => exact Grows.pure _
  | assign x => exact Grows.pure _
  | load t a =>
    show Grows (opLoad P t (ρ a))
    unfold opLoad loadObj
    repeat' (first | exact Grows.pure _ | exact Grows.fail | exact Grows.of _ | exact Grows.hget _ | (refine Grows.bind ?_ fun x => ?_) | split)
  | fieldAddr s x f =>
    show Grows (opFieldAddr P s (ρ x) f)
    unfold opFieldAddr
    repeat' (first | exact Grows.pure _ | exact Grows.fail | exact Grows.of _ | apply Grows.cond | split)
  | binOp op t x y u =>
    show Grows (opBin P ρ o op t x y)
    have he : ∀ a b, Grows (binElse P ρ o op t a b) := fun a b => by
      unfold binElse eqRef eqPtr eqSlice eqMap eqIfc eqFunc bothPlain yesNo
      repeat' (first | exact Grows.pure _ | exact Grows.fail | exact Grows.of _ | exact Grows.hget _ | apply Grows.cond | (refine Grows.bind ?_ fun x => ?_) | split)
    unfold opBin binVals binInt
    repeat' (first | exact he _ _ | exact Grows.pure _ | exact Grows.fail | exact Grows.of _ | apply Grows.cond | split)
  | pick c a b =>
    show Grows (opPick (ρ c) (ρ a) (ρ b))
    unfold opPick
    repeat' (first | exact Grows.pure _ | exact Grows.fail | split)
  | store t a x =>
    show Grows (opStore P t (ρ a) (ρ x))
    unfold opStore storeObj
    repeat' (first | exact Grows.pure _ | exact Grows.fail | exact Grows.hget _ | exact Grows.hset _ _ | apply Grows.cond | (refine Grows.bind ?_ fun x => ?_) | split)
  | mapUpdate t m k x =>
    show Grows (opUpdate P t (ρ m) (ρ k) (ρ x))
    unfold opUpdate updateObj
    repeat' (first | exact Grows.pure _ | exact Grows.fail | exact Grows.hget _ | exact Grows.hset _ _ | apply Grows.cond | (refine Grows.bind ?_ fun x => ?_) | split)
  | insert t m k x =>
    show Grows (opUpdate P t (ρ m) (ρ k) (ρ x))
    unfold opUpdate updateObj
    repeat' (first | exact Grows.pure _ | exact Grows.fail | exact Grows.hget _ | exact Grows.hset _ _ | apply Grows.cond | (refine Grows.bind ?_ fun x => ?_) | split)
  | extract t ix =>
    show Grows (opExtract (ρ t) ix)
    unfold opExtract
    repeat' (first | exact Grows.pure _ | exact Grows.fail | exact Grows.of _ | split)
  | indexAddr t x ix =>
    show Grows (opIndexAddr P t (ρ x) (ρ ix))
    unfold opIndexAddr indexIn
    repeat' (first | exact Grows.pure _ | exact Grows.fail | exact Grows.of _ | apply Grows.cond | split)
  | nilCheck x =>
    show Grows (opNilCheck (ρ x))
    unfold opNilCheck
    repeat' (first | exact Grows.pure _ | exact Grows.fail | split)
  | alloc t =>
    show Grows (opAlloc P t)
    unfold opAlloc
    split
    · exact Grows.fail
    · exact Grows.bx
  | box t x => exact Grows.bx
  | build t ps =>
    show Grows (opBuild P t _)
    unfold opBuild
    repeat' (first | exact Grows.pure _ | exact Grows.fail | exact Grows.of _ | split)
  | buildSlice t len ps =>
    show Grows (opBuildSlice P t len _)
    unfold opBuildSlice newRowOf
    repeat' (first | exact Grows.hnew _ | exact Grows.pure _ | exact Grows.fail | exact Grows.of _ | apply Grows.cond | (refine Grows.bind ?_ fun x => ?_) | split)
  | makeSlice t l c =>
    show Grows (opMakeSlice P t (ρ l) (ρ c))
    unfold opMakeSlice newRowOf
    repeat' (first | exact Grows.hnew _ | exact Grows.pure _ | exact Grows.fail | exact Grows.of _ | apply Grows.cond | (refine Grows.bind ?_ fun x => ?_) | split)
  | makeMap t r =>
    show Grows (opMakeMap r)
    unfold opMakeMap
    repeat' (first | exact Grows.hnew _ | exact Grows.pure _ | exact Grows.fail | (refine Grows.bind ?_ fun x => ?_) | split)
  | makeFunc f a b => exact Grows.pure _
  | convert src dst x =>
    show Grows (opConvert P ρ o src dst (ρ x))
    have he : Grows (convElse P ρ o (ρ x)) := by unfold convElse; split; exact Grows.of _; exact Grows.fail
    unfold opConvert convKinds
    repeat' (first | exact he | exact Grows.fail | split)
    · unfold convSB; repeat' (first | exact Grows.hnew _ | exact Grows.pure _ | exact Grows.fail | apply Grows.cond | (refine Grows.bind ?_ fun x => ?_) | split)
    · unfold convBS bytesStr; repeat' (first | exact Grows.cellsIn _ _ | exact Grows.pure _ | exact Grows.fail | apply Grows.cond | (refine Grows.bind ?_ fun x => ?_) | split)
    · unfold convUP ofUnsafe; repeat' (first | exact Grows.hget _ | exact Grows.pure _ | exact Grows.fail | apply Grows.cond | (refine Grows.bind ?_ fun x => ?_) | split)
    · unfold convPU toUnsafe; repeat' (first | exact Grows.hget _ | exact Grows.pure _ | exact Grows.fail | apply Grows.cond | (refine Grows.bind ?_ fun x => ?_) | split)
    · unfold convInt; repeat' (first | exact Grows.pure _ | exact Grows.fail | split)
  | makeInterface t x =>
    show Grows (opMakeInterface P t (ρ x))
    unfold opMakeInterface
    repeat' (first | exact Grows.pure _ | exact Grows.fail | split)
  | field s x f =>
    show Grows (opField P s (ρ x) f)
    unfold opField
    repeat' (first | exact Grows.pure _ | exact Grows.fail | exact Grows.of _ | split)
  | index t x ix =>
    show Grows (opIndex P ρ o t x ix)
    unfold opIndex
    repeat' (first | exact Grows.exacts | exact Grows.pure _ | exact Grows.fail | exact Grows.of _ | apply Grows.cond | split)
  | slice t x lo hi mx =>
    show Grows (opSlice P ρ o t x lo hi mx)
    unfold opSlice sliceArr
    repeat' (first | exact Grows.exacts | exact Grows.hget _ | exact Grows.pure _ | exact Grows.fail | exact Grows.of _ | apply Grows.cond | (refine Grows.bind ?_ fun x => ?_) | split)
  | lookup t x ix ok =>
    show Grows (opLookup P t (ρ x) (ρ ix) ok)
    unfold opLookup lookupObj found
    repeat' (first | exact Grows.hget _ | exact Grows.pure _ | exact Grows.fail | exact Grows.of _ | apply Grows.cond | (refine Grows.bind ?_ fun x => ?_) | split)
  | typeAssert x t a ok =>
    show Grows (opTypeAssert P ρ o (ρ x) a ok)
    unfold opTypeAssert
    repeat' (first | exact Grows.pure _ | exact Grows.fail | exact Grows.of _ | apply Grows.cond | split)
  | unOp op t x => exact Grows.exacts
  | call c =>
    obtain ⟨callee, args, ts⟩ := c
    cases callee with
    | value f => exact Grows.fail
    | invoke r m => exact Grows.fail
    | builtin b =>
      show Grows (opBuiltin P ρ o b args.toList ts)
      unfold opBuiltin
      split <;> first | exact Grows.fail | exact Grows.exacts | skip
      · unfold opLen lenObj
        repeat' (first | exact Grows.hget _ | exact Grows.pure _ | exact Grows.fail | (refine Grows.bind ?_ fun x => ?_) | split)
      · have ha : ∀ e sz bytes s new, Grows (aappend e sz bytes s new) := fun e sz bytes s new => by
          unfold aappend appendObj newRowOf
          repeat' (first | exact Grows.hget _ | exact Grows.hnew _ | exact Grows.hdel _ | exact Grows.pure _ | exact Grows.fail | apply Grows.cond | (refine Grows.bind ?_ fun x => ?_) | split)
        unfold opAppend
        repeat' (first | exact ha _ _ _ _ _ | exact Grows.cellsIn _ _ | exact Grows.pure _ | exact Grows.fail | apply Grows.cond | (refine Grows.bind ?_ fun x => ?_) | split)
      · unfold opCopy copyObj
        repeat' (first | exact Grows.hget _ | exact Grows.hset _ _ | exact Grows.cellsIn _ _ | exact Grows.pure _ | exact Grows.fail | apply Grows.cond | (refine Grows.bind ?_ fun x => ?_) | split)
      · unfold opDelete deleteObj
        repeat' (first | exact Grows.hget _ | exact Grows.hset _ _ | exact Grows.pure _ | exact Grows.fail | apply Grows.cond | (refine Grows.bind ?_ fun x => ?_) | split)
      · unfold opCap
        repeat' (first | exact Grows.pure _ | exact Grows.fail | split)
      · unfold opSliceData
        repeat' (first | exact Grows.pure _ | exact Grows.fail | apply Grows.cond | split)
      · unfold opUnsafeString stringObj
        repeat' (first | exact Grows.hget _ | exact Grows.hset _ _ | exact Grows.pure _ | exact Grows.fail | apply Grows.cond | (refine Grows.bind ?_ fun x => ?_) | split)
  | _ => exact Grows.fail
structure XA where
  run : Look → (Operand → AV) → M AV
def prepB (P : Program) (o : Oper) (op : BinOp) (t : TypeId) (x y : Operand) : XA := ⟨fun _ ρ => opBin P ρ o op t x y⟩
def prepU (P : Program) (o : Oper) (b : Builtin) (args : List Operand) (ts : Array TypeId) : XA :=
  match b, args with
  | .len, [x] => ⟨fun _ ρ => (opLen ((ts[0]?).bind P.underlying) (ρ x))⟩
  | .append, [s, x] => ⟨fun _ ρ => (opAppend P ts[0]? ((ts[1]?).bind P.underlying) (ρ s) (ρ x))⟩
  | .copy, [d, x] => ⟨fun _ ρ => (opCopy P ts[0]? (ρ d) (ρ x))⟩
  | .delete, [m, k] => ⟨fun _ ρ => (opDelete P ((ts[0]?).bind P.underlying) (ρ m) (ρ k))⟩
  | .cap, [x] => ⟨fun _ ρ => (opCap ((ts[0]?).bind P.underlying) (ρ x))⟩
  | .unsafeSliceData, [x] => ⟨fun _ ρ => (opSliceData (ρ x))⟩
  | .unsafeString, [x, y] => ⟨fun _ ρ => (opUnsafeString P ts[0]? (ρ x) (ρ y))⟩
  | .min, l => ⟨fun _ ρ => (opPure P ρ o l)⟩
  | .max, l => ⟨fun _ ρ => (opPure P ρ o l)⟩
  | _, _ => ⟨fun _ _ => .fail⟩
def prepA (P : Program) (o : Oper) : XA :=
  match o.op with
  | .move x => ⟨fun _ ρ => (.pure (ρ x))⟩
  | .assign x => ⟨fun _ ρ => (.pure (ρ x))⟩
  | .load t a => ⟨fun _ ρ => (opLoad P t (ρ a))⟩
  | .fieldAddr s x f => ⟨fun _ ρ => (opFieldAddr P s (ρ x) f)⟩
  | .binOp op t x y _ => prepB P o op t x y
  | .pick c a b => ⟨fun _ ρ => (opPick (ρ c) (ρ a) (ρ b))⟩
  | .store t a x => ⟨fun _ ρ => (opStore P t (ρ a) (ρ x))⟩
  | .extract t ix => ⟨fun _ ρ => (opExtract (ρ t) ix)⟩
  | .call { callee := .value f, args, .. } => ⟨fun look ρ => callVX look (ρ f) (args.toList.map ρ)⟩
  | .call { callee := .builtin b, args, argTypes } => prepU P o b args.toList argTypes
  | .indexAddr t x ix => ⟨fun _ ρ => (opIndexAddr P t (ρ x) (ρ ix))⟩
  | .nilCheck x => ⟨fun _ ρ => (opNilCheck (ρ x))⟩
  | .alloc t => ⟨fun _ _ => (opAlloc P t)⟩
  | .box t x => ⟨fun _ ρ => (opBox t (ρ x))⟩
  | .build t parts => ⟨fun _ ρ => (opBuild P t (parts.toList.map fun p => (p.1, ρ p.2)))⟩
  | .buildSlice t len parts => ⟨fun _ ρ => (opBuildSlice P t len (parts.toList.map fun p => (p.1, ρ p.2)))⟩
  | .makeSlice t l c => ⟨fun _ ρ => (opMakeSlice P t (ρ l) (ρ c))⟩
  | .makeMap _ r => ⟨fun _ _ => (opMakeMap r)⟩
  | .makeFunc f first captured => ⟨fun _ ρ => (.pure (.fn f (first.toList.map ρ) (captured.toList.map ρ)))⟩
  | .convert src dst x => ⟨fun _ ρ => (opConvert P ρ o src dst (ρ x))⟩
  | .makeInterface t x => ⟨fun _ ρ => (opMakeInterface P t (ρ x))⟩
  | .field s x f => ⟨fun _ ρ => (opField P s (ρ x) f)⟩
  | .index t x ix => ⟨fun _ ρ => (opIndex P ρ o t x ix)⟩
  | .slice t x lo hi mx => ⟨fun _ ρ => (opSlice P ρ o t x lo hi mx)⟩
  | .lookup t x ix ok => ⟨fun _ ρ => (opLookup P t (ρ x) (ρ ix) ok)⟩
  | .mapUpdate t m k x | .insert t m k x => ⟨fun _ ρ => (opUpdate P t (ρ m) (ρ k) (ρ x))⟩
  | .typeAssert x _ asserted ok => ⟨fun _ ρ => (opTypeAssert P ρ o (ρ x) asserted ok)⟩
  | .unOp _ _ x => ⟨fun _ ρ => (opPure P ρ o [x])⟩
  | _ => ⟨fun _ _ => .fail⟩
theorem prepA_eq (P : Program) (look : Look) (o : Oper) (ρ : Operand → AV) : (prepA P o).run look ρ = operX P look o ρ := by
  have key : ∀ (h : ∀ f args ts, o.op ≠ .call { callee := .value f, args, argTypes := ts }), (prepA P o).run look ρ = aop P o ρ := by
    intro h
    unfold prepA aop
    cases ho : o.op with
    | call c =>
      obtain ⟨callee, args, ts⟩ := c
      cases callee with
      | builtin b =>
        dsimp only
        unfold prepU opBuiltin
        generalize args.toList = l
        cases b <;> rcases l with _ | ⟨x, _ | ⟨y, _ | ⟨z, l⟩⟩⟩ <;> rfl
      | value f => exact (h f args ts ho).elim
      | _ => rfl
    | _ => rfl
  unfold operX
  split
  · rename_i f args ts ho
    unfold prepA
    rw [ho]
  · rename_i hn
    rw [aop_grows.mono]
    exact key hn
def tabOf (look : Look) : Nat → Tab
  | 0 => []
  | n + 1 =>
    match look n with
    | some p => (n, p.1, p.2) :: tabOf look n
    | none => tabOf look n
theorem tabOf_find (look : Look) (f : Nat) : ∀ n, (tabOf look n).find f = if f < n then look f else none
  | 0 => by simp [tabOf, Tab.find]
  | n + 1 => by
    rw [tabOf]
    cases hl : look n with
    | some p =>
      simp only [Tab.find]
      by_cases e : n = f
      · subst e; simp [hl]
      · rw [beq_no e, cond_false, tabOf_find look f n]
        by_cases h : f < n
        · rw [if_pos h, if_pos (by omega)]
        · rw [if_neg h, if_neg (by omega)]
    | none =>
      simp only
      rw [tabOf_find look f n]
      by_cases h : f < n
      · rw [if_pos h, if_pos (by omega)]
      · rw [if_neg h]
        by_cases e : f = n
        · subst e; rw [if_pos (by omega), hl]
        · rw [if_neg (by omega)]
def tabX (look : Look) : Tab := tabOf look topF
theorem find_tabX (look : Look) (f : Nat) : (tabX look).find f = bif Nat.blt f topF then look f else none := by
  rw [tabX, tabOf_find]
  by_cases h : f < topF
  · rw [if_pos h, show Nat.blt f topF = true from by simpa using h]; rfl
  · rw [if_neg h, show Nat.blt f topF = false from by cases hb : Nat.blt f topF with | false => rfl | true => exact (h (by simpa using hb)).elim]; rfl
theorem callX_eq (look : Look) : callX look = callT (tabX look) := by
  funext f args
  unfold callX callT
  rw [find_tabX]
  cases Nat.blt f topF with
  | false => rfl
  | true => cases look f <;> rfl
theorem operX_eq (P : Program) (look : Look) : operX P look = operL P (tabX look) := by
  have h1 : callFnX look = callFn (tabX look) := by funext g args; unfold callFnX callFn; rw [callX_eq]; rfl
  have h2 : callVX look = callV (tabX look) := by funext f args; unfold callVX callV; rw [h1]; rfl
  funext o ρ
  unfold operX operL
  rw [h2]
  rfl
def xone (P : Program) (look : Look) (ops : Array Oper) (o : Oper) (L : SL) (st : St) : Option (SL × St) :=
  match gval ops L o with
  | some true =>
    match (prepA P o).run look (evL L) st with
    | some (v, st') => some (putL o.dst v L, st')
    | none => none
  | some false => some (putL o.dst (.sc undef) L, st)
  | none => none
structure XO where
  run : Look → SL → St → Option (SL × St)
def prepV (P : Program) (o : Oper) (d : Nat) : XO :=
  match o.op with
  | .move x => ⟨fun _ L st => some ((d, evL L x) :: L, st)⟩
  | .assign x => ⟨fun _ L st => some ((d, evL L x) :: L, st)⟩
  | _ => ⟨fun look L st => Option.rec (motive := fun _ => Option (SL × St)) none (fun p => some ((d, p.1) :: L, p.2)) ((prepA P o).run look (evL L) st)⟩
def prepO (P : Program) (ops : Array Oper) (o : Oper) : XO :=
  match o.guard with
  | none =>
    match o.dst with
    | some d => prepV P o d
    | none => ⟨fun look L st => Option.rec (motive := fun _ => Option (SL × St)) none (fun p => some (L, p.2)) ((prepA P o).run look (evL L) st)⟩
  | some _ => ⟨fun look L st => xone P look ops o L st⟩
theorem prepO_eq (P : Program) (look : Look) (ops : Array Oper) (o : Oper) (L : SL) (st : St) : (prepO P ops o).run look L st = xone P look ops o L st := by
  unfold prepO
  cases hg : o.guard with
  | some q => rfl
  | none =>
    have hx : xone P look ops o L st = match (prepA P o).run look (evL L) st with
        | some (v, st') => some (putL o.dst v L, st')
        | none => none := by
      unfold xone gval
      rw [hg]
    rw [hx]
    cases hd : o.dst with
    | none =>
      show Option.rec (motive := fun _ => Option (SL × St)) none (fun p => some (L, p.2)) ((prepA P o).run look (evL L) st) = _
      cases (prepA P o).run look (evL L) st <;> rfl
    | some d =>
      show (prepV P o d).run look L st = _
      unfold prepV
      cases ho : o.op with
      | move x => rw [show (prepA P o).run look (evL L) st = some (evL L x, st) from by unfold prepA; rw [ho]; rfl]; rfl
      | assign x => rw [show (prepA P o).run look (evL L) st = some (evL L x, st) from by unfold prepA; rw [ho]; rfl]; rfl
      | _ =>
        show Option.rec (motive := fun _ => Option (SL × St)) none (fun p => some ((d, p.1) :: L, p.2)) ((prepA P o).run look (evL L) st) = _
        cases (prepA P o).run look (evL L) st <;> rfl
theorem prepO_ok {P look ops o L st r} (h : (prepO P ops o).run look L st = some r) : xone P look ops o L st = some r := by rw [← prepO_eq]; exact h
def prepOs (P : Program) (ops : Array Oper) (l : List Oper) : XO :=
  List.rec (motive := fun _ => XO) ⟨fun _ L st => some (L, st)⟩ (fun o _ ih => ⟨fun look L st =>
    Option.rec (motive := fun _ => Option (SL × St)) none (fun p => ih.run look p.1 p.2) ((prepO P ops o).run look L st)⟩) l
theorem prepOs_cons (P : Program) (look : Look) (ops : Array Oper) (o : Oper) (l : List Oper) (L : SL) (st : St) : (prepOs P ops (o :: l)).run look L st = (match (prepO P ops o).run look L st with | some p => (prepOs P ops l).run look p.1 p.2 | none => none) := by
  show Option.rec (motive := fun _ => Option (SL × St)) none (fun p => (prepOs P ops l).run look p.1 p.2) ((prepO P ops o).run look L st) = _
  cases (prepO P ops o).run look L st <;> rfl
theorem prepOs_lk {P : Program} {look : Look} {ops : Array Oper} {t : Nat} : ∀ (l : List Oper) (L : SL) (st : St) (p : SL × St), (prepOs P ops l).run look L st = some p → (∀ o ∈ l, o.dst ≠ some t) → lk p.1 t = lk L t := by
  intro l
  induction l with
  | nil => intro L st p h _; cases h; rfl
  | cons o l ih =>
    intro L st p h hn
    rw [prepOs_cons] at h
    cases h1 : (prepO P ops o).run look L st with
    | none => rw [h1] at h; cases h
    | some q =>
      rw [h1] at h
      rw [ih _ _ p h (fun o ho => hn o (by simp [ho]))]
      have h2 := prepO_ok h1
      have hq : ∃ v, q.1 = putL o.dst v L := by
        unfold xone at h2
        split at h2
        · split at h2
          · cases h2; exact ⟨_, rfl⟩
          · cases h2
        · cases h2; exact ⟨_, rfl⟩
        · cases h2
      obtain ⟨v, hv⟩ := hq
      rw [hv, lk_put, if_neg (hn o (by simp))]
def hasB (s t : Nat) : Bool := Nat.beq (Nat.land (Nat.shiftRight s t) 1) 1
def addB (s t : Nat) : Nat := Nat.lor s (Nat.shiftLeft 1 t)
def keepL (ks : List Nat) (L L0 : SL) : SL := List.rec (motive := fun _ => SL) L0 (fun t _ ih => (t, lk L t) :: ih) ks
theorem keepL_lk (L L0 : SL) (t : Nat) : ∀ ks, lk (keepL ks L L0) t = if t ∈ ks then lk L t else lk L0 t
  | [] => by simp [keepL]
  | k :: ks => by
    show lk ((k, lk L k) :: keepL ks L L0) t = _
    rw [lk_cons, keepL_lk L L0 t ks]
    by_cases e : k = t
    · subst e; simp
    · rw [if_neg e]
      simp only [List.mem_cons, Ne.symm e, false_or]
def pruneL (L : SL) : Nat → SL := List.rec (motive := fun _ => Nat → SL) (fun _ => []) (fun p _ ih s => Bool.rec (motive := fun _ => SL) (p :: ih (addB s p.1)) (ih s) (hasB s p.1)) L
theorem hasB_addB (s t u : Nat) : hasB (addB s t) u = (hasB s u || decide (t = u)) := by
  have key : ∀ s u, hasB s u = s.testBit u := by
    intro s u
    unfold hasB
    rw [Nat.testBit]
    show Nat.beq ((s >>> u) &&& 1) 1 = _
    rw [Nat.and_comm]
    have : 1 &&& (s >>> u) < 2 := Nat.lt_of_le_of_lt Nat.and_le_left (by omega)
    rcases (by omega : 1 &&& (s >>> u) = 0 ∨ 1 &&& (s >>> u) = 1) with h | h <;> rw [h] <;> rfl
  rw [key, key]
  show (s ||| (1 <<< t)).testBit u = _
  rw [Nat.testBit_or, Nat.shiftLeft_eq, Nat.one_mul, Nat.testBit_two_pow]
theorem pruneL_lk (t : Nat) : ∀ (L : SL) (s : Nat), lk (pruneL L s) t = bif hasB s t then .bad else lk L t
  | [], s => by cases h : hasB s t <;> rfl
  | p :: L, s => by
    obtain ⟨k, v⟩ := p
    show lk (Bool.rec (motive := fun _ => SL) ((k, v) :: pruneL L (addB s k)) (pruneL L s) (hasB s k)) t = _
    rw [lk_cons]
    cases hk : hasB s k with
    | true =>
      show lk (pruneL L s) t = _
      rw [pruneL_lk t L s]
      by_cases e : k = t
      · subst e; rw [hk]; rfl
      · rw [if_neg e]
    | false =>
      show lk ((k, v) :: pruneL L (addB s k)) t = _
      rw [lk_cons, pruneL_lk t L, hasB_addB]
      by_cases e : k = t
      · subst e; rw [if_pos rfl, if_pos rfl, hk]; rfl
      · rw [if_neg e, if_neg e, decide_eq_false e, Bool.or_false]
def Less (L' L : SL) : Prop := ∀ t, lk L' t = lk L t ∨ lk L' t = .bad
theorem RelSL.less {g w nt L L' tmps} (h : RelSL g w nt L tmps) (hl : Less L' L) : RelSL g w nt L' tmps :=
  ⟨h.1, fun t => by rcases hl t with e | e <;> rw [e]; exact h.2 t; exact .bad _⟩
def Within (ex : Nat) (L : SL) : Prop := ∀ t, hasB ex t = false → lk L t = .bad
def keysOf (ex : Nat) (ops : Array Oper) : List Nat := (ops.toList.filterMap (·.dst)).filter (hasB ex)
theorem region_less {ex : Nat} {ops : Array Oper} {L L0 : SL} (hw : Within ex L0) (hlk : ∀ t, (∀ o ∈ ops.toList, o.dst ≠ some t) → lk L t = lk L0 t) : Less (keepL (keysOf ex ops) L L0) L ∧ Within ex (keepL (keysOf ex ops) L L0) := by
  have hm : ∀ t, t ∈ keysOf ex ops ↔ (∃ o ∈ ops.toList, o.dst = some t) ∧ hasB ex t = true := by
    intro t; simp [keysOf, List.mem_filter, List.mem_filterMap]
  refine ⟨fun t => ?_, fun t ht => ?_⟩
  · rw [keepL_lk]
    by_cases h : t ∈ keysOf ex ops
    · rw [if_pos h]; exact .inl rfl
    · rw [if_neg h]
      cases hx : hasB ex t with
      | false => exact .inr (hw t hx)
      | true =>
        refine .inl (hlk t fun o ho e => h ((hm t).2 ⟨⟨o, ho, e⟩, hx⟩)).symm
  · rw [keepL_lk, if_neg (fun h => by have := ((hm t).1 h).2; rw [ht] at this; cases this)]
    exact hw t ht
def logged {α : Type} (m : M α) : M (α × List Nat × List Nat) := fun st =>
  match m { h := st.h, nx := st.nx, rl := [], wl := [] } with
  | some p => some ((p.1, p.2.rl, p.2.wl), { h := p.2.h, nx := p.2.nx, rl := p.2.rl ++ st.rl, wl := p.2.wl ++ st.wl })
  | none => none
def xdraw (P : Program) (look : Look) (ops : Array Oper) (l : List Oper) : List Rec → SL → St → Option (List Rec × SL × St) :=
  List.rec (motive := fun _ => List Rec → SL → St → Option (List Rec × SL × St)) (fun recs L st => some (recs, L, st)) (fun o _ ih recs L st =>
    match gvalY ops L o with
    | some true =>
      match logged ((prepA P o).run look (onlyOf o L)) st with
      | some p => bif Nat.ble p.2.nx limit then ih (recs ++ [⟨p.1.2.1, p.1.2.2⟩]) (putL o.dst p.1.1 L) p.2 else none
      | none => none
    | some false => ih (recs ++ [⟨[], []⟩]) (putL o.dst (.sc undef) L) st
    | none => none) l
def usesTmp (o : Oper) (u : Nat) : Bool := o.op.operands.any fun x => match x with | .tmp t => Nat.beq t u | _ => false
def lateOk (ops : Array Oper) (i : Nat) (o : Oper) : Bool := ops.toList.zipIdx.all fun r => Nat.blt r.2 i || (match r.1.dst with | some d => !(usesTmp o d) | none => true)
def isMp (p : Nat) (a : AV) : Bool := match a with | .mp q => Nat.beq q p | _ => false
def litAt (P : Program) (ops : Array Oper) (L : SL) (p k0 i : Nat) (o : Oper) : Option Lit :=
  match o.op, o.dst, o.guard with
  | .insert t m k x, none, none =>
    match P.underlying t with
    | some (.map kt _) =>
      match P.underlying kt, (evL L k).toV with
      | some d, some key =>
        match ev P (Instr.checkKey false 10000 kt key) with
        | some _ => bif (isMp p (evL L m) && ((Region.before ops).getD i 0).testBit k0) && lateOk ops i o then some ⟨i, d, (key, evL L x)⟩ else none
        | none => none
      | _, _ => none
    | _ => none
  | _, _, _ => none
def litsL (f : Nat → Oper → Option Lit) : List Oper → Nat → Option (List Lit)
  | [], _ => some []
  | o :: r, i =>
    bif isIns o then
      match f i o, litsL f r (i + 1) with
      | some q, some l => some (q :: l)
      | _, _ => none
    else litsL f r (i + 1)
def isFalse (b : Option Bool) : Bool := match b with | some false => true | _ => false
def litsB (ops : Array Oper) (recs : List Rec) (p k0 : Nat) (lits : List Lit) : Bool :=
  (lits.all (fun q => lits.all fun r => Nat.beq q.i r.i || (apartV q.e.1 r.e.1 && isFalse (Instr.sameNow q.d q.e.1 r.e.1))) && Nat.ble p limit) &&
  ((recs.zipIdx.all fun r => Nat.beq r.2 k0 || (!(memN p r.1.R) && !(memN p r.1.W))) && (match ops[k0]? with | some o => !(isIns o) | none => false))
def whoW (p : Nat) : List Rec → Nat → Option Nat
  | [], _ => none
  | a :: r, i => bif memN p a.W then some i else whoW p r (i + 1)
def anyIns (l : List Oper) : Option Oper := List.rec (motive := fun _ => Option Oper) none (fun o _ ih => bif isIns o then some o else ih) l
def litPut (p : Nat) (lits : List Lit) (x : AObj) : M Unit :=
  match x with
  | .map [] => hset p (.map (lits.map (·.e)))
  | _ => M.fail
def litMap (P : Program) (ops : Array Oper) (recs : List Rec) (L : SL) (p : Nat) : M Unit :=
  match whoW p recs 0 with
  | some k0 =>
    match litsL (litAt P ops L p k0) ops.toList 0 with
    | some lits => bif litsB ops recs p k0 lits then (hget p).bind (litPut p lits) else M.fail
    | none => M.fail
  | none => M.fail
def litRun (P : Program) (ops : Array Oper) (recs : List Rec) (L : SL) : M Unit :=
  match anyIns ops.toList with
  | none => M.pure ()
  | some o =>
    match o.op with
    | .insert _ m _ _ =>
      match evL L m with
      | .mp p => litMap P ops recs L p
      | _ => M.fail
    | _ => M.fail
end
end Go.Vm
namespace Go.Vm
noncomputable section
def Framed {α : Type} (m : M α) : Prop :=
  ∀ st a st1, Low st → m st = some (a, st1) →
    st.nx ≤ st1.nx ∧ ∃ r w, st1.rl = r ++ st.rl ∧ st1.wl = w ++ st.wl ∧ (∀ o ∈ w, o < st1.nx) ∧ (∀ o, st.nx ≤ o → o < st1.nx → o ∈ w) ∧ (∀ o, o ∉ w → st1.h.get o = st.h.get o) ∧
      ∀ h' rl' wl', (∀ o x, h'.get o = some x → o < st.nx) → (∀ o, o ∈ r ∨ o ∈ w → h'.get o = st.h.get o) →
        ∃ h1', m { h := h', nx := st.nx, rl := rl', wl := wl' } = some (a, { h := h1', nx := st1.nx, rl := r ++ rl', wl := w ++ wl' }) ∧ ∀ o, h1'.get o = if o ∈ w then st1.h.get o else h'.get o
theorem Framed.low {α : Type} {m : M α} (h : Framed m) {st st1 a} (hl : Low st) (hm : m st = some (a, st1)) : Low st1 := by
  obtain ⟨h1, r, w, _, _, h2, _, h3, _⟩ := h st a st1 hl hm
  intro o x hx
  by_cases ho : o ∈ w
  · exact h2 o ho
  · rw [h3 o ho] at hx; exact Nat.lt_of_lt_of_le (hl o x hx) h1
theorem Framed.pure {α : Type} (a : α) : Framed (M.pure a) := fun st b st1 hl h => by
  cases h
  exact ⟨Nat.le_refl _, [], [], rfl, rfl, (fun o ho => by cases ho), (fun o h1 h2 => by omega), (fun _ _ => rfl), fun h' rl' wl' _ _ => ⟨h', rfl, fun o => by simp⟩⟩
theorem Framed.fail {α : Type} : Framed (M.fail : M α) := fun st b st1 _ h => by cases h
theorem Framed.of {α : Type} (a : Option α) : Framed (M.of a) := by cases a; exact Framed.fail; exact Framed.pure _
theorem Framed.cond {α : Type} {b : Bool} {x y : M α} (hx : Framed x) (hy : Framed y) : Framed (bif b then x else y) := by cases b <;> assumption
theorem Framed.bind {α β : Type} {m : M α} {f : α → M β} (hm : Framed m) (hf : ∀ x, Framed (f x)) : Framed (m.bind f) := fun st b st2 hl h => by
  obtain ⟨a, st1, h1, h2⟩ := bind_some h
  have hl1 := hm.low hl h1
  obtain ⟨k1, r1, w1, k2, k3, k4, k5, k6, k7⟩ := hm st a st1 hl h1
  obtain ⟨q1, r2, w2, q2, q3, q4, q5, q6, q7⟩ := hf a st1 b st2 hl1 h2
  refine ⟨Nat.le_trans k1 q1, r2 ++ r1, w2 ++ w1, by rw [q2, k2, List.append_assoc], by rw [q3, k3, List.append_assoc], fun o ho => ?_, fun o h3 h4 => ?_, fun o ho => ?_, fun h' rl' wl' hl' ha => ?_⟩
  · rcases List.mem_append.1 ho with ho | ho
    · exact q4 o ho
    · exact Nat.lt_of_lt_of_le (k4 o ho) q1
  · rcases Nat.lt_or_ge o st1.nx with h5 | h5
    · exact List.mem_append.2 (.inr (k5 o h3 h5))
    · exact List.mem_append.2 (.inl (q5 o h5 h4))
  · rw [q6 o (fun h => ho (List.mem_append.2 (.inl h))), k6 o (fun h => ho (List.mem_append.2 (.inr h)))]
  · obtain ⟨h1', e1, e2⟩ := k7 h' rl' wl' hl' (fun o ho => ha o (ho.imp (fun h => List.mem_append.2 (.inr h)) (fun h => List.mem_append.2 (.inr h))))
    have hlo1 : ∀ o x, h1'.get o = some x → o < st1.nx := fun o x hx => by
      rw [e2] at hx
      by_cases ho : o ∈ w1
      · exact k4 o ho
      · rw [if_neg ho] at hx; exact Nat.lt_of_lt_of_le (hl' o x hx) k1
    obtain ⟨h2', e3, e4⟩ := q7 h1' (r1 ++ rl') (w1 ++ wl') hlo1 (fun o ho => by
      rw [e2]
      by_cases hw : o ∈ w1
      · rw [if_pos hw]
      · rw [if_neg hw, k6 o hw]
        exact ha o (ho.imp (fun h => List.mem_append.2 (.inl h)) (fun h => List.mem_append.2 (.inl h))))
    refine ⟨h2', ?_, fun o => ?_⟩
    · show M.bind m f _ = _
      unfold M.bind
      rw [e1]
      simp only
      rw [e3, List.append_assoc, List.append_assoc]
    · rw [e4]
      by_cases h5 : o ∈ w2
      · rw [if_pos h5, if_pos (List.mem_append.2 (.inl h5))]
      · rw [if_neg h5, e2]
        by_cases h6 : o ∈ w1
        · rw [if_pos h6, if_pos (List.mem_append.2 (.inr h6)), q6 o h5]
        · rw [if_neg h6, if_neg (fun h => by rcases List.mem_append.1 h with h | h; exact h5 h; exact h6 h)]
theorem Framed.mono {α : Type} {m : M α} (h : Framed m) : Framed (Vm.mono m) := fun st a st1 hl hm => by
  obtain ⟨h1, h2⟩ := mono_some hm
  obtain ⟨k1, r, w, k2, k3, k4, k5, k6, k7⟩ := h st a st1 hl h1
  refine ⟨k1, r, w, k2, k3, k4, k5, k6, fun h' rl' wl' hl' ha => ?_⟩
  obtain ⟨h1', e1, e2⟩ := k7 h' rl' wl' hl' ha
  refine ⟨h1', ?_, e2⟩
  unfold Vm.mono
  rw [e1]
  simp only
  rw [show Nat.ble st.nx st1.nx = true from Nat.ble_eq_true_of_le k1]
  rfl
theorem Framed.hget (id : Nat) : Framed (Vm.hget id) := fun st a st1 hl h => by
  unfold Vm.hget at h
  cases hx : st.h.get id with
  | none => rw [hx] at h; cases h
  | some x =>
    rw [hx] at h
    cases h
    refine ⟨Nat.le_refl _, [id], [], rfl, rfl, (fun o ho => by cases ho), (fun o h1 h2 => by simp at h2; omega), (fun _ _ => rfl), fun h' rl' wl' _ ha => ⟨h', ?_, fun o => by simp⟩⟩
    unfold Vm.hget
    simp only [ha id (.inl (by simp)), hx]
    rfl
theorem Framed.hset (id : Nat) (x : AObj) : Framed (Vm.hset id x) := fun st a st1 hl h => by
  unfold Vm.hset at h
  cases hx : st.h.get id with
  | none => rw [hx] at h; cases h
  | some y =>
    rw [hx] at h
    cases hb : Nat.ble id limit with
    | false => rw [hb] at h; cases h
    | true =>
      rw [hb] at h
      cases h
      have hlt := Nat.le_of_ble_eq_true hb
      refine ⟨Nat.le_refl _, [], [id], rfl, rfl, (fun o ho => by simp at ho; subst ho; exact hl _ y hx), (fun o h1 h2 => by simp at h2; omega), (fun o ho => by simp at ho; simp only; rw [get_set _ _ _ _ hlt, if_neg ho]), fun h' rl' wl' _ ha => ⟨h'.set depth id (some x), ?_, fun o => ?_⟩⟩
      · unfold Vm.hset
        simp only [ha id (.inr (by simp)), hx, hb, cond_true]
        rfl
      · simp only [get_set _ _ _ _ hlt, List.mem_singleton]
        by_cases e : o = id
        · rw [if_pos e, if_pos e, if_pos e]
        · rw [if_neg e, if_neg e]
theorem Framed.hdel (id : Nat) : Framed (Vm.hdel id) := fun st a st1 hl h => by
  unfold Vm.hdel at h
  cases hx : st.h.get id with
  | none => rw [hx] at h; cases h
  | some y =>
    rw [hx] at h
    cases hb : Nat.ble id limit with
    | false => rw [hb] at h; cases h
    | true =>
      rw [hb] at h
      cases h
      have hlt := Nat.le_of_ble_eq_true hb
      refine ⟨Nat.le_refl _, [], [id], rfl, rfl, (fun o ho => by simp at ho; subst ho; exact hl _ y hx), (fun o h1 h2 => by simp at h2; omega), (fun o ho => by simp at ho; simp only; rw [get_set _ _ _ _ hlt, if_neg ho]), fun h' rl' wl' _ ha => ⟨h'.set depth id none, ?_, fun o => ?_⟩⟩
      · unfold Vm.hdel
        simp only [ha id (.inr (by simp)), hx, hb, cond_true]
        rfl
      · simp only [get_set _ _ _ _ hlt, List.mem_singleton]
        by_cases e : o = id
        · rw [if_pos e, if_pos e, if_pos e]
        · rw [if_neg e, if_neg e]
theorem Framed.hnew (x : AObj) : Framed (Vm.hnew x) := fun st a st1 hl h => by
  unfold Vm.hnew at h
  cases hb : Nat.ble st.nx limit with
  | false => rw [hb] at h; cases h
  | true =>
    rw [hb] at h
    cases h
    have hlt := Nat.le_of_ble_eq_true hb
    refine ⟨Nat.le_succ _, [], [st.nx], rfl, rfl, (fun o ho => by simp at ho; subst ho; exact Nat.lt_succ_self _), (fun o h1 h2 => by simp at h2 ⊢; omega), (fun o ho => by simp at ho; simp only; rw [get_set _ _ _ _ hlt, if_neg ho]), fun h' rl' wl' _ ha => ⟨h'.set depth st.nx (some x), ?_, fun o => ?_⟩⟩
    · unfold Vm.hnew
      simp only [hb, cond_true]
      rfl
    · simp only [get_set _ _ _ _ hlt, List.mem_singleton]
      by_cases e : o = st.nx
      · rw [if_pos e, if_pos e, if_pos e]
      · rw [if_neg e, if_neg e]
theorem Framed.logged {α : Type} {m : M α} (h : Framed m) : Framed (Vm.logged m) := fun st a st1 hl hm => by
  unfold Vm.logged at hm
  cases h1 : m { h := st.h, nx := st.nx, rl := [], wl := [] } with
  | none => rw [h1] at hm; cases hm
  | some p =>
    rw [h1] at hm
    cases hm
    obtain ⟨k1, r, w, k2, k3, k4, k5, k6, k7⟩ := h { h := st.h, nx := st.nx, rl := [], wl := [] } p.1 p.2 hl h1
    rw [List.append_nil] at k2 k3
    refine ⟨k1, r, w, by simp only [k2], by simp only [k3], k4, k5, k6, fun h' rl' wl' hl' ha => ?_⟩
    obtain ⟨h1', e1, e2⟩ := k7 h' [] [] hl' ha
    refine ⟨h1', ?_, e2⟩
    unfold Vm.logged
    simp only at e1 ⊢
    rw [e1]
    simp only [List.append_nil, k2, k3]
theorem Framed.cellsIn (sz : Nat) (v : AV) : Framed (Vm.cellsIn sz v) := by
  unfold Vm.cellsIn cellsObj
  repeat' (first | exact Framed.pure _ | exact Framed.fail | exact Framed.hget _ | apply Framed.cond | (refine Framed.bind ?_ fun x => ?_) | split)
theorem Framed.exacts {P : Program} {ρ : Operand → AV} {o : Oper} {l : List Operand} : Framed (opPure P ρ o l) := by unfold opPure; exact Framed.cond (Framed.of _) Framed.fail
theorem Framed.bx {t : TypeId} {x : AV} : Framed (opBox t x) := by
  unfold opBox
  repeat' (first | exact Framed.pure _ | exact Framed.fail | exact Framed.hnew _ | apply Framed.cond | (refine Framed.bind ?_ fun x => ?_) | split)
theorem aop_framed {P : Program} {o : Oper} {ρ : Operand → AV} : Framed (aop P o ρ) := by
  unfold aop
  cases ho : o.op with
  | move x => exact Framed.pure _
  | assign x => exact Framed.pure _
  | load t a =>
    show Framed (opLoad P t (ρ a))
    unfold opLoad loadObj
    repeat' (first | exact Framed.pure _ | exact Framed.fail | exact Framed.of _ | exact Framed.hget _ | (refine Framed.bind ?_ fun x => ?_) | split)
  | fieldAddr s x f =>
    show Framed (opFieldAddr P s (ρ x) f)
    unfold opFieldAddr
    repeat' (first | exact Framed.pure _ | exact Framed.fail | exact Framed.of _ | apply Framed.cond | split)
  | binOp op t x y u =>
    show Framed (opBin P ρ o op t x y)
    have he : ∀ a b, Framed (binElse P ρ o op t a b) := fun a b => by
      unfold binElse eqRef eqPtr eqSlice eqMap eqIfc eqFunc bothPlain yesNo
      repeat' (first | exact Framed.pure _ | exact Framed.fail | exact Framed.of _ | exact Framed.hget _ | apply Framed.cond | (refine Framed.bind ?_ fun x => ?_) | split)
    unfold opBin binVals binInt
    repeat' (first | exact he _ _ | exact Framed.pure _ | exact Framed.fail | exact Framed.of _ | apply Framed.cond | split)
  | pick c a b =>
    show Framed (opPick (ρ c) (ρ a) (ρ b))
    unfold opPick
    repeat' (first | exact Framed.pure _ | exact Framed.fail | split)
  | store t a x =>
    show Framed (opStore P t (ρ a) (ρ x))
    unfold opStore storeObj
    repeat' (first | exact Framed.pure _ | exact Framed.fail | exact Framed.hget _ | exact Framed.hset _ _ | apply Framed.cond | (refine Framed.bind ?_ fun x => ?_) | split)
  | mapUpdate t m k x =>
    show Framed (opUpdate P t (ρ m) (ρ k) (ρ x))
    unfold opUpdate updateObj
    repeat' (first | exact Framed.pure _ | exact Framed.fail | exact Framed.hget _ | exact Framed.hset _ _ | apply Framed.cond | (refine Framed.bind ?_ fun x => ?_) | split)
  | insert t m k x =>
    show Framed (opUpdate P t (ρ m) (ρ k) (ρ x))
    unfold opUpdate updateObj
    repeat' (first | exact Framed.pure _ | exact Framed.fail | exact Framed.hget _ | exact Framed.hset _ _ | apply Framed.cond | (refine Framed.bind ?_ fun x => ?_) | split)
  | extract t ix =>
    show Framed (opExtract (ρ t) ix)
    unfold opExtract
    repeat' (first | exact Framed.pure _ | exact Framed.fail | exact Framed.of _ | split)
  | indexAddr t x ix =>
    show Framed (opIndexAddr P t (ρ x) (ρ ix))
    unfold opIndexAddr indexIn
    repeat' (first | exact Framed.pure _ | exact Framed.fail | exact Framed.of _ | apply Framed.cond | split)
  | nilCheck x =>
    show Framed (opNilCheck (ρ x))
    unfold opNilCheck
    repeat' (first | exact Framed.pure _ | exact Framed.fail | split)
  | alloc t =>
    show Framed (opAlloc P t)
    unfold opAlloc
    split
    · exact Framed.fail
    · exact Framed.bx
  | box t x => exact Framed.bx
  | build t ps =>
    show Framed (opBuild P t _)
    unfold opBuild
    repeat' (first | exact Framed.pure _ | exact Framed.fail | exact Framed.of _ | split)
  | buildSlice t len ps =>
    show Framed (opBuildSlice P t len _)
    unfold opBuildSlice newRowOf
    repeat' (first | exact Framed.hnew _ | exact Framed.pure _ | exact Framed.fail | exact Framed.of _ | apply Framed.cond | (refine Framed.bind ?_ fun x => ?_) | split)
  | makeSlice t l c =>
    show Framed (opMakeSlice P t (ρ l) (ρ c))
    unfold opMakeSlice newRowOf
    repeat' (first | exact Framed.hnew _ | exact Framed.pure _ | exact Framed.fail | exact Framed.of _ | apply Framed.cond | (refine Framed.bind ?_ fun x => ?_) | split)
  | makeMap t r =>
    show Framed (opMakeMap r)
    unfold opMakeMap
    repeat' (first | exact Framed.hnew _ | exact Framed.pure _ | exact Framed.fail | (refine Framed.bind ?_ fun x => ?_) | split)
  | makeFunc f a b => exact Framed.pure _
  | convert src dst x =>
    show Framed (opConvert P ρ o src dst (ρ x))
    have he : Framed (convElse P ρ o (ρ x)) := by unfold convElse; split; exact Framed.of _; exact Framed.fail
    unfold opConvert convKinds
    repeat' (first | exact he | exact Framed.fail | split)
    · unfold convSB; repeat' (first | exact Framed.hnew _ | exact Framed.pure _ | exact Framed.fail | apply Framed.cond | (refine Framed.bind ?_ fun x => ?_) | split)
    · unfold convBS bytesStr; repeat' (first | exact Framed.cellsIn _ _ | exact Framed.pure _ | exact Framed.fail | apply Framed.cond | (refine Framed.bind ?_ fun x => ?_) | split)
    · unfold convUP ofUnsafe; repeat' (first | exact Framed.hget _ | exact Framed.pure _ | exact Framed.fail | apply Framed.cond | (refine Framed.bind ?_ fun x => ?_) | split)
    · unfold convPU toUnsafe; repeat' (first | exact Framed.hget _ | exact Framed.pure _ | exact Framed.fail | apply Framed.cond | (refine Framed.bind ?_ fun x => ?_) | split)
    · unfold convInt; repeat' (first | exact Framed.pure _ | exact Framed.fail | split)
  | makeInterface t x =>
    show Framed (opMakeInterface P t (ρ x))
    unfold opMakeInterface
    repeat' (first | exact Framed.pure _ | exact Framed.fail | split)
  | field s x f =>
    show Framed (opField P s (ρ x) f)
    unfold opField
    repeat' (first | exact Framed.pure _ | exact Framed.fail | exact Framed.of _ | split)
  | index t x ix =>
    show Framed (opIndex P ρ o t x ix)
    unfold opIndex
    repeat' (first | exact Framed.exacts | exact Framed.pure _ | exact Framed.fail | exact Framed.of _ | apply Framed.cond | split)
  | slice t x lo hi mx =>
    show Framed (opSlice P ρ o t x lo hi mx)
    unfold opSlice sliceArr
    repeat' (first | exact Framed.exacts | exact Framed.hget _ | exact Framed.pure _ | exact Framed.fail | exact Framed.of _ | apply Framed.cond | (refine Framed.bind ?_ fun x => ?_) | split)
  | lookup t x ix ok =>
    show Framed (opLookup P t (ρ x) (ρ ix) ok)
    unfold opLookup lookupObj found
    repeat' (first | exact Framed.hget _ | exact Framed.pure _ | exact Framed.fail | exact Framed.of _ | apply Framed.cond | (refine Framed.bind ?_ fun x => ?_) | split)
  | typeAssert x t a ok =>
    show Framed (opTypeAssert P ρ o (ρ x) a ok)
    unfold opTypeAssert
    repeat' (first | exact Framed.pure _ | exact Framed.fail | exact Framed.of _ | apply Framed.cond | split)
  | unOp op t x => exact Framed.exacts
  | call c =>
    obtain ⟨callee, args, ts⟩ := c
    cases callee with
    | value f => exact Framed.fail
    | invoke r m => exact Framed.fail
    | builtin b =>
      show Framed (opBuiltin P ρ o b args.toList ts)
      unfold opBuiltin
      split <;> first | exact Framed.fail | exact Framed.exacts | skip
      · unfold opLen lenObj
        repeat' (first | exact Framed.hget _ | exact Framed.pure _ | exact Framed.fail | (refine Framed.bind ?_ fun x => ?_) | split)
      · have ha : ∀ e sz bytes s new, Framed (aappend e sz bytes s new) := fun e sz bytes s new => by
          unfold aappend appendObj newRowOf
          repeat' (first | exact Framed.hget _ | exact Framed.hnew _ | exact Framed.hdel _ | exact Framed.pure _ | exact Framed.fail | apply Framed.cond | (refine Framed.bind ?_ fun x => ?_) | split)
        unfold opAppend
        repeat' (first | exact ha _ _ _ _ _ | exact Framed.cellsIn _ _ | exact Framed.pure _ | exact Framed.fail | apply Framed.cond | (refine Framed.bind ?_ fun x => ?_) | split)
      · unfold opCopy copyObj
        repeat' (first | exact Framed.hget _ | exact Framed.hset _ _ | exact Framed.cellsIn _ _ | exact Framed.pure _ | exact Framed.fail | apply Framed.cond | (refine Framed.bind ?_ fun x => ?_) | split)
      · unfold opDelete deleteObj
        repeat' (first | exact Framed.hget _ | exact Framed.hset _ _ | exact Framed.pure _ | exact Framed.fail | apply Framed.cond | (refine Framed.bind ?_ fun x => ?_) | split)
      · unfold opCap
        repeat' (first | exact Framed.pure _ | exact Framed.fail | split)
      · unfold opSliceData
        repeat' (first | exact Framed.pure _ | exact Framed.fail | apply Framed.cond | split)
      · unfold opUnsafeString stringObj
        repeat' (first | exact Framed.hget _ | exact Framed.hset _ _ | exact Framed.pure _ | exact Framed.fail | apply Framed.cond | (refine Framed.bind ?_ fun x => ?_) | split)
  | _ => exact Framed.fail
def LookFr (look : Look) : Prop := ∀ f p, look f = some p → ∀ args, Framed (p.2 args)
theorem prepA_framed_of {P : Program} {look : Look} {o : Oper} {ρ : Operand → AV} (h : Framed (operX P look o ρ)) : Framed ((prepA P o).run look ρ) := by rw [prepA_eq]; exact h
theorem operX_framed {P : Program} {look : Look} (hl : LookFr look) {o : Oper} {ρ : Operand → AV} : Framed (operX P look o ρ) := by
  have hcall : ∀ g args, Framed (callX look g args) := by
    intro g args
    unfold callX
    refine Framed.cond ?_ Framed.fail
    split
    · rename_i p hp; exact (hl g p hp args).mono
    · exact Framed.fail
  have hfn : ∀ g args, Framed (callFnX look g args) := by
    intro g args
    unfold callFnX
    split
    · exact hcall _ _
    · exact Framed.fail
  unfold operX
  split
  · unfold callVX
    split
    · exact hfn _ _
    · split
      · exact hfn _ _
      · exact Framed.fail
    · exact Framed.fail
  · exact aop_framed.mono
theorem Framed.congr {α : Type} {m m' : M α} (h : Framed m) (e : ∀ st, m' st = m st) : Framed m' := by
  rw [show m' = m from funext e]; exact h
theorem prepO_framed {P : Program} {look : Look} (hl : LookFr look) (ops : Array Oper) (o : Oper) (L : SL) : Framed (α := SL) ((prepO P ops o).run look L) := by
  cases hg : gval ops L o with
  | none => exact Framed.fail.congr (fun st => by rw [prepO_eq]; unfold xone; rw [hg]; rfl)
  | some b =>
    cases b with
    | false => exact (Framed.pure (putL o.dst (.sc undef) L)).congr (fun st => by rw [prepO_eq]; unfold xone; rw [hg]; rfl)
    | true =>
      refine (Framed.bind (prepA_framed_of (operX_framed (P := P) hl (o := o) (ρ := evL L))) (fun v => Framed.pure (putL o.dst v L))).congr (fun st => ?_)
      rw [prepO_eq]
      show xone P look ops o L st = M.bind _ _ st
      unfold xone M.bind
      rw [hg]
      simp only
      cases (prepA P o).run look (evL L) st <;> rfl
theorem prepOs_framed {P : Program} {look : Look} (hl : LookFr look) (ops : Array Oper) : ∀ (l : List Oper) (L : SL), Framed (α := SL) ((prepOs P ops l).run look L) := by
  intro l
  induction l with
  | nil => intro L; exact Framed.pure L
  | cons o l ih =>
    intro L
    refine (Framed.bind (prepO_framed (P := P) hl ops o L) (fun L' => ih L')).congr (fun st => ?_)
    rw [prepOs_cons]
    unfold M.bind
    cases (prepO P ops o).run look L st <;> rfl
theorem prepOs_wpR {P : Program} {look : Look} (hT : TabOkF P (tabX look)) (hl : LookFr look) {ops : Array Oper} {ro : Option Nat} {N : Nat} {B : BaseP} {nt : Nat} {Q : Exit → Act → World → Prop} (hg : guardsIn nt ops = true) (hd : dstsIn nt ops = true) {p : SL × St}
    (rest : List Nat) (hK : ∀ g w (a : Act), Cur B g p.2 w → RelSL g w nt p.1 a.tmps → Marks B.n0 p.2.h g w a.defers → wpOpsIn (fence ro) N P ops Q rest a w) :
    ∀ (l : List Oper) (is : List Nat), (∀ o ∈ l, o ∈ ops) → is.map (fun i => ops[i]?) = l.map some → ∀ L st g w a, (prepOs P ops l).run look L st = some p → Low st → B.Near st.nx p.2.nx → Cur B g st w → RelSL g w nt L a.tmps → Marks B.n0 st.h g w a.defers → wpOpsIn (fence ro) N P ops Q (is ++ rest) a w := by
  intro l
  induction l with
  | nil =>
    intro is _ his L st g w a h hlo hn hc hr hdf
    cases is with
    | nil => cases h; exact hK g w a hc hr hdf
    | cons i is => cases his
  | cons o l ih =>
    intro is hmem his L st g w a h hlo hn hc hr hdf
    cases is with
    | nil => cases his
    | cons i is =>
      simp only [List.map_cons, List.cons.injEq] at his
      obtain ⟨hi, his⟩ := his
      have ho := hmem o (by simp)
      rw [prepOs_cons] at h
      cases h1 : (prepO P ops o).run look L st with
      | none => rw [h1] at h; cases h
      | some q =>
      have hlo' : Low q.2 := (prepO_framed (P := P) hl ops o L).low hlo h1
      have hle1 : st.nx ≤ q.2.nx := (prepO_framed hl ops o L st q.1 q.2 hlo h1).1
      rw [h1] at h
      simp only at h
      have hle2 : q.2.nx ≤ p.2.nx := (prepOs_framed hl ops l q.1 q.2 p.1 p.2 hlo' h).1
      have h2 := prepO_ok h1
      unfold xone at h2
      simp only [List.cons_append, wpOpsIn, hi]
      cases hb : gval ops L o with
      | none => rw [hb] at h2; cases h2
      | some b =>
      rw [hb] at h2
      have hw : Region.wanted o (yielded ops a.tmps) = b := wanted_val hr.1 (guard_in hg ho) (fun j c _ => hr.2 _) hb
      rw [hw]
      cases b with
      | true =>
        rw [if_pos rfl]
        simp only at h2
        rw [prepA_eq, operX_eq] at h2
        cases hop : operL P (tabX look) o (evL L) st with
        | none => rw [hop] at h2; cases h2
        | some r =>
          obtain ⟨v, st'⟩ := r
          rw [hop] at h2
          cases h2
          refine operL_okF hT hc.ok (hc.free (hn.sub (Nat.le_refl _) hle2)) hlo hr.eval hop ro N _ _ ?_
          rintro u w' ⟨g', q1, q2, q3⟩
          exact ih is (fun o ho => hmem o (by simp [ho])) his _ st' g' w' _ h hlo' (hn.sub hle1 (Nat.le_refl _)) (hc.step (hn.sub (Nat.le_refl _) hle2) ⟨operL_le hop, q1⟩ q2) ((hr.ext q1.ext).put q3 (dst_in hd ho)) (by rw [put_defers]; exact hdf.step q1)
      | false =>
        simp only at h2
        cases h2
        rw [if_neg (by simp)]
        refine ⟨about_fence ro P o a w, ?_⟩
        exact ih is (fun o ho => hmem o (by simp [ho])) his _ st g w _ h hlo hn hc (hr.put (.sc _) (dst_in hd ho)) (by rw [put_defers]; exact hdf)
theorem prepOs_wp {P : Program} {look : Look} (hT : TabOkF P (tabX look)) (hl : LookFr look) {ops : Array Oper} {ro : Option Nat} {N : Nat} {B : BaseP} {nt : Nat} {Q : Exit → Act → World → Prop} (hg : guardsIn nt ops = true) (hd : dstsIn nt ops = true) {p : SL × St}
    (hK : ∀ g w (a : Act), Cur B g p.2 w → RelSL g w nt p.1 a.tmps → Marks B.n0 p.2.h g w a.defers → Q .normal a w) :
    ∀ (l : List Oper) (is : List Nat), (∀ o ∈ l, o ∈ ops) → is.map (fun i => ops[i]?) = l.map some → ∀ L st g w a, (prepOs P ops l).run look L st = some p → Low st → B.Near st.nx p.2.nx → Cur B g st w → RelSL g w nt L a.tmps → Marks B.n0 st.h g w a.defers → wpOpsIn (fence ro) N P ops Q is a w := by
  intro l is h1 h2 L st g w a h3 h4 h5 h6 h7 h8
  rw [show is = is ++ [] from (List.append_nil is).symm]
  exact prepOs_wpR hT hl hg hd [] (fun g w a h1 h2 h3 => hK g w a h1 h2 h3) l is h1 h2 L st g w a h3 h4 h5 h6 h7 h8
def reM {α β : Type} (X : St → Option (α × β × St)) : M (α × β) := fun st =>
  match X st with
  | some q => some ((q.1, q.2.1), q.2.2)
  | none => none
theorem reM_some {α β : Type} {X : St → Option (α × β × St)} {st : St} {q : α × β × St} (h : X st = some q) : reM X st = some ((q.1, q.2.1), q.2.2) := by unfold reM; rw [h]
def checkNx {α : Type} (m : M α) : M α := fun st => bif Nat.ble st.nx limit then m st else none
theorem Framed.checkNx {α : Type} {m : M α} (h : Framed m) : Framed (Vm.checkNx m) := fun st a st1 hl hm => by
  unfold Vm.checkNx at hm
  cases hb : Nat.ble st.nx limit with
  | false => rw [hb] at hm; cases hm
  | true =>
    rw [hb] at hm
    obtain ⟨k1, r, w, k2, k3, k4, k5, k6, k7⟩ := h st a st1 hl hm
    refine ⟨k1, r, w, k2, k3, k4, k5, k6, fun h' rl' wl' hl' ha => ?_⟩
    obtain ⟨h1', e1, e2⟩ := k7 h' rl' wl' hl' ha
    exact ⟨h1', by unfold Vm.checkNx; simp only [hb, cond_true]; exact e1, e2⟩
theorem xdraw_framed {P : Program} {look : Look} (hl : LookFr look) (ops : Array Oper) : ∀ (l : List Oper) (recs : List Rec) (L : SL), Framed (reM (xdraw P look ops l recs L)) := by
  intro l
  induction l with
  | nil => intro recs L; exact Framed.pure (recs, L)
  | cons o l ih =>
    intro recs L
    have e : ∀ st, xdraw P look ops (o :: l) recs L st = (match gvalY ops L o with
      | some true =>
        match logged ((prepA P o).run look (onlyOf o L)) st with
        | some p => bif Nat.ble p.2.nx limit then xdraw P look ops l (recs ++ [⟨p.1.2.1, p.1.2.2⟩]) (putL o.dst p.1.1 L) p.2 else none
        | none => none
      | some false => xdraw P look ops l (recs ++ [⟨[], []⟩]) (putL o.dst (.sc undef) L) st
      | none => none) := fun st => rfl
    cases hg : gvalY ops L o with
    | none => exact Framed.fail.congr (fun st => by unfold reM; rw [e, hg]; rfl)
    | some b =>
      cases b with
      | false => exact (ih (recs ++ [⟨[], []⟩]) (putL o.dst (.sc undef) L)).congr (fun st => by unfold reM; rw [e, hg])
      | true =>
        refine (Framed.bind (prepA_framed_of (operX_framed (P := P) hl (o := o) (ρ := onlyOf o L))).logged (fun p => (ih (recs ++ [⟨p.2.1, p.2.2⟩]) (putL o.dst p.1 L)).checkNx)).congr (fun st => ?_)
        unfold reM M.bind
        rw [e, hg]
        simp only
        cases logged ((prepA P o).run look (onlyOf o L)) st with
        | none => rfl
        | some p =>
          simp only [checkNx]
          cases Nat.ble p.2.nx limit <;> rfl
theorem xdraw_lk {P : Program} {look : Look} {ops : Array Oper} {t : Nat} : ∀ (l : List Oper) (recs : List Rec) (L : SL) (st : St) (r : List Rec × SL × St), xdraw P look ops l recs L st = some r → (∀ o ∈ l, o.dst ≠ some t) → lk r.2.1 t = lk L t := by
  intro l
  induction l with
  | nil => intro recs L st r h _; cases h; rfl
  | cons o l ih =>
    intro recs L st r h hn
    change (match gvalY ops L o with
      | some true =>
        match logged ((prepA P o).run look (onlyOf o L)) st with
        | some p => bif Nat.ble p.2.nx limit then xdraw P look ops l (recs ++ [⟨p.1.2.1, p.1.2.2⟩]) (putL o.dst p.1.1 L) p.2 else none
        | none => none
      | some false => xdraw P look ops l (recs ++ [⟨[], []⟩]) (putL o.dst (.sc undef) L) st
      | none => none) = some r at h
    have step : ∀ v recs st1, xdraw P look ops l recs (putL o.dst v L) st1 = some r → lk r.2.1 t = lk L t := by
      intro v recs st1 h'
      rw [ih _ _ _ r h' (fun o ho => hn o (by simp [ho])), lk_put, if_neg (hn o (by simp))]
    split at h
    · split at h
      · rename_i p _
        cases hb : Nat.ble p.2.nx limit with
        | true => rw [hb] at h; exact step _ _ _ h
        | false => rw [hb] at h; cases h
      · cases h
    · exact step _ _ _ h
    · cases h
theorem apartN_of {a b a' b' : List Nat} (h : apartN a b = true) (ha : ∀ o ∈ a', o ∈ a) (hb : ∀ o ∈ b', o ∈ b) : apartN a' b' = true :=
  (apartN_iff _ _).2 fun o h1 h2 => apartN_no h (ha o h1) (hb o h2)
def SubRec (a a' : Rec) : Prop := (∀ o ∈ a'.W, o ∈ a.W) ∧ ∀ o ∈ a'.R, o ∈ a.R ∨ o ∈ a.W
theorem apartN_or {a b c x y : List Nat} (h1 : apartN a b = true) (h2 : apartN a c = true) (hx : ∀ o ∈ x, o ∈ a) (hy : ∀ o ∈ y, o ∈ b ∨ o ∈ c) : apartN x y = true :=
  (apartN_iff _ _).2 fun o k1 k2 => (hy o k2).elim (apartN_no h1 (hx o k1)) (apartN_no h2 (hx o k1))
theorem apartN_or' {a b c x y : List Nat} (h1 : apartN b a = true) (h2 : apartN c a = true) (hx : ∀ o ∈ x, o ∈ b ∨ o ∈ c) (hy : ∀ o ∈ y, o ∈ a) : apartN x y = true :=
  (apartN_iff _ _).2 fun o k1 k2 => (hx o k1).elim (fun h => apartN_no h1 h (hy o k2)) (fun h => apartN_no h2 h (hy o k2))
theorem calmPair_sub {before : Array Nat} {i j : Nat} {a b a' b' : Rec} (ha : SubRec a a') (hb : SubRec b b') (h : calmPair before i j a b = true) : calmPair before i j a' b' = true := by
  unfold calmPair at h ⊢
  simp only [Bool.or_eq_true, Bool.and_eq_true] at h ⊢
  rcases h with ⟨⟨h1, h2⟩, h3⟩ | h
  · exact .inl ⟨⟨apartN_or h1 h2 ha.1 hb.2, apartN_of h2 ha.1 hb.1⟩, apartN_or' h3 h2 ha.2 hb.1⟩
  · exact .inr h
theorem calmRow_sub {before : Array Nat} {i : Nat} {a a' : Rec} (ha : SubRec a a') : ∀ (l l' : List Rec) (j : Nat), l.length = l'.length → (∀ (k : Nat) x y, l[k]? = some x → l'[k]? = some y → SubRec x y) → calmRow before i a j l = true → calmRow before i a' j l' = true
  | [], [], _, _, _, _ => rfl
  | [], _ :: _, _, h, _, _ => by simp at h
  | _ :: _, [], _, h, _, _ => by simp at h
  | x :: l, y :: l', j, hl, hs, h => by
    simp only [calmRow, Bool.and_eq_true] at h ⊢
    exact ⟨calmPair_sub ha (hs 0 x y rfl rfl) h.1, calmRow_sub ha l l' (j + 1) (by simpa using hl) (fun k u v hu hv => hs (k + 1) u v (by simpa using hu) (by simpa using hv)) h.2⟩
theorem calmAll_sub {before : Array Nat} : ∀ (l l' : List Rec) (j : Nat), l.length = l'.length → (∀ (k : Nat) x y, l[k]? = some x → l'[k]? = some y → SubRec x y) → calmAll before j l = true → calmAll before j l' = true
  | [], [], _, _, _, _ => rfl
  | [], _ :: _, _, h, _, _ => by simp at h
  | _ :: _, [], _, h, _, _ => by simp at h
  | x :: l, y :: l', j, hl, hs, h => by
    simp only [calmAll, Bool.and_eq_true] at h ⊢
    exact ⟨calmRow_sub (hs 0 x y rfl rfl) l l' (j + 1) (by simpa using hl) (fun k u v hu hv => hs (k + 1) u v (by simpa using hu) (by simpa using hv)) h.1, calmAll_sub l l' (j + 1) (by simpa using hl) (fun k u v hu hv => hs (k + 1) u v (by simpa using hu) (by simpa using hv)) h.2⟩
theorem xdraw_ok {P : Program} {look : Look} (hl : LookFr look) {ops : Array Oper} {E : List Rec → Prop} {K : SL → St → Prop} : ∀ (l : List Oper) (recs recs' : List Rec) (L : SL) (st st' : St) (r : List Rec × SL × St), xdraw P look ops l recs L st = some r → Low st → (∀ o, st'.h.get o = st.h.get o) → st'.nx = st.nx →
    recs.length = recs'.length → (∀ (k : Nat) x y, recs[k]? = some x → recs'[k]? = some y → SubRec x y) → (∀ l', r.1.length = l'.length → (∀ (k : Nat) x y, r.1[k]? = some x → l'[k]? = some y → SubRec x y) → E l') → (∀ st2, (∀ o, st2.h.get o = r.2.2.h.get o) → st2.nx = r.2.2.nx → K r.2.1 st2) →
    opsY P (tabX look) ops E l K recs' L st' := by
  intro l
  induction l with
  | nil =>
    intro recs recs' L st st' r h hlo hh hnx hlen hsub hc hk
    cases h
    exact ⟨hc _ hlen hsub, hk st' hh hnx⟩
  | cons o l ih =>
    intro recs recs' L st st' r h hlo hh hnx hlen hsub hc hk
    change (match gvalY ops L o with
      | some true =>
        match logged ((prepA P o).run look (onlyOf o L)) st with
        | some p => bif Nat.ble p.2.nx limit then xdraw P look ops l (recs ++ [⟨p.1.2.1, p.1.2.2⟩]) (putL o.dst p.1.1 L) p.2 else none
        | none => none
      | some false => xdraw P look ops l (recs ++ [⟨[], []⟩]) (putL o.dst (.sc undef) L) st
      | none => none) = some r at h
    have hsnoc : ∀ (a a' : Rec), SubRec a a' → ∀ (k : Nat) x y, (recs ++ [a])[k]? = some x → (recs' ++ [a'])[k]? = some y → SubRec x y := by
      intro a a' ha k x y hx hy
      rcases Nat.lt_trichotomy k recs.length with hk' | hk' | hk'
      · rw [List.getElem?_append_left hk'] at hx
        rw [List.getElem?_append_left (by omega)] at hy
        exact hsub k x y hx hy
      · subst hk'
        rw [List.getElem?_append_right (Nat.le_refl _), Nat.sub_self] at hx
        rw [List.getElem?_append_right (by omega), hlen, Nat.sub_self] at hy
        cases hx; cases hy
        exact ha
      · rw [List.getElem?_eq_none (by simp; omega)] at hx; cases hx
    cases hb : gvalY ops L o with
    | none => rw [hb] at h; cases h
    | some b =>
      rw [hb] at h
      cases b with
      | true =>
        refine .inl ⟨hb, ?_⟩
        simp only at h
        cases h1 : logged ((prepA P o).run look (onlyOf o L)) st with
        | none => rw [h1] at h; cases h
        | some p =>
        rw [h1] at h
        simp only at h
        rw [prepA_eq] at h1
        have hfr := (operX_framed (P := P) hl (o := o) (ρ := onlyOf o L))
        have hlo1 : Low p.2 := hfr.logged.low hlo h1
        unfold logged at h1
        cases h2 : operX P look o (onlyOf o L) { h := st.h, nx := st.nx, rl := [], wl := [] } with
        | none => rw [h2] at h1; cases h1
        | some q =>
        rw [h2] at h1
        cases h1
        obtain ⟨v, st1⟩ := q
        simp only at h
        cases hlim : Nat.ble st1.nx limit with
        | false => rw [hlim] at h; cases h
        | true =>
        rw [hlim, cond_true] at h
        have hlim := Nat.le_of_ble_eq_true hlim
        obtain ⟨k1, rr, ww, k2, k3, k4, k5, k6, k7⟩ := hfr { h := st.h, nx := st.nx, rl := [], wl := [] } v st1 hlo h2
        rw [List.append_nil] at k2 k3
        simp only at k1 k5 k6 k7
        obtain ⟨F, hF⟩ : ∃ F, F = (rr ++ ww).filter (fun o => decide (o < st.nx)) := ⟨_, rfl⟩
        obtain ⟨W, hW⟩ : ∃ W, W = ww.filter (fun o => decide (o < st.nx)) := ⟨_, rfl⟩
        have mF : ∀ o, o ∈ F ↔ (o ∈ rr ∨ o ∈ ww) ∧ o < st.nx := fun o => by rw [hF, List.mem_filter, List.mem_append, decide_eq_true_eq]
        have mW : ∀ o, o ∈ W ↔ o ∈ ww ∧ o < st.nx := fun o => by rw [hW]; simp
        have hFl : ∀ q ∈ F, q ≤ limit := fun q hq => by have := ((mF q).1 hq).2; omega
        have hmask : ∀ o, (maskH st'.h F).get o = if o ∈ F then st'.h.get o else none := fun o => maskH_get _ _ _ hFl
        obtain ⟨h1', e1, e2⟩ := k7 (maskH st'.h F) [] [] (fun o x hx => by
          rw [hmask] at hx
          by_cases ho : o ∈ F
          · exact ((mF o).1 ho).2
          · rw [if_neg ho] at hx; cases hx) (fun o ho => by
          rw [hmask]
          by_cases hlt : o < st.nx
          · rw [if_pos ((mF o).2 ⟨ho, hlt⟩)]; exact hh o
          · rw [if_neg (fun h => hlt ((mF o).1 h).2)]
            cases hx : st.h.get o with
            | none => rfl
            | some x => exact absurd (hlo o x hx) hlt)
        rw [List.append_nil, List.append_nil] at e1
        refine ⟨F, W, v, { h := h1', nx := st1.nx, rl := rr, wl := ww }, ?_, fun q hq => (mF q).2 ⟨.inr ((mW q).1 hq).1, ((mW q).1 hq).2⟩, fun q hq hqn => ?_, fun q hq => by rw [hnx]; exact ((mF q).1 hq).2, hlim, ?_⟩
        · rw [← operX_eq, hnx]; exact e1
        · simp only
          rw [e2, if_neg (fun h => hqn ((mW q).2 ⟨h, ((mF q).1 hq).2⟩))]
        · have hnew : ∀ q ∈ F ++ fromTo st'.nx (st1.nx - st'.nx), q ≤ limit := fun q hq => by
            rcases List.mem_append.1 hq with hq | hq
            · exact hFl q hq
            · rw [fromTo_mem] at hq; omega
          refine ih _ _ _ _ _ r h hlo1 (fun q => ?_) rfl (by simp [hlen]) (hsnoc _ _ ⟨fun q hq => ?_, fun q hq => ?_⟩) hc hk
          · simp only
            rw [mergeH_get _ _ _ _ hnew]
            by_cases hq : q ∈ F ++ fromTo st'.nx (st1.nx - st'.nx)
            · rw [if_pos hq, e2]
              by_cases hw : q ∈ ww
              · rw [if_pos hw]
              · rw [if_neg hw, hmask]
                have hqF : q ∈ F := by
                  rcases List.mem_append.1 hq with hq | hq
                  · exact hq
                  · rw [fromTo_mem] at hq
                    exact absurd (k5 q (by omega) (by omega)) hw
                rw [if_pos hqF, hh q]
                exact (k6 q hw).symm
            · rw [if_neg hq]
              have hw : q ∉ ww := fun hw => hq (by
                rcases Nat.lt_or_ge q st.nx with h9 | h9
                · exact List.mem_append.2 (.inl ((mF q).2 ⟨.inr hw, h9⟩))
                · refine List.mem_append.2 (.inr ?_)
                  rw [fromTo_mem]
                  have := k4 q hw
                  omega)
              rw [hh q]
              exact (k6 q hw).symm
          · simp only [k3]
            rcases List.mem_append.1 hq with hq | hq
            · exact ((mW q).1 hq).1
            · rw [fromTo_mem] at hq
              simp only at hq
              exact k5 q (by omega) (by omega)
          · simp only [k2, k3]
            exact ((mF q).1 hq).1
      | false =>
        refine .inr ⟨hb, ?_⟩
        simp only at h
        exact ih _ _ _ _ _ r h hlo hh hnx (by simp [hlen]) (hsnoc _ _ ⟨fun o ho => ho, fun o ho => .inl ho⟩) hc hk
end
end Go.Vm
namespace Go.Vm
noncomputable section
abbrev XR := Ex × SL × St
structure XC where
  run : Look → Nat → SL → St → Option XR
def prepR (P : Program) (ex : Nat) (ops : Array Oper) (draw : Bool) : XC :=
  match draw with
  | false => ⟨fun look _ L st =>
    match (prepOs P ops ops.toList).run look L st with
    | some p => some (.normal, keepL (keysOf ex ops) p.1 L, p.2)
    | none => none⟩
  | true => ⟨fun look _ L st =>
    bif slotsCalm ops then
      match xdraw P look ops ops.toList [] L st with
      | some r => bif calmAll (Region.before ops) 0 r.1 then (match litRun P ops r.1 r.2.1 r.2.2 with | some u => some (.normal, keepL (keysOf ex ops) r.2.1 L, u.2) | none => none) else none
      | none => none
    else none⟩
def thenX (B : SL → St → Option XR) (r : Option XR) : Option XR :=
  match r with
  | some p =>
    match p.1 with
    | .normal => B p.2.1 p.2.2
    | e => some (e, p.2.1, p.2.2)
  | none => none
def outX (id : Nat) (e : Ex) : Ex :=
  match e with
  | .exit j => bif Nat.beq j id then .normal else .exit j
  | e => e
def loopX (B : SL → St → Option XR) (n : Nat) : SL → St → Option XR :=
  Nat.rec (motive := fun _ => SL → St → Option XR) (fun _ _ => none) (fun _ ih L st => thenX ih (B (pruneL L 0) st)) n
abbrev XIR := Ex × Option Ex × SL × St
abbrev RX := List AV → St → Option (Ex × St)
def yieldX (y : Nat) (o : Oper) (L : SL) : Option (Array Operand) :=
  match o.op with
  | .call { callee := .value f, args, .. } =>
    match evL L f with
    | .yl k => bif Nat.beq k y then some args else none
    | _ => none
  | _ => none
def xoneI (P : Program) (look : Look) (ops : Array Oper) (y : Nat) (R : RX) (o : Oper) (pe : Option Ex) (L : SL) (st : St) : Option (Option Ex × SL × St) :=
  match gval ops L o with
  | some true =>
    match yieldX y o L with
    | some args =>
      match pe with
      | none =>
        match R (args.toList.map (evL L)) st with
        | some q => some (afterOf q.1, putL o.dst (.sc (.bool (isNormal q.1))) L, q.2)
        | none => none
      | some _ => none
    | none =>
      match (prepA P o).run look (evL L) st with
      | some (v, st') => some (pe, putL o.dst v L, st')
      | none => none
  | some false => some (pe, putL o.dst (.sc undef) L, st)
  | none => none
structure XIO where
  run : Look → Nat → RX → Option Ex → SL → St → Option (Option Ex × SL × St)
def prepIOs (P : Program) (ops : Array Oper) (l : List Oper) : XIO :=
  List.rec (motive := fun _ => XIO) ⟨fun _ _ _ pe L st => some (pe, L, st)⟩ (fun o _ ih => ⟨fun look y R pe L st =>
    match xoneI P look ops y R o pe L st with
    | some p => ih.run look y R p.1 p.2.1 p.2.2
    | none => none⟩) l
structure XIC where
  run : Look → Nat → Nat → RX → Option Ex → SL → St → Option XIR
def prepIR (P : Program) (ex : Nat) (ops : Array Oper) (draw : Bool) : XIC :=
  match draw with
  | false => ⟨fun look _ y R pe L st =>
    match (prepIOs P ops ops.toList).run look y R pe L st with
    | some p => some (.normal, p.1, keepL (keysOf ex ops) p.2.1 L, p.2.2)
    | none => none⟩
  | true => ⟨fun look n _ _ pe L st =>
    match (prepR P ex ops true).run look n L st with
    | some q => some (q.1, pe, q.2.1, q.2.2)
    | none => none⟩
def thenI (B : Option Ex → SL → St → Option XIR) (r : Option XIR) : Option XIR :=
  match r with
  | some p =>
    match p.1 with
    | .normal => B p.2.1 p.2.2.1 p.2.2.2
    | e => some (e, p.2)
  | none => none
def loopI (B : Option Ex → SL → St → Option XIR) (n : Nat) : Option Ex → SL → St → Option XIR :=
  Nat.rec (motive := fun _ => Option Ex → SL → St → Option XIR) (fun _ _ _ => none) (fun _ ih pe L st => thenI ih (B pe (pruneL L 0) st)) n
def prepI (P : Program) (ex : Nat) (c : Code) : XIC :=
  Code.rec (motive := fun _ => XIC)
    ⟨fun _ _ _ _ pe L st => some (.normal, pe, L, st)⟩
    (fun _ ops draw => prepIR P ex ops draw)
    (fun _ _ A B => ⟨fun look n y R pe L st => thenI (B.run look n y R) (A.run look n y R pe L st)⟩)
    (fun c _ _ A B => ⟨fun look n y R pe L st =>
      match (evL L c).bool with
      | some b => bif b then A.run look n y R pe L st else B.run look n y R pe L st
      | none => none⟩)
    (fun id _ B => ⟨fun look n y R pe L st =>
      match B.run look n y R pe L st with
      | some p => some (outX id p.1, p.2)
      | none => none⟩)
    (fun _ B => ⟨fun look n y R pe L st => loopI (B.run look n y R) n pe L st⟩)
    (fun _ _ _ _ _ _ => ⟨fun _ _ _ _ _ _ _ => none⟩)
    (fun id => ⟨fun _ _ _ _ pe L st => some (.exit id, pe, L, st)⟩)
    (fun _ _ => ⟨fun _ _ _ _ _ _ _ => none⟩)
    (fun _ => ⟨fun _ _ _ _ pe L st => some (.normal, pe, L, st)⟩)
    (fun _ => ⟨fun _ _ _ _ _ _ _ => none⟩)
    ⟨fun _ _ _ _ pe L st => some (.ret, pe, L, st)⟩
    (fun _ => ⟨fun _ _ _ _ _ _ _ => none⟩)
    c
def readsOf (ops : Array Oper) (o : Oper) : List Nat :=
  (o.op.operands.toList.filterMap fun x => match x with | .tmp u => some u | _ => none) ++ (match o.guard with | some (j, _) => [gslot ops j] | none => [])
def newReads (seen : Nat) (l : List Nat) (s : Nat) : Nat := List.rec (motive := fun _ => Nat → Nat) (fun s => s) (fun t _ ih s => ih (bif hasB seen t then s else addB s t)) l s
def regionEx (ops : Array Oper) (l : List Oper) (seen s : Nat) : Nat :=
  List.rec (motive := fun _ => Nat → Nat → Nat) (fun _ s => s) (fun o _ ih seen s => ih (match o.dst with | some d => addB seen d | none => seen) (newReads seen (readsOf ops o) s)) l seen s
def opEx (c : Operand) (s : Nat) : Nat := match c with | .tmp t => addB s t | _ => s
def codeEx (c : Code) : Nat → Nat :=
  Code.rec (motive := fun _ => Nat → Nat) (fun s => s) (fun _ ops _ s => regionEx ops ops.toList 0 s) (fun _ _ A B s => B (A s))
    (fun c _ _ A B s => B (A (opEx c s))) (fun _ _ B => B) (fun _ B => B) (fun f _ _ _ A B s => B (A (opEx f s))) (fun _ s => s) (fun _ B => B) (fun _ s => s) (fun _ s => s) (fun s => s) (fun _ s => s) c
def resEx (l : List ResultVar) (s : Nat) : Nat := List.rec (motive := fun _ => Nat → Nat) (fun s => s) (fun r _ ih s => ih (addB s (match r with | .tmp t => t | .cell a _ => a))) l s
def argsX (ex : Nat) (L : SL) : SL := List.rec (motive := fun _ => SL) [] (fun p _ ih => bif hasB ex p.1 then p :: ih else ih) L
def putX (ex : Nat) (ps : List Tmp) : List AV → SL → SL :=
  List.rec (motive := fun _ => List AV → SL → SL) (fun _ L => L) (fun t _ ih vs L =>
    match vs with
    | v :: vs => ih vs (bif hasB ex t then (t, v) :: L else L)
    | [] => L) ps
structure XIF where
  ok : Bool
  nt : Nat
  run : Look → Nat → Nat → RX → List AV → St → Option XIR
def iterX (P : Program) (g : Nat) : XIF :=
  match iterB P g with
  | some q => ⟨true, q.1, fun look n y R args st => (prepI P (codeEx q.2 0) q.2).run look n y R none (argsX (codeEx q.2 0) (argsL 0 args)) st⟩
  | none => ⟨false, 0, fun _ _ _ _ _ _ => none⟩
def roundX (ex : Nat) (A B : SL → St → Option XR) (ps : List Tmp) (L : SL) : RX := fun args st =>
  bif Nat.beq args.length ps.length then
    match A (putX ex ps args L) st with
    | some p =>
      match p.1 with
      | .normal =>
        match B p.2.1 p.2.2 with
        | some q => some (q.1, q.2.2)
        | none => none
      | _ => none
    | none => none
  else none
def endX (L : SL) (r : Option XIR) : Option XR :=
  match r with
  | some q =>
    match q.1 with
    | .exit _ => none
    | _ =>
      match q.2.1 with
      | none => some (.normal, L, q.2.2.2)
      | some e => some (e, L, q.2.2.2)
  | none => none
def reserve : M Nat := fun st => some (st.nx, { h := st.h, nx := st.nx + 1, rl := st.rl, wl := st.nx :: st.wl })
def rangeX (P : Program) (ex : Nat) (look : Look) (n : Nat) (f : Operand) (ps : List Tmp) (A B : SL → St → Option XR) (L : SL) (st : St) : Option XR :=
  match iterFn (evL L f) with
  | some q =>
    bif (iterX P q.1).ok && Nat.ble (q.2.length + 1) (iterX P q.1).nt then
      endX L ((iterX P q.1).run look n st.nx (roundX ex A B ps L) (.yl st.nx :: q.2) { h := st.h, nx := st.nx + 1, rl := st.rl, wl := st.nx :: st.wl })
    else none
  | none => none
def prepC (P : Program) (ex : Nat) (c : Code) : XC :=
  Code.rec (motive := fun _ => XC)
    ⟨fun _ _ L st => some (.normal, L, st)⟩
    (fun _ ops draw => prepR P ex ops draw)
    (fun _ _ A B => ⟨fun look n L st => thenX (B.run look n) (A.run look n L st)⟩)
    (fun c _ _ A B => ⟨fun look n L st =>
      match (evL L c).bool with
      | some b => bif b then A.run look n L st else B.run look n L st
      | none => none⟩)
    (fun id _ B => ⟨fun look n L st =>
      match B.run look n L st with
      | some p => some (outX id p.1, p.2.1, p.2.2)
      | none => none⟩)
    (fun _ B => ⟨fun look n L st => loopX (B.run look n) n L st⟩)
    (fun f ps _ _ A B => ⟨fun look n L st => rangeX P ex look n f ps.toList (A.run look n) (B.run look n) L st⟩)
    (fun id => ⟨fun _ _ L st => some (.exit id, L, st)⟩)
    (fun _ B => B)
    (fun _ => ⟨fun _ _ L st => some (.normal, L, st)⟩)
    (fun _ => ⟨fun _ _ _ _ => none⟩)
    ⟨fun _ _ L st => some (.ret, L, st)⟩
    (fun _ => ⟨fun _ _ _ _ => none⟩)
    c
theorem thenX_some {B : SL → St → Option XR} {r : Option XR} {q : XR} (h : thenX B r = some q) : (∃ L st, r = some (.normal, L, st) ∧ B L st = some q) ∨ (r = some q ∧ q.1 ≠ .normal) := by
  unfold thenX at h
  cases r with
  | none => cases h
  | some p =>
    obtain ⟨e, L, st⟩ := p
    simp only at h
    cases e with
    | normal => exact .inl ⟨L, st, rfl, h⟩
    | exit id => cases h; exact .inr ⟨rfl, fun h => by cases h⟩
    | ret => cases h; exact .inr ⟨rfl, fun h => by cases h⟩
def reX (X : St → Option XR) : M (Ex × SL) := reM X
theorem thenX_framed {X : St → Option XR} {B : SL → St → Option XR} (hX : Framed (reX X)) (hB : ∀ L, Framed (reX (B L))) : Framed (reX fun st => thenX B (X st)) := by
  refine (Framed.bind hX (fun p : Ex × SL => (?_ : Framed (match p.1 with | .normal => reX (B p.2) | e => M.pure (e, p.2))))).congr (fun st => ?_)
  · split
    · exact hB _
    · exact Framed.pure _
  · unfold reX reM M.bind thenX
    dsimp only
    cases X st with
    | none => rfl
    | some q =>
      obtain ⟨e, L, st1⟩ := q
      cases e <;> rfl
theorem litRun_framed {P : Program} (ops : Array Oper) (recs : List Rec) (L : SL) : Framed (litRun P ops recs L) := by
  unfold litRun litMap litPut
  repeat' (first | exact Framed.pure _ | exact Framed.fail | exact Framed.hget _ | exact Framed.hset _ _ | apply Framed.cond | (refine Framed.bind ?_ fun x => ?_) | split)
theorem prepR_framed {P : Program} {look : Look} (hl : LookFr look) (ex : Nat) (ops : Array Oper) (draw : Bool) (n : Nat) (L : SL) : Framed (reX ((prepR P ex ops draw).run look n L)) := by
  cases draw with
  | false =>
    refine (Framed.bind (prepOs_framed (P := P) hl ops ops.toList L) (fun L' => Framed.pure (Ex.normal, keepL (keysOf ex ops) L' L))).congr (fun st => ?_)
    show reM (fun st => match (prepOs P ops ops.toList).run look L st with
    | some p => some (Ex.normal, keepL (keysOf ex ops) p.1 L, p.2)
    | none => none) st = _
    unfold reM M.bind
    simp only
    cases (prepOs P ops ops.toList).run look L st <;> rfl
  | true =>
    cases h0 : slotsCalm ops with
    | false =>
      refine Framed.fail.congr (fun st => ?_)
      show reM (fun st => bif slotsCalm ops then _ else none) st = _
      unfold reM
      rw [h0]; rfl
    | true =>
      refine (Framed.bind (xdraw_framed (P := P) hl ops ops.toList [] L) (fun p => (?_ : Framed (bif calmAll (Region.before ops) 0 p.1 then (litRun P ops p.1 p.2).bind (fun _ => M.pure (Ex.normal, keepL (keysOf ex ops) p.2 L)) else M.fail)))).congr (fun st => ?_)
      · exact Framed.cond (Framed.bind (litRun_framed _ _ _) (fun _ => Framed.pure _)) Framed.fail
      · show reM (fun st => bif slotsCalm ops then
          match xdraw P look ops ops.toList [] L st with
          | some r => bif calmAll (Region.before ops) 0 r.1 then (match litRun P ops r.1 r.2.1 r.2.2 with | some u => some (Ex.normal, keepL (keysOf ex ops) r.2.1 L, u.2) | none => none) else none
          | none => none
        else none) st = _
        unfold reM M.bind
        rw [h0]
        simp only [cond_true]
        cases xdraw P look ops ops.toList [] L st with
        | none => rfl
        | some r =>
          simp only
          cases calmAll (Region.before ops) 0 r.1 with
          | false => rfl
          | true =>
            show _ = M.bind (litRun P ops r.1 r.2.1) (fun _ => M.pure (Ex.normal, keepL (keysOf ex ops) r.2.1 L)) r.2.2
            unfold M.bind
            simp only [cond_true]
            cases litRun P ops r.1 r.2.1 r.2.2 <;> rfl
theorem loopX_framed {X : SL → St → Option XR} (h : ∀ L, Framed (reX (X L))) : ∀ (n : Nat) (L : SL), Framed (reX (loopX X n L))
  | 0, _L => Framed.fail.congr (fun _st => rfl)
  | n + 1, L => (thenX_framed (h (pruneL L 0)) (loopX_framed h n)).congr (fun _st => rfl)
theorem prepR_less {P : Program} {ex : Nat} {ops : Array Oper} {draw : Bool} {look : Look} {n : Nat} {L : SL} {st : St} {q : XR} (h : (prepR P ex ops draw).run look n L st = some q) (hw : Within ex L) :
    q.1 = .normal ∧ Within ex q.2.1 ∧ ∃ L1, Less q.2.1 L1 ∧ match draw with
      | false => (prepOs P ops ops.toList).run look L st = some (L1, q.2.2)
      | true => slotsCalm ops = true ∧ ∃ recs st2 u, xdraw P look ops ops.toList [] L st = some (recs, L1, st2) ∧ litRun P ops recs L1 st2 = some (u, q.2.2) ∧ calmAll (Region.before ops) 0 recs = true := by
  cases draw with
  | false =>
    change (match (prepOs P ops ops.toList).run look L st with
    | some p => some (Ex.normal, keepL (keysOf ex ops) p.1 L, p.2)
    | none => none) = some q at h
    cases h1 : (prepOs P ops ops.toList).run look L st with
    | none => rw [h1] at h; cases h
    | some p =>
      rw [h1] at h
      cases h
      have := region_less hw (fun t ht => prepOs_lk (t := t) _ _ _ _ h1 ht)
      exact ⟨rfl, this.2, p.1, this.1, rfl⟩
  | true =>
    change (bif slotsCalm ops then
      match xdraw P look ops ops.toList [] L st with
      | some r => bif calmAll (Region.before ops) 0 r.1 then (match litRun P ops r.1 r.2.1 r.2.2 with | some u => some (Ex.normal, keepL (keysOf ex ops) r.2.1 L, u.2) | none => none) else none
      | none => none
    else none) = some q at h
    cases h0 : slotsCalm ops with
    | false => rw [h0] at h; cases h
    | true =>
      rw [h0, cond_true] at h
      cases h1 : xdraw P look ops ops.toList [] L st with
      | none => rw [h1] at h; cases h
      | some r =>
        rw [h1] at h
        simp only at h
        cases h2 : calmAll (Region.before ops) 0 r.1 with
        | false => rw [h2] at h; cases h
        | true =>
          rw [h2, cond_true] at h
          cases h3 : litRun P ops r.1 r.2.1 r.2.2 with
          | none => rw [h3] at h; cases h
          | some u =>
          rw [h3] at h
          cases h
          have := region_less hw (fun t ht => xdraw_lk (t := t) _ _ _ _ _ h1 ht)
          exact ⟨rfl, this.2, r.2.1, this.1, rfl, r.1, r.2.2, u.1, rfl, h3, h2⟩
theorem anyIns_none : ∀ {l : List Oper}, anyIns l = none → ∀ o ∈ l, isIns o = false
  | [], _, o, ho => by cases ho
  | a :: l, h, o, ho => by
    change (bif isIns a then some a else anyIns l) = none at h
    cases ha : isIns a with
    | true => rw [ha] at h; cases h
    | false =>
      rw [ha, cond_false] at h
      rcases List.mem_cons.1 ho with rfl | ho
      · exact ha
      · exact anyIns_none h o ho
theorem litsL_spec {f : Nat → Oper → Option Lit} (hf : ∀ i o q, f i o = some q → q.i = i) : ∀ (l : List Oper) (n : Nat) (lits : List Lit), litsL f l n = some lits →
    (∀ q ∈ lits, ∃ j o, l[j]? = some o ∧ q.i = n + j ∧ f q.i o = some q) ∧ (∀ j o, l[j]? = some o → isIns o = true → ∃ q ∈ lits, q.i = n + j) ∧ (lits.map (·.i)).Nodup
  | [], n, lits, h => by cases h; exact ⟨fun q hq => (by cases hq), fun j o hj => (by simp at hj), List.nodup_nil⟩
  | a :: l, n, lits, h => by
    unfold litsL at h
    cases ha : isIns a with
    | true =>
      rw [ha, cond_true] at h
      split at h
      · rename_i q l' hq hl'
        cases h
        obtain ⟨h1, h2, h3⟩ := litsL_spec hf l (n + 1) l' hl'
        have hqi := hf _ _ _ hq
        refine ⟨fun r hr => ?_, fun j o hj ho => ?_, ?_⟩
        · rcases List.mem_cons.1 hr with rfl | hr
          · exact ⟨0, a, rfl, by omega, by rw [hqi]; exact hq⟩
          · obtain ⟨j, o, q1, q2, q3⟩ := h1 r hr
            exact ⟨j + 1, o, by simpa using q1, by omega, q3⟩
        · cases j with
          | zero => exact ⟨q, by simp, by omega⟩
          | succ j =>
            obtain ⟨r, r1, r2⟩ := h2 j o (by simpa using hj) ho
            exact ⟨r, by simp [r1], by omega⟩
        · rw [List.map_cons, List.nodup_cons]
          refine ⟨fun hm => ?_, h3⟩
          obtain ⟨r, r1, r2⟩ := List.mem_map.1 hm
          obtain ⟨j, o, q1, q2, q3⟩ := h1 r r1
          omega
      · cases h
    | false =>
      rw [ha, cond_false] at h
      obtain ⟨h1, h2, h3⟩ := litsL_spec hf l (n + 1) lits h
      refine ⟨fun r hr => ?_, fun j o hj ho => ?_, h3⟩
      · obtain ⟨j, o, q1, q2, q3⟩ := h1 r hr
        exact ⟨j + 1, o, by simpa using q1, by omega, q3⟩
      · cases j with
        | zero => simp at hj; subst hj; rw [ha] at ho; cases ho
        | succ j =>
          obtain ⟨r, r1, r2⟩ := h2 j o (by simpa using hj) ho
          exact ⟨r, r1, by omega⟩
theorem litAt_some {P : Program} {ops : Array Oper} {L : SL} {p k0 i : Nat} {o : Oper} {q : Lit} (h : litAt P ops L p k0 i o = some q) :
    ∃ t m k x kt et, o.op = .insert t m k x ∧ o.dst = none ∧ o.guard = none ∧ P.underlying t = some (.map kt et) ∧ P.underlying kt = some q.d ∧ evL L m = .mp p ∧ (evL L k).toV = some q.e.1 ∧ ev P (Instr.checkKey false 10000 kt q.e.1) = some () ∧ evL L x = q.e.2 ∧ q.i = i ∧ ((Region.before ops).getD i 0).testBit k0 = true ∧ lateOk ops i o = true := by
  unfold litAt at h
  split at h
  · rename_i t m k x h1 h2 h3
    split at h
    · rename_i kt et h4
      split at h
      · rename_i d key h5 h6
        split at h
        · rename_i u h7
          cases hb : ((isMp p (evL L m) && ((Region.before ops).getD i 0).testBit k0) && lateOk ops i o) with
          | false => rw [hb] at h; cases h
          | true =>
            rw [hb] at h
            cases h
            simp only [Bool.and_eq_true] at hb
            have hmp : evL L m = .mp p := by
              have := hb.1.1
              unfold isMp at this
              split at this
              · rename_i r he; rw [he, Nat.eq_of_beq_eq_true this]
              · cases this
            exact ⟨t, m, k, x, kt, et, h1, h2, h3, h4, h5, hmp, h6, h7, rfl, rfl, hb.1.2, hb.2⟩
        · cases h
      · cases h
    · cases h
  · cases h
theorem valS_keep {ds : List DS} {L0 : SL} {D : Nat → Bool} {i t : Nat} : ∀ m, i ≤ m → (∀ k e, i ≤ k → ds[k]? = some e → e.o.dst ≠ some t) → valS ds L0 D m t = valS ds L0 D i t
  | 0, h, _ => by rw [show i = 0 from by omega]
  | m + 1, h, hn => by
    by_cases e : i = m + 1
    · rw [e]
    · have ih := valS_keep (L0 := L0) (D := D) m (by omega) hn
      rw [valS]
      cases hd : ds[m]? with
      | none => exact ih
      | some d =>
        simp only
        rw [if_neg (fun q => hn m d (by omega) hd q.2), ih]
theorem evL_late {P : Program} {T : Tab} {ops : Array Oper} {ds : List DS} {L0 : SL} {st0 : St} {L' : SL} {st' : St} (R : RunOk P T ops ds L0 st0 L' st') {i : Nat} {d : DS} (hi : ds[i]? = some d) (hl : lateOk ops i d.o = true) {y : Operand} (hy : y ∈ d.o.op.operands) : onlyOf d.o d.L y = evL L' y := by
  cases y with
  | tmp t =>
    have hany : usesTmp d.o t = true := by
      unfold usesTmp
      rw [Array.any_eq_true']
      exact ⟨_, hy, by simp⟩
    show (bif usesTmp d.o t then lk d.L t else .bad) = lk L' t
    rw [hany, cond_true, (R.at' i d hi).1 t, R.fin.1 t, valS_keep (i := i) ds.length (Nat.le_of_lt (List.getElem?_eq_some_iff.1 hi).1) (fun k e hik hk he => ?_)]
    have hz : (e.o, k) ∈ ops.toList.zipIdx := by rw [List.mem_zipIdx_iff_getElem?, ← R.os]; simp [hk]
    have := List.all_eq_true.1 hl _ hz
    simp only [he, hany, Bool.not_true, Bool.or_false, Nat.blt_eq] at this
    omega
  | const v => rfl
  | global g => rfl
  | func f => rfl
theorem whoW_lt {p : Nat} : ∀ {l : List Rec} {i k : Nat}, whoW p l i = some k → i ≤ k ∧ k < i + l.length
  | [], _, _, h => by cases h
  | a :: l, i, k, h => by
    unfold whoW at h
    cases hb : memN p a.W with
    | true => rw [hb] at h; cases h; simp
    | false =>
      rw [hb, cond_false] at h
      have := whoW_lt h
      simp only [List.length_cons]
      omega
theorem litRun_some {P : Program} {ops : Array Oper} {recs : List Rec} {L : SL} {st2 stF : St} {u : Unit} (h : litRun P ops recs L st2 = some (u, stF)) : (anyIns ops.toList = none ∧ stF = st2) ∨
    ∃ p k0 lits, whoW p recs 0 = some k0 ∧ litsL (litAt P ops L p k0) ops.toList 0 = some lits ∧ litsB ops recs p k0 lits = true ∧ st2.h.get p = some (.map []) ∧ stF.h = st2.h.set depth p (some (.map (lits.map (·.e)))) ∧ stF.nx = st2.nx := by
  cases hins : anyIns ops.toList with
  | none =>
    simp only [litRun, hins] at h
    cases h
    exact .inl ⟨rfl, rfl⟩
  | some o =>
    refine .inr ?_
    cases hop : o.op with
    | insert t m k x =>
      cases hmp : evL L m with
      | mp p =>
        simp only [litRun, hins, hop, hmp, litMap] at h
        cases hk : whoW p recs 0 with
        | none => rw [hk] at h; cases h
        | some k0 =>
        rw [hk] at h
        simp only at h
        cases hq : litsL (litAt P ops L p k0) ops.toList 0 with
        | none => rw [hq] at h; cases h
        | some lits =>
        rw [hq] at h
        simp only at h
        cases hb : litsB ops recs p k0 lits with
        | false => rw [hb] at h; cases h
        | true =>
        rw [hb, cond_true] at h
        obtain ⟨x, s1, g1, g2⟩ := bind_some h
        obtain ⟨hx, hs1, hn1⟩ := hget_some g1
        cases x with
        | map es =>
          cases es with
          | nil =>
            change hset p (.map (lits.map (·.e))) s1 = some (u, stF) at g2
            obtain ⟨_, _, hF, hnF⟩ := hset_some g2
            exact ⟨p, k0, lits, hk, hq, hb, hx, by rw [hF, hs1], by rw [hnF, hn1]⟩
          | cons e es => cases g2
        | row cells k st et => cases g2
        | loop => cases g2
      | _ => simp only [litRun, hins, hop, hmp] at h; cases h
    | _ => simp only [litRun, hins, hop] at h; cases h
theorem draw_wp {P : Program} {look : Look} (hT : TabOkF P (tabX look)) (hl : LookFr look) (hm : P.follows .mixedOrders = true) {id : Nat} {ops : Array Oper} {ro : Option Nat} {N : Nat} {B : BaseP} {nt : Nat} (hg : guardsIn nt ops = true) (hdst : dstsIn nt ops = true) (h0 : slotsCalm ops = true) {L L1 : SL} {st st2 stF : St} {u : Unit} {recs : List Rec} {g : Gh} {w : World} {a : Act} {Q : Exit → Act → World → Prop}
    (h1 : xdraw P look ops ops.toList [] L st = some (recs, L1, st2)) (h3 : litRun P ops recs L1 st2 = some (u, stF)) (h2 : calmAll (Region.before ops) 0 recs = true) (hlo : Low st) (hn : B.Near st.nx stF.nx) (hc : Cur B g st w) (hr : RelSL g w nt L a.tmps) (hd : Marks B.n0 st.h g w a.defers)
    (hK : ∀ g w a', Cur B g stF w → RelSL g w nt L1 a'.tmps → Marks B.n0 stF.h g w a'.defers → a'.defers = a.defers → Q .normal a' w) : (Code.region id ops true).wpIn (fence ro) N P Q a w := by
  have hy := xdraw_ok (E := fun l' => calmAll (Region.before ops) 0 l' = true ∧ recs.length = l'.length ∧ ∀ (k : Nat) x y, recs[k]? = some x → l'[k]? = some y → SubRec x y) (K := fun L2 s => L2 = L1 ∧ (∀ o, s.h.get o = st2.h.get o) ∧ s.nx = st2.nx) hl ops.toList [] [] L st st (recs, L1, st2) h1 hlo (fun _ => rfl) rfl rfl (fun k x y hx => by simp at hx) (fun l' hl hs => ⟨calmAll_sub _ _ 0 hl hs h2, hl, hs⟩) (fun s k1 k2 => ⟨rfl, k1, k2⟩)
  obtain ⟨ds, L', st', e1, e2, e3, ⟨e4, e5, e6⟩, rfl, e8, e9⟩ := opsY_run _ _ _ _ hy
  rw [List.nil_append] at e4 e5 e6
  have R := runOk_of h0 e1 (fun d hd => (e2 d hd).1) e3
  have C := calm_of e4
  have hgY : ∀ d ∈ ds, gvalY ops d.L d.o = some d.want := fun d hd => (e2 d hd).2
  have hlo2 : Low st2 := (xdraw_framed (P := P) hl ops ops.toList [] L).low hlo (show reM (xdraw P look ops ops.toList [] L) st = some ((recs, L'), st2) from by unfold reM; rw [h1])
  rcases litRun_some h3 with ⟨hins, rfl⟩ | ⟨p, k0, lits, hk0, hlits, hb, hx, hF, hnF⟩
  · refine drawn_gen hm (H := fun D o => valH ds st.h D ds.length o) (stF := stF) R (fun o => valH_none _) (fun D hD o => by rw [valH_all _ hD, ← R.fin.2.1 o, e8]) e9.symm (fun w0 D a' w' i d Q K hi hD hrd A hK => ?_) (by rw [e9]; exact hn) hc hr hd hK
    have hmem := List.mem_of_getElem? hi
    have hni : isIns d.o = false := anyIns_none hins d.o (by rw [← e1]; exact List.mem_map_of_mem hmem)
    have hgv := hgY d hmem
    unfold gvalY at hgv
    rw [hni] at hgv
    exact At.step hT R hg hdst hi hgv (calm_obj R C hi hD A.closed hrd).1 (calm_obj R C hi hD A.closed hrd).2 hD hrd A hK
  · obtain ⟨s1', s2', s3'⟩ := litsL_spec (f := litAt P ops L' p k0) (fun i o q h => by
      obtain ⟨_, _, _, _, _, _, _, _, _, _, _, _, _, _, _, h, _⟩ := litAt_some h
      exact h) _ _ _ hlits
    simp only [litsB, Bool.and_eq_true, List.all_eq_true] at hb
    obtain ⟨⟨b1, b2⟩, b3, b4⟩ := hb
    have hplim : p ≤ limit := Nat.le_of_ble_eq_true b2
    have hlen : ds.length = recs.length := by rw [e5]; simp
    have hk0l := whoW_lt hk0
    obtain ⟨d0, hd0⟩ : ∃ d0, ds[k0]? = some d0 := ⟨ds[k0]'(by omega), by simp⟩
    refine drawn_lit hT hm hg hdst R C hgY (p := p) (k0 := k0) (lits := lits) ⟨s3', fun q hq r hr hne => ?_⟩ (fun q hq => ?_) (fun i d hi hins => ?_) hd0 ?_ (fun k e hk hne => ?_) (by rw [e8]; exact hx) (by rw [e9]; exact hlo2 p _ hx) hplim (fun o => ?_) (by rw [hnF, e9]) (by rw [e9, ← hnF]; exact hn) hc hr hd hK
    · have := b1 q hq r hr
      simp only [Bool.or_eq_true, Bool.and_eq_true] at this
      rcases this with h | h
      · exact absurd (Nat.eq_of_beq_eq_true h) hne
      · refine ⟨h.1, ?_⟩
        have := h.2
        unfold isFalse at this
        split at this
        · assumption
        · cases this
    · obtain ⟨j, o, q1, q2, q3⟩ := s1' q hq
      rw [Nat.zero_add] at q2
      subst q2
      obtain ⟨t, m, k, x, kt, et, a1, a2, a3, a4, a5, a6, a7, a8, a9, _, a11, a12⟩ := litAt_some q3
      obtain ⟨d, hd⟩ : ∃ d, ds[q.i]? = some d := ⟨ds[q.i]'(by rw [R.len]; simpa using (List.getElem?_eq_some_iff.1 q1).1), by simp⟩
      have hdo : d.o = o := by
        have := R.get hd
        rw [← Array.getElem?_toList, q1] at this
        cases this; rfl
      subst hdo
      have hin : ∀ y, y = m ∨ y = k ∨ y = x → y ∈ d.o.op.operands := fun y hy => by
        rw [a1]
        rcases hy with rfl | rfl | rfl <;> simp [Op.operands]
      exact ⟨⟨d, hd, t, m, k, x, kt, et, a1, a2, a3, a4, a5, by rw [evL_late R hd a12 (hin m (.inl rfl))]; exact a6, by rw [evL_late R hd a12 (hin k (.inr (.inl rfl)))]; exact a7, a8, by rw [evL_late R hd a12 (hin x (.inr (.inr rfl)))]; exact a9⟩, a11⟩
    · obtain ⟨q, hq, h⟩ := s2' i d.o (by rw [← e1]; simp [hi]) hins
      exact ⟨q, hq, by omega⟩
    · rw [R.get hd0] at b4
      simpa using b4
    · have hrk : ∃ r, recs[k]? = some r := ⟨recs[k]'(by have := (List.getElem?_eq_some_iff.1 hk).1; omega), by simp⟩
      obtain ⟨r, hrk⟩ := hrk
      have h5 := b3 (r, k) (by rw [List.mem_zipIdx_iff_getElem?]; simpa using hrk)
      simp only [Bool.or_eq_true, Bool.and_eq_true, Bool.not_eq_true'] at h5
      rcases h5 with h5 | h5
      · exact absurd (Nat.eq_of_beq_eq_true h5) hne
      · have hsr := e6 k r ⟨e.R, e.W⟩ hrk (by simp [hk])
        have n1 : p ∉ r.R := fun h => by rw [(memN_iff p r.R).2 h] at h5; cases h5.1
        have n2 : p ∉ r.W := fun h => by rw [(memN_iff p r.W).2 h] at h5; cases h5.2
        exact ⟨fun h => (hsr.2 p h).elim n1 n2, fun h => n2 (hsr.1 p h)⟩
    · rw [hF, get_set _ _ _ _ hplim, e8]
theorem prepR_wp {P : Program} {look : Look} (hT : TabOkF P (tabX look)) (hl : LookFr look) (hm : P.follows .mixedOrders = true) {ex n id : Nat} {ops : Array Oper} {draw : Bool} {ro : Option Nat} {N : Nat} {B : BaseP} {nt : Nat} (hs : slotsIn nt (.region id ops draw) = true) {L : SL} {st : St} {q : XR} {g : Gh} {w : World} {a : Act} {Q : Exit → Act → World → Prop}
    (h : (prepR P ex ops draw).run look n L st = some q) (hw : Within ex L) (hlo : Low st) (hn : B.Near st.nx q.2.2.nx) (hc : Cur B g st w) (hr : RelSL g w nt L a.tmps) (hd : Marks B.n0 st.h g w a.defers)
    (hQ : ∀ g w a', Cur B g q.2.2 w → RelSL g w nt q.2.1 a'.tmps → Marks B.n0 q.2.2.h g w a'.defers → (draw = true → a'.defers = a.defers) → Q .normal a' w) : (Code.region id ops draw).wpIn (fence ro) N P Q a w := by
  obtain ⟨e1, _, L1, e2, e3⟩ := prepR_less h hw
  simp only [slotsIn, Bool.and_eq_true] at hs
  cases draw with
  | false =>
    simp only at e3
    exact wpIn_region (prepOs_wp hT hl hs.2 hs.1 (p := (L1, q.2.2)) (fun g w a' hc hr hd => hQ g w a' hc (hr.less e2) hd (fun h => by cases h)) ops.toList _ (by simp) (range_ops ops) L st g w a e3 hlo hn hc hr hd)
  | true =>
    obtain ⟨h0, recs, st2, u, h1, h3, h2⟩ := e3
    exact draw_wp hT hl hm hs.2 hs.1 h0 h1 h3 h2 hlo hn hc hr hd (fun g w a' hc hr hd hdd => hQ g w a' hc (hr.less e2) hd (fun _ => hdd))
structure XOk (P : Program) (ex : Nat) (c : Code) (X : SL → St → Option XR) : Prop where
  within : ∀ (L : SL) (st : St) (q : XR), X L st = some q → Within ex L → Within ex q.2.1
  framed : ∀ L, Framed (reX (X L))
  wp : ∀ (ro : Option Nat) (N : Nat) (B : BaseP) (nt : Nat), B.n0 ≤ B.w.heap.size → (ro = none ∨ c.plainR = true) → slotsIn nt c = true → ∀ (L : SL) (st : St) (q : XR) (g : Gh) (w : World) (a : Act), X L st = some q → Within ex L → Low st → B.Near st.nx q.2.2.nx → Cur B g st w → RelSL g w nt L a.tmps → Marks B.n0 st.h g w a.defers →
    c.wpIn (fence ro) N P (Fin B nt (fun e L st => (e, L, st) = q)) a w
theorem prune_zero (L : SL) (t : Nat) : lk (pruneL L 0) t = lk L t := by
  rw [pruneL_lk, show hasB 0 t = false from by unfold hasB; rw [show Nat.shiftRight 0 t = 0 from Nat.zero_shiftRight t]; rfl]; rfl
theorem XOk.le {P : Program} {ex : Nat} {c : Code} {X : SL → St → Option XR} (h : XOk P ex c X) {L : SL} {st : St} {q : XR} (hx : X L st = some q) (hl : Low st) : st.nx ≤ q.2.2.nx := (h.framed L st _ _ hl (reM_some hx)).1
theorem XOk.low {P : Program} {ex : Nat} {c : Code} {X : SL → St → Option XR} (h : XOk P ex c X) {L : SL} {st : St} {q : XR} (hx : X L st = some q) (hl : Low st) : Low q.2.2 := (h.framed L).low hl (reM_some hx)
theorem loopX_ok {P : Program} {ex : Nat} {c : Code} {X : SL → St → Option XR} (h : XOk P ex c X) (n : Nat) : XOk P ex (.loop c) (loopX X n) := by
  have hw' : ∀ L, Within ex L → Within ex (pruneL L 0) := fun L hw t ht => by rw [prune_zero]; exact hw t ht
  refine ⟨?_, loopX_framed h.framed n, ?_⟩
  · induction n with
    | zero => intro L st q hx; cases hx
    | succ n ih =>
      intro L st q hx hw
      change thenX (loopX X n) (X (pruneL L 0) st) = some q at hx
      rcases thenX_some hx with ⟨L1, st1, h1, h2⟩ | ⟨h1, _⟩
      · exact ih _ _ _ h2 (h.within _ _ _ h1 (hw' L hw))
      · exact h.within _ _ _ h1 (hw' L hw)
  · intro ro N B nt hn0 hpl hs L st q g w a hx hw hlo hnr hc hr hd
    refine wpIn_loop_least fun Y hY => ?_
    induction n generalizing L st g w a with
    | zero => cases hx
    | succ n ih =>
      change thenX (loopX X n) (X (pruneL L 0) st) = some q at hx
      have hr' : RelSL g w nt (pruneL L 0) a.tmps := ⟨hr.1, fun t => by rw [prune_zero]; exact hr.2 t⟩
      rcases thenX_some hx with ⟨L1, st1, h1, h2⟩ | ⟨h1, h2⟩
      · have hlo1 := h.low h1 hlo
        have hle1 := h.le h1 hlo
        have hle2 : st1.nx ≤ q.2.2.nx := (loopX_framed h.framed n L1 st1 _ _ hlo1 (reM_some h2)).1
        refine hY a w (wpIn_mono (h.wp ro N B nt hn0 hpl hs _ _ _ g w a h1 (hw' L hw) hlo (hnr.sub (Nat.le_refl _) hle2) hc hr' hd) ?_)
        rintro exx a1 w1 ⟨e1, L1', st1', g1, rfl, he, hc1, hr1, hd1⟩
        cases he
        exact ih L1 st1 g1 w1 a1 h2 (h.within _ _ _ h1 (hw' L hw)) hlo1 (hnr.sub hle1 (Nat.le_refl _)) hc1 hr1 hd1
      · refine hY a w (wpIn_mono (h.wp ro N B nt hn0 hpl hs _ _ _ g w a h1 (hw' L hw) hlo hnr hc hr' hd) ?_)
        rintro exx a1 w1 ⟨e1, L1, st1, g1, rfl, he, hc1, hr1, hd1⟩
        subst he
        cases e1 with
        | normal => exact (h2 rfl).elim
        | exit id => exact ⟨.exit id, L1, st1, g1, rfl, rfl, hc1, hr1, hd1⟩
        | ret => exact ⟨.ret, L1, st1, g1, rfl, rfl, hc1, hr1, hd1⟩
end
end Go.Vm
