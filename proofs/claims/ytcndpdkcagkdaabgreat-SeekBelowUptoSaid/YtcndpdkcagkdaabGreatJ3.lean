/- A piece of the proof. Proved: where the arguments are together of bulk at most 1048576, the law SeekBelow returns true (under a name that is not there, and beyond a cut), and what it was given reads afterwards as it did before. No other conditions. -/
import Derived.WalkKit
import Derived.CallsIn
import Derived.RangeFuncIn
import Derived.RangeFuncLeaves
import Derived.Orders
import Derived.OrdersIn
import Derived.Scope
import Derived.RangeFuncOwn
import Derived.Stop.SameAnswer
import Derived.Laws.Externs
import Derived.Lib.Bytealg
import Derived.ProofKit
import Derived.OpenShut
import Derived.ReadAgain
import Derived.Deep.Slices
import Derived.ChangeSame
import Derived.Test.YtcndpdkcagkdaabGreatProg
import Derived.KernelRfl
import Derived.Test.YtcndpdkcagkdaabGreatRows
import Derived.Maps.RangeRun
import Derived.JoinedCond
import Derived.Test.YtcndpdkcagkdaabGreatJ2
set_option linter.unusedSimpArgs false
set_option linter.unusedVariables false
section
set_option linter.unusedSimpArgs false
set_option linter.unusedVariables false
namespace Go.Proofs.YtcndpdkcagkdaabGreat
open Go.Vm
set_option maxRecDepth 2000000
theorem nameB_len (n : Name) : (nameB n).length ≤ nameSize n := by
  unfold nameB nameBytes
  split
  · exact Nat.zero_le _
  · have := nameBytes_len n; rw [List.length_append]; simp only [List.length_cons, List.length_nil]; omega
noncomputable def numB (t : UInt16) (n : UInt32) : List UInt8 := (put32 n).drop (4 - (shapeV t).size).toNat
def textsB (t : UInt16) : Nat → List ByteArray → List UInt8
  | _, [] => []
  | i, x :: r => (if (t.toNat : Int) = 16 ∨ i = 0 then [UInt8.ofNat x.size] else []) ++ x.data.toList ++ textsB t (i + 1) r
noncomputable def numsW (t : UInt16) (d : RData) : List UInt8 := d.nums.flatMap (numB t)
def namesW (d : RData) : List UInt8 := d.names.flatMap nameB
def textsW (t : UInt16) (d : RData) : List UInt8 := textsB t 0 d.texts
noncomputable def writeV (t : UInt16) (d : RData) : List UInt8 := if (t.toNat : Int) = 6 then namesW d ++ numsW t d else numsW t d ++ (namesW d ++ (textsW t d ++ d.raw))
theorem put32_len (n) : (put32 n).length = 4 := rfl
theorem flatMap_len {α : Type} (f : α → List UInt8) (μ : α → Nat) (h : ∀ x, (f x).length ≤ μ x) (l : List α) : (l.flatMap f).length ≤ wtL μ l := by
  induction l with
  | nil => simp
  | cons a l ih => have := h a; simp only [List.flatMap_cons, List.length_append, wtL, List.foldr_cons] at ih ⊢; omega
theorem textsB_len (t : UInt16) (l : List ByteArray) : ∀ i, (textsB t i l).length ≤ wtL ByteArray.size l := by
  induction l with
  | nil => intro i; simp [textsB]
  | cons a l ih =>
    intro i
    have := ih (i + 1)
    have ha : a.data.size = a.size := rfl
    simp only [textsB, List.length_append, wtL, List.foldr_cons, Array.length_toList] at this ⊢
    split <;> simp <;> omega
theorem numsW_len (t d) : (numsW t d).length ≤ 4 * d.nums.length := by
  unfold numsW
  induction d.nums with
  | nil => simp
  | cons a l ih =>
    have : (numB t a).length ≤ 4 := by unfold numB; rw [List.length_drop, put32_len]; omega
    simp only [List.flatMap_cons, List.length_append, List.length_cons]; omega
theorem smallD.written {d : RData} (h : smallD d) (t) : (numsW t d).length ≤ 67108864 ∧ (namesW d).length ≤ 16777216 ∧ (textsW t d).length ≤ 16777216 := by
  have h1 := numsW_len t d
  have h2 : (namesW d).length ≤ wtL nameSize d.names := flatMap_len nameB nameSize nameB_len d.names
  have h3 : (textsW t d).length ≤ wtL ByteArray.size d.texts := textsB_len t d.texts 0
  unfold smallD wtD at h
  omega
theorem flatMap_at {α : Type} {l : List α} {i : Nat} {c : α} (f : α → List UInt8) (h : l.drop i = c :: l.drop (i + 1)) : (l.drop i).flatMap f = f c ++ (l.drop (i + 1)).flatMap f := by rw [h]; rfl
theorem put32_take (c) : (put32 c).take 4 = put32 c := rfl
theorem numB_eq (t) (c) : (put32 c).drop (4 - (shapeV t).size).toNat = numB t c := rfl
theorem textsB_at (t : UInt16) {l : List ByteArray} {i : Nat} {c : ByteArray} (h : l.drop i = c :: l.drop (i + 1)) : textsB t i (l.drop i) = (if (t.toNat : Int) = 16 ∨ i = 0 then [UInt8.ofNat c.size] else []) ++ c.data.toList ++ textsB t (i + 1) (l.drop (i + 1)) := by rw [h]; rfl
theorem write_wl (t : UInt16) (d : RData) (hd : smallD d) : wl PP [shapedC, put32C, nameBytesC, concatB] 0 (Tryz.f67.body.getD .skip) (retQ PP Tryz.f67.results.toList (fun r st => (r1 (codL codU8)).get true st.h r = some (writeV t d))) (argsL 0 [codU16.val false t, codData.val false d]) (stK []) := by
  have hl := hd.lens
  have hk := hd.written t
  have hs := shape_size t
  unfold Tryz.f67
  simp only [codData_val, codName_val]
  simp only [↓wR, RA, simprocAttr, TF, shapedCF, codShape_val]
  refine loop_of_g [0, 3, 6, 7, 8, 21, 22, 23, 5] (fun (x : Nat × List UInt8) => [.sc (.int .u16 t.toNat), .ptr 0 0, .sc (.slice none 0 0), .sc (.slice none 0 0), .ptr 1 0, .vl false 1 (d.nums.map (codU32.val false)), .sc (.int .i64 (d.nums.length)), .sc (.int .i64 (x.1)), .sl 2 0 x.2.length 1]) (fun x => [some (.row [.vl false 1 (d.names.map (codName.val false)), .vl false 1 (d.nums.map (codU32.val false)), .vl false 1 (d.texts.map (codStr.val false)), .vl false 1 (d.raw.map (codU8.val false))] 0 2 66), some (.row [.sc (.int .i64 (shapeV t).names), .sc (.int .i64 (shapeV t).nums), .sc (.int .i64 (shapeV t).size), .sc (.int .i64 (shapeV t).texts), .sc (.int .i64 (shapeV t).raw)] 0 2 115), some (.row (x.2.map (codU8.val false)) 0 0 5)]) (fun x => x.1 ≤ d.nums.length ∧ x.2 ++ (d.nums.drop x.1).flatMap (numB t) = numsW t d) (fun x => d.nums.length - x.1) (0, []) ⟨Nat.zero_le _, rfl⟩ (by simp only [↓wR, RA, simprocAttr, TF]; (refine WkV.lax [] (by first | exact Nat.le_of_ble_eq_true rfl | (simp [limit]; omega)) ?_ ?_ <;> repeat' first | exact LaxL.nil | exact LaxO.nil | exact Lax.same _ | exact Lax.nil _ _ _ | exact Lax.nilv _ _ | exact LaxO.refl _ _ | apply LaxL.cons | apply LaxO.ghost | apply LaxO.same | apply LaxO.row)) ?_
  rintro ⟨i, x⟩ ⟨hi, hx⟩
  simp only at hi hx
  simp only [↓wR, RA, simprocAttr, TF]
  rw [boolK_d]; refine ⟨fun h => ?_, fun h => ?_⟩
  · obtain ⟨c, hc, hd1, hlt⟩ := at_lt (decide_eq_true h)
    rw [flatMap_at _ hd1] at hx
    have hxl : x.length + (numB t c).length ≤ (numsW t d).length := by rw [← hx]; simp
    simp only [↓wR, RA, simprocAttr, TF, h, hc, put32CF, put32_len, put32_take, numB_eq]; repeat (simp (disch := omega) only [wrapI64, dleN, dltN, dleI, dltI]; try simp only [↓wR, RA, simprocAttr, TF, h, hc, put32CF, put32_len, put32_take, numB_eq])
    exact ⟨(i + 1, x ++ numB t c), ⟨hlt, by rw [List.append_assoc]; exact hx⟩, by simp; omega, by (first | rfl | trivial | omega | (simp (disch := omega) only [wrapI64]; first | done | rfl | (simp only [List.cons.injEq, accV_snoc, accO_snoc, List.length_append, List.length_cons, List.length_nil, List.map_append, List.map_cons, List.map_nil, and_true, true_and, and_self, AV.sc.injEq, AV.sl.injEq, AObj.row.injEq, Option.some.injEq, Value.int.injEq, Nat.zero_add]; first | done | rfl | omega)) | (simp only [List.cons.injEq, accV_snoc, accO_snoc, List.length_append, List.length_cons, List.length_nil, List.map_append, List.map_cons, List.map_nil, and_true, true_and, and_self, AV.sc.injEq, AV.sl.injEq, AObj.row.injEq, Option.some.injEq, Value.int.injEq, Nat.zero_add]; first | done | rfl | omega)), by (first | rfl | trivial | omega | (simp (disch := omega) only [wrapI64]; first | done | rfl | (simp only [List.cons.injEq, accV_snoc, accO_snoc, List.length_append, List.length_cons, List.length_nil, List.map_append, List.map_cons, List.map_nil, and_true, true_and, and_self, AV.sc.injEq, AV.sl.injEq, AObj.row.injEq, Option.some.injEq, Value.int.injEq, Nat.zero_add]; first | done | rfl | omega)) | (simp only [List.cons.injEq, accV_snoc, accO_snoc, List.length_append, List.length_cons, List.length_nil, List.map_append, List.map_cons, List.map_nil, and_true, true_and, and_self, AV.sc.injEq, AV.sl.injEq, AObj.row.injEq, Option.some.injEq, Value.int.injEq, Nat.zero_add]; first | done | rfl | omega))⟩
  rw [at_ge (decide_eq_false h)] at hx
  obtain rfl : x = numsW t d := by simpa using hx
  clear hx
  simp only [↓wR, RA, simprocAttr, TF, h]
  obtain ⟨nu, hnu⟩ : ∃ nu, numsW t d = nu := ⟨_, rfl⟩
  rw [hnu] at hk ⊢
  refine loop_of_g [0, 3, 7, 38, 39, 40, 5, 6] (fun (x : Nat × List UInt8) => [.sc (.int .u16 t.toNat), .ptr 0 0, .sc (.slice none 0 0), .vl false 1 (d.names.map (codName.val false)), .sc (.int .i64 (d.names.length)), .sc (.int .i64 (x.1)), .sl 1 0 nu.length 1, .sl 2 0 x.2.length 1]) (fun x => [some (.row [.vl false 1 (d.names.map (codName.val false)), .vl false 1 (d.nums.map (codU32.val false)), .vl false 1 (d.texts.map (codStr.val false)), .vl false 1 (d.raw.map (codU8.val false))] 0 2 66), some (.row (nu.map (codU8.val false)) 0 0 5), some (.row (x.2.map (codU8.val false)) 0 0 5)]) (fun x => x.1 ≤ d.names.length ∧ x.2 ++ (d.names.drop x.1).flatMap nameB = namesW d) (fun x => d.names.length - x.1) (0, []) ⟨Nat.zero_le _, rfl⟩ (by simp only [↓wR, RA, simprocAttr, TF]; (refine WkV.lax [] (by first | exact Nat.le_of_ble_eq_true rfl | (simp [limit]; omega)) ?_ ?_ <;> repeat' first | exact LaxL.nil | exact LaxO.nil | exact Lax.same _ | exact Lax.nil _ _ _ | exact Lax.nilv _ _ | exact LaxO.refl _ _ | apply LaxL.cons | apply LaxO.ghost | apply LaxO.same | apply LaxO.row)) ?_
  clear h
  rintro ⟨i, x⟩ ⟨hi, hx⟩
  simp only at hi hx
  simp only [↓wR, RA, simprocAttr, TF]
  rw [boolK_d]; refine ⟨fun h => ?_, fun h => ?_⟩
  · obtain ⟨c, hc, hd1, hlt⟩ := at_lt (decide_eq_true h)
    rw [flatMap_at _ hd1] at hx
    have hxl : x.length + (nameB c).length ≤ (namesW d).length := by rw [← hx]; simp
    simp only [↓wR, RA, simprocAttr, TF, h, hc, nameBytesCF, hd.name c (List.mem_of_getElem? hc)]; repeat (simp (disch := omega) only [wrapI64, dleN, dltN, dleI, dltI]; try simp only [↓wR, RA, simprocAttr, TF, h, hc, nameBytesCF, hd.name c (List.mem_of_getElem? hc)])
    exact ⟨(i + 1, x ++ nameB c), ⟨hlt, by rw [List.append_assoc]; exact hx⟩, by simp; omega, by (first | rfl | trivial | omega | (simp (disch := omega) only [wrapI64]; first | done | rfl | (simp only [List.cons.injEq, accV_snoc, accO_snoc, List.length_append, List.length_cons, List.length_nil, List.map_append, List.map_cons, List.map_nil, and_true, true_and, and_self, AV.sc.injEq, AV.sl.injEq, AObj.row.injEq, Option.some.injEq, Value.int.injEq, Nat.zero_add]; first | done | rfl | omega)) | (simp only [List.cons.injEq, accV_snoc, accO_snoc, List.length_append, List.length_cons, List.length_nil, List.map_append, List.map_cons, List.map_nil, and_true, true_and, and_self, AV.sc.injEq, AV.sl.injEq, AObj.row.injEq, Option.some.injEq, Value.int.injEq, Nat.zero_add]; first | done | rfl | omega)), by (first | rfl | trivial | omega | (simp (disch := omega) only [wrapI64]; first | done | rfl | (simp only [List.cons.injEq, accV_snoc, accO_snoc, List.length_append, List.length_cons, List.length_nil, List.map_append, List.map_cons, List.map_nil, and_true, true_and, and_self, AV.sc.injEq, AV.sl.injEq, AObj.row.injEq, Option.some.injEq, Value.int.injEq, Nat.zero_add]; first | done | rfl | omega)) | (simp only [List.cons.injEq, accV_snoc, accO_snoc, List.length_append, List.length_cons, List.length_nil, List.map_append, List.map_cons, List.map_nil, and_true, true_and, and_self, AV.sc.injEq, AV.sl.injEq, AObj.row.injEq, Option.some.injEq, Value.int.injEq, Nat.zero_add]; first | done | rfl | omega))⟩
  rw [at_ge (decide_eq_false h)] at hx
  obtain rfl : x = namesW d := by simpa using hx
  clear hx
  simp only [↓wR, RA, simprocAttr, TF, h]
  obtain ⟨na, hna⟩ : ∃ na, namesW d = na := ⟨_, rfl⟩
  rw [hna] at hk ⊢
  refine loop_of_g [0, 3, 54, 55, 56, 5, 6, 7] (fun (x : Nat × List UInt8) => [.sc (.int .u16 t.toNat), .ptr 0 0, .vl false 1 (d.texts.map (codStr.val false)), .sc (.int .i64 (d.texts.length)), .sc (.int .i64 (x.1)), .sl 1 0 nu.length 1, .sl 2 0 na.length 1, .sl 3 0 x.2.length 1]) (fun x => [some (.row [.vl false 1 (d.names.map (codName.val false)), .vl false 1 (d.nums.map (codU32.val false)), .vl false 1 (d.texts.map (codStr.val false)), .vl false 1 (d.raw.map (codU8.val false))] 0 2 66), some (.row (nu.map (codU8.val false)) 0 0 5), some (.row (na.map (codU8.val false)) 0 0 5), some (.row (x.2.map (codU8.val false)) 0 0 5)]) (fun x => x.1 ≤ d.texts.length ∧ x.2 ++ textsB t x.1 (d.texts.drop x.1) = textsW t d) (fun x => d.texts.length - x.1) (0, []) ⟨Nat.zero_le _, rfl⟩ (by simp only [↓wR, RA, simprocAttr, TF]; (refine WkV.lax [] (by first | exact Nat.le_of_ble_eq_true rfl | (simp [limit]; omega)) ?_ ?_ <;> repeat' first | exact LaxL.nil | exact LaxO.nil | exact Lax.same _ | exact Lax.nil _ _ _ | exact Lax.nilv _ _ | exact LaxO.refl _ _ | apply LaxL.cons | apply LaxO.ghost | apply LaxO.same | apply LaxO.row)) ?_
  clear h
  rintro ⟨i, x⟩ ⟨hi, hx⟩
  simp only at hi hx
  simp only [↓wR, RA, simprocAttr, TF]
  rw [boolK_d]; refine ⟨fun h => ?_, fun h => ?_⟩
  · obtain ⟨c, hc, hd1, hlt⟩ := at_lt (decide_eq_true h)
    rw [textsB_at _ hd1] at hx
    have hxl : x.length + ((if (t.toNat : Int) = 16 ∨ i = 0 then [UInt8.ofNat c.size] else []).length + c.size) ≤ (textsW t d).length := by rw [← hx]; simp
    have hcs : c.data.toList.length = c.size := by simp
    simp only [↓wR, RA, simprocAttr, TF, h, hc]; repeat (simp (disch := omega) only [wrapI64, dleN, dltN, dleI, dltI]; try simp only [↓wR, RA, simprocAttr, TF, h, hc])
    have fin : ∀ b : List UInt8, x ++ (b ++ c.data.toList ++ textsB t (i + 1) (d.texts.drop (i + 1))) = textsW t d → x ++ b ++ c.data.toList ++ textsB t (i + 1) (d.texts.drop (i + 1)) = textsW t d := fun b hb => by rw [← hb]; simp
    rw [boolK_eqI]; refine ⟨fun ⟨h16, e16⟩ => ?_, fun ⟨h16, e16⟩ => ?_⟩
    · rw [if_pos (.inl e16)] at hx hxl
      simp only [List.length_cons, List.length_nil] at hxl
      simp only [↓wR, RA, simprocAttr, TF, h16]; repeat (simp (disch := omega) only [wrapI64, dleN, dltN, dleI, dltI]; try simp only [↓wR, RA, simprocAttr, TF, h16])
      exact ⟨(i + 1, x ++ [UInt8.ofNat c.size] ++ c.data.toList), ⟨hlt, fin _ hx⟩, by simp; omega, by (first | rfl | trivial | omega | (simp (disch := omega) only [wrapI64]; first | done | rfl | (simp only [List.cons.injEq, accV_snoc, accO_snoc, List.length_append, List.length_cons, List.length_nil, List.map_append, List.map_cons, List.map_nil, and_true, true_and, and_self, AV.sc.injEq, AV.sl.injEq, AObj.row.injEq, Option.some.injEq, Value.int.injEq, Nat.zero_add]; first | done | rfl | omega)) | (simp only [List.cons.injEq, accV_snoc, accO_snoc, List.length_append, List.length_cons, List.length_nil, List.map_append, List.map_cons, List.map_nil, and_true, true_and, and_self, AV.sc.injEq, AV.sl.injEq, AObj.row.injEq, Option.some.injEq, Value.int.injEq, Nat.zero_add]; first | done | rfl | omega)), by (first | rfl | trivial | omega | (simp (disch := omega) only [wrapI64]; first | done | rfl | (simp only [List.cons.injEq, accV_snoc, accO_snoc, List.length_append, List.length_cons, List.length_nil, List.map_append, List.map_cons, List.map_nil, and_true, true_and, and_self, AV.sc.injEq, AV.sl.injEq, AObj.row.injEq, Option.some.injEq, Value.int.injEq, Nat.zero_add]; first | done | rfl | omega)) | (simp only [List.cons.injEq, accV_snoc, accO_snoc, List.length_append, List.length_cons, List.length_nil, List.map_append, List.map_cons, List.map_nil, and_true, true_and, and_self, AV.sc.injEq, AV.sl.injEq, AObj.row.injEq, Option.some.injEq, Value.int.injEq, Nat.zero_add]; first | done | rfl | omega))⟩
    · simp only [↓wR, RA, simprocAttr, TF, h16]; repeat (simp (disch := omega) only [wrapI64, dleN, dltN, dleI, dltI]; try simp only [↓wR, RA, simprocAttr, TF, h16])
      rw [boolK_eqI]; refine ⟨fun ⟨h0, e0⟩ => ?_, fun ⟨h0, e0⟩ => ?_⟩
      · rw [if_pos (.inr (by omega))] at hx hxl
        simp only [List.length_cons, List.length_nil] at hxl
        simp only [↓wR, RA, simprocAttr, TF, h0]; repeat (simp (disch := omega) only [wrapI64, dleN, dltN, dleI, dltI]; try simp only [↓wR, RA, simprocAttr, TF, h0])
        exact ⟨(i + 1, x ++ [UInt8.ofNat c.size] ++ c.data.toList), ⟨hlt, fin _ hx⟩, by simp; omega, by (first | rfl | trivial | omega | (simp (disch := omega) only [wrapI64]; first | done | rfl | (simp only [List.cons.injEq, accV_snoc, accO_snoc, List.length_append, List.length_cons, List.length_nil, List.map_append, List.map_cons, List.map_nil, and_true, true_and, and_self, AV.sc.injEq, AV.sl.injEq, AObj.row.injEq, Option.some.injEq, Value.int.injEq, Nat.zero_add]; first | done | rfl | omega)) | (simp only [List.cons.injEq, accV_snoc, accO_snoc, List.length_append, List.length_cons, List.length_nil, List.map_append, List.map_cons, List.map_nil, and_true, true_and, and_self, AV.sc.injEq, AV.sl.injEq, AObj.row.injEq, Option.some.injEq, Value.int.injEq, Nat.zero_add]; first | done | rfl | omega)), by (first | rfl | trivial | omega | (simp (disch := omega) only [wrapI64]; first | done | rfl | (simp only [List.cons.injEq, accV_snoc, accO_snoc, List.length_append, List.length_cons, List.length_nil, List.map_append, List.map_cons, List.map_nil, and_true, true_and, and_self, AV.sc.injEq, AV.sl.injEq, AObj.row.injEq, Option.some.injEq, Value.int.injEq, Nat.zero_add]; first | done | rfl | omega)) | (simp only [List.cons.injEq, accV_snoc, accO_snoc, List.length_append, List.length_cons, List.length_nil, List.map_append, List.map_cons, List.map_nil, and_true, true_and, and_self, AV.sc.injEq, AV.sl.injEq, AObj.row.injEq, Option.some.injEq, Value.int.injEq, Nat.zero_add]; first | done | rfl | omega))⟩
      · rw [if_neg (by omega)] at hx hxl
        simp only [List.length_nil] at hxl
        simp only [↓wR, RA, simprocAttr, TF, h0]; repeat (simp (disch := omega) only [wrapI64, dleN, dltN, dleI, dltI]; try simp only [↓wR, RA, simprocAttr, TF, h0])
        exact ⟨(i + 1, x ++ c.data.toList), ⟨hlt, by have := fin _ hx; simpa using this⟩, by simp; omega, by (first | rfl | trivial | omega | (simp (disch := omega) only [wrapI64]; first | done | rfl | (simp only [List.cons.injEq, accV_snoc, accO_snoc, List.length_append, List.length_cons, List.length_nil, List.map_append, List.map_cons, List.map_nil, and_true, true_and, and_self, AV.sc.injEq, AV.sl.injEq, AObj.row.injEq, Option.some.injEq, Value.int.injEq, Nat.zero_add]; first | done | rfl | omega)) | (simp only [List.cons.injEq, accV_snoc, accO_snoc, List.length_append, List.length_cons, List.length_nil, List.map_append, List.map_cons, List.map_nil, and_true, true_and, and_self, AV.sc.injEq, AV.sl.injEq, AObj.row.injEq, Option.some.injEq, Value.int.injEq, Nat.zero_add]; first | done | rfl | omega)), by (first | rfl | trivial | omega | (simp (disch := omega) only [wrapI64]; first | done | rfl | (simp only [List.cons.injEq, accV_snoc, accO_snoc, List.length_append, List.length_cons, List.length_nil, List.map_append, List.map_cons, List.map_nil, and_true, true_and, and_self, AV.sc.injEq, AV.sl.injEq, AObj.row.injEq, Option.some.injEq, Value.int.injEq, Nat.zero_add]; first | done | rfl | omega)) | (simp only [List.cons.injEq, accV_snoc, accO_snoc, List.length_append, List.length_cons, List.length_nil, List.map_append, List.map_cons, List.map_nil, and_true, true_and, and_self, AV.sc.injEq, AV.sl.injEq, AObj.row.injEq, Option.some.injEq, Value.int.injEq, Nat.zero_add]; first | done | rfl | omega))⟩
  rw [at_ge (decide_eq_false h)] at hx
  obtain rfl : x = textsW t d := by simpa [textsB] using hx
  clear hx
  simp only [↓wR, RA, simprocAttr, TF, h]; repeat (simp (disch := omega) only [wrapI64, dleN, dltN, dleI, dltI]; try simp only [↓wR, RA, simprocAttr, TF, h])
  unfold writeV
  rw [hnu, hna]
  rw [boolK_eqI]; refine ⟨fun ⟨h6, e6⟩ => ?_, fun ⟨h6, e6⟩ => ?_⟩
  · rw [if_pos e6]
    simp only [↓wR, RA, simprocAttr, TF, h6]; repeat (simp (disch := omega) only [wrapI64, dleN, dltN, dleI, dltI]; try simp only [↓wR, RA, simprocAttr, TF, h6])
  · rw [if_neg e6]
    have hcat : nu.length + (na.length + ((textsW t d).length + d.raw.length)) ≤ 134217728 := by omega
    simp only [↓wR, RA, simprocAttr, TF, h6, concatBF, hcat]; repeat (simp (disch := omega) only [wrapI64, dleN, dltN, dleI, dltI]; try simp only [↓wR, RA, simprocAttr, TF, h6, concatBF, hcat])
    rw [← List.map_append, ← List.map_append, ← List.map_append]
    exact rtT (codL codU8) _ _
noncomputable def rdataWriteF (x : UInt16 × RData × Unit) : Option AV := if smallD x.2.1 then some ((r1 (codL codU8)).E true (writeV x.1 x.2.1)) else none
set_option maxRecDepth 2000000 in
theorem rdataWrite_pure (x : UInt16 × RData × Unit) (r : AV) (h : rdataWriteF x = some r) : CallPure PP 67 ((aC codU16 (aC codData a0)).E x) r := by
  by_cases hc : smallD x.2.1
  case neg => simp only [rdataWriteF, if_neg hc] at h; cases h
  simp only [rdataWriteF, if_pos hc] at h
  cases h
  exact callPure_wl (TabOk.cons (pure_entry shapedC_pure) (TabOk.cons (pure_entry put32C_pure) (TabOk.cons (pure_entry nameBytesC_pure) (TabOk.cons (pure_entry concatB_pure) (TabOk.nil PP))))) Tryz.func67 (by kernel_rfl) (by kernel_rfl) (by kernel_rfl) (Nat.le_of_ble_eq_true (by kernel_rfl)) (r1 (codL codU8)) true (writeV x.1 x.2.1) (write_wl x.1 x.2.1 hc)
noncomputable abbrev rdataWrite : Nat × Bool × (List AV → M AV) := (67, true, pureM (aC codU16 (aC codData a0)) rdataWriteF)
end Go.Proofs.YtcndpdkcagkdaabGreat
end
section
set_option linter.unusedSimpArgs false
set_option linter.unusedVariables false
namespace Go.Proofs.YtcndpdkcagkdaabGreat
open Go.Vm
set_option maxRecDepth 2000000
theorem dataCopy_wl (d : RData) (hd : smallD d) : wl PP [cloneU32, cloneStr, cloneU8, nameCopy] 0 (Tryz.f34.body.getD .skip) (retQ PP Tryz.f34.results.toList (fun r st => (r1 codData).get true st.h r = some d)) (argsL 0 [codData.val false d]) (stK []) := by
  have hl := hd.lens
  have l2 := hl.2.1
  have l3 := hl.2.2.1
  have l4 := hl.2.2.2
  unfold Tryz.f34
  simp only [codData_val, codName_val]
  simp only [↓wR, RA, simprocAttr, TF]
  refine ⟨by kernel_rfl, .inl ?_⟩
  simp only [↓wR, RA, simprocAttr, TF, cloneU32F, cloneStrF, cloneU8F, l2, l3, l4]
  refine ⟨by kernel_rfl, ?_⟩
  refine loop_of_g [2, 17, 18, 19, 3] (fun (x : List Name) => [.ptr 0 0, .vl false 1 (d.names.map (codName.val false)), .sc (.int .i64 (d.names.length)), .sc (.int .i64 (x.length)), .ptr 1 0]) (fun x => [some (.row [.sc (.slice none 0 0), .sc (.slice none 0 0), .sc (.slice none 0 0), .sc (.slice none 0 0)] 0 2 66), some (.row [.sl 2 0 x.length 1, .vl true 1 (d.nums.map (codU32.val false)), .vl true 1 (d.texts.map (codStr.val false)), .vl true 1 (d.raw.map (codU8.val false))] 0 2 66), some (.row (x.map (codName.val true)) 0 0 23)]) (fun x => x.length ≤ d.names.length ∧ x ++ d.names.drop x.length = d.names) (fun x => d.names.length - x.length) [] ⟨Nat.zero_le _, rfl⟩ (by simp only [↓wR, RA, simprocAttr, TF]; (refine WkV.lax [] (by first | exact Nat.le_of_ble_eq_true rfl | (simp [limit]; omega)) ?_ ?_ <;> repeat' first | exact LaxL.nil | exact LaxO.nil | exact Lax.same _ | exact Lax.nil _ _ _ | exact Lax.nilv _ _ | exact LaxO.refl _ _ | apply LaxL.cons | apply LaxO.ghost | apply LaxO.same | apply LaxO.row)) ?_
  rintro x ⟨hi, hx⟩
  simp only [↓wR, RA, simprocAttr, TF]
  rw [boolK_d]; refine ⟨fun h => ?_, fun h => ?_⟩
  · obtain ⟨c, hc, hd1, hlt⟩ := at_lt (decide_eq_true h)
    rw [hd1] at hx
    have hlim : (x.length + 1) * 24 ≤ 140737488355328 := by omega
    simp only [↓wR, RA, simprocAttr, TF, h, hc]
    refine ⟨by kernel_rfl, .inl ?_⟩
    simp only [↓wR, RA, simprocAttr, TF, nameCopyF, hd.name c (List.mem_of_getElem? hc), hlim]
    refine ⟨by kernel_rfl, ?_⟩
    exact ⟨x ++ [c], ⟨by simp; omega, by simpa using hx⟩, by simp; omega, by (first | rfl | trivial | omega | (simp (disch := omega) only [wrapI64]; first | done | rfl | (simp only [List.cons.injEq, accV_snoc, accO_snoc, List.length_append, List.length_cons, List.length_nil, List.map_append, List.map_cons, List.map_nil, and_true, true_and, and_self, AV.sc.injEq, AV.sl.injEq, AObj.row.injEq, Option.some.injEq, Value.int.injEq, Nat.zero_add]; first | done | rfl | omega)) | (simp only [List.cons.injEq, accV_snoc, accO_snoc, List.length_append, List.length_cons, List.length_nil, List.map_append, List.map_cons, List.map_nil, and_true, true_and, and_self, AV.sc.injEq, AV.sl.injEq, AObj.row.injEq, Option.some.injEq, Value.int.injEq, Nat.zero_add]; first | done | rfl | omega)), by (first | rfl | trivial | omega | (simp (disch := omega) only [wrapI64]; first | done | rfl | (simp only [List.cons.injEq, accV_snoc, accO_snoc, List.length_append, List.length_cons, List.length_nil, List.map_append, List.map_cons, List.map_nil, and_true, true_and, and_self, AV.sc.injEq, AV.sl.injEq, AObj.row.injEq, Option.some.injEq, Value.int.injEq, Nat.zero_add]; first | done | rfl | omega)) | (simp only [List.cons.injEq, accV_snoc, accO_snoc, List.length_append, List.length_cons, List.length_nil, List.map_append, List.map_cons, List.map_nil, and_true, true_and, and_self, AV.sc.injEq, AV.sl.injEq, AObj.row.injEq, Option.some.injEq, Value.int.injEq, Nat.zero_add]; first | done | rfl | omega))⟩
  · rw [at_ge (decide_eq_false h)] at hx
    rw [List.append_nil] at hx
    subst hx
    simp only [↓wR, RA, simprocAttr, TF, h]
noncomputable def dataCopyF (x : RData × Unit) : Option AV := if smallD x.1 then some ((r1 codData).E true (x.1)) else none
set_option maxRecDepth 2000000 in
theorem dataCopy_pure (x : RData × Unit) (r : AV) (h : dataCopyF x = some r) : CallPure PP 34 ((aC codData a0).E x) r := by
  by_cases hc : smallD x.1
  case neg => simp only [dataCopyF, if_neg hc] at h; cases h
  simp only [dataCopyF, if_pos hc] at h
  cases h
  exact callPure_wl (TabOk.cons (pure_entry cloneU32_pure) (TabOk.cons (pure_entry cloneStr_pure) (TabOk.cons (pure_entry cloneU8_pure) (TabOk.cons (pure_entry nameCopy_pure) (TabOk.nil PP))))) Tryz.func34 (by kernel_rfl) (by kernel_rfl) (by kernel_rfl) (Nat.le_of_ble_eq_true (by kernel_rfl)) (r1 codData) true (x.1) (dataCopy_wl x.1 hc)
noncomputable abbrev dataCopy : Nat × Bool × (List AV → M AV) := (34, true, pureM (aC codData a0) dataCopyF)
end Go.Proofs.YtcndpdkcagkdaabGreat
end
section
set_option linter.unusedSimpArgs false
set_option linter.unusedVariables false
namespace Go.Proofs.YtcndpdkcagkdaabGreat
open Go.Vm
set_option maxRecDepth 2000000
def stageG {α : Type} (f : α → α) (l : List α) (i : Nat) : List α := (l.take i).map f ++ l.drop i
theorem stageG_len {α : Type} (f : α → α) (l : List α) (i : Nat) : (stageG f l i).length = l.length := by simp [stageG]; omega
theorem stageG_get {α : Type} (f : α → α) {l : List α} {i : Nat} {c : α} (h : l[i]? = some c) : (stageG f l i)[i]? = some c := by
  obtain ⟨hi, rfl⟩ := List.getElem?_eq_some_iff.1 h
  have hl : ((l.take i).map f).length = i := by simp; omega
  rw [stageG, List.getElem?_append_right (by omega), hl, Nat.sub_self, List.getElem?_drop]; simp [h]
theorem stageG_set {α : Type} (f : α → α) {l : List α} {i : Nat} {c : α} (h : l[i]? = some c) : (stageG f l i).take i ++ [f c] ++ (stageG f l i).drop (i + 1) = stageG f l (i + 1) := by
  obtain ⟨hi, rfl⟩ := List.getElem?_eq_some_iff.1 h
  have h1 : ((l.take i).map f).length = i := by simp; omega
  have h2 : (stageG f l i).take i = (l.take i).map f := by rw [stageG, List.take_append_of_le_length (by omega), List.take_of_length_le (by omega)]
  have h3 : (stageG f l i).drop (i + 1) = l.drop (i + 1) := by
    rw [stageG, List.drop_append, List.drop_eq_nil_of_le (by omega), h1]
    simp
  rw [h2, h3, stageG, List.take_succ_eq_append_getElem hi, List.map_append]
  rfl
theorem stageG_all {α : Type} (f : α → α) (l : List α) : stageG f l l.length = l.map f := by simp [stageG]
noncomputable def foldD (t : UInt16) (d : RData) : RData := if 0 < (shapeV t).names then { d with names := d.names.map foldN } else d
theorem dataFold_wl (t : UInt16) (d : RData) (hd : smallD d) : wl PP [shapedC, nameFold] 0 (Tryz.f84.body.getD .skip) (retQ PP Tryz.f84.results.toList (fun r st => (r1 codData).get true st.h r = some (foldD t d))) (argsL 0 [codU16.val false t, codData.val false d]) (stK []) := by
  have hl := hd.lens
  have l2 := hl.2.1
  have l3 := hl.2.2.1
  have l4 := hl.2.2.2
  unfold Tryz.f84
  simp only [codData_val, codName_val]
  simp only [↓wR, RA, simprocAttr, TF]
  refine callAt_of_wl (T := [cloneU32, cloneStr, cloneU8, nameCopy]) (TabOk.cons (pure_entry cloneU32_pure) (TabOk.cons (pure_entry cloneStr_pure) (TabOk.cons (pure_entry cloneU8_pure) (TabOk.cons (pure_entry nameCopy_pure) (TabOk.nil PP))))) mixed Tryz.func34 rfl (by kernel_rfl) (by kernel_rfl) (by kernel_rfl) (by kernel_rfl) ?_; unfold Tryz.f34
  simp only [↓wR, RA, simprocAttr, TF]
  refine ⟨by kernel_rfl, .inl ?_⟩
  simp only [↓wR, RA, simprocAttr, TF, cloneU32F, cloneStrF, cloneU8F, l2, l3, l4]
  refine ⟨by kernel_rfl, ?_⟩
  refine loop_of_g [2, 17, 18, 19, 3] (fun (x : List Name) => [.ptr 2 0, .vl false 1 (d.names.map (codName.val false)), .sc (.int .i64 (d.names.length)), .sc (.int .i64 (x.length)), .ptr 3 0]) (fun x => [some (.row [.vl false 1 (d.names.map (codName.val false)), .vl false 1 (d.nums.map (codU32.val false)), .vl false 1 (d.texts.map (codStr.val false)), .vl false 1 (d.raw.map (codU8.val false))] 0 2 66), some (.row [.sc (.slice none 0 0), .sc (.slice none 0 0), .sc (.slice none 0 0), .sc (.slice none 0 0)] 0 2 66), some (.row [.sc (.slice none 0 0), .sc (.slice none 0 0), .sc (.slice none 0 0), .sc (.slice none 0 0)] 0 2 66), some (.row [.sl 4 0 x.length 1, .vl true 1 (d.nums.map (codU32.val false)), .vl true 1 (d.texts.map (codStr.val false)), .vl true 1 (d.raw.map (codU8.val false))] 0 2 66), some (.row (x.map (codName.val true)) 0 0 23)]) (fun x => x.length ≤ d.names.length ∧ x ++ d.names.drop x.length = d.names) (fun x => d.names.length - x.length) [] ⟨Nat.zero_le _, rfl⟩ (by simp only [↓wR, RA, simprocAttr, TF]; (refine WkV.lax [] (by first | exact Nat.le_of_ble_eq_true rfl | (simp [limit]; omega)) ?_ ?_ <;> repeat' first | exact LaxL.nil | exact LaxO.nil | exact Lax.same _ | exact Lax.nil _ _ _ | exact Lax.nilv _ _ | exact LaxO.refl _ _ | apply LaxL.cons | apply LaxO.ghost | apply LaxO.same | apply LaxO.row)) ?_
  rintro x ⟨hi, hx⟩
  simp only [↓wR, RA, simprocAttr, TF]
  rw [boolK_d]; refine ⟨fun h => ?_, fun h => ?_⟩
  · obtain ⟨c, hc, hd1, hlt⟩ := at_lt (decide_eq_true h)
    rw [hd1] at hx
    have hlim : (x.length + 1) * 24 ≤ 140737488355328 := by omega
    simp only [↓wR, RA, simprocAttr, TF, h, hc]
    refine ⟨by kernel_rfl, .inl ?_⟩
    simp only [↓wR, RA, simprocAttr, TF, nameCopyF, hd.name c (List.mem_of_getElem? hc), hlim]
    refine ⟨by kernel_rfl, ?_⟩
    exact ⟨x ++ [c], ⟨by simp; omega, by simpa using hx⟩, by simp; omega, by (first | rfl | trivial | omega | (simp (disch := omega) only [wrapI64]; first | done | rfl | (simp only [List.cons.injEq, accV_snoc, accO_snoc, List.length_append, List.length_cons, List.length_nil, List.map_append, List.map_cons, List.map_nil, and_true, true_and, and_self, AV.sc.injEq, AV.sl.injEq, AObj.row.injEq, Option.some.injEq, Value.int.injEq, Nat.zero_add]; first | done | rfl | omega)) | (simp only [List.cons.injEq, accV_snoc, accO_snoc, List.length_append, List.length_cons, List.length_nil, List.map_append, List.map_cons, List.map_nil, and_true, true_and, and_self, AV.sc.injEq, AV.sl.injEq, AObj.row.injEq, Option.some.injEq, Value.int.injEq, Nat.zero_add]; first | done | rfl | omega)), by (first | rfl | trivial | omega | (simp (disch := omega) only [wrapI64]; first | done | rfl | (simp only [List.cons.injEq, accV_snoc, accO_snoc, List.length_append, List.length_cons, List.length_nil, List.map_append, List.map_cons, List.map_nil, and_true, true_and, and_self, AV.sc.injEq, AV.sl.injEq, AObj.row.injEq, Option.some.injEq, Value.int.injEq, Nat.zero_add]; first | done | rfl | omega)) | (simp only [List.cons.injEq, accV_snoc, accO_snoc, List.length_append, List.length_cons, List.length_nil, List.map_append, List.map_cons, List.map_nil, and_true, true_and, and_self, AV.sc.injEq, AV.sl.injEq, AObj.row.injEq, Option.some.injEq, Value.int.injEq, Nat.zero_add]; first | done | rfl | omega))⟩
  rw [at_ge (decide_eq_false h)] at hx
  rw [List.append_nil] at hx
  subst hx
  simp only [↓wR, RA, simprocAttr, TF, h, shapedCF, codShape_val]
  unfold foldD
  clear hi h
  rw [boolK_d]; refine ⟨fun h0 => ?_, fun h0 => ?_⟩
  · rw [if_pos h0]
    simp only [↓wR, RA, simprocAttr, TF, h0]
    refine loop_of [4, 5, 15, 16, 17] (fun (i : Nat) => [.ptr 0 0, .ptr 1 0, .sl 2 0 d.names.length 1, .sc (.int .i64 (d.names.length)), .sc (.int .i64 (i))]) (fun i => [some (.row [.sc (.slice none 0 0), .sc (.slice none 0 0), .sc (.slice none 0 0), .sc (.slice none 0 0)] 0 2 66), some (.row [.sl 2 0 d.names.length 1, .vl true 1 (d.nums.map (codU32.val false)), .vl true 1 (d.texts.map (codStr.val false)), .vl true 1 (d.raw.map (codU8.val false))] 0 2 66), some (.row ((stageG foldN d.names i).map (codName.val true)) 0 0 23)]) (fun i => i ≤ d.names.length) (fun i => d.names.length - i) 0 (Nat.zero_le _) (by simp only [↓wR, RA, simprocAttr, TF] <;> rfl) (by simp only [↓wR, RA, simprocAttr, TF] <;> rfl) ?_
    intro i hi
    simp only [↓wR, RA, simprocAttr, TF]
    rw [boolK_d]; refine ⟨fun h => ?_, fun h => ?_⟩
    · obtain ⟨c, hc, hd1, hlt⟩ := at_lt (decide_eq_true h)
      have hs := stageG_get foldN hc
      have hlen := stageG_len foldN d.names i
      have hlt' : i + 1 ≤ d.names.length := hlt
      simp only [↓wR, RA, simprocAttr, TF, h, hs, hlt]
      refine ⟨by kernel_rfl, .inl ?_⟩
      simp only [↓wR, RA, simprocAttr, TF, h, hlt, hlt', hlen, nameFoldF, hd.name c (List.mem_of_getElem? hc)]
      refine ⟨by kernel_rfl, i + 1, hlt, by omega, by (first | rfl | trivial | omega | (simp (disch := omega) only [wrapI64]; first | done | rfl | (simp only [List.cons.injEq, accV_snoc, accO_snoc, List.length_append, List.length_cons, List.length_nil, List.map_append, List.map_cons, List.map_nil, and_true, true_and, and_self, AV.sc.injEq, AV.sl.injEq, AObj.row.injEq, Option.some.injEq, Value.int.injEq, Nat.zero_add]; first | done | rfl | omega)) | (simp only [List.cons.injEq, accV_snoc, accO_snoc, List.length_append, List.length_cons, List.length_nil, List.map_append, List.map_cons, List.map_nil, and_true, true_and, and_self, AV.sc.injEq, AV.sl.injEq, AObj.row.injEq, Option.some.injEq, Value.int.injEq, Nat.zero_add]; first | done | rfl | omega)), ?_⟩
      rw [← stageG_set foldN hc]; simp only [List.map_append, List.map_cons, List.map_nil]
    · have hin : i = d.names.length := by omega
      subst hin
      rw [stageG_all]
      have hml : (d.names.map foldN).length = d.names.length := List.length_map _
      generalize d.names.map foldN = m at hml ⊢
      simp only [↓wR, RA, simprocAttr, TF, h, hml]
      rfl
  · rw [if_neg h0]
    simp only [↓wR, RA, simprocAttr, TF, h0]
noncomputable def dataFoldF (x : UInt16 × RData × Unit) : Option AV := if smallD x.2.1 then some ((r1 codData).E true (foldD x.1 x.2.1)) else none
set_option maxRecDepth 2000000 in
theorem dataFold_pure (x : UInt16 × RData × Unit) (r : AV) (h : dataFoldF x = some r) : CallPure PP 84 ((aC codU16 (aC codData a0)).E x) r := by
  by_cases hc : smallD x.2.1
  case neg => simp only [dataFoldF, if_neg hc] at h; cases h
  simp only [dataFoldF, if_pos hc] at h
  cases h
  exact callPure_wl (TabOk.cons (pure_entry shapedC_pure) (TabOk.cons (pure_entry nameFold_pure) (TabOk.nil PP))) Tryz.func84 (by kernel_rfl) (by kernel_rfl) (by kernel_rfl) (Nat.le_of_ble_eq_true (by kernel_rfl)) (r1 codData) true (foldD x.1 x.2.1) (dataFold_wl x.1 x.2.1 hc)
noncomputable abbrev dataFold : Nat × Bool × (List AV → M AV) := (84, true, pureM (aC codU16 (aC codData a0)) dataFoldF)
end Go.Proofs.YtcndpdkcagkdaabGreat
end
section
set_option linter.unusedSimpArgs false
set_option linter.unusedVariables false
namespace Go.Proofs.YtcndpdkcagkdaabGreat
open Go.Vm
set_option maxRecDepth 2000000
def namesErr : List Name → Int
  | [] => 0
  | n :: r => if nameErr n ≠ 0 then nameErr n else namesErr r
noncomputable def dataErr (t : UInt16) (d : RData) : Int :=
  if barredV t = true then 6 else if fitsV (shapeV t) t d = false then 7 else if namesErr d.names ≠ 0 then namesErr d.names else if 65535 < (writeV t d).length then 3 else 0
theorem namesErr_at {l : List Name} {i : Nat} {c : Name} (h : l.drop i = c :: l.drop (i + 1)) : namesErr (l.drop i) = if nameErr c ≠ 0 then nameErr c else namesErr (l.drop (i + 1)) := by rw [h]; rfl
theorem dataCheck_wl (t : UInt16) (d : RData) (hd : smallD d) : wl PP [barred, shapedC, fitsC, nameCheck, rdataWrite] 0 (Tryz.f56.body.getD .skip) (retQ PP Tryz.f56.results.toList (fun r st => (r1 (codInt .i64)).get true st.h r = some (dataErr t d))) (argsL 0 [codU16.val false t, codData.val false d]) (stK []) := by
  have hs := shape_size t
  have hl := hd.lens
  unfold Tryz.f56
  simp only [codData_val, codName_val]
  simp only [↓wR, RA, simprocAttr, TF, barredF]
  unfold dataErr
  rw [boolK_b]; refine ⟨fun hb => ?_, fun hb => ?_⟩
  · rw [if_pos hb]
    simp only [↓wR, RA, simprocAttr, TF, hb]
  rw [if_neg (by rw [hb]; decide)]
  simp only [↓wR, RA, simprocAttr, TF, hb]
  refine ⟨by kernel_rfl, .inl ?_⟩
  simp only [↓wR, RA, simprocAttr, TF, shapedCF, fitsCF, hs, hd]
  refine ⟨by kernel_rfl, ?_⟩
  rw [boolK_b]; refine ⟨fun hf => ?_, fun hf => ?_⟩
  · rw [if_pos (by simpa using hf)]
    simp only [↓wR, RA, simprocAttr, TF, hf]
  have hf' : fitsV (shapeV t) t d = true := by simpa using hf
  rw [if_neg (by rw [hf']; decide)]
  simp only [↓wR, RA, simprocAttr, TF, hf]
  refine loop_of [0, 3, 17, 18, 19] (fun (i : Nat) => [.sc (.int .u16 t.toNat), .ptr 0 0, .vl false 1 (d.names.map (codName.val false)), .sc (.int .i64 (d.names.length)), .sc (.int .i64 (i))]) (fun _ => [some (.row [.vl false 1 (d.names.map (codName.val false)), .vl false 1 (d.nums.map (codU32.val false)), .vl false 1 (d.texts.map (codStr.val false)), .vl false 1 (d.raw.map (codU8.val false))] 0 2 66)]) (fun i => i ≤ d.names.length ∧ namesErr d.names = namesErr (d.names.drop i)) (fun i => d.names.length - i) 0 ⟨Nat.zero_le _, rfl⟩ (by simp only [↓wR, RA, simprocAttr, TF] <;> rfl) (by simp only [↓wR, RA, simprocAttr, TF] <;> rfl) ?_
  rintro i ⟨hi, hx⟩
  simp only [↓wR, RA, simprocAttr, TF]
  rw [boolK_d]; refine ⟨fun h => ?_, fun h => ?_⟩
  · obtain ⟨c, hc, hd1, hlt⟩ := at_lt (decide_eq_true h)
    rw [namesErr_at hd1] at hx
    simp only [↓wR, RA, simprocAttr, TF, h, hc, nameCheckF, (hd.name c (List.mem_of_getElem? hc)).fit]
    rw [boolK_b]; refine ⟨fun h1 => ?_, fun h1 => ?_⟩
    · have he : nameErr c ≠ 0 := by simpa using h1
      rw [if_pos he] at hx
      rw [if_pos (by rw [hx]; exact he), hx]
      simp only [↓wR, RA, simprocAttr, TF, h1]
    · have he : nameErr c = 0 := by simpa using h1
      rw [if_neg (by omega)] at hx
      simp only [↓wR, RA, simprocAttr, TF, h1]; repeat (simp (disch := omega) only [wrapI64, dleN, dltN, dleI, dltI]; try simp only [↓wR, RA, simprocAttr, TF, h1])
      exact ⟨i + 1, ⟨hlt, hx⟩, by omega, by (first | rfl | trivial | omega | (simp (disch := omega) only [wrapI64]; first | done | rfl | (simp only [List.cons.injEq, accV_snoc, accO_snoc, List.length_append, List.length_cons, List.length_nil, List.map_append, List.map_cons, List.map_nil, and_true, true_and, and_self, AV.sc.injEq, AV.sl.injEq, AObj.row.injEq, Option.some.injEq, Value.int.injEq, Nat.zero_add]; first | done | rfl | omega)) | (simp only [List.cons.injEq, accV_snoc, accO_snoc, List.length_append, List.length_cons, List.length_nil, List.map_append, List.map_cons, List.map_nil, and_true, true_and, and_self, AV.sc.injEq, AV.sl.injEq, AObj.row.injEq, Option.some.injEq, Value.int.injEq, Nat.zero_add]; first | done | rfl | omega))⟩
  rw [at_ge (decide_eq_false h)] at hx
  rw [if_neg (by rw [hx]; decide)]
  simp only [↓wR, RA, simprocAttr, TF, h, rdataWriteF, hd]
  rw [boolK_d]; refine ⟨fun h2 => ?_, fun h2 => ?_⟩
  · rw [if_pos (by omega)]
    simp only [↓wR, RA, simprocAttr, TF, h2]
  · rw [if_neg (by omega)]
    simp only [↓wR, RA, simprocAttr, TF, h2]
noncomputable def dataCheckF (x : UInt16 × RData × Unit) : Option AV := if smallD x.2.1 then some ((r1 (codInt .i64)).E true (dataErr x.1 x.2.1)) else none
set_option maxRecDepth 2000000 in
theorem dataCheck_pure (x : UInt16 × RData × Unit) (r : AV) (h : dataCheckF x = some r) : CallPure PP 56 ((aC codU16 (aC codData a0)).E x) r := by
  by_cases hc : smallD x.2.1
  case neg => simp only [dataCheckF, if_neg hc] at h; cases h
  simp only [dataCheckF, if_pos hc] at h
  cases h
  exact callPure_wl (TabOk.cons (pure_entry barred_pure) (TabOk.cons (pure_entry shapedC_pure) (TabOk.cons (pure_entry fitsC_pure) (TabOk.cons (pure_entry nameCheck_pure) (TabOk.cons (pure_entry rdataWrite_pure) (TabOk.nil PP)))))) Tryz.func56 (by kernel_rfl) (by kernel_rfl) (by kernel_rfl) (Nat.le_of_ble_eq_true (by kernel_rfl)) (r1 (codInt .i64)) true (dataErr x.1 x.2.1) (dataCheck_wl x.1 x.2.1 hc)
noncomputable abbrev dataCheck : Nat × Bool × (List AV → M AV) := (56, true, pureM (aC codU16 (aC codData a0)) dataCheckF)
noncomputable def bytesD (t : UInt16) (d : RData) : List UInt8 := if dataErr t d ≠ 0 then [] else writeV t d
theorem dataBytes_wl (t : UInt16) (d : RData) (hd : smallD d) : wl PP [dataCheck, rdataWrite] 0 (Tryz.f83.body.getD .skip) (retQ PP Tryz.f83.results.toList (fun r st => (r2 (codL codU8) (codInt .i64)).get true st.h r = some (bytesD t d, dataErr t d))) (argsL 0 [codU16.val false t, codData.val false d]) (stK []) := by
  unfold Tryz.f83
  simp only [codData_val, codName_val]
  simp only [↓wR, RA, simprocAttr, TF, dataCheckF, hd]
  unfold bytesD
  rw [boolK_b]; refine ⟨fun h => ?_, fun h => ?_⟩
  · have he : dataErr t d ≠ 0 := by simpa using h
    rw [if_pos he]
    simp only [↓wR, RA, simprocAttr, TF, h]
  · have he : dataErr t d = 0 := by simpa using h
    rw [if_neg (by omega)]
    simp only [↓wR, RA, simprocAttr, TF, h, rdataWriteF, hd, he]
noncomputable def dataBytesF (x : UInt16 × RData × Unit) : Option AV := if smallD x.2.1 then some ((r2 (codL codU8) (codInt .i64)).E true ((bytesD x.1 x.2.1, dataErr x.1 x.2.1))) else none
set_option maxRecDepth 2000000 in
theorem dataBytes_pure (x : UInt16 × RData × Unit) (r : AV) (h : dataBytesF x = some r) : CallPure PP 83 ((aC codU16 (aC codData a0)).E x) r := by
  by_cases hc : smallD x.2.1
  case neg => simp only [dataBytesF, if_neg hc] at h; cases h
  simp only [dataBytesF, if_pos hc] at h
  cases h
  exact callPure_wl (TabOk.cons (pure_entry dataCheck_pure) (TabOk.cons (pure_entry rdataWrite_pure) (TabOk.nil PP))) Tryz.func83 (by kernel_rfl) (by kernel_rfl) (by kernel_rfl) (Nat.le_of_ble_eq_true (by kernel_rfl)) (r2 (codL codU8) (codInt .i64)) true ((bytesD x.1 x.2.1, dataErr x.1 x.2.1)) (dataBytes_wl x.1 x.2.1 hc)
noncomputable abbrev dataBytes : Nat × Bool × (List AV → M AV) := (83, true, pureM (aC codU16 (aC codData a0)) dataBytesF)
end Go.Proofs.YtcndpdkcagkdaabGreat
end
section
set_option linter.unusedSimpArgs false
set_option linter.unusedVariables false
namespace Go.Proofs.YtcndpdkcagkdaabGreat
open Go.Vm
set_option maxRecDepth 2000000
theorem bcmp_call (args : List AV) : CallG PP 99 args (Cx.compareE args) :=
  Cx.compare_call (fn := (PP.funcs[99]?).getD default) (by kernel_rfl) (by kernel_rfl) (by kernel_rfl) (by kernel_rfl) (by kernel_rfl) args
noncomputable abbrev bcmp : Nat × Bool × (List AV → M AV) := (99, true, Cx.compareE)
theorem bcmp_ok : TabOk PP [bcmp] := TabOk.cons bcmp_call (TabOk.nil PP)
noncomputable def cmpB (a b : List UInt8) : Int := Lib.compareBytes a b
theorem bytesCompare_wl (a b : List UInt8) : wl PP [bcmp] 0 (Tryz.f85.body.getD .skip) (retQ PP Tryz.f85.results.toList (fun r st => (r1 (codInt .i64)).get true st.h r = some (cmpB a b))) (argsL 0 [(codL codU8).val false a, (codL codU8).val false b]) (stK []) := by
  unfold Tryz.f85
  simp only [codL_val]
  simp only [↓wR, RA, simprocAttr, TF, cmpB]
noncomputable def bytesCompareF (x : List UInt8 × List UInt8 × Unit) : Option AV := some ((r1 (codInt .i64)).E true (cmpB x.1 x.2.1))
theorem bytesCompare_pure (x : List UInt8 × List UInt8 × Unit) (r : AV) (h : bytesCompareF x = some r) : CallPure PP 85 ((aC (codL codU8) (aC (codL codU8) a0)).E x) r := by
  cases h
  exact callPure_wl bcmp_ok Tryz.func85 (by kernel_rfl) (by kernel_rfl) (by kernel_rfl) (Nat.le_of_ble_eq_true (by kernel_rfl)) (r1 (codInt .i64)) true (cmpB x.1 x.2.1) (bytesCompare_wl x.1 x.2.1)
noncomputable abbrev bytesCompare : Nat × Bool × (List AV → M AV) := (85, true, pureM (aC (codL codU8) (aC (codL codU8) a0)) bytesCompareF)
theorem fold_size (s : ByteArray) : (fold s).size = s.size := by
  show (s.data.toList.map low).toArray.size = s.data.size
  simp
theorem nameSize_foldN (n : Name) : nameSize (foldN n) = nameSize n := by
  unfold nameSize foldN
  rw [List.foldl_map]
  simp only [fold_size]
theorem wtL_foldN (l : List Name) : wtL nameSize (l.map foldN) = wtL nameSize l := by
  induction l with
  | nil => rfl
  | cons a l ih => simp only [wtL, List.map_cons, List.foldr_cons, nameSize_foldN] at ih ⊢; rw [ih]
theorem smallD.fold {d : RData} (h : smallD d) (t : UInt16) : smallD (foldD t d) := by
  unfold foldD
  split
  · unfold smallD wtD at *
    simp only [wtL_foldN]; exact h
  · exact h
noncomputable def cmpD (t : UInt16) (a b : RData) : Int := if dataErr t (foldD t a) ≠ 0 ∨ dataErr t (foldD t b) ≠ 0 then 0 else cmpB (bytesD t (foldD t a)) (bytesD t (foldD t b))
noncomputable def sameD (t : UInt16) (a b : RData) : Bool := decide (dataErr t a = 0) && decide (dataErr t b = 0) && decide (cmpD t a b = 0)
theorem dataCompare_wl (t : UInt16) (a b : RData) (ha : smallD a) (hb : smallD b) : wl PP [dataFold, dataBytes, bytesCompare] 0 (Tryz.f63.body.getD .skip) (retQ PP Tryz.f63.results.toList (fun r st => (r1 (codInt .i64)).get true st.h r = some (cmpD t a b))) (argsL 0 [codU16.val false t, codData.val false a, codData.val false b]) (stK []) := by
  have fa := ha.fold t
  have fb := hb.fold t
  unfold Tryz.f63
  simp only [codData_val, codName_val]
  simp only [↓wR, RA, simprocAttr, TF, dataFoldF, dataBytesF, bytesCompareF, ha, hb, fa, fb]
  unfold cmpD
  rw [boolK_b]; refine ⟨fun h => ?_, fun h => ?_⟩
  · have he : dataErr t (foldD t a) ≠ 0 := by simpa using h
    rw [if_pos (.inl he)]
    simp only [↓wR, RA, simprocAttr, TF, h]
  have he : dataErr t (foldD t a) = 0 := by simpa using h
  simp only [↓wR, RA, simprocAttr, TF, h]
  rw [boolK_b]; refine ⟨fun h2 => ?_, fun h2 => ?_⟩
  · have he2 : dataErr t (foldD t b) ≠ 0 := by simpa using h2
    rw [if_pos (.inr he2)]
    simp only [↓wR, RA, simprocAttr, TF, h2]
  · have he2 : dataErr t (foldD t b) = 0 := by simpa using h2
    rw [if_neg (by omega)]
    simp only [↓wR, RA, simprocAttr, TF, h2, bytesCompareF]
noncomputable def dataCompareF (x : UInt16 × RData × RData × Unit) : Option AV := if smallD x.2.1 ∧ smallD x.2.2.1 then some ((r1 (codInt .i64)).E true (cmpD x.1 x.2.1 x.2.2.1)) else none
set_option maxRecDepth 2000000 in
theorem dataCompare_pure (x : UInt16 × RData × RData × Unit) (r : AV) (h : dataCompareF x = some r) : CallPure PP 63 ((aC codU16 (aC codData (aC codData a0))).E x) r := by
  by_cases hc : smallD x.2.1 ∧ smallD x.2.2.1
  case neg => simp only [dataCompareF, if_neg hc] at h; cases h
  simp only [dataCompareF, if_pos hc] at h
  cases h
  exact callPure_wl (TabOk.cons (pure_entry dataFold_pure) (TabOk.cons (pure_entry dataBytes_pure) (TabOk.cons (pure_entry bytesCompare_pure) (TabOk.nil PP)))) Tryz.func63 (by kernel_rfl) (by kernel_rfl) (by kernel_rfl) (Nat.le_of_ble_eq_true (by kernel_rfl)) (r1 (codInt .i64)) true (cmpD x.1 x.2.1 x.2.2.1) (dataCompare_wl x.1 x.2.1 x.2.2.1 hc.1 hc.2)
noncomputable abbrev dataCompare : Nat × Bool × (List AV → M AV) := (63, true, pureM (aC codU16 (aC codData (aC codData a0))) dataCompareF)
theorem dataSame_wl (t : UInt16) (a b : RData) (ha : smallD a) (hb : smallD b) : wl PP [dataCheck, dataCompare] 0 (Tryz.f74.body.getD .skip) (retQ PP Tryz.f74.results.toList (fun r st => (r1 codBool).get true st.h r = some (sameD t a b))) (argsL 0 [codU16.val false t, codData.val false a, codData.val false b]) (stK []) := by
  unfold Tryz.f74
  simp only [codData_val, codName_val]
  simp only [↓wR, RA, simprocAttr, TF, dataCheckF, ha, hb]
  unfold sameD
  rw [boolK_eqI]; refine ⟨fun ⟨h, e⟩ => ?_, fun ⟨h, e⟩ => ?_⟩
  · rw [decide_eq_true e]
    simp only [↓wR, RA, simprocAttr, TF, h, dataCheckF, ha, hb]
    rw [boolK_eqI]; refine ⟨fun ⟨h2, e2⟩ => ?_, fun ⟨h2, e2⟩ => ?_⟩
    · rw [decide_eq_true e2]
      simp only [↓wR, RA, simprocAttr, TF, h2, dataCompareF, ha, hb]
      rfl
    · rw [decide_eq_false e2]
      simp only [↓wR, RA, simprocAttr, TF, h2]
      rfl
  · rw [decide_eq_false e]
    simp only [↓wR, RA, simprocAttr, TF, h]
    rfl
noncomputable def dataSameF (x : UInt16 × RData × RData × Unit) : Option AV := if smallD x.2.1 ∧ smallD x.2.2.1 then some ((r1 codBool).E true (sameD x.1 x.2.1 x.2.2.1)) else none
set_option maxRecDepth 2000000 in
theorem dataSame_pure (x : UInt16 × RData × RData × Unit) (r : AV) (h : dataSameF x = some r) : CallPure PP 74 ((aC codU16 (aC codData (aC codData a0))).E x) r := by
  by_cases hc : smallD x.2.1 ∧ smallD x.2.2.1
  case neg => simp only [dataSameF, if_neg hc] at h; cases h
  simp only [dataSameF, if_pos hc] at h
  cases h
  exact callPure_wl (TabOk.cons (pure_entry dataCheck_pure) (TabOk.cons (pure_entry dataCompare_pure) (TabOk.nil PP))) Tryz.func74 (by kernel_rfl) (by kernel_rfl) (by kernel_rfl) (Nat.le_of_ble_eq_true (by kernel_rfl)) (r1 codBool) true (sameD x.1 x.2.1 x.2.2.1) (dataSame_wl x.1 x.2.1 x.2.2.1 hc.1 hc.2)
noncomputable abbrev dataSame : Nat × Bool × (List AV → M AV) := (74, true, pureM (aC codU16 (aC codData (aC codData a0))) dataSameF)
end Go.Proofs.YtcndpdkcagkdaabGreat
end
section
set_option linter.unusedSimpArgs false
set_option linter.unusedVariables false
set_option maxRecDepth 100000
namespace Go.Vm
noncomputable section
theorem dec_one {α : Type} (C : Cod α) (fr : Bool) (h : Tr AObj) (l : List AV) (ha : C.agg = true) : C.dec fr h l = C.decV fr h (.agg l) := by
  rw [decV_one _ _ _ _ rfl (by rw [ha]; rfl)]; rfl
theorem decP {α β : Type} (A : Cod α) (B : Cod β) (fr : Bool) (h : Tr AObj) (l : List AV) : (codP A B).dec fr h l = match A.dec fr h (l.take A.sz), B.dec fr h (l.drop A.sz) with | some x, some y => some (x, y) | _, _ => none := rfl
theorem decL1 {α : Type} (C : Cod α) (fr h) (x : AV) : (codL C).dec fr h [x] = decS C fr h x := rfl
theorem decN1 (fr h) (x : AV) : codName.dec fr h [x] = decS codStr fr h x := rfl
theorem loopI_of_g {P : Program} {T : Tab} {l : Nat} {pin : Nat} {L : SL} {st : St} {Q : QI} {ps : List Tmp} {ra rb : Code} {L0 : SL} {α : Type} {b : Code} (keep : List Nat) (V : α → List AV) (O : α → List (Option AObj)) (I : α → Prop) (μ : α → Nat) (x : α) (hx : I x)
    (hv : WkV pin (canonV pin keep L st) (canonO pin keep L st) (V x) (O x))
    (step : ∀ x, I x → wlI P T l (roundC ps (fun p => wl P T p ra) (fun p => wl P T p rb) L0) pin b (headI (headQ pin keep (fun vs os => ∃ y, I y ∧ μ y < μ x ∧ vs = V y ∧ os = O y) (fun _ _ _ => False)) Q) none (zipK keep (V x)) (stK (O x))) : wlI P T l (roundC ps (fun p => wl P T p ra) (fun p => wl P T p rb) L0) pin (.loop b) Q none L st := by
  have mono : ∀ (Q1 Q2 : QL), (∀ e L st, Q1 e L st → Q2 e L st) → ∀ L st, wlI P T l (roundC ps (fun p => wl P T p ra) (fun p => wl P T p rb) L0) pin b (headI Q1 Q) none L st → wlI P T l (roundC ps (fun p => wl P T p ra) (fun p => wl P T p rb) L0) pin b (headI Q2 Q) none L st := fun Q1 Q2 h L st hh => wlI_mono (roundC_mono P T) b _ _ (fun e pe L st q => by
    cases e with
    | normal => exact ⟨q.1, h _ _ _ q.2⟩
    | ret => exact q
    | exit i => exact q) none L st hh
  refine ⟨rfl, LoopL.of_w (B := fun Q' L st => wlI P T l _ pin b (headI Q' Q) none L st) keep V O I μ x hx hv mono (fun x hi => mono _ _ (fun e L' st' hq => ?_) _ _ (step x hi))⟩
  cases e with
  | normal =>
    obtain ⟨y, h1, h2, h3, h4⟩ := hq
    refine ⟨y, h1, h2, ?_⟩
    rw [h3, h4]; exact .refl _ _ _
  | exit i => exact hq.elim
  | ret => exact hq.elim
theorem decRow_codInt (k fr h n cells kk st et) (hn : n = cells.length) : decRow (codInt k) fr h 0 n (.row cells kk st et) = dec1 (codInt k) fr h cells := decRow_one (codInt k) rfl fr h n cells kk st et hn
def cjN (n : Nat) (r : AV) (st : St) : List Nat := reach st.h reachFuel (r.names ++ namesAt st.h (fromTo 0 n)) (fromTo 0 n)
def cjV (n : Nat) (r : AV) (st : St) : AV := r.ren (fun o => idx (cjN n r st) o 0)
def cjS (n : Nat) (r : AV) (st : St) : St := stK (getObj' st.h (fun o => idx (cjN n r st) o 0) (cjN n r st))
theorem join_ok {g g' : Gh} {st st' : St} {w w' : World} {r : AV} {v : Value} (hn : st.nx ≤ 1000) (hfr : ∀ o, st.nx ≤ o → g.inj o = none) (hs : Step g st.h w st.nx st'.nx g' st'.h w') (hok : Ok g' st'.h w') (hr : Rel g' w' r v) :
    ∃ g'', st.nx ≤ (cjS st.nx r st').nx ∧ Step g st.h w st.nx (cjS st.nx r st').nx g'' (cjS st.nx r st').h w' ∧ Ok g'' (cjS st.nx r st').h w' ∧ Rel g'' w' (cjV st.nx r st') v := by
  have hN := reach_acc st'.h reachFuel (r.names ++ namesAt st'.h (fromTo 0 st.nx)) (fromTo 0 st.nx) (fromTo_nodup _ _)
  change (cjN st.nx r st').Nodup ∧ (∃ q, cjN st.nx r st' = fromTo 0 st.nx ++ q) ∧ (cjN st.nx r st').length ≤ _ at hN
  have hτ : ∀ o p, (fun o => idx (cjN st.nx r st') o 0) o = some p → (cjN st.nx r st')[p]? = some o := fun o p h => idx_tau _ o p h
  unfold cjS cjV
  generalize cjN st.nx r st' = N at hN hτ
  obtain ⟨hnd, ⟨rest, hpre⟩, hlen⟩ := hN
  rw [fromTo_length] at hlen
  have hlim : N.length ≤ limit := by simp only [reachFuel, limit] at *; omega
  have hget : ∀ i x, (stK (getObj' st'.h (fun o => idx N o 0) N)).h.get i = some x → ∃ o y, N[i]? = some o ∧ st'.h.get o = some y ∧ y.ren (fun o => idx N o 0) = some x := by
    intro i x hx
    simp only [stK] at hx
    rw [heapK_get _ _ _ (by rw [getObj_length]; omega), if_pos (Nat.zero_le _), Nat.sub_zero, getObj_get] at hx
    cases hi : N[i]? with
    | none => rw [hi] at hx; cases hx
    | some o =>
      rw [hi] at hx
      simp only [Option.map_some, Option.join_some] at hx
      cases hy : st'.h.get o with
      | none => rw [hy] at hx; cases hx
      | some y => rw [hy] at hx; exact ⟨o, y, rfl, hy, hx⟩
  have hinj : ∀ i o, N[i]? = some o → (g'.ren N).inj i = g'.inj o := fun i o h => by simp [Gh.ren, h]
  have hlow : ∀ o, o < st.nx → N[o]? = some o := fun o ho => by rw [hpre, List.getElem?_append_left (by rw [fromTo_length]; exact ho), fromTo_get _ _ _ ho, Nat.zero_add]
  have hnx : (stK (getObj' st'.h (fun o => idx N o 0) N)).nx = N.length := by simp only [stK, getObj_length]
  have hle : st.nx ≤ N.length := by rw [hpre, List.length_append, fromTo_length]; omega
  rw [hnx]
  refine ⟨g'.ren N, hle, ⟨⟨hs.ext.b0, fun o p ho => ?_, hs.ext.K, hs.ext.cell, hs.ext.blk, hs.ext.lp⟩, hs.size, hs.os, hs.tape, hs.output, hs.frame, fun o ho hr => ?_, fun i b base hi hj => ?_, hs.Kold⟩, ⟨hok.size, fun i x hx => ?_, fun i j x y b base base' hij hx hy hb hb' => ?_, hok.K⟩, hr.ren hτ⟩
  · have hlt : o < st.nx := by
      rcases Nat.lt_or_ge o st.nx with h | h
      · exact h
      · rw [hfr o h] at ho; cases ho
    rw [hinj o o (hlow o hlt)]; exact hs.ext.inj o p ho
  · rcases Nat.lt_or_ge o st.nx with h | h
    · rw [hinj o o (hlow o h)]; exact hs.fresh o ho (by omega)
    · simp [Gh.ren, List.getElem?_eq_none (show N.length ≤ o by omega)]
  · obtain ⟨x, hx⟩ := Option.isSome_iff_exists.1 hi
    obtain ⟨o, y, h1, h2, _⟩ := hget i x hx
    rw [hinj i o h1] at hj
    exact hs.own o b base (by rw [h2]; rfl) hj
  · obtain ⟨o, y, h1, h2, h3⟩ := hget i x hx
    refine (hok.obj' o y h2).imp (fun q => ⟨by rw [hinj i o h1]; exact q.1, by obtain ⟨s0, e0, rfl⟩ := q.2; simp only [AObj.ren, AV.ren.go, Option.some.injEq] at h3; exact ⟨s0, e0, h3.symm⟩⟩) ?_
    rintro ⟨b, base, q1, q2, q3⟩
    exact ⟨b, base, by rw [hinj i o h1]; exact q1, q2, q3.ren hτ h3⟩
  · obtain ⟨o, y1, h1, h2, _⟩ := hget i x hx
    obtain ⟨o', y2, h1', h2', _⟩ := hget j y hy
    rw [hinj i o h1] at hb
    rw [hinj j o' h1'] at hb'
    have hne : o ≠ o' := by
      intro e
      subst e
      obtain ⟨hi, ei⟩ := List.getElem?_eq_some_iff.1 h1
      obtain ⟨hj, ej⟩ := List.getElem?_eq_some_iff.1 h1'
      exact hij ((List.getElem_inj hnd).1 (ei.trans ej.symm))
    exact hok.sep o o' _ _ b base base' hne h2 h2' hb hb'
theorem callAt_join {P : Program} {f : Nat} {args : List AV} {st : St} {R : AV → St → Prop} (R0 : AV → St → Prop) (hn : Nat.ble st.nx 1000 = true) (h1 : CallAt P f args st (fun r st' => R0 (cjV st.nx r st') (cjS st.nx r st'))) (h2 : ∀ r st', R0 r st' → R r st') : CallAt P f args st R := by
  intro g w vs hok hfr hrel
  rcases h1 g w vs hok hfr hrel with ⟨v, w', g', r, st', q1, q2, q3, q4, q5, q6⟩ | ⟨q1, q2⟩
  · obtain ⟨g'', p1, p2, p3, p4⟩ := join_ok (Nat.le_of_ble_eq_true hn) hfr q4 q5 q6
    exact .inl ⟨v, w', g'', _, _, q1, h2 _ _ q2, p1, p2, p3, p4⟩
  · refine .inr ⟨q1, q2.mono ?_⟩
    rintro e w' ⟨v, g', r, st', rfl, q2, q3, q4, q5, q6⟩
    obtain ⟨g'', p1, p2, p3, p4⟩ := join_ok (Nat.le_of_ble_eq_true hn) hfr q4 q5 q6
    exact ⟨v, g'', _, _, rfl, h2 _ _ q2, p1, p2, p3, p4⟩
theorem sliceLen_name (l) (n : Name) : sliceLen (codName.val l n) = some n.length := by
  rw [codName_val]; show some (List.map (codStr.val l) n).length = _; rw [List.length_map]
theorem slOps_h (a b : Operand) : (#[a] ++ (none : Option Operand).toArray ++ (some b).toArray ++ (none : Option Operand).toArray).toList = [a, b] := id rfl
theorem dv4 : 4 / 4 = 1 := rfl
theorem dv5 : 5 / 5 = 1 := rfl
theorem dec_int (k fr h n) : (codInt k).dec fr h [.sc (.int k n)] = some n := (codInt k).rt fr h true n (fun _ => rfl)
theorem codData_cells (l : Bool) (d : RData) : (codData.val l d).cells = [.vl l 1 (d.names.map (codName.val l)), .vl l 1 (d.nums.map (codU32.val l)), .vl l 1 (d.texts.map (codStr.val l)), .vl l 1 (d.raw.map (codU8.val l))] := id rfl
theorem decS_codName (fr h l) (n : Name) (hl : (l || !fr) = true) : decS codStr fr h (codName.val l n) = some n := decS_vl codStr fr h l n 1 rfl hl
def ptrRow {α : Type} (C : Cod α) (h : Tr AObj) (off : Nat) (x : AObj) : Option α :=
  match x with
  | .row cells _ _ _ => bif Nat.ble (off + C.sz) cells.length then C.dec false h ((cells.drop off).take C.sz) else none
  | _ => none
def ptrD {α : Type} (C : Cod α) (h : Tr AObj) (a : AV) : Option α :=
  match a with
  | .cptr l => bif Nat.ble C.sz l.length then C.dec false h (l.take C.sz) else none
  | .ptr o off => (h.get o).bind (ptrRow C h off)
  | _ => none
theorem ptrD_ptr {α : Type} (C : Cod α) (h o off) : ptrD C h (.ptr o off) = (h.get o).bind (ptrRow C h off) := id rfl
theorem ptrD_cptr {α : Type} (C : Cod α) (h l) : ptrD C h (.cptr l) = bif Nat.ble C.sz l.length then C.dec false h (l.take C.sz) else none := id rfl
theorem ptrRow_r {α : Type} (C : Cod α) (h off cells k s e) : ptrRow C h off (.row cells k s e) = bif Nat.ble (off + C.sz) cells.length then C.dec false h ((cells.drop off).take C.sz) else none := id rfl
theorem ptrD_ok {α : Type} (C : Cod α) {g h w K b0 a v x} (hok : Ok g h w) (hl : Lends g h K) (hr : Rel g w a v) (hd : ptrD C h a = some x) : Rel (gK b0 K) w (.cptr (C.cells false x)) v := by
  have fin : ∀ (b off : Nat) (vs : List Value), RelL g w ((C.cells false x).map fun _ => AV.bad) vs → RelL (gK b0 K) w (C.cells false x) vs → (∀ j u, vs[j]? = some u → K b (off + j) ∧ w.cell? ⟨b, off + j, none⟩ = some u) → Rel (gK b0 K) w (.cptr (C.cells false x)) (.pointer (some ⟨b, off, none⟩)) := by
    intro b off vs _ hrl hc
    refine .cptr _ b off (fun j => vs.getD j undef) (fun j a hj => ?_) (fun j a hj => ?_)
    · obtain ⟨u, hu, _⟩ := hrl.get hj
      have := hc j u hu
      exact ⟨this.1, by rw [this.2, List.getD_eq_getElem?_getD, hu]; rfl⟩
    · obtain ⟨u, hu, hrel⟩ := hrl.get hj
      show Rel _ _ a (vs.getD j undef)
      rw [List.getD_eq_getElem?_getD, hu]; exact hrel
  have bads : ∀ vs : List Value, RelL (gK b0 K) w (C.cells false x) vs → RelL g w ((C.cells false x).map fun _ => AV.bad) vs := fun vs h => ⟨by simpa using h.1, fun i a v ha _ => by
    rw [List.getElem?_map, Option.map_eq_some_iff] at ha
    obtain ⟨_, _, rfl⟩ := ha
    exact .bad _⟩
  cases hr with
  | cptr l b off c h1 h2 =>
    rw [ptrD_cptr] at hd
    cases hb : Nat.ble C.sz l.length with
    | false => rw [hb] at hd; cases hd
    | true =>
      rw [hb, cond_true] at hd
      have hle := Nat.le_of_ble_eq_true hb
      have hlist : RelL g w (l.take C.sz) (valsOf 0 C.sz c) := by
        refine ⟨by simp [valsOf]; omega, fun i a v ha hv => ?_⟩
        rw [List.getElem?_take] at ha
        by_cases hi : i < C.sz
        · rw [if_pos hi] at ha
          simp only [valsOf, List.getElem?_map, List.getElem?_range hi, Option.map_some, Option.some.injEq, Nat.zero_add] at hv
          subst hv
          exact h2 i a ha
        · rw [if_neg hi] at ha; cases ha
      have q := C.ok (b0 := b0) hok hl (fun e => by cases e) hlist hd
      refine fin b off _ (bads _ q) q (fun j u hu => ?_)
      have hj : j < C.sz := by have := (List.getElem?_eq_some_iff.1 hu).1; simpa [valsOf] using this
      simp only [valsOf, List.getElem?_map, List.getElem?_range hj, Option.map_some, Option.some.injEq, Nat.zero_add] at hu
      subst hu
      have := h1 j _ (List.getElem?_eq_getElem (by omega))
      exact ⟨hl.K _ _ this.1, this.2⟩
  | ptr o off b base hi =>
    rw [ptrD_ptr, Option.bind_eq_some_iff] at hd
    obtain ⟨y, hy, hd⟩ := hd
    obtain ⟨b', base', hi', hbb, hrow⟩ := hok.obj o y hy
    rw [hi] at hi'; cases hi'
    cases y with
    | map es => cases hd
    | loop => cases hd
    | row cells k st et =>
      rw [ptrRow_r] at hd
      cases hle : Nat.ble (off + C.sz) cells.length with
      | false => rw [hle] at hd; cases hd
      | true =>
        rw [hle, cond_true] at hd
        have hle' := Nat.le_of_ble_eq_true hle
        obtain ⟨cs, fz, r1, r2, r3, _⟩ := hrow
        have hpart : RelL g w ((cells.drop off).take C.sz) (valsOf (base + off) C.sz (fun j => cs.getD j undef)) := by
          refine ⟨by simp [valsOf]; omega, fun i a v ha hv => ?_⟩
          rw [List.getElem?_take, List.getElem?_drop] at ha
          by_cases hil : i < C.sz
          · rw [if_pos hil] at ha
            obtain ⟨u, hu, hrel⟩ := r3 _ a ha
            simp only [valsOf, List.getElem?_map, List.getElem?_range hil, Option.map_some, Option.some.injEq] at hv
            subst hv
            rw [Array.getD_eq_getD_getElem?, Nat.add_assoc, hu]
            exact hrel
          · rw [if_neg hil] at ha; cases ha
        have q := C.ok (b0 := b0) hok hl (fun e => by cases e) hpart hd
        refine fin b (base + off) _ (bads _ q) q (fun j u hv => ?_)
        have hj : j < C.sz := by have := (List.getElem?_eq_some_iff.1 hv).1; simpa [valsOf] using this
        simp only [valsOf, List.getElem?_map, List.getElem?_range hj, Option.map_some, Option.some.injEq] at hv
        obtain ⟨u, hu, _⟩ := r3 (off + j) (cells[off + j]'(by omega)) (by simp)
        have hrows := hl.rows o cells k st et hy b base hi (off + j) (by omega)
        rw [← Nat.add_assoc] at hrows hu
        refine ⟨hrows, ?_⟩
        rw [cell_eq r1, hu, ← hv, Array.getD_eq_getD_getElem?, hu]
        rfl
  | _ => cases hd
def aP {α β : Type} (C : Cod α) (R : AC β) : AC (α × β) where
  E p := .cptr (C.cells false p.1) :: R.E p.2
  D h l := match l with
    | [] => none
    | a :: r => match ptrD C h a, R.D h r with
      | some x, some y => some (x, y)
      | _, _ => none
  rt h p := by
    have : ptrD C h (.cptr (C.cells false p.1)) = some p.1 := by
      rw [ptrD_cptr, C.len, Nat.ble_self_eq_true, cond_true, List.take_of_length_le (by rw [C.len]; exact Nat.le_refl _)]
      exact C.rt false h false p.1 (fun e => by cases e)
    simp only [this, R.rt]
  ok := by
    intro g h w K b0 l vs x hok hl hr hd
    match l, hd with
    | a :: r, hd =>
      simp only at hd
      split at hd
      · rename_i x1 y1 hx hy
        simp at hd; subst hd
        match vs, hr with
        | [], hr => have := hr.1; simp at this
        | v :: vs, hr => exact RelL.cons (ptrD_ok C hok hl hr.head hx) (R.ok hok hl hr.tail hy)
      · cases hd
theorem aP_D {α β : Type} (C : Cod α) (R : AC β) (h : Tr AObj) (a : AV) (r : List AV) : (aP C R).get h (a :: r) = match ptrD C h a, R.get h r with | some x, some y => some (x, y) | _, _ => none := id rfl
theorem cells_codData (f) (l : List RData) (d : RData) : cellsOf codData f (l ++ [d]) = cellsOf codData f l ++ [.vl f 1 (d.names.map (codName.val f)), .vl f 1 (d.nums.map (codU32.val false)), .vl f 1 (d.texts.map (codStr.val false)), .vl f 1 (d.raw.map (codU8.val false))] := by rw [cellsOf_app, cellsOf_one]; rfl
structure RSet where
  owner : Name
  type : UInt16
  cls : UInt16
  ttl : UInt32
  data : List RData
def mkS (owner : Name) (type : UInt16) (cls : UInt16) (ttl : UInt32) (data : List RData) : RSet := ⟨owner, type, cls, ttl, data⟩
theorem mkS_eta (x : RSet) : mkS x.owner x.type x.cls x.ttl x.data = x := id rfl
def codSet : Cod RSet := codIso (codP codName (codP codU16 (codP codU16 (codP codU32 (codL codData))))) (fun x => (x.owner, x.type, x.cls, x.ttl, x.data)) (fun p => ⟨p.1, p.2.1, p.2.2.1, p.2.2.2.1, p.2.2.2.2⟩) (fun _ => rfl) (fun _ => rfl)
theorem codSet_val (l : Bool) (x : RSet) : codSet.val l x = .agg [.vl l 1 (x.owner.map (codStr.val l)), .sc (.int .u16 x.type.toNat), .sc (.int .u16 x.cls.toNat), .sc (.int .u32 x.ttl.toNat), .vl l 4 (x.data.map (codData.val l))] := id rfl
theorem codSet_sz : codSet.sz = 5 := id rfl
theorem codSet_dec (fr : Bool) (h : Tr AObj) (y0 y1 y2 y3 y4 : AV) : codSet.decV fr h (.agg [y0, y1, y2, y3, y4]) = match decS codStr fr h y0, codU16.dec fr h [y1], codU16.dec fr h [y2], codU32.dec fr h [y3], decS codData fr h y4 with
    | some v0, some v1, some v2, some v3, some v4 => some (mkS v0 v1 v2 v3 v4)
    | _, _, _, _, _ => none := by
  rw [decV_one _ _ _ _ rfl rfl]
  have h1 : codSet.dec fr h (AV.agg [y0, y1, y2, y3, y4]).cells = Option.map (fun p => (⟨p.1, p.2.1, p.2.2.1, p.2.2.2.1, p.2.2.2.2⟩ : RSet)) ((codP codName (codP codU16 (codP codU16 (codP codU32 (codL codData))))).dec fr h [y0, y1, y2, y3, y4]) := rfl
  rw [h1]
  simp only [decP, codL_sz, codName_sz, codU16_sz, codU32_sz, codBool_sz, codInt_sz, List.take_succ_cons, List.take_zero, List.drop_succ_cons, List.drop_zero, decL1, decN1]
  cases (decS codStr fr h y0) <;> cases (codU16.dec fr h [y1]) <;> cases (codU16.dec fr h [y2]) <;> cases (codU32.dec fr h [y3]) <;> cases (decS codData fr h y4) <;> rfl
theorem cells_codSet (l) (xs : List RSet) (x : RSet) : cellsOf codSet l (xs ++ [x]) = cellsOf codSet l xs ++ [.vl l 1 (x.owner.map (codStr.val false)), .sc (.int .u16 x.type.toNat), .sc (.int .u16 x.cls.toNat), .sc (.int .u32 x.ttl.toNat), .vl l 4 (x.data.map (codData.val l))] := by rw [cellsOf_app, cellsOf_one]; rfl
structure RZone where
  origin : Name
  sets : List RSet
def mkZ (origin : Name) (sets : List RSet) : RZone := ⟨origin, sets⟩
theorem mkZ_eta (x : RZone) : mkZ x.origin x.sets = x := id rfl
def codZone : Cod RZone := codIso (codP codName (codL codSet)) (fun x => (x.origin, x.sets)) (fun p => ⟨p.1, p.2⟩) (fun _ => rfl) (fun _ => rfl)
theorem codZone_val (l : Bool) (x : RZone) : codZone.val l x = .agg [.vl l 1 (x.origin.map (codStr.val l)), .vl l 5 (x.sets.map (codSet.val l))] := id rfl
theorem codZone_cellsx (l : Bool) (x : RZone) : codZone.cells l x = [.vl l 1 (x.origin.map (codStr.val l)), .vl l 5 (x.sets.map (codSet.val l))] := id rfl
theorem codZone_sz : codZone.sz = 2 := id rfl
theorem codZone_dec (fr : Bool) (h : Tr AObj) (y0 y1 : AV) : codZone.decV fr h (.agg [y0, y1]) = match decS codStr fr h y0, decS codSet fr h y1 with
    | some v0, some v1 => some (mkZ v0 v1)
    | _, _ => none := by
  rw [decV_one _ _ _ _ rfl rfl]
  have h1 : codZone.dec fr h (AV.agg [y0, y1]).cells = Option.map (fun p => (⟨p.1, p.2⟩ : RZone)) ((codP codName (codL codSet)).dec fr h [y0, y1]) := rfl
  rw [h1]
  simp only [decP, codL_sz, codName_sz, codU16_sz, codU32_sz, codBool_sz, codInt_sz, List.take_succ_cons, List.take_zero, List.drop_succ_cons, List.drop_zero, decL1, decN1]
  cases (decS codStr fr h y0) <;> cases (decS codSet fr h y1) <;> rfl
theorem codZone_decc (fr : Bool) (h : Tr AObj) (y0 y1 : AV) : codZone.dec fr h [y0, y1] = match decS codStr fr h y0, decS codSet fr h y1 with
    | some v0, some v1 => some (mkZ v0 v1)
    | _, _ => none := (dec_one codZone fr h _ rfl).trans (codZone_dec fr h y0 y1)
structure RSpot where
  kind : Int
  node : Name
  closest : Name
def mkP (kind : Int) (node : Name) (closest : Name) : RSpot := ⟨kind, node, closest⟩
theorem mkP_kind (kind node closest) : (mkP kind node closest).kind = kind := id rfl
theorem mkP_node (kind node closest) : (mkP kind node closest).node = node := id rfl
theorem mkP_closest (kind node closest) : (mkP kind node closest).closest = closest := id rfl
def codSpot : Cod RSpot := codIso (codP (codInt .u8) (codP codName codName)) (fun x => (x.kind, x.node, x.closest)) (fun p => ⟨p.1, p.2.1, p.2.2⟩) (fun _ => rfl) (fun _ => rfl)
theorem codSpot_val (l : Bool) (x : RSpot) : codSpot.val l x = .agg [.sc (.int .u8 x.kind), .vl l 1 (x.node.map (codStr.val l)), .vl l 1 (x.closest.map (codStr.val l))] := id rfl
theorem codSpot_dec (fr : Bool) (h : Tr AObj) (y0 y1 y2 : AV) : codSpot.decV fr h (.agg [y0, y1, y2]) = match (codInt .u8).dec fr h [y0], decS codStr fr h y1, decS codStr fr h y2 with
    | some v0, some v1, some v2 => some (mkP v0 v1 v2)
    | _, _, _ => none := by
  rw [decV_one _ _ _ _ rfl rfl]
  have h1 : codSpot.dec fr h (AV.agg [y0, y1, y2]).cells = Option.map (fun p => (⟨p.1, p.2.1, p.2.2⟩ : RSpot)) ((codP (codInt .u8) (codP codName codName)).dec fr h [y0, y1, y2]) := rfl
  rw [h1]
  simp only [decP, codL_sz, codName_sz, codU16_sz, codU32_sz, codBool_sz, codInt_sz, List.take_succ_cons, List.take_zero, List.drop_succ_cons, List.drop_zero, decL1, decN1]
  cases ((codInt .u8).dec fr h [y0]) <;> cases (decS codStr fr h y1) <;> cases (decS codStr fr h y2) <;> rfl
structure RLook where
  z : RZone
  e : Int
def mkL (z : RZone) (e : Int) : RLook := ⟨z, e⟩
theorem mkL_z (z e) : (mkL z e).z = z := id rfl
def codLook : Cod RLook := codIso (codP codZone (codInt .i64)) (fun x => (x.z, x.e)) (fun p => ⟨p.1, p.2⟩) (fun _ => rfl) (fun _ => rfl)
theorem codLook_cellsx (l : Bool) (x : RLook) : codLook.cells l x = [.vl l 1 (x.z.origin.map (codStr.val l)), .vl l 5 (x.z.sets.map (codSet.val l)), .sc (.int .i64 x.e)] := id rfl
theorem codLook_sz : codLook.sz = 3 := id rfl
theorem codLook_dec (fr : Bool) (h : Tr AObj) (y00 y01 y1 : AV) : codLook.decV fr h (.agg [y00, y01, y1]) = match codZone.decV fr h (.agg [y00, y01]), (codInt .i64).dec fr h [y1] with
    | some v0, some v1 => some (mkL v0 v1)
    | _, _ => none := by
  rw [decV_one _ _ _ _ rfl rfl]
  have h1 : codLook.dec fr h (AV.agg [y00, y01, y1]).cells = Option.map (fun p => (⟨p.1, p.2⟩ : RLook)) ((codP codZone (codInt .i64)).dec fr h [y00, y01, y1]) := rfl
  rw [h1]
  simp only [decP, codL_sz, codName_sz, codU16_sz, codU32_sz, codBool_sz, codInt_sz, List.take_succ_cons, List.take_zero, List.drop_succ_cons, List.drop_zero, decL1, decN1, codZone_sz, dec_one codZone fr h _ rfl]
  cases (codZone.decV fr h (.agg [y00, y01])) <;> cases ((codInt .i64).dec fr h [y1]) <;> rfl
theorem codLook_decc (fr : Bool) (h : Tr AObj) (y00 y01 y1 : AV) : codLook.dec fr h [y00, y01, y1] = match codZone.decV fr h (.agg [y00, y01]), (codInt .i64).dec fr h [y1] with
    | some v0, some v1 => some (mkL v0 v1)
    | _, _ => none := (dec_one codLook fr h _ rfl).trans (codLook_dec fr h y00 y01 y1)
theorem CD0 : type_of% @sliceLen_name ∧ type_of% @decRow_codInt ∧ type_of% @slOps_h ∧ type_of% @dv4 ∧ type_of% @dv5 ∧ type_of% @dec_int ∧ type_of% @ptrD_ptr ∧ type_of% @ptrRow_r ∧ type_of% @aP_D ∧ type_of% @decS_codName ∧ type_of% @codData_cells ∧ type_of% @cellsOf_nil ∧ type_of% @cellsOf_len ∧ type_of% @decRow_cells ∧ type_of% @mkS_eta ∧ type_of% @codSet_val ∧ type_of% @codSet_sz ∧ type_of% @codSet_dec ∧ type_of% @mkZ_eta ∧ type_of% @codZone_decc ∧ type_of% @codZone_sz ∧ type_of% @codZone_dec ∧ type_of% @mkP_kind ∧ type_of% @mkP_node ∧ type_of% @mkP_closest ∧ type_of% @codSpot_val ∧ type_of% @codSpot_dec ∧ type_of% @mkL_z ∧ type_of% @codLook_decc ∧ type_of% @codLook_sz :=
  ⟨@sliceLen_name, @decRow_codInt, @slOps_h, @dv4, @dv5, @dec_int, @ptrD_ptr, @ptrRow_r, @aP_D, @decS_codName, @codData_cells, @cellsOf_nil, @cellsOf_len, @decRow_cells, @mkS_eta, @codSet_val, @codSet_sz, @codSet_dec, @mkZ_eta, @codZone_decc, @codZone_sz, @codZone_dec, @mkP_kind, @mkP_node, @mkP_closest, @codSpot_val, @codSpot_dec, @mkL_z, @codLook_decc, @codLook_sz⟩
end
end Go.Vm
end
section
set_option linter.unusedSimpArgs false
set_option linter.unusedVariables false
namespace Go.Proofs.YtcndpdkcagkdaabGreat
open Go.Vm
set_option maxRecDepth 2000000
noncomputable def hasV (t : UInt16) (l : List RData) (d : RData) : Bool := l.any fun x => sameD t x d
theorem has_wl (t : UInt16) (l : List RData) (d : RData) (hl : ∀ x ∈ l, smallD x) (hn : l.length ≤ 16777216) (hd : smallD d) : wl PP [] 0 (Tryz.f58.body.getD .skip) (retQ PP Tryz.f58.results.toList (fun r st => (r1 codBool).get true st.h r = some (hasV t l d))) (argsL 0 [codU16.val false t, (codL codData).val false l, codData.val false d]) (stK []) := by
  unfold Tryz.f58
  simp only [codL_val, codData_val]
  simp only [↓wR, RA, simprocAttr, TF, CD0]
  refine callAt_of_wl (T := []) (TabOk.nil PP) mixed Tryz.func72 rfl (by kernel_rfl) (by kernel_rfl) (by kernel_rfl) (by kernel_rfl) ?_; unfold Tryz.f72
  simp only [↓wR, RA, simprocAttr, TF, CD0]
  refine callAt_of_wl (T := []) (TabOk.nil PP) mixed Tryz.func93 rfl (by kernel_rfl) (by kernel_rfl) (by kernel_rfl) (by kernel_rfl) ?_; unfold Tryz.f93
  simp only [↓wR, RA, simprocAttr, TF, CD0]
  refine loop_of [0, 1, 7, 8] (fun (i : Nat) => [.vl false 4 (l.map (codData.val false)), .fn (.func 73) [] [.ptr 0 0, .ptr 1 0], .sc (.int .i64 (l.length)), .sc (.int .i64 (i))]) (fun _ => [some (.row [.sc (.int .u16 t.toNat)] 0 2 45), some (.row [.vl false 1 (d.names.map (codName.val false)), .vl false 1 (d.nums.map (codU32.val false)), .vl false 1 (d.texts.map (codStr.val false)), .vl false 1 (d.raw.map (codU8.val false))] 0 2 66)]) (fun i => i ≤ l.length ∧ hasV t l d = hasV t (l.drop i) d) (fun i => l.length - i) 0 ⟨Nat.zero_le _, rfl⟩ (by simp only [↓wR, RA, simprocAttr, TF, CD0] <;> rfl) (by simp only [↓wR, RA, simprocAttr, TF, CD0] <;> rfl) ?_
  rintro i ⟨hi, hx⟩
  simp only [↓wR, RA, simprocAttr, TF, CD0]
  rw [boolK_d]; refine ⟨fun h => ?_, fun h => ?_⟩
  · obtain ⟨c, hc, hd1, hlt⟩ := at_lt (decide_eq_true h)
    have hx' : hasV t l d = (sameD t c d || hasV t (l.drop (i + 1)) d) := by rw [hx, hd1]; rfl
    simp only [↓wR, RA, simprocAttr, TF, CD0, h, hc]; repeat (simp (disch := omega) only [wrapI64, dleN, dltN, dleI, dltI]; try simp only [↓wR, RA, simprocAttr, TF, CD0, h, hc])
    refine callAt_of_wl (T := [dataSame]) (TabOk.cons (pure_entry dataSame_pure) (TabOk.nil PP)) mixed Tryz.func73 rfl (by kernel_rfl) (by kernel_rfl) (by kernel_rfl) (by kernel_rfl) ?_; unfold Tryz.f73
    simp only [↓wR, RA, simprocAttr, TF, CD0, dataSameF, hl c (List.mem_of_getElem? hc), hd]
    rw [boolK_b]; refine ⟨fun h1 => ?_, fun h1 => ?_⟩
    · rw [h1, Bool.true_or] at hx'
      simp only [↓wR, RA, simprocAttr, TF, CD0, h1]
      rw [hx']
      done
    · rw [h1, Bool.false_or] at hx'
      simp only [↓wR, RA, simprocAttr, TF, CD0, h1]; repeat (simp (disch := omega) only [wrapI64, dleN, dltN, dleI, dltI]; try simp only [↓wR, RA, simprocAttr, TF, CD0, h1])
      exact ⟨i + 1, ⟨hlt, hx'⟩, by omega, by (first | rfl | trivial | omega | (simp (disch := omega) only [wrapI64]; first | done | rfl | (simp only [List.cons.injEq, accV_snoc, accO_snoc, List.length_append, List.length_cons, List.length_nil, List.map_append, List.map_cons, List.map_nil, and_true, true_and, and_self, AV.sc.injEq, AV.sl.injEq, AObj.row.injEq, Option.some.injEq, Value.int.injEq, Nat.zero_add]; first | done | rfl | omega)) | (simp only [List.cons.injEq, accV_snoc, accO_snoc, List.length_append, List.length_cons, List.length_nil, List.map_append, List.map_cons, List.map_nil, and_true, true_and, and_self, AV.sc.injEq, AV.sl.injEq, AObj.row.injEq, Option.some.injEq, Value.int.injEq, Nat.zero_add]; first | done | rfl | omega))⟩
  · rw [at_ge (decide_eq_false h)] at hx
    simp only [↓wR, RA, simprocAttr, TF, CD0, h]
    rw [hx]; rfl
def smallDs (l : List RData) : Prop := wtL wtD l ≤ 16777216
instance (l : List RData) : Decidable (smallDs l) := inferInstanceAs (Decidable (_ ≤ _))
theorem smallDs.mem {l : List RData} (h : smallDs l) : ∀ x ∈ l, smallD x := fun x hx => by
  have h1 : wtD x < wtL wtD l := wtL_mem hx
  unfold smallDs at h; unfold smallD; omega
theorem smallDs.len {l : List RData} (h : smallDs l) : l.length ≤ 16777216 := Nat.le_trans (wtL_len wtD l) h
theorem wtL_take {α : Type} (f : α → Nat) (l : List α) (i : Nat) : wtL f (l.take i) ≤ wtL f l := by
  induction l generalizing i with
  | nil => simp
  | cons a l ih =>
    cases i with
    | zero => exact Nat.zero_le _
    | succ i => have := ih i; simp only [wtL, List.take_succ_cons, List.foldr_cons] at this ⊢; omega
theorem smallDs.take {l : List RData} (h : smallDs l) (i : Nat) : smallDs (l.take i) := Nat.le_trans (wtL_take wtD l i) h
noncomputable def hasCF (x : UInt16 × List RData × RData × Unit) : Option AV := if smallDs x.2.1 ∧ smallD x.2.2.1 then some ((r1 codBool).E true (hasV x.1 x.2.1 x.2.2.1)) else none
set_option maxRecDepth 2000000 in
theorem hasC_pure (x : UInt16 × List RData × RData × Unit) (r : AV) (h : hasCF x = some r) : CallPure PP 58 ((aC codU16 (aC (codL codData) (aC codData a0))).E x) r := by
  by_cases hc : smallDs x.2.1 ∧ smallD x.2.2.1
  case neg => simp only [hasCF, if_neg hc] at h; cases h
  simp only [hasCF, if_pos hc] at h
  cases h
  exact callPure_wl (TabOk.nil PP) Tryz.func58 (by kernel_rfl) (by kernel_rfl) (by kernel_rfl) (Nat.le_of_ble_eq_true (by kernel_rfl)) (r1 codBool) true (hasV x.1 x.2.1 x.2.2.1) (has_wl x.1 x.2.1 x.2.2.1 hc.1.mem hc.1.len hc.2)
noncomputable abbrev hasC : Nat × Bool × (List AV → M AV) := (58, true, pureM (aC codU16 (aC (codL codData) (aC codData a0))) hasCF)
def wtS (s : RSet) : Nat := nameSize s.owner + wtL wtD s.data
def smallS (s : RSet) : Prop := wtS s ≤ 16777216
instance (s : RSet) : Decidable (smallS s) := inferInstanceAs (Decidable (_ ≤ _))
theorem smallS.owner {s : RSet} (h : smallS s) : smallN s.owner := by unfold smallS wtS at h; unfold smallN; omega
theorem smallS.data {s : RSet} (h : smallS s) : smallDs s.data := by unfold smallS wtS at h; unfold smallDs; omega
noncomputable def dataLoop (t : UInt16) : List RData → List RData → Int
  | _, [] => 0
  | pre, d :: r => if dataErr t d ≠ 0 then dataErr t d else if hasV t pre d = true then 10 else dataLoop t (pre ++ [d]) r
noncomputable def setErr (s : RSet) : Int :=
  if nameErr s.owner ≠ 0 then nameErr s.owner else if s.data.length = 0 then 9 else if 512 < s.data.length then 3 else dataLoop s.type [] s.data
theorem dataLoop_at (t : UInt16) {l : List RData} {i : Nat} {c : RData} (hc : l[i]? = some c) : dataLoop t (l.take i) (l.drop i) = if dataErr t c ≠ 0 then dataErr t c else if hasV t (l.take i) c = true then 10 else dataLoop t (l.take (i + 1)) (l.drop (i + 1)) := by
  obtain ⟨hi, rfl⟩ := List.getElem?_eq_some_iff.1 hc
  rw [List.drop_eq_getElem_cons hi, dataLoop, List.take_succ_eq_append_getElem hi]
theorem setCheck_wl (s : RSet) (hs : smallS s) : wl PP [nameCheck, dataCheck, hasC] 0 (Tryz.f61.body.getD .skip) (retQ PP Tryz.f61.results.toList (fun r st => (r1 (codInt .i64)).get true st.h r = some (setErr s))) (argsL 0 [codSet.val false s]) (stK []) := by
  have ho := hs.owner
  have hd := hs.data
  have hn := hd.len
  unfold Tryz.f61
  simp only [codSet_val]
  simp only [↓wR, RA, simprocAttr, TF, CD0, nameCheckF, ho.fit]
  unfold setErr
  rw [boolK_b]; refine ⟨fun h => ?_, fun h => ?_⟩
  · have he : nameErr s.owner ≠ 0 := by simpa using h
    rw [if_pos he]
    simp only [↓wR, RA, simprocAttr, TF, CD0, h]
  have he : nameErr s.owner = 0 := by simpa using h
  rw [if_neg (by omega)]
  simp only [↓wR, RA, simprocAttr, TF, CD0, h]
  rw [boolK_eqI]; refine ⟨fun ⟨h1, e1⟩ => ?_, fun ⟨h1, e1⟩ => ?_⟩
  · rw [if_pos (by omega)]
    simp only [↓wR, RA, simprocAttr, TF, CD0, h1]
  rw [if_neg (by omega)]
  simp only [↓wR, RA, simprocAttr, TF, CD0, h1]
  rw [boolK_d]; refine ⟨fun h2 => ?_, fun h2 => ?_⟩
  · rw [if_pos (by omega)]
    simp only [↓wR, RA, simprocAttr, TF, CD0, h2]
  rw [if_neg (by omega)]
  simp only [↓wR, RA, simprocAttr, TF, CD0, h2]
  refine loop_of [1, 24, 25, 26] (fun (i : Nat) => [.ptr 0 0, .vl false 4 (s.data.map (codData.val false)), .sc (.int .i64 (s.data.length)), .sc (.int .i64 (i))]) (fun _ => [some (.row [.vl false 1 (s.owner.map (codStr.val false)), .sc (.int .u16 s.type.toNat), .sc (.int .u16 s.cls.toNat), .sc (.int .u32 s.ttl.toNat), .vl false 4 (s.data.map (codData.val false))] 0 2 50)]) (fun i => i ≤ s.data.length ∧ dataLoop s.type [] s.data = dataLoop s.type (s.data.take i) (s.data.drop i)) (fun i => s.data.length - i) 0 ⟨Nat.zero_le _, rfl⟩ (by simp only [↓wR, RA, simprocAttr, TF, CD0] <;> rfl) (by simp only [↓wR, RA, simprocAttr, TF, CD0] <;> rfl) ?_
  rintro i ⟨hi, hx⟩
  simp only [↓wR, RA, simprocAttr, TF, CD0]
  rw [boolK_d]; refine ⟨fun h3 => ?_, fun h3 => ?_⟩
  · obtain ⟨c, hc, hd1, hlt⟩ := at_lt (decide_eq_true h3)
    rw [dataLoop_at _ hc] at hx
    have hcs := hd.mem c (List.mem_of_getElem? hc)
    simp only [↓wR, RA, simprocAttr, TF, CD0, h3, hc, dataCheckF, hcs]
    rw [boolK_b]; refine ⟨fun h4 => ?_, fun h4 => ?_⟩
    · have he4 : dataErr s.type c ≠ 0 := by simpa using h4
      rw [if_pos he4] at hx
      simp only [↓wR, RA, simprocAttr, TF, CD0, h4]
      rw [hx]
    · have he4 : dataErr s.type c = 0 := by simpa using h4
      rw [if_neg (by omega)] at hx
      simp only [↓wR, RA, simprocAttr, TF, CD0, h4]
      refine ⟨by kernel_rfl, .inl ?_⟩
      simp only [↓wR, RA, simprocAttr, TF, CD0, hi, hasCF, hd.take i, hcs]
      refine ⟨by kernel_rfl, ?_⟩
      rw [boolK_b]; refine ⟨fun h5 => ?_, fun h5 => ?_⟩
      · rw [if_pos h5] at hx
        simp only [↓wR, RA, simprocAttr, TF, CD0, h5]
        rw [hx]
      · rw [if_neg (by rw [h5]; decide)] at hx
        simp only [↓wR, RA, simprocAttr, TF, CD0, h5]; repeat (simp (disch := omega) only [wrapI64, dleN, dltN, dleI, dltI]; try simp only [↓wR, RA, simprocAttr, TF, CD0, h5])
        exact ⟨i + 1, ⟨hlt, hx⟩, by omega, by (first | rfl | trivial | omega | (simp (disch := omega) only [wrapI64]; first | done | rfl | (simp only [List.cons.injEq, accV_snoc, accO_snoc, List.length_append, List.length_cons, List.length_nil, List.map_append, List.map_cons, List.map_nil, and_true, true_and, and_self, AV.sc.injEq, AV.sl.injEq, AObj.row.injEq, Option.some.injEq, Value.int.injEq, Nat.zero_add]; first | done | rfl | omega)) | (simp only [List.cons.injEq, accV_snoc, accO_snoc, List.length_append, List.length_cons, List.length_nil, List.map_append, List.map_cons, List.map_nil, and_true, true_and, and_self, AV.sc.injEq, AV.sl.injEq, AObj.row.injEq, Option.some.injEq, Value.int.injEq, Nat.zero_add]; first | done | rfl | omega))⟩
  · rw [at_ge (decide_eq_false h3)] at hx
    simp only [↓wR, RA, simprocAttr, TF, CD0, h3]
    rw [hx]; rfl
noncomputable def setCheckF (x : RSet × Unit) : Option AV := if smallS x.1 then some ((r1 (codInt .i64)).E true (setErr x.1)) else none
set_option maxRecDepth 2000000 in
theorem setCheck_pure (x : RSet × Unit) (r : AV) (h : setCheckF x = some r) : CallPure PP 61 ((aC codSet a0).E x) r := by
  by_cases hc : smallS x.1
  case neg => simp only [setCheckF, if_neg hc] at h; cases h
  simp only [setCheckF, if_pos hc] at h
  cases h
  exact callPure_wl (TabOk.cons (pure_entry nameCheck_pure) (TabOk.cons (pure_entry dataCheck_pure) (TabOk.cons (pure_entry hasC_pure) (TabOk.nil PP)))) Tryz.func61 (by kernel_rfl) (by kernel_rfl) (by kernel_rfl) (Nat.le_of_ble_eq_true (by kernel_rfl)) (r1 (codInt .i64)) true (setErr x.1) (setCheck_wl x.1 hc)
noncomputable abbrev setCheck : Nat × Bool × (List AV → M AV) := (61, true, pureM (aC codSet a0) setCheckF)
end Go.Proofs.YtcndpdkcagkdaabGreat
end
section
set_option linter.unusedSimpArgs false
set_option linter.unusedVariables false
namespace Go.Proofs.YtcndpdkcagkdaabGreat
open Go.Vm
set_option maxRecDepth 2000000
theorem setCopy_wl (s : RSet) (hs : smallS s) : wl PP [nameCopy, dataCopy] 0 (Tryz.f22.body.getD .skip) (retQ PP Tryz.f22.results.toList (fun r st => (r1 codSet).get true st.h r = some s)) (argsL 0 [codSet.val false s]) (stK []) := by
  have ho := hs.owner
  have hd := hs.data
  have hn := hd.len
  unfold Tryz.f22
  simp only [codSet_val]
  simp only [↓wR, RA, simprocAttr, TF, CD0, nameCopyF, ho]
  refine loop_of_g [2, 13, 14, 15, 3] (fun (x : List RData) => [.ptr 0 0, .vl false 4 (s.data.map (codData.val false)), .sc (.int .i64 (s.data.length)), .sc (.int .i64 (x.length)), .ptr 1 0]) (fun x => [some (.row [.sc (.slice none 0 0), .sc (.int .u16 0), .sc (.int .u16 0), .sc (.int .u32 0), .sc (.slice none 0 0)] 0 2 50), some (.row [codName.val true s.owner, .sc (.int .u16 s.type.toNat), .sc (.int .u16 s.cls.toNat), .sc (.int .u32 s.ttl.toNat), .sl 2 0 x.length 4] 0 2 50), some (.row (cellsOf codData true x) 0 0 66)]) (fun x => x.length ≤ s.data.length ∧ x ++ s.data.drop x.length = s.data) (fun x => s.data.length - x.length) [] ⟨Nat.zero_le _, rfl⟩ (by simp only [↓wR, RA, simprocAttr, TF, CD0]; (refine WkV.lax [] (by first | exact Nat.le_of_ble_eq_true rfl | (simp [limit]; omega)) ?_ ?_ <;> repeat' first | exact LaxL.nil | exact LaxO.nil | exact Lax.same _ | exact Lax.nil _ _ _ | exact Lax.nilv _ _ | exact LaxO.refl _ _ | apply LaxL.cons | apply LaxO.ghost | apply LaxO.same | apply LaxO.row)) ?_
  rintro x ⟨hi, hx⟩
  simp only [↓wR, RA, simprocAttr, TF, CD0]
  rw [boolK_d]; refine ⟨fun h => ?_, fun h => ?_⟩
  · obtain ⟨c, hc, hd1, hlt⟩ := at_lt (decide_eq_true h)
    rw [hd1] at hx
    have hcs := hd.mem c (List.mem_of_getElem? hc)
    simp only [↓wR, RA, simprocAttr, TF, CD0, h, hc]
    refine ⟨by kernel_rfl, .inl ?_⟩
    have hlim : (x.length * 4 + 4) * 96 ≤ 140737488355328 := by omega
    simp only [↓wR, RA, simprocAttr, TF, CD0, dataCopyF, hcs, hlim]
    refine ⟨by kernel_rfl, x ++ [c], ⟨by simp; omega, by simpa using hx⟩, by simp; omega, by (first | rfl | trivial | omega | (simp (disch := omega) only [wrapI64]; first | done | rfl | (simp only [List.cons.injEq, accV_snoc, accO_snoc, List.length_append, List.length_cons, List.length_nil, List.map_append, List.map_cons, List.map_nil, and_true, true_and, and_self, AV.sc.injEq, AV.sl.injEq, AObj.row.injEq, Option.some.injEq, Value.int.injEq, Nat.zero_add]; first | done | rfl | omega)) | (simp only [List.cons.injEq, accV_snoc, accO_snoc, List.length_append, List.length_cons, List.length_nil, List.map_append, List.map_cons, List.map_nil, and_true, true_and, and_self, AV.sc.injEq, AV.sl.injEq, AObj.row.injEq, Option.some.injEq, Value.int.injEq, Nat.zero_add]; first | done | rfl | omega)), ?_⟩
    rw [cells_codData, List.length_append]; rfl
  · rw [at_ge (decide_eq_false h)] at hx
    rw [List.append_nil] at hx
    subst hx
    simp only [↓wR, RA, simprocAttr, TF, CD0, h]
noncomputable def setCopyF (x : RSet × Unit) : Option AV := if smallS x.1 then some ((r1 codSet).E true (x.1)) else none
set_option maxRecDepth 2000000 in
theorem setCopy_pure (x : RSet × Unit) (r : AV) (h : setCopyF x = some r) : CallPure PP 22 ((aC codSet a0).E x) r := by
  by_cases hc : smallS x.1
  case neg => simp only [setCopyF, if_neg hc] at h; cases h
  simp only [setCopyF, if_pos hc] at h
  cases h
  exact callPure_wl (TabOk.cons (pure_entry nameCopy_pure) (TabOk.cons (pure_entry dataCopy_pure) (TabOk.nil PP))) Tryz.func22 (by kernel_rfl) (by kernel_rfl) (by kernel_rfl) (Nat.le_of_ble_eq_true (by kernel_rfl)) (r1 codSet) true (x.1) (setCopy_wl x.1 hc)
noncomputable abbrev setCopy : Nat × Bool × (List AV → M AV) := (22, true, pureM (aC codSet a0) setCopyF)
end Go.Proofs.YtcndpdkcagkdaabGreat
end
section
set_option linter.unusedSimpArgs false
set_option linter.unusedVariables false
namespace Go.Proofs.YtcndpdkcagkdaabGreat
open Go.Vm
set_option maxRecDepth 2000000
def wtZ (z : RZone) : Nat := nameSize z.origin + wtL wtS z.sets
def smallZ (z : RZone) : Prop := wtZ z ≤ 16777216
instance (z : RZone) : Decidable (smallZ z) := inferInstanceAs (Decidable (_ ≤ _))
theorem smallZ.origin {z : RZone} (h : smallZ z) : smallN z.origin := by unfold smallZ wtZ at h; unfold smallN; omega
theorem smallZ.set {z : RZone} (h : smallZ z) : ∀ s ∈ z.sets, smallS s := fun s hs => by
  have h1 : wtS s < wtL wtS z.sets := wtL_mem hs
  unfold smallZ wtZ at h; unfold smallS; omega
theorem smallZ.len {z : RZone} (h : smallZ z) : z.sets.length ≤ 16777216 := by have := wtL_len wtS z.sets; unfold smallZ wtZ at h; omega
def strictU (n top : Name) : Bool := decide (top.length < n.length) && underN n top
theorem under_wl (n top : Name) (hn : smallN n) (ht : smallN top) : wl PP [nameUnder] 0 (Tryz.f30.body.getD .skip) (retQ PP Tryz.f30.results.toList (fun r st => (r1 codBool).get true st.h r = some (strictU n top))) (argsL 0 [codName.val false n, codName.val false top]) (stK []) := by
  unfold Tryz.f30
  simp only [codName_val]
  simp only [↓wR, RA, simprocAttr, TF, CD0]
  unfold strictU
  rw [boolK_d]; refine ⟨fun h => ?_, fun h => ?_⟩
  · rw [decide_eq_true (show top.length < n.length by omega)]
    simp only [↓wR, RA, simprocAttr, TF, CD0, h, nameUnderF, hn, ht]
  · rw [decide_eq_false (show ¬ top.length < n.length by omega)]
    simp only [↓wR, RA, simprocAttr, TF, CD0, h]
    rfl
noncomputable def zUnderF (x : Name × Name × Unit) : Option AV := if smallN x.1 ∧ smallN x.2.1 then some ((r1 codBool).E true (strictU x.1 x.2.1)) else none
set_option maxRecDepth 2000000 in
theorem zUnder_pure (x : Name × Name × Unit) (r : AV) (h : zUnderF x = some r) : CallPure PP 30 ((aC codName (aC codName a0)).E x) r := by
  by_cases hc : smallN x.1 ∧ smallN x.2.1
  case neg => simp only [zUnderF, if_neg hc] at h; cases h
  simp only [zUnderF, if_pos hc] at h
  cases h
  exact callPure_wl (TabOk.cons (pure_entry nameUnder_pure) (TabOk.nil PP)) Tryz.func30 (by kernel_rfl) (by kernel_rfl) (by kernel_rfl) (Nat.le_of_ble_eq_true (by kernel_rfl)) (r1 codBool) true (strictU x.1 x.2.1) (under_wl x.1 x.2.1 hc.1 hc.2)
noncomputable abbrev zUnder : Nat × Bool × (List AV → M AV) := (30, true, pureM (aC codName (aC codName a0)) zUnderF)
def atV (z : RZone) (n : Name) : List RSet := z.sets.filter fun s => sameN s.owner n
theorem filter_at {l : List RSet} {p : RSet → Bool} {i : Nat} {c : RSet} (h : l.drop i = c :: l.drop (i + 1)) : (l.drop i).filter p = (if p c = true then [c] else []) ++ (l.drop (i + 1)).filter p := by
  rw [h, List.filter_cons]; split <;> rfl
theorem filter_len {l : List RSet} (p : RSet → Bool) : (l.filter p).length ≤ l.length := List.length_filter_le _ _
theorem at_wl (z : RZone) (n : Name) (hz : smallZ z) (hn : smallN n) : wl PP [nameSame, setCopy] 0 (Tryz.f10.body.getD .skip) (retQ PP Tryz.f10.results.toList (fun r st => (r1 (codL codSet)).get true st.h r = some (atV z n))) (argsL 0 [codZone.val false z, codName.val false n]) (stK []) := by
  have hl := hz.len
  unfold Tryz.f10
  simp only [codZone_val, codName_val]
  simp only [↓wR, RA, simprocAttr, TF, CD0]
  refine loop_of_g [1, 9, 10, 11, 5] (fun (x : Nat × List RSet) => [.vl false 1 (n.map (codStr.val false)), .vl false 5 (z.sets.map (codSet.val false)), .sc (.int .i64 (z.sets.length)), .sc (.int .i64 (x.1)), .sl 0 0 x.2.length 5]) (fun x => [some (.row (cellsOf codSet true x.2) 0 0 50)]) (fun x => x.1 ≤ z.sets.length ∧ x.2 ++ (z.sets.drop x.1).filter (fun s => sameN s.owner n) = atV z n) (fun x => z.sets.length - x.1) (0, []) ⟨Nat.zero_le _, rfl⟩ (by simp only [↓wR, RA, simprocAttr, TF, CD0]; (refine WkV.lax [] (by first | exact Nat.le_of_ble_eq_true rfl | (simp [limit]; omega)) ?_ ?_ <;> repeat' first | exact LaxL.nil | exact LaxO.nil | exact Lax.same _ | exact Lax.nil _ _ _ | exact Lax.nilv _ _ | exact LaxO.refl _ _ | apply LaxL.cons | apply LaxO.ghost | apply LaxO.same | apply LaxO.row)) ?_
  rintro ⟨i, x⟩ ⟨hi, hx⟩
  simp only at hi hx
  have hxl : x.length ≤ z.sets.length := by
    have h1 := filter_len (l := z.sets) (fun s => sameN s.owner n)
    have h2 := congrArg List.length hx
    simp only [List.length_append, atV] at h2
    omega
  simp only [↓wR, RA, simprocAttr, TF, CD0]
  rw [boolK_d]; refine ⟨fun h => ?_, fun h => ?_⟩
  · obtain ⟨c, hc, hd1, hlt⟩ := at_lt (decide_eq_true h)
    rw [filter_at hd1] at hx
    have hcs := hz.set c (List.mem_of_getElem? hc)
    simp only [↓wR, RA, simprocAttr, TF, CD0, h, hc, nameSameF, hcs.owner, hn]
    rw [boolK_b]; refine ⟨fun h1 => ?_, fun h1 => ?_⟩
    · rw [if_pos h1] at hx
      have hlim : (x.length * 5 + 5) * 64 ≤ 140737488355328 := by omega
      simp only [↓wR, RA, simprocAttr, TF, CD0, h1, setCopyF, hcs, hlim]; repeat (simp (disch := omega) only [wrapI64, dleN, dltN, dleI, dltI]; try simp only [↓wR, RA, simprocAttr, TF, CD0, h1, setCopyF, hcs, hlim])
      refine ⟨(i + 1, x ++ [c]), ⟨hlt, by rw [← hx]; simp⟩, by simp; omega, by (first | rfl | trivial | omega | (simp (disch := omega) only [wrapI64]; first | done | rfl | (simp only [List.cons.injEq, accV_snoc, accO_snoc, List.length_append, List.length_cons, List.length_nil, List.map_append, List.map_cons, List.map_nil, and_true, true_and, and_self, AV.sc.injEq, AV.sl.injEq, AObj.row.injEq, Option.some.injEq, Value.int.injEq, Nat.zero_add]; first | done | rfl | omega)) | (simp only [List.cons.injEq, accV_snoc, accO_snoc, List.length_append, List.length_cons, List.length_nil, List.map_append, List.map_cons, List.map_nil, and_true, true_and, and_self, AV.sc.injEq, AV.sl.injEq, AObj.row.injEq, Option.some.injEq, Value.int.injEq, Nat.zero_add]; first | done | rfl | omega)), ?_⟩
      rw [cells_codSet]
    · rw [if_neg (by rw [h1]; decide)] at hx
      simp only [↓wR, RA, simprocAttr, TF, CD0, h1]; repeat (simp (disch := omega) only [wrapI64, dleN, dltN, dleI, dltI]; try simp only [↓wR, RA, simprocAttr, TF, CD0, h1])
      exact ⟨(i + 1, x), ⟨hlt, hx⟩, by simp; omega, by (first | rfl | trivial | omega | (simp (disch := omega) only [wrapI64]; first | done | rfl | (simp only [List.cons.injEq, accV_snoc, accO_snoc, List.length_append, List.length_cons, List.length_nil, List.map_append, List.map_cons, List.map_nil, and_true, true_and, and_self, AV.sc.injEq, AV.sl.injEq, AObj.row.injEq, Option.some.injEq, Value.int.injEq, Nat.zero_add]; first | done | rfl | omega)) | (simp only [List.cons.injEq, accV_snoc, accO_snoc, List.length_append, List.length_cons, List.length_nil, List.map_append, List.map_cons, List.map_nil, and_true, true_and, and_self, AV.sc.injEq, AV.sl.injEq, AObj.row.injEq, Option.some.injEq, Value.int.injEq, Nat.zero_add]; first | done | rfl | omega)), by (first | rfl | trivial | omega | (simp (disch := omega) only [wrapI64]; first | done | rfl | (simp only [List.cons.injEq, accV_snoc, accO_snoc, List.length_append, List.length_cons, List.length_nil, List.map_append, List.map_cons, List.map_nil, and_true, true_and, and_self, AV.sc.injEq, AV.sl.injEq, AObj.row.injEq, Option.some.injEq, Value.int.injEq, Nat.zero_add]; first | done | rfl | omega)) | (simp only [List.cons.injEq, accV_snoc, accO_snoc, List.length_append, List.length_cons, List.length_nil, List.map_append, List.map_cons, List.map_nil, and_true, true_and, and_self, AV.sc.injEq, AV.sl.injEq, AObj.row.injEq, Option.some.injEq, Value.int.injEq, Nat.zero_add]; first | done | rfl | omega))⟩
  · rw [at_ge (decide_eq_false h)] at hx
    rw [List.filter_nil, List.append_nil] at hx
    subst hx
    simp only [↓wR, RA, simprocAttr, TF, CD0, h]
noncomputable def zAtF (x : RZone × Name × Unit) : Option AV := if smallZ x.1 ∧ smallN x.2.1 then some ((r1 (codL codSet)).E true (atV x.1 x.2.1)) else none
set_option maxRecDepth 2000000 in
theorem zAt_pure (x : RZone × Name × Unit) (r : AV) (h : zAtF x = some r) : CallPure PP 10 ((aC codZone (aC codName a0)).E x) r := by
  by_cases hc : smallZ x.1 ∧ smallN x.2.1
  case neg => simp only [zAtF, if_neg hc] at h; cases h
  simp only [zAtF, if_pos hc] at h
  cases h
  exact callPure_wl (TabOk.cons (pure_entry nameSame_pure) (TabOk.cons (pure_entry setCopy_pure) (TabOk.nil PP))) Tryz.func10 (by kernel_rfl) (by kernel_rfl) (by kernel_rfl) (Nat.le_of_ble_eq_true (by kernel_rfl)) (r1 (codL codSet)) true (atV x.1 x.2.1) (at_wl x.1 x.2.1 hc.1 hc.2)
noncomputable abbrev zAt : Nat × Bool × (List AV → M AV) := (10, true, pureM (aC codZone (aC codName a0)) zAtF)
def shorter (n : Name) (b : Option Name) : Bool := match b with | none => true | some m => decide (n.length < m.length)
def cutStep (z : RZone) (n : Name) (best : Option Name) (s : RSet) : Option Name :=
  if (decide ((s.type.toNat : Int) = 2) && (strictU s.owner z.origin && (underN n s.owner && shorter s.owner best))) = true then some s.owner else best
def cutV (z : RZone) (n : Name) : Option Name := z.sets.foldl (cutStep z n) none
theorem cut_small {z : RZone} {n : Name} (hz : smallZ z) : ∀ (l : List RSet) (b : Option Name), (∀ s ∈ l, s ∈ z.sets) → (∀ m, b = some m → smallN m) → ∀ m, l.foldl (cutStep z n) b = some m → smallN m := by
  intro l
  induction l with
  | nil => intro b _ hb m hm; exact hb m hm
  | cons s l ih =>
    intro b hl hb m hm
    refine ih (cutStep z n b s) (fun x hx => hl x (by simp [hx])) (fun q hq => ?_) m hm
    unfold cutStep at hq
    split at hq
    · cases hq; exact (hz.set s (hl s (by simp))).owner
    · exact hb q hq
theorem cut_wl (z : RZone) (n : Name) (hz : smallZ z) (hn : smallN n) : wl PP [nameUnder, zUnder, nameCopy] 0 (Tryz.f15.body.getD .skip) (retQ PP Tryz.f15.results.toList (fun r st => (r2 codName codBool).get true st.h r = some ((cutV z n).getD [], (cutV z n).isSome))) (argsL 0 [codZone.val false z, codName.val false n]) (stK []) := by
  have hl := hz.len
  unfold Tryz.f15
  simp only [codZone_val, codName_val]
  simp only [↓wR, RA, simprocAttr, TF, CD0]
  refine callAt_of_wl (T := []) (TabOk.nil PP) mixed Tryz.func29 rfl (by kernel_rfl) (by kernel_rfl) (by kernel_rfl) (by kernel_rfl) ?_; unfold Tryz.f29
  simp only [↓wR, RA, simprocAttr, TF, CD0]
  refine ⟨[2, 3, 6, 7, 10], ?_⟩
  have hib : iterB PP 50 = some (Tryz.f50.ntmps, Tryz.f50.body.getD .skip) := by kernel_rfl
  simp only [↓wR, RA, simprocAttr, TF, CD0, hib]
  refine ⟨by kernel_rfl, fun l => ?_⟩
  unfold Tryz.f50
  simp only [↓wR, RA, simprocAttr, TF, CD0]
  refine loopI_of_g [0, 2, 7, 8, 9] (fun (x : Nat × Option Name) => [.sc (.func (.yield l) #[] #[]), .ptr 5 0, .vl false 5 (z.sets.map (codSet.val false)), .sc (.int .i64 (z.sets.length)), .sc (.int .i64 (x.1))]) (fun x => [some (.row [.vl false 1 (z.origin.map (codStr.val false)), .vl false 5 (z.sets.map (codSet.val false))] 0 2 26), some (.row [.vl false 1 (n.map (codStr.val false))] 0 2 23), some (.row [.vl false 1 ((x.2.getD []).map (codStr.val false))] 0 2 23), some (.row [.sc (.bool (x.2.isSome))] 0 2 4), some (.row [.vl false 1 (z.origin.map (codStr.val false)), .vl false 5 (z.sets.map (codSet.val false))] 0 2 26), some (.row [.sc (.int .u16 2)] 0 2 45)]) (fun x => x.1 ≤ z.sets.length ∧ cutV z n = (z.sets.drop x.1).foldl (cutStep z n) x.2 ∧ ∀ m, x.2 = some m → smallN m) (fun x => z.sets.length - x.1) (0, none) ⟨Nat.zero_le _, rfl, fun m hm => by cases hm⟩ (by simp only [↓wR, RA, simprocAttr, TF, CD0]; (refine WkV.lax [] (by first | exact Nat.le_of_ble_eq_true rfl | (simp [limit]; omega)) ?_ ?_ <;> repeat' first | exact LaxL.nil | exact LaxO.nil | exact Lax.same _ | exact Lax.nil _ _ _ | exact Lax.nilv _ _ | exact LaxO.refl _ _ | apply LaxL.cons | apply LaxO.ghost | apply LaxO.same | apply LaxO.row)) ?_
  rintro ⟨i, b⟩ ⟨hi, hx, hb⟩
  simp only at hi hx hb
  simp only [↓wR, RA, simprocAttr, TF, CD0]
  rw [boolI_b]; refine ⟨fun h => ?_, fun h => ?_⟩
  · obtain ⟨c, hc, hd1, hlt⟩ := at_lt h
    have hcs := hz.set c (List.mem_of_getElem? hc)
    have hstep : cutV z n = (z.sets.drop (i + 1)).foldl (cutStep z n) (cutStep z n b c) := by rw [hx, hd1]; rfl
    simp only [↓wR, RA, simprocAttr, TF, CD0, h, hc]
    rw [boolI_b]; refine ⟨fun h2 => ?_, fun h2 => ?_⟩
    · have e2 : (c.type.toNat : Int) = 2 := by simpa using h2
      simp only [↓wR, RA, simprocAttr, TF, CD0, h2]
      refine yield_keep [0, 2, 7, 8, 9, 17, 19] ?_
      simp only [↓wR, RA, simprocAttr, TF, CD0, yieldC, roundC, zUnderF, hcs.owner, hz.origin]
      rw [boolK_b]; refine ⟨fun h3 => ?_, fun h3 => ?_⟩
      · simp only [↓wR, RA, simprocAttr, TF, CD0, h3, nameUnderF, hcs.owner, hn]
        rw [boolK_b]; refine ⟨fun h4 => ?_, fun h4 => ?_⟩
        · cases b with
          | none =>
            have hb2 : cutStep z n none c = some c.owner := by simp [cutStep, e2, h3, h4, shorter]
            rw [hb2] at hstep
            simp only [↓wR, RA, simprocAttr, TF, CD0, h4, Option.isSome_none]; repeat (simp (disch := omega) only [wrapI64, dleN, dltN, dleI, dltI]; try simp only [↓wR, RA, simprocAttr, TF, CD0, h4, Option.isSome_none])
            exact ⟨(i + 1, some c.owner), ⟨hlt, hstep, fun m hm => by cases hm; exact hcs.owner⟩, by simp; omega, by (first | rfl | trivial | omega | (simp (disch := omega) only [wrapI64]; first | done | rfl | (simp only [List.cons.injEq, accV_snoc, accO_snoc, List.length_append, List.length_cons, List.length_nil, List.map_append, List.map_cons, List.map_nil, and_true, true_and, and_self, AV.sc.injEq, AV.sl.injEq, AObj.row.injEq, Option.some.injEq, Value.int.injEq, Nat.zero_add]; first | done | rfl | omega)) | (simp only [List.cons.injEq, accV_snoc, accO_snoc, List.length_append, List.length_cons, List.length_nil, List.map_append, List.map_cons, List.map_nil, and_true, true_and, and_self, AV.sc.injEq, AV.sl.injEq, AObj.row.injEq, Option.some.injEq, Value.int.injEq, Nat.zero_add]; first | done | rfl | omega)), by (first | rfl | trivial | omega | (simp (disch := omega) only [wrapI64]; first | done | rfl | (simp only [List.cons.injEq, accV_snoc, accO_snoc, List.length_append, List.length_cons, List.length_nil, List.map_append, List.map_cons, List.map_nil, and_true, true_and, and_self, AV.sc.injEq, AV.sl.injEq, AObj.row.injEq, Option.some.injEq, Value.int.injEq, Nat.zero_add]; first | done | rfl | omega)) | (simp only [List.cons.injEq, accV_snoc, accO_snoc, List.length_append, List.length_cons, List.length_nil, List.map_append, List.map_cons, List.map_nil, and_true, true_and, and_self, AV.sc.injEq, AV.sl.injEq, AObj.row.injEq, Option.some.injEq, Value.int.injEq, Nat.zero_add]; first | done | rfl | omega))⟩
          | some m =>
            simp only [↓wR, RA, simprocAttr, TF, CD0, h4]
            rw [boolK_d]; refine ⟨fun h5 => ?_, fun h5 => ?_⟩
            · have hb2 : cutStep z n (some m) c = some c.owner := by simp [cutStep, e2, h3, h4, shorter]; omega
              rw [hb2] at hstep
              simp only [↓wR, RA, simprocAttr, TF, CD0, h5]; repeat (simp (disch := omega) only [wrapI64, dleN, dltN, dleI, dltI]; try simp only [↓wR, RA, simprocAttr, TF, CD0, h5])
              exact ⟨(i + 1, some c.owner), ⟨hlt, hstep, fun m hm => by cases hm; exact hcs.owner⟩, by simp; omega, by (first | rfl | trivial | omega | (simp (disch := omega) only [wrapI64]; first | done | rfl | (simp only [List.cons.injEq, accV_snoc, accO_snoc, List.length_append, List.length_cons, List.length_nil, List.map_append, List.map_cons, List.map_nil, and_true, true_and, and_self, AV.sc.injEq, AV.sl.injEq, AObj.row.injEq, Option.some.injEq, Value.int.injEq, Nat.zero_add]; first | done | rfl | omega)) | (simp only [List.cons.injEq, accV_snoc, accO_snoc, List.length_append, List.length_cons, List.length_nil, List.map_append, List.map_cons, List.map_nil, and_true, true_and, and_self, AV.sc.injEq, AV.sl.injEq, AObj.row.injEq, Option.some.injEq, Value.int.injEq, Nat.zero_add]; first | done | rfl | omega)), by (first | rfl | trivial | omega | (simp (disch := omega) only [wrapI64]; first | done | rfl | (simp only [List.cons.injEq, accV_snoc, accO_snoc, List.length_append, List.length_cons, List.length_nil, List.map_append, List.map_cons, List.map_nil, and_true, true_and, and_self, AV.sc.injEq, AV.sl.injEq, AObj.row.injEq, Option.some.injEq, Value.int.injEq, Nat.zero_add]; first | done | rfl | omega)) | (simp only [List.cons.injEq, accV_snoc, accO_snoc, List.length_append, List.length_cons, List.length_nil, List.map_append, List.map_cons, List.map_nil, and_true, true_and, and_self, AV.sc.injEq, AV.sl.injEq, AObj.row.injEq, Option.some.injEq, Value.int.injEq, Nat.zero_add]; first | done | rfl | omega))⟩
            · have hb2 : cutStep z n (some m) c = some m := by simp [cutStep, e2, h3, h4, shorter]; omega
              rw [hb2] at hstep
              simp only [↓wR, RA, simprocAttr, TF, CD0, h5]; repeat (simp (disch := omega) only [wrapI64, dleN, dltN, dleI, dltI]; try simp only [↓wR, RA, simprocAttr, TF, CD0, h5])
              exact ⟨(i + 1, some m), ⟨hlt, hstep, hb⟩, by simp; omega, by (first | rfl | trivial | omega | (simp (disch := omega) only [wrapI64]; first | done | rfl | (simp only [List.cons.injEq, accV_snoc, accO_snoc, List.length_append, List.length_cons, List.length_nil, List.map_append, List.map_cons, List.map_nil, and_true, true_and, and_self, AV.sc.injEq, AV.sl.injEq, AObj.row.injEq, Option.some.injEq, Value.int.injEq, Nat.zero_add]; first | done | rfl | omega)) | (simp only [List.cons.injEq, accV_snoc, accO_snoc, List.length_append, List.length_cons, List.length_nil, List.map_append, List.map_cons, List.map_nil, and_true, true_and, and_self, AV.sc.injEq, AV.sl.injEq, AObj.row.injEq, Option.some.injEq, Value.int.injEq, Nat.zero_add]; first | done | rfl | omega)), by (first | rfl | trivial | omega | (simp (disch := omega) only [wrapI64]; first | done | rfl | (simp only [List.cons.injEq, accV_snoc, accO_snoc, List.length_append, List.length_cons, List.length_nil, List.map_append, List.map_cons, List.map_nil, and_true, true_and, and_self, AV.sc.injEq, AV.sl.injEq, AObj.row.injEq, Option.some.injEq, Value.int.injEq, Nat.zero_add]; first | done | rfl | omega)) | (simp only [List.cons.injEq, accV_snoc, accO_snoc, List.length_append, List.length_cons, List.length_nil, List.map_append, List.map_cons, List.map_nil, and_true, true_and, and_self, AV.sc.injEq, AV.sl.injEq, AObj.row.injEq, Option.some.injEq, Value.int.injEq, Nat.zero_add]; first | done | rfl | omega))⟩
        · have hb2 : cutStep z n b c = b := by simp [cutStep, h4]
          rw [hb2] at hstep
          simp only [↓wR, RA, simprocAttr, TF, CD0, h4]; repeat (simp (disch := omega) only [wrapI64, dleN, dltN, dleI, dltI]; try simp only [↓wR, RA, simprocAttr, TF, CD0, h4])
          exact ⟨(i + 1, b), ⟨hlt, hstep, hb⟩, by simp; omega, by (first | rfl | trivial | omega | (simp (disch := omega) only [wrapI64]; first | done | rfl | (simp only [List.cons.injEq, accV_snoc, accO_snoc, List.length_append, List.length_cons, List.length_nil, List.map_append, List.map_cons, List.map_nil, and_true, true_and, and_self, AV.sc.injEq, AV.sl.injEq, AObj.row.injEq, Option.some.injEq, Value.int.injEq, Nat.zero_add]; first | done | rfl | omega)) | (simp only [List.cons.injEq, accV_snoc, accO_snoc, List.length_append, List.length_cons, List.length_nil, List.map_append, List.map_cons, List.map_nil, and_true, true_and, and_self, AV.sc.injEq, AV.sl.injEq, AObj.row.injEq, Option.some.injEq, Value.int.injEq, Nat.zero_add]; first | done | rfl | omega)), by (first | rfl | trivial | omega | (simp (disch := omega) only [wrapI64]; first | done | rfl | (simp only [List.cons.injEq, accV_snoc, accO_snoc, List.length_append, List.length_cons, List.length_nil, List.map_append, List.map_cons, List.map_nil, and_true, true_and, and_self, AV.sc.injEq, AV.sl.injEq, AObj.row.injEq, Option.some.injEq, Value.int.injEq, Nat.zero_add]; first | done | rfl | omega)) | (simp only [List.cons.injEq, accV_snoc, accO_snoc, List.length_append, List.length_cons, List.length_nil, List.map_append, List.map_cons, List.map_nil, and_true, true_and, and_self, AV.sc.injEq, AV.sl.injEq, AObj.row.injEq, Option.some.injEq, Value.int.injEq, Nat.zero_add]; first | done | rfl | omega))⟩
      · have hb2 : cutStep z n b c = b := by simp [cutStep, h3]
        rw [hb2] at hstep
        simp only [↓wR, RA, simprocAttr, TF, CD0, h3]; repeat (simp (disch := omega) only [wrapI64, dleN, dltN, dleI, dltI]; try simp only [↓wR, RA, simprocAttr, TF, CD0, h3])
        exact ⟨(i + 1, b), ⟨hlt, hstep, hb⟩, by simp; omega, by (first | rfl | trivial | omega | (simp (disch := omega) only [wrapI64]; first | done | rfl | (simp only [List.cons.injEq, accV_snoc, accO_snoc, List.length_append, List.length_cons, List.length_nil, List.map_append, List.map_cons, List.map_nil, and_true, true_and, and_self, AV.sc.injEq, AV.sl.injEq, AObj.row.injEq, Option.some.injEq, Value.int.injEq, Nat.zero_add]; first | done | rfl | omega)) | (simp only [List.cons.injEq, accV_snoc, accO_snoc, List.length_append, List.length_cons, List.length_nil, List.map_append, List.map_cons, List.map_nil, and_true, true_and, and_self, AV.sc.injEq, AV.sl.injEq, AObj.row.injEq, Option.some.injEq, Value.int.injEq, Nat.zero_add]; first | done | rfl | omega)), by (first | rfl | trivial | omega | (simp (disch := omega) only [wrapI64]; first | done | rfl | (simp only [List.cons.injEq, accV_snoc, accO_snoc, List.length_append, List.length_cons, List.length_nil, List.map_append, List.map_cons, List.map_nil, and_true, true_and, and_self, AV.sc.injEq, AV.sl.injEq, AObj.row.injEq, Option.some.injEq, Value.int.injEq, Nat.zero_add]; first | done | rfl | omega)) | (simp only [List.cons.injEq, accV_snoc, accO_snoc, List.length_append, List.length_cons, List.length_nil, List.map_append, List.map_cons, List.map_nil, and_true, true_and, and_self, AV.sc.injEq, AV.sl.injEq, AObj.row.injEq, Option.some.injEq, Value.int.injEq, Nat.zero_add]; first | done | rfl | omega))⟩
    · have e2 : ¬ (c.type.toNat : Int) = 2 := by simpa using h2
      have hb2 : cutStep z n b c = b := by simp [cutStep, e2]
      rw [hb2] at hstep
      simp only [↓wR, RA, simprocAttr, TF, CD0, h2]; repeat (simp (disch := omega) only [wrapI64, dleN, dltN, dleI, dltI]; try simp only [↓wR, RA, simprocAttr, TF, CD0, h2])
      exact ⟨(i + 1, b), ⟨hlt, hstep, hb⟩, by simp; omega, by (first | rfl | trivial | omega | (simp (disch := omega) only [wrapI64]; first | done | rfl | (simp only [List.cons.injEq, accV_snoc, accO_snoc, List.length_append, List.length_cons, List.length_nil, List.map_append, List.map_cons, List.map_nil, and_true, true_and, and_self, AV.sc.injEq, AV.sl.injEq, AObj.row.injEq, Option.some.injEq, Value.int.injEq, Nat.zero_add]; first | done | rfl | omega)) | (simp only [List.cons.injEq, accV_snoc, accO_snoc, List.length_append, List.length_cons, List.length_nil, List.map_append, List.map_cons, List.map_nil, and_true, true_and, and_self, AV.sc.injEq, AV.sl.injEq, AObj.row.injEq, Option.some.injEq, Value.int.injEq, Nat.zero_add]; first | done | rfl | omega)), by (first | rfl | trivial | omega | (simp (disch := omega) only [wrapI64]; first | done | rfl | (simp only [List.cons.injEq, accV_snoc, accO_snoc, List.length_append, List.length_cons, List.length_nil, List.map_append, List.map_cons, List.map_nil, and_true, true_and, and_self, AV.sc.injEq, AV.sl.injEq, AObj.row.injEq, Option.some.injEq, Value.int.injEq, Nat.zero_add]; first | done | rfl | omega)) | (simp only [List.cons.injEq, accV_snoc, accO_snoc, List.length_append, List.length_cons, List.length_nil, List.map_append, List.map_cons, List.map_nil, and_true, true_and, and_self, AV.sc.injEq, AV.sl.injEq, AObj.row.injEq, Option.some.injEq, Value.int.injEq, Nat.zero_add]; first | done | rfl | omega))⟩
  · rw [at_ge h] at hx
    simp only [↓wR, RA, simprocAttr, TF, CD0, h]
    cases b with
    | none =>
      have hc0 : cutV z n = none := hx
      simp only [↓wR, RA, simprocAttr, TF, CD0, Option.isSome_none]
      rw [hc0]
      rfl
    | some m =>
      have hc0 : cutV z n = some m := hx
      simp only [↓wR, RA, simprocAttr, TF, CD0, nameCopyF, hb m rfl]
      rw [hc0]
      rfl
noncomputable def zCutF (x : RZone × Name × Unit) : Option AV := if smallZ x.1 ∧ smallN x.2.1 then some ((r2 codName codBool).E true (((cutV x.1 x.2.1).getD [], (cutV x.1 x.2.1).isSome))) else none
set_option maxRecDepth 2000000 in
theorem zCut_pure (x : RZone × Name × Unit) (r : AV) (h : zCutF x = some r) : CallPure PP 15 ((aC codZone (aC codName a0)).E x) r := by
  by_cases hc : smallZ x.1 ∧ smallN x.2.1
  case neg => simp only [zCutF, if_neg hc] at h; cases h
  simp only [zCutF, if_pos hc] at h
  cases h
  exact callPure_wl (TabOk.cons (pure_entry nameUnder_pure) (TabOk.cons (pure_entry zUnder_pure) (TabOk.cons (pure_entry nameCopy_pure) (TabOk.nil PP)))) Tryz.func15 (by kernel_rfl) (by kernel_rfl) (by kernel_rfl) (Nat.le_of_ble_eq_true (by kernel_rfl)) (r2 codName codBool) true (((cutV x.1 x.2.1).getD [], (cutV x.1 x.2.1).isSome)) (cut_wl x.1 x.2.1 hc.1 hc.2)
noncomputable abbrev zCut : Nat × Bool × (List AV → M AV) := (15, true, pureM (aC codZone (aC codName a0)) zCutF)
end Go.Proofs.YtcndpdkcagkdaabGreat
end
section
set_option linter.unusedSimpArgs false
set_option linter.unusedVariables false
namespace Go.Proofs.YtcndpdkcagkdaabGreat
open Go.Vm
set_option maxRecDepth 2000000
def hasZ (z : RZone) (n : Name) : Bool := underN n z.origin && (sameN n z.origin || z.sets.any fun s => underN s.owner n)
theorem hasZ_wl (z : RZone) (n : Name) (hz : smallZ z) (hn : smallN n) : wl PP [nameUnder, nameSame] 0 (Tryz.f9.body.getD .skip) (retQ PP Tryz.f9.results.toList (fun r st => (r1 codBool).get true st.h r = some (hasZ z n))) (argsL 0 [codZone.val false z, codName.val false n]) (stK []) := by
  have hl := hz.len
  unfold Tryz.f9
  simp only [codZone_val, codName_val]
  simp only [↓wR, RA, simprocAttr, TF, CD0, nameUnderF, hn, hz.origin]
  unfold hasZ
  rw [boolK_b]; refine ⟨fun h => ?_, fun h => ?_⟩
  · have h' : underN n z.origin = false := by simpa using h
    simp only [↓wR, RA, simprocAttr, TF, CD0, h, h']
    rfl
  have h' : underN n z.origin = true := by simpa using h
  simp only [↓wR, RA, simprocAttr, TF, CD0, h, h', nameSameF, hn, hz.origin]
  rw [boolK_b]; refine ⟨fun h2 => ?_, fun h2 => ?_⟩
  · simp only [↓wR, RA, simprocAttr, TF, CD0, h2]
  simp only [↓wR, RA, simprocAttr, TF, CD0, h2]
  refine callAt_of_wl (T := []) (TabOk.nil PP) mixed Tryz.func20 rfl (by kernel_rfl) (by kernel_rfl) (by kernel_rfl) (by kernel_rfl) ?_; unfold Tryz.f20
  simp only [↓wR, RA, simprocAttr, TF, CD0]
  refine callAt_of_wl (T := []) (TabOk.nil PP) mixed Tryz.func33 rfl (by kernel_rfl) (by kernel_rfl) (by kernel_rfl) (by kernel_rfl) ?_; unfold Tryz.f33
  simp only [↓wR, RA, simprocAttr, TF, CD0]
  refine loop_of [0, 1, 7, 8] (fun (i : Nat) => [.vl false 5 (z.sets.map (codSet.val false)), .fn (.func 21) [] [.ptr 1 0], .sc (.int .i64 (z.sets.length)), .sc (.int .i64 (i))]) (fun _ => [some (.row [.vl false 1 (z.origin.map (codStr.val false)), .vl false 5 (z.sets.map (codSet.val false))] 0 2 26), some (.row [.vl false 1 (n.map (codStr.val false))] 0 2 23)]) (fun i => i ≤ z.sets.length ∧ (z.sets.any fun s => underN s.owner n) = ((z.sets.drop i).any fun s => underN s.owner n)) (fun i => z.sets.length - i) 0 ⟨Nat.zero_le _, rfl⟩ (by simp only [↓wR, RA, simprocAttr, TF, CD0] <;> rfl) (by simp only [↓wR, RA, simprocAttr, TF, CD0] <;> rfl) ?_
  rintro i ⟨hi, hx⟩
  simp only [↓wR, RA, simprocAttr, TF, CD0]
  rw [boolK_d]; refine ⟨fun h3 => ?_, fun h3 => ?_⟩
  · obtain ⟨c, hc, hd1, hlt⟩ := at_lt (decide_eq_true h3)
    rw [hd1, List.any_cons] at hx
    have hcs := hz.set c (List.mem_of_getElem? hc)
    simp only [↓wR, RA, simprocAttr, TF, CD0, h3, hc]; repeat (simp (disch := omega) only [wrapI64, dleN, dltN, dleI, dltI]; try simp only [↓wR, RA, simprocAttr, TF, CD0, h3, hc])
    refine callAt_of_wl (T := [nameUnder]) (TabOk.cons (pure_entry nameUnder_pure) (TabOk.nil PP)) mixed Tryz.func21 rfl (by kernel_rfl) (by kernel_rfl) (by kernel_rfl) (by kernel_rfl) ?_; unfold Tryz.f21
    simp only [↓wR, RA, simprocAttr, TF, CD0, nameUnderF, hcs.owner, hn]
    rw [boolK_b]; refine ⟨fun h4 => ?_, fun h4 => ?_⟩
    · rw [h4, Bool.true_or] at hx
      simp only [↓wR, RA, simprocAttr, TF, CD0, h4]
      rw [hx]
    · rw [h4, Bool.false_or] at hx
      simp only [↓wR, RA, simprocAttr, TF, CD0, h4]; repeat (simp (disch := omega) only [wrapI64, dleN, dltN, dleI, dltI]; try simp only [↓wR, RA, simprocAttr, TF, CD0, h4])
      exact ⟨i + 1, ⟨hlt, hx⟩, by omega, by (first | rfl | trivial | omega | (simp (disch := omega) only [wrapI64]; first | done | rfl | (simp only [List.cons.injEq, accV_snoc, accO_snoc, List.length_append, List.length_cons, List.length_nil, List.map_append, List.map_cons, List.map_nil, and_true, true_and, and_self, AV.sc.injEq, AV.sl.injEq, AObj.row.injEq, Option.some.injEq, Value.int.injEq, Nat.zero_add]; first | done | rfl | omega)) | (simp only [List.cons.injEq, accV_snoc, accO_snoc, List.length_append, List.length_cons, List.length_nil, List.map_append, List.map_cons, List.map_nil, and_true, true_and, and_self, AV.sc.injEq, AV.sl.injEq, AObj.row.injEq, Option.some.injEq, Value.int.injEq, Nat.zero_add]; first | done | rfl | omega))⟩
  · rw [at_ge (decide_eq_false h3), List.any_nil] at hx
    simp only [↓wR, RA, simprocAttr, TF, CD0, h3]
    rw [hx] <;> rfl
noncomputable def zHasF (x : RZone × Name × Unit) : Option AV := if smallZ x.1 ∧ smallN x.2.1 then some ((r1 codBool).E true (hasZ x.1 x.2.1)) else none
set_option maxRecDepth 2000000 in
theorem zHas_pure (x : RZone × Name × Unit) (r : AV) (h : zHasF x = some r) : CallPure PP 9 ((aC codZone (aC codName a0)).E x) r := by
  by_cases hc : smallZ x.1 ∧ smallN x.2.1
  case neg => simp only [zHasF, if_neg hc] at h; cases h
  simp only [zHasF, if_pos hc] at h
  cases h
  exact callPure_wl (TabOk.cons (pure_entry nameUnder_pure) (TabOk.cons (pure_entry nameSame_pure) (TabOk.nil PP))) Tryz.func9 (by kernel_rfl) (by kernel_rfl) (by kernel_rfl) (Nat.le_of_ble_eq_true (by kernel_rfl)) (r1 codBool) true (hasZ x.1 x.2.1) (hasZ_wl x.1 x.2.1 hc.1 hc.2)
noncomputable abbrev zHas : Nat × Bool × (List AV → M AV) := (9, true, pureM (aC codZone (aC codName a0)) zHasF)
theorem isNaNT_wl (t : UInt16) : wl PP [] 0 (Tryz.f96.body.getD .skip) (retQ PP Tryz.f96.results.toList (fun r st => (r1 codBool).get true st.h r = some false)) (argsL 0 [codU16.val false t]) (stK []) := by
  unfold Tryz.f96
  simp only [↓wR, RA, simprocAttr, TF, CD0, bne_self_eq_false]
noncomputable def isNaNTF (x : UInt16 × Unit) : Option AV := some ((r1 codBool).E true (false))
set_option maxRecDepth 2000000 in
theorem isNaNT_pure (x : UInt16 × Unit) (r : AV) (h : isNaNTF x = some r) : CallPure PP 96 ((aC codU16 a0).E x) r := by
  cases h
  exact callPure_wl (TabOk.nil PP) Tryz.func96 (by kernel_rfl) (by kernel_rfl) (by kernel_rfl) (Nat.le_of_ble_eq_true (by kernel_rfl)) (r1 codBool) true (false) (isNaNT_wl x.1)
noncomputable abbrev isNaNT : Nat × Bool × (List AV → M AV) := (96, true, pureM (aC codU16 a0) isNaNTF)
def cmpT (a b : UInt16) : Int := if (a.toNat : Int) < b.toNat then -1 else if (b.toNat : Int) < a.toNat then 1 else 0
theorem cmpT_wl (a b : UInt16) : wl PP [isNaNT] 0 (Tryz.f79.body.getD .skip) (retQ PP Tryz.f79.results.toList (fun r st => (r1 (codInt .i64)).get true st.h r = some (cmpT a b))) (argsL 0 [codU16.val false a, codU16.val false b]) (stK []) := by
  unfold Tryz.f79
  unfold cmpT
  simp only [↓wR, RA, simprocAttr, TF, CD0, isNaNTF]
  rw [boolK_d]; refine ⟨fun h => ?_, fun h => ?_⟩
  · rw [if_pos h]
    simp only [↓wR, RA, simprocAttr, TF, CD0, h]
  · rw [if_neg h]
    simp only [↓wR, RA, simprocAttr, TF, CD0, h]
    rw [boolK_d]; refine ⟨fun h2 => ?_, fun h2 => ?_⟩
    · rw [if_pos h2]
      simp only [↓wR, RA, simprocAttr, TF, CD0, h2]
    · rw [if_neg h2]
      simp only [↓wR, RA, simprocAttr, TF, CD0, h2]
noncomputable def cmpTCF (x : UInt16 × UInt16 × Unit) : Option AV := some ((r1 (codInt .i64)).E true (cmpT x.1 x.2.1))
set_option maxRecDepth 2000000 in
theorem cmpTC_pure (x : UInt16 × UInt16 × Unit) (r : AV) (h : cmpTCF x = some r) : CallPure PP 79 ((aC codU16 (aC codU16 a0)).E x) r := by
  cases h
  exact callPure_wl (TabOk.cons (pure_entry isNaNT_pure) (TabOk.nil PP)) Tryz.func79 (by kernel_rfl) (by kernel_rfl) (by kernel_rfl) (Nat.le_of_ble_eq_true (by kernel_rfl)) (r1 (codInt .i64)) true (cmpT x.1 x.2.1) (cmpT_wl x.1 x.2.1)
noncomputable abbrev cmpTC : Nat × Bool × (List AV → M AV) := (79, true, pureM (aC codU16 (aC codU16 a0)) cmpTCF)
def orV : List Int → Int
  | [] => 0
  | a :: r => if a ≠ 0 then a else orV r
theorem or_wl (l : List Int) (hl : l.length ≤ 16777216) : wl PP [] 0 (Tryz.f77.body.getD .skip) (retQ PP Tryz.f77.results.toList (fun r st => (r1 (codInt .i64)).get true st.h r = some (orV l))) (argsL 0 [(codL (codInt .i64)).val false l]) (stK []) := by
  unfold Tryz.f77
  rw [codL_val]
  simp only [↓wR, RA, simprocAttr, TF, CD0]
  refine loop_of [3, 6, 7, 8] (fun (i : Nat) => [.sc (.int .i64 (0)), .vl false 1 (l.map ((codInt .i64).val false)), .sc (.int .i64 (l.length)), .sc (.int .i64 (i))]) (fun _ => []) (fun i => i ≤ l.length ∧ orV l = orV (l.drop i)) (fun i => l.length - i) 0 ⟨Nat.zero_le _, rfl⟩ (by simp only [↓wR, RA, simprocAttr, TF, CD0] <;> rfl) (by simp only [↓wR, RA, simprocAttr, TF, CD0] <;> rfl) ?_
  rintro i ⟨hi, hx⟩
  simp only [↓wR, RA, simprocAttr, TF, CD0]
  rw [boolK_d]; refine ⟨fun h => ?_, fun h => ?_⟩
  · obtain ⟨c, hc, hd1, hlt⟩ := at_lt (decide_eq_true h)
    rw [hd1, orV] at hx
    simp only [↓wR, RA, simprocAttr, TF, CD0, h, hc]
    rw [boolK_neI]; refine ⟨fun ⟨h2, e2⟩ => ?_, fun ⟨h2, e2⟩ => ?_⟩
    · rw [if_pos e2] at hx
      simp only [↓wR, RA, simprocAttr, TF, CD0, h2]
      rw [hx]
    · rw [if_neg (by omega)] at hx
      simp only [↓wR, RA, simprocAttr, TF, CD0, h2]; repeat (simp (disch := omega) only [wrapI64, dleN, dltN, dleI, dltI]; try simp only [↓wR, RA, simprocAttr, TF, CD0, h2])
      exact ⟨i + 1, ⟨hlt, hx⟩, by omega, by (first | rfl | trivial | omega | (simp (disch := omega) only [wrapI64]; first | done | rfl | (simp only [List.cons.injEq, accV_snoc, accO_snoc, List.length_append, List.length_cons, List.length_nil, List.map_append, List.map_cons, List.map_nil, and_true, true_and, and_self, AV.sc.injEq, AV.sl.injEq, AObj.row.injEq, Option.some.injEq, Value.int.injEq, Nat.zero_add]; first | done | rfl | omega)) | (simp only [List.cons.injEq, accV_snoc, accO_snoc, List.length_append, List.length_cons, List.length_nil, List.map_append, List.map_cons, List.map_nil, and_true, true_and, and_self, AV.sc.injEq, AV.sl.injEq, AObj.row.injEq, Option.some.injEq, Value.int.injEq, Nat.zero_add]; first | done | rfl | omega))⟩
  · rw [at_ge (decide_eq_false h)] at hx
    simp only [↓wR, RA, simprocAttr, TF, CD0, h]
    rw [hx]; rfl
noncomputable def orCF (x : List Int × Unit) : Option AV := if x.1.length ≤ 16777216 then some ((r1 (codInt .i64)).E true (orV x.1)) else none
set_option maxRecDepth 2000000 in
theorem orC_pure (x : List Int × Unit) (r : AV) (h : orCF x = some r) : CallPure PP 77 ((aC (codL (codInt .i64)) a0).E x) r := by
  by_cases hc : x.1.length ≤ 16777216
  case neg => simp only [orCF, if_neg hc] at h; cases h
  simp only [orCF, if_pos hc] at h
  cases h
  exact callPure_wl (TabOk.nil PP) Tryz.func77 (by kernel_rfl) (by kernel_rfl) (by kernel_rfl) (Nat.le_of_ble_eq_true (by kernel_rfl)) (r1 (codInt .i64)) true (orV x.1) (or_wl x.1 hc)
noncomputable abbrev orC : Nat × Bool × (List AV → M AV) := (77, true, pureM (aC (codL (codInt .i64)) a0) orCF)
noncomputable def cmpSets (a b : RSet) : Int := orV [cmpN a.owner b.owner, cmpT a.type b.type]
theorem compare_wl (a b : RSet) (ha : smallS a) (hb : smallS b) : wl PP [nameCompare, cmpTC, orC] 0 (Tryz.f62.body.getD .skip) (retQ PP Tryz.f62.results.toList (fun r st => (r1 (codInt .i64)).get true st.h r = some (cmpSets a b))) (argsL 0 [codSet.val false a, codSet.val false b]) (stK []) := by
  unfold Tryz.f62
  simp only [codSet_val]
  simp only [↓wR, RA, simprocAttr, TF, CD0]
  refine ⟨by kernel_rfl, .inl ?_⟩
  simp only [↓wR, RA, simprocAttr, TF, CD0, nameCompareF, cmpTCF, orCF, ha.owner, hb.owner]
  exact ⟨by kernel_rfl, rfl⟩
noncomputable def zCompareF (x : RSet × RSet × Unit) : Option AV := if smallS x.1 ∧ smallS x.2.1 then some ((r1 (codInt .i64)).E true (cmpSets x.1 x.2.1)) else none
set_option maxRecDepth 2000000 in
theorem zCompare_pure (x : RSet × RSet × Unit) (r : AV) (h : zCompareF x = some r) : CallPure PP 62 ((aC codSet (aC codSet a0)).E x) r := by
  by_cases hc : smallS x.1 ∧ smallS x.2.1
  case neg => simp only [zCompareF, if_neg hc] at h; cases h
  simp only [zCompareF, if_pos hc] at h
  cases h
  exact callPure_wl (TabOk.cons (pure_entry nameCompare_pure) (TabOk.cons (pure_entry cmpTC_pure) (TabOk.cons (pure_entry orC_pure) (TabOk.nil PP)))) Tryz.func62 (by kernel_rfl) (by kernel_rfl) (by kernel_rfl) (Nat.le_of_ble_eq_true (by kernel_rfl)) (r1 (codInt .i64)) true (cmpSets x.1 x.2.1) (compare_wl x.1 x.2.1 hc.1 hc.2)
noncomputable abbrev zCompare : Nat × Bool × (List AV → M AV) := (62, true, pureM (aC codSet (aC codSet a0)) zCompareF)
end Go.Proofs.YtcndpdkcagkdaabGreat
end
section
set_option linter.unusedSimpArgs false
set_option linter.unusedVariables false
namespace Go.Proofs.YtcndpdkcagkdaabGreat
open Go.Vm
set_option maxRecDepth 2000000
noncomputable def risesD (t : UInt16) : List RData → Bool
  | a :: b :: r => if 0 ≤ cmpD t a b then false else risesD t (b :: r)
  | _ => true
noncomputable def risesV (z : RZone) (i : Nat) (s : RSet) : Bool :=
  (match i with | 0 => true | k + 1 => match z.sets[k]? with | some a => decide (¬ (cmpSets a s ≥ 0)) | none => true) && risesD s.type s.data
theorem toNat_succ (k : Nat) : ((k : Int) + 1).toNat = k + 1 := by omega
theorem succ_nn (k : Nat) : (0 : Int) ≤ (k : Int) + 1 := by omega
theorem risesD_at (t : UInt16) {l : List RData} {k : Nat} {a b : RData} (ha : l[k]? = some a) (hb : l[k + 1]? = some b) : risesD t (l.drop k) = if 0 ≤ cmpD t a b then false else risesD t (l.drop (k + 1)) := by
  rw [drop_at ha, drop_at hb]; rfl
theorem risesD_end (t : UInt16) {l : List RData} {k : Nat} (h : l.length ≤ k + 1) : risesD t (l.drop k) = true := by
  have : (l.drop k).length ≤ 1 := by rw [List.length_drop]; omega
  match hd : l.drop k with
  | [] => rfl
  | [a] => rfl
  | a :: b :: r => rw [hd] at this; simp at this
theorem rises_wl (l : RLook) (i : Nat) (s : RSet) (hz : smallZ l.z) (hs : smallS s) (hi : i ≤ l.z.sets.length) : wl PP [zCompare, dataCompare] 0 (Tryz.f40.body.getD .skip) (retQ PP Tryz.f40.results.toList (fun r st => (r1 codBool).get true st.h r = some (risesV l.z i s))) (argsL 0 [.cptr (codLook.cells false l), (codInt .i64).val false i, codSet.val false s]) (stK []) := by
  have hd := hs.data
  have hn := hd.len
  have hl := hz.len
  unfold Tryz.f40
  simp only [codSet_val]
  simp only [↓wR, RA, simprocAttr, TF, CD0, codLook_cellsx]
  refine ⟨by kernel_rfl, .inl ?_⟩
  rw [boolK_d]; refine ⟨fun h => ?_, fun h => ?_⟩
  · cases i with
    | zero => omega
    | succ k =>
    obtain ⟨a, ha⟩ : ∃ a, l.z.sets[k]? = some a := ⟨_, List.getElem?_eq_getElem (by omega)⟩
    have has := hz.set a (List.mem_of_getElem? ha)
    simp only [↓wR, RA, simprocAttr, TF, CD0, h, ha, Int.natCast_add, Int.add_sub_cancel, zCompareF, has, hs]; repeat (simp (disch := omega) only [wrapI64, dleN, dltN, dleI, dltI]; try simp only [↓wR, RA, simprocAttr, TF, CD0, h, ha, Int.natCast_add, Int.add_sub_cancel, zCompareF, has, hs])
    refine ⟨by kernel_rfl, ?_⟩
    rw [boolK_d]; refine ⟨fun h2 => ?_, fun h2 => ?_⟩
    · have hv : risesV l.z (k + 1) s = false := by simp only [risesV, ha]; simp [h2]
      simp only [↓wR, RA, simprocAttr, TF, CD0, h2]
      rw [hv]
    have hv : risesV l.z (k + 1) s = risesD s.type s.data := by simp only [risesV, ha]; simp [h2]
    clear ha
    simp only [↓wR, RA, simprocAttr, TF, CD0, h2]
    refine loop_of [5, 7] (fun (k : Nat) => [.ptr 0 0, .sc (.int .i64 ((k : Int) + 1))]) (fun _ => [some (.row [.vl false 1 (s.owner.map (codStr.val false)), .sc (.int .u16 s.type.toNat), .sc (.int .u16 s.cls.toNat), .sc (.int .u32 s.ttl.toNat), .vl false 4 (s.data.map (codData.val false))] 0 2 50)]) (fun k => (k = 0 ∨ k + 1 ≤ s.data.length) ∧ risesD s.type s.data = risesD s.type (s.data.drop k)) (fun k => s.data.length - k) 0 ⟨.inl rfl, rfl⟩ (by simp only [↓wR, RA, simprocAttr, TF, CD0] <;> rfl) (by simp only [↓wR, RA, simprocAttr, TF, CD0] <;> rfl) ?_
    rintro k ⟨hk, hx⟩
    simp only [↓wR, RA, simprocAttr, TF, CD0]
    rw [boolK_d]; refine ⟨fun h5 => ?_, fun h5 => ?_⟩
    · obtain ⟨a, ha⟩ : ∃ a, s.data[k]? = some a := ⟨_, List.getElem?_eq_getElem (by omega)⟩
      obtain ⟨b, hb⟩ : ∃ b, s.data[k + 1]? = some b := ⟨_, List.getElem?_eq_getElem (by omega)⟩
      rw [risesD_at _ ha hb] at hx
      have has := hd.mem a (List.mem_of_getElem? ha)
      have hbs := hd.mem b (List.mem_of_getElem? hb)
      simp only [↓wR, RA, simprocAttr, TF, CD0, h5]
      refine ⟨by kernel_rfl, .inl ?_⟩
      simp only [↓wR, RA, simprocAttr, TF, CD0, ha, hb, Int.add_sub_cancel, toNat_succ, succ_nn, dataCompareF, has, hbs]; repeat (simp (disch := omega) only [wrapI64, dleN, dltN, dleI, dltI]; try simp only [↓wR, RA, simprocAttr, TF, CD0, ha, hb, Int.add_sub_cancel, toNat_succ, succ_nn, dataCompareF, has, hbs])
      refine ⟨by kernel_rfl, ?_⟩
      rw [boolK_d]; refine ⟨fun h6 => ?_, fun h6 => ?_⟩
      · rw [if_pos h6] at hx
        simp only [↓wR, RA, simprocAttr, TF, CD0, h6]
        rw [hv, hx]
      · rw [if_neg h6] at hx
        simp only [↓wR, RA, simprocAttr, TF, CD0, h6]; repeat (simp (disch := omega) only [wrapI64, dleN, dltN, dleI, dltI]; try simp only [↓wR, RA, simprocAttr, TF, CD0, h6])
        exact ⟨k + 1, ⟨.inr (by omega), hx⟩, by omega, by (first | rfl | trivial | omega | (simp (disch := omega) only [wrapI64]; first | done | rfl | (simp only [List.cons.injEq, accV_snoc, accO_snoc, List.length_append, List.length_cons, List.length_nil, List.map_append, List.map_cons, List.map_nil, and_true, true_and, and_self, AV.sc.injEq, AV.sl.injEq, AObj.row.injEq, Option.some.injEq, Value.int.injEq, Nat.zero_add]; first | done | rfl | omega)) | (simp only [List.cons.injEq, accV_snoc, accO_snoc, List.length_append, List.length_cons, List.length_nil, List.map_append, List.map_cons, List.map_nil, and_true, true_and, and_self, AV.sc.injEq, AV.sl.injEq, AObj.row.injEq, Option.some.injEq, Value.int.injEq, Nat.zero_add]; first | done | rfl | omega))⟩
    · rw [risesD_end _ (by omega)] at hx
      simp only [↓wR, RA, simprocAttr, TF, CD0, h5]
      rw [hv, hx]
  · simp only [↓wR, RA, simprocAttr, TF, CD0, h]
    have hi0 : i = 0 := by omega
    have hv : risesV l.z i s = risesD s.type s.data := by rw [hi0]; simp [risesV]
    refine ⟨by kernel_rfl, ?_⟩
    refine loop_of [5, 7] (fun (k : Nat) => [.ptr 0 0, .sc (.int .i64 ((k : Int) + 1))]) (fun _ => [some (.row [.vl false 1 (s.owner.map (codStr.val false)), .sc (.int .u16 s.type.toNat), .sc (.int .u16 s.cls.toNat), .sc (.int .u32 s.ttl.toNat), .vl false 4 (s.data.map (codData.val false))] 0 2 50)]) (fun k => (k = 0 ∨ k + 1 ≤ s.data.length) ∧ risesD s.type s.data = risesD s.type (s.data.drop k)) (fun k => s.data.length - k) 0 ⟨.inl rfl, rfl⟩ (by simp only [↓wR, RA, simprocAttr, TF, CD0] <;> rfl) (by simp only [↓wR, RA, simprocAttr, TF, CD0] <;> rfl) ?_
    rintro k ⟨hk, hx⟩
    simp only [↓wR, RA, simprocAttr, TF, CD0]
    rw [boolK_d]; refine ⟨fun h5 => ?_, fun h5 => ?_⟩
    · obtain ⟨a, ha⟩ : ∃ a, s.data[k]? = some a := ⟨_, List.getElem?_eq_getElem (by omega)⟩
      obtain ⟨b, hb⟩ : ∃ b, s.data[k + 1]? = some b := ⟨_, List.getElem?_eq_getElem (by omega)⟩
      rw [risesD_at _ ha hb] at hx
      have has := hd.mem a (List.mem_of_getElem? ha)
      have hbs := hd.mem b (List.mem_of_getElem? hb)
      simp only [↓wR, RA, simprocAttr, TF, CD0, h5]
      refine ⟨by kernel_rfl, .inl ?_⟩
      simp only [↓wR, RA, simprocAttr, TF, CD0, ha, hb, Int.add_sub_cancel, toNat_succ, succ_nn, dataCompareF, has, hbs]; repeat (simp (disch := omega) only [wrapI64, dleN, dltN, dleI, dltI]; try simp only [↓wR, RA, simprocAttr, TF, CD0, ha, hb, Int.add_sub_cancel, toNat_succ, succ_nn, dataCompareF, has, hbs])
      refine ⟨by kernel_rfl, ?_⟩
      rw [boolK_d]; refine ⟨fun h6 => ?_, fun h6 => ?_⟩
      · rw [if_pos h6] at hx
        simp only [↓wR, RA, simprocAttr, TF, CD0, h6]
        rw [hv, hx]
      · rw [if_neg h6] at hx
        simp only [↓wR, RA, simprocAttr, TF, CD0, h6]; repeat (simp (disch := omega) only [wrapI64, dleN, dltN, dleI, dltI]; try simp only [↓wR, RA, simprocAttr, TF, CD0, h6])
        exact ⟨k + 1, ⟨.inr (by omega), hx⟩, by omega, by (first | rfl | trivial | omega | (simp (disch := omega) only [wrapI64]; first | done | rfl | (simp only [List.cons.injEq, accV_snoc, accO_snoc, List.length_append, List.length_cons, List.length_nil, List.map_append, List.map_cons, List.map_nil, and_true, true_and, and_self, AV.sc.injEq, AV.sl.injEq, AObj.row.injEq, Option.some.injEq, Value.int.injEq, Nat.zero_add]; first | done | rfl | omega)) | (simp only [List.cons.injEq, accV_snoc, accO_snoc, List.length_append, List.length_cons, List.length_nil, List.map_append, List.map_cons, List.map_nil, and_true, true_and, and_self, AV.sc.injEq, AV.sl.injEq, AObj.row.injEq, Option.some.injEq, Value.int.injEq, Nat.zero_add]; first | done | rfl | omega))⟩
    · rw [risesD_end _ (by omega)] at hx
      simp only [↓wR, RA, simprocAttr, TF, CD0, h5]
      rw [hv, hx]
theorem rises_wlI (l : RLook) (i : Int) (s : RSet) (hz : smallZ l.z) (hs : smallS s) (hi : 0 ≤ i ∧ i ≤ l.z.sets.length) : wl PP [zCompare, dataCompare] 0 (Tryz.f40.body.getD .skip) (retQ PP Tryz.f40.results.toList (fun r st => (r1 codBool).get true st.h r = some (risesV l.z i.toNat s))) (argsL 0 [.cptr (codLook.cells false l), (codInt .i64).val false i, codSet.val false s]) (stK []) := by
  have := rises_wl l i.toNat s hz hs (by omega)
  rwa [Int.toNat_of_nonneg hi.1] at this
noncomputable def zRisesF (x : RLook × Int × RSet × Unit) : Option AV := if (smallZ x.1.z ∧ smallS x.2.2.1) ∧ 0 ≤ x.2.1 ∧ x.2.1 ≤ x.1.z.sets.length then some ((r1 codBool).E true (risesV x.1.z x.2.1.toNat x.2.2.1)) else none
set_option maxRecDepth 2000000 in
theorem zRises_pure (x : RLook × Int × RSet × Unit) (r : AV) (h : zRisesF x = some r) : CallPure PP 40 ((aP codLook (aC (codInt .i64) (aC codSet a0))).E x) r := by
  by_cases hc : (smallZ x.1.z ∧ smallS x.2.2.1) ∧ 0 ≤ x.2.1 ∧ x.2.1 ≤ x.1.z.sets.length
  case neg => simp only [zRisesF, if_neg hc] at h; cases h
  simp only [zRisesF, if_pos hc] at h
  cases h
  exact callPure_wl (TabOk.cons (pure_entry zCompare_pure) (TabOk.cons (pure_entry dataCompare_pure) (TabOk.nil PP))) Tryz.func40 (by kernel_rfl) (by kernel_rfl) (by kernel_rfl) (Nat.le_of_ble_eq_true (by kernel_rfl)) (r1 codBool) true (risesV x.1.z x.2.1.toNat x.2.2.1) (rises_wlI x.1 x.2.1 x.2.2.1 hc.1.1 hc.1.2 hc.2)
noncomputable abbrev zRises : Nat × Bool × (List AV → M AV) := (40, true, pureM (aP codLook (aC (codInt .i64) (aC codSet a0))) zRisesF)
end Go.Proofs.YtcndpdkcagkdaabGreat
end
section
set_option linter.unusedSimpArgs false
set_option linter.unusedVariables false
namespace Go.Proofs.YtcndpdkcagkdaabGreat
open Go.Vm
set_option maxRecDepth 2000000
def otherAt (i : Nat) (n : Name) : Nat → List RSet → Bool
  | _, [] => false
  | k, o :: r => (decide (¬ (k : Int) = i) && sameN o.owner n) || otherAt i n (k + 1) r
def aloneV (z : RZone) (i : Nat) (s : RSet) : Bool :=
  if ¬ (s.type.toNat : Int) = 5 then true else if ¬ (s.data.length : Int) = 1 then false else if sameN s.owner z.origin = true then false else !otherAt i s.owner 0 z.sets
theorem alone_wl (l : RLook) (i : Nat) (s : RSet) (hz : smallZ l.z) (hs : smallS s) : wl PP [nameSame] 0 (Tryz.f45.body.getD .skip) (retQ PP Tryz.f45.results.toList (fun r st => (r1 codBool).get true st.h r = some (aloneV l.z i s))) (argsL 0 [.cptr (codLook.cells false l), (codInt .i64).val false i, codSet.val false s]) (stK []) := by
  have hl := hz.len
  unfold Tryz.f45
  simp only [codSet_val]
  simp only [↓wR, RA, simprocAttr, TF, CD0, codLook_cellsx]
  unfold aloneV
  rw [boolK_neI]; refine ⟨fun ⟨h, e⟩ => ?_, fun ⟨h, e⟩ => ?_⟩
  · rw [if_pos e]
    simp only [↓wR, RA, simprocAttr, TF, CD0, h]
  rw [if_neg (by omega)]
  simp only [↓wR, RA, simprocAttr, TF, CD0, h]
  refine ⟨by kernel_rfl, .inl ?_⟩
  rw [boolK_neI]; refine ⟨fun ⟨h2, e2⟩ => ?_, fun ⟨h2, e2⟩ => ?_⟩
  · rw [if_pos e2]
    simp only [↓wR, RA, simprocAttr, TF, CD0, h2]
    exact by kernel_rfl
  rw [if_neg (by omega)]
  simp only [↓wR, RA, simprocAttr, TF, CD0, h2, nameSameF, hs.owner, hz.origin]
  refine ⟨by kernel_rfl, ?_⟩
  rw [boolK_b]; refine ⟨fun h3 => ?_, fun h3 => ?_⟩
  · rw [if_pos h3]
    simp only [↓wR, RA, simprocAttr, TF, CD0, h3]
  rw [if_neg (by rw [h3]; decide)]
  simp only [↓wR, RA, simprocAttr, TF, CD0, h3]
  refine loop_of [1, 5, 30, 31, 32] (fun (k : Nat) => [.sc (.int .i64 (i)), .ptr 0 0, .vl false 5 (l.z.sets.map (codSet.val false)), .sc (.int .i64 (l.z.sets.length)), .sc (.int .i64 (k))]) (fun _ => [some (.row [.vl false 1 (s.owner.map (codStr.val false)), .sc (.int .u16 s.type.toNat), .sc (.int .u16 s.cls.toNat), .sc (.int .u32 s.ttl.toNat), .vl false 4 (s.data.map (codData.val false))] 0 2 50)]) (fun k => k ≤ l.z.sets.length ∧ otherAt i s.owner 0 l.z.sets = otherAt i s.owner k (l.z.sets.drop k)) (fun k => l.z.sets.length - k) 0 ⟨Nat.zero_le _, rfl⟩ (by simp only [↓wR, RA, simprocAttr, TF, CD0] <;> rfl) (by simp only [↓wR, RA, simprocAttr, TF, CD0] <;> rfl) ?_
  rintro k ⟨hk, hx⟩
  simp only [↓wR, RA, simprocAttr, TF, CD0]
  rw [boolK_d]; refine ⟨fun h4 => ?_, fun h4 => ?_⟩
  · obtain ⟨c, hc, hd1, hlt⟩ := at_lt (decide_eq_true h4)
    rw [hd1, otherAt] at hx
    have hcs := hz.set c (List.mem_of_getElem? hc)
    simp only [↓wR, RA, simprocAttr, TF, CD0, h4, hc]
    rw [boolK_neI]; refine ⟨fun ⟨h5, e5⟩ => ?_, fun ⟨h5, e5⟩ => ?_⟩
    · rw [decide_eq_true e5, Bool.true_and] at hx
      simp only [↓wR, RA, simprocAttr, TF, CD0, h5, nameSameF, hcs.owner, hs.owner]
      rw [boolK_b]; refine ⟨fun h6 => ?_, fun h6 => ?_⟩
      · rw [h6, Bool.true_or] at hx
        simp only [↓wR, RA, simprocAttr, TF, CD0, h6]
        rw [hx]; rfl
      · rw [h6, Bool.false_or] at hx
        simp only [↓wR, RA, simprocAttr, TF, CD0, h6]; repeat (simp (disch := omega) only [wrapI64, dleN, dltN, dleI, dltI]; try simp only [↓wR, RA, simprocAttr, TF, CD0, h6])
        exact ⟨k + 1, ⟨hlt, hx⟩, by omega, by (first | rfl | trivial | omega | (simp (disch := omega) only [wrapI64]; first | done | rfl | (simp only [List.cons.injEq, accV_snoc, accO_snoc, List.length_append, List.length_cons, List.length_nil, List.map_append, List.map_cons, List.map_nil, and_true, true_and, and_self, AV.sc.injEq, AV.sl.injEq, AObj.row.injEq, Option.some.injEq, Value.int.injEq, Nat.zero_add]; first | done | rfl | omega)) | (simp only [List.cons.injEq, accV_snoc, accO_snoc, List.length_append, List.length_cons, List.length_nil, List.map_append, List.map_cons, List.map_nil, and_true, true_and, and_self, AV.sc.injEq, AV.sl.injEq, AObj.row.injEq, Option.some.injEq, Value.int.injEq, Nat.zero_add]; first | done | rfl | omega))⟩
    · rw [decide_eq_false (by omega), Bool.false_and, Bool.false_or] at hx
      simp only [↓wR, RA, simprocAttr, TF, CD0, h5]; repeat (simp (disch := omega) only [wrapI64, dleN, dltN, dleI, dltI]; try simp only [↓wR, RA, simprocAttr, TF, CD0, h5])
      exact ⟨k + 1, ⟨hlt, hx⟩, by omega, by (first | rfl | trivial | omega | (simp (disch := omega) only [wrapI64]; first | done | rfl | (simp only [List.cons.injEq, accV_snoc, accO_snoc, List.length_append, List.length_cons, List.length_nil, List.map_append, List.map_cons, List.map_nil, and_true, true_and, and_self, AV.sc.injEq, AV.sl.injEq, AObj.row.injEq, Option.some.injEq, Value.int.injEq, Nat.zero_add]; first | done | rfl | omega)) | (simp only [List.cons.injEq, accV_snoc, accO_snoc, List.length_append, List.length_cons, List.length_nil, List.map_append, List.map_cons, List.map_nil, and_true, true_and, and_self, AV.sc.injEq, AV.sl.injEq, AObj.row.injEq, Option.some.injEq, Value.int.injEq, Nat.zero_add]; first | done | rfl | omega))⟩
  · rw [at_ge (decide_eq_false h4), otherAt] at hx
    simp only [↓wR, RA, simprocAttr, TF, CD0, h4]
    rw [hx]; rfl
theorem alone_wlI (l : RLook) (i : Int) (s : RSet) (hz : smallZ l.z) (hs : smallS s) (hi : 0 ≤ i) : wl PP [nameSame] 0 (Tryz.f45.body.getD .skip) (retQ PP Tryz.f45.results.toList (fun r st => (r1 codBool).get true st.h r = some (aloneV l.z i.toNat s))) (argsL 0 [.cptr (codLook.cells false l), (codInt .i64).val false i, codSet.val false s]) (stK []) := by
  have := alone_wl l i.toNat s hz hs
  rwa [Int.toNat_of_nonneg hi] at this
noncomputable def zAloneF (x : RLook × Int × RSet × Unit) : Option AV := if (smallZ x.1.z ∧ smallS x.2.2.1) ∧ 0 ≤ x.2.1 then some ((r1 codBool).E true (aloneV x.1.z x.2.1.toNat x.2.2.1)) else none
set_option maxRecDepth 2000000 in
theorem zAlone_pure (x : RLook × Int × RSet × Unit) (r : AV) (h : zAloneF x = some r) : CallPure PP 45 ((aP codLook (aC (codInt .i64) (aC codSet a0))).E x) r := by
  by_cases hc : (smallZ x.1.z ∧ smallS x.2.2.1) ∧ 0 ≤ x.2.1
  case neg => simp only [zAloneF, if_neg hc] at h; cases h
  simp only [zAloneF, if_pos hc] at h
  cases h
  exact callPure_wl (TabOk.cons (pure_entry nameSame_pure) (TabOk.nil PP)) Tryz.func45 (by kernel_rfl) (by kernel_rfl) (by kernel_rfl) (Nat.le_of_ble_eq_true (by kernel_rfl)) (r1 codBool) true (aloneV x.1.z x.2.1.toNat x.2.2.1) (alone_wlI x.1 x.2.1 x.2.2.1 hc.1.1 hc.1.2 hc.2)
noncomputable abbrev zAlone : Nat × Bool × (List AV → M AV) := (45, true, pureM (aP codLook (aC (codInt .i64) (aC codSet a0))) zAloneF)
def classV (s : RSet) : Bool := if ¬ (s.cls.toNat : Int) = 1 then false else if (s.type.toNat : Int) = 0 then false else if (s.type.toNat : Int) = 41 then false else !decide ((s.type.toNat : Int) = 255)
theorem class_wl (i : Int) (s : RSet) : wl PP [] 0 (Tryz.f41.body.getD .skip) (retQ PP Tryz.f41.results.toList (fun r st => (r1 codBool).get true st.h r = some (classV s))) (argsL 0 [(codInt .i64).val false i, codSet.val false s]) (stK []) := by
  unfold Tryz.f41
  simp only [codSet_val]
  simp only [↓wR, RA, simprocAttr, TF, CD0]
  unfold classV
  rw [boolK_eqI]; refine ⟨fun ⟨h, e⟩ => ?_, fun ⟨h, e⟩ => ?_⟩
  · rw [if_neg (by omega)]
    simp only [↓wR, RA, simprocAttr, TF, CD0, h]
    rw [boolK_neI]; refine ⟨fun ⟨h2, e2⟩ => ?_, fun ⟨h2, e2⟩ => ?_⟩
    · rw [if_neg e2]
      simp only [↓wR, RA, simprocAttr, TF, CD0, h2]
      rw [boolK_neI]; refine ⟨fun ⟨h3, e3⟩ => ?_, fun ⟨h3, e3⟩ => ?_⟩
      · rw [if_neg e3]
        simp only [↓wR, RA, simprocAttr, TF, CD0, h3]
        rfl
      · rw [if_pos e3]
        simp only [↓wR, RA, simprocAttr, TF, CD0, h3]
    · rw [if_pos e2]
      simp only [↓wR, RA, simprocAttr, TF, CD0, h2]
  · rw [if_pos e]
    simp only [↓wR, RA, simprocAttr, TF, CD0, h]
noncomputable def zClassF (x : Int × RSet × Unit) : Option AV := some ((r1 codBool).E true (classV x.2.1))
set_option maxRecDepth 2000000 in
theorem zClass_pure (x : Int × RSet × Unit) (r : AV) (h : zClassF x = some r) : CallPure PP 41 ((aC (codInt .i64) (aC codSet a0)).E x) r := by
  cases h
  exact callPure_wl (TabOk.nil PP) Tryz.func41 (by kernel_rfl) (by kernel_rfl) (by kernel_rfl) (Nat.le_of_ble_eq_true (by kernel_rfl)) (r1 codBool) true (classV x.2.1) (class_wl x.1 x.2.1)
noncomputable abbrev zClass : Nat × Bool × (List AV → M AV) := (41, true, pureM (aC (codInt .i64) (aC codSet a0)) zClassF)
theorem inside_wl (i : Int) (s : RSet) (z : RZone) (hs : smallS s) (hz : smallZ z) : wl PP [nameUnder] 0 (Tryz.f42.body.getD .skip) (retQ PP Tryz.f42.results.toList (fun r st => (r1 codBool).get true st.h r = some (underN s.owner z.origin))) (argsL 0 [(codInt .i64).val false i, codSet.val false s, .cptr (codZone.cells false z)]) (stK []) := by
  unfold Tryz.f42
  simp only [codSet_val]
  simp only [↓wR, RA, simprocAttr, TF, CD0, codZone_cellsx, nameUnderF, hs.owner, hz.origin]
noncomputable def zInsideF (x : Int × RSet × RZone × Unit) : Option AV := if smallS x.2.1 ∧ smallZ x.2.2.1 then some ((r1 codBool).E true (underN x.2.1.owner x.2.2.1.origin)) else none
set_option maxRecDepth 2000000 in
theorem zInside_pure (x : Int × RSet × RZone × Unit) (r : AV) (h : zInsideF x = some r) : CallPure PP 42 ((aC (codInt .i64) (aC codSet (aP codZone a0))).E x) r := by
  by_cases hc : smallS x.2.1 ∧ smallZ x.2.2.1
  case neg => simp only [zInsideF, if_neg hc] at h; cases h
  simp only [zInsideF, if_pos hc] at h
  cases h
  exact callPure_wl (TabOk.cons (pure_entry nameUnder_pure) (TabOk.nil PP)) Tryz.func42 (by kernel_rfl) (by kernel_rfl) (by kernel_rfl) (Nat.le_of_ble_eq_true (by kernel_rfl)) (r1 codBool) true (underN x.2.1.owner x.2.2.1.origin) (inside_wl x.1 x.2.1 x.2.2.1 hc.1 hc.2)
noncomputable abbrev zInside : Nat × Bool × (List AV → M AV) := (42, true, pureM (aC (codInt .i64) (aC codSet (aP codZone a0))) zInsideF)
end Go.Proofs.YtcndpdkcagkdaabGreat
end
section
set_option linter.unusedSimpArgs false
set_option linter.unusedVariables false
namespace Go.Proofs.YtcndpdkcagkdaabGreat
open Go.Vm
set_option maxRecDepth 2000000
def starV (s : RSet) : Bool := if ¬ (s.type.toNat : Int) = 2 then true else match s.owner[0]? with | none => true | some a => !decide (a = starS)
theorem star_wl (i : Int) (s : RSet) (hs : smallS s) : wl PP [] 0 (Tryz.f46.body.getD .skip) (retQ PP Tryz.f46.results.toList (fun r st => (r1 codBool).get true st.h r = some (starV s))) (argsL 0 [(codInt .i64).val false i, codSet.val false s]) (stK []) := by
  have hn := hs.owner.lt
  unfold Tryz.f46
  simp only [codSet_val]
  simp only [↓wR, RA, simprocAttr, TF, CD0]
  unfold starV
  rw [boolK_neI]; refine ⟨fun ⟨h, e⟩ => ?_, fun ⟨h, e⟩ => ?_⟩
  · rw [if_pos e]
    simp only [↓wR, RA, simprocAttr, TF, CD0, h]
  rw [if_neg (by omega)]
  simp only [↓wR, RA, simprocAttr, TF, CD0, h]
  rw [boolK_eqI]; refine ⟨fun ⟨h2, e2⟩ => ?_, fun ⟨h2, e2⟩ => ?_⟩
  · have hnil : s.owner = [] := List.eq_nil_of_length_eq_zero (by omega)
    have h0 : s.owner[0]? = none := by rw [hnil]; rfl
    rw [h0]
    simp only [↓wR, RA, simprocAttr, TF, CD0, h2]
  · obtain ⟨a, ha⟩ : ∃ a, s.owner[0]? = some a := ⟨_, List.getElem?_eq_getElem (by omega)⟩
    have h0 : 0 < s.owner.length := by omega
    rw [ha]
    simp only [↓wR, RA, simprocAttr, TF, CD0, h2, ha, h0]
    rfl
noncomputable def zStarF (x : Int × RSet × Unit) : Option AV := if smallS x.2.1 then some ((r1 codBool).E true (starV x.2.1)) else none
set_option maxRecDepth 2000000 in
theorem zStar_pure (x : Int × RSet × Unit) (r : AV) (h : zStarF x = some r) : CallPure PP 46 ((aC (codInt .i64) (aC codSet a0)).E x) r := by
  by_cases hc : smallS x.2.1
  case neg => simp only [zStarF, if_neg hc] at h; cases h
  simp only [zStarF, if_pos hc] at h
  cases h
  exact callPure_wl (TabOk.nil PP) Tryz.func46 (by kernel_rfl) (by kernel_rfl) (by kernel_rfl) (Nat.le_of_ble_eq_true (by kernel_rfl)) (r1 codBool) true (starV x.2.1) (star_wl x.1 x.2.1 hc)
noncomputable abbrev zStar : Nat × Bool × (List AV → M AV) := (46, true, pureM (aC (codInt .i64) (aC codSet a0)) zStarF)
def occV (z : RZone) (s : RSet) : Bool :=
  match cutV z s.owner with
  | none => true
  | some c => if (s.type.toNat : Int) = 1 then true else if (s.type.toNat : Int) = 28 then true else if (s.type.toNat : Int) = 2 then sameN c s.owner else false
theorem occ_wl (i : Int) (s : RSet) (z : RZone) (hs : smallS s) (hz : smallZ z) : wl PP [zCut, nameSame] 0 (Tryz.f47.body.getD .skip) (retQ PP Tryz.f47.results.toList (fun r st => (r1 codBool).get true st.h r = some (occV z s))) (argsL 0 [(codInt .i64).val false i, codSet.val false s, .cptr (codZone.cells false z)]) (stK []) := by
  have hsm := cut_small (n := s.owner) hz z.sets none (fun _ h => h) (fun m hm => by cases hm)
  change ∀ m, cutV z s.owner = some m → smallN m at hsm
  unfold Tryz.f47
  simp only [codSet_val]
  unfold occV
  cases hc : cutV z s.owner with
  | none =>
    simp only [↓wR, RA, simprocAttr, TF, CD0, codZone_cellsx, zCutF, hs.owner, hz, hc, Option.isSome_none]
    done
  | some c =>
    simp only [↓wR, RA, simprocAttr, TF, CD0, codZone_cellsx, zCutF, hs.owner, hz, hc]
    rw [boolK_eqI]; refine ⟨fun ⟨h, e⟩ => ?_, fun ⟨h, e⟩ => ?_⟩
    · rw [if_pos e]
      simp only [↓wR, RA, simprocAttr, TF, CD0, h]
    rw [if_neg e]
    simp only [↓wR, RA, simprocAttr, TF, CD0, h]
    rw [boolK_eqI]; refine ⟨fun ⟨h2, e2⟩ => ?_, fun ⟨h2, e2⟩ => ?_⟩
    · rw [if_pos e2]
      simp only [↓wR, RA, simprocAttr, TF, CD0, h2]
    rw [if_neg e2]
    simp only [↓wR, RA, simprocAttr, TF, CD0, h2]
    rw [boolK_eqI]; refine ⟨fun ⟨h3, e3⟩ => ?_, fun ⟨h3, e3⟩ => ?_⟩
    · rw [if_pos e3]
      simp only [↓wR, RA, simprocAttr, TF, CD0, h3, nameSameF, hs.owner, hsm c hc]
    · rw [if_neg e3]
      simp only [↓wR, RA, simprocAttr, TF, CD0, h3]
noncomputable def zOccF (x : Int × RSet × RZone × Unit) : Option AV := if smallS x.2.1 ∧ smallZ x.2.2.1 then some ((r1 codBool).E true (occV x.2.2.1 x.2.1)) else none
set_option maxRecDepth 2000000 in
theorem zOcc_pure (x : Int × RSet × RZone × Unit) (r : AV) (h : zOccF x = some r) : CallPure PP 47 ((aC (codInt .i64) (aC codSet (aP codZone a0))).E x) r := by
  by_cases hc : smallS x.2.1 ∧ smallZ x.2.2.1
  case neg => simp only [zOccF, if_neg hc] at h; cases h
  simp only [zOccF, if_pos hc] at h
  cases h
  exact callPure_wl (TabOk.cons (pure_entry zCut_pure) (TabOk.cons (pure_entry nameSame_pure) (TabOk.nil PP))) Tryz.func47 (by kernel_rfl) (by kernel_rfl) (by kernel_rfl) (Nat.le_of_ble_eq_true (by kernel_rfl)) (r1 codBool) true (occV x.2.2.1 x.2.1) (occ_wl x.1 x.2.1 x.2.2.1 hc.1 hc.2)
noncomputable abbrev zOcc : Nat × Bool × (List AV → M AV) := (47, true, pureM (aC (codInt .i64) (aC codSet (aP codZone a0))) zOccF)
def soaStep (z : RZone) (p : Nat × Nat) (s : RSet) : Nat × Nat :=
  if (s.type.toNat : Int) = 6 then (p.1 + 1, if (sameN s.owner z.origin && decide ((s.data.length : Int) = 1)) = true then p.2 + 1 else p.2) else p
def soasV (z : RZone) : Nat × Nat := z.sets.foldl (soaStep z) (0, 0)
theorem soas_wl (k : RLook) (hz : smallZ k.z) : wl PP [nameSame] 0 (Tryz.f43.body.getD .skip) (retQ PP Tryz.f43.results.toList (fun r st => (r2 (codInt .i64) (codInt .i64)).get true st.h r = some (((soasV k.z).1 : Int), ((soasV k.z).2 : Int)))) (argsL 0 [.cptr (codLook.cells false k)]) (stK []) := by
  have hl := hz.len
  unfold Tryz.f43
  simp only [↓wR, RA, simprocAttr, TF, CD0, codLook_cellsx]
  refine callAt_of_wl (T := []) (TabOk.nil PP) mixed Tryz.func29 rfl (by kernel_rfl) (by kernel_rfl) (by kernel_rfl) (by kernel_rfl) ?_; unfold Tryz.f29
  simp only [↓wR, RA, simprocAttr, TF, CD0]
  refine ⟨[1, 4, 5, 11], ?_⟩
  have hib : iterB PP 50 = some (Tryz.f50.ntmps, Tryz.f50.body.getD .skip) := by kernel_rfl
  simp only [↓wR, RA, simprocAttr, TF, CD0, hib]
  refine ⟨by kernel_rfl, fun l => ?_⟩
  unfold Tryz.f50
  simp only [↓wR, RA, simprocAttr, TF, CD0]
  refine loopI_of' [0, 2, 7, 8, 9] (fun (x : Nat × Nat × Nat) => [.sc (.func (.yield l) #[] #[]), .ptr 4 0, .vl false 5 (k.z.sets.map (codSet.val false)), .sc (.int .i64 (k.z.sets.length)), .sc (.int .i64 (x.1))]) (fun x => [some (.row [.cptr [.vl false 1 (k.z.origin.map (codStr.val false)), .vl false 5 (k.z.sets.map (codSet.val false)), .sc (.int .i64 (k.e))]] 0 2 86), some (.row [.sc (.int .i64 (x.2.1 : Int))] 0 2 3), some (.row [.sc (.int .i64 (x.2.2 : Int))] 0 2 3), some (.row [.vl false 1 (k.z.origin.map (codStr.val false)), .vl false 5 (k.z.sets.map (codSet.val false))] 0 2 26), some (.row [.sc (.int .u16 6)] 0 2 45)]) (fun x => x.1 ≤ k.z.sets.length ∧ x.2.1 ≤ x.1 ∧ x.2.2 ≤ x.1 ∧ soasV k.z = (k.z.sets.drop x.1).foldl (soaStep k.z) x.2) (fun x => k.z.sets.length - x.1) (0, 0, 0) ⟨Nat.zero_le _, Nat.le_refl _, Nat.le_refl _, rfl⟩ (by simp only [↓wR, RA, simprocAttr, TF, CD0] <;> rfl) (by simp only [↓wR, RA, simprocAttr, TF, CD0] <;> rfl) ?_
  rintro ⟨i, n, m⟩ ⟨hi, hn, hm, hx⟩
  simp only at hi hn hm hx
  simp only [↓wR, RA, simprocAttr, TF, CD0]
  rw [boolI_b]; refine ⟨fun h => ?_, fun h => ?_⟩
  · obtain ⟨c, hc, hd1, hlt⟩ := at_lt h
    have hcs := hz.set c (List.mem_of_getElem? hc)
    have hstep : soasV k.z = (k.z.sets.drop (i + 1)).foldl (soaStep k.z) (soaStep k.z (n, m) c) := by rw [hx, hd1]; rfl
    simp only [↓wR, RA, simprocAttr, TF, CD0, h, hc]
    rw [boolI_b]; refine ⟨fun h2 => ?_, fun h2 => ?_⟩
    · have e2 : (c.type.toNat : Int) = 6 := by simpa using h2
      simp only [↓wR, RA, simprocAttr, TF, CD0, h2]
      refine yield_keep [0, 2, 7, 8, 9, 17, 19] ?_
      simp only [↓wR, RA, simprocAttr, TF, CD0, yieldC, roundC]; repeat (simp (disch := omega) only [wrapI64, dleN, dltN, dleI, dltI]; try simp only [↓wR, RA, simprocAttr, TF, CD0, yieldC, roundC])
      refine ⟨by kernel_rfl, .inl ?_⟩
      simp only [↓wR, RA, simprocAttr, TF, CD0, nameSameF, hcs.owner, hz.origin]
      have fin : ∀ q, soaStep k.z (n, m) c = (n + 1, q) → q ≤ i + 1 → soasV k.z = (k.z.sets.drop (i + 1)).foldl (soaStep k.z) (n + 1, q) := fun q hq _ => by rw [hstep, hq]
      rw [boolK_b]; refine ⟨fun h3 => ?_, fun h3 => ?_⟩
      · simp only [↓wR, RA, simprocAttr, TF, CD0, h3]
        refine ⟨by kernel_rfl, ?_⟩
        rw [boolK_eqI]; refine ⟨fun ⟨h4, e4⟩ => ?_, fun ⟨h4, e4⟩ => ?_⟩
        · have hq : soaStep k.z (n, m) c = (n + 1, m + 1) := by simp [soaStep, e2, h3, e4]
          simp only [↓wR, RA, simprocAttr, TF, CD0, h4]; repeat (simp (disch := omega) only [wrapI64, dleN, dltN, dleI, dltI]; try simp only [↓wR, RA, simprocAttr, TF, CD0, h4])
          exact ⟨(i + 1, n + 1, m + 1), ⟨hlt, by simp; omega, by simp; omega, fin _ hq (by omega)⟩, by simp; omega, by (first | rfl | trivial | omega | (simp (disch := omega) only [wrapI64]; first | done | rfl | (simp only [List.cons.injEq, accV_snoc, accO_snoc, List.length_append, List.length_cons, List.length_nil, List.map_append, List.map_cons, List.map_nil, and_true, true_and, and_self, AV.sc.injEq, AV.sl.injEq, AObj.row.injEq, Option.some.injEq, Value.int.injEq, Nat.zero_add]; first | done | rfl | omega)) | (simp only [List.cons.injEq, accV_snoc, accO_snoc, List.length_append, List.length_cons, List.length_nil, List.map_append, List.map_cons, List.map_nil, and_true, true_and, and_self, AV.sc.injEq, AV.sl.injEq, AObj.row.injEq, Option.some.injEq, Value.int.injEq, Nat.zero_add]; first | done | rfl | omega)), by (first | rfl | trivial | omega | (simp (disch := omega) only [wrapI64]; first | done | rfl | (simp only [List.cons.injEq, accV_snoc, accO_snoc, List.length_append, List.length_cons, List.length_nil, List.map_append, List.map_cons, List.map_nil, and_true, true_and, and_self, AV.sc.injEq, AV.sl.injEq, AObj.row.injEq, Option.some.injEq, Value.int.injEq, Nat.zero_add]; first | done | rfl | omega)) | (simp only [List.cons.injEq, accV_snoc, accO_snoc, List.length_append, List.length_cons, List.length_nil, List.map_append, List.map_cons, List.map_nil, and_true, true_and, and_self, AV.sc.injEq, AV.sl.injEq, AObj.row.injEq, Option.some.injEq, Value.int.injEq, Nat.zero_add]; first | done | rfl | omega))⟩
        · have hq : soaStep k.z (n, m) c = (n + 1, m) := by simp [soaStep, e2, h3, e4]
          simp only [↓wR, RA, simprocAttr, TF, CD0, h4]; repeat (simp (disch := omega) only [wrapI64, dleN, dltN, dleI, dltI]; try simp only [↓wR, RA, simprocAttr, TF, CD0, h4])
          exact ⟨(i + 1, n + 1, m), ⟨hlt, by simp; omega, by simp; omega, fin _ hq (by omega)⟩, by simp; omega, by (first | rfl | trivial | omega | (simp (disch := omega) only [wrapI64]; first | done | rfl | (simp only [List.cons.injEq, accV_snoc, accO_snoc, List.length_append, List.length_cons, List.length_nil, List.map_append, List.map_cons, List.map_nil, and_true, true_and, and_self, AV.sc.injEq, AV.sl.injEq, AObj.row.injEq, Option.some.injEq, Value.int.injEq, Nat.zero_add]; first | done | rfl | omega)) | (simp only [List.cons.injEq, accV_snoc, accO_snoc, List.length_append, List.length_cons, List.length_nil, List.map_append, List.map_cons, List.map_nil, and_true, true_and, and_self, AV.sc.injEq, AV.sl.injEq, AObj.row.injEq, Option.some.injEq, Value.int.injEq, Nat.zero_add]; first | done | rfl | omega)), by (first | rfl | trivial | omega | (simp (disch := omega) only [wrapI64]; first | done | rfl | (simp only [List.cons.injEq, accV_snoc, accO_snoc, List.length_append, List.length_cons, List.length_nil, List.map_append, List.map_cons, List.map_nil, and_true, true_and, and_self, AV.sc.injEq, AV.sl.injEq, AObj.row.injEq, Option.some.injEq, Value.int.injEq, Nat.zero_add]; first | done | rfl | omega)) | (simp only [List.cons.injEq, accV_snoc, accO_snoc, List.length_append, List.length_cons, List.length_nil, List.map_append, List.map_cons, List.map_nil, and_true, true_and, and_self, AV.sc.injEq, AV.sl.injEq, AObj.row.injEq, Option.some.injEq, Value.int.injEq, Nat.zero_add]; first | done | rfl | omega))⟩
      · have hq : soaStep k.z (n, m) c = (n + 1, m) := by simp [soaStep, e2, h3]
        simp only [↓wR, RA, simprocAttr, TF, CD0, h3]
        refine ⟨by kernel_rfl, ?_⟩
        exact ⟨(i + 1, n + 1, m), ⟨hlt, by simp; omega, by simp; omega, fin _ hq (by omega)⟩, by simp; omega, by (first | rfl | trivial | omega | (simp (disch := omega) only [wrapI64]; first | done | rfl | (simp only [List.cons.injEq, accV_snoc, accO_snoc, List.length_append, List.length_cons, List.length_nil, List.map_append, List.map_cons, List.map_nil, and_true, true_and, and_self, AV.sc.injEq, AV.sl.injEq, AObj.row.injEq, Option.some.injEq, Value.int.injEq, Nat.zero_add]; first | done | rfl | omega)) | (simp only [List.cons.injEq, accV_snoc, accO_snoc, List.length_append, List.length_cons, List.length_nil, List.map_append, List.map_cons, List.map_nil, and_true, true_and, and_self, AV.sc.injEq, AV.sl.injEq, AObj.row.injEq, Option.some.injEq, Value.int.injEq, Nat.zero_add]; first | done | rfl | omega)), by (first | rfl | trivial | omega | (simp (disch := omega) only [wrapI64]; first | done | rfl | (simp only [List.cons.injEq, accV_snoc, accO_snoc, List.length_append, List.length_cons, List.length_nil, List.map_append, List.map_cons, List.map_nil, and_true, true_and, and_self, AV.sc.injEq, AV.sl.injEq, AObj.row.injEq, Option.some.injEq, Value.int.injEq, Nat.zero_add]; first | done | rfl | omega)) | (simp only [List.cons.injEq, accV_snoc, accO_snoc, List.length_append, List.length_cons, List.length_nil, List.map_append, List.map_cons, List.map_nil, and_true, true_and, and_self, AV.sc.injEq, AV.sl.injEq, AObj.row.injEq, Option.some.injEq, Value.int.injEq, Nat.zero_add]; first | done | rfl | omega))⟩
    · have e2 : ¬ (c.type.toNat : Int) = 6 := by simpa using h2
      have hb2 : soaStep k.z (n, m) c = (n, m) := by simp [soaStep, e2]
      rw [hb2] at hstep
      simp only [↓wR, RA, simprocAttr, TF, CD0, h2]; repeat (simp (disch := omega) only [wrapI64, dleN, dltN, dleI, dltI]; try simp only [↓wR, RA, simprocAttr, TF, CD0, h2])
      exact ⟨(i + 1, n, m), ⟨hlt, by simp; omega, by simp; omega, hstep⟩, by simp; omega, by (first | rfl | trivial | omega | (simp (disch := omega) only [wrapI64]; first | done | rfl | (simp only [List.cons.injEq, accV_snoc, accO_snoc, List.length_append, List.length_cons, List.length_nil, List.map_append, List.map_cons, List.map_nil, and_true, true_and, and_self, AV.sc.injEq, AV.sl.injEq, AObj.row.injEq, Option.some.injEq, Value.int.injEq, Nat.zero_add]; first | done | rfl | omega)) | (simp only [List.cons.injEq, accV_snoc, accO_snoc, List.length_append, List.length_cons, List.length_nil, List.map_append, List.map_cons, List.map_nil, and_true, true_and, and_self, AV.sc.injEq, AV.sl.injEq, AObj.row.injEq, Option.some.injEq, Value.int.injEq, Nat.zero_add]; first | done | rfl | omega)), by (first | rfl | trivial | omega | (simp (disch := omega) only [wrapI64]; first | done | rfl | (simp only [List.cons.injEq, accV_snoc, accO_snoc, List.length_append, List.length_cons, List.length_nil, List.map_append, List.map_cons, List.map_nil, and_true, true_and, and_self, AV.sc.injEq, AV.sl.injEq, AObj.row.injEq, Option.some.injEq, Value.int.injEq, Nat.zero_add]; first | done | rfl | omega)) | (simp only [List.cons.injEq, accV_snoc, accO_snoc, List.length_append, List.length_cons, List.length_nil, List.map_append, List.map_cons, List.map_nil, and_true, true_and, and_self, AV.sc.injEq, AV.sl.injEq, AObj.row.injEq, Option.some.injEq, Value.int.injEq, Nat.zero_add]; first | done | rfl | omega))⟩
  · rw [at_ge h] at hx
    simp only [↓wR, RA, simprocAttr, TF, CD0, h]
    refine ⟨by kernel_rfl, .inl ?_⟩
    refine ⟨by kernel_rfl, ?_⟩
    rw [hx]; rfl
noncomputable def zSoasF (x : RLook × Unit) : Option AV := if smallZ x.1.z then some ((r2 (codInt .i64) (codInt .i64)).E true ((((soasV x.1.z).1 : Int), ((soasV x.1.z).2 : Int)))) else none
set_option maxRecDepth 2000000 in
theorem zSoas_pure (x : RLook × Unit) (r : AV) (h : zSoasF x = some r) : CallPure PP 43 ((aP codLook a0).E x) r := by
  by_cases hc : smallZ x.1.z
  case neg => simp only [zSoasF, if_neg hc] at h; cases h
  simp only [zSoasF, if_pos hc] at h
  cases h
  exact callPure_wl (TabOk.cons (pure_entry nameSame_pure) (TabOk.nil PP)) Tryz.func43 (by kernel_rfl) (by kernel_rfl) (by kernel_rfl) (Nat.le_of_ble_eq_true (by kernel_rfl)) (r2 (codInt .i64) (codInt .i64)) true ((((soasV x.1.z).1 : Int), ((soasV x.1.z).2 : Int))) (soas_wl x.1 hc)
noncomputable abbrev zSoas : Nat × Bool × (List AV → M AV) := (43, true, pureM (aP codLook a0) zSoasF)
end Go.Proofs.YtcndpdkcagkdaabGreat
end
section
set_option linter.unusedSimpArgs false
set_option linter.unusedVariables false
namespace Go.Proofs.YtcndpdkcagkdaabGreat
open Go.Vm
set_option maxRecDepth 2000000
def needE (b : Bool) (err e : Int) : Int := if e = 0 ∧ b = false then err else e
def eachE (err : Int) (p : Nat → RSet → Bool) : Nat → List RSet → Int → Int
  | _, [], e => e
  | i, s :: r, e => if e ≠ 0 then e else eachE err p (i + 1) r (needE (p i s) err e)
def sumData (l : List RSet) : Nat := l.foldl (fun n s => n + s.data.length) 0
noncomputable def setsE : List RSet → Int → Int
  | [], e => e
  | s :: r, e => setsE r (if e = 0 then setErr s else e)
noncomputable def firstV (z : RZone) : Int := if nameErr z.origin ≠ 0 then nameErr z.origin else setsE z.sets (needE (decide (sumData z.sets ≤ 2048)) 3 0)
def apexL (z : RZone) (l : List RSet) : Bool := l.any fun s => decide ((s.type.toNat : Int) = 2) && sameN s.owner z.origin
def apexV (z : RZone) : Bool := apexL z z.sets
theorem apexL_at {z : RZone} {l : List RSet} {i : Nat} {c : RSet} (h : l.drop i = c :: l.drop (i + 1)) : apexL z (l.drop i) = ((decide ((c.type.toNat : Int) = 2) && sameN c.owner z.origin) || apexL z (l.drop (i + 1))) := by rw [h]; rfl
noncomputable def zoneE1 (z : RZone) : Int := eachE 260 (risesV z) 0 z.sets (firstV z)
noncomputable def zoneE2 (z : RZone) : Int := eachE 261 (fun _ s => classV s) 0 z.sets (zoneE1 z)
noncomputable def zoneE3 (z : RZone) : Int := eachE 262 (fun _ s => underN s.owner z.origin) 0 z.sets (zoneE2 z)
noncomputable def zoneE4 (z : RZone) : Int := needE (decide ((soasV z).1 = 1) && decide ((soasV z).2 = 1)) 263 (zoneE3 z)
noncomputable def zoneE5 (z : RZone) : Int := needE (apexV z) 264 (zoneE4 z)
noncomputable def zoneE6 (z : RZone) : Int := eachE 265 (aloneV z) 0 z.sets (zoneE5 z)
noncomputable def zoneE7 (z : RZone) : Int := eachE 266 (fun _ s => starV s) 0 z.sets (zoneE6 z)
noncomputable def zoneE8 (z : RZone) : Int := eachE 267 (fun _ s => occV z s) 0 z.sets (zoneE7 z)
noncomputable def zoneErr (z : RZone) : Int := if firstV z ≠ 0 then firstV z else zoneE8 z
theorem sumData_take (l : List RSet) (i : Nat) (c : RSet) (h : l[i]? = some c) : sumData (l.take (i + 1)) = sumData (l.take i) + c.data.length := by
  obtain ⟨hk, rfl⟩ := List.getElem?_eq_some_iff.1 h
  rw [List.take_succ_eq_append_getElem hk]; simp only [sumData, List.foldl_append, List.foldl_cons, List.foldl_nil]
theorem sumData_from (l : List RSet) : ∀ k, l.foldl (fun n s => n + s.data.length) k ≤ k + wtL wtS l := by
  induction l with
  | nil => intro k; exact Nat.le_refl _
  | cons a l ih =>
    intro k
    have h1 := ih (k + a.data.length)
    have h2 := wtL_len wtD a.data
    simp only [wtL, List.foldr_cons, List.foldl_cons, wtS] at h1 ⊢
    unfold wtL at h2
    omega
theorem sumData_le (l : List RSet) : sumData l ≤ wtL wtS l := by have := sumData_from l 0; unfold sumData; omega
theorem setsE_at {l : List RSet} {i : Nat} {c : RSet} (h : l.drop i = c :: l.drop (i + 1)) (e : Int) : setsE (l.drop i) e = setsE (l.drop (i + 1)) (if e = 0 then setErr c else e) := by rw [h]; rfl
theorem eachE_at {l : List RSet} {i : Nat} {c : RSet} (h : l.drop i = c :: l.drop (i + 1)) (err : Int) (p : Nat → RSet → Bool) (e : Int) : eachE err p i (l.drop i) e = if e ≠ 0 then e else eachE err p (i + 1) (l.drop (i + 1)) (needE (p i c) err e) := by rw [h]; rfl
set_option maxHeartbeats 4000000 in
theorem zoneCheck_wl (z : RZone) (hz : smallZ z) : wl PP [nameCheck, nameSame, setCheck, zRises, zAlone, zClass, zInside, zStar, zOcc, zSoas] 0 (Tryz.f27.body.getD .skip) (retQ PP Tryz.f27.results.toList (fun r st => (r1 (codInt .i64)).get true st.h r = some (zoneErr z))) (argsL 0 [codZone.val false z]) (stK []) := by
  have hl := hz.len
  have ok : TabOk PP [nameCheck, nameSame, setCheck, zRises, zAlone, zClass, zInside, zStar, zOcc, zSoas] := TabOk.cons (pure_entry nameCheck_pure) (TabOk.cons (pure_entry nameSame_pure) (TabOk.cons (pure_entry setCheck_pure) (TabOk.cons (pure_entry zRises_pure) (TabOk.cons (pure_entry zAlone_pure) (TabOk.cons (pure_entry zClass_pure) (TabOk.cons (pure_entry zInside_pure) (TabOk.cons (pure_entry zStar_pure) (TabOk.cons (pure_entry zOcc_pure) (TabOk.cons (pure_entry zSoas_pure) (TabOk.nil PP))))))))))
  unfold Tryz.f27
  simp only [codZone_val]
  simp only [↓wR, RA, simprocAttr, TF, CD0]
  refine callAt_join (fun r st' => r = .tup [] ∧ st' = stK [some (.row [.vl false 1 (z.origin.map (codStr.val false)), .vl false 5 (z.sets.map (codSet.val false))] 0 2 26), some (.row [.vl false 1 (z.origin.map (codStr.val false)), .vl false 5 (z.sets.map (codSet.val false)), .sc (.int .i64 (firstV z))] 0 2 88)]) rfl ?_ ?_
  · refine callAt_of_wl (T := [nameCheck, nameSame, setCheck, zRises, zAlone, zClass, zInside, zStar, zOcc, zSoas]) ok mixed Tryz.func38 rfl (by kernel_rfl) (by kernel_rfl) (by kernel_rfl) (by kernel_rfl) ?_; unfold Tryz.f38
    simp only [↓wR, RA, simprocAttr, TF, CD0, nameCheckF, hz.origin.fit]
    unfold firstV
    rw [boolK_b]; refine ⟨fun h => ?_, fun h => ?_⟩
    · have he : nameErr z.origin ≠ 0 := by simpa using h
      rw [if_pos he]
      simp only [↓wR, RA, simprocAttr, TF, CD0, h, cjV, cjS, cjN]
    have he : nameErr z.origin = 0 := by simpa using h
    rw [if_neg (by omega)]
    simp only [↓wR, RA, simprocAttr, TF, CD0, h, he]
    refine loop_of [0, 2, 25, 26, 27] (fun (i : Nat) => [.ptr 1 0, .sc (.int .i64 (sumData (z.sets.take i))), .vl false 5 (z.sets.map (codSet.val false)), .sc (.int .i64 (z.sets.length)), .sc (.int .i64 (i))]) (fun _ => [some (.row [.vl false 1 (z.origin.map (codStr.val false)), .vl false 5 (z.sets.map (codSet.val false))] 0 2 26), some (.row [.vl false 1 (z.origin.map (codStr.val false)), .vl false 5 (z.sets.map (codSet.val false)), .sc (.int .i64 (0))] 0 2 88)]) (fun i => i ≤ z.sets.length) (fun i => z.sets.length - i) 0 (Nat.zero_le _) (by simp only [↓wR, RA, simprocAttr, TF, CD0] <;> rfl) (by simp only [↓wR, RA, simprocAttr, TF, CD0] <;> rfl) ?_
    clear h
    intro i hi
    have hsum := sumData_le (z.sets.take i)
    have hsum2 := wtL_take wtS z.sets i
    have hzz : wtL wtS z.sets ≤ 16777216 := by unfold smallZ wtZ at hz; omega
    simp only [↓wR, RA, simprocAttr, TF, CD0]
    rw [boolK_d]; refine ⟨fun h => ?_, fun h => ?_⟩
    · obtain ⟨c, hc, hd1, hlt⟩ := at_lt (decide_eq_true h)
      have hst := sumData_take z.sets i c hc
      have hcl := (hz.set c (List.mem_of_getElem? hc)).data.len
      simp only [↓wR, RA, simprocAttr, TF, CD0, h, hc]; repeat (simp (disch := omega) only [wrapI64, dleN, dltN, dleI, dltI]; try simp only [↓wR, RA, simprocAttr, TF, CD0, h, hc])
      exact ⟨i + 1, hlt, by omega, by rw [hst]; (first | rfl | trivial | omega | (simp (disch := omega) only [wrapI64]; first | done | rfl | (simp only [List.cons.injEq, accV_snoc, accO_snoc, List.length_append, List.length_cons, List.length_nil, List.map_append, List.map_cons, List.map_nil, and_true, true_and, and_self, AV.sc.injEq, AV.sl.injEq, AObj.row.injEq, Option.some.injEq, Value.int.injEq, Nat.zero_add]; first | done | rfl | omega)) | (simp only [List.cons.injEq, accV_snoc, accO_snoc, List.length_append, List.length_cons, List.length_nil, List.map_append, List.map_cons, List.map_nil, and_true, true_and, and_self, AV.sc.injEq, AV.sl.injEq, AObj.row.injEq, Option.some.injEq, Value.int.injEq, Nat.zero_add]; first | done | rfl | omega))⟩
    have hin : i = z.sets.length := by omega
    rw [hin, List.take_length] at hsum ⊢
    simp only [↓wR, RA, simprocAttr, TF, CD0, h]
    have hd : decide ((sumData z.sets : Int) ≤ 2048) = decide (sumData z.sets ≤ 2048) := by rw [decide_eq_decide]; omega
    rw [hd]
    refine callAt_join (fun r st' => r = .tup [] ∧ st' = stK [some (.row [.vl false 1 (z.origin.map (codStr.val false)), .vl false 5 (z.sets.map (codSet.val false))] 0 2 26), some (.row [.vl false 1 (z.origin.map (codStr.val false)), .vl false 5 (z.sets.map (codSet.val false)), .sc (.int .i64 (needE (decide (sumData z.sets ≤ 2048)) 3 (0)))] 0 2 88)]) rfl ?_ ?_
    · refine callAt_of_wl (T := [nameCheck, nameSame, setCheck, zRises, zAlone, zClass, zInside, zStar, zOcc, zSoas]) ok mixed Tryz.func44 rfl (by kernel_rfl) (by kernel_rfl) (by kernel_rfl) (by kernel_rfl) ?_; unfold Tryz.f44
      simp only [↓wR, RA, simprocAttr, TF, CD0]
      rw [boolK_b]; refine ⟨fun hn2 => ?_, fun hn2 => ?_⟩
      · have hb : (decide (sumData z.sets ≤ 2048)) = false := by simpa only [Bool.not_eq_true'] using hn2
        have hv : needE (decide (sumData z.sets ≤ 2048)) 3 (0) = 3 := by unfold needE; rw [if_pos ⟨rfl, hb⟩]
        simp only [↓wR, RA, simprocAttr, TF, CD0, hn2, cjV, cjS, cjN]
        try rw [hv]
      · have hb : (decide (sumData z.sets ≤ 2048)) = true := by simpa only [Bool.not_eq_false'] using hn2
        have hv : needE (decide (sumData z.sets ≤ 2048)) 3 (0) = 0 := by unfold needE; rw [if_neg (fun q => by rw [hb] at q; cases q.2)]
        simp only [↓wR, RA, simprocAttr, TF, CD0, hn2, cjV, cjS, cjN]
        try rw [hv]
    rintro _ _ ⟨rfl, rfl⟩
    simp only [↓wR, RA, simprocAttr, TF, CD0, contK]
    refine loop_of [0, 45, 46, 47] (fun (x : Nat × Int) => [.ptr 1 0, .vl false 5 (z.sets.map (codSet.val false)), .sc (.int .i64 (z.sets.length)), .sc (.int .i64 (x.1))]) (fun x => [some (.row [.vl false 1 (z.origin.map (codStr.val false)), .vl false 5 (z.sets.map (codSet.val false))] 0 2 26), some (.row [.vl false 1 (z.origin.map (codStr.val false)), .vl false 5 (z.sets.map (codSet.val false)), .sc (.int .i64 (x.2))] 0 2 88)]) (fun x => x.1 ≤ z.sets.length ∧ setsE z.sets (needE (decide (sumData z.sets ≤ 2048)) 3 0) = setsE (z.sets.drop x.1) x.2) (fun x => z.sets.length - x.1) (0, needE (decide (sumData z.sets ≤ 2048)) 3 0) ⟨Nat.zero_le _, rfl⟩ (by simp only [↓wR, RA, simprocAttr, TF, CD0] <;> rfl) (by simp only [↓wR, RA, simprocAttr, TF, CD0] <;> rfl) ?_
    clear h hi hin hd
    rintro ⟨i, e⟩ ⟨hi, hx⟩
    simp only at hi hx
    simp only [↓wR, RA, simprocAttr, TF, CD0]
    rw [boolK_d]; refine ⟨fun h => ?_, fun h => ?_⟩
    · obtain ⟨c, hc, hd1, hlt⟩ := at_lt (decide_eq_true h)
      rw [setsE_at hd1] at hx
      have hcs := hz.set c (List.mem_of_getElem? hc)
      simp only [↓wR, RA, simprocAttr, TF, CD0, h, hc]
      rw [boolK_eqI]; refine ⟨fun ⟨h1, e1⟩ => ?_, fun ⟨h1, e1⟩ => ?_⟩
      · rw [if_pos e1] at hx
        simp only [↓wR, RA, simprocAttr, TF, CD0, h1, setCheckF, hcs]; repeat (simp (disch := omega) only [wrapI64, dleN, dltN, dleI, dltI]; try simp only [↓wR, RA, simprocAttr, TF, CD0, h1, setCheckF, hcs])
        exact ⟨(i + 1, setErr c), ⟨hlt, hx⟩, by simp; omega, by (first | rfl | trivial | omega | (simp (disch := omega) only [wrapI64]; first | done | rfl | (simp only [List.cons.injEq, accV_snoc, accO_snoc, List.length_append, List.length_cons, List.length_nil, List.map_append, List.map_cons, List.map_nil, and_true, true_and, and_self, AV.sc.injEq, AV.sl.injEq, AObj.row.injEq, Option.some.injEq, Value.int.injEq, Nat.zero_add]; first | done | rfl | omega)) | (simp only [List.cons.injEq, accV_snoc, accO_snoc, List.length_append, List.length_cons, List.length_nil, List.map_append, List.map_cons, List.map_nil, and_true, true_and, and_self, AV.sc.injEq, AV.sl.injEq, AObj.row.injEq, Option.some.injEq, Value.int.injEq, Nat.zero_add]; first | done | rfl | omega)), by (first | rfl | trivial | omega | (simp (disch := omega) only [wrapI64]; first | done | rfl | (simp only [List.cons.injEq, accV_snoc, accO_snoc, List.length_append, List.length_cons, List.length_nil, List.map_append, List.map_cons, List.map_nil, and_true, true_and, and_self, AV.sc.injEq, AV.sl.injEq, AObj.row.injEq, Option.some.injEq, Value.int.injEq, Nat.zero_add]; first | done | rfl | omega)) | (simp only [List.cons.injEq, accV_snoc, accO_snoc, List.length_append, List.length_cons, List.length_nil, List.map_append, List.map_cons, List.map_nil, and_true, true_and, and_self, AV.sc.injEq, AV.sl.injEq, AObj.row.injEq, Option.some.injEq, Value.int.injEq, Nat.zero_add]; first | done | rfl | omega))⟩
      · rw [if_neg e1] at hx
        simp only [↓wR, RA, simprocAttr, TF, CD0, h1]; repeat (simp (disch := omega) only [wrapI64, dleN, dltN, dleI, dltI]; try simp only [↓wR, RA, simprocAttr, TF, CD0, h1])
        exact ⟨(i + 1, e), ⟨hlt, hx⟩, by simp; omega, by (first | rfl | trivial | omega | (simp (disch := omega) only [wrapI64]; first | done | rfl | (simp only [List.cons.injEq, accV_snoc, accO_snoc, List.length_append, List.length_cons, List.length_nil, List.map_append, List.map_cons, List.map_nil, and_true, true_and, and_self, AV.sc.injEq, AV.sl.injEq, AObj.row.injEq, Option.some.injEq, Value.int.injEq, Nat.zero_add]; first | done | rfl | omega)) | (simp only [List.cons.injEq, accV_snoc, accO_snoc, List.length_append, List.length_cons, List.length_nil, List.map_append, List.map_cons, List.map_nil, and_true, true_and, and_self, AV.sc.injEq, AV.sl.injEq, AObj.row.injEq, Option.some.injEq, Value.int.injEq, Nat.zero_add]; first | done | rfl | omega)), by (first | rfl | trivial | omega | (simp (disch := omega) only [wrapI64]; first | done | rfl | (simp only [List.cons.injEq, accV_snoc, accO_snoc, List.length_append, List.length_cons, List.length_nil, List.map_append, List.map_cons, List.map_nil, and_true, true_and, and_self, AV.sc.injEq, AV.sl.injEq, AObj.row.injEq, Option.some.injEq, Value.int.injEq, Nat.zero_add]; first | done | rfl | omega)) | (simp only [List.cons.injEq, accV_snoc, accO_snoc, List.length_append, List.length_cons, List.length_nil, List.map_append, List.map_cons, List.map_nil, and_true, true_and, and_self, AV.sc.injEq, AV.sl.injEq, AObj.row.injEq, Option.some.injEq, Value.int.injEq, Nat.zero_add]; first | done | rfl | omega))⟩
    · rw [at_ge (decide_eq_false h)] at hx
      simp only [↓wR, RA, simprocAttr, TF, CD0, h, cjV, cjS, cjN]
      rw [hx]; rfl
  rintro _ _ ⟨rfl, rfl⟩
  simp only [↓wR, RA, simprocAttr, TF, CD0, contK]
  unfold zoneErr
  rw [boolK_b]; refine ⟨fun h => ?_, fun h => ?_⟩
  · have he : firstV z ≠ 0 := by simpa using h
    rw [if_pos he]
    simp only [↓wR, RA, simprocAttr, TF, CD0, h]
  have he : firstV z = 0 := by simpa using h
  rw [if_neg (by omega)]
  simp only [↓wR, RA, simprocAttr, TF, CD0, h]
  clear h he
  obtain ⟨e0, he0⟩ : ∃ e0, firstV z = e0 := ⟨_, rfl⟩
  rw [he0]
  refine callAt_join (fun r st' => r = .tup [] ∧ st' = stK [some (.row [.vl false 1 (z.origin.map (codStr.val false)), .vl false 5 (z.sets.map (codSet.val false))] 0 2 26), some (.row [.vl false 1 (z.origin.map (codStr.val false)), .vl false 5 (z.sets.map (codSet.val false)), .sc (.int .i64 (eachE 260 (risesV z) 0 z.sets e0))] 0 2 88)]) rfl ?_ ?_
  · refine callAt_of_wl (T := [nameCheck, nameSame, setCheck, zRises, zAlone, zClass, zInside, zStar, zOcc, zSoas]) ok mixed Tryz.func39 rfl (by kernel_rfl) (by kernel_rfl) (by kernel_rfl) (by kernel_rfl) ?_; unfold Tryz.f39
    simp only [↓wR, RA, simprocAttr, TF, CD0]
    refine loop_of [0, 1, 2, 12, 13, 14] (fun (x : Nat × Int) => [.ptr 1 0, .sc (.int .i64 (260)), .fn (.func 40) [.ptr 1 0] [], .vl false 5 (z.sets.map (codSet.val false)), .sc (.int .i64 (z.sets.length)), .sc (.int .i64 (x.1))]) (fun x => [some (.row [.vl false 1 (z.origin.map (codStr.val false)), .vl false 5 (z.sets.map (codSet.val false))] 0 2 26), some (.row [.vl false 1 (z.origin.map (codStr.val false)), .vl false 5 (z.sets.map (codSet.val false)), .sc (.int .i64 (x.2))] 0 2 88)]) (fun x => x.1 ≤ z.sets.length ∧ eachE 260 (risesV z) 0 z.sets e0 = eachE 260 (risesV z) x.1 (z.sets.drop x.1) x.2) (fun x => z.sets.length - x.1) (0, e0) ⟨Nat.zero_le _, rfl⟩ (by simp only [↓wR, RA, simprocAttr, TF, CD0] <;> rfl) (by simp only [↓wR, RA, simprocAttr, TF, CD0] <;> rfl) ?_
    rintro ⟨i, e⟩ ⟨hi, hx⟩
    simp only at hi hx
    simp only [↓wR, RA, simprocAttr, TF, CD0]
    rw [boolK_d]; refine ⟨fun h => ?_, fun h => ?_⟩
    · obtain ⟨c, hc, hd1, hlt⟩ := at_lt (decide_eq_true h)
      rw [eachE_at hd1] at hx
      have hcs := hz.set c (List.mem_of_getElem? hc)
      have hi2 : (0 : Int) ≤ i ∧ (i : Int) ≤ z.sets.length := by omega
      simp only [↓wR, RA, simprocAttr, TF, CD0, h, hc]
      rw [boolK_neI]; refine ⟨fun ⟨h1, e1⟩ => ?_, fun ⟨h1, e1⟩ => ?_⟩
      · rw [if_pos e1] at hx
        simp only [↓wR, RA, simprocAttr, TF, CD0, h1, cjV, cjS, cjN]
        rw [hx]
      · rw [if_neg (by omega)] at hx
        simp only [↓wR, RA, simprocAttr, TF, CD0, h1, hcs, hz, hi2, zRisesF]
        refine callAt_join (fun r st' => r = .tup [] ∧ st' = stK [some (.row [.vl false 1 (z.origin.map (codStr.val false)), .vl false 5 (z.sets.map (codSet.val false))] 0 2 26), some (.row [.vl false 1 (z.origin.map (codStr.val false)), .vl false 5 (z.sets.map (codSet.val false)), .sc (.int .i64 (needE ((risesV z) i c) 260 e))] 0 2 88), some (.row [.vl false 1 (c.owner.map (codStr.val false)), .sc (.int .u16 c.type.toNat), .sc (.int .u16 c.cls.toNat), .sc (.int .u32 c.ttl.toNat), .vl false 4 (c.data.map (codData.val false))] 0 2 50)]) rfl ?_ ?_
        · refine callAt_of_wl (T := [nameCheck, nameSame, setCheck, zRises, zAlone, zClass, zInside, zStar, zOcc, zSoas]) ok mixed Tryz.func44 rfl (by kernel_rfl) (by kernel_rfl) (by kernel_rfl) (by kernel_rfl) ?_; unfold Tryz.f44
          simp only [↓wR, RA, simprocAttr, TF, CD0, e1]
          rw [boolK_b]; refine ⟨fun hn2 => ?_, fun hn2 => ?_⟩
          · have hb : ((risesV z) i c) = false := by simpa only [Bool.not_eq_true'] using hn2
            have hv : needE ((risesV z) i c) 260 0 = 260 := by unfold needE; rw [if_pos ⟨rfl, hb⟩]
            simp only [↓wR, RA, simprocAttr, TF, CD0, hn2, cjV, cjS, cjN]
            try rw [hv]
          · have hb : ((risesV z) i c) = true := by simpa only [Bool.not_eq_false'] using hn2
            have hv : needE ((risesV z) i c) 260 0 = 0 := by unfold needE; rw [if_neg (fun q => by rw [hb] at q; cases q.2)]
            simp only [↓wR, RA, simprocAttr, TF, CD0, hn2, cjV, cjS, cjN]
            try rw [hv]
        rintro _ _ ⟨rfl, rfl⟩
        simp only [↓wR, RA, simprocAttr, TF, CD0, contK]; repeat (simp (disch := omega) only [wrapI64, dleN, dltN, dleI, dltI]; try simp only [↓wR, RA, simprocAttr, TF, CD0, contK])
        exact ⟨(i + 1, needE ((risesV z) i c) 260 e), ⟨hlt, hx⟩, by simp; omega, by (first | rfl | trivial | omega | (simp (disch := omega) only [wrapI64]; first | done | rfl | (simp only [List.cons.injEq, accV_snoc, accO_snoc, List.length_append, List.length_cons, List.length_nil, List.map_append, List.map_cons, List.map_nil, and_true, true_and, and_self, AV.sc.injEq, AV.sl.injEq, AObj.row.injEq, Option.some.injEq, Value.int.injEq, Nat.zero_add]; first | done | rfl | omega)) | (simp only [List.cons.injEq, accV_snoc, accO_snoc, List.length_append, List.length_cons, List.length_nil, List.map_append, List.map_cons, List.map_nil, and_true, true_and, and_self, AV.sc.injEq, AV.sl.injEq, AObj.row.injEq, Option.some.injEq, Value.int.injEq, Nat.zero_add]; first | done | rfl | omega)), by (first | rfl | trivial | omega | (simp (disch := omega) only [wrapI64]; first | done | rfl | (simp only [List.cons.injEq, accV_snoc, accO_snoc, List.length_append, List.length_cons, List.length_nil, List.map_append, List.map_cons, List.map_nil, and_true, true_and, and_self, AV.sc.injEq, AV.sl.injEq, AObj.row.injEq, Option.some.injEq, Value.int.injEq, Nat.zero_add]; first | done | rfl | omega)) | (simp only [List.cons.injEq, accV_snoc, accO_snoc, List.length_append, List.length_cons, List.length_nil, List.map_append, List.map_cons, List.map_nil, and_true, true_and, and_self, AV.sc.injEq, AV.sl.injEq, AObj.row.injEq, Option.some.injEq, Value.int.injEq, Nat.zero_add]; first | done | rfl | omega))⟩
    · rw [at_ge (decide_eq_false h)] at hx
      simp only [↓wR, RA, simprocAttr, TF, CD0, h, cjV, cjS, cjN]
      rw [hx]; rfl
  rintro _ _ ⟨rfl, rfl⟩
  rw [← he0]
  clear he0
  simp only [↓wR, RA, simprocAttr, TF, CD0, contK]
  rw [show eachE 260 (risesV z) 0 z.sets (firstV z) = zoneE1 z from rfl]
  obtain ⟨e0, he0⟩ : ∃ e0, zoneE1 z = e0 := ⟨_, rfl⟩
  rw [he0]
  refine callAt_join (fun r st' => r = .tup [] ∧ st' = stK [some (.row [.vl false 1 (z.origin.map (codStr.val false)), .vl false 5 (z.sets.map (codSet.val false))] 0 2 26), some (.row [.vl false 1 (z.origin.map (codStr.val false)), .vl false 5 (z.sets.map (codSet.val false)), .sc (.int .i64 (eachE 261 (fun _ s => classV s) 0 z.sets e0))] 0 2 88)]) rfl ?_ ?_
  · refine callAt_of_wl (T := [nameCheck, nameSame, setCheck, zRises, zAlone, zClass, zInside, zStar, zOcc, zSoas]) ok mixed Tryz.func39 rfl (by kernel_rfl) (by kernel_rfl) (by kernel_rfl) (by kernel_rfl) ?_; unfold Tryz.f39
    simp only [↓wR, RA, simprocAttr, TF, CD0]
    refine loop_of [0, 1, 2, 12, 13, 14] (fun (x : Nat × Int) => [.ptr 1 0, .sc (.int .i64 (261)), .sc (.func (.func 41) #[] #[]), .vl false 5 (z.sets.map (codSet.val false)), .sc (.int .i64 (z.sets.length)), .sc (.int .i64 (x.1))]) (fun x => [some (.row [.vl false 1 (z.origin.map (codStr.val false)), .vl false 5 (z.sets.map (codSet.val false))] 0 2 26), some (.row [.vl false 1 (z.origin.map (codStr.val false)), .vl false 5 (z.sets.map (codSet.val false)), .sc (.int .i64 (x.2))] 0 2 88)]) (fun x => x.1 ≤ z.sets.length ∧ eachE 261 (fun _ s => classV s) 0 z.sets e0 = eachE 261 (fun _ s => classV s) x.1 (z.sets.drop x.1) x.2) (fun x => z.sets.length - x.1) (0, e0) ⟨Nat.zero_le _, rfl⟩ (by simp only [↓wR, RA, simprocAttr, TF, CD0] <;> rfl) (by simp only [↓wR, RA, simprocAttr, TF, CD0] <;> rfl) ?_
    rintro ⟨i, e⟩ ⟨hi, hx⟩
    simp only at hi hx
    simp only [↓wR, RA, simprocAttr, TF, CD0]
    rw [boolK_d]; refine ⟨fun h => ?_, fun h => ?_⟩
    · obtain ⟨c, hc, hd1, hlt⟩ := at_lt (decide_eq_true h)
      rw [eachE_at hd1] at hx
      have hcs := hz.set c (List.mem_of_getElem? hc)
      have hi2 : (0 : Int) ≤ i ∧ (i : Int) ≤ z.sets.length := by omega
      simp only [↓wR, RA, simprocAttr, TF, CD0, h, hc]
      rw [boolK_neI]; refine ⟨fun ⟨h1, e1⟩ => ?_, fun ⟨h1, e1⟩ => ?_⟩
      · rw [if_pos e1] at hx
        simp only [↓wR, RA, simprocAttr, TF, CD0, h1, cjV, cjS, cjN]
        rw [hx]
      · rw [if_neg (by omega)] at hx
        simp only [↓wR, RA, simprocAttr, TF, CD0, h1, hcs, hz, hi2, zClassF]
        refine callAt_join (fun r st' => r = .tup [] ∧ st' = stK [some (.row [.vl false 1 (z.origin.map (codStr.val false)), .vl false 5 (z.sets.map (codSet.val false))] 0 2 26), some (.row [.vl false 1 (z.origin.map (codStr.val false)), .vl false 5 (z.sets.map (codSet.val false)), .sc (.int .i64 (needE ((fun _ s => classV s) i c) 261 e))] 0 2 88), some (.row [.vl false 1 (c.owner.map (codStr.val false)), .sc (.int .u16 c.type.toNat), .sc (.int .u16 c.cls.toNat), .sc (.int .u32 c.ttl.toNat), .vl false 4 (c.data.map (codData.val false))] 0 2 50)]) rfl ?_ ?_
        · refine callAt_of_wl (T := [nameCheck, nameSame, setCheck, zRises, zAlone, zClass, zInside, zStar, zOcc, zSoas]) ok mixed Tryz.func44 rfl (by kernel_rfl) (by kernel_rfl) (by kernel_rfl) (by kernel_rfl) ?_; unfold Tryz.f44
          simp only [↓wR, RA, simprocAttr, TF, CD0, e1]
          rw [boolK_b]; refine ⟨fun hn2 => ?_, fun hn2 => ?_⟩
          · have hb : ((fun _ s => classV s) i c) = false := by simpa only [Bool.not_eq_true'] using hn2
            have hv : needE ((fun _ s => classV s) i c) 261 0 = 261 := by unfold needE; rw [if_pos ⟨rfl, hb⟩]
            simp only [↓wR, RA, simprocAttr, TF, CD0, hn2, cjV, cjS, cjN]
            try rw [hv]
          · have hb : ((fun _ s => classV s) i c) = true := by simpa only [Bool.not_eq_false'] using hn2
            have hv : needE ((fun _ s => classV s) i c) 261 0 = 0 := by unfold needE; rw [if_neg (fun q => by rw [hb] at q; cases q.2)]
            simp only [↓wR, RA, simprocAttr, TF, CD0, hn2, cjV, cjS, cjN]
            try rw [hv]
        rintro _ _ ⟨rfl, rfl⟩
        simp only [↓wR, RA, simprocAttr, TF, CD0, contK]; repeat (simp (disch := omega) only [wrapI64, dleN, dltN, dleI, dltI]; try simp only [↓wR, RA, simprocAttr, TF, CD0, contK])
        exact ⟨(i + 1, needE ((fun _ s => classV s) i c) 261 e), ⟨hlt, hx⟩, by simp; omega, by (first | rfl | trivial | omega | (simp (disch := omega) only [wrapI64]; first | done | rfl | (simp only [List.cons.injEq, accV_snoc, accO_snoc, List.length_append, List.length_cons, List.length_nil, List.map_append, List.map_cons, List.map_nil, and_true, true_and, and_self, AV.sc.injEq, AV.sl.injEq, AObj.row.injEq, Option.some.injEq, Value.int.injEq, Nat.zero_add]; first | done | rfl | omega)) | (simp only [List.cons.injEq, accV_snoc, accO_snoc, List.length_append, List.length_cons, List.length_nil, List.map_append, List.map_cons, List.map_nil, and_true, true_and, and_self, AV.sc.injEq, AV.sl.injEq, AObj.row.injEq, Option.some.injEq, Value.int.injEq, Nat.zero_add]; first | done | rfl | omega)), by (first | rfl | trivial | omega | (simp (disch := omega) only [wrapI64]; first | done | rfl | (simp only [List.cons.injEq, accV_snoc, accO_snoc, List.length_append, List.length_cons, List.length_nil, List.map_append, List.map_cons, List.map_nil, and_true, true_and, and_self, AV.sc.injEq, AV.sl.injEq, AObj.row.injEq, Option.some.injEq, Value.int.injEq, Nat.zero_add]; first | done | rfl | omega)) | (simp only [List.cons.injEq, accV_snoc, accO_snoc, List.length_append, List.length_cons, List.length_nil, List.map_append, List.map_cons, List.map_nil, and_true, true_and, and_self, AV.sc.injEq, AV.sl.injEq, AObj.row.injEq, Option.some.injEq, Value.int.injEq, Nat.zero_add]; first | done | rfl | omega))⟩
    · rw [at_ge (decide_eq_false h)] at hx
      simp only [↓wR, RA, simprocAttr, TF, CD0, h, cjV, cjS, cjN]
      rw [hx]; rfl
  rintro _ _ ⟨rfl, rfl⟩
  rw [← he0]
  clear he0
  simp only [↓wR, RA, simprocAttr, TF, CD0, contK]
  rw [show eachE 261 (fun _ s => classV s) 0 z.sets (zoneE1 z) = zoneE2 z from rfl]
  obtain ⟨e0, he0⟩ : ∃ e0, zoneE2 z = e0 := ⟨_, rfl⟩
  rw [he0]
  refine callAt_join (fun r st' => r = .tup [] ∧ st' = stK [some (.row [.vl false 1 (z.origin.map (codStr.val false)), .vl false 5 (z.sets.map (codSet.val false))] 0 2 26), some (.row [.vl false 1 (z.origin.map (codStr.val false)), .vl false 5 (z.sets.map (codSet.val false)), .sc (.int .i64 (eachE 262 (fun _ s => underN s.owner z.origin) 0 z.sets e0))] 0 2 88)]) rfl ?_ ?_
  · refine callAt_of_wl (T := [nameCheck, nameSame, setCheck, zRises, zAlone, zClass, zInside, zStar, zOcc, zSoas]) ok mixed Tryz.func39 rfl (by kernel_rfl) (by kernel_rfl) (by kernel_rfl) (by kernel_rfl) ?_; unfold Tryz.f39
    simp only [↓wR, RA, simprocAttr, TF, CD0]
    refine loop_of [0, 1, 2, 12, 13, 14] (fun (x : Nat × Int) => [.ptr 1 0, .sc (.int .i64 (262)), .fn (.func 42) [] [.ptr 0 0], .vl false 5 (z.sets.map (codSet.val false)), .sc (.int .i64 (z.sets.length)), .sc (.int .i64 (x.1))]) (fun x => [some (.row [.vl false 1 (z.origin.map (codStr.val false)), .vl false 5 (z.sets.map (codSet.val false))] 0 2 26), some (.row [.vl false 1 (z.origin.map (codStr.val false)), .vl false 5 (z.sets.map (codSet.val false)), .sc (.int .i64 (x.2))] 0 2 88)]) (fun x => x.1 ≤ z.sets.length ∧ eachE 262 (fun _ s => underN s.owner z.origin) 0 z.sets e0 = eachE 262 (fun _ s => underN s.owner z.origin) x.1 (z.sets.drop x.1) x.2) (fun x => z.sets.length - x.1) (0, e0) ⟨Nat.zero_le _, rfl⟩ (by simp only [↓wR, RA, simprocAttr, TF, CD0] <;> rfl) (by simp only [↓wR, RA, simprocAttr, TF, CD0] <;> rfl) ?_
    rintro ⟨i, e⟩ ⟨hi, hx⟩
    simp only at hi hx
    simp only [↓wR, RA, simprocAttr, TF, CD0]
    rw [boolK_d]; refine ⟨fun h => ?_, fun h => ?_⟩
    · obtain ⟨c, hc, hd1, hlt⟩ := at_lt (decide_eq_true h)
      rw [eachE_at hd1] at hx
      have hcs := hz.set c (List.mem_of_getElem? hc)
      have hi2 : (0 : Int) ≤ i ∧ (i : Int) ≤ z.sets.length := by omega
      simp only [↓wR, RA, simprocAttr, TF, CD0, h, hc]
      rw [boolK_neI]; refine ⟨fun ⟨h1, e1⟩ => ?_, fun ⟨h1, e1⟩ => ?_⟩
      · rw [if_pos e1] at hx
        simp only [↓wR, RA, simprocAttr, TF, CD0, h1, cjV, cjS, cjN]
        rw [hx]
      · rw [if_neg (by omega)] at hx
        simp only [↓wR, RA, simprocAttr, TF, CD0, h1, hcs, hz, hi2, zInsideF]
        refine callAt_join (fun r st' => r = .tup [] ∧ st' = stK [some (.row [.vl false 1 (z.origin.map (codStr.val false)), .vl false 5 (z.sets.map (codSet.val false))] 0 2 26), some (.row [.vl false 1 (z.origin.map (codStr.val false)), .vl false 5 (z.sets.map (codSet.val false)), .sc (.int .i64 (needE ((fun _ s => underN s.owner z.origin) i c) 262 e))] 0 2 88), some (.row [.vl false 1 (c.owner.map (codStr.val false)), .sc (.int .u16 c.type.toNat), .sc (.int .u16 c.cls.toNat), .sc (.int .u32 c.ttl.toNat), .vl false 4 (c.data.map (codData.val false))] 0 2 50)]) rfl ?_ ?_
        · refine callAt_of_wl (T := [nameCheck, nameSame, setCheck, zRises, zAlone, zClass, zInside, zStar, zOcc, zSoas]) ok mixed Tryz.func44 rfl (by kernel_rfl) (by kernel_rfl) (by kernel_rfl) (by kernel_rfl) ?_; unfold Tryz.f44
          simp only [↓wR, RA, simprocAttr, TF, CD0, e1]
          rw [boolK_b]; refine ⟨fun hn2 => ?_, fun hn2 => ?_⟩
          · have hb : ((fun _ s => underN s.owner z.origin) i c) = false := by simpa only [Bool.not_eq_true'] using hn2
            have hv : needE ((fun _ s => underN s.owner z.origin) i c) 262 0 = 262 := by unfold needE; rw [if_pos ⟨rfl, hb⟩]
            simp only [↓wR, RA, simprocAttr, TF, CD0, hn2, cjV, cjS, cjN]
            try rw [hv]
          · have hb : ((fun _ s => underN s.owner z.origin) i c) = true := by simpa only [Bool.not_eq_false'] using hn2
            have hv : needE ((fun _ s => underN s.owner z.origin) i c) 262 0 = 0 := by unfold needE; rw [if_neg (fun q => by rw [hb] at q; cases q.2)]
            simp only [↓wR, RA, simprocAttr, TF, CD0, hn2, cjV, cjS, cjN]
            try rw [hv]
        rintro _ _ ⟨rfl, rfl⟩
        simp only [↓wR, RA, simprocAttr, TF, CD0, contK]; repeat (simp (disch := omega) only [wrapI64, dleN, dltN, dleI, dltI]; try simp only [↓wR, RA, simprocAttr, TF, CD0, contK])
        exact ⟨(i + 1, needE ((fun _ s => underN s.owner z.origin) i c) 262 e), ⟨hlt, hx⟩, by simp; omega, by (first | rfl | trivial | omega | (simp (disch := omega) only [wrapI64]; first | done | rfl | (simp only [List.cons.injEq, accV_snoc, accO_snoc, List.length_append, List.length_cons, List.length_nil, List.map_append, List.map_cons, List.map_nil, and_true, true_and, and_self, AV.sc.injEq, AV.sl.injEq, AObj.row.injEq, Option.some.injEq, Value.int.injEq, Nat.zero_add]; first | done | rfl | omega)) | (simp only [List.cons.injEq, accV_snoc, accO_snoc, List.length_append, List.length_cons, List.length_nil, List.map_append, List.map_cons, List.map_nil, and_true, true_and, and_self, AV.sc.injEq, AV.sl.injEq, AObj.row.injEq, Option.some.injEq, Value.int.injEq, Nat.zero_add]; first | done | rfl | omega)), by (first | rfl | trivial | omega | (simp (disch := omega) only [wrapI64]; first | done | rfl | (simp only [List.cons.injEq, accV_snoc, accO_snoc, List.length_append, List.length_cons, List.length_nil, List.map_append, List.map_cons, List.map_nil, and_true, true_and, and_self, AV.sc.injEq, AV.sl.injEq, AObj.row.injEq, Option.some.injEq, Value.int.injEq, Nat.zero_add]; first | done | rfl | omega)) | (simp only [List.cons.injEq, accV_snoc, accO_snoc, List.length_append, List.length_cons, List.length_nil, List.map_append, List.map_cons, List.map_nil, and_true, true_and, and_self, AV.sc.injEq, AV.sl.injEq, AObj.row.injEq, Option.some.injEq, Value.int.injEq, Nat.zero_add]; first | done | rfl | omega))⟩
    · rw [at_ge (decide_eq_false h)] at hx
      simp only [↓wR, RA, simprocAttr, TF, CD0, h, cjV, cjS, cjN]
      rw [hx]; rfl
  rintro _ _ ⟨rfl, rfl⟩
  rw [← he0]
  clear he0
  simp only [↓wR, RA, simprocAttr, TF, CD0, contK, zSoasF, hz]
  rw [show eachE 262 (fun _ s => underN s.owner z.origin) 0 z.sets (zoneE2 z) = zoneE3 z from rfl]
  rw [boolK_eqI]; refine ⟨fun ⟨hs1, es1⟩ => ?_, fun ⟨hs1, es1⟩ => ?_⟩
  · simp only [↓wR, RA, simprocAttr, TF, CD0, hs1]
    rw [show (((soasV z).2 : Int) == 1) = (decide ((soasV z).1 = 1) && decide ((soasV z).2 = 1)) from by rw [decide_eq_true (show (soasV z).1 = 1 by omega), Bool.true_and, Bool.eq_iff_iff]; simp; omega]
    refine callAt_join (fun r st' => r = .tup [] ∧ st' = stK [some (.row [.vl false 1 (z.origin.map (codStr.val false)), .vl false 5 (z.sets.map (codSet.val false))] 0 2 26), some (.row [.vl false 1 (z.origin.map (codStr.val false)), .vl false 5 (z.sets.map (codSet.val false)), .sc (.int .i64 (needE (decide ((soasV z).1 = 1) && decide ((soasV z).2 = 1)) 263 (zoneE3 z)))] 0 2 88)]) rfl ?_ ?_
    · refine callAt_of_wl (T := [nameCheck, nameSame, setCheck, zRises, zAlone, zClass, zInside, zStar, zOcc, zSoas]) ok mixed Tryz.func44 rfl (by kernel_rfl) (by kernel_rfl) (by kernel_rfl) (by kernel_rfl) ?_; unfold Tryz.f44
      simp only [↓wR, RA, simprocAttr, TF, CD0]
      rw [boolK_eqI]; refine ⟨fun ⟨hn1, en1⟩ => ?_, fun ⟨hn1, en1⟩ => ?_⟩
      · simp only [↓wR, RA, simprocAttr, TF, CD0, hn1]
        rw [boolK_b]; refine ⟨fun hn2 => ?_, fun hn2 => ?_⟩
        · have hb : (decide ((soasV z).1 = 1) && decide ((soasV z).2 = 1)) = false := by simpa only [Bool.not_eq_true'] using hn2
          have hv : needE (decide ((soasV z).1 = 1) && decide ((soasV z).2 = 1)) 263 (zoneE3 z) = 263 := by unfold needE; rw [if_pos ⟨en1, hb⟩]
          simp only [↓wR, RA, simprocAttr, TF, CD0, hn1, hn2, cjV, cjS, cjN]
          try rw [hv]
        · have hb : (decide ((soasV z).1 = 1) && decide ((soasV z).2 = 1)) = true := by simpa only [Bool.not_eq_false'] using hn2
          have hv : needE (decide ((soasV z).1 = 1) && decide ((soasV z).2 = 1)) 263 (zoneE3 z) = zoneE3 z := by unfold needE; rw [if_neg (fun q => by rw [hb] at q; cases q.2)]
          simp only [↓wR, RA, simprocAttr, TF, CD0, hn1, hn2, cjV, cjS, cjN]
          try rw [hv]
      · have hv : needE (decide ((soasV z).1 = 1) && decide ((soasV z).2 = 1)) 263 (zoneE3 z) = zoneE3 z := by unfold needE; rw [if_neg (fun q => en1 q.1)]
        simp only [↓wR, RA, simprocAttr, TF, CD0, hn1, cjV, cjS, cjN]
        try rw [hv]
    rintro _ _ ⟨rfl, rfl⟩
    rw [show needE (decide ((soasV z).1 = 1) && decide ((soasV z).2 = 1)) 263 (zoneE3 z) = zoneE4 z from rfl]
    simp only [↓wR, RA, simprocAttr, TF, CD0, contK]
    refine callAt_of_wl (T := []) (TabOk.nil PP) mixed Tryz.func29 rfl (by kernel_rfl) (by kernel_rfl) (by kernel_rfl) (by kernel_rfl) ?_; unfold Tryz.f29
    simp only [↓wR, RA, simprocAttr, TF, CD0]
    refine ⟨[1, 3, 6, 45], ?_⟩
    have hib : iterB PP 50 = some (Tryz.f50.ntmps, Tryz.f50.body.getD .skip) := by kernel_rfl
    simp only [↓wR, RA, simprocAttr, TF, CD0, hib]
    refine ⟨by kernel_rfl, fun l => ?_⟩
    unfold Tryz.f50
    simp only [↓wR, RA, simprocAttr, TF, CD0]
    refine loopI_of' [0, 2, 7, 8, 9] (fun (x : Nat × Bool) => [.sc (.func (.yield l) #[] #[]), .ptr 4 0, .vl false 5 (z.sets.map (codSet.val false)), .sc (.int .i64 (z.sets.length)), .sc (.int .i64 (x.1))]) (fun x => [some (.row [.vl false 1 (z.origin.map (codStr.val false)), .vl false 5 (z.sets.map (codSet.val false))] 0 2 26), some (.row [.vl false 1 (z.origin.map (codStr.val false)), .vl false 5 (z.sets.map (codSet.val false)), .sc (.int .i64 (zoneE4 z))] 0 2 88), some (.row [.sc (.bool (x.2))] 0 2 4), some (.row [.vl false 1 (z.origin.map (codStr.val false)), .vl false 5 (z.sets.map (codSet.val false))] 0 2 26), some (.row [.sc (.int .u16 2)] 0 2 45)]) (fun x => x.1 ≤ z.sets.length ∧ apexV z = (x.2 || apexL z (z.sets.drop x.1))) (fun x => z.sets.length - x.1) (0, false) ⟨Nat.zero_le _, by rw [Bool.false_or]; rfl⟩ (by simp only [↓wR, RA, simprocAttr, TF, CD0] <;> rfl) (by simp only [↓wR, RA, simprocAttr, TF, CD0] <;> rfl) ?_
    rintro ⟨i, b⟩ ⟨hi, hx⟩
    simp only at hi hx
    simp only [↓wR, RA, simprocAttr, TF, CD0]
    rw [boolI_b]; refine ⟨fun h => ?_, fun h => ?_⟩
    · obtain ⟨c, hc, hd1, hlt⟩ := at_lt h
      have hcs := hz.set c (List.mem_of_getElem? hc)
      rw [apexL_at hd1] at hx
      simp only [↓wR, RA, simprocAttr, TF, CD0, h, hc]
      rw [boolI_b]; refine ⟨fun h2 => ?_, fun h2 => ?_⟩
      · have e2 : (c.type.toNat : Int) = 2 := by simpa using h2
        rw [decide_eq_true e2, Bool.true_and] at hx
        simp only [↓wR, RA, simprocAttr, TF, CD0, h2]
        refine yield_keep [0, 2, 7, 8, 9, 17, 19] ?_
        simp only [↓wR, RA, simprocAttr, TF, CD0, yieldC, roundC]
        cases b with
        | true =>
          simp only [↓wR, RA, simprocAttr, TF, CD0]; repeat (simp (disch := omega) only [wrapI64, dleN, dltN, dleI, dltI]; try simp only [↓wR, RA, simprocAttr, TF, CD0])
          exact ⟨(i + 1, true), ⟨hlt, by rw [hx]; rfl⟩, by simp; omega, by (first | rfl | trivial | omega | (simp (disch := omega) only [wrapI64]; first | done | rfl | (simp only [List.cons.injEq, accV_snoc, accO_snoc, List.length_append, List.length_cons, List.length_nil, List.map_append, List.map_cons, List.map_nil, and_true, true_and, and_self, AV.sc.injEq, AV.sl.injEq, AObj.row.injEq, Option.some.injEq, Value.int.injEq, Nat.zero_add]; first | done | rfl | omega)) | (simp only [List.cons.injEq, accV_snoc, accO_snoc, List.length_append, List.length_cons, List.length_nil, List.map_append, List.map_cons, List.map_nil, and_true, true_and, and_self, AV.sc.injEq, AV.sl.injEq, AObj.row.injEq, Option.some.injEq, Value.int.injEq, Nat.zero_add]; first | done | rfl | omega)), by (first | rfl | trivial | omega | (simp (disch := omega) only [wrapI64]; first | done | rfl | (simp only [List.cons.injEq, accV_snoc, accO_snoc, List.length_append, List.length_cons, List.length_nil, List.map_append, List.map_cons, List.map_nil, and_true, true_and, and_self, AV.sc.injEq, AV.sl.injEq, AObj.row.injEq, Option.some.injEq, Value.int.injEq, Nat.zero_add]; first | done | rfl | omega)) | (simp only [List.cons.injEq, accV_snoc, accO_snoc, List.length_append, List.length_cons, List.length_nil, List.map_append, List.map_cons, List.map_nil, and_true, true_and, and_self, AV.sc.injEq, AV.sl.injEq, AObj.row.injEq, Option.some.injEq, Value.int.injEq, Nat.zero_add]; first | done | rfl | omega))⟩
        | false =>
          simp only [↓wR, RA, simprocAttr, TF, CD0, nameSameF, hcs.owner, hz.origin]; repeat (simp (disch := omega) only [wrapI64, dleN, dltN, dleI, dltI]; try simp only [↓wR, RA, simprocAttr, TF, CD0, nameSameF, hcs.owner, hz.origin])
          exact ⟨(i + 1, sameN c.owner z.origin), ⟨hlt, by rw [hx, Bool.false_or]⟩, by simp; omega, by (first | rfl | trivial | omega | (simp (disch := omega) only [wrapI64]; first | done | rfl | (simp only [List.cons.injEq, accV_snoc, accO_snoc, List.length_append, List.length_cons, List.length_nil, List.map_append, List.map_cons, List.map_nil, and_true, true_and, and_self, AV.sc.injEq, AV.sl.injEq, AObj.row.injEq, Option.some.injEq, Value.int.injEq, Nat.zero_add]; first | done | rfl | omega)) | (simp only [List.cons.injEq, accV_snoc, accO_snoc, List.length_append, List.length_cons, List.length_nil, List.map_append, List.map_cons, List.map_nil, and_true, true_and, and_self, AV.sc.injEq, AV.sl.injEq, AObj.row.injEq, Option.some.injEq, Value.int.injEq, Nat.zero_add]; first | done | rfl | omega)), by (first | rfl | trivial | omega | (simp (disch := omega) only [wrapI64]; first | done | rfl | (simp only [List.cons.injEq, accV_snoc, accO_snoc, List.length_append, List.length_cons, List.length_nil, List.map_append, List.map_cons, List.map_nil, and_true, true_and, and_self, AV.sc.injEq, AV.sl.injEq, AObj.row.injEq, Option.some.injEq, Value.int.injEq, Nat.zero_add]; first | done | rfl | omega)) | (simp only [List.cons.injEq, accV_snoc, accO_snoc, List.length_append, List.length_cons, List.length_nil, List.map_append, List.map_cons, List.map_nil, and_true, true_and, and_self, AV.sc.injEq, AV.sl.injEq, AObj.row.injEq, Option.some.injEq, Value.int.injEq, Nat.zero_add]; first | done | rfl | omega))⟩
      · have e2 : ¬ (c.type.toNat : Int) = 2 := by simpa using h2
        rw [decide_eq_false e2, Bool.false_and, Bool.false_or] at hx
        simp only [↓wR, RA, simprocAttr, TF, CD0, h2]; repeat (simp (disch := omega) only [wrapI64, dleN, dltN, dleI, dltI]; try simp only [↓wR, RA, simprocAttr, TF, CD0, h2])
        exact ⟨(i + 1, b), ⟨hlt, hx⟩, by simp; omega, by (first | rfl | trivial | omega | (simp (disch := omega) only [wrapI64]; first | done | rfl | (simp only [List.cons.injEq, accV_snoc, accO_snoc, List.length_append, List.length_cons, List.length_nil, List.map_append, List.map_cons, List.map_nil, and_true, true_and, and_self, AV.sc.injEq, AV.sl.injEq, AObj.row.injEq, Option.some.injEq, Value.int.injEq, Nat.zero_add]; first | done | rfl | omega)) | (simp only [List.cons.injEq, accV_snoc, accO_snoc, List.length_append, List.length_cons, List.length_nil, List.map_append, List.map_cons, List.map_nil, and_true, true_and, and_self, AV.sc.injEq, AV.sl.injEq, AObj.row.injEq, Option.some.injEq, Value.int.injEq, Nat.zero_add]; first | done | rfl | omega)), by (first | rfl | trivial | omega | (simp (disch := omega) only [wrapI64]; first | done | rfl | (simp only [List.cons.injEq, accV_snoc, accO_snoc, List.length_append, List.length_cons, List.length_nil, List.map_append, List.map_cons, List.map_nil, and_true, true_and, and_self, AV.sc.injEq, AV.sl.injEq, AObj.row.injEq, Option.some.injEq, Value.int.injEq, Nat.zero_add]; first | done | rfl | omega)) | (simp only [List.cons.injEq, accV_snoc, accO_snoc, List.length_append, List.length_cons, List.length_nil, List.map_append, List.map_cons, List.map_nil, and_true, true_and, and_self, AV.sc.injEq, AV.sl.injEq, AObj.row.injEq, Option.some.injEq, Value.int.injEq, Nat.zero_add]; first | done | rfl | omega))⟩
    rw [at_ge h] at hx
    have hb : b = apexV z := by rw [hx]; simp [apexL]
    simp only [↓wR, RA, simprocAttr, TF, CD0, h]
    rw [hb]
    clear h hx hb
    refine callAt_join (fun r st' => r = .tup [] ∧ st' = stK [some (.row [.vl false 1 (z.origin.map (codStr.val false)), .vl false 5 (z.sets.map (codSet.val false))] 0 2 26), some (.row [.vl false 1 (z.origin.map (codStr.val false)), .vl false 5 (z.sets.map (codSet.val false)), .sc (.int .i64 (needE (apexV z) 264 (zoneE4 z)))] 0 2 88), some (.row [.sc (.bool (apexV z))] 0 2 4), some (.row [.vl false 1 (z.origin.map (codStr.val false)), .vl false 5 (z.sets.map (codSet.val false))] 0 2 26), some (.row [.sc (.int .u16 2)] 0 2 45)]) rfl ?_ ?_
    · refine callAt_of_wl (T := [nameCheck, nameSame, setCheck, zRises, zAlone, zClass, zInside, zStar, zOcc, zSoas]) ok mixed Tryz.func44 rfl (by kernel_rfl) (by kernel_rfl) (by kernel_rfl) (by kernel_rfl) ?_; unfold Tryz.f44
      simp only [↓wR, RA, simprocAttr, TF, CD0]
      rw [boolK_eqI]; refine ⟨fun ⟨hn1, en1⟩ => ?_, fun ⟨hn1, en1⟩ => ?_⟩
      · simp only [↓wR, RA, simprocAttr, TF, CD0, hn1]
        rw [boolK_b]; refine ⟨fun hn2 => ?_, fun hn2 => ?_⟩
        · have hb : (apexV z) = false := by simpa only [Bool.not_eq_true'] using hn2
          have hv : needE (apexV z) 264 (zoneE4 z) = 264 := by unfold needE; rw [if_pos ⟨en1, hb⟩]
          simp only [↓wR, RA, simprocAttr, TF, CD0, hn1, hn2, cjV, cjS, cjN]
          try rw [hv]
        · have hb : (apexV z) = true := by simpa only [Bool.not_eq_false'] using hn2
          have hv : needE (apexV z) 264 (zoneE4 z) = zoneE4 z := by unfold needE; rw [if_neg (fun q => by rw [hb] at q; cases q.2)]
          simp only [↓wR, RA, simprocAttr, TF, CD0, hn1, hn2, cjV, cjS, cjN]
          try rw [hv]
      · have hv : needE (apexV z) 264 (zoneE4 z) = zoneE4 z := by unfold needE; rw [if_neg (fun q => en1 q.1)]
        simp only [↓wR, RA, simprocAttr, TF, CD0, hn1, cjV, cjS, cjN]
        try rw [hv]
    rintro _ _ ⟨rfl, rfl⟩
    rw [show needE (apexV z) 264 (zoneE4 z) = zoneE5 z from rfl]
    simp only [↓wR, RA, simprocAttr, TF, CD0, contK]
    obtain ⟨e0, he0⟩ : ∃ e0, zoneE5 z = e0 := ⟨_, rfl⟩
    rw [he0]
    refine callAt_join (fun r st' => r = .tup [] ∧ st' = stK [some (.row [.vl false 1 (z.origin.map (codStr.val false)), .vl false 5 (z.sets.map (codSet.val false))] 0 2 26), some (.row [.vl false 1 (z.origin.map (codStr.val false)), .vl false 5 (z.sets.map (codSet.val false)), .sc (.int .i64 (eachE 265 (aloneV z) 0 z.sets e0))] 0 2 88), some (.row [.sc (.bool (apexV z))] 0 2 4), some (.row [.vl false 1 (z.origin.map (codStr.val false)), .vl false 5 (z.sets.map (codSet.val false))] 0 2 26), some (.row [.sc (.int .u16 2)] 0 2 45)]) rfl ?_ ?_
    · refine callAt_of_wl (T := [nameCheck, nameSame, setCheck, zRises, zAlone, zClass, zInside, zStar, zOcc, zSoas]) ok mixed Tryz.func39 rfl (by kernel_rfl) (by kernel_rfl) (by kernel_rfl) (by kernel_rfl) ?_; unfold Tryz.f39
      simp only [↓wR, RA, simprocAttr, TF, CD0]
      refine loop_of [0, 1, 2, 12, 13, 14] (fun (x : Nat × Int) => [.ptr 1 0, .sc (.int .i64 (265)), .fn (.func 45) [.ptr 1 0] [], .vl false 5 (z.sets.map (codSet.val false)), .sc (.int .i64 (z.sets.length)), .sc (.int .i64 (x.1))]) (fun x => [some (.row [.vl false 1 (z.origin.map (codStr.val false)), .vl false 5 (z.sets.map (codSet.val false))] 0 2 26), some (.row [.vl false 1 (z.origin.map (codStr.val false)), .vl false 5 (z.sets.map (codSet.val false)), .sc (.int .i64 (x.2))] 0 2 88), some (.row [.sc (.bool (apexV z))] 0 2 4), some (.row [.vl false 1 (z.origin.map (codStr.val false)), .vl false 5 (z.sets.map (codSet.val false))] 0 2 26), some (.row [.sc (.int .u16 2)] 0 2 45)]) (fun x => x.1 ≤ z.sets.length ∧ eachE 265 (aloneV z) 0 z.sets e0 = eachE 265 (aloneV z) x.1 (z.sets.drop x.1) x.2) (fun x => z.sets.length - x.1) (0, e0) ⟨Nat.zero_le _, rfl⟩ (by simp only [↓wR, RA, simprocAttr, TF, CD0] <;> rfl) (by simp only [↓wR, RA, simprocAttr, TF, CD0] <;> rfl) ?_
      rintro ⟨i, e⟩ ⟨hi, hx⟩
      simp only at hi hx
      simp only [↓wR, RA, simprocAttr, TF, CD0]
      rw [boolK_d]; refine ⟨fun h => ?_, fun h => ?_⟩
      · obtain ⟨c, hc, hd1, hlt⟩ := at_lt (decide_eq_true h)
        rw [eachE_at hd1] at hx
        have hcs := hz.set c (List.mem_of_getElem? hc)
        have hi2 : (0 : Int) ≤ i ∧ (i : Int) ≤ z.sets.length := by omega
        simp only [↓wR, RA, simprocAttr, TF, CD0, h, hc]
        rw [boolK_neI]; refine ⟨fun ⟨h1, e1⟩ => ?_, fun ⟨h1, e1⟩ => ?_⟩
        · rw [if_pos e1] at hx
          simp only [↓wR, RA, simprocAttr, TF, CD0, h1, cjV, cjS, cjN]
          rw [hx]
        · rw [if_neg (by omega)] at hx
          simp only [↓wR, RA, simprocAttr, TF, CD0, h1, hcs, hz, hi2, zAloneF]
          refine callAt_join (fun r st' => r = .tup [] ∧ st' = stK [some (.row [.vl false 1 (z.origin.map (codStr.val false)), .vl false 5 (z.sets.map (codSet.val false))] 0 2 26), some (.row [.vl false 1 (z.origin.map (codStr.val false)), .vl false 5 (z.sets.map (codSet.val false)), .sc (.int .i64 (needE ((aloneV z) i c) 265 e))] 0 2 88), some (.row [.sc (.bool (apexV z))] 0 2 4), some (.row [.vl false 1 (z.origin.map (codStr.val false)), .vl false 5 (z.sets.map (codSet.val false))] 0 2 26), some (.row [.sc (.int .u16 2)] 0 2 45), some (.row [.vl false 1 (c.owner.map (codStr.val false)), .sc (.int .u16 c.type.toNat), .sc (.int .u16 c.cls.toNat), .sc (.int .u32 c.ttl.toNat), .vl false 4 (c.data.map (codData.val false))] 0 2 50)]) rfl ?_ ?_
          · refine callAt_of_wl (T := [nameCheck, nameSame, setCheck, zRises, zAlone, zClass, zInside, zStar, zOcc, zSoas]) ok mixed Tryz.func44 rfl (by kernel_rfl) (by kernel_rfl) (by kernel_rfl) (by kernel_rfl) ?_; unfold Tryz.f44
            simp only [↓wR, RA, simprocAttr, TF, CD0, e1]
            rw [boolK_b]; refine ⟨fun hn2 => ?_, fun hn2 => ?_⟩
            · have hb : ((aloneV z) i c) = false := by simpa only [Bool.not_eq_true'] using hn2
              have hv : needE ((aloneV z) i c) 265 0 = 265 := by unfold needE; rw [if_pos ⟨rfl, hb⟩]
              simp only [↓wR, RA, simprocAttr, TF, CD0, hn2, cjV, cjS, cjN]
              try rw [hv]
            · have hb : ((aloneV z) i c) = true := by simpa only [Bool.not_eq_false'] using hn2
              have hv : needE ((aloneV z) i c) 265 0 = 0 := by unfold needE; rw [if_neg (fun q => by rw [hb] at q; cases q.2)]
              simp only [↓wR, RA, simprocAttr, TF, CD0, hn2, cjV, cjS, cjN]
              try rw [hv]
          rintro _ _ ⟨rfl, rfl⟩
          simp only [↓wR, RA, simprocAttr, TF, CD0, contK]; repeat (simp (disch := omega) only [wrapI64, dleN, dltN, dleI, dltI]; try simp only [↓wR, RA, simprocAttr, TF, CD0, contK])
          exact ⟨(i + 1, needE ((aloneV z) i c) 265 e), ⟨hlt, hx⟩, by simp; omega, by (first | rfl | trivial | omega | (simp (disch := omega) only [wrapI64]; first | done | rfl | (simp only [List.cons.injEq, accV_snoc, accO_snoc, List.length_append, List.length_cons, List.length_nil, List.map_append, List.map_cons, List.map_nil, and_true, true_and, and_self, AV.sc.injEq, AV.sl.injEq, AObj.row.injEq, Option.some.injEq, Value.int.injEq, Nat.zero_add]; first | done | rfl | omega)) | (simp only [List.cons.injEq, accV_snoc, accO_snoc, List.length_append, List.length_cons, List.length_nil, List.map_append, List.map_cons, List.map_nil, and_true, true_and, and_self, AV.sc.injEq, AV.sl.injEq, AObj.row.injEq, Option.some.injEq, Value.int.injEq, Nat.zero_add]; first | done | rfl | omega)), by (first | rfl | trivial | omega | (simp (disch := omega) only [wrapI64]; first | done | rfl | (simp only [List.cons.injEq, accV_snoc, accO_snoc, List.length_append, List.length_cons, List.length_nil, List.map_append, List.map_cons, List.map_nil, and_true, true_and, and_self, AV.sc.injEq, AV.sl.injEq, AObj.row.injEq, Option.some.injEq, Value.int.injEq, Nat.zero_add]; first | done | rfl | omega)) | (simp only [List.cons.injEq, accV_snoc, accO_snoc, List.length_append, List.length_cons, List.length_nil, List.map_append, List.map_cons, List.map_nil, and_true, true_and, and_self, AV.sc.injEq, AV.sl.injEq, AObj.row.injEq, Option.some.injEq, Value.int.injEq, Nat.zero_add]; first | done | rfl | omega))⟩
      · rw [at_ge (decide_eq_false h)] at hx
        simp only [↓wR, RA, simprocAttr, TF, CD0, h, cjV, cjS, cjN]
        rw [hx]; rfl
    rintro _ _ ⟨rfl, rfl⟩
    rw [← he0]
    clear he0
    simp only [↓wR, RA, simprocAttr, TF, CD0, contK]
    rw [show eachE 265 (aloneV z) 0 z.sets (zoneE5 z) = zoneE6 z from rfl]
    obtain ⟨e0, he0⟩ : ∃ e0, zoneE6 z = e0 := ⟨_, rfl⟩
    rw [he0]
    refine callAt_join (fun r st' => r = .tup [] ∧ st' = stK [some (.row [.vl false 1 (z.origin.map (codStr.val false)), .vl false 5 (z.sets.map (codSet.val false))] 0 2 26), some (.row [.vl false 1 (z.origin.map (codStr.val false)), .vl false 5 (z.sets.map (codSet.val false)), .sc (.int .i64 (eachE 266 (fun _ s => starV s) 0 z.sets e0))] 0 2 88), some (.row [.sc (.bool (apexV z))] 0 2 4), some (.row [.vl false 1 (z.origin.map (codStr.val false)), .vl false 5 (z.sets.map (codSet.val false))] 0 2 26), some (.row [.sc (.int .u16 2)] 0 2 45)]) rfl ?_ ?_
    · refine callAt_of_wl (T := [nameCheck, nameSame, setCheck, zRises, zAlone, zClass, zInside, zStar, zOcc, zSoas]) ok mixed Tryz.func39 rfl (by kernel_rfl) (by kernel_rfl) (by kernel_rfl) (by kernel_rfl) ?_; unfold Tryz.f39
      simp only [↓wR, RA, simprocAttr, TF, CD0]
      refine loop_of [0, 1, 2, 12, 13, 14] (fun (x : Nat × Int) => [.ptr 1 0, .sc (.int .i64 (266)), .sc (.func (.func 46) #[] #[]), .vl false 5 (z.sets.map (codSet.val false)), .sc (.int .i64 (z.sets.length)), .sc (.int .i64 (x.1))]) (fun x => [some (.row [.vl false 1 (z.origin.map (codStr.val false)), .vl false 5 (z.sets.map (codSet.val false))] 0 2 26), some (.row [.vl false 1 (z.origin.map (codStr.val false)), .vl false 5 (z.sets.map (codSet.val false)), .sc (.int .i64 (x.2))] 0 2 88), some (.row [.sc (.bool (apexV z))] 0 2 4), some (.row [.vl false 1 (z.origin.map (codStr.val false)), .vl false 5 (z.sets.map (codSet.val false))] 0 2 26), some (.row [.sc (.int .u16 2)] 0 2 45)]) (fun x => x.1 ≤ z.sets.length ∧ eachE 266 (fun _ s => starV s) 0 z.sets e0 = eachE 266 (fun _ s => starV s) x.1 (z.sets.drop x.1) x.2) (fun x => z.sets.length - x.1) (0, e0) ⟨Nat.zero_le _, rfl⟩ (by simp only [↓wR, RA, simprocAttr, TF, CD0] <;> rfl) (by simp only [↓wR, RA, simprocAttr, TF, CD0] <;> rfl) ?_
      rintro ⟨i, e⟩ ⟨hi, hx⟩
      simp only at hi hx
      simp only [↓wR, RA, simprocAttr, TF, CD0]
      rw [boolK_d]; refine ⟨fun h => ?_, fun h => ?_⟩
      · obtain ⟨c, hc, hd1, hlt⟩ := at_lt (decide_eq_true h)
        rw [eachE_at hd1] at hx
        have hcs := hz.set c (List.mem_of_getElem? hc)
        have hi2 : (0 : Int) ≤ i ∧ (i : Int) ≤ z.sets.length := by omega
        simp only [↓wR, RA, simprocAttr, TF, CD0, h, hc]
        rw [boolK_neI]; refine ⟨fun ⟨h1, e1⟩ => ?_, fun ⟨h1, e1⟩ => ?_⟩
        · rw [if_pos e1] at hx
          simp only [↓wR, RA, simprocAttr, TF, CD0, h1, cjV, cjS, cjN]
          rw [hx]
        · rw [if_neg (by omega)] at hx
          simp only [↓wR, RA, simprocAttr, TF, CD0, h1, hcs, hz, hi2, zStarF]
          refine callAt_join (fun r st' => r = .tup [] ∧ st' = stK [some (.row [.vl false 1 (z.origin.map (codStr.val false)), .vl false 5 (z.sets.map (codSet.val false))] 0 2 26), some (.row [.vl false 1 (z.origin.map (codStr.val false)), .vl false 5 (z.sets.map (codSet.val false)), .sc (.int .i64 (needE ((fun _ s => starV s) i c) 266 e))] 0 2 88), some (.row [.sc (.bool (apexV z))] 0 2 4), some (.row [.vl false 1 (z.origin.map (codStr.val false)), .vl false 5 (z.sets.map (codSet.val false))] 0 2 26), some (.row [.sc (.int .u16 2)] 0 2 45), some (.row [.vl false 1 (c.owner.map (codStr.val false)), .sc (.int .u16 c.type.toNat), .sc (.int .u16 c.cls.toNat), .sc (.int .u32 c.ttl.toNat), .vl false 4 (c.data.map (codData.val false))] 0 2 50)]) rfl ?_ ?_
          · refine callAt_of_wl (T := [nameCheck, nameSame, setCheck, zRises, zAlone, zClass, zInside, zStar, zOcc, zSoas]) ok mixed Tryz.func44 rfl (by kernel_rfl) (by kernel_rfl) (by kernel_rfl) (by kernel_rfl) ?_; unfold Tryz.f44
            simp only [↓wR, RA, simprocAttr, TF, CD0, e1]
            rw [boolK_b]; refine ⟨fun hn2 => ?_, fun hn2 => ?_⟩
            · have hb : ((fun _ s => starV s) i c) = false := by simpa only [Bool.not_eq_true'] using hn2
              have hv : needE ((fun _ s => starV s) i c) 266 0 = 266 := by unfold needE; rw [if_pos ⟨rfl, hb⟩]
              simp only [↓wR, RA, simprocAttr, TF, CD0, hn2, cjV, cjS, cjN]
              try rw [hv]
            · have hb : ((fun _ s => starV s) i c) = true := by simpa only [Bool.not_eq_false'] using hn2
              have hv : needE ((fun _ s => starV s) i c) 266 0 = 0 := by unfold needE; rw [if_neg (fun q => by rw [hb] at q; cases q.2)]
              simp only [↓wR, RA, simprocAttr, TF, CD0, hn2, cjV, cjS, cjN]
              try rw [hv]
          rintro _ _ ⟨rfl, rfl⟩
          simp only [↓wR, RA, simprocAttr, TF, CD0, contK]; repeat (simp (disch := omega) only [wrapI64, dleN, dltN, dleI, dltI]; try simp only [↓wR, RA, simprocAttr, TF, CD0, contK])
          exact ⟨(i + 1, needE ((fun _ s => starV s) i c) 266 e), ⟨hlt, hx⟩, by simp; omega, by (first | rfl | trivial | omega | (simp (disch := omega) only [wrapI64]; first | done | rfl | (simp only [List.cons.injEq, accV_snoc, accO_snoc, List.length_append, List.length_cons, List.length_nil, List.map_append, List.map_cons, List.map_nil, and_true, true_and, and_self, AV.sc.injEq, AV.sl.injEq, AObj.row.injEq, Option.some.injEq, Value.int.injEq, Nat.zero_add]; first | done | rfl | omega)) | (simp only [List.cons.injEq, accV_snoc, accO_snoc, List.length_append, List.length_cons, List.length_nil, List.map_append, List.map_cons, List.map_nil, and_true, true_and, and_self, AV.sc.injEq, AV.sl.injEq, AObj.row.injEq, Option.some.injEq, Value.int.injEq, Nat.zero_add]; first | done | rfl | omega)), by (first | rfl | trivial | omega | (simp (disch := omega) only [wrapI64]; first | done | rfl | (simp only [List.cons.injEq, accV_snoc, accO_snoc, List.length_append, List.length_cons, List.length_nil, List.map_append, List.map_cons, List.map_nil, and_true, true_and, and_self, AV.sc.injEq, AV.sl.injEq, AObj.row.injEq, Option.some.injEq, Value.int.injEq, Nat.zero_add]; first | done | rfl | omega)) | (simp only [List.cons.injEq, accV_snoc, accO_snoc, List.length_append, List.length_cons, List.length_nil, List.map_append, List.map_cons, List.map_nil, and_true, true_and, and_self, AV.sc.injEq, AV.sl.injEq, AObj.row.injEq, Option.some.injEq, Value.int.injEq, Nat.zero_add]; first | done | rfl | omega))⟩
      · rw [at_ge (decide_eq_false h)] at hx
        simp only [↓wR, RA, simprocAttr, TF, CD0, h, cjV, cjS, cjN]
        rw [hx]; rfl
    rintro _ _ ⟨rfl, rfl⟩
    rw [← he0]
    clear he0
    simp only [↓wR, RA, simprocAttr, TF, CD0, contK]
    rw [show eachE 266 (fun _ s => starV s) 0 z.sets (zoneE6 z) = zoneE7 z from rfl]
    obtain ⟨e0, he0⟩ : ∃ e0, zoneE7 z = e0 := ⟨_, rfl⟩
    rw [he0]
    refine callAt_join (fun r st' => r = .tup [] ∧ st' = stK [some (.row [.vl false 1 (z.origin.map (codStr.val false)), .vl false 5 (z.sets.map (codSet.val false))] 0 2 26), some (.row [.vl false 1 (z.origin.map (codStr.val false)), .vl false 5 (z.sets.map (codSet.val false)), .sc (.int .i64 (eachE 267 (fun _ s => occV z s) 0 z.sets e0))] 0 2 88), some (.row [.sc (.bool (apexV z))] 0 2 4), some (.row [.vl false 1 (z.origin.map (codStr.val false)), .vl false 5 (z.sets.map (codSet.val false))] 0 2 26), some (.row [.sc (.int .u16 2)] 0 2 45)]) rfl ?_ ?_
    · refine callAt_of_wl (T := [nameCheck, nameSame, setCheck, zRises, zAlone, zClass, zInside, zStar, zOcc, zSoas]) ok mixed Tryz.func39 rfl (by kernel_rfl) (by kernel_rfl) (by kernel_rfl) (by kernel_rfl) ?_; unfold Tryz.f39
      simp only [↓wR, RA, simprocAttr, TF, CD0]
      refine loop_of [0, 1, 2, 12, 13, 14] (fun (x : Nat × Int) => [.ptr 1 0, .sc (.int .i64 (267)), .fn (.func 47) [] [.ptr 0 0], .vl false 5 (z.sets.map (codSet.val false)), .sc (.int .i64 (z.sets.length)), .sc (.int .i64 (x.1))]) (fun x => [some (.row [.vl false 1 (z.origin.map (codStr.val false)), .vl false 5 (z.sets.map (codSet.val false))] 0 2 26), some (.row [.vl false 1 (z.origin.map (codStr.val false)), .vl false 5 (z.sets.map (codSet.val false)), .sc (.int .i64 (x.2))] 0 2 88), some (.row [.sc (.bool (apexV z))] 0 2 4), some (.row [.vl false 1 (z.origin.map (codStr.val false)), .vl false 5 (z.sets.map (codSet.val false))] 0 2 26), some (.row [.sc (.int .u16 2)] 0 2 45)]) (fun x => x.1 ≤ z.sets.length ∧ eachE 267 (fun _ s => occV z s) 0 z.sets e0 = eachE 267 (fun _ s => occV z s) x.1 (z.sets.drop x.1) x.2) (fun x => z.sets.length - x.1) (0, e0) ⟨Nat.zero_le _, rfl⟩ (by simp only [↓wR, RA, simprocAttr, TF, CD0] <;> rfl) (by simp only [↓wR, RA, simprocAttr, TF, CD0] <;> rfl) ?_
      rintro ⟨i, e⟩ ⟨hi, hx⟩
      simp only at hi hx
      simp only [↓wR, RA, simprocAttr, TF, CD0]
      rw [boolK_d]; refine ⟨fun h => ?_, fun h => ?_⟩
      · obtain ⟨c, hc, hd1, hlt⟩ := at_lt (decide_eq_true h)
        rw [eachE_at hd1] at hx
        have hcs := hz.set c (List.mem_of_getElem? hc)
        have hi2 : (0 : Int) ≤ i ∧ (i : Int) ≤ z.sets.length := by omega
        simp only [↓wR, RA, simprocAttr, TF, CD0, h, hc]
        rw [boolK_neI]; refine ⟨fun ⟨h1, e1⟩ => ?_, fun ⟨h1, e1⟩ => ?_⟩
        · rw [if_pos e1] at hx
          simp only [↓wR, RA, simprocAttr, TF, CD0, h1, cjV, cjS, cjN]
          rw [hx]
        · rw [if_neg (by omega)] at hx
          simp only [↓wR, RA, simprocAttr, TF, CD0, h1, hcs, hz, hi2, zOccF]
          refine callAt_join (fun r st' => r = .tup [] ∧ st' = stK [some (.row [.vl false 1 (z.origin.map (codStr.val false)), .vl false 5 (z.sets.map (codSet.val false))] 0 2 26), some (.row [.vl false 1 (z.origin.map (codStr.val false)), .vl false 5 (z.sets.map (codSet.val false)), .sc (.int .i64 (needE ((fun _ s => occV z s) i c) 267 e))] 0 2 88), some (.row [.sc (.bool (apexV z))] 0 2 4), some (.row [.vl false 1 (z.origin.map (codStr.val false)), .vl false 5 (z.sets.map (codSet.val false))] 0 2 26), some (.row [.sc (.int .u16 2)] 0 2 45), some (.row [.vl false 1 (c.owner.map (codStr.val false)), .sc (.int .u16 c.type.toNat), .sc (.int .u16 c.cls.toNat), .sc (.int .u32 c.ttl.toNat), .vl false 4 (c.data.map (codData.val false))] 0 2 50)]) rfl ?_ ?_
          · refine callAt_of_wl (T := [nameCheck, nameSame, setCheck, zRises, zAlone, zClass, zInside, zStar, zOcc, zSoas]) ok mixed Tryz.func44 rfl (by kernel_rfl) (by kernel_rfl) (by kernel_rfl) (by kernel_rfl) ?_; unfold Tryz.f44
            simp only [↓wR, RA, simprocAttr, TF, CD0, e1]
            rw [boolK_b]; refine ⟨fun hn2 => ?_, fun hn2 => ?_⟩
            · have hb : ((fun _ s => occV z s) i c) = false := by simpa only [Bool.not_eq_true'] using hn2
              have hv : needE ((fun _ s => occV z s) i c) 267 0 = 267 := by unfold needE; rw [if_pos ⟨rfl, hb⟩]
              simp only [↓wR, RA, simprocAttr, TF, CD0, hn2, cjV, cjS, cjN]
              try rw [hv]
            · have hb : ((fun _ s => occV z s) i c) = true := by simpa only [Bool.not_eq_false'] using hn2
              have hv : needE ((fun _ s => occV z s) i c) 267 0 = 0 := by unfold needE; rw [if_neg (fun q => by rw [hb] at q; cases q.2)]
              simp only [↓wR, RA, simprocAttr, TF, CD0, hn2, cjV, cjS, cjN]
              try rw [hv]
          rintro _ _ ⟨rfl, rfl⟩
          simp only [↓wR, RA, simprocAttr, TF, CD0, contK]; repeat (simp (disch := omega) only [wrapI64, dleN, dltN, dleI, dltI]; try simp only [↓wR, RA, simprocAttr, TF, CD0, contK])
          exact ⟨(i + 1, needE ((fun _ s => occV z s) i c) 267 e), ⟨hlt, hx⟩, by simp; omega, by (first | rfl | trivial | omega | (simp (disch := omega) only [wrapI64]; first | done | rfl | (simp only [List.cons.injEq, accV_snoc, accO_snoc, List.length_append, List.length_cons, List.length_nil, List.map_append, List.map_cons, List.map_nil, and_true, true_and, and_self, AV.sc.injEq, AV.sl.injEq, AObj.row.injEq, Option.some.injEq, Value.int.injEq, Nat.zero_add]; first | done | rfl | omega)) | (simp only [List.cons.injEq, accV_snoc, accO_snoc, List.length_append, List.length_cons, List.length_nil, List.map_append, List.map_cons, List.map_nil, and_true, true_and, and_self, AV.sc.injEq, AV.sl.injEq, AObj.row.injEq, Option.some.injEq, Value.int.injEq, Nat.zero_add]; first | done | rfl | omega)), by (first | rfl | trivial | omega | (simp (disch := omega) only [wrapI64]; first | done | rfl | (simp only [List.cons.injEq, accV_snoc, accO_snoc, List.length_append, List.length_cons, List.length_nil, List.map_append, List.map_cons, List.map_nil, and_true, true_and, and_self, AV.sc.injEq, AV.sl.injEq, AObj.row.injEq, Option.some.injEq, Value.int.injEq, Nat.zero_add]; first | done | rfl | omega)) | (simp only [List.cons.injEq, accV_snoc, accO_snoc, List.length_append, List.length_cons, List.length_nil, List.map_append, List.map_cons, List.map_nil, and_true, true_and, and_self, AV.sc.injEq, AV.sl.injEq, AObj.row.injEq, Option.some.injEq, Value.int.injEq, Nat.zero_add]; first | done | rfl | omega))⟩
      · rw [at_ge (decide_eq_false h)] at hx
        simp only [↓wR, RA, simprocAttr, TF, CD0, h, cjV, cjS, cjN]
        rw [hx]; rfl
    rintro _ _ ⟨rfl, rfl⟩
    rw [← he0]
    clear he0
    simp only [↓wR, RA, simprocAttr, TF, CD0, contK]
    rfl
  · simp only [↓wR, RA, simprocAttr, TF, CD0, hs1]
    have hbf : (decide ((soasV z).1 = 1) && decide ((soasV z).2 = 1)) = false := by rw [decide_eq_false (show ¬ (soasV z).1 = 1 by omega), Bool.false_and]
    refine callAt_join (fun r st' => r = .tup [] ∧ st' = stK [some (.row [.vl false 1 (z.origin.map (codStr.val false)), .vl false 5 (z.sets.map (codSet.val false))] 0 2 26), some (.row [.vl false 1 (z.origin.map (codStr.val false)), .vl false 5 (z.sets.map (codSet.val false)), .sc (.int .i64 (needE (decide ((soasV z).1 = 1) && decide ((soasV z).2 = 1)) 263 (zoneE3 z)))] 0 2 88)]) rfl ?_ ?_
    · refine callAt_of_wl (T := [nameCheck, nameSame, setCheck, zRises, zAlone, zClass, zInside, zStar, zOcc, zSoas]) ok mixed Tryz.func44 rfl (by kernel_rfl) (by kernel_rfl) (by kernel_rfl) (by kernel_rfl) ?_; unfold Tryz.f44
      simp only [↓wR, RA, simprocAttr, TF, CD0]
      rw [boolK_eqI]; refine ⟨fun ⟨hn1, en1⟩ => ?_, fun ⟨hn1, en1⟩ => ?_⟩
      · have hv : needE (decide ((soasV z).1 = 1) && decide ((soasV z).2 = 1)) 263 (zoneE3 z) = 263 := by unfold needE; rw [if_pos ⟨en1, hbf⟩]
        simp only [↓wR, RA, simprocAttr, TF, CD0, hn1, cjV, cjS, cjN]
        try rw [hv]
      · have hv : needE (decide ((soasV z).1 = 1) && decide ((soasV z).2 = 1)) 263 (zoneE3 z) = zoneE3 z := by unfold needE; rw [if_neg (fun q => en1 q.1)]
        simp only [↓wR, RA, simprocAttr, TF, CD0, hn1, cjV, cjS, cjN]
        try rw [hv]
    rintro _ _ ⟨rfl, rfl⟩
    rw [show needE (decide ((soasV z).1 = 1) && decide ((soasV z).2 = 1)) 263 (zoneE3 z) = zoneE4 z from rfl]
    simp only [↓wR, RA, simprocAttr, TF, CD0, contK]
    refine callAt_of_wl (T := []) (TabOk.nil PP) mixed Tryz.func29 rfl (by kernel_rfl) (by kernel_rfl) (by kernel_rfl) (by kernel_rfl) ?_; unfold Tryz.f29
    simp only [↓wR, RA, simprocAttr, TF, CD0]
    refine ⟨[1, 3, 6, 45], ?_⟩
    have hib : iterB PP 50 = some (Tryz.f50.ntmps, Tryz.f50.body.getD .skip) := by kernel_rfl
    simp only [↓wR, RA, simprocAttr, TF, CD0, hib]
    refine ⟨by kernel_rfl, fun l => ?_⟩
    unfold Tryz.f50
    simp only [↓wR, RA, simprocAttr, TF, CD0]
    refine loopI_of' [0, 2, 7, 8, 9] (fun (x : Nat × Bool) => [.sc (.func (.yield l) #[] #[]), .ptr 4 0, .vl false 5 (z.sets.map (codSet.val false)), .sc (.int .i64 (z.sets.length)), .sc (.int .i64 (x.1))]) (fun x => [some (.row [.vl false 1 (z.origin.map (codStr.val false)), .vl false 5 (z.sets.map (codSet.val false))] 0 2 26), some (.row [.vl false 1 (z.origin.map (codStr.val false)), .vl false 5 (z.sets.map (codSet.val false)), .sc (.int .i64 (zoneE4 z))] 0 2 88), some (.row [.sc (.bool (x.2))] 0 2 4), some (.row [.vl false 1 (z.origin.map (codStr.val false)), .vl false 5 (z.sets.map (codSet.val false))] 0 2 26), some (.row [.sc (.int .u16 2)] 0 2 45)]) (fun x => x.1 ≤ z.sets.length ∧ apexV z = (x.2 || apexL z (z.sets.drop x.1))) (fun x => z.sets.length - x.1) (0, false) ⟨Nat.zero_le _, by rw [Bool.false_or]; rfl⟩ (by simp only [↓wR, RA, simprocAttr, TF, CD0] <;> rfl) (by simp only [↓wR, RA, simprocAttr, TF, CD0] <;> rfl) ?_
    rintro ⟨i, b⟩ ⟨hi, hx⟩
    simp only at hi hx
    simp only [↓wR, RA, simprocAttr, TF, CD0]
    rw [boolI_b]; refine ⟨fun h => ?_, fun h => ?_⟩
    · obtain ⟨c, hc, hd1, hlt⟩ := at_lt h
      have hcs := hz.set c (List.mem_of_getElem? hc)
      rw [apexL_at hd1] at hx
      simp only [↓wR, RA, simprocAttr, TF, CD0, h, hc]
      rw [boolI_b]; refine ⟨fun h2 => ?_, fun h2 => ?_⟩
      · have e2 : (c.type.toNat : Int) = 2 := by simpa using h2
        rw [decide_eq_true e2, Bool.true_and] at hx
        simp only [↓wR, RA, simprocAttr, TF, CD0, h2]
        refine yield_keep [0, 2, 7, 8, 9, 17, 19] ?_
        simp only [↓wR, RA, simprocAttr, TF, CD0, yieldC, roundC]
        cases b with
        | true =>
          simp only [↓wR, RA, simprocAttr, TF, CD0]; repeat (simp (disch := omega) only [wrapI64, dleN, dltN, dleI, dltI]; try simp only [↓wR, RA, simprocAttr, TF, CD0])
          exact ⟨(i + 1, true), ⟨hlt, by rw [hx]; rfl⟩, by simp; omega, by (first | rfl | trivial | omega | (simp (disch := omega) only [wrapI64]; first | done | rfl | (simp only [List.cons.injEq, accV_snoc, accO_snoc, List.length_append, List.length_cons, List.length_nil, List.map_append, List.map_cons, List.map_nil, and_true, true_and, and_self, AV.sc.injEq, AV.sl.injEq, AObj.row.injEq, Option.some.injEq, Value.int.injEq, Nat.zero_add]; first | done | rfl | omega)) | (simp only [List.cons.injEq, accV_snoc, accO_snoc, List.length_append, List.length_cons, List.length_nil, List.map_append, List.map_cons, List.map_nil, and_true, true_and, and_self, AV.sc.injEq, AV.sl.injEq, AObj.row.injEq, Option.some.injEq, Value.int.injEq, Nat.zero_add]; first | done | rfl | omega)), by (first | rfl | trivial | omega | (simp (disch := omega) only [wrapI64]; first | done | rfl | (simp only [List.cons.injEq, accV_snoc, accO_snoc, List.length_append, List.length_cons, List.length_nil, List.map_append, List.map_cons, List.map_nil, and_true, true_and, and_self, AV.sc.injEq, AV.sl.injEq, AObj.row.injEq, Option.some.injEq, Value.int.injEq, Nat.zero_add]; first | done | rfl | omega)) | (simp only [List.cons.injEq, accV_snoc, accO_snoc, List.length_append, List.length_cons, List.length_nil, List.map_append, List.map_cons, List.map_nil, and_true, true_and, and_self, AV.sc.injEq, AV.sl.injEq, AObj.row.injEq, Option.some.injEq, Value.int.injEq, Nat.zero_add]; first | done | rfl | omega))⟩
        | false =>
          simp only [↓wR, RA, simprocAttr, TF, CD0, nameSameF, hcs.owner, hz.origin]; repeat (simp (disch := omega) only [wrapI64, dleN, dltN, dleI, dltI]; try simp only [↓wR, RA, simprocAttr, TF, CD0, nameSameF, hcs.owner, hz.origin])
          exact ⟨(i + 1, sameN c.owner z.origin), ⟨hlt, by rw [hx, Bool.false_or]⟩, by simp; omega, by (first | rfl | trivial | omega | (simp (disch := omega) only [wrapI64]; first | done | rfl | (simp only [List.cons.injEq, accV_snoc, accO_snoc, List.length_append, List.length_cons, List.length_nil, List.map_append, List.map_cons, List.map_nil, and_true, true_and, and_self, AV.sc.injEq, AV.sl.injEq, AObj.row.injEq, Option.some.injEq, Value.int.injEq, Nat.zero_add]; first | done | rfl | omega)) | (simp only [List.cons.injEq, accV_snoc, accO_snoc, List.length_append, List.length_cons, List.length_nil, List.map_append, List.map_cons, List.map_nil, and_true, true_and, and_self, AV.sc.injEq, AV.sl.injEq, AObj.row.injEq, Option.some.injEq, Value.int.injEq, Nat.zero_add]; first | done | rfl | omega)), by (first | rfl | trivial | omega | (simp (disch := omega) only [wrapI64]; first | done | rfl | (simp only [List.cons.injEq, accV_snoc, accO_snoc, List.length_append, List.length_cons, List.length_nil, List.map_append, List.map_cons, List.map_nil, and_true, true_and, and_self, AV.sc.injEq, AV.sl.injEq, AObj.row.injEq, Option.some.injEq, Value.int.injEq, Nat.zero_add]; first | done | rfl | omega)) | (simp only [List.cons.injEq, accV_snoc, accO_snoc, List.length_append, List.length_cons, List.length_nil, List.map_append, List.map_cons, List.map_nil, and_true, true_and, and_self, AV.sc.injEq, AV.sl.injEq, AObj.row.injEq, Option.some.injEq, Value.int.injEq, Nat.zero_add]; first | done | rfl | omega))⟩
      · have e2 : ¬ (c.type.toNat : Int) = 2 := by simpa using h2
        rw [decide_eq_false e2, Bool.false_and, Bool.false_or] at hx
        simp only [↓wR, RA, simprocAttr, TF, CD0, h2]; repeat (simp (disch := omega) only [wrapI64, dleN, dltN, dleI, dltI]; try simp only [↓wR, RA, simprocAttr, TF, CD0, h2])
        exact ⟨(i + 1, b), ⟨hlt, hx⟩, by simp; omega, by (first | rfl | trivial | omega | (simp (disch := omega) only [wrapI64]; first | done | rfl | (simp only [List.cons.injEq, accV_snoc, accO_snoc, List.length_append, List.length_cons, List.length_nil, List.map_append, List.map_cons, List.map_nil, and_true, true_and, and_self, AV.sc.injEq, AV.sl.injEq, AObj.row.injEq, Option.some.injEq, Value.int.injEq, Nat.zero_add]; first | done | rfl | omega)) | (simp only [List.cons.injEq, accV_snoc, accO_snoc, List.length_append, List.length_cons, List.length_nil, List.map_append, List.map_cons, List.map_nil, and_true, true_and, and_self, AV.sc.injEq, AV.sl.injEq, AObj.row.injEq, Option.some.injEq, Value.int.injEq, Nat.zero_add]; first | done | rfl | omega)), by (first | rfl | trivial | omega | (simp (disch := omega) only [wrapI64]; first | done | rfl | (simp only [List.cons.injEq, accV_snoc, accO_snoc, List.length_append, List.length_cons, List.length_nil, List.map_append, List.map_cons, List.map_nil, and_true, true_and, and_self, AV.sc.injEq, AV.sl.injEq, AObj.row.injEq, Option.some.injEq, Value.int.injEq, Nat.zero_add]; first | done | rfl | omega)) | (simp only [List.cons.injEq, accV_snoc, accO_snoc, List.length_append, List.length_cons, List.length_nil, List.map_append, List.map_cons, List.map_nil, and_true, true_and, and_self, AV.sc.injEq, AV.sl.injEq, AObj.row.injEq, Option.some.injEq, Value.int.injEq, Nat.zero_add]; first | done | rfl | omega))⟩
    rw [at_ge h] at hx
    have hb : b = apexV z := by rw [hx]; simp [apexL]
    simp only [↓wR, RA, simprocAttr, TF, CD0, h]
    rw [hb]
    clear h hx hb
    refine callAt_join (fun r st' => r = .tup [] ∧ st' = stK [some (.row [.vl false 1 (z.origin.map (codStr.val false)), .vl false 5 (z.sets.map (codSet.val false))] 0 2 26), some (.row [.vl false 1 (z.origin.map (codStr.val false)), .vl false 5 (z.sets.map (codSet.val false)), .sc (.int .i64 (needE (apexV z) 264 (zoneE4 z)))] 0 2 88), some (.row [.sc (.bool (apexV z))] 0 2 4), some (.row [.vl false 1 (z.origin.map (codStr.val false)), .vl false 5 (z.sets.map (codSet.val false))] 0 2 26), some (.row [.sc (.int .u16 2)] 0 2 45)]) rfl ?_ ?_
    · refine callAt_of_wl (T := [nameCheck, nameSame, setCheck, zRises, zAlone, zClass, zInside, zStar, zOcc, zSoas]) ok mixed Tryz.func44 rfl (by kernel_rfl) (by kernel_rfl) (by kernel_rfl) (by kernel_rfl) ?_; unfold Tryz.f44
      simp only [↓wR, RA, simprocAttr, TF, CD0]
      rw [boolK_eqI]; refine ⟨fun ⟨hn1, en1⟩ => ?_, fun ⟨hn1, en1⟩ => ?_⟩
      · simp only [↓wR, RA, simprocAttr, TF, CD0, hn1]
        rw [boolK_b]; refine ⟨fun hn2 => ?_, fun hn2 => ?_⟩
        · have hb : (apexV z) = false := by simpa only [Bool.not_eq_true'] using hn2
          have hv : needE (apexV z) 264 (zoneE4 z) = 264 := by unfold needE; rw [if_pos ⟨en1, hb⟩]
          simp only [↓wR, RA, simprocAttr, TF, CD0, hn1, hn2, cjV, cjS, cjN]
          try rw [hv]
        · have hb : (apexV z) = true := by simpa only [Bool.not_eq_false'] using hn2
          have hv : needE (apexV z) 264 (zoneE4 z) = zoneE4 z := by unfold needE; rw [if_neg (fun q => by rw [hb] at q; cases q.2)]
          simp only [↓wR, RA, simprocAttr, TF, CD0, hn1, hn2, cjV, cjS, cjN]
          try rw [hv]
      · have hv : needE (apexV z) 264 (zoneE4 z) = zoneE4 z := by unfold needE; rw [if_neg (fun q => en1 q.1)]
        simp only [↓wR, RA, simprocAttr, TF, CD0, hn1, cjV, cjS, cjN]
        try rw [hv]
    rintro _ _ ⟨rfl, rfl⟩
    rw [show needE (apexV z) 264 (zoneE4 z) = zoneE5 z from rfl]
    simp only [↓wR, RA, simprocAttr, TF, CD0, contK]
    obtain ⟨e0, he0⟩ : ∃ e0, zoneE5 z = e0 := ⟨_, rfl⟩
    rw [he0]
    refine callAt_join (fun r st' => r = .tup [] ∧ st' = stK [some (.row [.vl false 1 (z.origin.map (codStr.val false)), .vl false 5 (z.sets.map (codSet.val false))] 0 2 26), some (.row [.vl false 1 (z.origin.map (codStr.val false)), .vl false 5 (z.sets.map (codSet.val false)), .sc (.int .i64 (eachE 265 (aloneV z) 0 z.sets e0))] 0 2 88), some (.row [.sc (.bool (apexV z))] 0 2 4), some (.row [.vl false 1 (z.origin.map (codStr.val false)), .vl false 5 (z.sets.map (codSet.val false))] 0 2 26), some (.row [.sc (.int .u16 2)] 0 2 45)]) rfl ?_ ?_
    · refine callAt_of_wl (T := [nameCheck, nameSame, setCheck, zRises, zAlone, zClass, zInside, zStar, zOcc, zSoas]) ok mixed Tryz.func39 rfl (by kernel_rfl) (by kernel_rfl) (by kernel_rfl) (by kernel_rfl) ?_; unfold Tryz.f39
      simp only [↓wR, RA, simprocAttr, TF, CD0]
      refine loop_of [0, 1, 2, 12, 13, 14] (fun (x : Nat × Int) => [.ptr 1 0, .sc (.int .i64 (265)), .fn (.func 45) [.ptr 1 0] [], .vl false 5 (z.sets.map (codSet.val false)), .sc (.int .i64 (z.sets.length)), .sc (.int .i64 (x.1))]) (fun x => [some (.row [.vl false 1 (z.origin.map (codStr.val false)), .vl false 5 (z.sets.map (codSet.val false))] 0 2 26), some (.row [.vl false 1 (z.origin.map (codStr.val false)), .vl false 5 (z.sets.map (codSet.val false)), .sc (.int .i64 (x.2))] 0 2 88), some (.row [.sc (.bool (apexV z))] 0 2 4), some (.row [.vl false 1 (z.origin.map (codStr.val false)), .vl false 5 (z.sets.map (codSet.val false))] 0 2 26), some (.row [.sc (.int .u16 2)] 0 2 45)]) (fun x => x.1 ≤ z.sets.length ∧ eachE 265 (aloneV z) 0 z.sets e0 = eachE 265 (aloneV z) x.1 (z.sets.drop x.1) x.2) (fun x => z.sets.length - x.1) (0, e0) ⟨Nat.zero_le _, rfl⟩ (by simp only [↓wR, RA, simprocAttr, TF, CD0] <;> rfl) (by simp only [↓wR, RA, simprocAttr, TF, CD0] <;> rfl) ?_
      rintro ⟨i, e⟩ ⟨hi, hx⟩
      simp only at hi hx
      simp only [↓wR, RA, simprocAttr, TF, CD0]
      rw [boolK_d]; refine ⟨fun h => ?_, fun h => ?_⟩
      · obtain ⟨c, hc, hd1, hlt⟩ := at_lt (decide_eq_true h)
        rw [eachE_at hd1] at hx
        have hcs := hz.set c (List.mem_of_getElem? hc)
        have hi2 : (0 : Int) ≤ i ∧ (i : Int) ≤ z.sets.length := by omega
        simp only [↓wR, RA, simprocAttr, TF, CD0, h, hc]
        rw [boolK_neI]; refine ⟨fun ⟨h1, e1⟩ => ?_, fun ⟨h1, e1⟩ => ?_⟩
        · rw [if_pos e1] at hx
          simp only [↓wR, RA, simprocAttr, TF, CD0, h1, cjV, cjS, cjN]
          rw [hx]
        · rw [if_neg (by omega)] at hx
          simp only [↓wR, RA, simprocAttr, TF, CD0, h1, hcs, hz, hi2, zAloneF]
          refine callAt_join (fun r st' => r = .tup [] ∧ st' = stK [some (.row [.vl false 1 (z.origin.map (codStr.val false)), .vl false 5 (z.sets.map (codSet.val false))] 0 2 26), some (.row [.vl false 1 (z.origin.map (codStr.val false)), .vl false 5 (z.sets.map (codSet.val false)), .sc (.int .i64 (needE ((aloneV z) i c) 265 e))] 0 2 88), some (.row [.sc (.bool (apexV z))] 0 2 4), some (.row [.vl false 1 (z.origin.map (codStr.val false)), .vl false 5 (z.sets.map (codSet.val false))] 0 2 26), some (.row [.sc (.int .u16 2)] 0 2 45), some (.row [.vl false 1 (c.owner.map (codStr.val false)), .sc (.int .u16 c.type.toNat), .sc (.int .u16 c.cls.toNat), .sc (.int .u32 c.ttl.toNat), .vl false 4 (c.data.map (codData.val false))] 0 2 50)]) rfl ?_ ?_
          · refine callAt_of_wl (T := [nameCheck, nameSame, setCheck, zRises, zAlone, zClass, zInside, zStar, zOcc, zSoas]) ok mixed Tryz.func44 rfl (by kernel_rfl) (by kernel_rfl) (by kernel_rfl) (by kernel_rfl) ?_; unfold Tryz.f44
            simp only [↓wR, RA, simprocAttr, TF, CD0, e1]
            rw [boolK_b]; refine ⟨fun hn2 => ?_, fun hn2 => ?_⟩
            · have hb : ((aloneV z) i c) = false := by simpa only [Bool.not_eq_true'] using hn2
              have hv : needE ((aloneV z) i c) 265 0 = 265 := by unfold needE; rw [if_pos ⟨rfl, hb⟩]
              simp only [↓wR, RA, simprocAttr, TF, CD0, hn2, cjV, cjS, cjN]
              try rw [hv]
            · have hb : ((aloneV z) i c) = true := by simpa only [Bool.not_eq_false'] using hn2
              have hv : needE ((aloneV z) i c) 265 0 = 0 := by unfold needE; rw [if_neg (fun q => by rw [hb] at q; cases q.2)]
              simp only [↓wR, RA, simprocAttr, TF, CD0, hn2, cjV, cjS, cjN]
              try rw [hv]
          rintro _ _ ⟨rfl, rfl⟩
          simp only [↓wR, RA, simprocAttr, TF, CD0, contK]; repeat (simp (disch := omega) only [wrapI64, dleN, dltN, dleI, dltI]; try simp only [↓wR, RA, simprocAttr, TF, CD0, contK])
          exact ⟨(i + 1, needE ((aloneV z) i c) 265 e), ⟨hlt, hx⟩, by simp; omega, by (first | rfl | trivial | omega | (simp (disch := omega) only [wrapI64]; first | done | rfl | (simp only [List.cons.injEq, accV_snoc, accO_snoc, List.length_append, List.length_cons, List.length_nil, List.map_append, List.map_cons, List.map_nil, and_true, true_and, and_self, AV.sc.injEq, AV.sl.injEq, AObj.row.injEq, Option.some.injEq, Value.int.injEq, Nat.zero_add]; first | done | rfl | omega)) | (simp only [List.cons.injEq, accV_snoc, accO_snoc, List.length_append, List.length_cons, List.length_nil, List.map_append, List.map_cons, List.map_nil, and_true, true_and, and_self, AV.sc.injEq, AV.sl.injEq, AObj.row.injEq, Option.some.injEq, Value.int.injEq, Nat.zero_add]; first | done | rfl | omega)), by (first | rfl | trivial | omega | (simp (disch := omega) only [wrapI64]; first | done | rfl | (simp only [List.cons.injEq, accV_snoc, accO_snoc, List.length_append, List.length_cons, List.length_nil, List.map_append, List.map_cons, List.map_nil, and_true, true_and, and_self, AV.sc.injEq, AV.sl.injEq, AObj.row.injEq, Option.some.injEq, Value.int.injEq, Nat.zero_add]; first | done | rfl | omega)) | (simp only [List.cons.injEq, accV_snoc, accO_snoc, List.length_append, List.length_cons, List.length_nil, List.map_append, List.map_cons, List.map_nil, and_true, true_and, and_self, AV.sc.injEq, AV.sl.injEq, AObj.row.injEq, Option.some.injEq, Value.int.injEq, Nat.zero_add]; first | done | rfl | omega))⟩
      · rw [at_ge (decide_eq_false h)] at hx
        simp only [↓wR, RA, simprocAttr, TF, CD0, h, cjV, cjS, cjN]
        rw [hx]; rfl
    rintro _ _ ⟨rfl, rfl⟩
    rw [← he0]
    clear he0
    simp only [↓wR, RA, simprocAttr, TF, CD0, contK]
    rw [show eachE 265 (aloneV z) 0 z.sets (zoneE5 z) = zoneE6 z from rfl]
    obtain ⟨e0, he0⟩ : ∃ e0, zoneE6 z = e0 := ⟨_, rfl⟩
    rw [he0]
    refine callAt_join (fun r st' => r = .tup [] ∧ st' = stK [some (.row [.vl false 1 (z.origin.map (codStr.val false)), .vl false 5 (z.sets.map (codSet.val false))] 0 2 26), some (.row [.vl false 1 (z.origin.map (codStr.val false)), .vl false 5 (z.sets.map (codSet.val false)), .sc (.int .i64 (eachE 266 (fun _ s => starV s) 0 z.sets e0))] 0 2 88), some (.row [.sc (.bool (apexV z))] 0 2 4), some (.row [.vl false 1 (z.origin.map (codStr.val false)), .vl false 5 (z.sets.map (codSet.val false))] 0 2 26), some (.row [.sc (.int .u16 2)] 0 2 45)]) rfl ?_ ?_
    · refine callAt_of_wl (T := [nameCheck, nameSame, setCheck, zRises, zAlone, zClass, zInside, zStar, zOcc, zSoas]) ok mixed Tryz.func39 rfl (by kernel_rfl) (by kernel_rfl) (by kernel_rfl) (by kernel_rfl) ?_; unfold Tryz.f39
      simp only [↓wR, RA, simprocAttr, TF, CD0]
      refine loop_of [0, 1, 2, 12, 13, 14] (fun (x : Nat × Int) => [.ptr 1 0, .sc (.int .i64 (266)), .sc (.func (.func 46) #[] #[]), .vl false 5 (z.sets.map (codSet.val false)), .sc (.int .i64 (z.sets.length)), .sc (.int .i64 (x.1))]) (fun x => [some (.row [.vl false 1 (z.origin.map (codStr.val false)), .vl false 5 (z.sets.map (codSet.val false))] 0 2 26), some (.row [.vl false 1 (z.origin.map (codStr.val false)), .vl false 5 (z.sets.map (codSet.val false)), .sc (.int .i64 (x.2))] 0 2 88), some (.row [.sc (.bool (apexV z))] 0 2 4), some (.row [.vl false 1 (z.origin.map (codStr.val false)), .vl false 5 (z.sets.map (codSet.val false))] 0 2 26), some (.row [.sc (.int .u16 2)] 0 2 45)]) (fun x => x.1 ≤ z.sets.length ∧ eachE 266 (fun _ s => starV s) 0 z.sets e0 = eachE 266 (fun _ s => starV s) x.1 (z.sets.drop x.1) x.2) (fun x => z.sets.length - x.1) (0, e0) ⟨Nat.zero_le _, rfl⟩ (by simp only [↓wR, RA, simprocAttr, TF, CD0] <;> rfl) (by simp only [↓wR, RA, simprocAttr, TF, CD0] <;> rfl) ?_
      rintro ⟨i, e⟩ ⟨hi, hx⟩
      simp only at hi hx
      simp only [↓wR, RA, simprocAttr, TF, CD0]
      rw [boolK_d]; refine ⟨fun h => ?_, fun h => ?_⟩
      · obtain ⟨c, hc, hd1, hlt⟩ := at_lt (decide_eq_true h)
        rw [eachE_at hd1] at hx
        have hcs := hz.set c (List.mem_of_getElem? hc)
        have hi2 : (0 : Int) ≤ i ∧ (i : Int) ≤ z.sets.length := by omega
        simp only [↓wR, RA, simprocAttr, TF, CD0, h, hc]
        rw [boolK_neI]; refine ⟨fun ⟨h1, e1⟩ => ?_, fun ⟨h1, e1⟩ => ?_⟩
        · rw [if_pos e1] at hx
          simp only [↓wR, RA, simprocAttr, TF, CD0, h1, cjV, cjS, cjN]
          rw [hx]
        · rw [if_neg (by omega)] at hx
          simp only [↓wR, RA, simprocAttr, TF, CD0, h1, hcs, hz, hi2, zStarF]
          refine callAt_join (fun r st' => r = .tup [] ∧ st' = stK [some (.row [.vl false 1 (z.origin.map (codStr.val false)), .vl false 5 (z.sets.map (codSet.val false))] 0 2 26), some (.row [.vl false 1 (z.origin.map (codStr.val false)), .vl false 5 (z.sets.map (codSet.val false)), .sc (.int .i64 (needE ((fun _ s => starV s) i c) 266 e))] 0 2 88), some (.row [.sc (.bool (apexV z))] 0 2 4), some (.row [.vl false 1 (z.origin.map (codStr.val false)), .vl false 5 (z.sets.map (codSet.val false))] 0 2 26), some (.row [.sc (.int .u16 2)] 0 2 45), some (.row [.vl false 1 (c.owner.map (codStr.val false)), .sc (.int .u16 c.type.toNat), .sc (.int .u16 c.cls.toNat), .sc (.int .u32 c.ttl.toNat), .vl false 4 (c.data.map (codData.val false))] 0 2 50)]) rfl ?_ ?_
          · refine callAt_of_wl (T := [nameCheck, nameSame, setCheck, zRises, zAlone, zClass, zInside, zStar, zOcc, zSoas]) ok mixed Tryz.func44 rfl (by kernel_rfl) (by kernel_rfl) (by kernel_rfl) (by kernel_rfl) ?_; unfold Tryz.f44
            simp only [↓wR, RA, simprocAttr, TF, CD0, e1]
            rw [boolK_b]; refine ⟨fun hn2 => ?_, fun hn2 => ?_⟩
            · have hb : ((fun _ s => starV s) i c) = false := by simpa only [Bool.not_eq_true'] using hn2
              have hv : needE ((fun _ s => starV s) i c) 266 0 = 266 := by unfold needE; rw [if_pos ⟨rfl, hb⟩]
              simp only [↓wR, RA, simprocAttr, TF, CD0, hn2, cjV, cjS, cjN]
              try rw [hv]
            · have hb : ((fun _ s => starV s) i c) = true := by simpa only [Bool.not_eq_false'] using hn2
              have hv : needE ((fun _ s => starV s) i c) 266 0 = 0 := by unfold needE; rw [if_neg (fun q => by rw [hb] at q; cases q.2)]
              simp only [↓wR, RA, simprocAttr, TF, CD0, hn2, cjV, cjS, cjN]
              try rw [hv]
          rintro _ _ ⟨rfl, rfl⟩
          simp only [↓wR, RA, simprocAttr, TF, CD0, contK]; repeat (simp (disch := omega) only [wrapI64, dleN, dltN, dleI, dltI]; try simp only [↓wR, RA, simprocAttr, TF, CD0, contK])
          exact ⟨(i + 1, needE ((fun _ s => starV s) i c) 266 e), ⟨hlt, hx⟩, by simp; omega, by (first | rfl | trivial | omega | (simp (disch := omega) only [wrapI64]; first | done | rfl | (simp only [List.cons.injEq, accV_snoc, accO_snoc, List.length_append, List.length_cons, List.length_nil, List.map_append, List.map_cons, List.map_nil, and_true, true_and, and_self, AV.sc.injEq, AV.sl.injEq, AObj.row.injEq, Option.some.injEq, Value.int.injEq, Nat.zero_add]; first | done | rfl | omega)) | (simp only [List.cons.injEq, accV_snoc, accO_snoc, List.length_append, List.length_cons, List.length_nil, List.map_append, List.map_cons, List.map_nil, and_true, true_and, and_self, AV.sc.injEq, AV.sl.injEq, AObj.row.injEq, Option.some.injEq, Value.int.injEq, Nat.zero_add]; first | done | rfl | omega)), by (first | rfl | trivial | omega | (simp (disch := omega) only [wrapI64]; first | done | rfl | (simp only [List.cons.injEq, accV_snoc, accO_snoc, List.length_append, List.length_cons, List.length_nil, List.map_append, List.map_cons, List.map_nil, and_true, true_and, and_self, AV.sc.injEq, AV.sl.injEq, AObj.row.injEq, Option.some.injEq, Value.int.injEq, Nat.zero_add]; first | done | rfl | omega)) | (simp only [List.cons.injEq, accV_snoc, accO_snoc, List.length_append, List.length_cons, List.length_nil, List.map_append, List.map_cons, List.map_nil, and_true, true_and, and_self, AV.sc.injEq, AV.sl.injEq, AObj.row.injEq, Option.some.injEq, Value.int.injEq, Nat.zero_add]; first | done | rfl | omega))⟩
      · rw [at_ge (decide_eq_false h)] at hx
        simp only [↓wR, RA, simprocAttr, TF, CD0, h, cjV, cjS, cjN]
        rw [hx]; rfl
    rintro _ _ ⟨rfl, rfl⟩
    rw [← he0]
    clear he0
    simp only [↓wR, RA, simprocAttr, TF, CD0, contK]
    rw [show eachE 266 (fun _ s => starV s) 0 z.sets (zoneE6 z) = zoneE7 z from rfl]
    obtain ⟨e0, he0⟩ : ∃ e0, zoneE7 z = e0 := ⟨_, rfl⟩
    rw [he0]
    refine callAt_join (fun r st' => r = .tup [] ∧ st' = stK [some (.row [.vl false 1 (z.origin.map (codStr.val false)), .vl false 5 (z.sets.map (codSet.val false))] 0 2 26), some (.row [.vl false 1 (z.origin.map (codStr.val false)), .vl false 5 (z.sets.map (codSet.val false)), .sc (.int .i64 (eachE 267 (fun _ s => occV z s) 0 z.sets e0))] 0 2 88), some (.row [.sc (.bool (apexV z))] 0 2 4), some (.row [.vl false 1 (z.origin.map (codStr.val false)), .vl false 5 (z.sets.map (codSet.val false))] 0 2 26), some (.row [.sc (.int .u16 2)] 0 2 45)]) rfl ?_ ?_
    · refine callAt_of_wl (T := [nameCheck, nameSame, setCheck, zRises, zAlone, zClass, zInside, zStar, zOcc, zSoas]) ok mixed Tryz.func39 rfl (by kernel_rfl) (by kernel_rfl) (by kernel_rfl) (by kernel_rfl) ?_; unfold Tryz.f39
      simp only [↓wR, RA, simprocAttr, TF, CD0]
      refine loop_of [0, 1, 2, 12, 13, 14] (fun (x : Nat × Int) => [.ptr 1 0, .sc (.int .i64 (267)), .fn (.func 47) [] [.ptr 0 0], .vl false 5 (z.sets.map (codSet.val false)), .sc (.int .i64 (z.sets.length)), .sc (.int .i64 (x.1))]) (fun x => [some (.row [.vl false 1 (z.origin.map (codStr.val false)), .vl false 5 (z.sets.map (codSet.val false))] 0 2 26), some (.row [.vl false 1 (z.origin.map (codStr.val false)), .vl false 5 (z.sets.map (codSet.val false)), .sc (.int .i64 (x.2))] 0 2 88), some (.row [.sc (.bool (apexV z))] 0 2 4), some (.row [.vl false 1 (z.origin.map (codStr.val false)), .vl false 5 (z.sets.map (codSet.val false))] 0 2 26), some (.row [.sc (.int .u16 2)] 0 2 45)]) (fun x => x.1 ≤ z.sets.length ∧ eachE 267 (fun _ s => occV z s) 0 z.sets e0 = eachE 267 (fun _ s => occV z s) x.1 (z.sets.drop x.1) x.2) (fun x => z.sets.length - x.1) (0, e0) ⟨Nat.zero_le _, rfl⟩ (by simp only [↓wR, RA, simprocAttr, TF, CD0] <;> rfl) (by simp only [↓wR, RA, simprocAttr, TF, CD0] <;> rfl) ?_
      rintro ⟨i, e⟩ ⟨hi, hx⟩
      simp only at hi hx
      simp only [↓wR, RA, simprocAttr, TF, CD0]
      rw [boolK_d]; refine ⟨fun h => ?_, fun h => ?_⟩
      · obtain ⟨c, hc, hd1, hlt⟩ := at_lt (decide_eq_true h)
        rw [eachE_at hd1] at hx
        have hcs := hz.set c (List.mem_of_getElem? hc)
        have hi2 : (0 : Int) ≤ i ∧ (i : Int) ≤ z.sets.length := by omega
        simp only [↓wR, RA, simprocAttr, TF, CD0, h, hc]
        rw [boolK_neI]; refine ⟨fun ⟨h1, e1⟩ => ?_, fun ⟨h1, e1⟩ => ?_⟩
        · rw [if_pos e1] at hx
          simp only [↓wR, RA, simprocAttr, TF, CD0, h1, cjV, cjS, cjN]
          rw [hx]
        · rw [if_neg (by omega)] at hx
          simp only [↓wR, RA, simprocAttr, TF, CD0, h1, hcs, hz, hi2, zOccF]
          refine callAt_join (fun r st' => r = .tup [] ∧ st' = stK [some (.row [.vl false 1 (z.origin.map (codStr.val false)), .vl false 5 (z.sets.map (codSet.val false))] 0 2 26), some (.row [.vl false 1 (z.origin.map (codStr.val false)), .vl false 5 (z.sets.map (codSet.val false)), .sc (.int .i64 (needE ((fun _ s => occV z s) i c) 267 e))] 0 2 88), some (.row [.sc (.bool (apexV z))] 0 2 4), some (.row [.vl false 1 (z.origin.map (codStr.val false)), .vl false 5 (z.sets.map (codSet.val false))] 0 2 26), some (.row [.sc (.int .u16 2)] 0 2 45), some (.row [.vl false 1 (c.owner.map (codStr.val false)), .sc (.int .u16 c.type.toNat), .sc (.int .u16 c.cls.toNat), .sc (.int .u32 c.ttl.toNat), .vl false 4 (c.data.map (codData.val false))] 0 2 50)]) rfl ?_ ?_
          · refine callAt_of_wl (T := [nameCheck, nameSame, setCheck, zRises, zAlone, zClass, zInside, zStar, zOcc, zSoas]) ok mixed Tryz.func44 rfl (by kernel_rfl) (by kernel_rfl) (by kernel_rfl) (by kernel_rfl) ?_; unfold Tryz.f44
            simp only [↓wR, RA, simprocAttr, TF, CD0, e1]
            rw [boolK_b]; refine ⟨fun hn2 => ?_, fun hn2 => ?_⟩
            · have hb : ((fun _ s => occV z s) i c) = false := by simpa only [Bool.not_eq_true'] using hn2
              have hv : needE ((fun _ s => occV z s) i c) 267 0 = 267 := by unfold needE; rw [if_pos ⟨rfl, hb⟩]
              simp only [↓wR, RA, simprocAttr, TF, CD0, hn2, cjV, cjS, cjN]
              try rw [hv]
            · have hb : ((fun _ s => occV z s) i c) = true := by simpa only [Bool.not_eq_false'] using hn2
              have hv : needE ((fun _ s => occV z s) i c) 267 0 = 0 := by unfold needE; rw [if_neg (fun q => by rw [hb] at q; cases q.2)]
              simp only [↓wR, RA, simprocAttr, TF, CD0, hn2, cjV, cjS, cjN]
              try rw [hv]
          rintro _ _ ⟨rfl, rfl⟩
          simp only [↓wR, RA, simprocAttr, TF, CD0, contK]; repeat (simp (disch := omega) only [wrapI64, dleN, dltN, dleI, dltI]; try simp only [↓wR, RA, simprocAttr, TF, CD0, contK])
          exact ⟨(i + 1, needE ((fun _ s => occV z s) i c) 267 e), ⟨hlt, hx⟩, by simp; omega, by (first | rfl | trivial | omega | (simp (disch := omega) only [wrapI64]; first | done | rfl | (simp only [List.cons.injEq, accV_snoc, accO_snoc, List.length_append, List.length_cons, List.length_nil, List.map_append, List.map_cons, List.map_nil, and_true, true_and, and_self, AV.sc.injEq, AV.sl.injEq, AObj.row.injEq, Option.some.injEq, Value.int.injEq, Nat.zero_add]; first | done | rfl | omega)) | (simp only [List.cons.injEq, accV_snoc, accO_snoc, List.length_append, List.length_cons, List.length_nil, List.map_append, List.map_cons, List.map_nil, and_true, true_and, and_self, AV.sc.injEq, AV.sl.injEq, AObj.row.injEq, Option.some.injEq, Value.int.injEq, Nat.zero_add]; first | done | rfl | omega)), by (first | rfl | trivial | omega | (simp (disch := omega) only [wrapI64]; first | done | rfl | (simp only [List.cons.injEq, accV_snoc, accO_snoc, List.length_append, List.length_cons, List.length_nil, List.map_append, List.map_cons, List.map_nil, and_true, true_and, and_self, AV.sc.injEq, AV.sl.injEq, AObj.row.injEq, Option.some.injEq, Value.int.injEq, Nat.zero_add]; first | done | rfl | omega)) | (simp only [List.cons.injEq, accV_snoc, accO_snoc, List.length_append, List.length_cons, List.length_nil, List.map_append, List.map_cons, List.map_nil, and_true, true_and, and_self, AV.sc.injEq, AV.sl.injEq, AObj.row.injEq, Option.some.injEq, Value.int.injEq, Nat.zero_add]; first | done | rfl | omega))⟩
      · rw [at_ge (decide_eq_false h)] at hx
        simp only [↓wR, RA, simprocAttr, TF, CD0, h, cjV, cjS, cjN]
        rw [hx]; rfl
    rintro _ _ ⟨rfl, rfl⟩
    rw [← he0]
    clear he0
    simp only [↓wR, RA, simprocAttr, TF, CD0, contK]
    rfl
noncomputable def zCheckF (x : RZone × Unit) : Option AV := if smallZ x.1 then some ((r1 (codInt .i64)).E true (zoneErr x.1)) else none
set_option maxRecDepth 2000000 in
theorem zCheck_pure (x : RZone × Unit) (r : AV) (h : zCheckF x = some r) : CallPure PP 27 ((aC codZone a0).E x) r := by
  by_cases hc : smallZ x.1
  case neg => simp only [zCheckF, if_neg hc] at h; cases h
  simp only [zCheckF, if_pos hc] at h
  cases h
  exact callPure_wl (TabOk.cons (pure_entry nameCheck_pure) (TabOk.cons (pure_entry nameSame_pure) (TabOk.cons (pure_entry setCheck_pure) (TabOk.cons (pure_entry zRises_pure) (TabOk.cons (pure_entry zAlone_pure) (TabOk.cons (pure_entry zClass_pure) (TabOk.cons (pure_entry zInside_pure) (TabOk.cons (pure_entry zStar_pure) (TabOk.cons (pure_entry zOcc_pure) (TabOk.cons (pure_entry zSoas_pure) (TabOk.nil PP))))))))))) Tryz.func27 (by kernel_rfl) (by kernel_rfl) (by kernel_rfl) (Nat.le_of_ble_eq_true (by kernel_rfl)) (r1 (codInt .i64)) true (zoneErr x.1) (zoneCheck_wl x.1 hc)
noncomputable abbrev zCheck : Nat × Bool × (List AV → M AV) := (27, true, pureM (aC codZone a0) zCheckF)
end Go.Proofs.YtcndpdkcagkdaabGreat
end
section
set_option linter.unusedSimpArgs false
set_option linter.unusedVariables false
namespace Go.Proofs.YtcndpdkcagkdaabGreat
open Go.Vm
set_option maxRecDepth 2000000
def fewL (l : List RSet) : Bool := l.all fun s => !decide ((20 : Int) < s.data.length)
def fewV (z : RZone) : Bool := fewL z.sets && decide ((z.sets.length : Int) ≤ 40)
theorem few_wl (z : RZone) (hz : smallZ z) : wl PP [] 0 (Tryz.f5.body.getD .skip) (retQ PP Tryz.f5.results.toList (fun r st => (r1 codBool).get true st.h r = some (fewV z))) (argsL 0 [codZone.val false z]) (stK []) := by
  have hl := hz.len
  unfold Tryz.f5
  simp only [codZone_val]
  simp only [↓wR, RA, simprocAttr, TF, CD0]
  refine loop_of [1, 3] (fun (i : Nat) => [.ptr 0 0, .sc (.int .i64 (i))]) (fun _ => [some (.row [.vl false 1 (z.origin.map (codStr.val false)), .vl false 5 (z.sets.map (codSet.val false))] 0 2 26)]) (fun i => i ≤ z.sets.length ∧ fewL z.sets = fewL (z.sets.drop i)) (fun i => z.sets.length - i) 0 ⟨Nat.zero_le _, rfl⟩ (by simp only [↓wR, RA, simprocAttr, TF, CD0] <;> rfl) (by simp only [↓wR, RA, simprocAttr, TF, CD0] <;> rfl) ?_
  rintro i ⟨hi, hx⟩
  simp only [↓wR, RA, simprocAttr, TF, CD0]
  rw [boolK_d]; refine ⟨fun h => ?_, fun h => ?_⟩
  · obtain ⟨c, hc, hd1, hlt⟩ := at_lt (decide_eq_true h)
    have hx' : fewL z.sets = (!decide ((20 : Int) < c.data.length) && fewL (z.sets.drop (i + 1))) := by rw [hx, hd1]; rfl
    simp only [↓wR, RA, simprocAttr, TF, CD0, h, hc]; repeat (simp (disch := omega) only [wrapI64, dleN, dltN, dleI, dltI]; try simp only [↓wR, RA, simprocAttr, TF, CD0, h, hc])
    rw [boolK_d]; refine ⟨fun h2 => ?_, fun h2 => ?_⟩
    · rw [decide_eq_true h2, Bool.not_true, Bool.false_and] at hx'
      simp only [↓wR, RA, simprocAttr, TF, CD0, h2]; repeat (simp (disch := omega) only [wrapI64, dleN, dltN, dleI, dltI]; try simp only [↓wR, RA, simprocAttr, TF, CD0, h2])
      rw [fewV, hx']; rfl
    · rw [decide_eq_false h2, Bool.not_false, Bool.true_and] at hx'
      simp only [↓wR, RA, simprocAttr, TF, CD0, h2]; repeat (simp (disch := omega) only [wrapI64, dleN, dltN, dleI, dltI]; try simp only [↓wR, RA, simprocAttr, TF, CD0, h2])
      exact ⟨i + 1, ⟨hlt, hx'⟩, by omega, by (first | rfl | trivial | omega | (simp (disch := omega) only [wrapI64]; first | done | rfl | (simp only [List.cons.injEq, accV_snoc, accO_snoc, List.length_append, List.length_cons, List.length_nil, List.map_append, List.map_cons, List.map_nil, and_true, true_and, and_self, AV.sc.injEq, AV.sl.injEq, AObj.row.injEq, Option.some.injEq, Value.int.injEq, Nat.zero_add]; first | done | rfl | omega)) | (simp only [List.cons.injEq, accV_snoc, accO_snoc, List.length_append, List.length_cons, List.length_nil, List.map_append, List.map_cons, List.map_nil, and_true, true_and, and_self, AV.sc.injEq, AV.sl.injEq, AObj.row.injEq, Option.some.injEq, Value.int.injEq, Nat.zero_add]; first | done | rfl | omega))⟩
  · rw [at_ge (decide_eq_false h)] at hx
    simp only [↓wR, RA, simprocAttr, TF, CD0, h]
    rw [fewV, hx]; rfl
noncomputable def fewCF (x : RZone × Unit) : Option AV := if smallZ x.1 then some ((r1 codBool).E true (fewV x.1)) else none
set_option maxRecDepth 2000000 in
theorem fewC_pure (x : RZone × Unit) (r : AV) (h : fewCF x = some r) : CallPure PP 5 ((aC codZone a0).E x) r := by
  by_cases hc : smallZ x.1
  case neg => simp only [fewCF, if_neg hc] at h; cases h
  simp only [fewCF, if_pos hc] at h
  cases h
  exact callPure_wl (TabOk.nil PP) Tryz.func5 (by kernel_rfl) (by kernel_rfl) (by kernel_rfl) (Nat.le_of_ble_eq_true (by kernel_rfl)) (r1 codBool) true (fewV x.1) (few_wl x.1 hc)
noncomputable abbrev fewC : Nat × Bool × (List AV → M AV) := (5, true, pureM (aC codZone a0) fewCF)
end Go.Proofs.YtcndpdkcagkdaabGreat
end
section
set_option linter.unusedSimpArgs false
set_option linter.unusedVariables false
namespace Go.Proofs.YtcndpdkcagkdaabGreat
open Go.Vm
set_option maxRecDepth 2000000
noncomputable def askedErr (z : RZone) (n : Name) : Int := if zoneErr z ≠ 0 then zoneErr z else if nameErr n ≠ 0 then nameErr n else if underN n z.origin = false then 2 else 0
theorem asked_wl (z : RZone) (n : Name) (hz : smallZ z) (hn : smallN n) : wl PP [zCheck, nameCheck, nameUnder] 0 (Tryz.f14.body.getD .skip) (retQ PP Tryz.f14.results.toList (fun r st => (r1 (codInt .i64)).get true st.h r = some (askedErr z n))) (argsL 0 [codZone.val false z, codName.val false n]) (stK []) := by
  unfold Tryz.f14
  simp only [codZone_val, codName_val]
  simp only [↓wR, RA, simprocAttr, TF, CD0, zCheckF, hz]
  unfold askedErr
  rw [boolK_b]; refine ⟨fun h => ?_, fun h => ?_⟩
  · have he : zoneErr z ≠ 0 := by simpa using h
    rw [if_pos he]
    simp only [↓wR, RA, simprocAttr, TF, CD0, h]
  have he : zoneErr z = 0 := by simpa using h
  rw [if_neg (by omega)]
  simp only [↓wR, RA, simprocAttr, TF, CD0, h, nameCheckF, hn.fit]
  rw [boolK_b]; refine ⟨fun h2 => ?_, fun h2 => ?_⟩
  · have he : nameErr n ≠ 0 := by simpa using h2
    rw [if_pos he]
    simp only [↓wR, RA, simprocAttr, TF, CD0, h2]
  have he2 : nameErr n = 0 := by simpa using h2
  rw [if_neg (by omega)]
  simp only [↓wR, RA, simprocAttr, TF, CD0, h2, nameUnderF, hn, hz.origin]
  rw [boolK_b]; refine ⟨fun h3 => ?_, fun h3 => ?_⟩
  · have h3' : underN n z.origin = false := by simpa only [Bool.not_eq_true'] using h3
    rw [if_pos h3']
    simp only [↓wR, RA, simprocAttr, TF, CD0, h3]
  · have h3' : underN n z.origin = true := by simpa only [Bool.not_eq_false'] using h3
    rw [if_neg (by rw [h3']; decide)]
    simp only [↓wR, RA, simprocAttr, TF, CD0, h3]
noncomputable def sAskedF (x : RZone × Name × Unit) : Option AV := if smallZ x.1 ∧ smallN x.2.1 then some ((r1 (codInt .i64)).E true (askedErr x.1 x.2.1)) else none
set_option maxRecDepth 2000000 in
theorem sAsked_pure (x : RZone × Name × Unit) (r : AV) (h : sAskedF x = some r) : CallPure PP 14 ((aC codZone (aC codName a0)).E x) r := by
  by_cases hc : smallZ x.1 ∧ smallN x.2.1
  case neg => simp only [sAskedF, if_neg hc] at h; cases h
  simp only [sAskedF, if_pos hc] at h
  cases h
  exact callPure_wl (TabOk.cons (pure_entry zCheck_pure) (TabOk.cons (pure_entry nameCheck_pure) (TabOk.cons (pure_entry nameUnder_pure) (TabOk.nil PP)))) Tryz.func14 (by kernel_rfl) (by kernel_rfl) (by kernel_rfl) (Nat.le_of_ble_eq_true (by kernel_rfl)) (r1 (codInt .i64)) true (askedErr x.1 x.2.1) (asked_wl x.1 x.2.1 hc.1 hc.2)
noncomputable abbrev sAsked : Nat × Bool × (List AV → M AV) := (14, true, pureM (aC codZone (aC codName a0)) sAskedF)
def closestV (z : RZone) : Name → Name
  | [] => []
  | a :: r => if hasZ z (a :: r) = true then a :: r else closestV z r
theorem under_tail {z : RZone} {m : Name} (hu : underN m z.origin = true) (hh : hasZ z m = false) : ∃ a r, m = a :: r ∧ underN r z.origin = true ∧ closestV z m = closestV z r := by
  have hs : sameN m z.origin = false := by
    unfold hasZ at hh
    rw [hu, Bool.true_and] at hh
    cases h : sameN m z.origin with
    | false => rfl
    | true => rw [h] at hh; cases hh
  have hu' : foldN z.origin <:+ foldN m := by simpa [underN] using hu
  have hs' : foldN m ≠ foldN z.origin := by simpa [sameN] using hs
  cases m with
  | nil => exact (hs' (List.suffix_nil.1 (by simpa only [foldN, List.map_nil] using hu')).symm).elim
  | cons a r =>
    refine ⟨a, r, rfl, ?_, by rw [closestV, if_neg (by rw [hh]; decide)]⟩
    have h2 : foldN z.origin <:+ fold a :: foldN r := hu'
    rcases List.suffix_cons_iff.1 h2 with h3 | h3
    · exact (hs' h3.symm).elim
    · simpa [underN] using h3
theorem closest_has {z : RZone} {m : Name} (hh : hasZ z m = true) : closestV z m = m := by
  cases m with
  | nil => rfl
  | cons a r => rw [closestV, if_pos hh]
theorem closest_wl (z : RZone) (n : Name) (hz : smallZ z) (hn : smallN n) (hu : underN n z.origin = true) : wl PP [zHas, nameCopy] 0 (Tryz.f16.body.getD .skip) (retQ PP Tryz.f16.results.toList (fun r st => (r1 codName).get true st.h r = some (closestV z n))) (argsL 0 [codZone.val false z, codName.val false n]) (stK []) := by
  unfold Tryz.f16
  simp only [codZone_val, codName_val]
  simp only [↓wR, RA, simprocAttr, TF, CD0]
  refine loop_of [1, 2] (fun (m : Name) => [.vl false 1 (m.map (codStr.val false)), .ptr 0 0]) (fun _ => [some (.row [.vl false 1 (z.origin.map (codStr.val false)), .vl false 5 (z.sets.map (codSet.val false))] 0 2 26)]) (fun m => smallN m ∧ underN m z.origin = true ∧ closestV z n = closestV z m) (fun m => m.length) n ⟨hn, hu, rfl⟩ (by simp only [↓wR, RA, simprocAttr, TF, CD0] <;> rfl) (by simp only [↓wR, RA, simprocAttr, TF, CD0] <;> rfl) ?_
  rintro m ⟨hm, hmu, hx⟩
  simp only [↓wR, RA, simprocAttr, TF, CD0, zHasF, hz, hm]
  rw [boolK_b]; refine ⟨fun h => ?_, fun h => ?_⟩
  · simp only [↓wR, RA, simprocAttr, TF, CD0, h, nameCopyF, hm]
    rw [hx, closest_has h]
  · obtain ⟨a, r, rfl, hru, hcr⟩ := under_tail hmu h
    have hr : smallN r := hm.drop 1
    rw [hcr] at hx
    simp only [↓wR, RA, simprocAttr, TF, CD0, h]
    exact ⟨r, ⟨hr, hru, hx⟩, by simp, rfl⟩
noncomputable def sClosestF (x : RZone × Name × Unit) : Option AV := if (smallZ x.1 ∧ smallN x.2.1) ∧ underN x.2.1 x.1.origin = true then some ((r1 codName).E true (closestV x.1 x.2.1)) else none
set_option maxRecDepth 2000000 in
theorem sClosest_pure (x : RZone × Name × Unit) (r : AV) (h : sClosestF x = some r) : CallPure PP 16 ((aC codZone (aC codName a0)).E x) r := by
  by_cases hc : (smallZ x.1 ∧ smallN x.2.1) ∧ underN x.2.1 x.1.origin = true
  case neg => simp only [sClosestF, if_neg hc] at h; cases h
  simp only [sClosestF, if_pos hc] at h
  cases h
  exact callPure_wl (TabOk.cons (pure_entry zHas_pure) (TabOk.cons (pure_entry nameCopy_pure) (TabOk.nil PP))) Tryz.func16 (by kernel_rfl) (by kernel_rfl) (by kernel_rfl) (Nat.le_of_ble_eq_true (by kernel_rfl)) (r1 codName) true (closestV x.1 x.2.1) (closest_wl x.1 x.2.1 hc.1.1 hc.1.2 hc.2)
noncomputable abbrev sClosest : Nat × Bool × (List AV → M AV) := (16, true, pureM (aC codZone (aC codName a0)) sClosestF)
theorem closest_suffix (z : RZone) (n : Name) : ∃ k, closestV z n = n.drop k := by
  induction n with
  | nil => exact ⟨0, rfl⟩
  | cons a r ih =>
    unfold closestV
    split
    · exact ⟨0, rfl⟩
    · obtain ⟨k, hk⟩ := ih; exact ⟨k + 1, by rw [hk]; rfl⟩
theorem closest_small {z : RZone} {n : Name} (hn : smallN n) : smallN (closestV z n) := by
  obtain ⟨k, hk⟩ := closest_suffix z n
  rw [hk]; exact hn.drop k
theorem star_wl2 (n : Name) (hn : smallN n) : wl PP [] 0 (Tryz.f18.body.getD .skip) (retQ PP Tryz.f18.results.toList (fun r st => (r1 codName).get true st.h r = some (starS :: n))) (argsL 0 [codName.val false n]) (stK []) := by
  have hl := hn.lt
  have hlim : (n.length + 1) * 16 ≤ 140737488355328 := by omega
  unfold Tryz.f18
  simp only [codName_val]
  simp only [↓wR, RA, simprocAttr, TF, CD0, hlim, Nat.add_comm 1 n.length]
  rfl
noncomputable def sStarF (x : Name × Unit) : Option AV := if smallN x.1 then some ((r1 codName).E true (starS :: x.1)) else none
set_option maxRecDepth 2000000 in
theorem sStar_pure (x : Name × Unit) (r : AV) (h : sStarF x = some r) : CallPure PP 18 ((aC codName a0).E x) r := by
  by_cases hc : smallN x.1
  case neg => simp only [sStarF, if_neg hc] at h; cases h
  simp only [sStarF, if_pos hc] at h
  cases h
  exact callPure_wl (TabOk.nil PP) Tryz.func18 (by kernel_rfl) (by kernel_rfl) (by kernel_rfl) (Nat.le_of_ble_eq_true (by kernel_rfl)) (r1 codName) true (starS :: x.1) (star_wl2 x.1 hc)
noncomputable abbrev sStar : Nat × Bool × (List AV → M AV) := (18, true, pureM (aC codName a0) sStarF)
theorem nameSize_drop (n : Name) (k : Nat) : nameSize (n.drop k) ≤ nameSize n := by
  have := nameSize_append (n.take k) (n.drop k)
  rw [List.take_append_drop] at this
  have h1 := (nameSize_le (n.take k) 0).2
  omega
theorem star_small {z : RZone} {n : Name} (h : nameErr n = 0) : smallN (starS :: closestV z n) := by
  obtain ⟨k, hk⟩ := closest_suffix z n
  have h1 := nameSize_drop n k
  have h2 := nameErr_small h
  have h3 := nameSize_append [starS] (closestV z n)
  have h4 : nameSize [starS] = 3 := rfl
  rw [hk] at h3 ⊢
  simp only [List.singleton_append] at h3
  unfold smallN
  omega
theorem asked_ok {z : RZone} {n : Name} (h : askedErr z n = 0) : zoneErr z = 0 ∧ nameErr n = 0 ∧ underN n z.origin = true := by
  unfold askedErr at h
  split at h
  · contradiction
  split at h
  · contradiction
  split at h
  · cases h
  · rename_i h1 h2 h3
    exact ⟨by omega, by omega, by simpa using h3⟩
noncomputable def findV (z : RZone) (n : Name) : RSpot × Int :=
  if askedErr z n ≠ 0 then (mkP 0 [] [], askedErr z n)
  else match cutV z n with
    | some c => (mkP 4 c [], 0)
    | none =>
      if 0 < (atV z n).length then (mkP 1 n (closestV z n), 0)
      else if (closestV z n).length = n.length then (mkP 2 [] (closestV z n), 0)
      else if hasZ z (starS :: closestV z n) = true then (mkP 3 (starS :: closestV z n) (closestV z n), 0)
      else (mkP 0 [] (closestV z n), 0)
theorem find_wl (z : RZone) (n : Name) (hz : smallZ z) (hn : smallN n) : wl PP [sAsked, zCut, sClosest, zAt, nameCopy, sStar, zHas] 0 (Tryz.f6.body.getD .skip) (retQ PP Tryz.f6.results.toList (fun r st => (r2 codSpot (codInt .i64)).get true st.h r = some (findV z n))) (argsL 0 [codZone.val false z, codName.val false n]) (stK []) := by
  unfold Tryz.f6
  simp only [codZone_val, codName_val]
  simp only [↓wR, RA, simprocAttr, TF, CD0, sAskedF, hz, hn]
  unfold findV
  rw [boolK_b]; refine ⟨fun h => ?_, fun h => ?_⟩
  · have he : askedErr z n ≠ 0 := by simpa using h
    rw [if_pos he]
    simp only [↓wR, RA, simprocAttr, TF, CD0, h]
  have he : askedErr z n = 0 := by simpa using h
  obtain ⟨a1, a2, a3⟩ := asked_ok he
  rw [if_neg (by omega)]
  have hcs := closest_small (z := z) hn
  have hst := star_small (z := z) a2
  cases hc : cutV z n with
  | some c =>
    simp only [↓wR, RA, simprocAttr, TF, CD0, h, zCutF, hz, hn, hc]
  | none =>
    simp only [↓wR, RA, simprocAttr, TF, CD0, h, zCutF, hz, hn, hc, Option.isSome_none, sClosestF, a3, zAtF]
    rw [boolK_d]; refine ⟨fun h1 => ?_, fun h1 => ?_⟩
    · rw [if_pos (by omega)]
      simp only [↓wR, RA, simprocAttr, TF, CD0, h1, nameCopyF, hn]
    rw [if_neg (by omega)]
    simp only [↓wR, RA, simprocAttr, TF, CD0, h1]
    rw [boolK_eqI]; refine ⟨fun ⟨h2, e2⟩ => ?_, fun ⟨h2, e2⟩ => ?_⟩
    · rw [if_pos (by omega)]
      simp only [↓wR, RA, simprocAttr, TF, CD0, h2]
    rw [if_neg (by omega)]
    simp only [↓wR, RA, simprocAttr, TF, CD0, h2]
    refine ⟨by kernel_rfl, .inl ?_⟩
    simp only [↓wR, RA, simprocAttr, TF, CD0, sStarF, hcs, zHasF, hz, hst]
    refine ⟨by kernel_rfl, ?_⟩
    rw [boolK_b]; refine ⟨fun h3 => ?_, fun h3 => ?_⟩
    · rw [if_pos h3]
      simp only [↓wR, RA, simprocAttr, TF, CD0, h3, sStarF, hcs]
    · rw [if_neg (by rw [h3]; decide)]
      simp only [↓wR, RA, simprocAttr, TF, CD0, h3]
noncomputable def sFindF (x : RZone × Name × Unit) : Option AV := if smallZ x.1 ∧ smallN x.2.1 then some ((r2 codSpot (codInt .i64)).E true (findV x.1 x.2.1)) else none
set_option maxRecDepth 2000000 in
theorem sFind_pure (x : RZone × Name × Unit) (r : AV) (h : sFindF x = some r) : CallPure PP 6 ((aC codZone (aC codName a0)).E x) r := by
  by_cases hc : smallZ x.1 ∧ smallN x.2.1
  case neg => simp only [sFindF, if_neg hc] at h; cases h
  simp only [sFindF, if_pos hc] at h
  cases h
  exact callPure_wl (TabOk.cons (pure_entry sAsked_pure) (TabOk.cons (pure_entry zCut_pure) (TabOk.cons (pure_entry sClosest_pure) (TabOk.cons (pure_entry zAt_pure) (TabOk.cons (pure_entry nameCopy_pure) (TabOk.cons (pure_entry sStar_pure) (TabOk.cons (pure_entry zHas_pure) (TabOk.nil PP)))))))) Tryz.func6 (by kernel_rfl) (by kernel_rfl) (by kernel_rfl) (Nat.le_of_ble_eq_true (by kernel_rfl)) (r2 codSpot (codInt .i64)) true (findV x.1 x.2.1) (find_wl x.1 x.2.1 hc.1 hc.2)
noncomputable abbrev sFind : Nat × Bool × (List AV → M AV) := (6, true, pureM (aC codZone (aC codName a0)) sFindF)
end Go.Proofs.YtcndpdkcagkdaabGreat
end
section
namespace Go.Proofs.YtcndpdkcagkdaabGreat
open Go.Vm
theorem eachE_zero {err : Int} (he : err ≠ 0) (p : Nat → RSet → Bool) : ∀ (l : List RSet) (i : Nat) (e : Int), eachE err p i l e = 0 → e = 0 ∧ ∀ k s, l[k]? = some s → p (i + k) s = true := by
  intro l
  induction l with
  | nil => intro i e h; exact ⟨h, fun k s hs => by simp at hs⟩
  | cons a l ih =>
    intro i e h
    rw [eachE] at h
    split at h
    · contradiction
    · rename_i h0
      have h0 : e = 0 := by omega
      obtain ⟨h1, h2⟩ := ih (i + 1) _ h
      refine ⟨h0, fun k s hs => ?_⟩
      cases k with
      | zero =>
        simp at hs
        subst hs
        cases hp : p i a with
        | true => simp [hp]
        | false => rw [needE, if_pos ⟨h0, hp⟩] at h1; exact (he h1).elim
      | succ k =>
        have := h2 k s (by simpa using hs)
        rwa [show i + 1 + k = i + (k + 1) from by omega] at this
theorem needE_zero {b : Bool} {err e : Int} (he : err ≠ 0) (h : needE b err e = 0) : e = 0 ∧ b = true := by
  unfold needE at h
  split at h
  · exact (he h).elim
  · rename_i hn
    refine ⟨h, ?_⟩
    cases b with
    | true => rfl
    | false => exact (hn ⟨h, rfl⟩).elim
structure GoodZ (z : RZone) : Prop where
  first : firstV z = 0
  rises : ∀ k s, z.sets[k]? = some s → risesV z k s = true
  cls : ∀ s ∈ z.sets, classV s = true
  inside : ∀ s ∈ z.sets, underN s.owner z.origin = true
  soas : (soasV z).1 = 1 ∧ (soasV z).2 = 1
  apex : apexV z = true
  alone : ∀ k s, z.sets[k]? = some s → aloneV z k s = true
  star : ∀ s ∈ z.sets, starV s = true
  occ : ∀ s ∈ z.sets, occV z s = true
theorem goodZ {z : RZone} (h : zoneErr z = 0) : GoodZ z := by
  unfold zoneErr at h
  split at h
  · contradiction
  rename_i h0
  obtain ⟨h7, p8⟩ := eachE_zero (by decide) _ _ _ _ h
  obtain ⟨h6, p7⟩ := eachE_zero (by decide) _ _ _ _ h7
  obtain ⟨h5, p6⟩ := eachE_zero (by decide) _ _ _ _ h6
  obtain ⟨h4, p5⟩ := needE_zero (by decide) h5
  obtain ⟨h3, p4⟩ := needE_zero (by decide) h4
  obtain ⟨h2, p3⟩ := eachE_zero (by decide) _ _ _ _ h3
  obtain ⟨h1, p2⟩ := eachE_zero (by decide) _ _ _ _ h2
  obtain ⟨_, p1⟩ := eachE_zero (by decide) _ _ _ _ h1
  have mem : ∀ (p : RSet → Bool), (∀ k s, z.sets[k]? = some s → p s = true) → ∀ s ∈ z.sets, p s = true := fun p hp s hs => by
    obtain ⟨k, hk, rfl⟩ := List.getElem_of_mem hs
    exact hp k _ (List.getElem?_eq_getElem hk)
  simp only [Bool.and_eq_true, decide_eq_true_eq] at p4
  exact ⟨by omega, fun k s hs => by simpa using p1 k s hs, mem _ p2, mem _ p3, p4, p5, fun k s hs => by simpa using p6 k s hs, mem _ p7, mem _ p8⟩
theorem sameN_iff {a b : Name} : sameN a b = true ↔ foldN a = foldN b := by simp [sameN]
theorem underN_iff {a b : Name} : underN a b = true ↔ foldN b <:+ foldN a := by simp [underN]
theorem same_under {a b : Name} (h : sameN a b = true) : underN a b = true := underN_iff.2 (by rw [sameN_iff.1 h]; exact List.suffix_refl _)
theorem under_trans {a b c : Name} (h1 : underN a b = true) (h2 : underN b c = true) : underN a c = true := underN_iff.2 ((underN_iff.1 h2).trans (underN_iff.1 h1))
theorem under_congr {a a' b : Name} (h : sameN a a' = true) : underN a b = underN a' b := by simp only [underN, sameN_iff.1 h]
theorem has_parent {z : RZone} {a : ByteArray} {r : Name} (h : hasZ z (a :: r) = true) (hs : sameN (a :: r) z.origin = false) : hasZ z r = true := by
  unfold hasZ at h ⊢
  rw [hs, Bool.false_or, Bool.and_eq_true] at h
  obtain ⟨hu, ha⟩ := h
  have hr : underN r z.origin = true := by
    have h2 : foldN z.origin <:+ fold a :: foldN r := underN_iff.1 hu
    rcases List.suffix_cons_iff.1 h2 with h3 | h3
    · have : sameN (a :: r) z.origin = true := sameN_iff.2 h3.symm
      rw [hs] at this; cases this
    · exact underN_iff.2 h3
  rw [hr, Bool.true_and, Bool.or_eq_true]
  right
  obtain ⟨s, hs1, hs2⟩ := List.any_eq_true.1 ha
  exact List.any_eq_true.2 ⟨s, hs1, under_trans hs2 (underN_iff.2 (List.suffix_cons _ _))⟩
end Go.Proofs.YtcndpdkcagkdaabGreat
end
