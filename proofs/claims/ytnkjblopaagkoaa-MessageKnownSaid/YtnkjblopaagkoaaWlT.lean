/- Walks on abstract values: names, data, records, sets and their like. No condition. -/
import Derived.Test.YtnkjblopaagkoaaWlS
namespace Go.Vm
noncomputable section

abbrev Name := List ByteArray
structure RData where
  names : List Name
  nums : List UInt32
  texts : List ByteArray
  raw : List UInt8
def mkD (a : List Name) (b : List UInt32) (c : List ByteArray) (e : List UInt8) : RData := ⟨a, b, c, e⟩
theorem mkD_eta (d : RData) : mkD d.names d.nums d.texts d.raw = d := id rfl
theorem mkD_names (a b c e) : (mkD a b c e).names = a := id rfl
theorem mkD_nums (a b c e) : (mkD a b c e).nums = b := id rfl
theorem mkD_texts (a b c e) : (mkD a b c e).texts = c := id rfl
theorem mkD_raw (a b c e) : (mkD a b c e).raw = e := id rfl
noncomputable def codName : Cod Name := codL codStr
noncomputable def codData : Cod RData := codIso (codP (codL codName) (codP (codL codU32) (codP codName (codL codU8)))) (fun d => (d.names, d.nums, d.texts, d.raw)) (fun p => ⟨p.1, p.2.1, p.2.2.1, p.2.2.2⟩) (fun _ => rfl) (fun _ => rfl)
theorem codName_val (l : Bool) (n : Name) : codName.val l n = .vl l 1 (n.map (codStr.val l)) := id rfl
theorem codName_sz : codName.sz = 1 := id rfl
theorem codData_sz : codData.sz = 4 := id rfl
theorem codData_val (l : Bool) (d : RData) : codData.val l d = .agg [.vl l 1 (d.names.map (codName.val l)), .vl l 1 (d.nums.map (codU32.val l)), .vl l 1 (d.texts.map (codStr.val l)), .vl l 1 (d.raw.map (codU8.val l))] := id rfl

theorem codData_rt (fr : Bool) (h : Tr AObj) (l : Bool) (a : List Name) (b : List UInt32) (c : List ByteArray) (e : List UInt8) (hl : (l || !fr) = true) :
    codData.decV fr h (.agg [.vl l 1 (a.map (codName.val l)), .vl l 1 (b.map (codU32.val l)), .vl l 1 (c.map (codStr.val l)), .vl l 1 (e.map (codU8.val l))]) = some (mkD a b c e) :=
  codData.rtV fr h l ⟨a, b, c, e⟩ (by cases fr <;> simp_all)
theorem codData_dec (fr : Bool) (h : Tr AObj) (x1 x2 x3 x4 : AV) :
    codData.decV fr h (.agg [x1, x2, x3, x4]) = match decS codName fr h x1, decS codU32 fr h x2, decS codStr fr h x3, decS codU8 fr h x4 with
      | some a, some b, some c, some e => some (mkD a b c e)
      | _, _, _, _ => none := by
  rw [decV_one _ _ _ _ rfl rfl]
  have h1 : codData.dec fr h (AV.agg [x1, x2, x3, x4]).cells = Option.map (fun p => (⟨p.1, p.2.1, p.2.2.1, p.2.2.2⟩ : RData)) ((codP (codL codName) (codP (codL codU32) (codP codName (codL codU8)))).dec fr h [x1, x2, x3, x4]) := rfl
  have d2 : ∀ {α β : Type} (A : Cod α) (B : Cod β) (l : List AV), (codP A B).dec fr h l = match A.dec fr h (l.take A.sz), B.dec fr h (l.drop A.sz) with | some x, some y => some (x, y) | _, _ => none := fun _ _ _ => rfl
  have l1 : ∀ {α : Type} (C : Cod α) (x : AV), (codL C).dec fr h [x] = decS C fr h x := fun _ _ => rfl
  have n1 : ∀ x, codName.dec fr h [x] = decS codStr fr h x := fun _ => rfl
  rw [h1]
  simp only [d2, codL_sz, codName_sz, List.take_succ_cons, List.take_zero, List.drop_succ_cons, List.drop_zero, l1, n1]
  cases decS codName fr h x1 <;> cases decS codU32 fr h x2 <;> cases decS codStr fr h x3 <;> cases decS codU8 fr h x4 <;> rfl

theorem codL_decV_vl {α : Type} (C : Cod α) (fr : Bool) (h : Tr AObj) (l : Bool) (n : Nat) (es : List AV) : (codL C).decV fr h (.vl l n es) = decS C fr h (.vl l n es) := codL_dec C fr h _ rfl rfl rfl
theorem codL_decV_sl {α : Type} (C : Cod α) (fr : Bool) (h : Tr AObj) (o off len n : Nat) : (codL C).decV fr h (.sl o off len n) = decS C fr h (.sl o off len n) := codL_dec C fr h _ rfl rfl rfl
theorem codL_decV_nil {α : Type} (C : Cod α) (fr : Bool) (h : Tr AObj) : (codL C).decV fr h (.sc (.slice none 0 0)) = some [] := by
  rw [codL_dec C fr h _ rfl rfl rfl]; rfl
theorem codL_decV_ez {α : Type} (C : Cod α) (fr : Bool) (h : Tr AObj) : (codL C).decV fr h .ez = decS C fr h .ez := codL_dec C fr h _ rfl rfl rfl
theorem codName_decV_vl (fr : Bool) (h : Tr AObj) (l : Bool) (n : Nat) (es : List AV) : codName.decV fr h (.vl l n es) = decS codStr fr h (.vl l n es) := codL_dec codStr fr h _ rfl rfl rfl
theorem codName_decV_sl (fr : Bool) (h : Tr AObj) (o off len n : Nat) : codName.decV fr h (.sl o off len n) = decS codStr fr h (.sl o off len n) := codL_dec codStr fr h _ rfl rfl rfl
theorem codName_decV_nil (fr : Bool) (h : Tr AObj) : codName.decV fr h (.sc (.slice none 0 0)) = some [] := codL_decV_nil codStr fr h

theorem byteCell_map (l : List UInt8) : l.map byteCell = l.map (codU8.val false) := id rfl
theorem names_go_val {α : Type} (C : Cod α) (b : Bool) (l : List α) : AV.names.go (l.map (C.val b)) = [] := namesGo_nil (fun c hc => by
  obtain ⟨x, _, rfl⟩ := List.mem_map.1 hc
  exact val_names C b x)

theorem bytesOf_val : ∀ (l : List UInt8) (b : Bool), bytesOf (l.map (codU8.val b)) = some l
  | [], _ => rfl
  | c :: l, b => by
    rw [List.map_cons, codU8_val, bytesOf, bytesOf_val l b]
    simp
end
end Go.Vm
