/- All operations that call nothing. No condition. -/
import Derived.Test.YtnkjblopaagkoaaVmR
namespace Go.Vm

theorem DoesO.unit {P g st w} {s : Sem Unit} {r st'} (h : ∃ w' g', s.run P w = .ok () w' ∧ Step g st.h w st.nx st'.nx g' st'.h w' ∧ Ok g' st'.h w' ∧ r = .sc undef) : DoesO P g st w (do s; pure .skip) r st' := by
  obtain ⟨w', g', h1, h2, h3, h4⟩ := h
  exact ⟨.skip, w', g', by simp [h1], h2, h3, .inr ⟨rfl, h4⟩⟩

theorem RelF.list {g w ρa ρ} (hρ : RelF g w ρa ρ) (l : List Operand) : RelL g w (l.map ρa) (l.map ρ) :=
  ⟨by simp, fun i a v h1 h2 => by
    rw [List.getElem?_map] at h1 h2
    cases hl : l[i]? with
    | none => rw [hl] at h1; cases h1
    | some x => rw [hl] at h1 h2; simp at h1 h2; subst h1 h2; exact hρ x⟩

theorem parts_ok {g w ρa ρ} (hρ : RelF g w ρa ρ) (parts : Array (Nat × Operand)) :
    (parts.toList.map fun p => (p.1, ρa p.2)).length = (parts.map fun (i, x) => (i, ρ x)).toList.length ∧
    ∀ (i : Nat) p q, (parts.toList.map fun p => (p.1, ρa p.2))[i]? = some p → (parts.map fun (i, x) => (i, ρ x)).toList[i]? = some q → p.1 = q.1 ∧ Rel g w p.2 q.2 := by
  refine ⟨by simp, fun i p q h1 h2 => ?_⟩
  rw [List.getElem?_map] at h1
  rw [Array.toList_map, List.getElem?_map] at h2
  cases hl : parts.toList[i]? with
  | none => rw [hl] at h1; cases h1
  | some x => rw [hl] at h1 h2; simp at h1 h2; subst h1 h2; exact ⟨rfl, hρ x.2⟩

theorem exactAll_args {g w ρa ρ} (hρ : RelF g w ρa ρ) {args : Array Operand} (h : exactAll ρa args.toList = true) : args.map (fun z => ((ρa z).toV).getD undef) = args.map ρ := by
  apply Array.ext'
  rw [Array.toList_map, Array.toList_map]
  exact List.map_congr_left fun x hx => exact_of hρ h x hx

theorem opBuiltin_ok {P : Program} {g : Gh} {st st' : St} {w : World} {ρa : Operand → AV} {ρ : Operand → Value} {o : Oper} {r : AV} {c : Call} {b : Builtin} (hc : c.callee = .builtin b) (ho : o.op = .call c) (hok : Ok g st.h w) (hf : Free g st st') (hρ : RelF g w ρa ρ)
    (h : opBuiltin P ρa o b c.args.toList c.argTypes st = some (r, st')) : DoesO P g st w (execOp ρ o) r st' := by
  have hex : ∀ ρ : Operand → Value, execOp ρ o = builtin b c.argTypes o.type (c.args.map fun | .const _ => true | _ => false) (c.args.map ρ) := by
    intro ρ; simp [execOp, ho, resolve, hc, invoke]; rfl
  have hargs : ∀ l : List Operand, c.args.toList = l → c.args.map ρ = (l.map ρ).toArray := by
    intro l hl; apply Array.ext'; rw [Array.toList_map, hl]
  have pureCase : opPure P ρa o c.args.toList st = some (r, st') → DoesO P g st w (execOp ρ o) r st' := by
    intro h
    by_cases he : exactAll ρa c.args.toList = true
    · exact opPure_does hok hρ (.inl (by rw [hex, hex, exactAll_args hρ he])) h
    · exact opPure_does hok hρ (.inr (by simpa using he)) h
  have one : ∀ x, c.args.toList = [x] → c.args.map ρ = #[ρ x] := fun x hx => hargs _ hx
  have two : ∀ x y, c.args.toList = [x, y] → c.args.map ρ = #[ρ x, ρ y] := fun x y hx => hargs _ hx
  generalize hal : c.args.toList = al at h
  unfold opBuiltin at h
  split at h
  · rename_i x; rw [hex, one _ hal]; exact Does.value (P := P) (opLen_ok hok (hρ x) h)
  · rename_i s x; rw [hex, two _ _ hal]; exact Does.value (P := P) (opAppend_ok hok hf (hρ s) (hρ x) h)
  · rename_i d x; rw [hex, two _ _ hal]; exact Does.value (P := P) (opCopy_ok hok (hρ d) (hρ x) h)
  · rename_i m k; rw [hex, two _ _ hal]; exact Does.value (P := P) (opDelete_ok hok (hρ m) (hρ k) h)
  · rename_i x; rw [hex, one _ hal]; exact Does.value (P := P) (opCap_ok hok (hρ x) h)
  · rename_i x; rw [hex, one _ hal]; exact Does.value (P := P) (opSliceData_ok hok (hρ x) h)
  · rename_i x y; rw [hex, two _ _ hal]; exact Does.value (P := P) (opUnsafeString_ok hok (hρ x) (hρ y) h)
  · rw [← hal] at h; exact pureCase h
  · rw [← hal] at h; exact pureCase h
  · cases h

theorem aop_ok {P : Program} {g : Gh} {st st' : St} {w : World} {ρa : Operand → AV} {ρ : Operand → Value} {o : Oper} {r : AV} (hok : Ok g st.h w) (hf : Free g st st') (hρ : RelF g w ρa ρ)
    (h : aop P o ρa st = some (r, st')) : DoesO P g st w (execOp ρ o) r st' := by
  unfold aop at h
  cases ho : o.op with
  | move x =>
    rw [ho] at h
    obtain ⟨rfl, rfl⟩ := pure_some h
    exact ⟨_, _, g, by simp [execOp, ho], .refl _ _ _ _ _, hok, .inl ⟨_, rfl, hρ x⟩⟩
  | assign x =>
    rw [ho] at h
    obtain ⟨rfl, rfl⟩ := pure_some h
    exact ⟨_, _, g, by simp [execOp, ho], .refl _ _ _ _ _, hok, .inl ⟨_, rfl, hρ x⟩⟩
  | load t a => rw [ho] at h; have := Does.value (P := P) (opLoad_ok hok (hρ a) h); simpa [execOp, ho] using this
  | fieldAddr s x f => rw [ho] at h; have := Does.value (P := P) (opFieldAddr_ok hok (hρ x) h); simpa [execOp, ho] using this
  | binOp op t x y ck =>
    rw [ho] at h
    exact opBin_ok hok hρ (by simp [execOp, ho]) (fun h1 h2 => by simp [execOp, ho, exact_some hρ h1, exact_some hρ h2]) h
  | pick c a b => rw [ho] at h; have := Does.value (P := P) (opPick_ok hok (hρ c) (hρ a) (hρ b) h); simpa [execOp, ho] using this
  | store t a x => rw [ho] at h; have := DoesO.unit (P := P) (opStore_ok hok (hρ a) (hρ x) h); simpa [execOp, ho] using this
  | extract t ix => rw [ho] at h; have := Does.value (P := P) (opExtract_ok hok (hρ t) h); simpa [execOp, ho] using this
  | indexAddr t x ix => rw [ho] at h; have := Does.value (P := P) (opIndexAddr_ok hok (hρ x) (hρ ix) h); simpa [execOp, ho] using this
  | nilCheck x => rw [ho] at h; exact opNilCheck_ok hok hρ ho h
  | alloc t => rw [ho] at h; have := Does.value (P := P) (opAlloc_ok hok hf h); simpa [execOp, ho] using this
  | box t x => rw [ho] at h; have := Does.value (P := P) (opBox_ok hok hf (hρ x) h); simpa [execOp, ho] using this
  | build t parts => rw [ho] at h; have hp := parts_ok hρ parts; have := Does.value (P := P) (opBuild_ok hok hp.1 hp.2 h); simpa [execOp, ho] using this
  | buildSlice t len parts => rw [ho] at h; have hp := parts_ok hρ parts; have := Does.value (P := P) (opBuildSlice_ok hok hf hp.1 hp.2 h); simpa [execOp, ho] using this
  | makeSlice t l c => rw [ho] at h; have := Does.value (P := P) (opMakeSlice_ok hok hf (hρ l) (hρ c) h); simpa [execOp, ho] using this
  | makeMap t ro => rw [ho] at h; have := Does.value (P := P) (opMakeMap_ok (t := t) (rv := ro.map ρ) (fun e => by rw [e]; rfl) hok hf h); simpa [execOp, ho] using this
  | makeFunc f first captured =>
    rw [ho] at h
    obtain ⟨rfl, rfl⟩ := pure_some h
    have h1 := hρ.list first.toList
    have h2 := hρ.list captured.toList
    have := Does.value (P := P) (Does.still hok rfl (s := Instr.makeFunc f (first.map ρ) (captured.map ρ)) rfl
      (Rel.fn f (first.toList.map ρa) (captured.toList.map ρa) (first.map ρ) (captured.map ρ) (by simp) (fun i a v q1 q2 => h1.2 i a v q1 (by rw [← Array.toList_map, Array.getElem?_toList]; exact q2)) (by simp) (fun i a v q1 q2 => h2.2 i a v q1 (by rw [← Array.toList_map, Array.getElem?_toList]; exact q2))))
    simpa [execOp, ho] using this
  | convert src dst x => rw [ho] at h; exact opConvert_ok hok hf hρ ho h
  | makeInterface t x => rw [ho] at h; have := Does.value (P := P) (opMakeInterface_ok hok (hρ x) h); simpa [execOp, ho] using this
  | field s x f => rw [ho] at h; have := Does.value (P := P) (opField_ok hok (hρ x) h); simpa [execOp, ho] using this
  | index t x ix => rw [ho] at h; exact opIndex_ok hok hρ ho h
  | slice t x lo hi mx =>
    rw [ho] at h
    have hex : ∀ ρ : Operand → Value, execOp ρ o = (do pure (.value (← Instr.sliceAt t (ρ x) (lo.map ρ) (hi.map ρ) (mx.map ρ)))) := by intro ρ; simp [execOp, ho]
    rw [hex]
    refine Does.value (P := P) (opSlice_ok hok hρ ho (fun r' hp => ?_) h)
    by_cases he : exactAll ρa (.slice t x lo hi mx : Op).operands.toList = true
    · have hx := exact_of hρ he
      have hmem : ∀ y, (y = x ∨ lo = some y ∨ hi = some y ∨ mx = some y) → ((ρa y).toV).getD undef = ρ y := fun y hy => hx y (by
        rcases hy with rfl | rfl | rfl | rfl <;> simp [Op.operands])
      have ho' : ∀ q : Option Operand, (∀ y, q = some y → ((ρa y).toV).getD undef = ρ y) → q.map (fun z => ((ρa z).toV).getD undef) = q.map ρ := by
        intro q hq; cases q with
        | none => rfl
        | some y => simp [hq y rfl]
      have heq : execOp (fun z => ((ρa z).toV).getD undef) o = execOp ρ o := by
        rw [hex, hex, hmem x (.inl rfl), ho' lo (fun y e => hmem y (.inr (.inl e))), ho' hi (fun y e => hmem y (.inr (.inr (.inl e)))), ho' mx (fun y e => hmem y (.inr (.inr (.inr e))))]
      obtain ⟨rfl, h1⟩ := opPure_ok (P := P) hρ (.inl heq) hp
      rw [hex] at h1
      cases hs : (Instr.sliceAt t (ρ x) (lo.map ρ) (hi.map ρ) (mx.map ρ)).run P w with
      | ok v w' =>
        rcases h1 with ⟨u, h2, rfl⟩ | ⟨h2, _⟩
        · simp [hs] at h2
          obtain ⟨rfl, rfl⟩ := h2
          exact Does.still hok rfl hs (.sc _)
        · simp [hs] at h2
      | _ => rcases h1 with ⟨u, h2, _⟩ | ⟨h2, _⟩ <;> simp [hs] at h2
    · rw [opPure, show exactAll ρa (.slice t x lo hi mx : Op).operands.toList = false from by simpa using he] at hp
      cases hp
  | lookup t x ix ok => rw [ho] at h; have := Does.value (P := P) (opLookup_ok hok (hρ x) (hρ ix) h); simpa [execOp, ho] using this
  | mapUpdate t m k x => rw [ho] at h; have := DoesO.unit (P := P) (opUpdate_ok hok (hρ m) (hρ k) (hρ x) h); simpa [execOp, ho] using this
  | insert t m k x => rw [ho] at h; have := DoesO.unit (P := P) (opUpdate_ok hok (hρ m) (hρ k) (hρ x) h); simpa [execOp, ho] using this
  | typeAssert x xT asserted ok => rw [ho] at h; exact opTypeAssert_ok hok hρ ho h
  | unOp op t x =>
    rw [ho] at h
    by_cases he : exactAll ρa [x] = true
    · refine opPure_does hok hρ (.inl ?_) h
      simp only [exactAll, List.all_cons, List.all_nil, Bool.and_true] at he
      simp [execOp, ho, exact_some hρ he]
    · exact opPure_does hok hρ (.inr (by simpa using he)) h
  | call c =>
    rw [ho] at h
    obtain ⟨callee, args, argTypes⟩ := c
    cases callee with
    | builtin b => exact opBuiltin_ok rfl ho hok hf hρ h
    | _ => cases h
  | _ => rw [ho] at h; cases h

end Go.Vm
