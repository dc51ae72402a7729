/- Conversions. No condition. -/
import Derived.Test.YtnkjblopaagkoaaVmO
namespace Go.Vm

theorem putB_alloc (w : World) (o o' : Obj) : putB (w.alloc o) w.heap.size o' = w.alloc o' := by
  have : (w.heap.push o).setIfInBounds w.heap.size o' = w.heap.push o' := by
    apply Array.ext_getElem?
    intro i
    rw [Array.getElem?_setIfInBounds]
    by_cases hi : w.heap.size = i
    · subst hi; simp
    · rw [if_neg hi]
      simp only [Array.getElem?_push]
      rw [if_neg (by omega), if_neg (by omega)]
  simp only [putB, World.alloc]
  exact congrArg (fun hp => ({ w with heap := hp } : World)) this

theorem run_stringToBytes {P : Program} (w : World) (e : TypeId) (s : ByteArray) (hs : s.size ≤ 16777216) :
    ∃ cap, s.size ≤ cap ∧ cap ≤ maxLen ∧ ∃ cs : Array Value, cs.size = cap ∧ (∀ (j : Nat) a, (s.data.toList.map byteCell)[j]? = some a → ∃ c, cs[j]? = some c ∧ a = .sc c) ∧
      (Conv.stringToBytes e s).run P w = .ok (.slice (some ⟨w.heap.size, 0, none⟩) s.size cap) (w.drew.alloc (.cells cs e (cap, cap + 1))) := by
  have h1 := grownCap_ge w s.size 0 e
  have h2 := grownCap_le_maxLen w s.size 0 e (by simp only [maxLen]; omega)
  have hl : (s.data.map fun b => Value.int .u8 b.toNat).size = s.size := by rw [Array.size_map]; rfl
  refine ⟨grownCap w s.size 0 e, h1, h2, (s.data.map fun b => Value.int .u8 b.toNat) ++ Array.replicate (grownCap w s.size 0 e - s.size) (.int .u8 0), ?_, ?_, ?_⟩
  · rw [Array.size_append, hl, Array.size_replicate]; omega
  · intro j a hj
    rw [List.getElem?_map, Array.getElem?_toList] at hj
    cases hd : s.data[j]? with
    | none => rw [hd] at hj; cases hj
    | some b =>
      rw [hd] at hj
      simp at hj
      have hlt := (Array.getElem?_eq_some_iff.1 hd).1
      refine ⟨.int .u8 b.toNat, ?_, hj.symm⟩
      rw [Array.getElem?_append_left (by rw [Array.size_map]; exact hlt), Array.getElem?_map, hd]
      rfl
  · have hsize : ((s.data.map fun b => Value.int .u8 b.toNat) ++ Array.replicate (grownCap w s.size 0 e - s.size) (Value.int .u8 0)).size = grownCap w s.size 0 e := by
      rw [Array.size_append, hl, Array.size_replicate]; omega
    have hrow : (w.drew.alloc (.cells ((s.data.map fun b => Value.int .u8 b.toNat) ++ Array.replicate (grownCap w s.size 0 e - s.size) (Value.int .u8 0)) e)).heap[w.heap.size]? = some (.cells ((s.data.map fun b => Value.int .u8 b.toNat) ++ Array.replicate (grownCap w s.size 0 e - s.size) (Value.int .u8 0)) e (0, 0)) := heap_new w.drew _
    have hf := freeze_put (off := grownCap w s.size 0 e) (n := 1) hrow (by omega)
    have hp := putB_alloc w.drew (.cells ((s.data.map fun b => Value.int .u8 b.toNat) ++ Array.replicate (grownCap w s.size 0 e - s.size) (Value.int .u8 0)) e) (.cells ((s.data.map fun b => Value.int .u8 b.toNat) ++ Array.replicate (grownCap w s.size 0 e - s.size) (Value.int .u8 0)) e (grownCap w s.size 0 e, grownCap w s.size 0 e + 1))
    have hsz : w.drew.heap.size = w.heap.size := rfl
    rw [hsz] at hp
    rw [hp] at hf
    have hshape : (w.drew.alloc (.cells ((s.data.map fun b => Value.int .u8 b.toNat) ++ Array.replicate (grownCap w s.size 0 e - s.size) (Value.int .u8 0)) e)).shape? w.heap.size = some (e, grownCap w s.size 0 e) := by
      simp only [World.shape?, hrow, hsize]
    have hq : (Question.appendCap s.size 0 e).cut (w.tape w.drawn (Question.appendCap s.size 0 e)) = grownCap w s.size 0 e := rfl
    simp [Conv.stringToBytes, Question.forced, newRow, markStringish, hq]
    have hsh2 : (w.drew.alloc (.cells (Array.map (fun b => Value.int .u8 ↑b.toNat) s.data ++ Array.replicate (grownCap w s.size 0 e - s.size) (Value.int .u8 0)) e)).shape? w.heap.size = some (e, grownCap w s.size 0 e) := hshape
    simp [hsh2, hf]

theorem convSB_inv {P : Program} {e : TypeId} {x r : AV} {st st' : St} (h : convSB P e x st = some (r, st')) : ∃ s, x = .sc (.string s) ∧
    (bif isU8 P e && Nat.ble s.size 16777216 then (hnew (.row (s.data.toList.map byteCell) 0 1 e)).bind fun id => .pure (.sl id 0 s.size 1) else .fail) st = some (r, st') := by
  unfold convSB at h
  split at h
  · exact ⟨_, rfl, h⟩
  · cases h
theorem convUP_inv {P : Program} {u : TypeId} {x r : AV} {st st' : St} (h : convUP P u x st = some (r, st')) : ∃ id off, x = .ptr id off ∧ (hget id).bind (ofUnsafe P id off u) st = some (r, st') := by
  unfold convUP at h
  split at h
  · exact ⟨_, _, rfl, h⟩
  · cases h
theorem convPU_inv {P : Program} {u : TypeId} {x r : AV} {st st' : St} (h : convPU P u x st = some (r, st')) : ∃ id off, x = .ptr id off ∧ (hget id).bind (toUnsafe P id off u) st = some (r, st') := by
  unfold convPU at h
  split at h
  · exact ⟨_, _, rfl, h⟩
  · cases h
theorem convElse_inv {P : Program} {ρ : Operand → AV} {o : Oper} {x r : AV} {st st' : St} (h : convElse P ρ o x st = some (r, st')) : ∃ v, x = .sc v ∧ M.of (apure P ρ o) st = some (r, st') := by
  unfold convElse at h
  split at h
  · exact ⟨_, rfl, h⟩
  · cases h

theorem opConvert_ok {P : Program} {g st st' w ρa ρ} {o : Oper} {src dst : TypeId} {x : Operand} {r : AV} (hok : Ok g st.h w) (hf : Free g st st') (hρ : RelF g w ρa ρ) (ho : o.op = .convert src dst x)
    (h : opConvert P ρa o src dst (ρa x) st = some (r, st')) : DoesO P g st w (execOp ρ o) r st' := by
  have hx := hρ x
  have hex : execOp ρ o = (do pure (.value (← convert src dst (ρ x)))) := by simp [execOp, ho]
  have ap : ∀ v, ρa x = .sc v → M.of (apure P ρa o) st = some (r, st') → DoesO P g st w (execOp ρ o) r st' := fun v hv h1 =>
    apure_does hok (by simp [execOp, ho, exact_one hρ hv]) h1
  have els : convElse P ρa o (ρa x) st = some (r, st') → DoesO P g st w (execOp ρ o) r st' := by
    intro h
    obtain ⟨v, hxs, h1⟩ := convElse_inv h
    exact ap v hxs h1
  unfold opConvert at h
  cases hs : P.underlying src with
  | none => simp [hs, M.fail] at h
  | some ds =>
  cases hd : P.underlying dst with
  | none => simp [hs, hd, M.fail] at h
  | some dd =>
  simp only [hs, hd] at h
  cases ds with
  | string =>
    cases dd with
    | slice e =>
      obtain ⟨str, hxs, h⟩ := convSB_inv h
      · skip
        rcases cond_some h with ⟨hc, h1⟩ | ⟨_, h1⟩
        case inr => cases h1
        simp only [Bool.and_eq_true] at hc
        have hsz := Nat.le_of_ble_eq_true hc.2
        have hu8 : P.underlying e = some (.int .u8) := by
          have := hc.1; unfold isU8 at this; split at this
          · assumption
          · cases this
        obtain ⟨id, s1, h2, h3⟩ := bind_some h1
        obtain ⟨rfl, rfl⟩ := pure_some h3
        rw [hxs] at hx
        have hv := hx.exact rfl
        obtain ⟨cap, c1, c2, cs, c3, c4, hrun⟩ := run_stringToBytes (P := P) w e str hsz
        obtain ⟨rfl, q1, q2, q3⟩ := newRow_ok (w1 := w.drew) cs (cap, cap + 1) hok hf rfl rfl rfl rfl h2
          (fun j a hj => by obtain ⟨c, hc, rfl⟩ := c4 j a hj; exact ⟨c, hc, .sc c⟩) (by rw [List.length_map, Array.length_toList, c3]; exact c1) (fun j hj => by simp only; omega) (fun e => absurd rfl e) (fun e => by cases e)
        rw [hex, hv]
        refine Does.value ⟨.slice (some ⟨w.heap.size, 0, none⟩) str.size cap, _, _, ?_, q1, q2, ?_⟩
        · simp [convert, run_underlying hs, run_underlying hd, run_underlying hu8, hrun]
        · have := Rel.sl (w := w.drew.alloc (.cells cs e (cap, cap + 1))) (g := g.with st.nx w.heap.size 0) st.nx 0 str.size 1 w.heap.size 0 cap Gh.with_inj c1 c2 ⟨_, _, _, q3, by omega⟩
          simpa using this
    | _ => exact els h
  | slice e =>
    cases dd with
    | string =>
      simp only [convKinds, convBS] at h
      rcases cond_some h with ⟨hc, h1⟩ | ⟨_, h1⟩
      case inr => cases h1
      simp only [Bool.and_eq_true] at hc
      have hu8 : P.underlying e = some (.int .u8) := by
        have := hc.1; unfold isU8 at this; split at this
        · assumption
        · cases this
      obtain ⟨l, s1, h2, h3⟩ := bind_some h1
      obtain ⟨hh, hn, n, news, hsrc, hrl⟩ := cellsIn_ok (P := P) hok hx h2
      unfold bytesStr at h3
      cases hb : bytesOf l with
      | none => simp [hb, M.fail] at h3
      | some bs =>
      rw [hb] at h3
      obtain ⟨rfl, rfl⟩ := pure_some h3
      obtain ⟨ns, e1, e2⟩ := bytesOf_ok _ _ _ hrl hb
      have hsl : ∃ a m c, ρ x = .slice a m c := by
        have h4 := hc.2
        generalize ρa x = ax at hx h4
        cases ax with
        | sc v =>
          have := hx.exact rfl; rw [this]
          cases v with
          | slice a m c => exact ⟨a, m, c, rfl⟩
          | _ => simp [isSlice] at h4
        | ez => generalize ρ x = v at hx ⊢; cases hx; exact ⟨_, _, _, rfl⟩
        | vl => generalize ρ x = v at hx ⊢; cases hx <;> exact ⟨_, _, _, rfl⟩
        | sl => generalize ρ x = v at hx ⊢; cases hx <;> exact ⟨_, _, _, rfl⟩
        | _ => simp [isSlice] at h4
      obtain ⟨a, m, c, hv⟩ := hsl
      rw [hex, hv]
      obtain ⟨r1, r2⟩ := hsrc.run w rfl
      rw [hv] at r1 r2
      have hm : n = m := by simp [Builtin.lenOf] at r1; exact r1.symm
      subst hm
      refine Does.value (Does.still hok hh (v := .string ⟨bs.toArray⟩) ?_ (.sc _))
      cases a with
      | none =>
        have hnil : news = [] := by simpa [Builtin.firstCells] using r2
        have : ns = [] := by rw [hnil] at e1; simpa using e1.symm
        subst this
        have e3 : bs = [] := by rw [e2]; rfl
        subst e3
        have hbs : (Conv.bytesToString (.slice none n c)).run P w = .ok (.string ByteArray.empty) w := rfl
        simp [convert, run_underlying hs, run_underlying hd, run_underlying hu8, hbs]
        rfl
      | some a =>
        have hlc : (loadCells a n).run P w = .ok (ns.map (Value.int .u8)).toArray w := by rw [← e1]; simpa [Builtin.firstCells] using r2
        have hbs := run_bytesToString w a n c ns hlc
        rw [foldl_push, ← e2] at hbs
        simp [convert, run_underlying hs, run_underlying hd, run_underlying hu8, hbs]
    | _ => cases h
  | unsafePointer =>
    cases dd with
    | pointer u =>
      obtain ⟨id, off, hxs, h⟩ := convUP_inv h
      · skip
        obtain ⟨y, s1, h1, h2⟩ := bind_some h
        obtain ⟨hy, hh, hn⟩ := hget_some h1
        cases y with
        | map => cases h2
        | loop => cases h2
        | row cells k s et =>
        rcases cond_some h2 with ⟨hc, h3⟩ | ⟨_, h3⟩
        case inr => cases h3
        obtain ⟨rfl, rfl⟩ := pure_some h3
        simp only [Bool.and_eq_true, Bool.not_eq_true'] at hc
        obtain ⟨⟨c1, c2⟩, c3⟩ := hc
        have c1 := Nat.eq_of_beq_eq_true c1
        rw [hxs] at hx
        rw [hex]
        refine Does.value ?_
        generalize hv : ρ x = v at hx ⊢
        cases hx with
        | ptr _ _ b base hi =>
        obtain ⟨b', base', hi', _, hrel⟩ := hok.obj id _ hy
        rw [hi] at hi'; cases hi'
        obtain ⟨cs, fr, o1, o2, o3, o4, o5, o6, o7⟩ := hrel
        obtain ⟨rfl, hcs⟩ := o7 c1
        have hview := viewAt_cells (P := P) o1
        have hsh : w.shape? b = some (et, cs.size) := by simp [World.shape?, o1]
        have hlies : liesAt P P.depth et (cs.size / P.cellsOf et) off u 1 = true := by rw [hcs]; exact c3
        obtain ⟨nz, hnz⟩ : ∃ n, sizeT P u = some n := by
          cases hq : sizeT P u with
          | none => rw [hq] at c2; simp at c2
          | some n => exact ⟨n, rfl⟩
        have hn0 : nz ≠ 0 := by intro e; subst e; rw [hnz] at c2; simp at c2
        refine Does.still (v := .pointer (some ⟨b, 0 + off, none⟩)) hok hh ?_ (.ptr id off b 0 hi)
        simp [convert, run_underlying hs, run_underlying hd, Conv.unsafePointer, Conv.seenAt, hview, run_sizeOf hnz, hn0, variablesAt, hsh, hlies]
    | _ => cases h
  | pointer u =>
    cases dd with
    | unsafePointer =>
      obtain ⟨id, off, hxs, h⟩ := convPU_inv h
      · skip
        obtain ⟨y, s1, h1, h2⟩ := bind_some h
        obtain ⟨hy, hh, hn⟩ := hget_some h1
        cases y with
        | map => cases h2
        | loop => cases h2
        | row cells k s et =>
        rcases cond_some h2 with ⟨hc, h3⟩ | ⟨_, h3⟩
        case inr => cases h3
        obtain ⟨rfl, rfl⟩ := pure_some h3
        simp only [Bool.and_eq_true, Bool.not_eq_true'] at hc
        obtain ⟨⟨c1, c2⟩, c3⟩ := hc
        have c1 := Nat.eq_of_beq_eq_true c1
        have c2 : off < cells.length := Nat.le_of_ble_eq_true c2
        rw [hxs] at hx
        rw [hex]
        refine Does.value ?_
        generalize hv : ρ x = v at hx ⊢
        cases hx with
        | ptr _ _ b base hi =>
        obtain ⟨b', base', hi', _, hrel⟩ := hok.obj id _ hy
        rw [hi] at hi'; cases hi'
        obtain ⟨cs, fr, o1, o2, o3, o4, o5, o6, o7⟩ := hrel
        obtain ⟨rfl, hcs⟩ := o7 c1
        have hview := viewAt_cells (P := P) o1
        have hsh : w.shape? b = some (et, cs.size) := by simp [World.shape?, o1]
        obtain ⟨nz, hnz⟩ : ∃ n, sizeT P u = some n := by
          cases hq : sizeT P u with
          | none => rw [hq] at c3; simp at c3
          | some n => exact ⟨n, rfl⟩
        have hn0 : nz ≠ 0 := by intro e; subst e; rw [hnz] at c3; simp at c3
        have hci : (Go.cellsIn b).run P w = .ok (some cs.size) w := by simp [Go.cellsIn, hsh]
        have hlt : ¬ cs.size ≤ off := by omega
        refine Does.still (v := .pointer (some ⟨b, 0 + off, none⟩)) hok hh ?_ (.ptr id off b 0 hi)
        simp [convert, run_underlying hs, run_underlying hd, Conv.unsafePointer, Conv.seenAt, hview, run_sizeOf hnz, hn0, hci, hlt]
    | _ => cases h
  | int k0 =>
    cases dd with
    | int k' =>
      simp only [convKinds, convInt] at h
      cases hn : asN (ρa x) with
      | none => simp [hn, M.fail] at h
      | some n =>
      rw [hn] at h
      obtain ⟨rfl, rfl⟩ := pure_some h
      obtain ⟨kk, hv⟩ := hx.asN_int hn
      rw [hex, hv]
      exact Does.value (Does.still hok rfl (by simp [convert, run_underlying hs, run_underlying hd, Conv.intToInt]) (.sc _))
    | _ => exact els h
  | _ => exact els h

end Go.Vm
