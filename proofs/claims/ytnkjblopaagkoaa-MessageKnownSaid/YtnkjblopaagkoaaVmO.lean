/- Strings and bytes. No condition. -/
import Derived.Test.YtnkjblopaagkoaaVmN
namespace Go.Vm

theorem bytesOf_ok {g w} : ∀ (l : List AV) (vs : List Value) (b : List UInt8), RelL g w l vs → bytesOf l = some b → ∃ ns : List Int, vs = ns.map (Value.int .u8) ∧ b = ns.map fun n => UInt8.ofNat n.toNat := by
  intro l
  induction l with
  | nil =>
    intro vs b hl h
    simp [bytesOf] at h
    subst h
    exact ⟨[], List.eq_nil_of_length_eq_zero hl.1, rfl⟩
  | cons a l ih =>
    intro vs b hl h
    cases vs with
    | nil => have := hl.1; simp at this
    | cons v vs =>
    cases a with
    | sc x =>
      cases x with
      | int k n =>
        cases k with
        | u8 =>
          simp only [bytesOf, Option.map_eq_some_iff] at h
          obtain ⟨b', hb', rfl⟩ := h
          obtain ⟨ns, e1, e2⟩ := ih vs b' hl.tail hb'
          have := hl.head.exact rfl
          exact ⟨n :: ns, by rw [this, e1]; rfl, by rw [e2]; rfl⟩
        | _ => simp [bytesOf] at h
      | _ => simp [bytesOf] at h
    | _ => simp [bytesOf] at h

theorem foldl_push (ns : List Int) : ∀ s : ByteArray, ns.foldl (fun r n => r.push (UInt8.ofNat n.toNat)) s = ⟨s.data ++ (ns.map fun n => UInt8.ofNat n.toNat).toArray⟩ := by
  induction ns with
  | nil => intro s; simp
  | cons n ns ih =>
    intro s
    rw [List.foldl_cons, ih]
    apply ByteArray.ext
    simp [ByteArray.push]

theorem run_loadB {P : Program} (w : World) : ∀ (ns : List Int) (a : Addr) (acc : ByteArray), (∀ (j : Nat) x, ns[j]? = some x → w.cell? (a.add j) = some (.int .u8 x)) →
    (loadBytes a acc ns.length).run P w = .ok ⟨acc.data ++ (ns.map fun n => UInt8.ofNat n.toNat).toArray⟩ w
  | [], a, acc, _ => by simp [loadBytes]
  | x :: l, a, acc, h => by
    have h0 : w.cell? a = some (.int .u8 x) := by
      have := h 0 x rfl
      simpa [Addr.add] using this
    have ih := run_loadB (P := P) w l (a.add 1) (acc.push x.toNat.toUInt8) (fun j y hy => by
      have := h (j + 1) y (by simpa using hy)
      have e : (a.add 1).add j = a.add (j + 1) := by
        unfold Addr.add
        by_cases hj : j = 0
        · subst hj; simp
        · simp [hj]; omega
      rw [e]; exact this)
    simp only [List.length_cons, loadBytes, Sem.run_bind, run_load, h0, Result.andThen]
    rw [ih]
    congr 1
    apply ByteArray.ext
    simp [ByteArray.push, Nat.toUInt8]

theorem liesAt_any {P : Program} {e : TypeId} (hc : P.cellsOf e = 1) (count off n : Nat) (hn : off + n ≤ count) : liesAt P P.depth e count off e n = true := by
  have hd : P.depth = (2 * (P.types.size + Made.depth) + 1) + 1 := rfl
  rw [hd]
  simp only [liesAt, Bool.or_eq_true]
  left
  rw [hd]
  simp [rowAt, hc, hn, sameLayout, Nat.mod_one]

theorem run_sliceData_row {P : Program} (w : World) (ts : Array TypeId) (ty : TypeId) (a : Addr) (n c : Nat) (hc : c ≠ 0) : (Builtin.unsafeSliceData_ ts ty #[.slice (some a) n c]).run P w = .ok (.pointer (some a)) w := by
  obtain ⟨k, rfl⟩ : ∃ k, c = k + 1 := ⟨c - 1, by omega⟩
  rfl
theorem run_sliceData_nil {P : Program} (w : World) (ts : Array TypeId) (ty : TypeId) (n c : Nat) : (Builtin.unsafeSliceData_ ts ty #[.slice none n c]).run P w = .ok (.pointer none) w := rfl
theorem opSliceData_ok {P : Program} {g st st' w} {ts : Array TypeId} {ty : TypeId} {x r : AV} {v : Value} (hok : Ok g st.h w) (hx : Rel g w x v) (h : opSliceData x st = some (r, st')) : Does P g st w (Builtin.unsafeSliceData_ ts ty #[v]) r st' := by
  unfold opSliceData at h
  split at h
  · obtain ⟨rfl, rfl⟩ := pure_some h
    have := hx.exact rfl; subst this
    exact Does.still hok rfl (run_sliceData_nil w ts ty _ _) (.sc _)
  · rename_i id off len sz
    rcases cond_some h with ⟨hl, h1⟩ | ⟨_, h1⟩
    case inr => cases h1
    have hl : 0 < len := Nat.le_of_ble_eq_true hl
    obtain ⟨rfl, rfl⟩ := pure_some h1
    cases hx with
    | slz => omega
    | sln => omega
    | sl _ _ _ _ b base cap hi hcap hm hr =>
      exact Does.still hok rfl (run_sliceData_row w ts ty _ _ _ (by omega)) (.ptr _ _ b base hi)
  · cases h

theorem freeze_put {w : World} {b off n : Nat} {cs : Array Value} {e : TypeId} (h : w.heap[b]? = some (.cells cs e (0, 0))) (hn : n ≠ 0) : w.freeze ⟨b, off, none⟩ n = putB w b (.cells cs e (off, off + n)) := by
  have hlt := lt_of_heap h
  have : w.heap.modify b (fun x => match x with | .cells c elem (lo, hi) => .cells c elem (if lo == hi then (off, off + n) else (min lo off, max hi (off + n))) | o => o) = w.heap.setIfInBounds b (.cells cs e (off, off + n)) := by
    apply Array.ext_getElem?
    intro i
    rw [Array.getElem?_modify, Array.getElem?_setIfInBounds]
    by_cases hi : b = i
    · subst hi; rw [if_pos rfl, if_pos rfl, if_pos hlt, h]; rfl
    · simp [hi]
  simp only [World.freeze, putB, if_neg hn]
  exact congrArg (fun hp => ({ w with heap := hp } : World)) this

theorem elemP_ok {P : Program} {t e : TypeId} (h : elemP P t = some e) : P.underlying t = some (.pointer e) := by
  unfold elemP at h
  split at h
  · rename_i e' he; rw [he]; cases h; rfl
  · cases h

theorem opUnsafeString_ok {P : Program} {g st st' w} {ts : Array TypeId} {ty : TypeId} {x y r : AV} {v u : Value} (hok : Ok g st.h w) (hx : Rel g w x v) (hy : Rel g w y u)
    (h : opUnsafeString P ts[0]? x y st = some (r, st')) : Does P g st w (Builtin.unsafeString_ ts ty #[v, u]) r st' := by
  unfold opUnsafeString at h
  cases h0 : ts[0]? with
  | none => simp [h0, M.fail] at h
  | some pt =>
  cases he : elemP P pt with
  | none => simp [h0, he, M.fail] at h
  | some e =>
  cases hn : asN y with
  | none => simp [h0, he, hn, M.fail] at h
  | some n =>
  simp only [h0, he, hn, Option.bind_some] at h
  have hu := elemP_ok he
  obtain ⟨k, rfl⟩ := hy.asN_int hn
  have hmax : IntKind.i64.max = 9223372036854775807 := rfl
  split at h
  · rename_i id off
    rcases cond_some h with ⟨hn0, h1⟩ | ⟨_, h1⟩
    case inr => cases h1
    have hn0 : 0 < n := by simpa using hn0
    obtain ⟨o, s1, h2, h3⟩ := bind_some h1
    obtain ⟨hq, hh1, hn1⟩ := hget_some h2
    cases o with
    | map => cases h3
    | loop => cases h3
    | row cells kk s et =>
    rcases cond_some h3 with ⟨hc, h4⟩ | ⟨_, h4⟩
    case inr => cases h4
    simp only [Bool.and_eq_true, Bool.not_eq_true'] at hc
    obtain ⟨⟨⟨⟨c1, c2⟩, c3⟩, c4⟩, c5⟩ := hc
    have c1 := Nat.eq_of_beq_eq_true c1
    have c2 := Nat.eq_of_beq_eq_true c2
    have c3 := Nat.le_of_ble_eq_true c3
    have c5 := Nat.le_of_ble_eq_true c5
    have hs1 : s ≠ 1 := by intro e; subst e; simp at c4
    subst c1
    cases hb : bytesOf ((cells.drop off).take n.toNat) with
    | none => simp [hb, M.fail] at h4
    | some bs =>
    rw [hb] at h4
    obtain ⟨_, s2, h5, h6⟩ := bind_some h4
    obtain ⟨rfl, rfl⟩ := pure_some h6
    obtain ⟨_, hlim, hsh, hsn⟩ := hset_some h5
    cases hx with
    | ptr _ _ b base hi =>
    obtain ⟨b', base', hi', _, hrel⟩ := hok.obj id _ hq
    rw [hi] at hi'; cases hi'
    have hrel' := hrel
    obtain ⟨cs, fr, o1, o2, o3, o4, o5, o6, o7⟩ := hrel'
    have hfr := o6 hs1
    subst hfr
    obtain ⟨olds, hsrc, hrl⟩ := slice_src P (cap := n.toNat) (len := n.toNat) (sz := 1) (off := off) hrel (by omega)
    rw [Nat.mul_one] at hrl
    obtain ⟨ns, e1, e2⟩ := bytesOf_ok _ _ _ hrl hb
    have hnl : ns.length = n.toNat := by
      have := hsrc.1; rw [e1] at this; simpa using this
    have hcell : ∀ (j : Nat) z, ns[j]? = some z → w.cell? ((⟨b, base + off, none⟩ : Addr).add j) = some (.int .u8 z) := by
      intro j z hj
      have hj' : j < n.toNat := by rw [← hnl]; exact (List.getElem?_eq_some_iff.1 hj).1
      have ha : ((cells.drop off).take n.toNat)[j]? = some (cells[off + j]'(by omega)) := by
        rw [List.getElem?_take, if_pos hj', List.getElem?_drop]; simp
      obtain ⟨c, hc, hr⟩ := hrl.get ha
      rw [e1, List.getElem?_map, hj] at hc
      simp at hc
      obtain ⟨c', hc', hr'⟩ := o3 (off + j) _ (List.getElem?_eq_getElem (by omega))
      rw [Addr.add_at, cell_eq o1, Nat.add_assoc, hc']
      have hbyte : ∃ q, cells[off + j]'(by omega) = .sc (.int .u8 q) := by
        have key : ∀ (l : List AV) (bs : List UInt8) (j : Nat) a, bytesOf l = some bs → l[j]? = some a → ∃ q, a = .sc (.int .u8 q) := by
          intro l
          induction l with
          | nil => intro bs j a _ h; simp at h
          | cons a l ih =>
            intro bs j a' h h'
            cases a with
            | sc x =>
              cases x with
              | int k n =>
                cases k with
                | u8 =>
                  simp only [bytesOf, Option.map_eq_some_iff] at h
                  obtain ⟨b', hb', _⟩ := h
                  cases j with
                  | zero => simp at h'; exact ⟨n, h'.symm⟩
                  | succ j => exact ih b' j a' hb' (by simpa using h')
                | _ => simp [bytesOf] at h
              | _ => simp [bytesOf] at h
            | _ => simp [bytesOf] at h
        exact key _ _ j _ hb ha
      obtain ⟨q, hqq⟩ := hbyte
      rw [hqq] at hr hr'
      rw [hr'.exact rfl, ← hr.exact rfl, hc]
    have hload := run_loadB (P := P) w ns ⟨b, base + off, none⟩ .empty hcell
    rw [hnl] at hload
    have hlies := liesAt_any (P := P) c2 (cs.size / P.cellsOf et) (base + off) n.toNat (by rw [c2, Nat.div_one]; omega)
    have hsh' : w.shape? b = some (et, cs.size) := by simp [World.shape?, o1]
    have hrun : (Builtin.unsafeString_ ts ty #[.pointer (some ⟨b, base + off, none⟩), .int k n]).run P w = .ok (.string ⟨bs.toArray⟩) (w.freeze ⟨b, base + off, none⟩ n.toNat) := by
      have q1 : ¬ n < 0 := by omega
      have q2 : ¬ (9223372036854775807 : Int) < n := by omega
      have q3 : ¬ n = 0 := by omega
      show (asInt (.int k n) >>= _).run P w = _
      simp [asInt, asIntOf, h0, hmax, q1, q2, q3, elemOf, run_underlying hu, variablesAt, hsh', hlies, hload, e2]
    rw [freeze_put o1 (by omega)] at hrun
    have hm := modify_step (x := .row cells kk s et) (lo := st.nx) (up := st.nx) (ob' := .cells cs et (base + off, base + off + n.toNat)) hok hq hi o1
      (fun cs0 e0 fr0 he => by cases he; exact ⟨cs, _, rfl, rfl⟩)
      (fun j hj => by rw [cell_eq (putB_same _ (lt_of_heap o1)), cell_eq o1]) hlim (x' := .row cells (max kk (off + n.toNat)) 1 et)
      (fun hext => ⟨cs, _, putB_same _ (lt_of_heap o1), o2, fun j a hj => by obtain ⟨c, hc, hr⟩ := o3 j a hj; exact ⟨c, hc, hr.ext hext⟩, fun j h1 h2 => by simp only; omega, fun j hj => by have := o5 j hj; omega, fun e => absurd rfl e, fun e => by cases e⟩)
    refine ⟨_, _, g, hrun, ?_, ?_, .sc _⟩
    · rw [hsh, hh1, show st'.nx = st.nx from by omega]; exact hm.1
    · rw [hsh, hh1]; exact hm.2
  · rcases cond_some h with ⟨hn0, h1⟩ | ⟨_, h1⟩
    case inr => cases h1
    have hn0 : n = 0 := by simpa using hn0
    subst hn0
    obtain ⟨rfl, rfl⟩ := pure_some h1
    have := hx.exact rfl; subst this
    exact Does.still hok rfl (by show (asInt (.int _ 0) >>= _).run P w = _; simp [asInt, asIntOf, h0, hmax]) (.sc _)
  · cases h

end Go.Vm
