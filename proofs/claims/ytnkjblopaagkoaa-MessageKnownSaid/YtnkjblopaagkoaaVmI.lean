/- copy, makeSlice, makeMap, strings from bytes and back. No condition. -/
import Derived.Test.YtnkjblopaagkoaaVmH
namespace Go.Vm

/-- Cells are put into a row. -/
theorem put_row {P : Program} {g : Gh} {st s1 st' : St} {w : World} {o b base off k : Nat} {s : Nat} {cells new : List AV} {e : TypeId} {news : List Value} {u : Unit}
    (hok : Ok g st.h w) (ho : st.h.get o = some (.row cells k s e)) (hi : g.inj o = some (b, base)) (hl : RelL g w new news) (hk : k ≤ off) (hle : off + new.length ≤ cells.length) (h1 : ∀ v ∈ news, v.oneCell' = true)
    (hs1 : s1.h = st.h ∧ s1.nx = st.nx) (h : hset o (.row (cells.take off ++ new ++ cells.drop (off + new.length)) k s e) s1 = some (u, st')) :
    ∃ w', (storeCells ⟨b, base + off, none⟩ news).run P w = .ok () w' ∧ Step g st.h w st.nx st'.nx g st'.h w' ∧ Ok g st'.h w' := by
  obtain ⟨b', base', hi', _, hrel⟩ := hok.obj o _ ho
  rw [hi] at hi'; cases hi'
  obtain ⟨cs, fr, o1, o2, o3, o4, o5, o6⟩ := hrel
  obtain ⟨_, hlim, hh2, hn2⟩ := hset_some h
  have hlen : news.length = new.length := hl.1
  have hrun := run_storeCells P b (base + off) e fr news 0 cs w o1 (by omega) (fun j h1 h2 => o4 j (by omega) (by omega)) h1
  simp only [Nat.add_zero] at hrun
  have hsp := splice_get cs (base + off) news (by omega)
  have hsps := splice_size cs (base + off) news (by omega)
  have hm := modify_step (x := .row cells k s e) (lo := st.nx) (up := st'.nx) (ob' := .cells (splice cs (base + off) news) e fr) hok ho hi o1
    (fun cs0 e0 fr0 he => by cases he; exact ⟨_, fr, rfl, hsps⟩)
    (fun j hj => by
      rw [cell_eq (putB_same _ (lt_of_heap o1)), cell_eq o1, hsp, if_neg (by have := o5 j hj; omega)]) hlim
    (x' := .row (cells.take off ++ new ++ cells.drop (off + new.length)) k s e)
    (fun hext => ⟨splice cs (base + off) news, fr, putB_same _ (lt_of_heap o1), by rw [hsps]; simp; omega, fun j a hj => by
      rw [hsp]
      have hlt : (cells.take off).length = off := by simp; omega
      by_cases j1 : j < off
      · rw [if_neg (by omega)]
        rw [List.append_assoc, List.getElem?_append_left (by omega), List.getElem?_take, if_pos j1] at hj
        obtain ⟨c, hc, hr⟩ := o3 j a hj
        exact ⟨c, hc, hr.ext hext⟩
      · rw [List.append_assoc, List.getElem?_append_right (by omega), hlt] at hj
        by_cases j2 : j - off < new.length
        · rw [List.getElem?_append_left j2] at hj
          obtain ⟨c, hc, hr⟩ := hl.get hj
          exact ⟨c, by rw [if_pos (by omega), show base + j - (base + off) = j - off from by omega]; exact hc, hr.ext hext⟩
        · rw [List.getElem?_append_right (by omega), List.getElem?_drop, show off + new.length + (j - off - new.length) = j from by omega] at hj
          obtain ⟨c, hc, hr⟩ := o3 j a hj
          exact ⟨c, by rw [if_neg (by omega)]; exact hc, hr.ext hext⟩, fun j h1 h2 => o4 j h1 (by rw [hsps] at h2; exact h2), o5, o6.1, fun e2 => ⟨(o6.2 e2).1, by rw [hsps, (o6.2 e2).2]; simp; omega⟩⟩)
  exact ⟨_, hrun, by rw [hh2, hs1.1]; exact hm.1, by rw [hh2, hs1.1]; exact hm.2⟩

theorem copyObj_inv {o off len sz : Nat} {src : List AV} {y : AObj} {s1 st' : St} {r : AV} (h : copyObj o off len sz src y s1 = some (r, st')) :
    ∃ cells k s e u, y = .row cells k s e ∧ k ≤ off ∧ off + min (src.length / sz) len * sz ≤ cells.length ∧ src.all AV.one = true ∧ r = .sc (goInt (min (src.length / sz) len : Nat)) ∧
      hset o (.row (cells.take off ++ src.take (min (src.length / sz) len * sz) ++ cells.drop (off + min (src.length / sz) len * sz)) k s e) s1 = some (u, st') := by
  cases y with
  | map es => cases h
  | loop => cases h
  | row cells k s e =>
    rcases cond_some h with ⟨hc, h1⟩ | ⟨_, h1⟩
    case inr => cases h1
    simp only [Bool.and_eq_true] at hc
    obtain ⟨⟨c1, c2⟩, c3⟩ := hc
    obtain ⟨u, s2, h2, h3⟩ := bind_some h1
    obtain ⟨rfl, rfl⟩ := pure_some h3
    exact ⟨cells, k, s, e, u, rfl, Nat.le_of_ble_eq_true c1, Nat.le_of_ble_eq_true c2, c3, rfl, h2⟩

theorem run_copy {P : Program} {ts : Array TypeId} {t e : TypeId} {w w' : World} {ty : TypeId} {sz n len cap : Nat} {a : Addr} {y : Value} {news : List Value} (h0 : ts[0]? = some t) (he : P.underlying t = some (.slice e)) (hsz : sizeT P e = some sz)
    (hs : Src P w sz y n news) (hst : (storeCells a (news.take (min n len * sz))).run P w = .ok () w') :
    (Builtin.copy_ ts ty #[.slice (some a) len cap, y]).run P w = .ok (goInt (min n len : Nat)) w' := by
  obtain ⟨r1, r2⟩ := hs.2 w rfl
  have r3 := r2 (min n len) (Nat.min_le_left _ _)
  have e1 : Nat.min n len = min n len := rfl
  simp [Builtin.copy_, h0, run_underlying he, run_sizeOf hsz, r1, e1, r3, hst]

theorem run_copy_nil {P : Program} {ts : Array TypeId} {t e : TypeId} {w : World} {ty : TypeId} {sz n : Nat} {y : Value} {news : List Value} (h0 : ts[0]? = some t) (he : P.underlying t = some (.slice e)) (hsz : sizeT P e = some sz)
    (hs : Src P w sz y n news) : (Builtin.copy_ ts ty #[.slice none 0 0, y]).run P w = .ok (goInt (0 : Nat)) w := by
  obtain ⟨r1, r2⟩ := hs.2 w rfl
  have r3 := r2 0 (Nat.zero_le _)
  simp [Builtin.copy_, h0, run_underlying he, run_sizeOf hsz, r1, r3]

theorem opCopy_ok {P : Program} {g : Gh} {st st' : St} {w : World} {ts : Array TypeId} {ty : TypeId} {d x r : AV} {v y : Value} (hok : Ok g st.h w) (hd : Rel g w d v) (hx : Rel g w x y)
    (h : opCopy P ts[0]? d x st = some (r, st')) : Does P g st w (Builtin.copy_ ts ty #[v, y]) r st' := by
  unfold opCopy at h
  cases h0 : ts[0]? with
  | none => simp [h0, M.fail] at h
  | some t =>
  cases he : elemT P t with
  | none => simp [h0, he, M.fail] at h
  | some e =>
  cases hsz : sizeT P e with
  | none => simp [h0, he, hsz, M.fail] at h
  | some sz =>
  simp only [h0, he, hsz, Option.bind_some] at h
  have main : ∀ o off len sz' cap a, d = .sl o off len sz' → v = .slice (some a) len cap → (len ≠ 0 → ∃ b base, a = ⟨b, base + off, none⟩ ∧ g.inj o = some (b, base)) → Does P g st w (Builtin.copy_ ts ty #[v, y]) r st' := by
    intro o off len sz' cap a hde hve hadr
    subst hde hve
    rcases cond_some h with ⟨hc, h1⟩ | ⟨_, h1⟩
    case inr => cases h1
    simp only [Bool.and_eq_true] at hc
    have hq := Nat.eq_of_beq_eq_true hc.1
    subst hq
    have hz0 : 0 < sz := Nat.le_of_ble_eq_true hc.2
    obtain ⟨src, s1, h2, h3⟩ := bind_some h1
    obtain ⟨hh, hn, n, news, hsrc, hrl⟩ := cellsIn_ok (P := P) hok hx h2
    obtain ⟨yo, s2, h4, h5⟩ := bind_some h3
    obtain ⟨hy1, hh2, hn2⟩ := hget_some h4
    obtain ⟨cells, k, s, et, u, rfl, hk, hle, hone, rfl, hset'⟩ := copyObj_inv h5
    have hln : src.length = n * sz := by rw [← hrl.1, hsrc.1]
    have hnn : src.length / sz = n := by rw [hln]; exact Nat.mul_div_cancel _ hz0
    rw [hnn] at hle hset' ⊢
    have hmin : min n len * sz ≤ n * sz := Nat.mul_le_mul_right _ (Nat.min_le_left _ _)
    have htl : (src.take (min n len * sz)).length = min n len * sz := by rw [List.length_take]; omega
    have hrl' := hrl.take (min n len * sz)
    have hone' : (src.take (min n len * sz)).all AV.one = true := List.all_eq_true.2 fun q hq => List.all_eq_true.1 hone q (List.mem_of_mem_take hq)
    rw [hh] at hy1
    by_cases hl0 : min n len = 0
    · rw [hl0] at hset'
      simp only [Nat.zero_mul, Nat.add_zero, List.take_zero, List.append_nil, List.take_append_drop] at hset'
      obtain ⟨_, hlim, hsh, hsn⟩ := hset_some hset'
      have hget : ∀ p, st.h.get p = st'.h.get p := by
        intro p; rw [hsh, hh2, hh, get_set _ _ _ _ hlim]
        by_cases e1 : p = o
        · subst e1; rw [if_pos rfl, hy1]
        · rw [if_neg e1]
      have hrun := run_copy (P := P) (w := w) (w' := w) (ty := ty) (cap := cap) (a := a) (len := len) h0 (elem_of he) hsz hsrc (by rw [hl0]; simp [storeCells])
      exact ⟨_, _, g, hrun, (Step.refl _ _ _ _ _).congr hget, hok.congr hget, .sc _⟩
    · obtain ⟨b, base, rfl, hi⟩ := hadr (by omega)
      rw [show off + min n len * sz = off + (src.take (min n len * sz)).length from by rw [htl]] at hset' hle
      obtain ⟨w', q1, q2, q3⟩ := put_row (P := P) hok hy1 hi hrl' hk hle (all_one hrl' hone') ⟨by rw [hh2, hh], by rw [hn2, hn]⟩ hset'
      have hrun := run_copy (P := P) (w := w) (w' := w') (ty := ty) (cap := cap) (len := len) h0 (elem_of he) hsz hsrc q1
      exact ⟨_, _, g, hrun, q2, q3, .sc _⟩
  cases hd with
  | sln o off sz' =>
    rcases cond_some h with ⟨hc, h1⟩ | ⟨_, h1⟩
    case inr => cases h1
    simp only [Bool.and_eq_true] at hc
    have hq := Nat.eq_of_beq_eq_true hc.1
    subst hq
    have hz0 : 0 < sz := Nat.le_of_ble_eq_true hc.2
    obtain ⟨src, s1, h2, h3⟩ := bind_some h1
    obtain ⟨hh, hn, n, news, hsrc, hrl⟩ := cellsIn_ok (P := P) hok hx h2
    obtain ⟨yo, s2, h4, h5⟩ := bind_some h3
    obtain ⟨hy1, hh2, hn2⟩ := hget_some h4
    obtain ⟨cells, k, s, et, u, rfl, hk, hle, hone, rfl, hset'⟩ := copyObj_inv h5
    rw [hh] at hy1
    simp only [Nat.min_zero, Nat.zero_mul, Nat.add_zero, List.take_zero, List.append_nil, List.take_append_drop] at hset' ⊢
    obtain ⟨_, hlim, hsh, hsn⟩ := hset_some hset'
    have hget : ∀ p, st.h.get p = st'.h.get p := by
      intro p; rw [hsh, hh2, hh, get_set _ _ _ _ hlim]
      by_cases e1 : p = o
      · subst e1; rw [if_pos rfl, hy1]
      · rw [if_neg e1]
    exact ⟨_, _, g, run_copy_nil (P := P) (w := w) (ty := ty) h0 (elem_of he) hsz hsrc, (Step.refl _ _ _ _ _).congr hget, hok.congr hget, .sc _⟩
  | sl o off len sz' b base cap hi hcap hm hr => exact main o off len sz' cap _ rfl rfl (fun _ => ⟨b, base, rfl, hi⟩)
  | slz o off sz' a => exact main o off 0 sz' 0 a rfl rfl (fun h => absurd rfl h)
  | _ => simp [M.fail] at h

/-! ### Making slices and maps -/
theorem newRowOf_ok {P : Program} {g : Gh} {st st' : St} {w w1 : World} {cells : List AV} {e : TypeId} {sz len cap : Nat} {r : AV} {cs : Array Value} (hok : Ok g st.h w) (hf : Free g st st')
    (hh : w1.heap = w.heap) (ho : w1.os = w.os) (ht : w1.tape = w.tape) (hu : w1.output = w.output)
    (h : newRowOf e sz len cells st = some (r, st')) (hc : ∀ (j : Nat) a, cells[j]? = some a → ∃ c, cs[j]? = some c ∧ Rel g w a c) (hlen : cells.length ≤ cs.size) (hlc : len ≤ cap) (hm : cap ≤ maxLen) (hcs : cap * sz ≤ cs.size) :
    ∃ g', Step g st.h w st.nx st'.nx g' st'.h (w1.alloc (.cells cs e)) ∧ Ok g' st'.h (w1.alloc (.cells cs e)) ∧ Rel g' (w1.alloc (.cells cs e)) r (.slice (some ⟨w.heap.size, 0, none⟩) len cap) := by
  obtain ⟨id, s1, h1, h2⟩ := bind_some h
  obtain ⟨rfl, e2⟩ := pure_some h2
  subst e2
  obtain ⟨rfl, h3, h4, h5⟩ := newRow_ok (w1 := w1) cs (0, 0) hok hf hh ho ht hu h1 hc hlen (fun j _ => by simp) (fun _ => rfl) (fun e2 => by cases e2)
  refine ⟨_, h3, h4, ?_⟩
  have := Rel.sl (w := w1.alloc (.cells cs e)) (g := g.with st.nx w.heap.size 0) st.nx 0 len sz w.heap.size 0 cap Gh.with_inj hlc hm ⟨_, _, _, h5, by omega⟩
  simpa using this

theorem bytes_info {P : Program} {t : TypeId} {n : Nat} (h : bytesT P t = some n) : ∃ i, P.info? t = some i ∧ i.bytes = n := by
  simpa [bytesT, Option.map_eq_some_iff] using h

theorem range_list (zs : Array Value) (m : Nat) : ((Array.range (m * zs.size)).map (zs[· % zs.size]!)).toList = (List.replicate m zs.toList).flatten := by
  rw [← range_mod]; simp

theorem opMakeSlice_ok {P : Program} {g : Gh} {st st' : St} {w : World} {t : TypeId} {l c r : AV} {lv cv : Value} (hok : Ok g st.h w) (hf : Free g st st') (hl : Rel g w l lv) (hc : Rel g w c cv)
    (h : opMakeSlice P t l c st = some (r, st')) : Does P g st w (Instr.makeSlice t lv cv) r st' := by
  unfold opMakeSlice at h
  cases he : elemT P t with
  | none => simp [he, M.fail] at h
  | some e =>
  cases hn : asN l with
  | none => simp [he, hn, M.fail] at h
  | some n =>
  cases hm : asN c with
  | none => simp [he, hn, hm, M.fail] at h
  | some m =>
  cases hsz : sizeT P e with
  | none => simp [he, hn, hm, hsz, M.fail] at h
  | some sz =>
  cases hz : zeroT P e with
  | none => simp [he, hn, hm, hsz, hz, M.fail] at h
  | some z =>
  cases hby : bytesT P e with
  | none => simp [he, hn, hm, hsz, hz, hby, M.fail] at h
  | some bytes =>
  simp only [he, hn, hm, hsz, hz, hby] at h
  rcases cond_some h with ⟨hcc, h2⟩ | ⟨_, h2⟩
  case inr => cases h2
  simp only [Bool.and_eq_true, decide_eq_true_eq] at hcc
  obtain ⟨⟨⟨⟨c1, c2⟩, c3⟩, c4⟩, c5⟩ := hcc
  have c5 := Nat.eq_of_beq_eq_true c5
  obtain ⟨i, hi, rfl⟩ := bytes_info hby
  have hwl : IntKind.i64.wrap n = n := wrapI c1 (by omega)
  have hwc : IntKind.i64.wrap m = m := wrapI (by omega) (by omega)
  have n1 : ¬ (m < 0) := by omega
  have n2 : ¬ (n < 0) := by omega
  have n3 : ¬ (m < n) := by omega
  have n4 : ¬ ((i.bytes : Int) * m > 281474976710656) := by rw [Int.mul_comm]; omega
  have harr : ∀ w' : World, (Instr.makeSlice t lv cv).run P w = .ok (.slice (some ⟨w.heap.size, 0, none⟩) n.toNat m.toNat) (w.alloc (.cells ((Array.range (m.toNat * sz)).map (z.cells[· % z.cells.size]!)) e)) := by
    intro w'
    have a1 := asN_ok (P := P) (w' := w) hl hn
    have a2 := asN_ok (P := P) (w' := w) hc hm
    by_cases h0 : m.toNat * sz = 0
    · simp [Instr.makeSlice, run_underlying (elem_of he), a1, a2, run_typeInfo hi, hwl, hwc, n1, n2, n3, n4, run_sizeOf hsz, h0, newRow]
      congr 2
      apply Array.ext'
      simp
    · simp [Instr.makeSlice, run_underlying (elem_of he), a1, a2, run_typeInfo hi, hwl, hwc, n1, n2, n3, n4, run_sizeOf hsz, h0, newRow, run_zeroValue hz]
  have hsize : ((Array.range (m.toNat * sz)).map (z.cells[· % z.cells.size]!)).size = m.toNat * sz := by simp
  have hsplit : ((Array.range (m.toNat * sz)).map (z.cells[· % z.cells.size]!)) = ((List.replicate n.toNat z.cells.toList).flatten ++ (List.replicate (m.toNat - n.toNat) z.cells.toList).flatten).toArray := by
    apply Array.ext'
    rw [← c5, range_list]
    rw [← List.flatten_append, List.replicate_append_replicate]
    simp only
    congr 2; omega
  obtain ⟨g', q1, q2, q3⟩ := newRowOf_ok (P := P) (w1 := w) (cs := (Array.range (m.toNat * sz)).map (z.cells[· % z.cells.size]!)) (cap := m.toNat) hok hf rfl rfl rfl rfl h2
    (by rw [map_flatten_replicate, hsplit]; exact (RelL.scs g w _).cs _) (by
      rw [hsize, map_flatten_replicate, List.length_map]
      have : ((List.replicate n.toNat z.cells.toList).flatten).length = n.toNat * sz := by simp [c5]
      rw [this]; exact Nat.mul_le_mul_right _ (by omega)) (by omega) (by simp only [maxLen]; omega) (by rw [hsize]; omega)
  exact ⟨_, _, g', harr w, q1, q2, q3⟩

theorem opMakeMap_ok {P : Program} {g : Gh} {st st' : St} {w : World} {t : TypeId} {ro : Option Operand} {r : AV} {rv : Option Value} (hr : ro = none → rv = none) (hok : Ok g st.h w) (hf : Free g st st')
    (h : opMakeMap ro st = some (r, st')) : Does P g st w (Instr.makeMap t rv) r st' := by
  cases ro with
  | some x => cases h
  | none =>
  rw [hr rfl]
  obtain ⟨id, s1, h1, h2⟩ := bind_some h
  obtain ⟨rfl, e2⟩ := pure_some h2
  subst e2
  obtain ⟨rfl, hlim, h3, h4⟩ := hnew_some h1
  have hid := free_nx hf h4
  have ha := alloc_step (x := .map []) (ob := .map #[] 0) hok hid hlim ⟨rfl, #[], 0, heap_new _ _, MapRel.nil⟩
  refine ⟨.map (some w.heap.size), w.alloc (.map #[] 0), g.with st.nx w.heap.size 0, by simp [Instr.makeMap, newObj]; rfl, ?_, ?_⟩
  · rw [h3, h4]; exact ha.1
  · rw [h3]; exact ⟨ha.2, .mp _ _ 0 Gh.with_inj⟩

end Go.Vm
