/- append. No condition. -/
import Derived.Test.YtnkjblopaagkoaaVmF
namespace Go.Vm

theorem Ok.congr {g h h' w} (he : ∀ o, h.get o = h'.get o) (hok : Ok g h w) : Ok g h' w :=
  ⟨hok.size, fun o x hx => hok.obj' o x (by rw [he]; exact hx), fun o o' x x' b c d hne hx hx' => hok.sep o o' x x' b c d hne (by rw [he]; exact hx) (by rw [he]; exact hx'), hok.K⟩
theorem Step.congr {g h w lo hi g' h' h'' w'} (he : ∀ o, h'.get o = h''.get o) (s : Step g h w lo hi g' h' w') : Step g h w lo hi g' h'' w' :=
  ⟨s.ext, s.size, s.os, s.tape, s.output, s.frame, s.fresh, fun o b base ho hj => s.own o b base (by rw [he]; exact ho) hj, s.Kold⟩

/-- What append is given: so many elements, these cells. -/
def Feed (P : Program) (w : World) (u e : TypeId) (sz : Nat) (x : Value) (n : Nat) (news : List Value) : Prop :=
  (NoInt P u ∧ Src P w sz x n news) ∨ (IsInt P u ∧ Zeros P e sz x n news)
theorem Feed.length {P w u e sz x n news} (h : Feed P w u e sz x n news) : news.length = n * sz := h.elim (fun h => h.2.1) (fun h => h.2.length)

theorem run_append_none {P : Program} {w : World} {t u ty e : TypeId} {sz : Nat} {x : Value} (ht : P.underlying t = some (.slice e)) (hsz : sizeT P e = some sz)
    (hx : Feed P w u e sz x 0 []) {base : Option Addr} {sLen sCap : Nat} (hc : sLen ≤ sCap) :
    (Builtin.append_ #[t, u] ty #[.slice base sLen sCap, x]).run P w = .ok (.slice base sLen sCap) w := by
  rcases hx with ⟨⟨d, hd, hk⟩, hl, hrun⟩ | ⟨⟨k, hd⟩, z, hz, hzs, hn, hlim, hrun⟩
  · obtain ⟨r1, r2⟩ := Src.run ⟨hl, hrun⟩ w rfl
    cases base <;> simp [Builtin.append_, run_underlying ht, run_underlying hd, run_sizeOf hsz, r1, r2, hc, storeCells]
  · have hi : ∃ i, P.info? e = some i := by
      simp only [zeroT, Option.bind_eq_some_iff] at hz
      obtain ⟨i, hi, _⟩ := hz; exact ⟨i, hi⟩
    obtain ⟨i, hi⟩ := hi
    have hti : ∀ w', (typeInfo e).run P w' = .ok i w' := fun w' => run_typeInfo hi w'
    have hw : IntKind.i64.wrap (0 : Int) = 0 := wrapI (by omega) (by omega)
    cases base <;> simp [Builtin.append_, run_underlying ht, run_underlying hd, run_sizeOf hsz, hrun, hw, hti, hc, storeCells]

theorem run_append_room {P : Program} {w : World} {t u ty e : TypeId} {sz bytes : Nat} {x : Value} {n : Nat} {news : List Value} (ht : P.underlying t = some (.slice e)) (hsz : sizeT P e = some sz)
    (hx : Feed P w u e sz x n news) {b p sLen sCap : Nat} {cs : Array Value} {fr : Nat × Nat} (hb : w.heap[b]? = some (.cells cs e fr)) (hroom : sLen + n ≤ sCap) (hfit : p + sLen * sz + news.length ≤ cs.size)
    (hfr : ∀ j, p + sLen * sz ≤ j → j < p + sLen * sz + news.length → ¬ (fr.1 ≤ j ∧ j < fr.2)) (h1 : ∀ v ∈ news, v.oneCell' = true) (hby : bytesT P e = some bytes) (hfit' : (sLen + n) * bytes ≤ 140737488355328) :
    (Builtin.append_ #[t, u] ty #[.slice (some ⟨b, p, none⟩) sLen sCap, x]).run P w = .ok (.slice (some ⟨b, p, none⟩) (sLen + n) sCap) (putB w b (.cells (splice cs (p + sLen * sz) news) e fr)) := by
  rcases hx with ⟨hu, hx⟩ | ⟨hu, hx⟩
  · exact run_append_room' ht hu hsz hx hb hroom hfit hfr h1 hby
  · exact run_append_room0 ht hu hsz hx hb hroom hfit hfr h1 hby hfit'

theorem run_append_grow {P : Program} {w : World} {t u ty e : TypeId} {sz bytes : Nat} {z : Value} {x : Value} {n : Nat} {news olds : List Value} (ht : P.underlying t = some (.slice e)) (hsz : sizeT P e = some sz)
    (hby : bytesT P e = some bytes) (hz : zeroT P e = some z) (hx : Feed P w u e sz x n news) {base : Option Addr} {sLen sCap : Nat} (hs : Src P w sz (.slice base sLen sCap) sLen olds)
    (hroom : sCap < sLen + n) (hmax : sLen + n ≤ 9223372036854775807) (hfit : (sLen + n) * bytes ≤ 140737488355328) :
    ∃ cap, sLen + n ≤ cap ∧ cap ≤ maxLen ∧ (Builtin.append_ #[t, u] ty #[.slice base sLen sCap, x]).run P w =
      .ok (.slice (some ⟨w.heap.size, 0, none⟩) (sLen + n) cap) (w.drew.alloc (.cells (olds.toArray ++ news.toArray ++ Builtin.zeroCells z.cells (cap - (sLen + n))) e)) := by
  rcases hx with ⟨hu, hx⟩ | ⟨hu, hx⟩
  · exact run_append_grow' ht hu hsz hby hz hx hs hroom hmax hfit
  · exact run_append_grow0 ht hu hsz hby hz hx hs hroom hmax hfit

/-- A slice's row: its cells are there. -/
theorem slice_src (P : Program) {g : Gh} {w : World} {b base off len cap sz k : Nat} {cells : List AV} {s : Nat} {et : TypeId} (hrel : ObjRel g w b base (.row cells k s et)) (hle : off + len * sz ≤ cells.length) :
    ∃ olds, Src P w sz (.slice (some ⟨b, base + off, none⟩) len cap) len olds ∧ RelL g w ((cells.drop off).take (len * sz)) olds := by
  obtain ⟨cs, fr, p1, p2, p3, _⟩ := hrel
  have hlen : ((cells.drop off).take (len * sz)).length = len * sz := by simp; omega
  have hcell : ∀ (j : Nat) a, ((cells.drop off).take (len * sz))[j]? = some a → ∃ c, w.cell? ⟨b, base + off + j, none⟩ = some c ∧ Rel g w a c := by
    intro j a hj
    rw [List.getElem?_take] at hj
    by_cases hj' : j < len * sz
    · rw [if_pos hj', List.getElem?_drop] at hj
      obtain ⟨c, hc, hr⟩ := p3 _ a hj
      exact ⟨c, by rw [cell_eq p1, Nat.add_assoc]; exact hc, hr⟩
    · rw [if_neg hj'] at hj; cases hj
  have hf := fun w' hh => firstCells_some P (g := g) (w := w) (w' := w') (b := b) (off := base + off) (len := len) (cap := cap) hh hlen hcell
  exact ⟨_, ⟨by simp, fun w' hh => ⟨by simp [Builtin.lenOf], (hf w' hh).1⟩⟩, (hf w rfl).2⟩

/-- append makes a new row. -/
theorem grow_ok {P : Program} {g : Gh} {st st' : St} {w : World} {t u ty e : TypeId} {sz bytes : Nat} {z x : Value} {n k id : Nat} {s : Nat} {new oldc : List AV} {news olds : List Value} (hs2 : s ≠ 2)
    (hok : Ok g st.h w) (hf : Free g st st') (ht : P.underlying t = some (.slice e)) (hsz : sizeT P e = some sz) (hby : bytesT P e = some bytes) (hz : zeroT P e = some z) (hzs : z.cells.size = sz) (hb0 : 0 < bytes)
    (hx : Feed P w u e sz x n news) (hl : RelL g w new news) {base : Option Addr} {sLen sCap : Nat} (hs : Src P w sz (.slice base sLen sCap) sLen olds) (hol : RelL g w oldc olds)
    (hroom : sCap < sLen + n) (hfit : (sLen + n) * bytes ≤ 140737488355328) (h : hnew (.row (oldc ++ new) k s e) st = some (id, st')) :
    Does P g st w (Builtin.append_ #[t, u] ty #[.slice base sLen sCap, x]) (.sl id 0 (sLen + n) sz) st' := by
  have hmul : (sLen + n) * 1 ≤ (sLen + n) * bytes := Nat.mul_le_mul_left _ hb0
  obtain ⟨cap, hc1, hc2, hrun⟩ := run_append_grow (ty := ty) ht hsz hby hz hx hs hroom (by omega) hfit
  have hlo : olds.length = sLen * sz := hs.1
  have hln : news.length = n * sz := hx.length
  have harr : olds.toArray ++ news.toArray ++ Builtin.zeroCells z.cells (cap - (sLen + n)) = ((olds ++ news) ++ (Builtin.zeroCells z.cells (cap - (sLen + n))).toList).toArray := by
    apply Array.ext'; simp
  have hsize : (olds.toArray ++ news.toArray ++ Builtin.zeroCells z.cells (cap - (sLen + n))).size = cap * sz := by
    rw [Array.size_append, Array.size_append, List.size_toArray, List.size_toArray, size_zeroCells, hzs, hlo, hln, ← Nat.add_mul, ← Nat.add_mul]
    congr 1; omega
  obtain ⟨rfl, h3, h4, h5⟩ := newRow_ok (w1 := w.drew) (olds.toArray ++ news.toArray ++ Builtin.zeroCells z.cells (cap - (sLen + n))) (0, 0) hok hf rfl rfl rfl rfl h
    (by rw [harr]; exact (hol.append hl).cs _) (by rw [hsize, List.length_append, ← hol.1, ← hl.1, hlo, hln, ← Nat.add_mul]; exact Nat.mul_le_mul_right _ hc1) (fun j _ => by simp) (fun _ => rfl) (fun e2 => absurd e2 hs2)
  refine ⟨_, _, _, hrun, h3, h4, ?_⟩
  have := Rel.sl (w := w.drew.alloc (.cells (olds.toArray ++ news.toArray ++ Builtin.zeroCells z.cells (cap - (sLen + n))) e)) (g := g.with st.nx w.heap.size 0) st.nx 0 (sLen + n) sz w.heap.size 0 cap Gh.with_inj hc1 hc2
    ⟨_, _, _, h5, by rw [hsize]; omega⟩
  simpa using this

theorem part_ne {s : Nat} (h : part' s ≠ 1) : s ≠ 1 := by intro e; subst e; exact h rfl
theorem part_ne2 (s : Nat) : part' s ≠ 2 := by unfold part'; cases Nat.beq s 1 <;> simp

/-- append writes behind the slice's end. -/
theorem room_ok {P : Program} {g : Gh} {st s1 s2 st' : St} {w : World} {t u ty e : TypeId} {sz bytes : Nat} {x : Value} {n k id o b base off len cap : Nat} {s : Nat} {new cells : List AV} {news : List Value}
    (hok : Ok g st.h w) (hf : Free g st st') (ht : P.underlying t = some (.slice e)) (hsz : sizeT P e = some sz) (hby : bytesT P e = some bytes)
    (hx : Feed P w u e sz x n news) (hl : RelL g w new news) (hi : g.inj o = some (b, base)) (hm : cap ≤ maxLen) (hr : Room w b (base + off + cap * sz)) (ho : st.h.get o = some (.row cells k s e))
    (hle : off + len * sz ≤ cells.length) (hk : k ≤ off + len * sz) (h1 : ∀ v ∈ news, v.oneCell' = true) (hroom : len + n ≤ cap) (hfit : (len + n) * bytes ≤ 140737488355328)
    (hd : hdel o s1 = some ((), s2)) (hs1 : s1.h = st.h ∧ s1.nx = st.nx) (h : hnew (.row ((cells.take (off + len * sz)).drop off ++ new) (k - off) (part' s) e) s2 = some (id, st')) :
    Does P g st w (Builtin.append_ #[t, u] ty #[.slice (some ⟨b, base + off, none⟩) len cap, x]) (.sl id 0 (len + n) sz) st' := by
  obtain ⟨b', base', hi', _, hrel⟩ := hok.obj o _ ho
  rw [hi] at hi'; cases hi'
  obtain ⟨cs, fr, o1, o2, o3, o4, o5, o6⟩ := hrel
  have hln : news.length = n * sz := hx.length
  have hln' : new.length = n * sz := by rw [← hl.1, hln]
  have hcs : base + off + cap * sz ≤ cs.size := by
    obtain ⟨cs1, e1, fr1, q1, q2⟩ := hr
    rw [o1] at q1; cases q1; exact q2
  have hmul : (len + n) * sz ≤ cap * sz := Nat.mul_le_mul_right _ hroom
  rw [Nat.add_mul] at hmul
  have hrun := run_append_room (ty := ty) (p := base + off) (sLen := len) (sCap := cap) ht hsz hx o1 hroom (by omega) (fun j j1 j2 => o4 j (by omega) (by omega)) h1 hby hfit
  have hsp := splice_get cs (base + off + len * sz) news (by omega)
  have hsps := splice_size cs (base + off + len * sz) news (by omega)
  obtain ⟨_, hlo, hdh, hdn⟩ := hdel_some hd
  obtain ⟨rfl, hlim, hnh, hnn⟩ := hnew_some h
  have hid : g.inj s2.nx = none := hf s2.nx (by omega) (by omega)
  have hm := modify_step (x := .row cells k s e) (lo := st.nx) (up := st.nx) (ob' := .cells (splice cs (base + off + len * sz) news) e fr) hok ho hi o1
    (fun cs0 e0 fr0 he => by cases he; exact ⟨_, fr, rfl, hsps⟩)
    (fun j hj => by
      rw [cell_eq (putB_same _ (lt_of_heap o1)), cell_eq o1, hsp, if_neg (by have := o5 j hj; omega)]) hlo
    (x' := .row (cells.take (off + len * sz) ++ new) k (part' s) e)
    (fun hext => ⟨splice cs (base + off + len * sz) news, fr, putB_same _ (lt_of_heap o1), by rw [hsps]; simp; omega, fun j a hj => by
      rw [hsp]
      have hlt : (cells.take (off + len * sz)).length = off + len * sz := by simp; omega
      by_cases j1 : j < off + len * sz
      · rw [if_neg (by omega)]
        rw [List.getElem?_append_left (by omega), List.getElem?_take, if_pos j1] at hj
        obtain ⟨c, hc, hr⟩ := o3 j a hj
        exact ⟨c, hc, hr.ext hext⟩
      · rw [List.getElem?_append_right (by omega), hlt] at hj
        have hjn : j - (off + len * sz) < new.length := (List.getElem?_eq_some_iff.1 hj).1
        obtain ⟨c, hc, hr⟩ := hl.get hj
        exact ⟨c, by rw [if_pos (by omega), show base + j - (base + off + len * sz) = j - (off + len * sz) from by omega]; exact hc, hr.ext hext⟩, fun j h1 h2 => o4 j h1 (by rw [hsps] at h2; exact h2), o5, fun e1 => o6.1 (part_ne e1), fun e2 => absurd e2 (part_ne2 s)⟩)
  obtain ⟨hm1, hm2⟩ := hm
  have hre := realias_step (id := s2.nx) (base' := base + off) (x' := .row ((cells.take (off + len * sz)).drop off ++ new) (k - off) (part' s) e) hm2 (by rw [get_set _ _ _ _ hlo, if_pos rfl]) hi hid hlo hlim
    (fun hext => ⟨splice cs (base + off + len * sz) news, fr, putB_same _ (lt_of_heap o1), by rw [hsps]; simp; omega, fun j a hj => by
      have hlt : ((cells.take (off + len * sz)).drop off).length = len * sz := by simp; omega
      rw [hsp]
      by_cases j1 : j < len * sz
      · rw [if_neg (by omega)]
        rw [List.getElem?_append_left (by omega), List.getElem?_drop, List.getElem?_take, if_pos (by omega)] at hj
        obtain ⟨c, hc, hr⟩ := o3 _ a hj
        exact ⟨c, by rw [Nat.add_assoc]; exact hc, (hr.ext hm1.ext).ext hext⟩
      · rw [List.getElem?_append_right (by omega), hlt] at hj
        have hjn : j - len * sz < new.length := (List.getElem?_eq_some_iff.1 hj).1
        obtain ⟨c, hc, hr⟩ := hl.get hj
        exact ⟨c, by rw [if_pos (by omega), show base + off + j - (base + off + len * sz) = j - len * sz from by omega]; exact hc, (hr.ext hm1.ext).ext hext⟩,
      fun j h1 h2 => o4 j (by omega) (by rw [hsps] at h2; exact h2), fun j hj => by have := o5 j hj; omega, fun e1 => o6.1 (part_ne e1), fun e2 => absurd e2 (part_ne2 s)⟩)
  have hget : ∀ p, (((st.h.set depth o (some (.row (cells.take (off + len * sz) ++ new) k (part' s) e))).set depth o none).set depth s2.nx (some (.row ((cells.take (off + len * sz)).drop off ++ new) (k - off) (part' s) e))).get p = st'.h.get p := by
    intro p
    rw [hnh, hdh, hs1.1, get_set _ _ _ _ hlim, get_set _ _ _ _ hlim, get_set _ _ _ _ hlo, get_set _ _ _ _ hlo, get_set _ _ _ _ hlo]
    by_cases e1 : p = s2.nx
    · rw [if_pos e1, if_pos e1]
    · rw [if_neg e1, if_neg e1]
      by_cases e2 : p = o
      · rw [if_pos e2, if_pos e2]
      · rw [if_neg e2, if_neg e2, if_neg e2]
  have hst := Step.trans hm1 (hre.1.widen (lo' := st.nx) (hi' := st'.nx) (by omega) (by omega)) (Nat.le_refl _) (by omega)
  refine ⟨_, _, _, hrun, hst.congr hget, hre.2.congr hget, ?_⟩
  have := Rel.sl (w := putB w b (.cells (splice cs (base + off + len * sz) news) e fr)) (g := g.with s2.nx b (base + off)) s2.nx 0 (len + n) sz b (base + off) cap Gh.with_inj hroom hm
    ⟨_, _, _, putB_same _ (lt_of_heap o1), by rw [hsps]; omega⟩
  simpa using this

end Go.Vm
