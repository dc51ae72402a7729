/- Operations that make memory: new variables and rows, append. No condition. -/
import Derived.Test.YtnkjblopaagkoaaVmE
namespace Go.Vm

theorem free_nx {g st st'} (hf : Free g st st') (hn : st'.nx = st.nx + 1) : g.inj st.nx = none := hf st.nx (Nat.le_refl _) (by omega)

/-- A new row, in a world that has the memory of the one before. -/
theorem newRow_ok {g : Gh} {st st' : St} {w w1 : World} {cells : List AV} {k : Nat} {s : Nat} {et : TypeId} {id : Nat} (cs : Array Value) (fr : Nat × Nat) (hok : Ok g st.h w) (hf : Free g st st') (hh : w1.heap = w.heap) (ho : w1.os = w.os) (ht : w1.tape = w.tape) (hu : w1.output = w.output)
    (h : hnew (.row cells k s et) st = some (id, st')) (hc : ∀ (j : Nat) a, cells[j]? = some a → ∃ c, cs[j]? = some c ∧ Rel g w a c) (hlen : cells.length ≤ cs.size)
    (hfr : ∀ j, j < cs.size → ¬ (fr.1 ≤ j ∧ j < fr.2)) (hs : s ≠ 1 → fr = (0, 0)) (hw2 : s = 2 → cs.size = cells.length) :
    id = st.nx ∧ Step g st.h w st.nx st'.nx (g.with id w.heap.size 0) st'.h (w1.alloc (.cells cs et fr)) ∧ Ok (g.with id w.heap.size 0) st'.h (w1.alloc (.cells cs et fr)) ∧
      (w1.alloc (.cells cs et fr)).heap[w.heap.size]? = some (.cells cs et fr) := by
  obtain ⟨rfl, hlim, h1, h2⟩ := hnew_some h
  have hid := free_nx hf h2
  have hok1 := hok.same hh
  have hsz : w1.heap.size = w.heap.size := by rw [hh]
  have hext := Ext.alloc g w1 st.nx 0 (.cells cs et fr) hid hok1.K
  rw [hsz] at hext
  have hnew : (w1.alloc (.cells cs et fr)).heap[w.heap.size]? = some (.cells cs et fr) := by rw [← hsz]; exact heap_new _ _
  have ha := alloc_step (x := .row cells k s et) (ob := .cells cs et fr) hok1 hid hlim (by
    rw [hsz]
    refine ⟨cs, fr, hnew, by omega, fun j a hj => ?_, fun j _ h2 => hfr j h2, fun j hj => ?_, hs, fun e2 => ⟨rfl, hw2 e2⟩⟩
    · obtain ⟨c, hc, hr⟩ := hc j a hj
      exact ⟨c, by simpa using hc, (hr.ext (Ext.same hh)).ext hext⟩
    · have := hok.K _ _ hj; omega)
  rw [hsz] at ha
  refine ⟨rfl, ?_, ?_, hnew⟩
  · rw [h1, h2]
    exact Step.trans (mid := st.nx) (hi := st.nx + 1) (Step.same hh ho ht hu) ha.1 (Nat.le_refl _) (by omega)
  · rw [h1]; exact ha.2

theorem RelL.cs {g w l vs} (h : RelL g w l vs) (rest : List Value) : ∀ (j : Nat) a, l[j]? = some a → ∃ c, ((vs ++ rest).toArray)[j]? = some c ∧ Rel g w a c := fun j a hj => by
  obtain ⟨c, hc, hr⟩ := h.get hj
  refine ⟨c, ?_, hr⟩
  rw [List.getElem?_toArray, List.getElem?_append_left (List.getElem?_eq_some_iff.1 hc).1]
  exact hc

theorem opBox_ok {P : Program} {g st st' w t a v r} (hok : Ok g st.h w) (hf : Free g st st') (ha : Rel g w a v) (h : opBox t a st = some (r, st')) : Does P g st w (Instr.box t v) r st' := by
  unfold opBox at h
  rcases cond_some h with ⟨hk, h⟩ | ⟨_, h⟩
  case inr => cases h
  obtain ⟨id, s1, h1, h2⟩ := bind_some h
  obtain ⟨rfl, e⟩ := pure_some h2
  subst e
  have hc := ha.cells hk
  obtain ⟨rfl, h3, h4, _⟩ := newRow_ok v.cells (0, 0) hok hf rfl rfl rfl rfl h1 (fun j x hj => by
    obtain ⟨c, hc, hr⟩ := hc.get hj
    exact ⟨c, by rw [← Array.getElem?_toList]; exact hc, hr⟩) (by rw [← hc.1]; simp) (fun j _ => by simp) (fun _ => rfl) (fun _ => by rw [← hc.1]; simp)
  exact ⟨_, _, _, by simp [Instr.box, newVar, newRow], h3, h4, Rel.ptr _ 0 w.heap.size 0 Gh.with_inj⟩

theorem opAlloc_ok {P : Program} {g st st' w t r} (hok : Ok g st.h w) (hf : Free g st st') (h : opAlloc P t st = some (r, st')) : Does P g st w (Instr.alloc t true (.tuple #[])) r st' := by
  unfold opAlloc at h
  cases hz : zeroT P t with
  | none => rw [hz] at h; cases h
  | some z =>
    rw [hz] at h
    obtain ⟨v, w', g', h1, h2⟩ := opBox_ok (P := P) (v := z) hok hf (.sc z) h
    refine ⟨v, w', g', ?_, h2⟩
    simp only [Instr.alloc, Sem.run_bind, run_zeroValue hz, Result.andThen_ok]
    simpa [Instr.box] using h1

/-! ### append -/
/-- What append and copy take from their second argument: so many elements, these cells. -/
def Src (P : Program) (w : World) (sz : Nat) (v : Value) (n : Nat) (news : List Value) : Prop :=
  news.length = n * sz ∧ ∀ w' : World, w'.heap = w.heap → (Builtin.lenOf v).run P w' = .ok n w' ∧ ∀ m, m ≤ n → (Builtin.firstCells sz m v).run P w' = .ok (news.take (m * sz)).toArray w'
theorem Src.run {P : Program} {w : World} {sz : Nat} {v : Value} {n : Nat} {news : List Value} (h : Src P w sz v n news) : ∀ w' : World, w'.heap = w.heap → (Builtin.lenOf v).run P w' = .ok n w' ∧ (Builtin.firstCells sz n v).run P w' = .ok news.toArray w' := by
  intro w' hh
  obtain ⟨h1, h2⟩ := h.2 w' hh
  have h3 := h2 n (Nat.le_refl _)
  rw [List.take_of_length_le (by rw [h.1]; exact Nat.le_refl _)] at h3
  exact ⟨h1, h3⟩
def NoInt (P : Program) (u : TypeId) : Prop := ∃ d, P.underlying u = some d ∧ ∀ k, d ≠ .int k

theorem run_append_room' {P : Program} {w : World} {t u ty e : TypeId} {sz bytes : Nat} {x : Value} {n : Nat} {news : List Value} (ht : P.underlying t = some (.slice e)) (hu : NoInt P u) (hsz : sizeT P e = some sz)
    (hx : Src P w sz x n news) {b p sLen sCap : Nat} {cs : Array Value} {fr : Nat × Nat} (hb : w.heap[b]? = some (.cells cs e fr)) (hroom : sLen + n ≤ sCap) (hfit : p + sLen * sz + news.length ≤ cs.size)
    (hfr : ∀ j, p + sLen * sz ≤ j → j < p + sLen * sz + news.length → ¬ (fr.1 ≤ j ∧ j < fr.2)) (h1 : ∀ v ∈ news, v.oneCell' = true) (_ : bytesT P e = some bytes) :
    (Builtin.append_ #[t, u] ty #[.slice (some ⟨b, p, none⟩) sLen sCap, x]).run P w = .ok (.slice (some ⟨b, p, none⟩) (sLen + n) sCap) (putB w b (.cells (splice cs (p + sLen * sz) news) e fr)) := by
  obtain ⟨d, hd, hk⟩ := hu
  have hl := hx.1
  have hrun := hx.run
  obtain ⟨r1, r2⟩ := hrun w rfl
  have hst := run_storeCells P b (p + sLen * sz) e fr news 0 cs w hb (by simpa using hfit) (by simpa using hfr) h1
  simp only [Nat.add_zero] at hst
  simp [Builtin.append_, run_underlying ht, run_underlying hd, run_sizeOf hsz, r1, r2, hroom, hst, Addr.add_at]

theorem run_append_grow' {P : Program} {w : World} {t u ty e : TypeId} {sz bytes : Nat} {z : Value} {x : Value} {n : Nat} {news olds : List Value} (ht : P.underlying t = some (.slice e)) (hu : NoInt P u) (hsz : sizeT P e = some sz)
    (hby : bytesT P e = some bytes) (hz : zeroT P e = some z) (hx : Src P w sz x n news) {base : Option Addr} {sLen sCap : Nat} (hs : Src P w sz (.slice base sLen sCap) sLen olds)
    (hroom : sCap < sLen + n) (hmax : sLen + n ≤ 9223372036854775807) (hfit : (sLen + n) * bytes ≤ 140737488355328) :
    ∃ cap, sLen + n ≤ cap ∧ cap ≤ maxLen ∧ (Builtin.append_ #[t, u] ty #[.slice base sLen sCap, x]).run P w =
      .ok (.slice (some ⟨w.heap.size, 0, none⟩) (sLen + n) cap) (w.drew.alloc (.cells (olds.toArray ++ news.toArray ++ Builtin.zeroCells z.cells (cap - (sLen + n))) e)) := by
  obtain ⟨d, hd, hk⟩ := hu
  have hl := hx.1
  have hrun := hx.run
  have hl' := hs.1
  have hrun' := hs.run
  obtain ⟨r1, _⟩ := hrun w rfl
  obtain ⟨_, r2⟩ := hrun w.drew rfl
  obtain ⟨_, r3⟩ := hrun' w.drew rfl
  obtain ⟨i, hi, hb⟩ : ∃ i, P.info? e = some i ∧ i.bytes = bytes := by simpa [bytesT, Option.map_eq_some_iff] using hby
  have hcap := growslice_fits hroom hfit
  have hti : ∀ w', (typeInfo e).run P w' = .ok i w' := fun w' => run_typeInfo hi w'
  have hzv : (zeroValue e).run P w.drew = .ok z w.drew := run_zeroValue hz _
  refine ⟨grownCap w (sLen + n) sCap e, grownCap_ge w _ _ _, grownCap_le_maxLen w _ _ _ (by simp only [maxLen]; omega), ?_⟩
  subst hb
  have hno : ¬ (sLen + n ≤ sCap) := by omega
  have hmx : ¬ ((sLen : Int) + n > 9223372036854775807) := by omega
  have hcap' : ¬ (Builtin.nextslicecap (sLen + n) sCap * i.bytes > 281474976710656) := by omega
  simp [Builtin.append_, run_underlying ht, run_underlying hd, run_sizeOf hsz, r1, hno, hti, hmx, hcap', Question.forced, r2, r3, hzv, newRow, grownCap]
  congr 2
  rw [← Array.append_assoc]
  simp

/-- A slice's cells, out of its object. -/
theorem flat_length {sz : Nat} : ∀ (es : List AV), (∀ e ∈ es, e.cells.length = sz) → (es.flatMap AV.cells).length = es.length * sz := by
  intro es
  induction es with
  | nil => intro _; simp
  | cons e es ih => intro h; rw [List.flatMap_cons, List.length_append, ih (fun x hx => h x (by simp [hx])), h e (by simp), List.length_cons, Nat.add_mul]; omega

theorem firstCells_some (P : Program) {w w' : World} {b off : Nat} {len cap sz n : Nat} {l : List AV} {g : Gh} (hh : w'.heap = w.heap) (hl : l.length = n * sz)
    (h : ∀ (j : Nat) a, l[j]? = some a → ∃ c, w.cell? ⟨b, off + j, none⟩ = some c ∧ Rel g w a c) :
    (∀ m, m ≤ n → (Builtin.firstCells sz m (.slice (some ⟨b, off, none⟩) len cap)).run P w' = .ok (((List.range (n * sz)).map fun j => (w.cell? ⟨b, off + j, none⟩).getD undef).take (m * sz)).toArray w') ∧
      RelL g w l ((List.range (n * sz)).map fun j => (w.cell? ⟨b, off + j, none⟩).getD undef) := by
  constructor
  · intro m hm
    have hms : m * sz ≤ n * sz := Nat.mul_le_mul_right _ hm
    rw [← List.map_take, List.take_range, Nat.min_eq_left hms]
    simp only [Builtin.firstCells]
    refine run_loadCells w' _ _ (fun j => (w.cell? ⟨b, off + j, none⟩).getD undef) fun j hj => ?_
    obtain ⟨c, hc, _⟩ := h j l[j] (List.getElem?_eq_getElem (by omega))
    have : w'.cell? ⟨b, off + j, none⟩ = w.cell? ⟨b, off + j, none⟩ := by simp [World.cell?, hh]
    rw [Addr.add_at, this, hc]; rfl
  · refine ⟨by simp [hl], fun i a v ha hv => ?_⟩
    obtain ⟨c, hc, hr⟩ := h i a ha
    have hi : i < n * sz := by rw [← hl]; exact (List.getElem?_eq_some_iff.1 ha).1
    have : v = c := by
      have hv : some ((w.cell? ⟨b, off + i, none⟩).getD undef) = some v := by simpa [hi] using hv
      rw [hc] at hv; exact (Option.some.inj hv).symm
    rw [this]; exact hr

theorem Src.nil {P : Program} {w : World} {sz : Nat} {v : Value} (h1 : ∀ w' : World, (Builtin.lenOf v).run P w' = .ok 0 w') (h2 : ∀ w' : World, (Builtin.firstCells sz 0 v).run P w' = .ok #[] w') : Src P w sz v 0 [] :=
  ⟨by simp, fun w' _ => ⟨h1 w', fun m hm => by have : m = 0 := by omega
                                               subst this; simpa using h2 w'⟩⟩

theorem cellsIn_ok {P : Program} {g st st' w sz a v new} (hok : Ok g st.h w) (ha : Rel g w a v) (h : cellsIn sz a st = some (new, st')) :
    st'.h = st.h ∧ st'.nx = st.nx ∧ ∃ n news, Src P w sz v n news ∧ RelL g w new news := by
  cases ha with
  | sc =>
    cases v with
    | slice b n c =>
      cases n with
      | succ n => simp [cellsIn, M.fail] at h
      | zero =>
        obtain ⟨rfl, rfl⟩ := pure_some h
        exact ⟨rfl, rfl, 0, [], Src.nil (fun w' => by simp [Builtin.lenOf]) (fun w' => by cases b <;> simp [Builtin.firstCells, loadCells, loadCellsFrom]), RelL.nil _ _⟩
    | string s =>
      rcases cond_some h with ⟨hs, h1⟩ | ⟨_, h1⟩
      case inr => cases h1
      have hs' := Nat.eq_of_beq_eq_true hs
      subst hs'
      obtain ⟨rfl, rfl⟩ := pure_some h1
      refine ⟨rfl, rfl, s.size, s.data.toList.map fun b => .int .u8 b.toNat, ⟨by rw [List.length_map, Array.length_toList, Nat.mul_one]; rfl, fun w' _ => ⟨by simp [Builtin.lenOf], fun m hm => ?_⟩⟩, ?_⟩
      · simp only [Builtin.firstCells, Sem.run_pure]
        congr 1
        apply Array.ext'
        have hm' : m ≤ s.data.size := hm
        simp [ByteArray.data_extract]
      · have := RelL.scs g w (s.data.toList.map fun b => Value.int .u8 b.toNat)
        rw [List.map_map] at this
        exact this
    | _ => cases h
  | ez b =>
    obtain ⟨rfl, rfl⟩ := pure_some h
    exact ⟨rfl, rfl, 0, [], Src.nil (fun w' => by simp [Builtin.lenOf]) (fun w' => by cases b <;> simp [Builtin.firstCells, loadCells, loadCellsFrom]), RelL.nil _ _⟩
  | vl loc sz' es b off cap c hsz hl hcap hc hr =>
    rcases cond_some h with ⟨hs, h1⟩ | ⟨_, h1⟩
    case inr => cases h1
    have hs' := Nat.eq_of_beq_eq_true hs
    subst hs'
    obtain ⟨rfl, rfl⟩ := pure_some h1
    have hlen := flat_length es hsz
    have hf := fun w' hh => firstCells_some P (g := g) (w := w) (w' := w') (b := b) (off := off) (len := es.length) (cap := cap) hh hlen (fun j a ha => ⟨c j, (hc j a ha).2, hr j a ha⟩)
    exact ⟨rfl, rfl, es.length, _, ⟨by simp, fun w' hh => ⟨by simp [Builtin.lenOf], (hf w' hh).1⟩⟩, (hf w rfl).2⟩
  | vlnil loc sz' =>
    rcases cond_some h with ⟨hs, h1⟩ | ⟨_, h1⟩
    case inr => cases h1
    obtain ⟨rfl, rfl⟩ := pure_some h1
    exact ⟨rfl, rfl, 0, [], Src.nil (fun w' => by simp [Builtin.lenOf]) (fun w' => by simp [Builtin.firstCells]), RelL.nil _ _⟩
  | vlz loc sz' a =>
    rcases cond_some h with ⟨hs, h1⟩ | ⟨_, h1⟩
    case inr => cases h1
    obtain ⟨rfl, rfl⟩ := pure_some h1
    exact ⟨rfl, rfl, 0, [], Src.nil (fun w' => by simp [Builtin.lenOf]) (fun w' => by simp [Builtin.firstCells, loadCells, loadCellsFrom]), RelL.nil _ _⟩
  | slz o off sz' a =>
    rcases cond_some h with ⟨hs, h1⟩ | ⟨_, h1⟩
    case inr => cases h1
    obtain ⟨x, s1, hx, h2⟩ := bind_some h1
    obtain ⟨hx1, hh, hn⟩ := hget_some hx
    cases x with
    | map es => cases h2
    | loop => cases h2
    | row cells k s et =>
      rcases cond_some h2 with ⟨hle, h3⟩ | ⟨_, h3⟩
      case inr => cases h3
      obtain ⟨rfl, e⟩ := pure_some h3
      exact ⟨by rw [e]; exact hh, by rw [e]; exact hn, 0, [], Src.nil (fun w' => by simp [Builtin.lenOf]) (fun w' => by simp [Builtin.firstCells, loadCells, loadCellsFrom]), by simpa using RelL.nil _ _⟩
  | sln o off sz' =>
    rcases cond_some h with ⟨hs, h1⟩ | ⟨_, h1⟩
    case inr => cases h1
    obtain ⟨x, s1, hx, h2⟩ := bind_some h1
    obtain ⟨hx1, hh, hn⟩ := hget_some hx
    cases x with
    | map es => cases h2
    | loop => cases h2
    | row cells k s et =>
      rcases cond_some h2 with ⟨hle, h3⟩ | ⟨_, h3⟩
      case inr => cases h3
      obtain ⟨rfl, e⟩ := pure_some h3
      exact ⟨by rw [e]; exact hh, by rw [e]; exact hn, 0, [], Src.nil (fun w' => by simp [Builtin.lenOf]) (fun w' => by simp [Builtin.firstCells]), by simpa using RelL.nil _ _⟩
  | sl o off len sz' b base cap hi hcap hm hr =>
    rcases cond_some h with ⟨hs, h1⟩ | ⟨_, h1⟩
    case inr => cases h1
    have hs' := Nat.eq_of_beq_eq_true hs
    subst hs'
    obtain ⟨x, s1, hx, h2⟩ := bind_some h1
    obtain ⟨hx1, hh, hn⟩ := hget_some hx
    obtain ⟨b', base', hi', _, hrel⟩ := hok.obj o x hx1
    rw [hi] at hi'; cases hi'
    cases x with
    | map es => cases h2
    | loop => cases h2
    | row cells k s et =>
      rcases cond_some h2 with ⟨hle, h3⟩ | ⟨_, h3⟩
      case inr => cases h3
      have hle := Nat.le_of_ble_eq_true hle
      obtain ⟨rfl, e⟩ := pure_some h3
      obtain ⟨cs, fr, p1, p2, p3, _⟩ := hrel
      have hlen : ((cells.drop off).take (len * sz)).length = len * sz := by simp; omega
      have hcell : ∀ (j : Nat) a, ((cells.drop off).take (len * sz))[j]? = some a → ∃ c, w.cell? ⟨b, base + off + j, none⟩ = some c ∧ Rel g w a c := by
        intro j a hj
        rw [List.getElem?_take] at hj
        by_cases hj' : j < len * sz
        · rw [if_pos hj', List.getElem?_drop] at hj
          obtain ⟨c, hc, hr⟩ := p3 _ a hj
          exact ⟨c, by rw [cell_eq p1, Nat.add_assoc]; exact hc, hr⟩
        · rw [if_neg hj'] at hj; cases hj
      have hf := fun w' hh => firstCells_some P (g := g) (w := w) (w' := w') (b := b) (off := base + off) (len := len) (cap := cap) hh hlen hcell
      exact ⟨by rw [e]; exact hh, by rw [e]; exact hn, len, _, ⟨by simp, fun w' hh => ⟨by simp [Builtin.lenOf], (hf w' hh).1⟩⟩, (hf w rfl).2⟩
  | _ => cases h

theorem all_one {g w l vs} (h : RelL g w l vs) (ho : l.all AV.one = true) : ∀ v ∈ vs, v.oneCell' = true := by
  intro v hv
  obtain ⟨i, hi1, hi2⟩ := List.getElem_of_mem hv
  have hi3 : i < l.length := by rw [← h.1]; exact hi1
  exact (h.2 i l[i] v (by simp [hi3]) (by rw [← hi2]; simp)).one ((List.all_eq_true.1 ho) _ (List.getElem_mem hi3))

/-! ### Zeros -/
theorem wrapI {n : Int} (h0 : 0 ≤ n) (h1 : n < 9223372036854775808) : IntKind.i64.wrap n = n := by
  simp [IntKind.wrap, IntKind.bits, IntKind.signed]; omega

theorem range_mod (zs : Array Value) : ∀ n : Nat, (List.range (n * zs.size)).map (fun i => zs[i % zs.size]!) = (List.replicate n zs.toList).flatten := by
  intro n
  induction n with
  | zero => simp
  | succ n ih =>
    rw [Nat.add_mul, Nat.one_mul, List.range_add, List.map_append, ih, List.replicate_succ', List.flatten_append]
    congr 1
    simp only [List.map_map, List.flatten_cons, List.flatten_nil, List.append_nil]
    apply List.ext_getElem?
    intro i
    simp only [List.getElem?_map, Array.getElem?_toList]
    by_cases hi : i < zs.size
    · rw [List.getElem?_range hi]
      simp only [Option.map_some, Function.comp_apply]
      rw [Nat.mul_comm n, Nat.mul_add_mod, Nat.mod_eq_of_lt hi, Array.getElem?_eq_getElem hi]
      simp [hi]
    · rw [List.getElem?_eq_none (by simp; omega), Array.getElem?_eq_none (by omega)]; rfl
theorem zeroCells_list (zs : Array Value) (n : Nat) : (Builtin.zeroCells zs n).toList = (List.replicate n zs.toList).flatten := by
  rw [← range_mod]; simp [Builtin.zeroCells]
theorem map_flatten_replicate (l : List Value) : ∀ n : Nat, (List.replicate n (l.map AV.sc)).flatten = ((List.replicate n l).flatten).map AV.sc := by
  intro n
  induction n with
  | zero => rfl
  | succ n ih => rw [List.replicate_succ, List.replicate_succ, List.flatten_cons, List.flatten_cons, List.map_append, ih]

theorem asN_ok {P : Program} {g : Gh} {w w' : World} {a : AV} {v : Value} {i : Int} (ha : Rel g w a v) (h : asN a = some i) : (asInt v).run P w' = .ok i w' := by
  cases ha with
  | sc =>
    simp only [asN, AV.int, AV.exact, Option.bind_some] at h
    cases v with
    | int k n => simp [intOf] at h; subst h; simp [asInt, asIntOf]
    | _ => simp [intOf] at h
  | _ => simp [asN, AV.int, AV.exact] at h

def IsInt (P : Program) (u : TypeId) : Prop := ∃ k, P.underlying u = some (.int k)
def Zeros (P : Program) (e : TypeId) (sz : Nat) (x : Value) (n : Nat) (news : List Value) : Prop :=
  ∃ z, zeroT P e = some z ∧ z.cells.size = sz ∧ news = (Builtin.zeroCells z.cells n).toList ∧ n ≤ 1073741824 ∧ ∀ w : World, (asInt x).run P w = .ok (n : Int) w

theorem Zeros.length {P : Program} {e : TypeId} {sz : Nat} {x : Value} {n : Nat} {news : List Value} (h : Zeros P e sz x n news) : news.length = n * sz := by
  obtain ⟨z, _, h2, h3, _⟩ := h
  rw [h3, Array.length_toList, size_zeroCells, h2]

theorem run_append_room0 {P : Program} {w : World} {t u ty e : TypeId} {sz bytes : Nat} {x : Value} {n : Nat} {news : List Value} (ht : P.underlying t = some (.slice e)) (hu : IsInt P u) (hsz : sizeT P e = some sz)
    (hx : Zeros P e sz x n news) {b p sLen sCap : Nat} {cs : Array Value} {fr : Nat × Nat} (hb : w.heap[b]? = some (.cells cs e fr)) (hroom : sLen + n ≤ sCap) (hfit : p + sLen * sz + news.length ≤ cs.size)
    (hfr : ∀ j, p + sLen * sz ≤ j → j < p + sLen * sz + news.length → ¬ (fr.1 ≤ j ∧ j < fr.2)) (h1 : ∀ v ∈ news, v.oneCell' = true) (hby : bytesT P e = some bytes) (hfit' : (sLen + n) * bytes ≤ 140737488355328) :
    (Builtin.append_ #[t, u] ty #[.slice (some ⟨b, p, none⟩) sLen sCap, x]).run P w = .ok (.slice (some ⟨b, p, none⟩) (sLen + n) sCap) (putB w b (.cells (splice cs (p + sLen * sz) news) e fr)) := by
  obtain ⟨k, hd⟩ := hu
  have hl := hx.length
  obtain ⟨z, hz, hzs, hn, hlim, hrun⟩ := hx
  obtain ⟨i, hi, hb'⟩ : ∃ i, P.info? e = some i ∧ i.bytes = bytes := by simpa [bytesT, Option.map_eq_some_iff] using hby
  subst hb'
  have hst := run_storeCells P b (p + sLen * sz) e fr news 0 cs w hb (by simpa using hfit) (by simpa using hfr) h1
  simp only [Nat.add_zero] at hst
  have hw : IntKind.i64.wrap (n : Int) = n := wrapI (by omega) (by omega)
  have h0 : ¬ ((n : Int) < 0) := by omega
  have hti : ∀ w', (typeInfo e).run P w' = .ok i w' := fun w' => run_typeInfo hi w'
  have hzv : ∀ w', (zeroValue e).run P w' = .ok z w' := fun w' => run_zeroValue hz w'
  have hbig : ¬ ((n : Int) * i.bytes > 281474976710656) := by
    have : n * i.bytes ≤ (sLen + n) * i.bytes := Nat.mul_le_mul_right _ (by omega)
    have e1 : (n : Int) * i.bytes = ((n * i.bytes : Nat) : Int) := by simp
    omega
  have hnews : news.toArray = if n * sz = 0 then #[] else Builtin.zeroCells z.cells n := by
    rw [hn, Array.toArray_toList]
    split
    · rename_i h; apply Array.eq_empty_of_size_eq_zero; rw [size_zeroCells, hzs]; exact h
    · rfl
  by_cases hnz : n * sz = 0
  · have : news = [] := List.eq_nil_of_length_eq_zero (by omega)
    subst this
    simp only [splice_nil] at hst ⊢
    simp [Builtin.append_, run_underlying ht, run_underlying hd, run_sizeOf hsz, hrun, hw, h0, hroom, hti, hbig, hnz, hst, Addr.add_at]
  · rw [if_neg hnz] at hnews
    have : (Builtin.zeroCells z.cells n).toList = news := hn.symm
    simp [Builtin.append_, run_underlying ht, run_underlying hd, run_sizeOf hsz, hrun, hw, h0, hroom, hti, hbig, hnz, hzv, this, hst, Addr.add_at]

theorem run_append_grow0 {P : Program} {w : World} {t u ty e : TypeId} {sz bytes : Nat} {z : Value} {x : Value} {n : Nat} {news olds : List Value} (ht : P.underlying t = some (.slice e)) (hu : IsInt P u) (hsz : sizeT P e = some sz)
    (hby : bytesT P e = some bytes) (hz : zeroT P e = some z) (hx : Zeros P e sz x n news) {base : Option Addr} {sLen sCap : Nat} (hs : Src P w sz (.slice base sLen sCap) sLen olds)
    (hroom : sCap < sLen + n) (hmax : sLen + n ≤ 9223372036854775807) (hfit : (sLen + n) * bytes ≤ 140737488355328) :
    ∃ cap, sLen + n ≤ cap ∧ cap ≤ maxLen ∧ (Builtin.append_ #[t, u] ty #[.slice base sLen sCap, x]).run P w =
      .ok (.slice (some ⟨w.heap.size, 0, none⟩) (sLen + n) cap) (w.drew.alloc (.cells (olds.toArray ++ news.toArray ++ Builtin.zeroCells z.cells (cap - (sLen + n))) e)) := by
  obtain ⟨k, hd⟩ := hu
  obtain ⟨z', hz', hzs, hn, hlim, hrun⟩ := hx
  rw [hz] at hz'; cases hz'
  have hl' := hs.1
  have hrun' := hs.run
  obtain ⟨_, r3⟩ := hrun' w.drew rfl
  obtain ⟨i, hi, hb⟩ : ∃ i, P.info? e = some i ∧ i.bytes = bytes := by simpa [bytesT, Option.map_eq_some_iff] using hby
  have hcap := growslice_fits hroom hfit
  have hti : ∀ w', (typeInfo e).run P w' = .ok i w' := fun w' => run_typeInfo hi w'
  have hzv : (zeroValue e).run P w.drew = .ok z w.drew := run_zeroValue hz _
  refine ⟨grownCap w (sLen + n) sCap e, grownCap_ge w _ _ _, grownCap_le_maxLen w _ _ _ (by simp only [maxLen]; omega), ?_⟩
  subst hb
  have hno : ¬ (sLen + n ≤ sCap) := by omega
  have hmx : ¬ ((sLen : Int) + n > 9223372036854775807) := by omega
  have hcap' : ¬ (Builtin.nextslicecap (sLen + n) sCap * i.bytes > 281474976710656) := by omega
  have hw : IntKind.i64.wrap (n : Int) = n := wrapI (by omega) (by omega)
  have h0 : ¬ ((n : Int) < 0) := by omega
  have hbig : ¬ ((n : Int) * i.bytes > 281474976710656) := by
    have : n * i.bytes ≤ (sLen + n) * i.bytes := Nat.mul_le_mul_right _ (by omega)
    have e1 : (n : Int) * i.bytes = ((n * i.bytes : Nat) : Int) := by simp
    omega
  have hnews : news.toArray = if n * sz = 0 then #[] else Builtin.zeroCells z.cells n := by
    rw [hn, Array.toArray_toList]
    split
    · rename_i h; apply Array.eq_empty_of_size_eq_zero; rw [size_zeroCells, hzs]; exact h
    · rfl
  by_cases hnz : n * sz = 0
  · rw [if_pos hnz] at hnews
    have h3 : news = [] := by simpa using congrArg Array.toList hnews
    subst h3
    simp [Builtin.append_, run_underlying ht, run_underlying hd, run_sizeOf hsz, hrun, hw, h0, hno, hti, hmx, hcap', Question.forced, hbig, hnz, r3, hzv, newRow, grownCap]
  · rw [if_neg hnz] at hnews
    simp [Builtin.append_, run_underlying ht, run_underlying hd, run_sizeOf hsz, hrun, hw, h0, hno, hti, hmx, hcap', Question.forced, hbig, hnz, r3, hzv, newRow, grownCap]
    rw [hn]
    congr 2
    apply Array.ext'
    simp

end Go.Vm
