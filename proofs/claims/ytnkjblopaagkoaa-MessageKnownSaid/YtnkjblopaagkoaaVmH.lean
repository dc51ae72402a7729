/- append and copy, whole. No condition. -/
import Derived.Test.YtnkjblopaagkoaaVmG
namespace Go.Vm

theorem grown_ok {P : Program} {g : Gh} {st st' : St} {w : World} {t u ty e : TypeId} {sz bytes : Nat} {z x : Value} {n : Nat} {new : List AV} {news : List Value} {r : AV}
    (hok : Ok g st.h w) (hf : Free g st st') (ht : P.underlying t = some (.slice e)) (hsz : sizeT P e = some sz) (hby : bytesT P e = some bytes) (hz : zeroT P e = some z) (hzs : z.cells.size = sz) (hz0 : 0 < sz) (hb0 : 0 < bytes)
    (hx : Feed P w u e sz x n news) (hl : RelL g w new news) (hne : new.isEmpty = false) {base : Option Addr} (hfit : new.length * bytes ≤ 140737488355328)
    (h : newRowOf e sz (new.length / sz) new st = some (r, st')) : Does P g st w (Builtin.append_ #[t, u] ty #[.slice base 0 0, x]) r st' := by
  obtain ⟨id, s1, h1, h2⟩ := bind_some h
  obtain ⟨rfl, e2⟩ := pure_some h2
  subst e2
  have hln : new.length = n * sz := by rw [← hl.1, hx.length]
  have hn : new.length / sz = n := by rw [hln]; exact Nat.mul_div_cancel _ hz0
  have hn0 : 0 < n := by
    rcases Nat.eq_zero_or_pos n with h0 | h0
    · subst h0; simp at hln; simp [hln] at hne
    · exact h0
  rw [hn]
  have := grow_ok (ty := ty) (s := 0) (by decide) (oldc := []) (olds := []) (base := base) (sLen := 0) (sCap := 0) hok hf ht hsz hby hz hzs hb0 hx hl (Src.nil (fun w' => by simp [Builtin.lenOf]) (fun w' => by cases base <;> simp [Builtin.firstCells, loadCells, loadCellsFrom])) (RelL.nil _ _) (by omega)
    (by rw [hln] at hfit; have : n * 1 * bytes ≤ n * sz * bytes := Nat.mul_le_mul_right _ (Nat.mul_le_mul_left _ hz0); simp at this; rw [Nat.zero_add]; omega) (by simpa using h1)
  simpa using this

theorem feed_zero {P : Program} {w : World} {u e : TypeId} {sz n : Nat} {x : Value} {new : List AV} {news : List Value} {g : Gh} (hz0 : 0 < sz) (hx : Feed P w u e sz x n news) (hl : RelL g w new news) (he : new.isEmpty = true) : n = 0 ∧ news = [] := by
  have h1 : new = [] := by simpa using he
  subst h1
  have h2 : news = [] := List.eq_nil_of_length_eq_zero hl.1
  have h3 := hx.length
  rw [h2] at h3
  refine ⟨?_, h2⟩
  rcases Nat.eq_zero_or_pos n with h | h
  · exact h
  · have := Nat.mul_pos h hz0; simp at h3; omega

theorem appendObj_inv {e : TypeId} {sz bytes o off len : Nat} {new : List AV} {y : AObj} {s1 st' : St} {r : AV} (h : appendObj e sz bytes o off len new y s1 = some (r, st')) :
    ∃ cells k s, y = .row cells k s e ∧ new.all AV.one = true ∧ off + len * sz ≤ cells.length ∧ (len * sz + new.length) * bytes ≤ 140737488355328 ∧
      ((new.isEmpty = true ∧ r = .sl o off len sz ∧ st' = s1) ∨
       (k ≤ off + len * sz ∧ ∃ s2 id, hdel o s1 = some ((), s2) ∧ hnew (.row ((cells.take (off + len * sz)).drop off ++ new) (k - off) (part' s) e) s2 = some (id, st') ∧ r = .sl id 0 (len + new.length / sz) sz)) := by
  cases y with
  | map es => cases h
  | loop => cases h
  | row cells k s et =>
    rcases cond_some h with ⟨hc, h1⟩ | ⟨_, h1⟩
    case inr => cases h1
    simp only [Bool.and_eq_true] at hc
    obtain ⟨⟨⟨c1, c2⟩, c3⟩, c4⟩ := hc
    have c1 := Nat.eq_of_beq_eq_true c1
    subst c1
    refine ⟨cells, k, s, rfl, c2, Nat.le_of_ble_eq_true c3, Nat.le_of_ble_eq_true c4, ?_⟩
    rcases cond_some h1 with ⟨hk, h2⟩ | ⟨_, h2⟩
    · obtain ⟨u, s2, hd, h4⟩ := bind_some h2
      obtain ⟨id, s3, hn, h5⟩ := bind_some h4
      obtain ⟨rfl, rfl⟩ := pure_some h5
      exact .inr ⟨Nat.le_of_ble_eq_true hk, s2, id, hd, hn, rfl⟩
    · rcases cond_some h2 with ⟨he, h3⟩ | ⟨_, h3⟩
      case inr => cases h3
      obtain ⟨rfl, rfl⟩ := pure_some h3
      exact .inl ⟨he, rfl, rfl⟩

theorem alias_zero {P : Program} {g : Gh} {st s1 s2 st' : St} {w : World} {e : TypeId} {sz id o off k s : Nat} {new cells : List AV} {a : Value} {S : Sem Value} (hok : Ok g st.h w) (hf : Free g st st') (ho : st.h.get o = some (.row cells k s e)) (hle : off + 0 * sz ≤ cells.length) (hs1 : s1.h = st.h ∧ s1.nx = st.nx)
    (hd : hdel o s1 = some ((), s2)) (h : hnew (.row ((cells.take (off + 0 * sz)).drop off ++ new) (k - off) (part' s) e) s2 = some (id, st')) (hrun : S.run P w = .ok a w) (hne : new = []) (ha : ∀ g' id, Rel g' w (.sl id 0 0 sz) a) :
    Does P g st w S (.sl id 0 (0 + new.length / sz) sz) st' := by
  subst hne
  obtain ⟨_, hlo, hdh, hdn⟩ := hdel_some hd
  obtain ⟨rfl, hlim, hnh, hnn⟩ := hnew_some h
  have hid : g.inj s2.nx = none := hf s2.nx (by omega) (by omega)
  have hz : (cells.take (off + 0 * sz)).drop off ++ ([] : List AV) = [] := by simp
  rcases hok.obj' o _ ho with ⟨hi, st0, et0, hgh⟩ | ⟨b, base, hi, _, hrel⟩
  · simp only [AObj.row.injEq] at hgh
    obtain ⟨rfl, rfl, rfl, rfl⟩ := hgh
    have hdr := drop_step (lo := st.nx) (hi := st.nx) hok hlo
    have hnw := ghost_step (id := s2.nx) (lo := st.nx) (hi := st'.nx) (x := .row ((([] : List AV).take (off + 0 * sz)).drop off ++ []) (0 - off) (part' s) e) hdr.2 hid hlim ⟨part' s, e, by simp⟩
    have hh : st'.h = (st.h.set depth o none).set depth s2.nx (some (.row ((([] : List AV).take (off + 0 * sz)).drop off ++ []) (0 - off) (part' s) e)) := by rw [hnh, hdh, hs1.1]
    refine ⟨_, w, _, hrun, ?_, by rw [hh]; exact hnw.2, ?_⟩
    · rw [hh]; exact Step.trans hdr.1 hnw.1 (Nat.le_refl _) (by omega)
    · simp only [List.length_nil, Nat.zero_div, Nat.add_zero]
      exact ha _ _
  obtain ⟨cs, fr, o1, o2, o3, o4, o5, o6⟩ := hrel
  have hre := realias_step (id := s2.nx) (base' := base + off) (x' := .row ((cells.take (off + 0 * sz)).drop off ++ []) (k - off) (part' s) e) hok ho hi hid hlo hlim
    (fun hext => ⟨cs, fr, o1, by rw [hz]; simp at hle ⊢; omega, fun j a hj => by rw [hz] at hj; simp at hj, fun j h1 h2 => o4 j (by omega) h2, fun j hj => by have := o5 j hj; omega, fun e1 => o6.1 (part_ne e1), fun e2 => absurd e2 (part_ne2 s)⟩)
  have hh : st'.h = (st.h.set depth o none).set depth s2.nx (some (.row ((cells.take (off + 0 * sz)).drop off ++ []) (k - off) (part' s) e)) := by rw [hnh, hdh, hs1.1]
  refine ⟨_, w, _, hrun, ?_, by rw [hh]; exact hre.2, ?_⟩
  · rw [hh]
    have := hre.1
    exact this.widen (by omega) (by omega)
  · simp only [List.length_nil, Nat.zero_div, Nat.add_zero]
    exact ha _ _
theorem aappend_ok {P : Program} {g : Gh} {st st' : St} {w : World} {t u ty e : TypeId} {sz bytes : Nat} {z v x : Value} {n : Nat} {s : AV} {new : List AV} {news : List Value} {r : AV}
    (hok : Ok g st.h w) (hf : Free g st st') (ht : P.underlying t = some (.slice e)) (hsz : sizeT P e = some sz) (hby : bytesT P e = some bytes) (hz : zeroT P e = some z) (hzs : z.cells.size = sz) (hz0 : 0 < sz) (hb0 : 0 < bytes)
    (hs : Rel g w s v) (hx : Feed P w u e sz x n news) (hl : RelL g w new news)
    (h : aappend e sz bytes s new st = some (r, st')) : Does P g st w (Builtin.append_ #[t, u] ty #[v, x]) r st' := by
  cases hs with
  | sc =>
    cases v with
    | slice b m c =>
      cases b with
      | some b => cases h
      | none =>
        cases m with
        | succ m => cases h
        | zero =>
          cases c with
          | succ c => cases h
          | zero =>
            rcases cond_some h with ⟨he, h1⟩ | ⟨he, h1⟩
            · obtain ⟨rfl, rfl⟩ := pure_some h1
              obtain ⟨rfl, rfl⟩ := feed_zero hz0 hx hl he
              exact Does.still hok rfl (run_append_none ht hsz hx (Nat.le_refl _)) (.sc _)
            · rcases cond_some h1 with ⟨hfit, h2⟩ | ⟨_, h2⟩
              case inr => cases h2
              exact grown_ok hok hf ht hsz hby hz hzs hz0 hb0 hx hl he (Nat.le_of_ble_eq_true hfit) h2
    | _ => cases h
  | ez b =>
    rcases cond_some h with ⟨he, h1⟩ | ⟨he, h1⟩
    · obtain ⟨rfl, rfl⟩ := pure_some h1
      obtain ⟨rfl, rfl⟩ := feed_zero hz0 hx hl he
      exact Does.still hok rfl (run_append_none ht hsz hx (Nat.le_refl _)) (.ez _)
    · rcases cond_some h1 with ⟨hfit, h2⟩ | ⟨_, h2⟩
      case inr => cases h2
      exact grown_ok hok hf ht hsz hby hz hzs hz0 hb0 hx hl he (Nat.le_of_ble_eq_true hfit) h2
  | vl loc sz' es b off cap c hsz' hll hcap hc hr =>
    rcases cond_some h with ⟨he, h1⟩ | ⟨he, h1⟩
    case inr => cases h1
    obtain ⟨rfl, rfl⟩ := pure_some h1
    obtain ⟨rfl, rfl⟩ := feed_zero hz0 hx hl he
    exact Does.still hok rfl (run_append_none ht hsz hx hcap) (.vl loc sz' es b off cap c hsz' hll hcap hc hr)
  | vlnil loc sz' =>
    rcases cond_some h with ⟨he, h1⟩ | ⟨he, h1⟩
    case inr => cases h1
    obtain ⟨rfl, rfl⟩ := pure_some h1
    obtain ⟨rfl, rfl⟩ := feed_zero hz0 hx hl he
    exact Does.still hok rfl (run_append_none ht hsz hx (Nat.le_refl _)) (.vlnil _ _)
  | vlz loc sz' a =>
    rcases cond_some h with ⟨he, h1⟩ | ⟨he, h1⟩
    case inr => cases h1
    obtain ⟨rfl, rfl⟩ := pure_some h1
    obtain ⟨rfl, rfl⟩ := feed_zero hz0 hx hl he
    exact Does.still hok rfl (run_append_none ht hsz hx (Nat.le_refl _)) (.vlz _ _ a)
  | slz o off sz' a =>
    rcases cond_some h with ⟨hq, h1⟩ | ⟨_, h1⟩
    case inr => cases h1
    have hq' := Nat.eq_of_beq_eq_true hq
    subst hq'
    obtain ⟨y, s1, hy, h2⟩ := bind_some h1
    obtain ⟨hy1, hh, hn⟩ := hget_some hy
    obtain ⟨cells, k, s, rfl, hone, hle, hfit, hcase⟩ := appendObj_inv h2
    rcases hcase with ⟨he, rfl, rfl⟩ | ⟨hk, s2, id, hd, hnw, rfl⟩
    · obtain ⟨rfl, rfl⟩ := feed_zero hz0 hx hl he
      exact Does.still hok hh (run_append_none ht hsz hx (Nat.le_refl _)) (.slz o off sz a)
    cases he : new.isEmpty with
    | true =>
      obtain ⟨rfl, rfl⟩ := feed_zero hz0 hx hl he
      exact alias_zero hok hf hy1 hle ⟨hh, hn⟩ hd hnw (run_append_none ht hsz hx (Nat.le_refl _)) (by simpa using he) (fun _ _ => .slz _ _ _ _)
    | false =>
      obtain ⟨_, hlim, hdh, hdn⟩ := hdel_some hd
      obtain ⟨hds, hdo⟩ := drop_step (lo := st.nx) (hi := st.nx) hok hlim
      have hln : new.length = n * sz := by rw [← hl.1, hx.length]
      have hnn : new.length / sz = n := by rw [hln]; exact Nat.mul_div_cancel _ hz0
      have hn0 : 0 < n := by
        rcases Nat.eq_zero_or_pos n with h0 | h0
        · subst h0; simp at hln; simp [hln] at he
        · exact h0
      have hnx : s2.nx = st.nx := by omega
      have hs2 : s2.h = st.h.set depth o none := by rw [hdh, hh]
      have hz' : (cells.take (off + 0 * sz)).drop off = [] := by simp
      rw [hz'] at hnw
      obtain ⟨v', w', g', q1, q2, q3, q4⟩ := grow_ok (P := P) (st := s2) (ty := ty) (part_ne2 _) (oldc := []) (olds := []) (base := some a) (sLen := 0) (sCap := 0) (by rw [hs2]; exact hdo) (fun p p1 p2 => hf p (by omega) p2) ht hsz hby hz hzs hb0 hx hl (Src.nil (fun w' => by simp [Builtin.lenOf]) (fun w' => by simp [Builtin.firstCells, loadCells, loadCellsFrom])) (RelL.nil _ _) (by omega)
        (by rw [hln] at hfit; have : n * 1 * bytes ≤ n * sz * bytes := Nat.mul_le_mul_right _ (Nat.mul_le_mul_left _ hz0); simp at this hfit; rw [Nat.zero_add]; omega) hnw
      rw [hs2, hnx] at q2
      refine ⟨v', w', g', q1, Step.trans hds q2 (Nat.le_refl _) ?_, q3, by rw [hnn]; exact q4⟩
      have := (hnew_some hnw).2.2.2; omega
  | sln o off sz' =>
    rcases cond_some h with ⟨hq, h1⟩ | ⟨_, h1⟩
    case inr => cases h1
    have hq' := Nat.eq_of_beq_eq_true hq
    subst hq'
    obtain ⟨y, s1, hy, h2⟩ := bind_some h1
    obtain ⟨hy1, hh, hn⟩ := hget_some hy
    obtain ⟨cells, k, s, rfl, hone, hle, hfit, hcase⟩ := appendObj_inv h2
    rcases hcase with ⟨he, rfl, rfl⟩ | ⟨hk, s2, id, hd, hnw, rfl⟩
    · obtain ⟨rfl, rfl⟩ := feed_zero hz0 hx hl he
      exact Does.still hok hh (run_append_none ht hsz hx (Nat.le_refl _)) (.sln o off sz)
    cases he : new.isEmpty with
    | true =>
      obtain ⟨rfl, rfl⟩ := feed_zero hz0 hx hl he
      exact alias_zero hok hf hy1 hle ⟨hh, hn⟩ hd hnw (run_append_none ht hsz hx (Nat.le_refl _)) (by simpa using he) (fun _ _ => .sln _ _ _)
    | false =>
      obtain ⟨_, hlim, hdh, hdn⟩ := hdel_some hd
      obtain ⟨hds, hdo⟩ := drop_step (lo := st.nx) (hi := st.nx) hok hlim
      have hln : new.length = n * sz := by rw [← hl.1, hx.length]
      have hnn : new.length / sz = n := by rw [hln]; exact Nat.mul_div_cancel _ hz0
      have hn0 : 0 < n := by
        rcases Nat.eq_zero_or_pos n with h0 | h0
        · subst h0; simp at hln; simp [hln] at he
        · exact h0
      have hnx : s2.nx = st.nx := by omega
      have hs2 : s2.h = st.h.set depth o none := by rw [hdh, hh]
      have hz' : (cells.take (off + 0 * sz)).drop off = [] := by simp
      rw [hz'] at hnw
      obtain ⟨v', w', g', q1, q2, q3, q4⟩ := grow_ok (P := P) (st := s2) (ty := ty) (part_ne2 _) (oldc := []) (olds := []) (base := none) (sLen := 0) (sCap := 0) (by rw [hs2]; exact hdo) (fun p p1 p2 => hf p (by omega) p2) ht hsz hby hz hzs hb0 hx hl (Src.nil (fun w' => by simp [Builtin.lenOf]) (fun w' => by simp [Builtin.firstCells, loadCells, loadCellsFrom])) (RelL.nil _ _) (by omega)
        (by rw [hln] at hfit; have : n * 1 * bytes ≤ n * sz * bytes := Nat.mul_le_mul_right _ (Nat.mul_le_mul_left _ hz0); simp at this hfit; rw [Nat.zero_add]; omega) hnw
      rw [hs2, hnx] at q2
      refine ⟨v', w', g', q1, Step.trans hds q2 (Nat.le_refl _) ?_, q3, by rw [hnn]; exact q4⟩
      have := (hnew_some hnw).2.2.2; omega
  | sl o off len sz' b base cap hi hcap hm hr =>
    rcases cond_some h with ⟨hq, h1⟩ | ⟨_, h1⟩
    case inr => cases h1
    have hq' := Nat.eq_of_beq_eq_true hq
    subst hq'
    obtain ⟨y, s1, hy, h2⟩ := bind_some h1
    obtain ⟨hy1, hh, hn⟩ := hget_some hy
    obtain ⟨cells, k, s, rfl, hone, hle, hfit, hcase⟩ := appendObj_inv h2
    rcases hcase with ⟨he, rfl, rfl⟩ | ⟨hk, s2, id, hd, hnw, rfl⟩
    · obtain ⟨rfl, rfl⟩ := feed_zero hz0 hx hl he
      exact Does.still hok hh (run_append_none ht hsz hx hcap) (.sl o off len sz b base cap hi hcap hm hr)
    · have hln : new.length = n * sz := by rw [← hl.1, hx.length]
      have hnn : new.length / sz = n := by rw [hln]; exact Nat.mul_div_cancel _ hz0
      rw [hnn]
      have hfit' : (len + n) * bytes ≤ 140737488355328 := by
        rw [hln, ← Nat.add_mul] at hfit
        have : (len + n) * 1 * bytes ≤ (len + n) * sz * bytes := Nat.mul_le_mul_right _ (Nat.mul_le_mul_left _ hz0)
        simp at this; omega
      by_cases hroom : len + n ≤ cap
      · exact room_ok hok hf ht hsz hby hx hl hi hm hr hy1 hle hk (all_one hl hone) hroom hfit' hd ⟨hh, hn⟩ hnw
      · obtain ⟨_, hlim, hdh, hdn⟩ := hdel_some hd
        obtain ⟨hds, hdo⟩ := drop_step (lo := st.nx) (hi := st.nx) hok hlim
        have hnx : s2.nx = st.nx := by omega
        have hs2 : s2.h = st.h.set depth o none := by rw [hdh, hh]
        obtain ⟨b', base', hi', _, hrel⟩ := hok.obj o _ hy1
        rw [hi] at hi'; cases hi'
        obtain ⟨olds, ho1, ho2⟩ := slice_src P (cap := cap) (len := len) (sz := sz) hrel hle
        have e1 : (cells.take (off + len * sz)).drop off = (cells.drop off).take (len * sz) := by rw [List.drop_take]; congr 1; omega
        rw [e1] at hnw
        obtain ⟨v', w', g', q1, q2, q3, q4⟩ := grow_ok (P := P) (st := s2) (ty := ty) (part_ne2 _) (by rw [hs2]; exact hdo) (fun p p1 p2 => hf p (by omega) p2) ht hsz hby hz hzs hb0 hx hl ho1 ho2 (by omega) hfit' hnw
        rw [hs2, hnx] at q2
        refine ⟨v', w', g', q1, Step.trans hds q2 (Nat.le_refl _) ?_, q3, q4⟩
        have := (hnew_some hnw).2.2.2; omega
  | _ => cases h

theorem append_types {ts : Array TypeId} {t u ty : TypeId} {s x : Value} (h0 : ts[0]? = some t) (h1 : ts[1]? = some u) : Builtin.append_ ts ty #[s, x] = Builtin.append_ #[t, u] ty #[s, x] := by
  simp [Builtin.append_, h0, h1]

theorem opAppend_ok {P : Program} {g : Gh} {st st' : St} {w : World} {ts : Array TypeId} {ty : TypeId} {s x r : AV} {v y : Value} (hok : Ok g st.h w) (hf : Free g st st') (hs : Rel g w s v) (hx : Rel g w x y)
    (h : opAppend P ts[0]? ((ts[1]?).bind P.underlying) s x st = some (r, st')) : Does P g st w (Builtin.append_ ts ty #[v, y]) r st' := by
  unfold opAppend at h
  cases h0 : ts[0]? with
  | none => simp [h0, M.fail] at h
  | some t =>
  rw [h0] at h
  simp only [Option.bind_some] at h
  cases he : elemT P t with
  | none => simp [he, M.fail] at h
  | some e =>
  rw [he] at h
  cases hsz : sizeT P e with
  | none => simp [hsz, M.fail] at h
  | some sz =>
  cases hby : bytesT P e with
  | none => simp [hsz, hby, M.fail] at h
  | some bytes =>
  cases hz : zeroT P e with
  | none => simp [hsz, hby, hz, M.fail] at h
  | some z =>
  simp only [hsz, hby, hz] at h
  rcases cond_some h with ⟨hc, h2⟩ | ⟨_, h2⟩
  case inr => cases h2
  simp only [Bool.and_eq_true] at hc
  obtain ⟨⟨c1, c2⟩, c3⟩ := hc
  have c1 : 0 < sz := Nat.le_of_ble_eq_true c1
  have c2 : 0 < bytes := Nat.le_of_ble_eq_true c2
  have c3 := Nat.eq_of_beq_eq_true c3
  cases hu : (ts[1]?).bind P.underlying with
  | none => simp [hu, M.fail] at h2
  | some d =>
  rw [hu] at h2
  obtain ⟨u, h1, hd⟩ := Option.bind_eq_some_iff.1 hu
  rw [append_types h0 h1]
  have cellsCase : ∀ d', P.underlying u = some d' → (∀ k, d' ≠ .int k) → (cellsIn sz x).bind (aappend e sz bytes s) st = some (r, st') → Does P g st w (Builtin.append_ #[t, u] ty #[v, y]) r st' := by
    intro d' hd hk h3
    obtain ⟨new, s1, h4, h5⟩ := bind_some h3
    obtain ⟨hh, hn, n, news, hsrc, hrl⟩ := cellsIn_ok (P := P) hok hx h4
    have := aappend_ok (P := P) (st := s1) (u := u) (ty := ty) (by rw [hh]; exact hok) (fun p p1 p2 => hf p (by omega) p2) (elem_of he) hsz hby hz c3 c1 c2 hs (.inl ⟨⟨d', hd, hk⟩, hsrc⟩) hrl h5
    obtain ⟨v', w', g', q1, q2, q3, q4⟩ := this
    exact ⟨v', w', g', q1, by rw [hh, hn] at q2; exact q2, q3, q4⟩
  cases d with
  | slice e' => exact cellsCase _ hd (by intro k hk; cases hk) h2
  | string => exact cellsCase _ hd (by intro k hk; cases hk) h2
  | int k =>
    simp only [zerosOf, hz] at h2
    cases ha : asN x with
    | none => simp [ha, M.fail] at h2
    | some i =>
    simp only [ha] at h2
    cases hcc : (decide (0 ≤ i) && decide (i ≤ 1073741824) && Nat.beq z.cells.size sz) with
    | false => simp [hcc, M.fail] at h2
    | true =>
    simp only [hcc, cond_true] at h2
    simp only [Bool.and_eq_true, decide_eq_true_eq] at hcc
    obtain ⟨⟨i0, i1⟩, _⟩ := hcc
    refine aappend_ok hok hf (elem_of he) hsz hby hz c3 c1 c2 hs (n := i.toNat) (news := (Builtin.zeroCells z.cells i.toNat).toList) (.inr ⟨⟨k, hd⟩, z, hz, c3, rfl, by omega, fun w' => ?_⟩) ?_ h2
    · have := asN_ok (P := P) (w' := w') hx ha
      rw [this]; congr 1; omega
    · rw [map_flatten_replicate, zeroCells_list]
      exact RelL.scs g w _
  | _ => simp [M.fail] at h2

end Go.Vm
