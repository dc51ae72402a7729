/- Map updates; then all operations that call nothing. No condition. -/
import Derived.Test.YtkjdgfmphjmhmacGreatVmQ
namespace Go.Vm

theorem setAt_get {α : Type} (l : List α) (i : Nat) (x : α) (hi : i < l.length) (j : Nat) : (setAt l i x)[j]? = if j = i then some x else l[j]? := by
  unfold setAt
  have hl : (l.take i).length = i := by simp; omega
  by_cases h1 : j < i
  · rw [List.getElem?_append_left (by omega), List.getElem?_take, if_pos h1, if_neg (by omega)]
  · rw [List.getElem?_append_right (by omega), hl]
    by_cases h2 : j = i
    · subst h2; simp
    · rw [if_neg h2, show j - i = (j - i - 1) + 1 from by omega, List.getElem?_cons_succ, List.getElem?_drop]
      congr 1; omega
theorem setAt_length {α : Type} (l : List α) (i : Nat) (x : α) (hi : i < l.length) : (setAt l i x).length = l.length := by
  unfold setAt; simp; omega

theorem updateObj_inv {P : Program} {id : Nat} {kt : TypeId} {key : Value} {v : AV} {x : AObj} {s st' : St} {r : AV} (h : updateObj P id kt key v x s = some (r, st')) :
    ∃ es, x = .map es ∧ ev P (Instr.checkKey false 10000 kt key) = some () ∧ r = .sc undef ∧
      ((∃ i e key' u, findK P kt key es = some (some i) ∧ es[i]? = some e ∧ ev P (Instr.keyThatStays e.1 key) = some key' ∧ hset id (.map (setAt es i (key', v))) s = some (u, st')) ∨
       (∃ u, findK P kt key es = some none ∧ hset id (.map (es ++ [(key, v)])) s = some (u, st'))) := by
  cases x with
  | row => cases h
  | loop => cases h
  | map es =>
    refine ⟨es, rfl, ?_⟩
    simp only [updateObj] at h
    cases hc : ev P (Instr.checkKey false 10000 kt key) with
    | none => simp [hc, M.fail] at h
    | some u =>
    cases hf : findK P kt key es with
    | none => simp [hc, hf, M.fail] at h
    | some q =>
    refine ⟨rfl, ?_⟩
    cases q with
    | none =>
      simp only [hc, hf] at h
      obtain ⟨u, s1, h1, h2⟩ := bind_some h
      obtain ⟨rfl, rfl⟩ := pure_some h2
      exact ⟨rfl, .inr ⟨u, rfl, h1⟩⟩
    | some i =>
      simp only [hc, hf] at h
      cases he : es[i]? with
      | none => simp [he, M.fail] at h
      | some e =>
      simp only [he] at h
      cases hk : ev P (Instr.keyThatStays e.1 key) with
      | none => simp [hk, M.fail] at h
      | some key' =>
      simp only [hk] at h
      obtain ⟨u, s1, h1, h2⟩ := bind_some h
      obtain ⟨rfl, rfl⟩ := pure_some h2
      exact ⟨rfl, .inl ⟨i, e, key', u, rfl, he, hk, h1⟩⟩

theorem opUpdate_ok {P : Program} {g st st' w} {t : TypeId} {m k x r : AV} {mv kv xv : Value} (hok : Ok g st.h w) (hm : Rel g w m mv) (hk : Rel g w k kv) (hx : Rel g w x xv) (h : opUpdate P t m k x st = some (r, st')) :
    ∃ w' g', (Instr.mapUpdate t mv kv xv).run P w = .ok () w' ∧ Step g st.h w st.nx st'.nx g' st'.h w' ∧ Ok g' st'.h w' ∧ r = .sc undef := by
  unfold opUpdate at h
  cases hu : P.underlying t with
  | none => simp [hu, M.fail] at h
  | some d =>
  rw [hu] at h
  cases d with
  | map kt et =>
    cases m with
    | mp id =>
      cases hkv : k.toV with
      | none => simp [hkv, M.fail] at h
      | some key =>
      simp only [hkv] at h
      have := hk.exact hkv
      subst this
      obtain ⟨y, s1, h1, h2⟩ := bind_some h
      obtain ⟨hy, hh, hn⟩ := hget_some h1
      obtain ⟨es, rfl, hc, rfl, hr⟩ := updateObj_inv h2
      cases hm with
      | mp _ b base hi =>
      obtain ⟨b', base', hi', _, hrel⟩ := hok.obj id _ hy
      rw [hi] at hi'; cases hi'
      obtain ⟨hb0, ms, clock, m1, m2, m3⟩ := hrel
      have hck := ev_ok _ _ w hc
      rcases hr with ⟨i, e, key', u, hf, he, hkt, hs⟩ | ⟨u, hf, hs⟩
      · rcases findK_ok m2 m3 hf with ⟨h3, _⟩ | ⟨j, e', mm, h3, h4, h5, h6⟩
        · cases h3
        · cases h3
          rw [he] at h4; cases h4
          have hil : i < es.length := (List.getElem?_eq_some_iff.1 he).1
          have hkey := (m3 _ _ _ he h5).1
          have hst := ev_ok _ _ w hkt
          rw [← hkey] at hst
          obtain ⟨q1, q2, q3⟩ := put_map (P := P) (ms' := ms.modify i fun e => { e with key := key', val := xv }) (c' := clock) hok hy hi hb0 m1 (by rw [setAt_length _ _ _ hil]; simpa using m2)
            (fun j e m hj hm => by
              rw [setAt_get _ _ _ hil] at hj
              rw [Array.getElem?_modify] at hm
              by_cases hji : j = i
              · subst hji
                rw [if_pos rfl] at hj hm
                rw [h5] at hm
                simp at hj hm
                subst hj hm
                exact ⟨rfl, hx⟩
              · rw [if_neg hji] at hj
                rw [if_neg (by omega)] at hm
                exact m3 j e m hj hm) ⟨hh, hn⟩ hs
          refine ⟨_, g, ?_, q2, q3, rfl⟩
          simp [Instr.mapUpdate, run_underlying hu, getMap m1, hck, h6, h5, hst, q1]
      · rcases findK_ok m2 m3 hf with ⟨_, h3⟩ | ⟨j, e', mm, h3, _⟩
        · obtain ⟨q1, q2, q3⟩ := put_map (P := P) (ms' := ms.push { key := kv, val := xv, born := clock }) (c' := clock + 1) hok hy hi hb0 m1 (by simp [m2])
            (fun j e m hj hm => by
              rw [Array.getElem?_push] at hm
              by_cases hjl : j < es.length
              · rw [List.getElem?_append_left hjl] at hj
                rw [if_neg (by omega)] at hm
                exact m3 j e m hj hm
              · rw [List.getElem?_append_right (by omega)] at hj
                have hj1 : j = es.length := by
                  have := (List.getElem?_eq_some_iff.1 hj).1; simp at this; omega
                subst hj1
                rw [if_pos (by omega)] at hm
                simp at hj hm
                subst hj hm
                exact ⟨rfl, hx⟩) ⟨hh, hn⟩ hs
          refine ⟨_, g, ?_, q2, q3, rfl⟩
          simp [Instr.mapUpdate, run_underlying hu, getMap m1, hck, h3, q1]
        · cases h3
    | _ => cases h
  | _ => cases h

theorem deleteObj_inv {P : Program} {id : Nat} {kt : TypeId} {key : Value} {x : AObj} {s st' : St} {r : AV} (h : deleteObj P id kt key x s = some (r, st')) :
    ∃ es, x = .map es ∧ ev P (Instr.checkKey es.isEmpty 10000 kt key) = some () ∧ r = .sc (.tuple #[]) ∧
      ((∃ i u, findK P kt key es = some (some i) ∧ hset id (.map (es.take i ++ es.drop (i + 1))) s = some (u, st')) ∨
       (∃ u, findK P kt key es = some none ∧ hset id (.map es) s = some (u, st'))) := by
  cases x with
  | row => cases h
  | loop => cases h
  | map es =>
    refine ⟨es, rfl, ?_⟩
    simp only [deleteObj] at h
    cases hc : ev P (Instr.checkKey es.isEmpty 10000 kt key) with
    | none => simp [hc, M.fail] at h
    | some u =>
    cases hf : findK P kt key es with
    | none => simp [hc, hf, M.fail] at h
    | some q =>
    refine ⟨rfl, ?_⟩
    cases q with
    | none =>
      simp only [hc, hf] at h
      obtain ⟨u, s1, h1, h2⟩ := bind_some h
      obtain ⟨rfl, rfl⟩ := pure_some h2
      exact ⟨rfl, .inr ⟨u, rfl, h1⟩⟩
    | some i =>
      simp only [hc, hf] at h
      obtain ⟨u, s1, h1, h2⟩ := bind_some h
      obtain ⟨rfl, rfl⟩ := pure_some h2
      exact ⟨rfl, .inl ⟨i, u, rfl, h1⟩⟩

theorem opDelete_ok {P : Program} {g st st' w} {ts : Array TypeId} {ty : TypeId} {m k r : AV} {mv kv : Value} (hok : Ok g st.h w) (hm : Rel g w m mv) (hk : Rel g w k kv) (h : opDelete P ((ts[0]?).bind P.underlying) m k st = some (r, st')) :
    Does P g st w (Builtin.delete_ ts ty #[mv, kv]) r st' := by
  unfold opDelete at h
  cases h0 : ts[0]? with
  | none => simp [h0, M.fail] at h
  | some t =>
  rw [h0] at h
  simp only [Option.bind_some] at h
  cases hu : P.underlying t with
  | none => simp [hu, M.fail] at h
  | some d =>
  rw [hu] at h
  cases d with
  | map kt et =>
    cases m with
    | mp id =>
      cases hkv : k.toV with
      | none => simp [hkv, M.fail] at h
      | some key =>
      simp only [hkv] at h
      have := hk.exact hkv
      subst this
      obtain ⟨y, s1, h1, h2⟩ := bind_some h
      obtain ⟨hy, hh, hn⟩ := hget_some h1
      obtain ⟨es, rfl, hc, rfl, hr⟩ := deleteObj_inv h2
      cases hm with
      | mp _ b base hi =>
      obtain ⟨b', base', hi', _, hrel⟩ := hok.obj id _ hy
      rw [hi] at hi'; cases hi'
      obtain ⟨hb0, ms, clock, m1, m2, m3⟩ := hrel
      have hck := ev_ok _ _ w hc
      rw [← isEmpty_eq m2] at hck
      rcases hr with ⟨i, u, hf, hs⟩ | ⟨u, hf, hs⟩
      · rcases findK_ok m2 m3 hf with ⟨h3, _⟩ | ⟨j, e', mm, h3, h4, h5, h6⟩
        · cases h3
        · cases h3
          have hil : i < es.length := (List.getElem?_eq_some_iff.1 h4).1
          have hms : i < ms.size := by omega
          have hE : ms.eraseIdxIfInBounds i = ms.eraseIdx i hms := by simp [Array.eraseIdxIfInBounds, hms]
          obtain ⟨q1, q2, q3⟩ := put_map (P := P) (ms' := ms.eraseIdxIfInBounds i) (c' := clock) hok hy hi hb0 m1 (by
              rw [hE, Array.size_eraseIdx]; simp; omega)
            (fun j e m hj hm => by
              rw [hE, Array.getElem?_eraseIdx] at hm
              by_cases hji : j < i
              · rw [if_pos hji] at hm
                rw [List.getElem?_append_left (by simp; omega), List.getElem?_take, if_pos hji] at hj
                exact m3 j e m hj hm
              · rw [if_neg hji] at hm
                rw [List.getElem?_append_right (by simp; omega), List.getElem?_drop] at hj
                have hlt : (es.take i).length = i := by simp; omega
                rw [hlt, show i + 1 + (j - i) = j + 1 from by omega] at hj
                exact m3 (j + 1) e m hj hm) ⟨hh, hn⟩ hs
          refine ⟨_, _, g, ?_, q2, q3, .sc _⟩
          simp [Builtin.delete_, h0, run_underlying hu, getMap m1, hck, h6, q1]
      · rcases findK_ok m2 m3 hf with ⟨_, h3⟩ | ⟨j, e', mm, h3, _⟩
        · obtain ⟨q1, q2, q3⟩ := put_map (P := P) (ms' := ms) (c' := clock) hok hy hi hb0 m1 m2 m3 ⟨hh, hn⟩ hs
          refine ⟨_, _, g, ?_, q2, q3, .sc _⟩
          simp [Builtin.delete_, h0, run_underlying hu, getMap m1, hck, h3, q1]
        · cases h3
    | _ => cases h
  | _ => cases h

end Go.Vm
