/- Map updates; then all operations that call nothing. No condition. -/
import Derived.Test.YtnkjblopaagkoaaVmQ
namespace Go.Vm

theorem setAt_get {α : Type} (l : List α) (i : Nat) (x : α) (hi : i < l.length) (j : Nat) : (setAt l i x)[j]? = if j = i then some x else l[j]? := by
  unfold setAt
  have hl : (l.take i).length = i := by simp; omega
  by_cases h1 : j < i
  · rw [List.getElem?_append_left (by omega), List.getElem?_take, if_pos h1, if_neg (by omega)]
  · rw [List.getElem?_append_right (by omega), hl]
    by_cases h2 : j = i
    · subst h2; simp
    · rw [if_neg h2, show j - i = (j - i - 1) + 1 from by omega, List.getElem?_cons_succ, List.getElem?_drop]
      congr 1; omega
theorem setAt_length {α : Type} (l : List α) (i : Nat) (x : α) (hi : i < l.length) : (setAt l i x).length = l.length := by
  unfold setAt; simp; omega

theorem updateObj_inv {P : Program} {id : Nat} {kt : TypeId} {key : Value} {v : AV} {x : AObj} {s st' : St} {r : AV} (h : updateObj P id kt key v x s = some (r, st')) :
    ∃ es, x = .map es ∧ ev P (Instr.checkKey false 10000 kt key) = some () ∧ r = .sc undef ∧
      ((∃ i e key' u, findK P kt key es = some (some i) ∧ es[i]? = some e ∧ ev P (Instr.keyThatStays e.1 key) = some key' ∧ stays es (setAt es i (key', v)) = true ∧ hset id (.map (setAt es i (key', v))) s = some (u, st')) ∨
       (∃ u, findK P kt key es = some none ∧ stays es (es ++ [(key, v)]) = true ∧ hset id (.map (es ++ [(key, v)])) s = some (u, st'))) := by
  cases x with
  | row => cases h
  | loop => cases h
  | map es =>
    refine ⟨es, rfl, ?_⟩
    simp only [updateObj] at h
    cases hc : ev P (Instr.checkKey false 10000 kt key) with
    | none => simp [hc, M.fail] at h
    | some u =>
    cases hf : findK P kt key es with
    | none => simp [hc, hf, M.fail] at h
    | some q =>
    refine ⟨rfl, ?_⟩
    cases q with
    | none =>
      simp only [hc, hf] at h
      rcases cond_some h with ⟨hs, h⟩ | ⟨_, h⟩
      · obtain ⟨u, s1, h1, h2⟩ := bind_some h
        obtain ⟨rfl, rfl⟩ := pure_some h2
        exact ⟨rfl, .inr ⟨u, rfl, hs, h1⟩⟩
      · cases h
    | some i =>
      simp only [hc, hf] at h
      cases he : es[i]? with
      | none => simp [he, M.fail] at h
      | some e =>
      simp only [he] at h
      cases hk : ev P (Instr.keyThatStays e.1 key) with
      | none => simp [hk, M.fail] at h
      | some key' =>
      simp only [hk] at h
      rcases cond_some h with ⟨hs, h⟩ | ⟨_, h⟩
      · obtain ⟨u, s1, h1, h2⟩ := bind_some h
        obtain ⟨rfl, rfl⟩ := pure_some h2
        exact ⟨rfl, .inl ⟨i, e, key', u, rfl, he, hk, hs, h1⟩⟩
      · cases h

theorem born_idx {L : List MapEntry} (hb : (L.map (·.born)).Nodup) {i j : Nat} {m : MapEntry} (hi : L[i]? = some m) (hj : L[j]? = some m) : i = j := by
  have key : ∀ i j : Nat, i < j → L[i]? = some m → L[j]? = some m → False := by
    intro i j hij hi hj
    obtain ⟨h1, e1⟩ := List.getElem?_eq_some_iff.1 hi
    obtain ⟨h2, e2⟩ := List.getElem?_eq_some_iff.1 hj
    have := List.pairwise_iff_getElem.1 hb i j (by simpa using h1) (by simpa using h2) hij
    simp only [List.getElem_map, e1, e2] at this
    exact this rfl
  rcases Nat.lt_trichotomy i j with q | q | q
  · exact (key i j q hi hj).elim
  · exact q
  · exact (key j i q hj hi).elim
theorem perm_split {α : Type} {l : List α} {i : Nat} {m : α} (h : l[i]? = some m) : l.Perm (m :: (l.take i ++ l.drop (i + 1))) ∧ ∀ m', (setAt l i m').Perm (m' :: (l.take i ++ l.drop (i + 1))) := by
  obtain ⟨hi, rfl⟩ := List.getElem?_eq_some_iff.1 h
  refine ⟨?_, fun m' => List.perm_middle⟩
  have : l = l.take i ++ l[i] :: l.drop (i + 1) := by rw [← List.drop_eq_getElem_cons hi, List.take_append_drop]
  exact (List.Perm.of_eq this).trans List.perm_middle
theorem perm_out {α : Type} {l k : List α} (h : l.Perm k) {i j : Nat} {m : α} (hi : l[i]? = some m) (hj : k[j]? = some m) : (l.take i ++ l.drop (i + 1)).Perm (k.take j ++ k.drop (j + 1)) :=
  List.Perm.cons_inv (((perm_split hi).1.symm.trans h).trans (perm_split hj).1)
theorem perm_setAt {α : Type} {l k : List α} (h : l.Perm k) {i j : Nat} {m m' : α} (hi : l[i]? = some m) (hj : k[j]? = some m) : (setAt l i m').Perm (setAt k j m') :=
  (((perm_split hi).2 m').trans ((perm_out h hi hj).cons m')).trans ((perm_split hj).2 m').symm
theorem out_get {α : Type} (l : List α) (i : Nat) (hi : i < l.length) (j : Nat) : (l.take i ++ l.drop (i + 1))[j]? = if j < i then l[j]? else l[j + 1]? := by
  have hl : (l.take i).length = i := by simp; omega
  by_cases h1 : j < i
  · rw [if_pos h1, List.getElem?_append_left (by omega), List.getElem?_take, if_pos h1]
  · rw [if_neg h1, List.getElem?_append_right (by omega), hl, List.getElem?_drop]
    congr 1; omega

theorem opUpdate_ok {P : Program} {g st st' w} {t : TypeId} {m k x r : AV} {mv kv xv : Value} (hok : Ok g st.h w) (hm : Rel g w m mv) (hk : Rel g w k kv) (hx : Rel g w x xv) (h : opUpdate P t m k x st = some (r, st')) :
    ∃ w' g', (Instr.mapUpdate t mv kv xv).run P w = .ok () w' ∧ Step g st.h w st.nx st'.nx g' st'.h w' ∧ Ok g' st'.h w' ∧ r = .sc undef := by
  unfold opUpdate at h
  cases hu : P.underlying t with
  | none => simp [hu, M.fail] at h
  | some d =>
  rw [hu] at h
  cases d with
  | map kt et =>
    cases m with
    | mp id =>
      cases hkv : k.toV with
      | none => simp [hkv, M.fail] at h
      | some key =>
      simp only [hkv] at h
      have := hk.exact hkv
      subst this
      obtain ⟨y, s1, h1, h2⟩ := bind_some h
      obtain ⟨hy, hh, hn⟩ := hget_some h1
      obtain ⟨es, rfl, hc, rfl, hr⟩ := updateObj_inv h2
      cases hm with
      | mp _ b base hi =>
      obtain ⟨b', base', hi', _, hrel⟩ := hok.obj id _ hy
      rw [hi] at hi'; cases hi'
      obtain ⟨hb0, ms, clock, m1, m2⟩ := hrel
      have hck := ev_ok _ _ w hc
      rcases hr with ⟨i, e, key', u, hf, he, hkt, hst', hs⟩ | ⟨u, hf, hst', hs⟩
      · rcases findK_ok m2 hf with ⟨h3, _⟩ | ⟨i', j, e', mm, l, h3, h4, h5, h6, p1, p2, p3, p4⟩
        · cases h3
        · cases h3
          rw [he] at h4; cases h4
          have hil : i < es.length := (List.getElem?_eq_some_iff.1 he).1
          have hll : l.length = es.length := by rw [p1.length_eq, ← m2.len]; simp
          have hkey := (p3 _ _ _ he p2).1
          have hst := ev_ok _ _ w hkt
          rw [← hkey] at hst
          have h5' : ms.toList[j]? = some mm := by simpa using h5
          have hjl := (List.getElem?_eq_some_iff.1 h5').1
          have hml : (ms.modify j fun e => { e with key := key', val := xv }).toList = setAt ms.toList j { mm with key := key', val := xv } := by
            apply List.ext_getElem?
            intro n
            rw [Array.getElem?_toList, Array.getElem?_modify, setAt_get _ _ _ hjl, Array.getElem?_toList]
            by_cases hn : n = j
            · subst hn; simp [h5]
            · rw [if_neg hn, if_neg (Ne.symm hn)]
          have hborn : (ms.modify j fun e => { e with key := key', val := xv }).toList.map (·.born) = ms.toList.map (·.born) := by
            apply List.ext_getElem?
            intro n
            rw [hml, List.getElem?_map, List.getElem?_map, setAt_get _ _ _ hjl]
            by_cases hn : n = j
            · subst hn; rw [if_pos rfl, h5']; rfl
            · rw [if_neg hn]
          have hrel' : MapRel g w (setAt es i (key', x)) (ms.modify j fun e => { e with key := key', val := xv }) clock := by
            have hp := perm_setAt (m' := { mm with key := key', val := xv }) p1 p2 h5'
            refine ⟨by rw [setAt_length _ _ _ hil]; simpa using m2.len, by rw [hborn]; exact m2.born, fun m hm => ?_, setAt l i { mm with key := key', val := xv }, by rw [hml]; exact hp, fun n e m hj hm => ?_, ?_⟩
            · have : m.born ∈ ms.toList.map (·.born) := by rw [← hborn]; exact List.mem_map_of_mem hm
              obtain ⟨m0, q1, q2⟩ := List.mem_map.1 this
              rw [← q2]; exact m2.old m0 q1
            · rw [setAt_get _ _ _ hil] at hj
              rw [setAt_get _ _ _ (by omega)] at hm
              by_cases hji : n = i
              · rw [if_pos hji] at hj hm
                cases hj; cases hm
                exact ⟨rfl, hx⟩
              · rw [if_neg hji] at hj hm
                exact p3 n e m hj hm
            · refine stays_mode (k := ms.toList) (l := l) (fun e => ?_) (p4.imp (·.1) (fun h => h)) hst' (by rw [hml]; exact hp) (by rw [setAt_length _ _ _ (by omega), setAt_length _ _ _ hil, hll])
              rw [hml]
              subst e
              rw [born_idx m2.born p2 h5']
          obtain ⟨q1, q2, q3⟩ := put_map (P := P) (ms' := ms.modify j fun e => { e with key := key', val := xv }) (c' := clock) hok hy hi hb0 m1 hrel' ⟨hh, hn⟩ hs
          refine ⟨_, g, ?_, q2, q3, rfl⟩
          simp [Instr.mapUpdate, run_underlying hu, getMap m1, hck, h6, h5, hst, q1]
      · rcases findK_ok m2 hf with ⟨_, h3⟩ | ⟨i', j, e', mm, l, h3, _⟩
        · obtain ⟨l, p1, p2, p3⟩ := m2.perm
          have hll : l.length = es.length := by rw [p1.length_eq, ← m2.len]; simp
          have hrel' : MapRel g w (es ++ [(kv, x)]) (ms.push { key := kv, val := xv, born := clock }) (clock + 1) := by
            have hp : (l ++ [({ key := kv, val := xv, born := clock } : MapEntry)]).Perm (ms.push { key := kv, val := xv, born := clock }).toList := by
              rw [Array.toList_push]; exact p1.append_right _
            refine ⟨by simp [m2.len], ?_, fun m hm => ?_, _, hp, fun n e m hj hm => ?_, ?_⟩
            · rw [Array.toList_push, List.map_append, List.nodup_append]
              refine ⟨m2.born, by simp, fun b hb b' hb' => ?_⟩
              obtain ⟨m, q1, rfl⟩ := List.mem_map.1 hb
              simp at hb'
              have := m2.old m q1
              omega
            · rw [Array.toList_push] at hm
              rcases List.mem_append.1 hm with hm | hm
              · exact Nat.lt_succ_of_lt (m2.old m hm)
              · simp at hm; subst hm; exact Nat.lt_succ_self _
            · by_cases hjl : n < es.length
              · rw [List.getElem?_append_left hjl] at hj
                rw [List.getElem?_append_left (by omega)] at hm
                exact p2 n e m hj hm
              · rw [List.getElem?_append_right (by omega)] at hj hm
                have hj1 : n = es.length := by
                  have := (List.getElem?_eq_some_iff.1 hj).1; simp at this; omega
                subst hj1
                rw [hll] at hm
                simp at hj hm
                subst hj hm
                exact ⟨rfl, hx⟩
            · exact stays_mode (k := ms.toList) (l := l) (fun e => by rw [Array.toList_push, e]) p3 hst' hp (by simp [hll])
          obtain ⟨q1, q2, q3⟩ := put_map (P := P) (ms' := ms.push { key := kv, val := xv, born := clock }) (c' := clock + 1) hok hy hi hb0 m1 hrel' ⟨hh, hn⟩ hs
          refine ⟨_, g, ?_, q2, q3, rfl⟩
          simp [Instr.mapUpdate, run_underlying hu, getMap m1, hck, h3, q1]
        · cases h3
    | _ => cases h
  | _ => cases h

theorem deleteObj_inv {P : Program} {id : Nat} {kt : TypeId} {key : Value} {x : AObj} {s st' : St} {r : AV} (h : deleteObj P id kt key x s = some (r, st')) :
    ∃ es, x = .map es ∧ ev P (Instr.checkKey es.isEmpty 10000 kt key) = some () ∧ r = .sc (.tuple #[]) ∧
      ((∃ i u, findK P kt key es = some (some i) ∧ stays es (es.take i ++ es.drop (i + 1)) = true ∧ hset id (.map (es.take i ++ es.drop (i + 1))) s = some (u, st')) ∨
       (∃ u, findK P kt key es = some none ∧ hset id (.map es) s = some (u, st'))) := by
  cases x with
  | row => cases h
  | loop => cases h
  | map es =>
    refine ⟨es, rfl, ?_⟩
    simp only [deleteObj] at h
    cases hc : ev P (Instr.checkKey es.isEmpty 10000 kt key) with
    | none => simp [hc, M.fail] at h
    | some u =>
    cases hf : findK P kt key es with
    | none => simp [hc, hf, M.fail] at h
    | some q =>
    refine ⟨rfl, ?_⟩
    cases q with
    | none =>
      simp only [hc, hf] at h
      obtain ⟨u, s1, h1, h2⟩ := bind_some h
      obtain ⟨rfl, rfl⟩ := pure_some h2
      exact ⟨rfl, .inr ⟨u, rfl, h1⟩⟩
    | some i =>
      simp only [hc, hf] at h
      rcases cond_some h with ⟨hs, h⟩ | ⟨_, h⟩
      · obtain ⟨u, s1, h1, h2⟩ := bind_some h
        obtain ⟨rfl, rfl⟩ := pure_some h2
        exact ⟨rfl, .inl ⟨i, u, rfl, hs, h1⟩⟩
      · cases h

theorem opDelete_ok {P : Program} {g st st' w} {ts : Array TypeId} {ty : TypeId} {m k r : AV} {mv kv : Value} (hok : Ok g st.h w) (hm : Rel g w m mv) (hk : Rel g w k kv) (h : opDelete P ((ts[0]?).bind P.underlying) m k st = some (r, st')) :
    Does P g st w (Builtin.delete_ ts ty #[mv, kv]) r st' := by
  unfold opDelete at h
  cases h0 : ts[0]? with
  | none => simp [h0, M.fail] at h
  | some t =>
  rw [h0] at h
  simp only [Option.bind_some] at h
  cases hu : P.underlying t with
  | none => simp [hu, M.fail] at h
  | some d =>
  rw [hu] at h
  cases d with
  | map kt et =>
    cases m with
    | mp id =>
      cases hkv : k.toV with
      | none => simp [hkv, M.fail] at h
      | some key =>
      simp only [hkv] at h
      have := hk.exact hkv
      subst this
      obtain ⟨y, s1, h1, h2⟩ := bind_some h
      obtain ⟨hy, hh, hn⟩ := hget_some h1
      obtain ⟨es, rfl, hc, rfl, hr⟩ := deleteObj_inv h2
      cases hm with
      | mp _ b base hi =>
      obtain ⟨b', base', hi', _, hrel⟩ := hok.obj id _ hy
      rw [hi] at hi'; cases hi'
      obtain ⟨hb0, ms, clock, m1, m2⟩ := hrel
      have hck := ev_ok _ _ w hc
      rw [← isEmpty_eq m2.len] at hck
      rcases hr with ⟨i, u, hf, hst', hs⟩ | ⟨u, hf, hs⟩
      · rcases findK_ok m2 hf with ⟨h3, _⟩ | ⟨i', j, e', mm, l, h3, h4, h5, h6, p1, p2, p3, p4⟩
        · cases h3
        · cases h3
          have hil : i < es.length := (List.getElem?_eq_some_iff.1 h4).1
          have hll : l.length = es.length := by rw [p1.length_eq, ← m2.len]; simp
          have h5' : ms.toList[j]? = some mm := by simpa using h5
          have hjl := (List.getElem?_eq_some_iff.1 h5').1
          have hms : j < ms.size := by simpa using hjl
          have hE : ms.eraseIdxIfInBounds j = ms.eraseIdx j hms := by simp [Array.eraseIdxIfInBounds, hms]
          have hml : (ms.eraseIdxIfInBounds j).toList = ms.toList.take j ++ ms.toList.drop (j + 1) := by
            apply List.ext_getElem?
            intro n
            rw [hE, Array.getElem?_toList, Array.getElem?_eraseIdx, out_get _ _ hjl, Array.getElem?_toList, Array.getElem?_toList]
          have hsub : (ms.eraseIdxIfInBounds j).toList.Sublist ms.toList := by
            rw [hml]
            have := (List.drop_sublist_drop_left ms.toList (show j ≤ j + 1 by omega)).append_left (ms.toList.take j)
            rwa [List.take_append_drop] at this
          have hrel' : MapRel g w (es.take i ++ es.drop (i + 1)) (ms.eraseIdxIfInBounds j) clock := by
            have hp := perm_out p1 p2 h5'
            refine ⟨?_, (hsub.map _).nodup m2.born, fun m hm => m2.old m (hsub.subset hm), l.take i ++ l.drop (i + 1), by rw [hml]; exact hp, fun n e m hj hm => ?_, ?_⟩
            · have := m2.len
              rw [hE, Array.size_eraseIdx]; simp; omega
            · rw [out_get _ _ hil] at hj
              rw [out_get _ _ (by omega)] at hm
              by_cases hji : n < i
              · rw [if_pos hji] at hj hm
                exact p3 n e m hj hm
              · rw [if_neg hji] at hj hm
                exact p3 (n + 1) e m hj hm
            · refine stays_mode (k := ms.toList) (l := l) (fun e => ?_) (p4.imp (·.1) (fun h => h)) hst' (by rw [hml]; exact hp) (by simp [hll])
              rw [hml]
              subst e
              rw [born_idx m2.born p2 h5']
          obtain ⟨q1, q2, q3⟩ := put_map (P := P) (ms' := ms.eraseIdxIfInBounds j) (c' := clock) hok hy hi hb0 m1 hrel' ⟨hh, hn⟩ hs
          refine ⟨_, _, g, ?_, q2, q3, .sc _⟩
          simp [Builtin.delete_, h0, run_underlying hu, getMap m1, hck, h6, q1]
      · rcases findK_ok m2 hf with ⟨_, h3⟩ | ⟨i', j, e', mm, l, h3, _⟩
        · obtain ⟨q1, q2, q3⟩ := put_map (P := P) (ms' := ms) (c' := clock) hok hy hi hb0 m1 m2 ⟨hh, hn⟩ hs
          refine ⟨_, _, g, ?_, q2, q3, .sc _⟩
          simp [Builtin.delete_, h0, run_underlying hu, getMap m1, hck, h3, q1]
        · cases h3
    | _ => cases h
  | _ => cases h

end Go.Vm
