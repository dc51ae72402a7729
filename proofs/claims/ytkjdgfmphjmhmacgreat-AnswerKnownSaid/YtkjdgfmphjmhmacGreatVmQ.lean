/- Maps. No condition. -/
import Derived.Test.YtkjdgfmphjmhmacGreatVmP
namespace Go.Vm

theorem ev_bind {α β : Type} {P : Program} : ∀ (s : Sem α) (f : α → Sem β), ev P (s.bind f) = (ev P s).bind fun a => ev P (f a) := by
  intro s f
  induction s with
  | pure a => simp [Sem.bind, ev]
  | program k ih => simp only [Sem.bind, ev]; exact ih P
  | choose q k ih =>
    simp only [Sem.bind, ev]
    split
    · exact ih 0
    · rfl
  | mark m k ih => simp only [Sem.bind, ev]; exact ih
  | _ => simp [Sem.bind, ev]
theorem ev_bind' {α β : Type} {P : Program} (s : Sem α) (f : α → Sem β) : ev P (s >>= f) = (ev P s).bind fun a => ev P (f a) := ev_bind s f
theorem ev_pure {α : Type} {P : Program} (a : α) : ev P (pure a : Sem α) = some a := rfl

theorem findNow_keys (kind : TypeDesc) (k : Value) : ∀ (l1 l2 : List MapEntry) (i : Nat), l1.map (·.key) = l2.map (·.key) →
    ∀ r, Instr.findNow kind k l1 i = some r → (r = none ∧ Instr.findNow kind k l2 i = some none) ∨ ∃ j v m, r = some (i + j, v) ∧ l2[j]? = some m ∧ Instr.findNow kind k l2 i = some (some (i + j, m.val)) := by
  intro l1
  induction l1 with
  | nil =>
    intro l2 i hk r h
    cases l2 with
    | cons => simp at hk
    | nil => simp [Instr.findNow] at h ⊢; exact h.symm
  | cons e l1 ih =>
    intro l2 i hk r h
    cases l2 with
    | nil => simp at hk
    | cons e2 l2 =>
    simp only [List.map_cons, List.cons.injEq] at hk
    obtain ⟨hk1, hk2⟩ := hk
    simp only [Instr.findNow] at h ⊢
    rw [← hk1]
    cases hs : Instr.sameNow kind k e.key with
    | none => simp [hs] at h
    | some q =>
    cases q with
    | true =>
      simp [hs] at h
      subst h
      exact .inr ⟨0, e.val, e2, rfl, rfl, rfl⟩
    | false =>
      simp only [hs] at h
      rcases ih l2 (i + 1) hk2 r h with ⟨h1, h2⟩ | ⟨j, v, m, h1, h2, h3⟩
      · exact .inl ⟨h1, h2⟩
      · exact .inr ⟨j + 1, v, m, by rw [h1]; congr 2; omega, by simpa using h2, by rw [show i + (j + 1) = i + 1 + j from by omega]; exact h3⟩

theorem findAsking_keys {P : Program} (kt : TypeId) (k : Value) (w : World) : ∀ (l1 l2 : List MapEntry) (i : Nat), l1.map (·.key) = l2.map (·.key) →
    ∀ r, ev P (Instr.findAsking kt k l1 i) = some r → (r = none ∧ (Instr.findAsking kt k l2 i).run P w = .ok none w) ∨ ∃ j v m, r = some (i + j, v) ∧ l2[j]? = some m ∧ (Instr.findAsking kt k l2 i).run P w = .ok (some (i + j, m.val)) w := by
  intro l1
  induction l1 with
  | nil =>
    intro l2 i hk r h
    cases l2 with
    | cons => simp at hk
    | nil => simp [Instr.findAsking, ev_pure] at h ⊢; exact h.symm
  | cons e l1 ih =>
    intro l2 i hk r h
    cases l2 with
    | nil => simp at hk
    | cons e2 l2 =>
    simp only [List.map_cons, List.cons.injEq] at hk
    obtain ⟨hk1, hk2⟩ := hk
    simp only [Instr.findAsking, ev_bind'] at h ⊢
    cases hq : ev P (Op.equal kt k e.key) with
    | none => simp [hq] at h
    | some q =>
    have hrun := ev_ok _ _ w hq
    rw [hk1] at hrun
    rw [hq] at h
    cases q with
    | true =>
      simp [ev_pure] at h
      subst h
      exact .inr ⟨0, e.val, e2, rfl, rfl, by simp [hrun]⟩
    | false =>
      simp at h
      rcases ih l2 (i + 1) hk2 r h with ⟨h1, h2⟩ | ⟨j, v, m, h1, h2, h3⟩
      · exact .inl ⟨h1, by simp [hrun, h2]⟩
      · exact .inr ⟨j + 1, v, m, by rw [h1]; congr 2; omega, by simpa using h2, by rw [show i + (j + 1) = i + 1 + j from by omega]; simp [hrun, h3]⟩

theorem ev_underlying {P : Program} {t : TypeId} {d : TypeDesc} (h : ev P (underlying t) = some d) : P.underlying t = some d := by
  have h1 := ev_ok (P := P) _ _ (default : World) h
  cases hu : P.underlying t with
  | some d' => rw [run_underlying hu] at h1; cases h1; rfl
  | none =>
    exfalso
    have : ∀ w, (underlying t).run P w ≠ .ok d w := by
      intro w
      simp only [underlying, Sem.run_bind]
      simp [program, Sem.run, hu, stuck]
    exact this _ h1

theorem findK_ok {P : Program} {g : Gh} {w : World} {kt : TypeId} {k : Value} {es : List (Value × AV)} {ms : Array MapEntry} (hlen : ms.size = es.length)
    (hkv : ∀ (i : Nat) e m, es[i]? = some e → ms[i]? = some m → m.key = e.1 ∧ Rel g w e.2 m.val) {r : Option Nat} (h : findK P kt k es = some r) :
    (r = none ∧ (Instr.findKey kt k ms.toList).run P w = .ok none w) ∨ ∃ i e m, r = some i ∧ es[i]? = some e ∧ ms[i]? = some m ∧ (Instr.findKey kt k ms.toList).run P w = .ok (some (i, m.val)) w := by
  have hkeys : (es.map fun e => ({ key := e.1, val := undef, born := 0 } : MapEntry)).map (·.key) = ms.toList.map (·.key) := by
    apply List.ext_getElem?
    intro i
    simp only [List.map_map, List.getElem?_map, Array.getElem?_toList]
    by_cases hi : i < es.length
    · have e1 := List.getElem?_eq_getElem hi
      have e2 := Array.getElem?_eq_getElem (xs := ms) (i := i) (by omega)
      rw [e1, e2]
      simp only [Option.map_some, Function.comp_apply]
      rw [(hkv i _ _ e1 e2).1]
    · rw [List.getElem?_eq_none (by omega), Array.getElem?_eq_none (by omega)]; rfl
  have conv : ∀ (j : Nat) (m : MapEntry), ms.toList[j]? = some m → ∃ e, es[j]? = some e ∧ ms[j]? = some m := by
    intro j m hm
    rw [Array.getElem?_toList] at hm
    have hj : j < es.length := by rw [← hlen]; exact (Array.getElem?_eq_some_iff.1 hm).1
    exact ⟨es[j], List.getElem?_eq_getElem hj, hm⟩
  simp only [findK, Option.map_eq_some_iff] at h
  obtain ⟨r0, h1, rfl⟩ := h
  unfold Instr.findKey at h1
  rw [ev_bind'] at h1
  cases hu : ev P (underlying kt) with
  | none => simp [hu] at h1
  | some d =>
  have hu' := ev_underlying hu
  rw [hu] at h1
  simp only [Option.bind_some] at h1
  cases hf : Instr.findNow d k (es.map fun e => ({ key := e.1, val := undef, born := 0 } : MapEntry)) 0 with
  | some r1 =>
    rw [hf] at h1
    simp [ev_pure] at h1
    subst h1
    rcases findNow_keys d k _ _ 0 hkeys r1 hf with ⟨rfl, h3⟩ | ⟨j, v, m, rfl, h3, h4⟩
    · exact .inl ⟨rfl, by simp [Instr.findKey, run_underlying hu', h3]⟩
    · obtain ⟨e, e1, e2⟩ := conv j m h3
      exact .inr ⟨j, e, m, by simp, e1, e2, by simp [Instr.findKey, run_underlying hu', h4]⟩
  | none =>
    have hf2 : Instr.findNow d k ms.toList 0 = none := by
      have key : ∀ (l1 l2 : List MapEntry) (i : Nat), l1.map (·.key) = l2.map (·.key) → Instr.findNow d k l1 i = none → Instr.findNow d k l2 i = none := by
        intro l1
        induction l1 with
        | nil => intro l2 i hk h; simp [Instr.findNow] at h
        | cons a l1 ih =>
          intro l2 i hk h
          cases l2 with
          | nil => simp at hk
          | cons b l2 =>
          simp only [List.map_cons, List.cons.injEq] at hk
          simp only [Instr.findNow] at h ⊢
          rw [← hk.1]
          cases hs : Instr.sameNow d k a.key with
          | none => rfl
          | some q =>
            cases q with
            | true => simp [hs] at h
            | false => simp only [hs] at h ⊢; exact ih l2 (i + 1) hk.2 h
      exact key _ _ 0 hkeys hf
    rw [hf] at h1
    simp only at h1
    rcases findAsking_keys kt k w _ _ 0 hkeys r0 h1 with ⟨rfl, h3⟩ | ⟨j, v, m, rfl, h3, h4⟩
    · exact .inl ⟨rfl, by simp [Instr.findKey, run_underlying hu', hf2, h3]⟩
    · obtain ⟨e, e1, e2⟩ := conv j m h3
      exact .inr ⟨j, e, m, by simp, e1, e2, by simp [Instr.findKey, run_underlying hu', hf2, h4]⟩

theorem setMap {P : Program} {w : World} {b : Nat} {ms : Array MapEntry} {c : Nat} (o : Obj) (h : w.heap[b]? = some (.map ms c)) : (setObj b o).run P w = .ok () (putB w b o) := by
  simp [setObj, Sem.run, h, putB]

/-- A map is written. -/
theorem put_map {P : Program} {g : Gh} {st s1 st' : St} {w : World} {o b base : Nat} {es es' : List (Value × AV)} {ms ms' : Array MapEntry} {c c' : Nat} {u : Unit}
    (hok : Ok g st.h w) (ho : st.h.get o = some (.map es)) (hi : g.inj o = some (b, base)) (hb0 : base = 0) (hm : w.heap[b]? = some (.map ms c)) (hlen : ms'.size = es'.length)
    (hkv : ∀ (i : Nat) e m, es'[i]? = some e → ms'[i]? = some m → m.key = e.1 ∧ Rel g w e.2 m.val)
    (hs1 : s1.h = st.h ∧ s1.nx = st.nx) (h : hset o (.map es') s1 = some (u, st')) :
    (setObj b (.map ms' c')).run P w = .ok () (putB w b (.map ms' c')) ∧ Step g st.h w st.nx st'.nx g st'.h (putB w b (.map ms' c')) ∧ Ok g st'.h (putB w b (.map ms' c')) := by
  obtain ⟨_, hlim, hh2, hn2⟩ := hset_some h
  have hmod := modify_step (x := .map es) (x' := .map es') (lo := st.nx) (up := st'.nx) (ob' := .map ms' c') hok ho hi hm (fun cs0 e0 fr0 he => by cases he)
    (fun j hj => by simp [World.cell?, hm, putB_same _ (lt_of_heap hm)]) hlim
    (fun hext => ⟨hb0, ms', c', putB_same _ (lt_of_heap hm), hlen, fun i e m he hm => ⟨(hkv i e m he hm).1, (hkv i e m he hm).2.ext hext⟩⟩)
  exact ⟨setMap _ hm, by rw [hh2, hs1.1]; exact hmod.1, by rw [hh2, hs1.1]; exact hmod.2⟩

theorem isEmpty_eq {es : List (Value × AV)} {ms : Array MapEntry} (h : ms.size = es.length) : ms.isEmpty = es.isEmpty := by
  cases es with
  | nil => simp at h; simp [h]
  | cons e es =>
    simp only [List.isEmpty_cons]
    cases hm : ms.isEmpty with
    | false => rfl
    | true => simp at hm; subst hm; simp at h

theorem lookupObj_inv {P : Program} {kt et : TypeId} {k : Value} {ok : Bool} {x : AObj} {s st' : St} {r : AV} (h : lookupObj P kt et k ok x s = some (r, st')) :
    ∃ es, x = .map es ∧ ev P (Instr.checkKey es.isEmpty 10000 kt k) = some () ∧ ∃ z, zeroT P et = some z ∧ st' = s ∧
      ((∃ i e, findK P kt k es = some (some i) ∧ es[i]? = some e ∧ r = bif ok then .tup [e.2, .sc (.bool true)] else e.2) ∨ (findK P kt k es = some none ∧ r = bif ok then .tup [.sc z, .sc (.bool false)] else .sc z)) := by
  cases x with
  | row => cases h
  | loop => cases h
  | map es =>
    refine ⟨es, rfl, ?_⟩
    simp only [lookupObj] at h
    cases hc : ev P (Instr.checkKey es.isEmpty 10000 kt k) with
    | none => simp [hc, M.fail] at h
    | some u =>
    cases hf : findK P kt k es with
    | none => simp [hc, hf, M.fail] at h
    | some q =>
    refine ⟨rfl, ?_⟩
    cases q with
    | none =>
      simp only [hc, hf] at h
      cases hz : zeroT P et with
      | none => simp [hz, found, M.fail] at h
      | some z =>
        rw [hz] at h
        obtain ⟨h1, h2⟩ := pure_some h
        exact ⟨z, rfl, h2, .inr ⟨rfl, h1⟩⟩
    | some i =>
      simp only [hc, hf] at h
      cases he : es[i]? with
      | none => simp [he, M.fail] at h
      | some e =>
      rw [he] at h
      cases hz : zeroT P et with
      | none => simp [hz, found, M.fail] at h
      | some z =>
        rw [hz] at h
        obtain ⟨h1, h2⟩ := pure_some h
        exact ⟨z, rfl, h2, .inl ⟨i, e, rfl, he, h1⟩⟩

theorem tup2 {g w a v} {b : Bool} (h : Rel g w a v) : Rel g w (.tup [a, .sc (.bool b)]) (.tuple #[v, .bool b]) :=
  .tup _ _ rfl (fun i x y h1 h2 => by
    cases i with
    | zero => simp at h1 h2; subst h1 h2; exact h
    | succ i => cases i with
      | zero => simp at h1 h2; subst h1 h2; exact .sc _
      | succ i => simp at h1)

theorem opLookup_ok {P : Program} {g st st' w} {t : TypeId} {x ix r : AV} {v k : Value} {ok : Bool} (hok : Ok g st.h w) (hx : Rel g w x v) (hk : Rel g w ix k) (h : opLookup P t x ix ok st = some (r, st')) :
    Does P g st w (Instr.lookup t v k ok) r st' := by
  unfold opLookup at h
  cases hu : P.underlying t with
  | none => simp [hu, M.fail] at h
  | some d =>
  rw [hu] at h
  cases d with
  | map kt et =>
    cases x with
    | mp id =>
      cases hkv : ix.toV with
      | none => simp [hkv, M.fail] at h
      | some kv =>
      simp only [hkv] at h
      have := hk.exact hkv
      subst this
      obtain ⟨y, s1, h1, h2⟩ := bind_some h
      obtain ⟨hy, hh, hn⟩ := hget_some h1
      obtain ⟨es, rfl, hc, z, hz, rfl, hr⟩ := lookupObj_inv h2
      cases hx with
      | mp _ b base hi =>
      obtain ⟨b', base', hi', _, hrel⟩ := hok.obj id _ hy
      rw [hi] at hi'; cases hi'
      obtain ⟨_, ms, clock, m1, m2, m3⟩ := hrel
      have hck := ev_ok _ _ w hc
      rw [← isEmpty_eq m2] at hck
      rcases hr with ⟨i, e, hf, he, rfl⟩ | ⟨hf, rfl⟩
      · rcases findK_ok m2 m3 hf with ⟨h3, _⟩ | ⟨j, e', m, h3, h4, h5, h6⟩
        · cases h3
        · cases h3
          rw [he] at h4; cases h4
          cases ok with
          | true => exact Does.still hok hh (by simp [Instr.lookup, run_underlying hu, getMap m1, hck, h6]) (tup2 (m3 _ _ _ he h5).2)
          | false => exact Does.still hok hh (by simp [Instr.lookup, run_underlying hu, getMap m1, hck, h6]) (m3 _ _ _ he h5).2
      · rcases findK_ok m2 m3 hf with ⟨_, h3⟩ | ⟨j, e', m, h3, _⟩
        · cases ok with
          | true => exact Does.still hok hh (by simp [Instr.lookup, run_underlying hu, getMap m1, hck, h3, run_zeroValue hz]) (tup2 (.sc z))
          | false => exact Does.still hok hh (by simp [Instr.lookup, run_underlying hu, getMap m1, hck, h3, run_zeroValue hz]) (.sc z)
        · cases h3
    | _ => cases h
  | _ => cases h

end Go.Vm
