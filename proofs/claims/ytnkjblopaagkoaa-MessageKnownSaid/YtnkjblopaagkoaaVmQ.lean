/- Maps. No condition. -/
import Derived.Test.YtnkjblopaagkoaaVmP
namespace Go.Vm

theorem ev_bind {α β : Type} {P : Program} : ∀ (s : Sem α) (f : α → Sem β), ev P (s.bind f) = (ev P s).bind fun a => ev P (f a) := by
  intro s f
  induction s with
  | pure a => simp [Sem.bind, ev]
  | program k ih => simp only [Sem.bind, ev]; exact ih P
  | choose q k ih =>
    simp only [Sem.bind, ev]
    split
    · exact ih 0
    · rfl
  | mark m k ih => simp only [Sem.bind, ev]; exact ih
  | _ => simp [Sem.bind, ev]
theorem ev_bind' {α β : Type} {P : Program} (s : Sem α) (f : α → Sem β) : ev P (s >>= f) = (ev P s).bind fun a => ev P (f a) := ev_bind s f
theorem ev_pure {α : Type} {P : Program} (a : α) : ev P (pure a : Sem α) = some a := rfl

theorem findNow_keys (kind : TypeDesc) (k : Value) : ∀ (l1 l2 : List MapEntry) (i : Nat), l1.map (·.key) = l2.map (·.key) →
    ∀ r, Instr.findNow kind k l1 i = some r → (r = none ∧ Instr.findNow kind k l2 i = some none) ∨ ∃ j v m, r = some (i + j, v) ∧ l2[j]? = some m ∧ Instr.findNow kind k l2 i = some (some (i + j, m.val)) := by
  intro l1
  induction l1 with
  | nil =>
    intro l2 i hk r h
    cases l2 with
    | cons => simp at hk
    | nil => simp [Instr.findNow] at h ⊢; exact h.symm
  | cons e l1 ih =>
    intro l2 i hk r h
    cases l2 with
    | nil => simp at hk
    | cons e2 l2 =>
    simp only [List.map_cons, List.cons.injEq] at hk
    obtain ⟨hk1, hk2⟩ := hk
    simp only [Instr.findNow] at h ⊢
    rw [← hk1]
    cases hs : Instr.sameNow kind k e.key with
    | none => simp [hs] at h
    | some q =>
    cases q with
    | true =>
      simp [hs] at h
      subst h
      exact .inr ⟨0, e.val, e2, rfl, rfl, rfl⟩
    | false =>
      simp only [hs] at h
      rcases ih l2 (i + 1) hk2 r h with ⟨h1, h2⟩ | ⟨j, v, m, h1, h2, h3⟩
      · exact .inl ⟨h1, h2⟩
      · exact .inr ⟨j + 1, v, m, by rw [h1]; congr 2; omega, by simpa using h2, by rw [show i + (j + 1) = i + 1 + j from by omega]; exact h3⟩

theorem findAsking_keys {P : Program} (kt : TypeId) (k : Value) (w : World) : ∀ (l1 l2 : List MapEntry) (i : Nat), l1.map (·.key) = l2.map (·.key) →
    ∀ r, ev P (Instr.findAsking kt k l1 i) = some r → (r = none ∧ (Instr.findAsking kt k l2 i).run P w = .ok none w) ∨ ∃ j v m, r = some (i + j, v) ∧ l2[j]? = some m ∧ (Instr.findAsking kt k l2 i).run P w = .ok (some (i + j, m.val)) w := by
  intro l1
  induction l1 with
  | nil =>
    intro l2 i hk r h
    cases l2 with
    | cons => simp at hk
    | nil => simp [Instr.findAsking, ev_pure] at h ⊢; exact h.symm
  | cons e l1 ih =>
    intro l2 i hk r h
    cases l2 with
    | nil => simp at hk
    | cons e2 l2 =>
    simp only [List.map_cons, List.cons.injEq] at hk
    obtain ⟨hk1, hk2⟩ := hk
    simp only [Instr.findAsking, ev_bind'] at h ⊢
    cases hq : ev P (Op.equal kt k e.key) with
    | none => simp [hq] at h
    | some q =>
    have hrun := ev_ok _ _ w hq
    rw [hk1] at hrun
    rw [hq] at h
    cases q with
    | true =>
      simp [ev_pure] at h
      subst h
      exact .inr ⟨0, e.val, e2, rfl, rfl, by simp [hrun]⟩
    | false =>
      simp at h
      rcases ih l2 (i + 1) hk2 r h with ⟨h1, h2⟩ | ⟨j, v, m, h1, h2, h3⟩
      · exact .inl ⟨h1, by simp [hrun, h2]⟩
      · exact .inr ⟨j + 1, v, m, by rw [h1]; congr 2; omega, by simpa using h2, by rw [show i + (j + 1) = i + 1 + j from by omega]; simp [hrun, h3]⟩

theorem ev_underlying {P : Program} {t : TypeId} {d : TypeDesc} (h : ev P (underlying t) = some d) : P.underlying t = some d := by
  have h1 := ev_ok (P := P) _ _ (default : World) h
  cases hu : P.underlying t with
  | some d' => rw [run_underlying hu] at h1; cases h1; rfl
  | none =>
    exfalso
    have : ∀ w, (underlying t).run P w ≠ .ok d w := by
      intro w
      simp only [underlying, Sem.run_bind]
      simp [program, Sem.run, hu, stuck]
    exact this _ h1

theorem findK_exact {P : Program} {g : Gh} {w : World} {kt : TypeId} {k : Value} {es : List (Value × AV)} {ms : Array MapEntry} (hlen : ms.size = es.length)
    (hkv : ∀ (i : Nat) e m, es[i]? = some e → ms[i]? = some m → m.key = e.1 ∧ Rel g w e.2 m.val) {r : Option Nat} (h : (ev P (Instr.findKey kt k (keysM es))).map (fun r => r.map (·.1)) = some r) :
    (r = none ∧ (Instr.findKey kt k ms.toList).run P w = .ok none w) ∨ ∃ i e m, r = some i ∧ es[i]? = some e ∧ ms[i]? = some m ∧ (Instr.findKey kt k ms.toList).run P w = .ok (some (i, m.val)) w := by
  unfold keysM at h
  have hkeys : (es.map fun e => ({ key := e.1, val := undef, born := 0 } : MapEntry)).map (·.key) = ms.toList.map (·.key) := by
    apply List.ext_getElem?
    intro i
    simp only [List.map_map, List.getElem?_map, Array.getElem?_toList]
    by_cases hi : i < es.length
    · have e1 := List.getElem?_eq_getElem hi
      have e2 := Array.getElem?_eq_getElem (xs := ms) (i := i) (by omega)
      rw [e1, e2]
      simp only [Option.map_some, Function.comp_apply]
      rw [(hkv i _ _ e1 e2).1]
    · rw [List.getElem?_eq_none (by omega), Array.getElem?_eq_none (by omega)]; rfl
  have conv : ∀ (j : Nat) (m : MapEntry), ms.toList[j]? = some m → ∃ e, es[j]? = some e ∧ ms[j]? = some m := by
    intro j m hm
    rw [Array.getElem?_toList] at hm
    have hj : j < es.length := by rw [← hlen]; exact (Array.getElem?_eq_some_iff.1 hm).1
    exact ⟨es[j], List.getElem?_eq_getElem hj, hm⟩
  simp only [Option.map_eq_some_iff] at h
  obtain ⟨r0, h1, rfl⟩ := h
  unfold Instr.findKey at h1
  rw [ev_bind'] at h1
  cases hu : ev P (underlying kt) with
  | none => simp [hu] at h1
  | some d =>
  have hu' := ev_underlying hu
  rw [hu] at h1
  simp only [Option.bind_some] at h1
  cases hf : Instr.findNow d k (es.map fun e => ({ key := e.1, val := undef, born := 0 } : MapEntry)) 0 with
  | some r1 =>
    rw [hf] at h1
    simp [ev_pure] at h1
    subst h1
    rcases findNow_keys d k _ _ 0 hkeys r1 hf with ⟨rfl, h3⟩ | ⟨j, v, m, rfl, h3, h4⟩
    · exact .inl ⟨rfl, by simp [Instr.findKey, run_underlying hu', h3]⟩
    · obtain ⟨e, e1, e2⟩ := conv j m h3
      exact .inr ⟨j, e, m, by simp, e1, e2, by simp [Instr.findKey, run_underlying hu', h4]⟩
  | none =>
    have hf2 : Instr.findNow d k ms.toList 0 = none := by
      have key : ∀ (l1 l2 : List MapEntry) (i : Nat), l1.map (·.key) = l2.map (·.key) → Instr.findNow d k l1 i = none → Instr.findNow d k l2 i = none := by
        intro l1
        induction l1 with
        | nil => intro l2 i hk h; simp [Instr.findNow] at h
        | cons a l1 ih =>
          intro l2 i hk h
          cases l2 with
          | nil => simp at hk
          | cons b l2 =>
          simp only [List.map_cons, List.cons.injEq] at hk
          simp only [Instr.findNow] at h ⊢
          rw [← hk.1]
          cases hs : Instr.sameNow d k a.key with
          | none => rfl
          | some q =>
            cases q with
            | true => simp [hs] at h
            | false => simp only [hs] at h ⊢; exact ih l2 (i + 1) hk.2 h
      exact key _ _ 0 hkeys hf
    rw [hf] at h1
    simp only at h1
    rcases findAsking_keys kt k w _ _ 0 hkeys r0 h1 with ⟨rfl, h3⟩ | ⟨j, v, m, rfl, h3, h4⟩
    · exact .inl ⟨rfl, by simp [Instr.findKey, run_underlying hu', hf2, h3]⟩
    · obtain ⟨e, e1, e2⟩ := conv j m h3
      exact .inr ⟨j, e, m, by simp, e1, e2, by simp [Instr.findKey, run_underlying hu', hf2, h4]⟩


/-! ### Keys that tell entries apart, in whatever order -/
theorem findNow_all (d : TypeDesc) (k : Value) : ∀ (L : List MapEntry) (i : Nat), (∀ m ∈ L, (Instr.sameNow d k m.key).isSome = true) →
    (Instr.findNow d k L i = some none ∧ ∀ m ∈ L, Instr.sameNow d k m.key = some false) ∨ ∃ j m, L[j]? = some m ∧ Instr.sameNow d k m.key = some true ∧ Instr.findNow d k L i = some (some (i + j, m.val))
  | [], i, _ => .inl ⟨rfl, fun m hm => by cases hm⟩
  | e :: L, i, h => by
    have h0 := h e (by simp)
    cases hs : Instr.sameNow d k e.key with
    | none => rw [hs] at h0; cases h0
    | some q =>
      cases q with
      | true => exact .inr ⟨0, e, rfl, hs, by simp [Instr.findNow, hs]⟩
      | false =>
        rcases findNow_all d k L (i + 1) (fun m hm => h m (by simp [hm])) with ⟨h1, h2⟩ | ⟨j, m, h1, h2, h3⟩
        · refine .inl ⟨by simp [Instr.findNow, hs, h1], fun m hm => ?_⟩
          rcases List.mem_cons.1 hm with rfl | hm
          · exact hs
          · exact h2 m hm
        · exact .inr ⟨j + 1, m, by simpa using h1, h2, by simp only [Instr.findNow, hs]; rw [h3, show i + 1 + j = i + (j + 1) from by omega]⟩
theorem beq_bytes (a b : ByteArray) : (a == b) = true ↔ a = b := by
  obtain ⟨x⟩ := a
  obtain ⟨y⟩ := b
  show (x == y) = true ↔ _
  simp
theorem sameNow_some {d : TypeDesc} {k a : Value} {q : Bool} (h : Instr.sameNow d k a = some q) :
    (∃ kd k0 n m, d = .int kd ∧ k = .int k0 n ∧ a = .int k0 m ∧ q = (n == m)) ∨ (∃ s t, d = .string ∧ k = .string s ∧ a = .string t ∧ q = (s == t)) ∨ (∃ x y, d = .bool ∧ k = .bool x ∧ a = .bool y ∧ q = (x == y)) := by
  unfold Instr.sameNow at h
  split at h
  · split at h
    · rename_i e
      subst e
      simp only [Option.some.injEq] at h
      exact .inl ⟨_, _, _, _, rfl, rfl, rfl, h.symm⟩
    · cases h
  · simp only [Option.some.injEq] at h
    exact .inr (.inl ⟨_, _, rfl, rfl, rfl, h.symm⟩)
  · simp only [Option.some.injEq] at h
    exact .inr (.inr ⟨_, _, rfl, rfl, rfl, h.symm⟩)
  · cases h
theorem sameNow_two {d : TypeDesc} {k a b : Value} (ha : Instr.sameNow d k a = some true) (hb : Instr.sameNow d k b = some true) : apartV a b = false := by
  rcases sameNow_some ha with ⟨kd, k0, n, m, rfl, rfl, rfl, e⟩ | ⟨s, t, rfl, rfl, rfl, e⟩ | ⟨x, y, rfl, rfl, rfl, e⟩
  · rcases sameNow_some hb with ⟨kd', k0', n', m', _, e2, rfl, e3⟩ | ⟨s, t, e2, _⟩ | ⟨x, y, e2, _⟩
    · cases e2
      have e4 := eq_of_beq e.symm
      have e5 := eq_of_beq e3.symm
      subst e4 e5
      simp [apartV]
    · cases e2
    · cases e2
  · rcases sameNow_some hb with ⟨kd', k0', n', m', e2, _⟩ | ⟨s', t', _, e2, rfl, e3⟩ | ⟨x, y, e2, _⟩
    · cases e2
    · cases e2
      have e4 := (beq_bytes _ _).1 e.symm
      have e5 := (beq_bytes _ _).1 e3.symm
      subst e4 e5
      have : (s == s) = true := (beq_bytes _ _).2 rfl
      simp [apartV, this]
    · cases e2
  · rfl
theorem sameNow_sort {d : TypeDesc} {k a b : Value} (h : apartV a b = true) (ha : (Instr.sameNow d k a).isSome = true) : (Instr.sameNow d k b).isSome = true := by
  obtain ⟨q, hq⟩ := Option.isSome_iff_exists.1 ha
  rcases sameNow_some hq with ⟨kd, k0, n, m, rfl, rfl, rfl, e⟩ | ⟨s, t, rfl, rfl, rfl, e⟩ | ⟨x, y, rfl, rfl, rfl, e⟩
  · cases b <;> first | (cases h; done) | skip
    rename_i k1 n1
    simp only [apartV, Bool.and_eq_true, decide_eq_true_eq] at h
    obtain ⟨rfl, _⟩ := h
    simp [Instr.sameNow]
  · cases b <;> first | (cases h; done) | rfl
  · cases h
theorem apartV_comm (a b : Value) : apartV a b = apartV b a := by
  cases a <;> cases b <;> first | rfl | skip
  · rename_i k n k' m
    simp only [apartV]
    by_cases h1 : k = k'
    · subst h1
      have : (n == m) = (m == n) := Bool.eq_iff_iff.2 ⟨fun h => beq_iff_eq.2 (eq_of_beq h).symm, fun h => beq_iff_eq.2 (eq_of_beq h).symm⟩
      simp [this]
    · simp [h1, Ne.symm h1]
  · rename_i s t
    simp only [apartV]
    have : (s == t) = (t == s) := Bool.eq_iff_iff.2 (by rw [beq_bytes, beq_bytes]; exact eq_comm)
    rw [this]
theorem apartK_lt : ∀ {es : List (Value × AV)}, apartK es = true → ∀ {i j : Nat} {e e' : Value × AV}, i < j → es[i]? = some e → es[j]? = some e' → apartV e.1 e'.1 = true
  | [], _, i, j, e, e', _, h, _ => by simp at h
  | a :: r, h, i, j, e, e', hij, hi, hj => by
    simp only [apartK, Bool.and_eq_true, List.all_eq_true] at h
    obtain ⟨j, rfl⟩ : ∃ q, j = q + 1 := ⟨j - 1, by omega⟩
    cases i with
    | zero =>
      simp at hi
      subst hi
      exact h.1 e' (List.mem_of_getElem? (by rw [List.getElem?_cons_succ] at hj; exact hj))
    | succ i =>
      rw [List.getElem?_cons_succ] at hi hj
      exact apartK_lt h.2 (by omega) hi hj
theorem apartK_get {es : List (Value × AV)} (h : apartK es = true) {i j : Nat} {e e' : Value × AV} (hij : i ≠ j) (hi : es[i]? = some e) (hj : es[j]? = some e') : apartV e.1 e'.1 = true := by
  rcases Nat.lt_or_gt_of_ne hij with q | q
  · exact apartK_lt h q hi hj
  · rw [apartV_comm]; exact apartK_lt h q hj hi

/-- What a key is found to be. -/
def Finds (P : Program) (g : Gh) (w : World) (kt : TypeId) (k : Value) (es : List (Value × AV)) (ms : Array MapEntry) (r : Option Nat) : Prop :=
  (r = none ∧ (Instr.findKey kt k ms.toList).run P w = .ok none w) ∨
  ∃ i j e m l, r = some i ∧ es[i]? = some e ∧ ms[j]? = some m ∧ (Instr.findKey kt k ms.toList).run P w = .ok (some (j, m.val)) w ∧ l.Perm ms.toList ∧ l[i]? = some m ∧
    (∀ (i : Nat) e m, es[i]? = some e → l[i]? = some m → m.key = e.1 ∧ Rel g w e.2 m.val) ∧ (l = ms.toList ∧ i = j ∨ loose es = true)
theorem findK_ok {P : Program} {g : Gh} {w : World} {kt : TypeId} {k : Value} {es : List (Value × AV)} {ms : Array MapEntry} {c : Nat} (hm : MapRel g w es ms c) {r : Option Nat} (h : findK P kt k es = some r) : Finds P g w kt k es ms r := by
  unfold findK at h
  cases hlo : loose es with
  | false =>
    rw [hlo] at h
    rcases findK_exact hm.len (hm.exact hlo) h with h1 | ⟨i, e, m, h1, h2, h3, h4⟩
    · exact .inl h1
    · exact .inr ⟨i, i, e, m, ms.toList, h1, h2, h3, h4, .refl _, by simpa using h3, fun i e m he hm' => hm.exact hlo i e m he (by simpa using hm'), .inl ⟨rfl, rfl⟩⟩
  | true =>
    rw [hlo] at h
    cases hn : nowOk P kt k es with
    | false => rw [hn] at h; cases h
    | true =>
    rw [hn] at h
    simp only [Bool.not_true, Bool.or_true, cond_true] at h
    unfold nowOk at hn
    cases hu : P.underlying kt with
    | none => rw [hu] at hn; cases hn
    | some d =>
    rw [hu] at hn
    simp only at hn
    have hevu : ev P (underlying kt) = some d := by
      simp [underlying, program, ev, hu, ev_bind', ev_pure, Sem.bind, bind]
    have hevk : ev P (Instr.findKey kt k (keysM es)) = Instr.findNow d k (keysM es) 0 := by
      unfold Instr.findKey
      rw [ev_bind', hevu]
      simp only [Option.bind_some]
      cases hq : Instr.findNow d k (keysM es) 0 with
      | none => rw [hq] at hn; cases hn
      | some q => rfl
    rw [hevk] at h
    unfold loose at hlo
    simp only [Bool.and_eq_true] at hlo
    obtain ⟨hlen2, hap⟩ := hlo
    have hlen2 := Nat.le_of_ble_eq_true hlen2
    obtain ⟨l, p1, p2, p3⟩ := hm.perm
    have hll : l.length = es.length := by rw [p1.length_eq, ← hm.len]; simp
    have hkeysM : ∀ (i : Nat) m, (keysM es)[i]? = some m → ∃ e, es[i]? = some e ∧ m.key = e.1 := fun i m hi => by
      simp only [keysM, List.getElem?_map, Option.map_eq_some_iff] at hi
      obtain ⟨e, h1, rfl⟩ := hi
      exact ⟨e, h1, rfl⟩
    have hes : ∀ (i : Nat) e, es[i]? = some e → (Instr.sameNow d k e.1).isSome = true := by
      obtain ⟨e0, r0, rfl⟩ : ∃ e0 r0, es = e0 :: r0 := by
        cases es with
        | nil => simp at hlen2
        | cons a r => exact ⟨a, r, rfl⟩
      have h0 : (Instr.sameNow d k e0.1).isSome = true := by
        simp only [keysM, List.map_cons, Instr.findNow] at hn
        cases hq : Instr.sameNow d k e0.1 with
        | none => rw [hq] at hn; cases hn
        | some q => rfl
      intro i e hi
      cases i with
      | zero => simp at hi; subst hi; exact h0
      | succ i => exact sameNow_sort (apartK_get hap (i := 0) (j := i + 1) (by omega) rfl hi) h0
    have hmem : ∀ m ∈ ms.toList, ∃ (i : Nat) (e : Value × AV), l[i]? = some m ∧ es[i]? = some e ∧ m.key = e.1 := fun m hmm => by
      obtain ⟨i, hi⟩ := List.mem_iff_getElem?.1 (p1.mem_iff.2 hmm)
      have hil : i < es.length := by rw [← hll]; exact (List.getElem?_eq_some_iff.1 hi).1
      exact ⟨i, es[i], hi, List.getElem?_eq_getElem hil, (p2 i _ m (List.getElem?_eq_getElem hil) hi).1⟩
    have hms : ∀ m ∈ ms.toList, (Instr.sameNow d k m.key).isSome = true := fun m hmm => by
      obtain ⟨i, e, _, h2, h3⟩ := hmem m hmm
      rw [h3]; exact hes i e h2
    have hks : ∀ m ∈ keysM es, (Instr.sameNow d k m.key).isSome = true := fun m hmm => by
      obtain ⟨i, hi⟩ := List.mem_iff_getElem?.1 hmm
      obtain ⟨e, h1, h2⟩ := hkeysM i m hi
      rw [h2]; exact hes i e h1
    have hrun : ∀ r, Instr.findNow d k ms.toList 0 = some r → (Instr.findKey kt k ms.toList).run P w = .ok r w := fun r hr => by simp [Instr.findKey, run_underlying hu, hr]
    rcases findNow_all d k ms.toList 0 hms with ⟨a1, a2⟩ | ⟨j, m, a1, a2, a3⟩
    · rcases findNow_all d k (keysM es) 0 hks with ⟨b1, b2⟩ | ⟨i, m, b1, b2, b3⟩
      · rw [b1] at h
        simp at h
        exact .inl ⟨h.symm, hrun _ a1⟩
      · exfalso
        obtain ⟨e, c1, c2⟩ := hkeysM i m b1
        have hil : i < l.length := by rw [hll]; exact (List.getElem?_eq_some_iff.1 c1).1
        have hl := List.getElem?_eq_getElem hil
        have := (p2 i e _ c1 hl).1
        have hf := a2 l[i] (p1.mem_iff.1 (List.mem_of_getElem? hl))
        rw [this, ← c2, b2] at hf
        cases hf
    · obtain ⟨i, e, c1, c2, c3⟩ := hmem m (List.mem_of_getElem? a1)
      rcases findNow_all d k (keysM es) 0 hks with ⟨b1, b2⟩ | ⟨i', m', b1, b2, b3⟩
      · exfalso
        have hk : (keysM es)[i]? = some { key := e.1, val := undef, born := 0 } := by simp [keysM, c2]
        have := b2 _ (List.mem_of_getElem? hk)
        simp only at this
        rw [← c3, a2] at this
        cases this
      · obtain ⟨e', d1, d2⟩ := hkeysM i' m' b1
        have hii : i' = i := by
          rcases Nat.decEq i' i with hne | he
          · have h5 := apartK_get hap hne d1 c2
            rw [← d2, ← c3, sameNow_two b2 a2] at h5
            cases h5
          · exact he
        subst hii
        rw [b3] at h
        simp at h
        refine .inr ⟨i', j, e, m, l, h.symm, c2, by simpa using a1, hrun _ (by simpa using a3), p1, c1, p2, .inr ?_⟩
        unfold loose
        rw [Nat.ble_eq_true_of_le hlen2, hap]
        rfl

theorem perm_small {α : Type} {l k : List α} (h : l.Perm k) (hl : l.length ≤ 1) : l = k := by
  match l, hl with
  | [], _ => exact (h.symm.eq_nil).symm
  | [a], _ => exact (List.perm_singleton.1 h.symm).symm
theorem stays_mode {es es' : List (Value × AV)} {l l' k k' : List MapEntry} (hx : l = k → l' = k') (hm : l = k ∨ loose es = true) (hs : stays es es' = true) (hp : l'.Perm k') (hlen : l'.length = es'.length) : l' = k' ∨ loose es' = true := by
  rcases hm with hm | hm
  · exact .inl (hx hm)
  · unfold stays at hs
    rw [hm] at hs
    simp only [Bool.not_true, Bool.false_or, Bool.or_eq_true] at hs
    rcases hs with hs | hs
    · exact .inr hs
    · exact .inl (perm_small hp (by rw [hlen]; exact Nat.le_of_ble_eq_true hs))

theorem setMap {P : Program} {w : World} {b : Nat} {ms : Array MapEntry} {c : Nat} (o : Obj) (h : w.heap[b]? = some (.map ms c)) : (setObj b o).run P w = .ok () (putB w b o) := by
  simp [setObj, Sem.run, h, putB]

/-- A map is written. -/
theorem put_map {P : Program} {g : Gh} {st s1 st' : St} {w : World} {o b base : Nat} {es es' : List (Value × AV)} {ms ms' : Array MapEntry} {c c' : Nat} {u : Unit}
    (hok : Ok g st.h w) (ho : st.h.get o = some (.map es)) (hi : g.inj o = some (b, base)) (hb0 : base = 0) (hm : w.heap[b]? = some (.map ms c)) (hrel : MapRel g w es' ms' c')
    (hs1 : s1.h = st.h ∧ s1.nx = st.nx) (h : hset o (.map es') s1 = some (u, st')) :
    (setObj b (.map ms' c')).run P w = .ok () (putB w b (.map ms' c')) ∧ Step g st.h w st.nx st'.nx g st'.h (putB w b (.map ms' c')) ∧ Ok g st'.h (putB w b (.map ms' c')) := by
  obtain ⟨_, hlim, hh2, hn2⟩ := hset_some h
  have hmod := modify_step (x := .map es) (x' := .map es') (lo := st.nx) (up := st'.nx) (ob' := .map ms' c') hok ho hi hm (fun cs0 e0 fr0 he => by cases he)
    (fun j hj => by simp [World.cell?, hm, putB_same _ (lt_of_heap hm)]) hlim
    (fun hext => ⟨hb0, ms', c', putB_same _ (lt_of_heap hm), hrel.same rfl id fun i e v he => ⟨e, he, rfl, fun hr => hr.ext hext⟩⟩)
  exact ⟨setMap _ hm, by rw [hh2, hs1.1]; exact hmod.1, by rw [hh2, hs1.1]; exact hmod.2⟩

theorem isEmpty_eq {es : List (Value × AV)} {ms : Array MapEntry} (h : ms.size = es.length) : ms.isEmpty = es.isEmpty := by
  cases es with
  | nil => simp at h; simp [h]
  | cons e es =>
    simp only [List.isEmpty_cons]
    cases hm : ms.isEmpty with
    | false => rfl
    | true => simp at hm; subst hm; simp at h

theorem lookupObj_inv {P : Program} {kt et : TypeId} {k : Value} {ok : Bool} {x : AObj} {s st' : St} {r : AV} (h : lookupObj P kt et k ok x s = some (r, st')) :
    ∃ es, x = .map es ∧ ev P (Instr.checkKey es.isEmpty 10000 kt k) = some () ∧ ∃ z, zeroT P et = some z ∧ st' = s ∧
      ((∃ i e, findK P kt k es = some (some i) ∧ es[i]? = some e ∧ r = bif ok then .tup [e.2, .sc (.bool true)] else e.2) ∨ (findK P kt k es = some none ∧ r = bif ok then .tup [.sc z, .sc (.bool false)] else .sc z)) := by
  cases x with
  | row => cases h
  | loop => cases h
  | map es =>
    refine ⟨es, rfl, ?_⟩
    simp only [lookupObj] at h
    cases hc : ev P (Instr.checkKey es.isEmpty 10000 kt k) with
    | none => simp [hc, M.fail] at h
    | some u =>
    cases hf : findK P kt k es with
    | none => simp [hc, hf, M.fail] at h
    | some q =>
    refine ⟨rfl, ?_⟩
    cases q with
    | none =>
      simp only [hc, hf] at h
      cases hz : zeroT P et with
      | none => simp [hz, found, M.fail] at h
      | some z =>
        rw [hz] at h
        obtain ⟨h1, h2⟩ := pure_some h
        exact ⟨z, rfl, h2, .inr ⟨rfl, h1⟩⟩
    | some i =>
      simp only [hc, hf] at h
      cases he : es[i]? with
      | none => simp [he, M.fail] at h
      | some e =>
      rw [he] at h
      cases hz : zeroT P et with
      | none => simp [hz, found, M.fail] at h
      | some z =>
        rw [hz] at h
        obtain ⟨h1, h2⟩ := pure_some h
        exact ⟨z, rfl, h2, .inl ⟨i, e, rfl, he, h1⟩⟩

theorem tup2 {g w a v} {b : Bool} (h : Rel g w a v) : Rel g w (.tup [a, .sc (.bool b)]) (.tuple #[v, .bool b]) :=
  .tup _ _ rfl (fun i x y h1 h2 => by
    cases i with
    | zero => simp at h1 h2; subst h1 h2; exact h
    | succ i => cases i with
      | zero => simp at h1 h2; subst h1 h2; exact .sc _
      | succ i => simp at h1)

theorem opLookup_ok {P : Program} {g st st' w} {t : TypeId} {x ix r : AV} {v k : Value} {ok : Bool} (hok : Ok g st.h w) (hx : Rel g w x v) (hk : Rel g w ix k) (h : opLookup P t x ix ok st = some (r, st')) :
    Does P g st w (Instr.lookup t v k ok) r st' := by
  unfold opLookup at h
  cases hu : P.underlying t with
  | none => simp [hu, M.fail] at h
  | some d =>
  rw [hu] at h
  cases d with
  | map kt et =>
    cases x with
    | mp id =>
      cases hkv : ix.toV with
      | none => simp [hkv, M.fail] at h
      | some kv =>
      simp only [hkv] at h
      have := hk.exact hkv
      subst this
      obtain ⟨y, s1, h1, h2⟩ := bind_some h
      obtain ⟨hy, hh, hn⟩ := hget_some h1
      obtain ⟨es, rfl, hc, z, hz, rfl, hr⟩ := lookupObj_inv h2
      cases hx with
      | mp _ b base hi =>
      obtain ⟨b', base', hi', _, hrel⟩ := hok.obj id _ hy
      rw [hi] at hi'; cases hi'
      obtain ⟨_, ms, clock, m1, m2⟩ := hrel
      have hck := ev_ok _ _ w hc
      rw [← isEmpty_eq m2.len] at hck
      rcases hr with ⟨i, e, hf, he, rfl⟩ | ⟨hf, rfl⟩
      · rcases findK_ok m2 hf with ⟨h3, _⟩ | ⟨i', j, e', m, l, h3, h4, h5, h6, _, h7, h8, _⟩
        · cases h3
        · cases h3
          rw [he] at h4; cases h4
          cases ok with
          | true => exact Does.still hok hh (by simp [Instr.lookup, run_underlying hu, getMap m1, hck, h6]) (tup2 (h8 _ _ _ he h7).2)
          | false => exact Does.still hok hh (by simp [Instr.lookup, run_underlying hu, getMap m1, hck, h6]) (h8 _ _ _ he h7).2
      · rcases findK_ok m2 hf with ⟨_, h3⟩ | ⟨i', j, e', m, l, h3, _⟩
        · cases ok with
          | true => exact Does.still hok hh (by simp [Instr.lookup, run_underlying hu, getMap m1, hck, h3, run_zeroValue hz]) (tup2 (.sc z))
          | false => exact Does.still hok hh (by simp [Instr.lookup, run_underlying hu, getMap m1, hck, h3, run_zeroValue hz]) (.sc z)
        · cases h3
    | _ => cases h
  | _ => cases h

end Go.Vm
