/- Addresses, parts, slices: operations that make no memory. No condition. -/
import Derived.Test.YtnkjblopaagkoaaVmI
namespace Go.Vm

theorem ev_ok {α : Type} {P : Program} : ∀ (s : Sem α) (a : α) (w : World), ev P s = some a → s.run P w = .ok a w := by
  intro s
  induction s with
  | pure x => intro a w h; simp [ev] at h; subst h; rfl
  | program k ih => intro a w h; exact ih P a w h
  | choose q k ih =>
    intro a w h
    simp only [ev] at h
    by_cases hq : q.forced = true
    · rw [if_pos hq] at h
      have := ih 0 a w h
      simp only [Sem.run, hq, if_true]
      exact this
    · rw [if_neg hq] at h; cases h
  | mark m k ih => intro a w h; exact ih a w h
  | _ => intro a w h; simp [ev] at h

theorem Rel.int_ok {g w a v k n} (h : Rel g w a v) (ha : a.int = some (k, n)) : v = .int k n ∧ a = .sc (.int k n) := by
  cases h with
  | sc =>
    simp only [AV.int, AV.exact, Option.bind_some] at ha
    cases v <;> simp [intOf] at ha
    obtain ⟨rfl, rfl⟩ := ha
    exact ⟨rfl, rfl⟩
  | _ => simp [AV.int, AV.exact] at ha
theorem Rel.asN_int {g w a v n} (h : Rel g w a v) (ha : asN a = some n) : ∃ k, v = .int k n := by
  simp only [asN, Option.map_eq_some_iff] at ha
  obtain ⟨⟨k, m⟩, h1, rfl⟩ := ha
  exact ⟨k, (h.int_ok h1).1⟩
theorem Rel.bool_ok {g w a v b} (h : Rel g w a v) (ha : a.bool = some b) : v = .bool b := by
  cases h with
  | sc =>
    simp only [AV.bool, AV.exact, Option.bind_some] at ha
    cases v <;> simp [boolOf] at ha
    subst ha; rfl
  | _ => simp [AV.bool, AV.exact] at ha

theorem opPick_ok {P : Program} {g st st' w c a b r} {cv av bv : Value} (hok : Ok g st.h w) (hc : Rel g w c cv) (ha : Rel g w a av) (hb : Rel g w b bv) (h : opPick c a b st = some (r, st')) :
    Does P g st w (do pure (if ← asBool cv then av else bv)) r st' := by
  unfold opPick at h
  cases hcb : c.bool with
  | none => simp [hcb, M.fail] at h
  | some q =>
    rw [hcb] at h
    obtain ⟨rfl, rfl⟩ := pure_some h
    have e := hc.bool_ok hcb
    subst e
    cases q with
    | true => exact Does.still hok rfl (by simp [asBool]) ha
    | false => exact Does.still hok rfl (by simp [asBool]) hb

/-- A value out of an aggregate. -/
theorem part_ok {P : Program} {g w} {t : TypeId} {l : List AV} {vs : Array Value} {off : Nat} {r : AV} (hl : RelL g w l vs.toList) (h : ofCells P t (l.drop off) = some r) :
    ∃ v, (part t vs off).run P w = .ok v w ∧ Rel g w r v := by
  unfold ofCells at h
  split at h
  · rename_i n ha hs
    cases hn : Nat.ble n (l.drop off).length with
    | false => rw [hn] at h; cases h
    | true =>
      rw [hn] at h
      simp at h
      subst h
      refine ⟨.agg (vs.extract off (off + n)), by simp only [part, Sem.run_bind, run_isAgg ha, run_sizeOf hs, Result.andThen_ok, if_true, Sem.run_pure], ?_⟩
      have hd := (hl.drop off).take n
      have e : (vs.extract off (off + n)).toList = (vs.toList.drop off).take n := by simp
      exact .agg _ _ (by rw [← hd.1, ← e, Array.length_toList]) (fun i a v h1 h2 => hd.2 i a v h1 (by rw [← e, Array.getElem?_toList]; exact h2))
  · rename_i ha
    have hd := hl.drop off
    obtain ⟨v, hv, hr⟩ := hd.get h
    rw [List.getElem?_drop, Nat.add_zero, Array.getElem?_toList] at hv
    exact ⟨v, by simp [part, run_isAgg ha, hv], hr⟩
  · cases h

theorem fieldOf_ok {P : Program} {s : TypeId} {f : Nat} {fd : Field} (h : fieldOf P s f = some fd) : ∃ fields, P.underlying s = some (.struct fields) ∧ fields[f]? = some fd := by
  unfold fieldOf at h
  split at h
  · rename_i fields hu; exact ⟨fields, hu, h⟩
  · cases h

theorem opField_ok {P : Program} {g st st' w} {s : TypeId} {x r : AV} {v : Value} {f : Nat} (hok : Ok g st.h w) (hx : Rel g w x v) (h : opField P s x f st = some (r, st')) : Does P g st w (Instr.field s v f) r st' := by
  unfold opField at h
  cases hf : fieldOf P s f with
  | none => cases x <;> simp [hf, M.fail] at h
  | some fd =>
  rw [hf] at h
  obtain ⟨fields, hu, hfd⟩ := fieldOf_ok hf
  have key : ∀ (l : List AV) (vs : Array Value), v = .agg vs → RelL g w l vs.toList → M.of (ofCells P fd.type (l.drop fd.offset)) st = some (r, st') → Does P g st w (Instr.field s v f) r st' := by
    intro l vs hv hl h
    subst hv
    obtain ⟨hof, e⟩ := of_some h
    obtain ⟨u, hu', hr⟩ := part_ok hl hof
    exact Does.still hok (by rw [e]) (by simp [Instr.field, run_underlying hu, hfd, asAgg, hu']) hr
  cases hx with
  | sc =>
    cases v with
    | agg vs => exact key _ vs rfl (RelL.scs g w _) h
    | _ => simp [M.fail] at h
  | agg l vs hs hr => exact key l vs rfl ⟨by simp [hs], fun i a v h1 h2 => hr i a v h1 (by simpa using h2)⟩ h
  | _ => simp [M.fail] at h

theorem cptr_drop {g w l v} (hx : Rel g w (.cptr l) v) (n : Nat) : ∃ b off, v = .pointer (some ⟨b, off, none⟩) ∧ Rel g w (.cptr (l.drop n)) (.pointer (some ⟨b, off + n, none⟩)) := by
  cases hx with
  | cptr l b off c h hr =>
    refine ⟨b, off, rfl, .cptr _ b (off + n) (fun j => c (n + j)) (fun j a hj => ?_) (fun j a hj => ?_)⟩
    · rw [List.getElem?_drop] at hj
      have := h _ a hj
      rw [Nat.add_assoc]; exact this
    · rw [List.getElem?_drop] at hj
      exact hr _ a hj

theorem opFieldAddr_ok {P : Program} {g st st' w} {s : TypeId} {x r : AV} {v : Value} {f : Nat} (hok : Ok g st.h w) (hx : Rel g w x v) (h : opFieldAddr P s x f st = some (r, st')) : Does P g st w (Instr.fieldAt s v f) r st' := by
  unfold opFieldAddr at h
  cases hf : fieldOf P s f with
  | none => simp [hf, M.fail] at h
  | some fd =>
  rw [hf] at h
  obtain ⟨fields, hu, hfd⟩ := fieldOf_ok hf
  cases hs : sizeT P fd.type with
  | none => simp [hs, M.fail] at h
  | some n =>
  simp only [hs] at h
  rcases cond_some h with ⟨_, h1⟩ | ⟨hn, h1⟩
  · cases h1
  have hn0 : n ≠ 0 := by intro e; subst e; cases hn
  cases x with
  | ptr id off =>
    obtain ⟨rfl, rfl⟩ := pure_some h1
    cases hx with
    | ptr _ _ b base hi =>
      refine Does.still (v := .pointer (some ⟨b, base + (off + fd.offset), none⟩)) hok rfl ?_ (.ptr _ _ b base hi)
      simp [Instr.fieldAt, run_underlying hu, hfd, Instr.sureAddr, fieldPlace, run_sizeOf hs, hn0, Addr.add_at, Nat.add_assoc]
  | cptr l =>
    obtain ⟨rfl, rfl⟩ := pure_some h1
    obtain ⟨b, off, rfl, hr⟩ := cptr_drop hx fd.offset
    refine Does.still hok rfl ?_ hr
    simp [Instr.fieldAt, run_underlying hu, hfd, Instr.sureAddr, fieldPlace, run_sizeOf hs, hn0, Addr.add_at]
  | _ => cases h1

theorem arrayT_ok {P : Program} {t : TypeId} {n sz : Nat} (h : arrayT P t = some (n, sz)) : ∃ e, P.underlying t = some (.array n e) ∧ sizeT P e = some sz := by
  unfold arrayT at h
  split at h
  · rename_i m e hu
    simp only [Option.map_eq_some_iff] at h
    obtain ⟨q, hq, he⟩ := h
    simp only [Prod.mk.injEq] at he
    obtain ⟨rfl, rfl⟩ := he
    exact ⟨e, hu, hq⟩
  · cases h

theorem elemIs_ok {P : Program} {t : TypeId} {sz : Nat} (h : elemIs P t sz = true) : ∃ e, P.underlying t = some (.slice e) ∧ sizeT P e = some sz := by
  unfold elemIs at h
  cases he : elemT P t with
  | none => simp [he] at h
  | some e =>
  cases hs : sizeT P e with
  | none => simp [he, hs] at h
  | some n =>
    simp only [he, hs, Option.bind_some] at h
    have := Nat.eq_of_beq_eq_true h
    subst this
    exact ⟨e, elem_of he, hs⟩

theorem drop_cells {sz : Nat} : ∀ (es : List AV), (∀ e ∈ es, e.cells.length = sz) → ∀ l, (es.flatMap AV.cells).drop (l * sz) = (es.drop l).flatMap AV.cells := by
  intro es
  induction es with
  | nil => intro _ l; simp
  | cons e es ih =>
    intro h l
    cases l with
    | zero => simp
    | succ l =>
      rw [List.flatMap_cons, List.drop_append, List.drop_succ_cons, ← ih (fun x hx => h x (by simp [hx])), h e (by simp), List.drop_eq_nil_of_le (by rw [h e (by simp), Nat.add_mul]; omega)]
      rw [List.nil_append]; congr 1; rw [Nat.add_mul]; omega
theorem take_cells {sz : Nat} : ∀ (es : List AV), (∀ e ∈ es, e.cells.length = sz) → ∀ l, (es.flatMap AV.cells).take (l * sz) = (es.take l).flatMap AV.cells := by
  intro es
  induction es with
  | nil => intro _ l; simp
  | cons e es ih =>
    intro h l
    cases l with
    | zero => simp
    | succ l =>
      rw [List.flatMap_cons, List.take_append, List.take_succ_cons, List.flatMap_cons, ← ih (fun x hx => h x (by simp [hx])), h e (by simp), List.take_of_length_le (by rw [h e (by simp), Nat.add_mul]; omega)]
      congr 2; rw [Nat.add_mul]; omega

theorem opIndexAddr_ok {P : Program} {g st st' w} {t : TypeId} {x ix r : AV} {v iv : Value} (hok : Ok g st.h w) (hx : Rel g w x v) (hi : Rel g w ix iv)
    (h : opIndexAddr P t x ix st = some (r, st')) : Does P g st w (Instr.indexAt t v iv) r st' := by
  unfold opIndexAddr at h
  cases hn : asN ix with
  | none => simp [hn, M.fail] at h
  | some i =>
  obtain ⟨k, rfl⟩ := hi.asN_int hn
  simp only [hn] at h
  rcases cond_some h with ⟨h0, h1⟩ | ⟨_, h1⟩
  case inr => cases h1
  have h0 : 0 ≤ i := by simpa using h0
  cases x with
  | vl loc sz es =>
    simp only [indexIn] at h1
    cases he : es[i.toNat]? with
    | none => simp [he, M.fail] at h1
    | some el =>
    simp only [he] at h1
    rcases cond_some h1 with ⟨hs, h2⟩ | ⟨_, h2⟩
    case inr => cases h2
    obtain ⟨rfl, rfl⟩ := pure_some h2
    obtain ⟨e, hu, hsz⟩ := elemIs_ok hs
    have hlt : i.toNat < es.length := (List.getElem?_eq_some_iff.1 he).1
    cases hx with
    | vl _ _ _ b off cap c hszs hl hcap hc hr =>
      have hcell : ∀ (j : Nat) a, el.cells[j]? = some a → (es.flatMap AV.cells)[i.toNat * sz + j]? = some a := by
        intro j a hj
        rw [← List.getElem?_drop, drop_cells es hszs, List.drop_eq_getElem_cons hlt, List.flatMap_cons]
        have : es[i.toNat] = el := by rw [List.getElem?_eq_getElem hlt] at he; exact Option.some.inj he
        rw [this, List.getElem?_append_left (List.getElem?_eq_some_iff.1 hj).1]; exact hj
      refine Does.still (v := .pointer (some ⟨b, off + i.toNat * sz, none⟩)) hok rfl ?_ (.cptr _ b (off + i.toNat * sz) (fun j => c (i.toNat * sz + j)) (fun j a hj => ?_) (fun j a hj => hr _ a (hcell j a hj)))
      · have q1 : 0 ≤ i ∧ i < (es.length : Int) := ⟨h0, by omega⟩
        simp [Instr.indexAt, asIntOf, run_underlying hu, run_sizeOf hsz, q1, Addr.add_at]
      · have := hc _ a (hcell j a hj); rw [Nat.add_assoc]; exact this
    | vlnil => simp at hlt
    | vlz => simp at hlt
  | sl o off len sz =>
    rcases cond_some h1 with ⟨hs, h2⟩ | ⟨_, h2⟩
    case inr => cases h2
    obtain ⟨rfl, rfl⟩ := pure_some h2
    simp only [Bool.and_eq_true] at hs
    obtain ⟨e, hu, hsz⟩ := elemIs_ok hs.2
    have hlt : i.toNat < len := Nat.le_of_ble_eq_true hs.1
    cases hx with
    | slz => omega
    | sln => omega
    | sl _ _ _ _ b base cap hi hcap hm hr =>
      refine Does.still (v := .pointer (some ⟨b, base + (off + i.toNat * sz), none⟩)) hok rfl ?_ (.ptr _ _ b base hi)
      have q1 : 0 ≤ i ∧ i < (len : Int) := ⟨h0, by omega⟩
      simp [Instr.indexAt, asIntOf, run_underlying hu, run_sizeOf hsz, q1, Addr.add_at, Nat.add_assoc]
  | ptr o off =>
    simp only [indexIn] at h1
    cases ha : arrayT P t with
    | none => simp [ha, M.fail] at h1
    | some q =>
    obtain ⟨n, sz⟩ := q
    simp only [ha] at h1
    rcases cond_some h1 with ⟨hs, h2⟩ | ⟨_, h2⟩
    case inr => cases h2
    obtain ⟨rfl, rfl⟩ := pure_some h2
    obtain ⟨e, hu, hsz⟩ := arrayT_ok ha
    have hlt : i.toNat < n := Nat.le_of_ble_eq_true hs
    cases hx with
    | ptr _ _ b base hi =>
      refine Does.still (v := .pointer (some ⟨b, base + (off + i.toNat * sz), none⟩)) hok rfl ?_ (.ptr _ _ b base hi)
      have q1 : 0 ≤ i ∧ i < (n : Int) := ⟨h0, by omega⟩
      simp [Instr.indexAt, Instr.sureAddr, asIntOf, run_underlying hu, run_sizeOf hsz, q1, Addr.add_at, Nat.add_assoc]
  | cptr l =>
    simp only [indexIn] at h1
    cases ha : arrayT P t with
    | none => simp [ha, M.fail] at h1
    | some q =>
    obtain ⟨n, sz⟩ := q
    simp only [ha] at h1
    rcases cond_some h1 with ⟨hs, h2⟩ | ⟨_, h2⟩
    case inr => cases h2
    obtain ⟨rfl, rfl⟩ := pure_some h2
    obtain ⟨e, hu, hsz⟩ := arrayT_ok ha
    have hlt : i.toNat < n := Nat.le_of_ble_eq_true hs
    obtain ⟨b, off, rfl, hr⟩ := cptr_drop hx (i.toNat * sz)
    refine Does.still hok rfl ?_ hr
    have q1 : 0 ≤ i ∧ i < (n : Int) := ⟨h0, by omega⟩
    simp [Instr.indexAt, Instr.sureAddr, asIntOf, run_underlying hu, run_sizeOf hsz, q1, Addr.add_at]
  | _ => cases h1

end Go.Vm
