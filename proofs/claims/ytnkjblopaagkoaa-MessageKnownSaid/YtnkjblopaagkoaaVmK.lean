/- Slices, parts of arrays, interfaces, lengths. No condition. -/
import Derived.Test.YtnkjblopaagkoaaVmJ
namespace Go.Vm

/-- The frame of values and of their descriptions. -/
def RelF (g : Gh) (w : World) (ρa : Operand → AV) (ρ : Operand → Value) : Prop := ∀ x, Rel g w (ρa x) (ρ x)

theorem exact_of {g w ρa ρ} (hρ : RelF g w ρa ρ) {l : List Operand} (h : exactAll ρa l = true) : ∀ x ∈ l, ((ρa x).toV).getD undef = ρ x := by
  intro x hx
  have := List.all_eq_true.1 h x hx
  obtain ⟨v, hv⟩ := Option.isSome_iff_exists.1 this
  rw [hv, (hρ x).exact hv]; rfl

theorem bnd_ok {g w ρa ρ} (hρ : RelF g w ρa ρ) {d n : Nat} {o : Option Operand} (h : bnd ρa d o = some n) :
    (o = none ∧ n = d) ∨ ∃ x k i, o = some x ∧ ρ x = .int k i ∧ 0 ≤ i ∧ i.toNat = n := by
  cases o with
  | none => simp [bnd] at h; exact .inl ⟨rfl, h.symm⟩
  | some x =>
    simp only [bnd] at h
    have hx := hρ x
    split at h
    · rename_i k i he
      rw [he] at hx
      cases hd : decide (0 ≤ i) with
      | false => rw [hd] at h; cases h
      | true =>
        rw [hd] at h
        simp at h hd
        refine .inr ⟨x, k, i, rfl, hx.exact rfl, hd, h⟩
    · cases h

theorem run_bound {P : Program} {w : World} {k : IntKind} {i : Int} {y n : Nat} {code : BoundsCode} (h0 : 0 ≤ i) (hn : i.toNat = n) (hy : n ≤ y) : (Instr.sliceBound (.int k i) y code).run P w = .ok n w := by
  have : 0 ≤ i ∧ i ≤ (y : Int) := ⟨h0, by omega⟩
  simp [Instr.sliceBound, asIntOf, this, hn]

theorem bounds_ok {P : Program} {g w ρa ρ} (hρ : RelF g w ρa ρ) {isS : Bool} {len cap : Nat} {lo hi mx : Option Operand} {l h : Nat} {z : Bool} (hc : len ≤ cap) (hb : bounds ρa len lo hi mx = some (l, h, z)) :
    l ≤ h ∧ h ≤ len ∧ ∃ m, (Instr.sliceBounds isS len cap (lo.map ρ) (hi.map ρ) (mx.map ρ)).run P w = .ok (l, h, m) w ∧ h ≤ m ∧ m ≤ cap ∧ (z = true → m = l) ∧ (z = false → m = cap) := by
  unfold bounds at hb
  cases h1 : bnd ρa 0 lo with
  | none => simp [h1] at hb
  | some l' =>
  cases h2 : bnd ρa len hi with
  | none => simp [h1, h2] at hb
  | some h' =>
  simp only [h1, h2] at hb
  cases hle : (Nat.ble l' h' && Nat.ble h' len) with
  | false => rw [hle] at hb; cases hb
  | true =>
  rw [hle] at hb
  simp only [cond_true] at hb
  simp only [Bool.and_eq_true] at hle
  have c1 := Nat.le_of_ble_eq_true hle.1
  have c2 := Nat.le_of_ble_eq_true hle.2
  cases mx with
  | none =>
    simp only [Option.some.injEq, Prod.mk.injEq] at hb
    obtain ⟨rfl, rfl, rfl⟩ := hb
    refine ⟨c1, c2, cap, ?_, by omega, Nat.le_refl _, (fun e => by cases e), (fun _ => rfl)⟩
    rcases bnd_ok hρ h1 with ⟨rfl, rfl⟩ | ⟨x, k, i, rfl, e1, e2, e3⟩ <;> rcases bnd_ok hρ h2 with ⟨rfl, rfl⟩ | ⟨x', k', i', rfl, e1', e2', e3'⟩
    · simp [Instr.sliceBounds]
    · simp only [Instr.sliceBounds, Option.map_none, Option.map_some, e1', Sem.run_bind, Sem.run_pure, Result.andThen_ok, run_bound e2' e3' (show h' ≤ cap by omega)]
    · simp only [Instr.sliceBounds, Option.map_none, Option.map_some, e1, Sem.run_bind, Sem.run_pure, Result.andThen_ok, run_bound e2 e3 c1]
    · simp only [Instr.sliceBounds, Option.map_none, Option.map_some, e1, e1', Sem.run_bind, Sem.run_pure, Result.andThen_ok, run_bound e2 e3 c1, run_bound e2' e3' (show h' ≤ cap by omega)]
  | some xm =>
    simp only at hb
    cases h3 : bnd ρa 0 (some xm) with
    | none => simp [h3] at hb
    | some m' =>
    simp only [h3] at hb
    cases hq : (Nat.beq m' l' && Nat.beq h' l' && hi.isSome) with
    | false => rw [hq] at hb; cases hb
    | true =>
    rw [hq] at hb
    simp only [cond_true, Option.some.injEq, Prod.mk.injEq] at hb
    obtain ⟨rfl, rfl, rfl⟩ := hb
    simp only [Bool.and_eq_true] at hq
    have q1 := Nat.eq_of_beq_eq_true hq.1.1
    have q2 := Nat.eq_of_beq_eq_true hq.1.2
    have q3 := hq.2
    subst q1 q2
    rcases bnd_ok hρ h3 with ⟨e, _⟩ | ⟨xm', km, im, e, m1, m2, m3⟩
    · cases e
    cases e
    cases hi with
    | none =>
      cases q3
    | some xh =>
      rcases bnd_ok hρ h2 with ⟨e, _⟩ | ⟨x', k', i', e, e1', e2', e3'⟩
      · cases e
      cases e
      refine ⟨c1, c2, h', ?_, by omega, by omega, (fun _ => rfl), (fun e => by cases e)⟩
      rcases bnd_ok hρ h1 with ⟨rfl, e0⟩ | ⟨x, k, i, rfl, e1, e2, e3⟩
      · subst e0
        simp only [Instr.sliceBounds, Option.map_none, Option.map_some, m1, e1', Sem.run_bind, Sem.run_pure, Result.andThen_ok, run_bound m2 m3 (show 0 ≤ cap by omega), run_bound e2' e3' (Nat.le_refl _)]
      · simp only [Instr.sliceBounds, Option.map_some, m1, e1, e1', Sem.run_bind, Sem.run_pure, Result.andThen_ok, run_bound m2 m3 (show h' ≤ cap by omega), run_bound e2' e3' (Nat.le_refl _), run_bound e2 e3 (Nat.le_refl _)]

theorem slice_run {P : Program} {w : World} {t e : TypeId} {sz : Nat} {a : Option Addr} {len cap l h m : Nat} {lo hi mx : Option Value} (hu : P.underlying t = some (.slice e)) (hs : sizeT P e = some sz)
    (hb : (Instr.sliceBounds true len cap lo hi mx).run P w = .ok (l, h, m) w) :
    (Instr.sliceAt t (.slice a len cap) lo hi mx).run P w = .ok (.slice (if m = l then a else a.map (·.add (l * sz))) (h - l) (m - l)) w := by
  simp [Instr.sliceAt, Instr.slice, run_underlying hu, hb, run_sizeOf hs]

theorem opSlice_ok {P : Program} {g st st' w ρa ρ} {t : TypeId} {o : Oper} {x : Operand} {lo hi mx : Option Operand} {r : AV} (hok : Ok g st.h w) (hρ : RelF g w ρa ρ) (ho : o.op = .slice t x lo hi mx)
    (hpure : ∀ r, opPure P ρa o (.slice t x lo hi mx : Op).operands.toList st = some (r, st') → Does P g st w (Instr.sliceAt t (ρ x) (lo.map ρ) (hi.map ρ) (mx.map ρ)) r st')
    (h : opSlice P ρa o t x lo hi mx st = some (r, st')) : Does P g st w (Instr.sliceAt t (ρ x) (lo.map ρ) (hi.map ρ) (mx.map ρ)) r st' := by
  have hx := hρ x
  unfold opSlice at h
  generalize hv : ρ x = v at hx ⊢
  generalize hax : ρa x = ax at hx h
  cases ax with
  | vl loc sz es =>
    simp only at h
    cases hb : bounds ρa es.length lo hi mx with
    | none => simp [hb, M.fail] at h
    | some q =>
    obtain ⟨l, hh, z⟩ := q
    simp only [hb] at h
    rcases cond_some h with ⟨_, h1⟩ | ⟨he, h1⟩
    · cases h1
    obtain ⟨rfl, rfl⟩ := pure_some h1
    obtain ⟨e, hu, hs⟩ := elemIs_ok (by simpa using he)
    cases hx with
    | vl _ _ _ b off cap c hszs hl hcap hc hr =>
      obtain ⟨b1, b2, m, hrun, b3, b4, b5, b6⟩ := bounds_ok (P := P) hρ hcap hb
      refine Does.still hok rfl (slice_run hu hs hrun) ?_
      cases z with
      | true =>
        have := b5 rfl; subst this
        have : hh = m := by omega
        subst this
        simpa using Rel.ez _
      | false =>
        have := b6 rfl; subst this
        have hcells : ∀ (j : Nat) a, (((es.take hh).drop l).flatMap AV.cells)[j]? = some a → (es.flatMap AV.cells)[l * sz + j]? = some a := by
          intro j a hj
          have h4 : ∀ e ∈ es.take hh, e.cells.length = sz := fun e he => hszs e (List.mem_of_mem_take he)
          rw [← drop_cells _ h4, List.getElem?_drop, ← take_cells _ hszs, List.getElem?_take] at hj
          by_cases h5 : l * sz + j < hh * sz
          · rw [if_pos h5] at hj; exact hj
          · rw [if_neg h5] at hj; cases hj
        have hlen : ((es.take hh).drop l).length = hh - l := by simp; omega
        by_cases hml : m = l
        · subst hml
          have hz0 : hh - m = 0 := by omega
          have hnil : (es.take hh).drop m = [] := List.eq_nil_of_length_eq_zero (by rw [hlen, hz0])
          simp only [if_true, hnil, hz0, Nat.sub_self]
          exact .vl loc sz [] b off 0 c (fun e he => by cases he) hl (Nat.le_refl _) (fun j a hj => by cases hj) (fun j a hj => by cases hj)
        · simp only [if_neg hml, Option.map_some, Addr.add_at]
          rw [← hlen]
          refine .vl loc sz _ b (off + l * sz) (m - l) (fun j => c (l * sz + j)) (fun e he => hszs e (List.mem_of_mem_take (List.mem_of_mem_drop he))) hl (by rw [hlen]; omega) (fun j a hj => ?_) (fun j a hj => hr _ a (hcells j a hj))
          have := hc _ a (hcells j a hj); rw [Nat.add_assoc]; exact this
    | vlnil =>
      obtain ⟨b1, b2, m, hrun, b3, b4, b5, b6⟩ := bounds_ok (P := P) (cap := 0) hρ (Nat.le_refl _) hb
      refine Does.still hok rfl (slice_run hu hs hrun) ?_
      have e1 : m = 0 := by omega
      have e2 : l = 0 := by simp at b2; omega
      have e3 : hh = 0 := by simpa using b2
      subst e1 e2 e3
      cases z with
      | true => simpa using Rel.ez _
      | false => simpa using Rel.vlnil _ _
    | vlz _ _ a =>
      obtain ⟨b1, b2, m, hrun, b3, b4, b5, b6⟩ := bounds_ok (P := P) (cap := 0) hρ (Nat.le_refl _) hb
      refine Does.still hok rfl (slice_run hu hs hrun) ?_
      have e1 : m = 0 := by omega
      have e2 : l = 0 := by simp at b2; omega
      have e3 : hh = 0 := by simpa using b2
      subst e1 e2 e3
      cases z with
      | true => simpa using Rel.ez _
      | false => simpa using Rel.vlz loc sz a
  | sl id off len sz =>
    simp only at h
    cases hb : bounds ρa len lo hi mx with
    | none => simp [hb, M.fail] at h
    | some q =>
    obtain ⟨l, hh, z⟩ := q
    simp only [hb] at h
    rcases cond_some h with ⟨_, h1⟩ | ⟨he, h1⟩
    · cases h1
    obtain ⟨rfl, rfl⟩ := pure_some h1
    obtain ⟨e, hu, hs⟩ := elemIs_ok (by simpa using he)
    cases hx with
    | slz _ _ _ a =>
      obtain ⟨b1, b2, m, hrun, b3, b4, b5, b6⟩ := bounds_ok (P := P) (cap := 0) hρ (Nat.le_refl _) hb
      refine Does.still hok rfl (slice_run hu hs hrun) ?_
      have e1 : m = 0 := by omega
      have e2 : l = 0 := by omega
      have e3 : hh = 0 := by omega
      subst e1 e2 e3
      cases z with
      | true => simpa using Rel.ez _
      | false => simpa using Rel.slz id (off + 0 * sz) sz a
    | sln _ _ _ =>
      obtain ⟨b1, b2, m, hrun, b3, b4, b5, b6⟩ := bounds_ok (P := P) (cap := 0) hρ (Nat.le_refl _) hb
      refine Does.still hok rfl (slice_run hu hs hrun) ?_
      have e1 : m = 0 := by omega
      have e2 : l = 0 := by omega
      have e3 : hh = 0 := by omega
      subst e1 e2 e3
      cases z with
      | true => simpa using Rel.ez _
      | false => simpa using Rel.sln id (off + 0 * sz) sz
    | sl _ _ _ _ b base cap hi' hcap hm hr =>
      obtain ⟨b1, b2, m, hrun, b3, b4, b5, b6⟩ := bounds_ok (P := P) hρ hcap hb
      refine Does.still hok rfl (slice_run hu hs hrun) ?_
      cases z with
      | true =>
        have := b5 rfl; subst this
        have : hh = m := by omega
        subst this
        simpa using Rel.ez _
      | false =>
        have := b6 rfl; subst this
        by_cases hml : m = l
        · subst hml
          have hz0 : hh - m = 0 := by omega
          simp only [if_true, hz0, Nat.sub_self]
          exact .slz _ _ _ _
        · simp only [if_neg hml, Option.map_some, Addr.add_at, cond_false]
          rw [Nat.add_assoc]
          refine .sl id (off + l * sz) (hh - l) sz b base (m - l) hi' (by omega) (by omega) ?_
          rw [show base + (off + l * sz) + (m - l) * sz = base + off + m * sz from by rw [Nat.sub_mul]; have := Nat.mul_le_mul_right sz (show l ≤ m by omega); omega]
          exact hr
  | ez =>
    simp only at h
    cases hb : bounds ρa 0 lo hi mx with
    | none => simp [hb, M.fail] at h
    | some q =>
    obtain ⟨l, hh, z⟩ := q
    simp only [hb] at h
    rcases cond_some h with ⟨he, h1⟩ | ⟨_, h1⟩
    case inr => cases h1
    obtain ⟨rfl, rfl⟩ := pure_some h1
    obtain ⟨sz, hsz⟩ := Option.isSome_iff_exists.1 he
    obtain ⟨e, he', hs⟩ := Option.bind_eq_some_iff.1 hsz
    cases hx with
    | ez a =>
      obtain ⟨b1, b2, m, hrun, b3, b4, b5, b6⟩ := bounds_ok (P := P) (cap := 0) hρ (Nat.le_refl _) hb
      refine Does.still hok rfl (slice_run (elem_of he') hs hrun) ?_
      have e1 : m = 0 := by omega
      have e2 : l = 0 := by omega
      have e3 : hh = 0 := by omega
      subst e1 e2 e3
      simpa using Rel.ez _
  | ptr id off =>
    simp only at h
    cases ha : arrayT P t with
    | none => simp [ha, M.fail] at h
    | some q =>
    obtain ⟨n, sz⟩ := q
    simp only [ha] at h
    cases hb : bounds ρa n lo hi none with
    | none => simp [hb, M.fail] at h
    | some q =>
    obtain ⟨l, hh, z⟩ := q
    simp only [hb] at h
    rcases cond_some h with ⟨he, h1⟩ | ⟨_, h1⟩
    case inr => cases h1
    simp only [Bool.and_eq_true] at he
    have hmx : mx = none := by simpa using he.1
    subst hmx
    have hn := Nat.le_of_ble_eq_true he.2
    obtain ⟨y, s1, hy, h2⟩ := bind_some h1
    obtain ⟨hy1, hh1, hn1⟩ := hget_some hy
    cases y with
    | map es => cases h2
    | loop => cases h2
    | row cells k s et =>
    rcases cond_some h2 with ⟨hle, h3⟩ | ⟨_, h3⟩
    case inr => cases h3
    have hle := Nat.le_of_ble_eq_true hle
    obtain ⟨rfl, rfl⟩ := pure_some h3
    obtain ⟨e, hu, hs⟩ := arrayT_ok ha
    cases hx with
    | ptr _ _ b base hi' =>
      obtain ⟨b', base', hi'', _, hrel⟩ := hok.obj id _ hy1
      rw [hi'] at hi''; cases hi''
      obtain ⟨cs, fr, o1, o2, _⟩ := hrel
      obtain ⟨b1, b2, m, hrun, b3, b4, b5, b6⟩ := bounds_ok (P := P) (w := w) (isS := false) hρ (Nat.le_refl n) hb
      have hz : z = false := by
        cases z with
        | false => rfl
        | true =>
          exfalso
          unfold bounds at hb
          revert hb
          cases bnd ρa 0 lo with
          | none => simp
          | some l1 =>
            cases bnd ρa n hi with
            | none => simp
            | some h1 =>
              simp only
              cases (Nat.ble l1 h1 && Nat.ble h1 n) <;> simp
      have := b6 hz; subst this
      refine Does.still (v := .slice (some (if m = l then ⟨b, base + off, none⟩ else ⟨b, base + off + l * sz, none⟩)) (hh - l) (m - l)) hok hh1 ?_ ?_
      · simp only [Option.map_none] at hrun ⊢
        simp [Instr.sliceAt, run_underlying hu, Instr.sureAddr, hrun, run_sizeOf hs, Addr.add_at]
      · by_cases hml : m = l
        · subst hml
          have hz0 : hh - m = 0 := by omega
          simp only [if_true, hz0, Nat.sub_self]
          exact .slz _ _ _ _
        · simp only [if_neg hml]
          rw [Nat.add_assoc]
          refine .sl id (off + l * sz) (hh - l) sz b base (m - l) hi' (by omega) (by simp only [maxLen]; omega) ⟨cs, et, fr, o1, ?_⟩
          rw [show base + (off + l * sz) + (m - l) * sz = base + off + m * sz from by rw [Nat.sub_mul]; have := Nat.mul_le_mul_right sz (show l ≤ m by omega); omega]
          omega
  | _ =>
    first
    | (rw [← hv]; exact hpure r h)

theorem opExtract_ok {P : Program} {g st st' w} {t r : AV} {v : Value} {ix : Nat} (hok : Ok g st.h w) (ht : Rel g w t v) (h : opExtract t ix st = some (r, st')) : Does P g st w (Instr.extract v ix) r st' := by
  unfold opExtract at h
  cases ht with
  | sc =>
    cases v with
    | tuple vs =>
      obtain ⟨h1, e⟩ := of_some h
      simp only [Option.map_eq_some_iff] at h1
      obtain ⟨x, hx, rfl⟩ := h1
      rw [Array.getElem?_toList] at hx
      exact Does.still hok (by rw [e]) (by simp [Instr.extract, hx]) (.sc x)
    | _ => simp [M.fail] at h
  | tup l vs hs hr =>
    obtain ⟨h1, e⟩ := of_some h
    have hi : ix < vs.size := by rw [hs]; exact (List.getElem?_eq_some_iff.1 h1).1
    exact Does.still hok (by rw [e]) (by simp [Instr.extract, hi]) (hr ix r vs[ix] h1 (by simp [hi]))
  | _ => simp [M.fail] at h

theorem opMakeInterface_ok {P : Program} {g st st' w} {t : TypeId} {x r : AV} {v : Value} (hok : Ok g st.h w) (hx : Rel g w x v) (h : opMakeInterface P t x st = some (r, st')) : Does P g st w (Instr.makeInterface t v) r st' := by
  unfold opMakeInterface at h
  cases hu : P.underlying t with
  | none => simp [hu, M.fail] at h
  | some d =>
    rw [hu] at h
    cases d with
    | interface m => cases h
    | _ =>
      obtain ⟨rfl, rfl⟩ := pure_some h
      exact Does.still hok rfl (by simp [Instr.makeInterface, run_underlying hu]) (.ifc t x v hx)

theorem opPure_ok {P : Program} {g st st' w ρa ρ} {o : Oper} {l : List Operand} {r : AV} (_hρ : RelF g w ρa ρ) (hl : execOp (fun z => ((ρa z).toV).getD undef) o = execOp ρ o ∨ exactAll ρa l = false) (h : opPure P ρa o l st = some (r, st')) :
    st' = st ∧ ((∃ v, (execOp ρ o).run P w = .ok (.value v) w ∧ r = .sc v) ∨ ((execOp ρ o).run P w = .ok .skip w ∧ r = .sc undef)) := by
  unfold opPure at h
  rcases cond_some h with ⟨he, h1⟩ | ⟨_, h1⟩
  case inr => cases h1
  rcases hl with hl | hl
  case inr => rw [hl] at he; cases he
  obtain ⟨h2, e⟩ := of_some h1
  refine ⟨e, ?_⟩
  unfold apure at h2
  rw [hl] at h2
  split at h2
  · rename_i v hv; cases h2; exact .inl ⟨v, ev_ok _ _ w hv, rfl⟩
  · rename_i hv; cases h2; exact .inr ⟨ev_ok _ _ w hv, rfl⟩
  · cases h2

theorem sliceLen_ok {P : Program} {g w} {x : AV} {v : Value} {n : Nat} (hx : Rel g w x v) (h : sliceLen x = some n) : ∃ a c, v = .slice a n c := by
  cases hx with
  | sc =>
    cases v <;> simp [sliceLen] at h
    subst h; exact ⟨_, _, rfl⟩
  | vl => simp [sliceLen] at h; subst h; exact ⟨_, _, rfl⟩
  | vlnil => simp [sliceLen] at h; subst h; exact ⟨_, _, rfl⟩
  | vlz => simp [sliceLen] at h; subst h; exact ⟨_, _, rfl⟩
  | sl => simp [sliceLen] at h; subst h; exact ⟨_, _, rfl⟩
  | slz => simp [sliceLen] at h; subst h; exact ⟨_, _, rfl⟩
  | sln => simp [sliceLen] at h; subst h; exact ⟨_, _, rfl⟩
  | ez => simp [sliceLen] at h; subst h; exact ⟨_, _, rfl⟩
  | _ => simp [sliceLen] at h

theorem getMap {P : Program} {w : World} {b : Nat} {ms : Array MapEntry} {c : Nat} (h : w.heap[b]? = some (.map ms c)) : (getObj b).run P w = .ok (.map ms c) w := by
  simp [getObj, Sem.run, h]

end Go.Vm
