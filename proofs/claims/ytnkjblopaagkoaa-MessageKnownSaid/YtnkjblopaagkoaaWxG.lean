/- Runs on abstract values: all code. No condition. -/
import Derived.Test.YtnkjblopaagkoaaWxF
namespace Go.Vm
noncomputable section

theorem prepC_ok {P : Program} {look : Look} (hT : TabOkF P (tabX look)) (hl : LookFr look) (hm : P.follows .mixedOrders = true) (ex n : Nat) : ∀ c : Code, XOk P ex c ((prepC P ex c).run look n) := by
  intro c
  have both : ∀ {ro : Option Nat} {x y : Bool}, (ro = none ∨ (x && y) = true) → (ro = none ∨ x = true) ∧ (ro = none ∨ y = true) := by
    intro ro x y h
    rcases h with h | h
    · exact ⟨.inl h, .inl h⟩
    · rw [Bool.and_eq_true] at h; exact ⟨.inr h.1, .inr h.2⟩
  induction c with
  | skip => exact ⟨fun L st q h hw => by cases h; exact hw, fun L => Framed.pure (Ex.normal, L), fun ro N B nt _ _ _ L st q g w a h hw hlo hnr hc hr hd => by cases h; exact wpIn_skip (Fin.mk' (e := .normal) rfl hc hr hd)⟩
  | label l => exact ⟨fun L st q h hw => by cases h; exact hw, fun L => Framed.pure (Ex.normal, L), fun ro N B nt _ _ _ L st q g w a h hw hlo hnr hc hr hd => by cases h; exact wpIn_label (Fin.mk' (e := .normal) rfl hc hr hd)⟩
  | exit id => exact ⟨fun L st q h hw => by cases h; exact hw, fun L => Framed.pure (Ex.exit id, L), fun ro N B nt _ _ _ L st q g w a h hw hlo hnr hc hr hd => by cases h; exact wpIn_exit (Fin.mk' (e := .exit id) rfl hc hr hd)⟩
  | ret => exact ⟨fun L st q h hw => by cases h; exact hw, fun L => Framed.pure (Ex.ret, L), fun ro N B nt _ _ _ L st q g w a h hw hlo hnr hc hr hd => by cases h; exact wpIn_ret (Fin.mk' (e := .ret) rfl hc hr hd)⟩
  | region id ops draw =>
    refine ⟨fun L st q h hw => (prepR_less h hw).2.1, fun L => prepR_framed hl ex ops draw n L, fun ro N B nt hn0 hpl hs L st q g w a h hw hlo hnr hc hr hd => ?_⟩
    have e1 := (prepR_less h hw).1
    exact prepR_wp hT hl hm hs h hw hlo hnr hc hr hd (fun g w a' hc hr hd _ => Fin.mk' (e := .normal) (by rw [← e1]) hc hr hd)
  | seq x y ihx ihy =>
    refine ⟨fun L st q h hw => ?_, fun L => (thenX_framed (ihx.framed L) ihy.framed).congr (fun st => rfl), fun ro N B nt hn0 hpl hs L st q g w a h hw hlo hnr hc hr hd => ?_⟩
    · rcases thenX_some h with ⟨L1, st1, h1, h2⟩ | ⟨h1, _⟩
      · exact ihy.within _ _ _ h2 (ihx.within _ _ _ h1 hw)
      · exact ihx.within _ _ _ h1 hw
    · simp only [slotsIn, Bool.and_eq_true] at hs
      refine wpIn_seq ?_
      rcases thenX_some h with ⟨L1, st1, h1, h2⟩ | ⟨h1, h2⟩
      · have hlo1 := ihx.low h1 hlo
        have hle1 := ihx.le h1 hlo
        have hle2 := ihy.le h2 hlo1
        refine wpIn_mono (ihx.wp ro N B nt hn0 (both hpl).1 hs.1 _ _ _ g w a h1 hw hlo (hnr.sub (Nat.le_refl _) hle2) hc hr hd) ?_
        rintro exx a1 w1 ⟨e1, L1', st1', g1, rfl, he, hc1, hr1, hd1⟩
        cases he
        exact ihy.wp ro N B nt hn0 (both hpl).2 hs.2 _ _ _ g1 w1 a1 h2 (ihx.within _ _ _ h1 hw) hlo1 (hnr.sub hle1 (Nat.le_refl _)) hc1 hr1 hd1
      · refine wpIn_mono (ihx.wp ro N B nt hn0 (both hpl).1 hs.1 _ _ _ g w a h1 hw hlo hnr hc hr hd) ?_
        rintro exx a1 w1 ⟨e1, L1, st1, g1, rfl, he, hc1, hr1, hd1⟩
        subst he
        cases e1 with
        | normal => exact (h2 rfl).elim
        | exit id => exact ⟨.exit id, L1, st1, g1, rfl, rfl, hc1, hr1, hd1⟩
        | ret => exact ⟨.ret, L1, st1, g1, rfl, rfl, hc1, hr1, hd1⟩
  | cond c x y ihx ihy =>
    have key : ∀ L st q, (prepC P ex (.cond c x y)).run look n L st = some q → ∃ v, (evL L c).bool = some v ∧ (v = true → (prepC P ex x).run look n L st = some q) ∧ (v = false → (prepC P ex y).run look n L st = some q) := by
      intro L st q h
      change (match (evL L c).bool with
        | some b => bif b then (prepC P ex x).run look n L st else (prepC P ex y).run look n L st
        | none => none) = some q at h
      cases hb : (evL L c).bool with
      | none => rw [hb] at h; cases h
      | some v =>
        rw [hb] at h
        exact ⟨v, rfl, fun e => by subst e; exact h, fun e => by subst e; exact h⟩
    refine ⟨fun L st q h hw => ?_, fun L => ?_, fun ro N B nt hn0 hpl hs L st q g w a h hw hlo hnr hc hr hd => ?_⟩
    · obtain ⟨v, _, h1, h2⟩ := key L st q h
      cases v with
      | true => exact ihx.within _ _ _ (h1 rfl) hw
      | false => exact ihy.within _ _ _ (h2 rfl) hw
    · cases hb : (evL L c).bool with
      | none =>
        refine Framed.fail.congr (fun st => ?_)
        show reM (fun st => match (evL L c).bool with | some b => _ | none => none) st = _
        unfold reM; rw [hb]; rfl
      | some v =>
        cases v with
        | true =>
          refine (ihx.framed L).congr (fun st => ?_)
          show reM (fun st => match (evL L c).bool with
            | some b => bif b then (prepC P ex x).run look n L st else (prepC P ex y).run look n L st
            | none => none) st = _
          unfold reX reM; rw [hb]; rfl
        | false =>
          refine (ihy.framed L).congr (fun st => ?_)
          show reM (fun st => match (evL L c).bool with
            | some b => bif b then (prepC P ex x).run look n L st else (prepC P ex y).run look n L st
            | none => none) st = _
          unfold reX reM; rw [hb]; rfl
    · obtain ⟨v, hv, h1, h2⟩ := key L st q h
      simp only [slotsIn, Bool.and_eq_true] at hs
      have hev := bool_exact (hr.eval c) hv
      cases v with
      | true => exact wpIn_cond_true hev (ihx.wp ro N B nt hn0 (both hpl).1 hs.1 _ _ _ g w a (h1 rfl) hw hlo hnr hc hr hd)
      | false => exact wpIn_cond_false hev (ihy.wp ro N B nt hn0 (both hpl).2 hs.2 _ _ _ g w a (h2 rfl) hw hlo hnr hc hr hd)
  | block id x ih =>
    have key : ∀ L st q, (prepC P ex (.block id x)).run look n L st = some q → ∃ p, (prepC P ex x).run look n L st = some p ∧ q = (outX id p.1, p.2.1, p.2.2) := by
      intro L st q h
      change (match (prepC P ex x).run look n L st with
        | some p => some (outX id p.1, p.2.1, p.2.2)
        | none => none) = some q at h
      cases h1 : (prepC P ex x).run look n L st with
      | none => rw [h1] at h; cases h
      | some p => rw [h1] at h; cases h; exact ⟨p, rfl, rfl⟩
    refine ⟨fun L st q h hw => ?_, fun L => ?_, fun ro N B nt hn0 hpl hs L st q g w a h hw hlo hnr hc hr hd => ?_⟩
    · obtain ⟨p, h1, rfl⟩ := key L st q h
      have := ih.within L st p h1 hw
      exact this
    · refine (Framed.bind (ih.framed L) (fun p => Framed.pure (outX id p.1, p.2))).congr (fun st => ?_)
      show reM (fun st => match (prepC P ex x).run look n L st with
        | some p => some (outX id p.1, p.2.1, p.2.2)
        | none => none) st = _
      unfold reX reM M.bind
      dsimp only
      cases (prepC P ex x).run look n L st <;> rfl
    · obtain ⟨p, h1, rfl⟩ := key L st q h
      refine wpIn_block (wpIn_mono (ih.wp ro N B nt hn0 hpl hs _ _ _ g w a h1 hw hlo hnr hc hr hd) ?_)
      rintro exx a1 w1 ⟨e1, L1, st1, g1, rfl, he, hc1, hr1, hd1⟩
      subst he
      cases e1 with
      | normal => exact ⟨.normal, L1, st1, g1, rfl, rfl, hc1, hr1, hd1⟩
      | ret => exact ⟨.ret, L1, st1, g1, rfl, rfl, hc1, hr1, hd1⟩
      | exit j =>
        simp only [outX]
        by_cases e : j = id
        · subst e
          simp only [Nat.beq_refl, cond_true]
          simp only [exitOf, Exit.inBlock, if_true]
          exact ⟨.normal, L1, st1, g1, rfl, rfl, hc1, hr1, hd1⟩
        · rw [beq_no e, cond_false]
          simp only [exitOf, Exit.inBlock, if_neg e]
          exact ⟨.exit j, L1, st1, g1, rfl, rfl, hc1, hr1, hd1⟩
  | loop x ih => exact loopX_ok ih n
  | scope x ih =>
    refine ⟨ih.within, ih.framed, fun ro N B nt hn0 hpl hs L st q g w a h hw hlo hnr hc hr hd => ?_⟩
    refine wpIn_scope_straight (wpIn_mono (ih.wp ro N B nt hn0 hpl hs _ _ _ g w a h hw hlo hnr hc hr hd) ?_)
    rintro exx a1 w1 ⟨e1, L1, st1, g1, rfl, he, hc1, hr1, hd1⟩
    cases e1 <;> exact ⟨_, L1, st1, g1, rfl, he, hc1, hr1, hd1⟩
  | rangeFunc f ps asg body iha ihb => exact rangeX_ok hT hl hm ex n f ps asg body iha ihb
  | goto l => exact ⟨fun L st q h => (by cases h), fun L => Framed.fail, fun ro N B nt _ _ _ L st q g w a h => (by cases h)⟩
  | refuse why => exact ⟨fun L st q h => (by cases h), fun L => Framed.fail, fun ro N B nt _ _ _ L st q g w a h => (by cases h)⟩

end
end Go.Vm
