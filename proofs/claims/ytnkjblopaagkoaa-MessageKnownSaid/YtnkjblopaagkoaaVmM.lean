/- build, buildSlice, index, operators. No condition. -/
import Derived.Test.YtnkjblopaagkoaaVmL
namespace Go.Vm

theorem relL_agg {g w l} {vs : Array Value} (h : RelL g w l vs.toList) : Rel g w (.agg l) (.agg vs) :=
  .agg l vs (by rw [← h.1, Array.length_toList]) (fun i a v h1 h2 => h.2 i a v h1 (by rw [Array.getElem?_toList]; exact h2))

theorem zero_some {P : Program} {t : TypeId} {z : Value} (h : zeroT P t = some z) : ∃ i, P.info? t = some i ∧ i.zero = some z := by
  simpa [zeroT, Option.bind_eq_some_iff] using h

theorem opBuild_ok {P : Program} {g st st' w} {t : TypeId} {ps : List (Nat × AV)} {vs : Array (Nat × Value)} {r : AV} (hok : Ok g st.h w) (hlen : ps.length = vs.toList.length)
    (hp : ∀ (i : Nat) p q, ps[i]? = some p → vs.toList[i]? = some q → p.1 = q.1 ∧ Rel g w p.2 q.2) (h : opBuild P t ps st = some (r, st')) : Does P g st w (Instr.build t vs) r st' := by
  unfold opBuild at h
  cases hz : zeroT P t with
  | none => simp [hz, M.fail] at h
  | some z =>
  obtain ⟨it, hit, hz'⟩ := zero_some hz
  cases hu : P.underlying t with
  | none => simp [hz, hu, M.fail] at h
  | some d =>
  rw [hz, hu] at h
  have hsc : RelL g w (z.cells.toList.map .sc) z.cells.toList := RelL.scs g w _
  have fin : ∀ place, (∀ cells, Instr.fill place z.cells vs.toList = some cells → P.built t vs.toList = some cells) → M.of ((afill place (z.cells.toList.map .sc) ps).map .agg) st = some (r, st') → Does P g st w (Instr.build t vs) r st' := by
    intro place hpl h
    obtain ⟨h1, e⟩ := of_some h
    simp only [Option.map_eq_some_iff] at h1
    obtain ⟨l, h2, rfl⟩ := h1
    obtain ⟨rs, e1, e2⟩ := fill_ok (g := g) (w := w) ps vs.toList _ z.cells l hsc hlen hp h2
    exact Does.still hok (by rw [e]) (run_build w t vs rs (hpl rs e1)) (relL_agg e2)
  cases d with
  | struct fields =>
    simp only at h
    cases hpl : placesT P fields with
    | none => simp [hpl, M.fail] at h
    | some places =>
    rw [hpl] at h
    refine fin _ (fun cells hc => ?_) h
    unfold placesT at hpl
    simp only [Program.built, hit, hu, hz', hpl]
    rw [← hc]; congr 1; funext x; simp
  | array n e =>
    simp only at h
    cases hs : sizeT P e with
    | none => simp [hs, M.fail] at h
    | some sz =>
    rw [hs] at h
    obtain ⟨ie, hie, rfl⟩ := info_of_size hs
    refine fin _ (fun cells hc => ?_) h
    simp only [Program.built, hit, hu, hz', hie]
    exact hc
  | _ => cases h

theorem opBuildSlice_ok {P : Program} {g st st' w} {t : TypeId} {len : Nat} {ps : List (Nat × AV)} {vs : Array (Nat × Value)} {r : AV} (hok : Ok g st.h w) (hf : Free g st st') (hlen : ps.length = vs.toList.length)
    (hp : ∀ (i : Nat) p q, ps[i]? = some p → vs.toList[i]? = some q → p.1 = q.1 ∧ Rel g w p.2 q.2) (h : opBuildSlice P t len ps st = some (r, st')) : Does P g st w (Instr.buildSlice t len vs) r st' := by
  unfold opBuildSlice at h
  cases he : elemT P t with
  | none => simp [he, M.fail] at h
  | some e =>
  cases hs : sizeT P e with
  | none => simp [he, hs, M.fail] at h
  | some sz =>
  cases hz : zeroT P e with
  | none => simp [he, hs, hz, M.fail] at h
  | some z =>
  simp only [he, hs, hz] at h
  cases ha : afill (fun i => some (i * sz, sz)) ((List.replicate len (z.cells.toList.map AV.sc)).flatten) ps with
  | none => simp [ha, M.fail] at h
  | some cells =>
  rw [ha] at h
  rcases cond_some h with ⟨hc, h1⟩ | ⟨_, h1⟩
  case inr => cases h1
  simp only [Bool.and_eq_true] at hc
  obtain ⟨⟨c1, c2⟩, c3⟩ := hc
  have c1 := Nat.le_of_ble_eq_true c1
  have c2 := Nat.eq_of_beq_eq_true c2
  have hz0 : (List.replicate len (z.cells.toList.map AV.sc)).flatten = ((Array.range (len * sz)).map (z.cells[· % z.cells.size]!)).toList.map AV.sc := by
    rw [map_flatten_replicate, ← c2, range_list]
  rw [hz0] at ha
  obtain ⟨rs, e1, e2⟩ := fill_ok (g := g) (w := w) ps vs.toList _ ((Array.range (len * sz)).map (z.cells[· % z.cells.size]!)) cells (RelL.scs g w _) hlen hp ha
  have hrs : rs.size = len * sz := by
    have key : ∀ (l : List (Nat × Value)) (cs : Array Value) (rs : Array Value), Instr.fill (fun i => some (i * sz, sz)) cs l = some rs → rs.size = cs.size := by
      intro l
      induction l with
      | nil => intro cs rs h; simp [Instr.fill] at h; rw [h]
      | cons p l ih =>
        intro cs rs h
        simp only [Instr.fill] at h
        split at h
        · cases h
        · rw [ih _ _ h]
          have fold : ∀ (us : List (Value × Nat)) (off : Nat) (cs : Array Value), (us.foldl (fun cs (x : Value × Nat) => cs.setIfInBounds (off + x.2) x.1) cs).size = cs.size := by
            intro us off
            induction us with
            | nil => intro cs; rfl
            | cons u us ih2 => intro cs; rw [List.foldl_cons, ih2]; simp
          rw [← Array.foldl_toList]
          exact fold _ _ _
    rw [key _ _ _ e1]; simp
  have hcl : cells.length = len * sz := by rw [← e2.1, Array.length_toList, hrs]
  have hrun : (Instr.buildSlice t len vs).run P w = .ok (.slice (some ⟨w.heap.size, 0, none⟩) len len) (w.alloc (.cells rs e)) := by
    have n1 : ¬ (len * sz > 16777216) := by omega
    by_cases h0 : len * sz = 0
    · have e3 : (Array.range (len * sz)).map ((#[] : Array Value)[· % (#[] : Array Value).size]!) = (Array.range (len * sz)).map (z.cells[· % z.cells.size]!) := by
        rw [h0]; apply Array.ext'; simp
      simp only [Instr.buildSlice, Sem.run_bind, run_underlying (elem_of he), Result.andThen_ok, run_sizeOf hs]
      simp [h0, newRow]
      rw [h0] at e3 e1
      simp only [Array.size_empty, Nat.mod_zero] at e3
      have e4 : Array.map (fun x => (default : Value)) (Array.range 0) = Array.map (fun x => z.cells[x % z.cells.size]!) (Array.range 0) := by apply Array.ext'; simp
      rw [e4, e1]
      simp
    · simp [Instr.buildSlice, run_underlying (elem_of he), run_sizeOf hs, n1, h0, run_zeroValue hz, e1, newRow]
  obtain ⟨g', q1, q2, q3⟩ := newRowOf_ok (P := P) (w1 := w) (cs := rs) (cap := len) hok hf rfl rfl rfl rfl h1
    (fun j a hj => by obtain ⟨c, hc, hr⟩ := e2.get hj; exact ⟨c, by rw [← Array.getElem?_toList]; exact hc, hr⟩) (by rw [hrs, hcl]; exact Nat.le_refl _) (Nat.le_refl _)
    (by have := Nat.le_of_ble_eq_true c3; simp only [maxLen]; omega) (by rw [hrs]; exact Nat.le_refl _)
  exact ⟨_, _, g', hrun, q1, q2, q3⟩

theorem opIndex_ok {P : Program} {g st st' w ρa ρ} {o : Oper} {t : TypeId} {x ix : Operand} {r : AV} (hok : Ok g st.h w) (hρ : RelF g w ρa ρ) (ho : o.op = .index t x ix)
    (h : opIndex P ρa o t x ix st = some (r, st')) : DoesO P g st w (execOp ρ o) r st' := by
  have hex : execOp ρ o = (do pure (.value (← Instr.index t (ρ x) (ρ ix)))) := by simp [execOp, ho]
  have hx := hρ x
  have hi := hρ ix
  unfold opIndex at h
  generalize hax : ρa x = ax at hx h
  cases ax with
  | agg l =>
    simp only at h
    cases hn : asN (ρa ix) with
    | none => simp [hn, M.fail] at h
    | some i =>
    cases ha : arrayT P t with
    | none => simp [hn, ha, M.fail] at h
    | some q =>
    obtain ⟨n, sz⟩ := q
    cases hel : elemA P t with
    | none => simp [hn, ha, hel, M.fail] at h
    | some e =>
    simp only [hn, ha, hel] at h
    rcases cond_some h with ⟨hc, h1⟩ | ⟨_, h1⟩
    case inr => cases h1
    simp only [Bool.and_eq_true, decide_eq_true_eq] at hc
    have hlt : i.toNat < n := Nat.le_of_ble_eq_true hc.2
    obtain ⟨hof, e2⟩ := of_some h1
    obtain ⟨e', hu, hs⟩ := arrayT_ok ha
    have hee : e' = e := by simp [elemA, hu] at hel; exact hel
    subst hee
    obtain ⟨k, hiv⟩ := hi.asN_int hn
    rw [hex]
    refine Does.value ?_
    generalize hv : ρ x = v at hx ⊢
    cases hx with
    | agg _ vs hsz hr =>
    obtain ⟨u, hu', hr'⟩ := part_ok (P := P) (g := g) (w := w) (vs := vs) ⟨by simp [hsz], fun i a v h1 h2 => hr i a v h1 (by simpa using h2)⟩ hof
    have q1 : 0 ≤ i ∧ i < (n : Int) := ⟨hc.1, by omega⟩
    exact Does.still hok (by rw [e2]) (by simp [Instr.index, hiv, asIntOf, run_underlying hu, q1, run_sizeOf hs, hu']) hr'
  | _ =>
    by_cases he : exactAll ρa [x, ix] = true
    · refine opPure_does hok hρ (.inl ?_) h
      simp only [exactAll, List.all_cons, List.all_nil, Bool.and_true, Bool.and_eq_true] at he
      simp [execOp, ho, exact_some hρ he.1, exact_some hρ he.2]
    · exact opPure_does hok hρ (.inr (by simpa using he)) h

end Go.Vm
