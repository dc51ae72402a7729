/- Marks of ranges over functions; how a function is left. No condition. -/
import Derived.Test.YtnkjblopaagkoaaVmU
namespace Go.Vm

/-- A block that no object of the abstract heap owns. -/
def Unowned (g : Gh) (h : Tr AObj) (b : Nat) : Prop := ∀ o base, (h.get o).isSome = true → g.inj o ≠ some (b, base)
theorem Unowned.step {g h w lo hi g' h' w' b} (s : Step g h w lo hi g' h' w') (hb : b < w.heap.size) (hu : Unowned g h b) : Unowned g' h' b ∧ w'.heap[b]? = w.heap[b]? :=
  ⟨fun o base ho hj => by
    rcases s.own o b base ho hj with hge | ⟨o', base', ho', hj'⟩
    · omega
    · exact hu o' base' ho' hj', s.frame b hb hu⟩

def mark (b : Nat) : Deferred := { target := .collected b, args := #[] }
def Marks (D : List Deferred) (n0 : Nat) (h : Tr AObj) (g : Gh) (w : World) (ds : List Deferred) : Prop :=
  ∃ bs : List Nat, ds = bs.map mark ++ D ∧ bs.Nodup ∧ ∀ b ∈ bs, n0 ≤ b ∧ w.heap[b]? = some (.deferred (some [])) ∧ Unowned g h b

theorem Marks.nil (n0 h g w) : Marks [] n0 h g w [] := ⟨[], rfl, List.nodup_nil, fun b hb => by cases hb⟩
theorem Marks.start (D : List Deferred) (n0 h g w) : Marks D n0 h g w D := ⟨[], rfl, List.nodup_nil, fun b hb => by cases hb⟩
theorem Marks.step {D n0 g h w lo hi g' h' w' ds} (s : Step g h w lo hi g' h' w') (hm : Marks D n0 h g w ds) : Marks D n0 h' g' w' ds := by
  obtain ⟨bs, h1, h2, h3⟩ := hm
  refine ⟨bs, h1, h2, fun b hb => ?_⟩
  obtain ⟨q1, q2, q3⟩ := h3 b hb
  have := Unowned.step s (lt_of_heap q2) q3
  exact ⟨q1, this.2.trans q2, this.1⟩

/-- An unowned block that holds no cells and no loop is written. -/
theorem Ok.put_unowned {g h w b} {ds ds' : Option (List Deferred)} (hok : Ok g h w) (hb : w.heap[b]? = some (.deferred ds)) (hu : Unowned g h b) : Ok g h (putB w b (.deferred ds')) ∧ (∀ a v, Rel g w a v → Rel g (putB w b (.deferred ds')) a v) := by
  have hext : Ext g w g (putB w b (.deferred ds')) := by
    refine ⟨rfl, fun _ _ h => h, fun _ _ h => h, fun c j hj => ?_, fun c cs e fr hc => ?_, fun c l hc => ?_⟩
    · by_cases e : c = b
      · subst e
        simp [World.cell?, putB_same _ (lt_of_heap hb), hb]
      · exact cell_heap (putB_other w (.deferred ds') e)
    · exact ⟨cs, fr, (putB_other w (.deferred ds') (by intro e; subst e; rw [hb] at hc; cases hc)).trans hc, rfl⟩
    · exact ⟨l, (putB_other w (.deferred ds') (by intro e; subst e; rw [hb] at hc; cases hc)).trans hc⟩
  refine ⟨⟨by rw [putB_size]; exact hok.size, fun o x hx => ?_, hok.sep, fun c j hj => by rw [putB_size]; exact hok.K c j hj⟩, fun a v h => h.ext hext⟩
  refine (hok.obj' o x hx).imp id ?_
  rintro ⟨c, base, h1, h2, h3⟩
  exact ⟨c, base, h1, h2, h3.ext hext (putB_other w (.deferred ds') (fun e => hu o base (by rw [hx]; rfl) (by rw [← e]; exact h1))) (fun _ h => h)⟩

theorem Step.put_late {g0 h0 w0 lo hi g h w b ds'} (hok0 : Ok g0 h0 w0) (s : Step g0 h0 w0 lo hi g h w) (hb : w0.heap.size ≤ b) : Step g0 h0 w0 lo hi g h (putB w b (.deferred ds')) := by
  have ne : ∀ c, c < w0.heap.size → c ≠ b := fun c hc e => by omega
  refine ⟨⟨s.ext.b0, s.ext.inj, s.ext.K, fun c j hj => ?_, fun c cs e fr hc => ?_, fun c l hc => ?_⟩, by rw [putB_size]; exact s.size, s.os, s.tape, s.output, fun c hc hn => ?_, s.fresh, s.own, s.Kold⟩
  · rw [cell_heap (putB_other w _ (ne c (hok0.K c j hj)))]; exact s.ext.cell c j hj
  · rw [putB_other w _ (ne c (lt_of_heap hc))]; exact s.ext.blk c cs e fr hc
  · rw [putB_other w _ (ne c (lt_of_heap hc))]; exact s.ext.lp c l hc
  · rw [putB_other w _ (ne c hc)]; exact s.frame c hc hn

theorem leaves_marks {P : Program} {F : Fence} {n : Nat} {fn : Func} {tmps : Array Value} {R : Ending → World → Prop} {g0 h0 w0 lo hi g h} {fr : Fr} (hok0 : Ok g0 h0 w0)
    (hres : ∀ w, Ok g h w → Step g0 h0 w0 lo hi g h w → RelS g w fr tmps → ∃ v, (results fn tmps).run P w = .ok v w ∧ R (.returned v) w) :
    ∀ (bs : List Nat) (w : World), Ok g h w → Step g0 h0 w0 lo hi g h w → RelS g w fr tmps → bs.Nodup → (∀ b ∈ bs, w0.heap.size ≤ b ∧ w.heap[b]? = some (.deferred (some [])) ∧ Unowned g h b) →
      LeavesInM F n P fn tmps R (bs.map mark) .returning w := by
  intro bs
  induction bs with
  | nil =>
    intro w hok hs hr _ _
    exact hres w hok hs hr
  | cons b bs ih =>
    intro w hok hs hr hnd hall
    obtain ⟨q1, q2, q3⟩ := hall b (by simp)
    rw [List.nodup_cons] at hnd
    have hput := Ok.put_unowned (ds' := none) hok q2 q3
    refine ⟨by simp, .inl ⟨b, putB w b (.deferred none), rfl, ?_, ?_⟩⟩
    · simp [Instr.takeDeferred, Sem.run_bind, getObj, setObj, Sem.run, q2, Result.andThen, putB]
    · refine ih _ hput.1 (hs.put_late hok0 q1) ⟨hr.1, fun t a ha => let ⟨v, hv, hrel⟩ := hr.2 t a ha; ⟨v, hv, hput.2 _ _ hrel⟩⟩ hnd.2 (fun c hc => ?_)
      obtain ⟨p1, p2, p3⟩ := hall c (by simp [hc])
      have hcb : c ≠ b := fun e => hnd.1 (by rw [← e]; exact hc)
      exact ⟨p1, (putB_other w _ hcb).trans p2, p3⟩

end Go.Vm
