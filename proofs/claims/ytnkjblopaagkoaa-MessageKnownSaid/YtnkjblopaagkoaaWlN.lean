/- Walks on abstract values: the statement that ranges over a function; all code; how a function is left. No condition. -/
import Derived.Test.YtnkjblopaagkoaaWlM
namespace Go.Vm
noncomputable section

theorem iterFn_some {g w a v f caps} (h : iterFn a = some (f, caps)) (hr : Rel g w a v) : ∃ vb : Array Value, v = .func (.func f) #[] vb ∧ RelL g w caps vb.toList := by
  unfold iterFn at h
  split at h
  · rename_i fx first captured
    split at h
    · rename_i k
      cases h
      cases hr with
      | fn _ _ _ va vb hs hh hs' hh' =>
        have : va = #[] := Array.eq_empty_of_size_eq_zero (by simpa using hs)
        subst this
        exact ⟨vb, rfl, ⟨by simpa using hs', fun i x y hx hy => hh' i x y hx (by simpa using hy)⟩⟩
    · cases h
  · rename_i x
    split at h
    · rename_i fx first captured
      split at h
      · rename_i k hf
        cases h
        have := hr.exact rfl
        subst this
        have : first = #[] := by apply Array.ext'; simpa using hf
        subst this
        exact ⟨captured, rfl, RelL.scs g w _⟩
      · cases h
    · cases h
  · cases h
theorem iterB_some {P : Program} {f nt : Nat} {code : Code} (h : iterB P f = some (nt, code)) :
    ∃ fn, P.funcs[f]? = some fn ∧ fn.body = some code ∧ entered P f = true ∧ slotsIn fn.ntmps code = true ∧ fn.results = #[] ∧ nt = fn.ntmps := by
  unfold iterB at h
  split at h
  · rename_i fn hf
    split at h
    · rename_i body hb
      cases hc : (entered P f && slotsIn fn.ntmps body && fn.results.isEmpty) with
      | false => rw [hc] at h; cases h
      | true =>
        rw [hc] at h
        cases h
        simp only [Bool.and_eq_true] at hc
        exact ⟨fn, hf, hb, hc.1.1, hc.1.2, Array.isEmpty_iff.1 hc.2, rfl⟩
    · cases h
  · cases h

theorem range_ok {P : Program} {T : Tab} (hT : TabOk P T) (hm : P.follows .mixedOrders = true) {N : Nat} {B : BaseP} {nt : Nat} (hnf : B.NoFar) (hp : B.pin ≤ 1000) (hn0 : B.n0 ≤ B.w.heap.size) (f : Operand) (ps : Array Tmp) (asg body : Code) (hs : slotsIn nt (.rangeFunc f ps asg body) = true) :
    WlOk P none N B nt (.rangeFunc f ps asg body) (wl P T B.pin (.rangeFunc f ps asg body)) := by
  intro Q L st g w a h hc hr hd
  simp only [slotsIn, Bool.and_eq_true] at hs
  obtain ⟨⟨⟨⟨hs1, hs2⟩, hs3⟩, hs4⟩, hs5⟩ := hs
  obtain ⟨keep, hp1, h⟩ := h
  have hp1 := Nat.le_of_ble_eq_true hp1
  have cc := canon_ok hnf hp keep hc hr
  have cn := canon_names hc keep L
  have cm := canon_marks (L := L) hp keep hd
  generalize canonO B.pin keep L st = os at hp1 h cc cn cm
  generalize canonV B.pin keep L st = vs at h cc
  generalize g.ren (canonN B.pin keep L st) = g2 at cc cn cm
  obtain ⟨hc2, hr2⟩ := cc
  obtain ⟨hn1, hn2, hn3⟩ := cn
  generalize zipK keep vs = L0 at h hr2
  unfold rangeV at h
  cases hfn : iterFn (evL L0 f) with
  | none => rw [hfn] at h; exact h.elim
  | some q =>
  obtain ⟨gf, caps⟩ := q
  rw [hfn] at h
  simp only at h
  unfold rangeW at h
  cases hib : iterB P gf with
  | none => rw [hib] at h; exact h.elim
  | some q =>
  obtain ⟨nt', code⟩ := q
  rw [hib] at h
  obtain ⟨hle, h⟩ := h
  have hle := Nat.le_of_ble_eq_true hle
  obtain ⟨fn, hf1, hf2, hf3, hf4, hf5, rfl⟩ := iterB_some hib
  obtain ⟨vb, hev, hcaps⟩ := iterFn_some hfn (hr2.eval f)
  refine wpIn_rangeFunc fun fno hfno => ?_
  obtain ⟨rec, hrec⟩ : ∃ rec : LoopRec, rec = { fn := fno, tmps := a.tmps, params := ps, assign := asg, body := body, defers := w.heap.size } := ⟨_, rfl⟩
  obtain ⟨W1, hW1⟩ : ∃ W1, (w.alloc (.deferred (some []))).alloc (.loop (rec.at none)) = W1 := ⟨_, rfl⟩
  have hsz : W1.heap.size = w.heap.size + 2 := by rw [← hW1]; simp
  have hold : ∀ b, b < w.heap.size → W1.heap[b]? = w.heap[b]? := fun b hb => by
    rw [← hW1, RowKit.Below.heap_alloc _ _ _ (by simp; omega)]; exact RowKit.Below.heap_alloc w _ _ hb
  have hL1 : W1.heap[w.heap.size + 1]? = some (.loop (rec.at none)) := by
    rw [← hW1]; have := World.alloc_heap_new (w.alloc (.deferred (some []))) (.loop (rec.at none)); rwa [World.size_alloc] at this
  have hD1 : W1.heap[w.heap.size]? = some (.deferred (some [])) := by
    rw [← hW1]; exact (RowKit.Below.heap_alloc _ _ _ (by simp)).trans (World.alloc_heap_new w _)
  have hgrow := grow_step (w' := W1) (stK os).nx (stK os).nx hc2.ok (by omega) hold (by rw [← hW1]; rfl) (by rw [← hW1]; rfl) (by rw [← hW1]; rfl)
  have hcW : Cur B g2 (stK os) W1 := hc2.step (hnf.near _ _) ⟨Nat.le_refl _, hgrow.1⟩ hgrow.2
  have hrW := hr2.ext hgrow.1.ext
  have hmW := cm.step hgrow.1
  have hunew : ∀ b, w.heap.size ≤ b → Unowned g2 (stK os).h b := fun b hb o base ho hi => by
    obtain ⟨x, hx⟩ := Option.isSome_iff_exists.1 ho
    obtain ⟨c, base', q1, _, q3⟩ := hc2.ok.obj o x hx
    rw [hi] at q1; cases q1
    have := q3.lt
    omega
  have hB1 := hcW.at' os.length (· = w.heap.size + 1) hn2 (far := fun _ => False) (fun o h => (hnf o h).elim)
  have hlen : (#[Value.func (.yield (w.heap.size + 1)) #[] #[]] ++ vb).size ≤ fn.ntmps := by
    have := hcaps.1
    simp at this ⊢
    omega
  refine ⟨w.heap.size + 1, [mark w.heap.size], W1, { target := .fn (.func gf) vb, args := #[.func (.yield (w.heap.size + 1)) #[] #[]] }, W1, gf, #[.func (.yield (w.heap.size + 1)) #[] #[]] ++ vb, W1, ?_, ?_, fun _ _ => trivial, ?_, (fun h => (by cases h)), ?_⟩
  · rw [← hW1, hrec]; exact run_enterLoop_outer _ _ _ _ _
  · simp only [resolve, hev]
    simp [go_sem]
  · simp [invoke, go_sem, entered_ok hf3]
  · refine callsIn_of_wp_marks hf1 hf2 trivial ?_
    have hR := round_ok hT hm (B1 := baseAt g2 (stK os).h W1 os.length (· = w.heap.size + 1)) (l := w.heap.size + 1) (nt := nt) (rec := rec) (L0 := L0) (fun _ h => h) (by rw [hrec]; simpa [Array.all_toList] using hs1) (by rw [hrec]; exact hs2) (by rw [hrec]; exact hs3) (by rw [hrec]; exact hs4) (by rw [hrec]; exact hs5)
      (fun g' h' w' hb => by rw [hrec]; exact hrW.ext (hb.ext_at (fun o h _ => hn3 o h)))
    have hR' : RndOk P (w.heap.size + 1) rec (roundC ps.toList (fun p => wl P T p asg) (fun p => wl P T p body) L0) (baseAt g2 (stK os).h W1 os.length (· = w.heap.size + 1)) := by rw [hrec] at hR ⊢; exact hR
    have hrel : RelSL g2 W1 fn.ntmps (argsL 0 (.sc (.func (.yield (w.heap.size + 1)) #[] #[]) :: caps)) ((#[Value.func (.yield (w.heap.size + 1)) #[] #[]] ++ vb) ++ Array.replicate (fn.ntmps - (#[Value.func (.yield (w.heap.size + 1)) #[] #[]] ++ vb).size) undef) := by
      have hrl : RelL g2 W1 (.sc (.func (.yield (w.heap.size + 1)) #[] #[]) :: caps) (.func (.yield (w.heap.size + 1)) #[] #[] :: vb.toList) := RelL.cons (.sc _) (hcaps.ext hgrow.1.ext)
      have := relSL_args (nt := fn.ntmps) hrl (by simpa using hle)
      have e : (Value.func (.yield (w.heap.size + 1)) #[] #[] :: vb.toList).toArray = #[Value.func (.yield (w.heap.size + 1)) #[] #[]] ++ vb := by apply Array.ext'; simp
      rw [e] at this
      exact this
    have hw := wlI_ok hT hm (N := N - 1) (B := baseAt g2 (stK os).h W1 os.length (· = w.heap.size + 1)) (fun _ h => h) hp1 hR' (.inl rfl) code hf4 _ none _ (stK os) g2 W1 { tmps := (#[Value.func (.yield (w.heap.size + 1)) #[] #[]] ++ vb) ++ Array.replicate (fn.ntmps - (#[Value.func (.yield (w.heap.size + 1)) #[] #[]] ++ vb).size) undef, defers := [] } (h _) hB1 hrel rfl hL1 (hunew _ (by omega))
    refine wpIn_mono hw ?_
    rintro ex a' w' ⟨e, pe, L', st', g', rfl, hq, hc', hr', hd', hl', hu'⟩
    have fin : endI Q L0 .normal pe L' st' → bodyPostM (fence none) (N - 1) P fn (rangePost (fence none) N P (w.heap.size + 1) (Fin B nt Q) { a with defers := [mark w.heap.size] ++ a.defers }) .ret a' w' := by
      intro hq
      show LeavesInM (fence none) (N - 1) P fn a'.tmps _ a'.defers .returning w'
      rw [hd']
      have hres : (results fn a'.tmps).run P w' = .ok (.tuple #[]) w' := by simp [results, hf5]
      refine ⟨_, hres, ?_⟩
      have hend := run_endLoop (P := P) hl' (by cases pe <;> simp [LoopRec.at])
      refine ⟨_, _, hend, ?_⟩
      have hput := put_loop (r' := { rec.at pe with state := .exhausted }) hc' hl' hu' (.inl rfl)
      have hb := hput.1.base
      have hcB : Cur B g' st' (putB w' (w.heap.size + 1) (.loop { rec.at pe with state := .exhausted })) := ⟨hput.1.ok, fun o h1 _ => hput.1.fresh o h1 (fun h => h), hcW.base.comp hb hn1 (fun o h => (hnf o h).elim) (fun n hn => by subst hn; have := hc.base.size; exact .inl (by omega)), Nat.le_trans hn1 hput.1.pin⟩
      have hrB := hrW.ext (hb.ext_at (fun o h _ => hn3 o h))
      have hmB : Marks B.D B.n0 st'.h g' (putB w' (w.heap.size + 1) (.loop { rec.at pe with state := .exhausted })) ([mark w.heap.size] ++ a.defers) := by
        have hm2 : Marks B.D B.n0 (stK os).h g2 W1 ([mark w.heap.size] ++ a.defers) := by
          obtain ⟨bs, e1, e2, e3⟩ := hmW
          obtain ⟨bs0, e10, e20, e30⟩ := cm
          have hbs : bs = bs0 := by
            have : bs.map mark = bs0.map mark := List.append_cancel_right (e1.symm.trans e10)
            exact (List.map_inj_right (fun x y e => by simpa [mark] using e)).1 this
          subst hbs
          refine ⟨w.heap.size :: bs, by simp [e1], List.nodup_cons.2 ⟨fun hmem => ?_, e2⟩, fun b hb => ?_⟩
          · have := lt_of_heap (e30 _ hmem).2.1; omega
          · rcases List.mem_cons.1 hb with rfl | hb
            · have := hc.base.size
              exact ⟨by omega, hD1, hunew _ (Nat.le_refl _)⟩
            · exact e3 b hb
        exact Marks.base hb hm2 (fun b hbl => by subst hbl; exact ⟨_, hL1⟩)
      cases pe with
      | none => exact Fin.mk' (e := .normal) hq hcB hrB hmB
      | some e =>
        show (codeOf e).wpIn (fence none) N P (Fin B nt Q) _ _
        cases e with
        | normal => exact wpIn_skip (Fin.mk' (e := .normal) hq hcB hrB hmB)
        | ret => exact wpIn_ret (Fin.mk' (e := .ret) hq hcB hrB hmB)
        | exit id => exact wpIn_exit (Fin.mk' (e := .exit id) hq hcB hrB hmB)
    cases e with
    | normal => exact fin hq
    | ret => exact fin hq
    | exit id => exact hq.elim

/-- All code. -/
theorem wl_ok {P : Program} {T : Tab} (hT : TabOk P T) (hm : P.follows .mixedOrders = true) {N : Nat} {B : BaseP} {nt : Nat} (hnf : B.NoFar) (hp : B.pin ≤ 1000) (hn0 : B.n0 ≤ B.w.heap.size) (c : Code) (hs : slotsIn nt c = true) : WlOk P none N B nt c (wl P T B.pin c) :=
  wl_gen hT hm hnf hp true (fun _ f ps asg body h => range_ok hT hm hnf hp hn0 f ps asg body h) c hs (.inl rfl)

/-- How a function is left that has ranged over functions. -/
theorem leaves_good {P : Program} {F : Fence} {n : Nat} {fn : Func} {tmps : Array Value} {R : Ending → World → Prop} (Good : World → Prop) (S : Nat → Prop) (hput : ∀ w b, Good w → S b → w.heap[b]? = some (.deferred (some [])) → Good (putB w b (.deferred none)))
    (hres : ∀ w, Good w → ∃ v, (results fn tmps).run P w = .ok v w ∧ R (.returned v) w) :
    ∀ (bs : List Nat) (w : World), Good w → bs.Nodup → (∀ b ∈ bs, S b ∧ w.heap[b]? = some (.deferred (some []))) → LeavesInM F n P fn tmps R (bs.map mark) .returning w := by
  intro bs
  induction bs with
  | nil => intro w hg _ _; exact hres w hg
  | cons b bs ih =>
    intro w hg hnd hall
    obtain ⟨q1, q2⟩ := hall b (by simp)
    rw [List.nodup_cons] at hnd
    refine ⟨by simp, .inl ⟨b, putB w b (.deferred none), rfl, ?_, ?_⟩⟩
    · simp [Instr.takeDeferred, Sem.run_bind, getObj, setObj, Sem.run, q2, Result.andThen, putB]
    · refine ih _ (hput w b hg q1 q2) hnd.2 (fun c hc => ?_)
      obtain ⟨p1, p2⟩ := hall c (by simp [hc])
      exact ⟨p1, (putB_other w _ (fun e => hnd.1 (by rw [← e]; exact hc))).trans p2⟩

end
end Go.Vm
