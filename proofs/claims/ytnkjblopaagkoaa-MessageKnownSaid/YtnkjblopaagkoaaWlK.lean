/- Walks on abstract values: a call, at its place, out of the walk of what is called. No condition. -/
import Derived.Test.YtnkjblopaagkoaaWlI
namespace Go.Vm
noncomputable section

def baseC (g : Gh) (st : St) (w : World) : BaseP := { baseAt g st.h w st.nx (fun _ => False) with n0 := w.heap.size }
theorem Cur.ofC {g st w} (hok : Ok g st.h w) (hfr : ∀ o, st.nx ≤ o → g.inj o = none) : Cur (baseC g st w) g st w :=
  ⟨hok, fun o h1 _ => hfr o h1, ⟨rfl, fun _o _ho => rfl, fun _ _ h => h, fun _ _ _ => rfl, Nat.le_refl _, rfl, rfl, rfl, fun _ _ _ => rfl, fun o _b base ho hi => .inr (.inr ⟨o, base, ho, hi⟩), fun _ _ h => .inl h,
    fun _b cs _e fr h => ⟨cs, fr, h, rfl⟩, fun _b l h => ⟨l, h⟩⟩, Nat.le_refl _⟩
theorem Cur.backC {g st w g' st' w'} (h : Cur (baseC g st w) g' st' w') (hfr : ∀ o, st.nx ≤ o → g.inj o = none) : Step g st.h w st.nx st'.nx g' st'.h w' := by
  have b := h.base
  have pins : ∀ o, o < st.nx → g'.inj o = g.inj o := fun o ho => b.pins o (.inl ho)
  refine ⟨⟨b.b0, fun o p hp => ?_, b.K, b.cell, b.blk, b.lp⟩, b.size, b.os, b.tape, b.output, fun c hc hn => b.frame c hc (fun hO => ?_), fun o ho hr => ?_, fun o c base ho hi => ?_, fun c j hk => ?_⟩
  · by_cases h1 : st.nx ≤ o
    · rw [hfr o h1] at hp; cases hp
    · rw [pins o (by omega)]; exact hp
  · rcases hO with hO | ⟨o, base, h1, h2⟩
    · exact hO
    · exact hn o base h1 h2
  · by_cases h1 : o < st.nx
    · rw [pins o h1]; exact ho
    · exact h.fresh o (by omega) (fun hf => hf)
  · rcases b.own o c base ho hi with h1 | h1 | h1
    · exact .inl h1
    · exact h1.elim
    · exact .inr h1
  · rcases b.Kold c j hk with h1 | h1 | h1 | h1
    · exact .inl h1
    · exact .inr (.inl h1)
    · exact h1.elim
    · exact .inr (.inr h1)

theorem callAt_of_wl {P : Program} {T : Tab} (hT : TabOk P T) (hm : P.follows .mixedOrders = true) {f : Nat} {fn : Func} {body : Code} (hf : P.funcs[f]? = some fn) (hb : fn.body = some body) (he : entered P f = true) (hs : slotsIn fn.ntmps body = true)
    {args : List AV} (hl : Nat.ble args.length fn.ntmps = true) {st : St} (hp : Nat.ble st.nx 1000 = true) {R : AV → St → Prop}
    (h : wl P T st.nx body (retQ P fn.results.toList R) (argsL 0 args) st) : CallAt P f args st R := by
  intro g w vs hok hfr hrel
  refine .inr ⟨entered_ok he _ _, calls_of_callsIn (ro := none) (n := 0) (callsIn_of_wp_marks hf hb trivial ?_)⟩
  have hcur := Cur.ofC (w := w) hok hfr
  refine wpIn_mono (wl_ok hT hm (N := 0) (B := baseC g st w) (nt := fn.ntmps) (fun _ h => h) (Nat.le_of_ble_eq_true hp) (Nat.le_refl _) body hs _ _ _ g w _ h hcur (relSL_args hrel (Nat.le_of_ble_eq_true hl)) (Marks.nil _ _ _ _)) ?_
  rintro ex a w' ⟨e, L, st', g', rfl, hq, hc, hr, hd⟩
  have fin : retR (resL P L st' fn.results.toList) R st' → bodyPostM (fence none) 0 P fn (fun e w' => ∃ v g' r st', e = .returned v ∧ R r st' ∧ st.nx ≤ st'.nx ∧ Step g st.h w st.nx st'.nx g' st'.h w' ∧ Ok g' st'.h w' ∧ Rel g' w' r v) .ret a w' := by
    intro hq
    show LeavesInM (fence none) 0 P fn a.tmps _ a.defers .returning w'
    unfold retR at hq
    cases hres : resL P L st' fn.results.toList with
    | none => rw [hres] at hq; exact hq.elim
    | some l =>
      rw [hres] at hq
      obtain ⟨bs, e1, e2, e3⟩ := hd
      have e1 := e1.trans (List.append_nil _)
      rw [e1]
      refine leaves_good (Good := fun u => Ok g' st'.h u ∧ Step g st.h w st.nx st'.nx g' st'.h u ∧ (∀ a v, Rel g' w' a v → Rel g' u a v)) (S := fun b => w.heap.size ≤ b ∧ Unowned g' st'.h b) ?_ ?_ bs w'
        ⟨hc.ok, hc.backC hfr, fun _ _ h => h⟩ e2 (fun b hb => ⟨⟨(e3 b hb).1, (e3 b hb).2.2⟩, (e3 b hb).2.1⟩)
      · rintro u b ⟨g1, g2, g3⟩ ⟨hb1, hb2⟩ hb3
        have hput := Ok.put_unowned (ds' := none) g1 hb3 hb2
        exact ⟨hput.1, Step.put_late (ds' := none) hok g2 hb1, fun a v h => hput.2 a v (g3 a v h)⟩
      · rintro u ⟨g1, g2, g3⟩
        obtain ⟨us, h1, h2⟩ := resL_ok (P := P) g1 ⟨hr.1, fun t => g3 _ _ (hr.2 t)⟩ fn.results.toList l hres
        obtain ⟨v, h3, h4⟩ := pack_ok h1 h2
        exact ⟨v, h3, v, g', _, st', rfl, hq, hc.pin, g2, g1, h4⟩
  cases e with
  | normal => exact fin hq
  | ret => exact fin hq
  | exit id => exact hq.elim

end
end Go.Vm
