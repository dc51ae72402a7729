/- Walks on abstract values: rounds; the statement that ranges over a function; all code. No condition. -/
import Derived.Test.YtnkjblopaagkoaaWlZ
namespace Go.Vm
noncomputable section

theorem argsL_lk : ∀ (args : List AV) (i t : Nat), lk (argsL i args) t = if i ≤ t then (args[t - i]?).getD .bad else .bad
  | [], i, t => by simp [argsL, lk]
  | a :: r, i, t => by
    rw [argsL, lk_cons, argsL_lk r (i + 1) t]
    by_cases e : i = t
    · subst e; simp
    · rw [if_neg e]
      by_cases h : i + 1 ≤ t
      · rw [if_pos h, if_pos (by omega), show t - i = (t - (i + 1)) + 1 from by omega, List.getElem?_cons_succ]
      · rw [if_neg h, if_neg (by omega)]
theorem relSL_args {g w} {args : List AV} {vs : List Value} {nt : Nat} (h : RelL g w args vs) (h1 : args.length ≤ nt) :
    RelSL g w nt (argsL 0 args) (vs.toArray ++ Array.replicate (nt - vs.toArray.size) undef) := by
  have hl := h.1
  refine ⟨by simp; omega, fun t => ?_⟩
  rw [argsL_lk, if_pos (Nat.zero_le _), Nat.sub_zero]
  cases ha : args[t]? with
  | none => exact .bad _
  | some a =>
    obtain ⟨v, hv, hr⟩ := h.get ha
    have ht := (List.getElem?_eq_some_iff.1 hv).1
    rw [Array.getD_eq_getD_getElem?, Array.getElem?_append_left (by simp; omega)]
    simp only [List.getElem?_toArray, hv]
    exact hr


theorem putArgs_rel {g w nt} : ∀ (ps : List Tmp) (args : List AV) (vs : List Value) (L : SL) (tmps : Array Value), ps.all (fun t => Nat.blt t nt) = true → args.length = ps.length → RelL g w args vs → RelSL g w nt L tmps →
    RelSL g w nt (putArgs ps args L) ((ps.zip vs).foldl (fun t (p, v) => t.setIfInBounds p v) tmps)
  | [], args, vs, L, tmps, _, hl, hr, h => by
    cases args with
    | nil => simpa [putArgs] using h
    | cons a r => simp at hl
  | t :: ps, args, vs, L, tmps, hps, hl, hr, h => by
    cases args with
    | nil => simp at hl
    | cons a args =>
      match vs, hr with
      | [], hr => have := hr.1; simp at this
      | v :: vs, hr =>
        simp only [List.all_cons, Bool.and_eq_true] at hps
        have ht : t < nt := Nat.le_of_ble_eq_true hps.1
        refine putArgs_rel ps args vs ((t, a) :: L) (tmps.setIfInBounds t v) hps.2 (by simpa using hl) hr.tail ⟨by simp [h.1], fun u => ?_⟩
        rw [lk_cons, Array.getD_eq_getD_getElem?, Array.getElem?_setIfInBounds]
        by_cases e : t = u
        · subst e; rw [if_pos rfl, if_pos rfl, if_pos (by rw [h.1]; exact ht)]; exact hr.head
        · rw [if_neg e, if_neg e, ← Array.getD_eq_getD_getElem?]; exact h.2 u

theorem round_ok {P : Program} {T : Tab} (hT : TabOk P T) (hm : P.follows .mixedOrders = true) {B1 : BaseP} {l nt : Nat} {rec : LoopRec} {L0 : SL} (hnf : B1.NoFar) (hps : rec.params.toList.all (fun t => Nat.blt t nt) = true)
    (hs1 : slotsIn nt rec.assign = true) (hs2 : slotsIn nt rec.body = true) (hp1 : rec.assign.plainR = true) (hp2 : rec.body.plainR = true) (hL0 : ∀ g h w, Base B1 g h w → RelSL g w nt L0 rec.tmps) :
    RndOk P l rec (roundC rec.params.toList (fun p => wl P T p rec.assign) (fun p => wl P T p rec.body) L0) B1 := by
  intro N p args X g st w vs hc hpp hn1 hn2 hargs hl hu hR
  obtain ⟨hlen, hp1000, hA⟩ := hR
  have hlen := Nat.eq_of_beq_eq_true hlen
  have hp1000 := Nat.le_of_ble_eq_true hp1000
  have hvl : vs.length = args.length := hargs.1
  have hsz : args.length = rec.params.size := hlen.trans (Array.length_toList ..)
  have hy := run_yield (P := P) (args := vs.toArray) hl (by show vs.toArray.size = rec.params.size; rw [List.size_toArray, hvl, hsz])
  refine ⟨_, _, _, _, hy, roundIn_of_wpIn trivial ?_⟩
  have hB2 := hc.at' p (fun _ => False) hn1 (far := fun _ => False) (fun o h => (hnf o h).elim)
  have hrel := putArgs_rel rec.params.toList args vs L0 rec.tmps hps hlen hargs (hL0 _ _ _ hc.base)
  have hfold : (((rec.at none).params.zip vs.toArray).foldl (fun tmps (x : Tmp × Value) => tmps.setIfInBounds x.1 x.2) (rec.at none).tmps) = ((rec.params.toList.zip vs).foldl (fun t (x : Tmp × Value) => t.setIfInBounds x.1 x.2) rec.tmps) := by
    rw [← Array.foldl_toList]
    simp [LoopRec.at]
  have h1 := wl_plain hT hm (ro := some l) (N := N) (B := baseAt g st.h w p (fun _ => False)) (nt := nt) (fun _ h => h) hp1000 rec.assign hs1 hp1 _ _ st g w { tmps := ((rec.at none).params.zip vs.toArray).foldl (fun tmps (x : Tmp × Value) => tmps.setIfInBounds x.1 x.2) (rec.at none).tmps, defers := [] } hA hB2
    (by show RelSL g w nt _ (((rec.at none).params.zip vs.toArray).foldl (fun tmps (x : Tmp × Value) => tmps.setIfInBounds x.1 x.2) (rec.at none).tmps); rw [hfold]; exact hrel) (Marks.nil _ _ _ _)
  refine wpIn_mono h1 ?_
  rintro ex a1 w1 ⟨e, L1, st1, g1, rfl, hq, hc1, hr1, hd1⟩
  cases e with
  | exit id => exact hq.elim
  | ret => exact hq.elim
  | normal =>
    have hun := hc1.base.unowned (lt_of_heap hl) hu (fun h => h)
    have hl1 := hun.2.trans hl
    refine ⟨_, run_beginRound hl1 rfl, ?_⟩
    have hw1 : Cur (baseAt g st.h w p (· = l)) g1 st1 w1 := ⟨hc1.ok, hc1.fresh, hc1.base.wider (fun _ h => h.elim), hc1.pin⟩
    have hp2' := put_loop (r' := { rec.at none with state := .busy }) hw1 hl1 hun.1 (.inl rfl)
    have hB3 := hp2'.1.at' p (fun _ => False) hc1.pin (far := fun _ => False) (fun _ h => h)
    have h2 := wl_plain hT hm (ro := some l) (N := N) (B := baseAt g1 st1.h (putB w1 l (.loop { rec.at none with state := .busy })) p (fun _ => False)) (nt := nt) (fun _ h => h) hp1000 rec.body hs2 hp2 _ _ st1 g1 _ a1 hq hB3 (hr1.ext hp2'.2) (hd1.put_loop hl1)
    refine wpIn_mono h2 ?_
    rintro ex a3 w3 ⟨e, L3, st3, g3, rfl, hq3, hc3, hr3, hd3⟩
    have hl2 : (putB w1 l (.loop { rec.at none with state := .busy })).heap[l]? = some (.loop { rec.at none with state := .busy }) := putB_same _ (lt_of_heap hl1)
    have hun3 := hc3.base.unowned (lt_of_heap hl2) hun.1 (fun h => h)
    have hl3 := hun3.2.trans hl2
    have hc3' : Cur (baseAt g st.h w p (· = l)) g3 st3 w3 := ⟨hc3.ok, hc3.fresh, hp2'.1.base.comp hc3.base (Nat.le_refl _) (fun _ h => h) (fun _ h => h.elim), hc3.pin⟩
    cases e with
    | normal =>
      refine ⟨_, _, run_endRound none hl3, .normal, st3, g3, hq3, rfl, (put_loop (r' := rec.at none) hc3' hl3 hun3.1 (.inl rfl)).1, putB_same _ (lt_of_heap hl3), hun3.1⟩
    | ret =>
      refine ⟨_, _, run_endRound (some .ret) hl3, .ret, st3, g3, hq3, rfl, (put_loop (r' := rec.at (some .ret)) hc3' hl3 hun3.1 (.inl rfl)).1, putB_same _ (lt_of_heap hl3), hun3.1⟩
    | exit id =>
      refine ⟨_, _, run_endRound (some (.exit id)) hl3, .exit id, st3, g3, hq3, rfl, (put_loop (r' := rec.at (some (.exit id))) hc3' hl3 hun3.1 (.inl rfl)).1, putB_same _ (lt_of_heap hl3), hun3.1⟩

end
end Go.Vm
