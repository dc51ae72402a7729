/- Walks on abstract values: names given anew, loops. No condition. -/
import Derived.Test.YtnkjblopaagkoaaWlB
namespace Go.Vm
noncomputable section

/-! ### Names given anew -/
theorem renGo_map (τ : Nat → Option Nat) : ∀ l : List AV, AV.ren.go τ l = l.map (AV.ren τ)
  | [] => rfl
  | a :: r => by simp [AV.ren.go, renGo_map τ r]
theorem cells_ren (τ : Nat → Option Nat) (a : AV) : (a.ren τ).cells = a.cells.map (AV.ren τ) := by
  cases a <;> simp only [AV.ren] <;> (try split) <;> simp_all [AV.cells, AV.ren, renGo_map]

/-- The ghost under new names. -/
def Gh.ren (g : Gh) (N : List Nat) : Gh := { g with inj := fun i => (N[i]?).bind g.inj }
theorem Rel.ren {g w} {τ : Nat → Option Nat} {N : List Nat} (hτ : ∀ o p, τ o = some p → N[p]? = some o) {a : AV} {v : Value} (h : Rel g w a v) : Rel (g.ren N) w (a.ren τ) v := by
  have hi : ∀ o p q, τ o = some p → g.inj o = some q → (g.ren N).inj p = some q := by
    intro o p q h1 h2; simp [Gh.ren, hτ o p h1, h2]
  induction h with
  | sc x => exact .sc x
  | agg l vs hs _ ih => simp only [AV.ren, renGo_map]; exact .agg _ vs (by simp [hs]) (fun i a v ha hv => by
      rw [List.getElem?_map, Option.map_eq_some_iff] at ha; obtain ⟨b, hb, rfl⟩ := ha; exact ih i b v hb hv)
  | tup l vs hs _ ih => simp only [AV.ren, renGo_map]; exact .tup _ vs (by simp [hs]) (fun i a v ha hv => by
      rw [List.getElem?_map, Option.map_eq_some_iff] at ha; obtain ⟨b, hb, rfl⟩ := ha; exact ih i b v hb hv)
  | vl loc sz es b off cap c hsz hl hcap h _ ih =>
    have hfm : (es.map (AV.ren τ)).flatMap AV.cells = (es.flatMap AV.cells).map (AV.ren τ) := by
      rw [List.flatMap_map, List.map_flatMap]; congr 1; funext x; exact cells_ren τ x
    simp only [AV.ren, renGo_map]
    have := Rel.vl (g := g.ren N) (w := w) loc sz (es.map (AV.ren τ)) b off cap c (fun e he => by
      obtain ⟨x, hx, rfl⟩ := List.mem_map.1 he; rw [cells_ren]; simp [hsz x hx]) hl (by simpa using hcap)
      (fun j a hj => by rw [hfm, List.getElem?_map, Option.map_eq_some_iff] at hj; obtain ⟨x, hx, rfl⟩ := hj; exact h j x hx)
      (fun j a hj => by rw [hfm, List.getElem?_map, Option.map_eq_some_iff] at hj; obtain ⟨x, hx, rfl⟩ := hj; exact ih j x hx)
    simpa using this
  | vlnil loc sz => exact .vlnil loc sz
  | vlz loc sz a => exact .vlz loc sz a
  | sl o off len sz b base cap h1 hc hm hr =>
    simp only [AV.ren]
    cases hp : τ o with
    | none => exact .bad _
    | some p => exact .sl p off len sz b base cap (hi o p _ hp h1) hc hm hr
  | slz o off sz a =>
    simp only [AV.ren]
    cases hp : τ o with
    | none => exact .bad _
    | some p => exact .slz p off sz a
  | sln o off sz =>
    simp only [AV.ren]
    cases hp : τ o with
    | none => exact .bad _
    | some p => exact .sln p off sz
  | ez a => exact .ez a
  | ptr o off b base h1 =>
    simp only [AV.ren]
    cases hp : τ o with
    | none => exact .bad _
    | some p => exact .ptr p off b base (hi o p _ hp h1)
  | cptr l b off c h _ ih =>
    simp only [AV.ren, renGo_map]
    exact .cptr _ b off c (fun j a hj => by rw [List.getElem?_map, Option.map_eq_some_iff] at hj; obtain ⟨x, hx, rfl⟩ := hj; exact h j x hx)
      (fun j a hj => by rw [List.getElem?_map, Option.map_eq_some_iff] at hj; obtain ⟨x, hx, rfl⟩ := hj; exact ih j x hx)
  | fn f first captured va vb hs _ hs' _ ih ih' =>
    simp only [AV.ren, renGo_map]
    exact .fn f _ _ va vb (by simp [hs]) (fun i a v ha hv => by rw [List.getElem?_map, Option.map_eq_some_iff] at ha; obtain ⟨b, hb, rfl⟩ := ha; exact ih i b v hb hv)
      (by simp [hs']) (fun i a v ha hv => by rw [List.getElem?_map, Option.map_eq_some_iff] at ha; obtain ⟨b, hb, rfl⟩ := ha; exact ih' i b v hb hv)
  | mp o b base h1 =>
    simp only [AV.ren]
    cases hp : τ o with
    | none => exact .bad _
    | some p => exact .mp p b base (hi o p _ hp h1)
  | ifc t a v _ ih => exact .ifc t _ v ih
  | yl o b base h1 => exact .bad _
  | bad v => exact .bad v

theorem ObjRel.ren {g w b base} {τ : Nat → Option Nat} {N : List Nat} (hτ : ∀ o p, τ o = some p → N[p]? = some o) {x y : AObj} (h : ObjRel g w b base x) (hy : x.ren τ = some y) : ObjRel (g.ren N) w b base y := by
  cases x with
  | row cells k st et =>
    simp only [AObj.ren, Option.some.injEq] at hy
    subst hy
    obtain ⟨cs, fr, h1, h2, h3, h4, h5, h6, h7⟩ := h
    rw [renGo_map]
    exact ⟨cs, fr, h1, by simpa using h2, fun j a ha => by
      rw [List.getElem?_map, Option.map_eq_some_iff] at ha
      obtain ⟨x, hx, rfl⟩ := ha
      obtain ⟨c, hc, hr⟩ := h3 j x hx
      exact ⟨c, hc, hr.ren hτ⟩, h4, h5, h6, by simpa using h7⟩
  | map es =>
    simp only [AObj.ren, Option.some.injEq] at hy
    subst hy
    obtain ⟨h0, ms, clock, h1, h2⟩ := h
    refine ⟨h0, ms, clock, h1, h2.same (by simp) (fun hl => ?_) fun i e v he => ?_⟩
    · have key : ∀ (l : List (Value × AV)) (f : Value × AV → Value × AV), (∀ e, (f e).1 = e.1) → apartK (l.map f) = apartK l := by
        intro l f hf
        induction l with
        | nil => rfl
        | cons a l ih => simp only [List.map_cons, apartK, ih, List.all_map]; congr 2; funext x; simp [hf]
      unfold loose at hl ⊢
      rw [key es (fun e => (e.1, e.2.ren τ)) (fun _ => rfl)]
      simpa using hl
    · rw [List.getElem?_map, Option.map_eq_some_iff] at he
      obtain ⟨x, hx, rfl⟩ := he
      exact ⟨x, hx, rfl, fun hr => hr.ren hτ⟩
  | loop => cases hy

theorem idx_cons (a : Nat) (l : List Nat) (o i : Nat) : idx (a :: l) o i = if a = o then some i else idx l o (i + 1) := by
  show (bif Nat.beq a o then some i else idx l o (i + 1)) = _
  by_cases h : a = o
  · subst h; simp
  · rw [if_neg h, beq_no h]; rfl
theorem idx_get : ∀ (l : List Nat) (o i p : Nat), idx l o i = some p → i ≤ p ∧ l[p - i]? = some o
  | [], o, i, p, h => by cases h
  | a :: l, o, i, p, h => by
    rw [idx_cons] at h
    by_cases e : a = o
    · rw [if_pos e] at h; simp at h; subst h; subst e; simp
    · rw [if_neg e] at h
      obtain ⟨h1, h2⟩ := idx_get l o (i + 1) p h
      refine ⟨by omega, ?_⟩
      rw [show p - i = (p - (i + 1)) + 1 from by omega]
      simpa using h2
theorem idx_tau (l : List Nat) (o p : Nat) (h : idx l o 0 = some p) : l[p]? = some o := by simpa using (idx_get l o 0 p h).2

theorem reach_acc (h : Tr AObj) : ∀ (n : Nat) (todo acc : List Nat), acc.Nodup → (reach h n todo acc).Nodup ∧ (∃ r, reach h n todo acc = acc ++ r) ∧ (reach h n todo acc).length ≤ acc.length + n := by
  intro n
  induction n with
  | zero => intro todo acc hn; exact ⟨by simpa [reach] using hn, ⟨[], by simp [reach]⟩, by simp [reach]⟩
  | succ n ih =>
    intro todo acc hn
    cases todo with
    | nil => exact ⟨by simpa [reach] using hn, ⟨[], by simp [reach]⟩, by simp [reach]⟩
    | cons o r =>
      simp only [reach]
      cases hc : acc.contains o with
      | true =>
        obtain ⟨h1, h2, h3⟩ := ih r acc hn
        exact ⟨h1, h2, by simp only [cond_true]; omega⟩
      | false =>
        simp only [cond_false]
        have hno : o ∉ acc := by simpa using hc
        cases hg : h.get o with
        | none =>
          obtain ⟨h1, h2, h3⟩ := ih r acc hn
          exact ⟨h1, h2, by dsimp only; omega⟩
        | some x =>
          have hn' : (acc ++ [o]).Nodup := by
            rw [List.nodup_append]
            exact ⟨hn, by simp, fun a ha b hb => by simp at hb; subst hb; intro e; subst e; exact hno ha⟩
          obtain ⟨h1, ⟨q, h2⟩, h3⟩ := ih (x.names ++ r) (acc ++ [o]) hn'
          refine ⟨h1, ⟨o :: q, by simp [h2]⟩, ?_⟩
          simp only [List.length_append, List.length_singleton] at h3
          dsimp only
          omega
theorem fromTo_get : ∀ (n lo i : Nat), i < n → (fromTo lo n)[i]? = some (lo + i)
  | 0, lo, i, h => by omega
  | n + 1, lo, 0, h => by simp [fromTo]
  | n + 1, lo, i + 1, h => by
    rw [fromTo, List.getElem?_cons_succ, fromTo_get n (lo + 1) i (by omega), Nat.add_assoc, Nat.add_comm 1 i]
theorem fromTo_mem : ∀ (n lo o : Nat), o ∈ fromTo lo n ↔ lo ≤ o ∧ o < lo + n
  | 0, lo, o => by simp [fromTo]
  | n + 1, lo, o => by rw [fromTo, List.mem_cons, fromTo_mem n (lo + 1) o]; omega
theorem fromTo_length : ∀ (n lo : Nat), (fromTo lo n).length = n
  | 0, _ => rfl
  | n + 1, lo => by simp [fromTo, fromTo_length n]
theorem fromTo_nodup : ∀ (n lo : Nat), (fromTo lo n).Nodup
  | 0, _ => by simp [fromTo]
  | n + 1, lo => by
    rw [fromTo, List.nodup_cons]
    exact ⟨by rw [fromTo_mem]; omega, fromTo_nodup n (lo + 1)⟩

theorem heapK_get : ∀ (os : List (Option AObj)) (i j : Nat), i + os.length ≤ limit + 1 → (heapK i os).get j = if i ≤ j then (os[j - i]?).join else none
  | [], i, j, _ => by simp [heapK, Tr.get_nil]
  | x :: r, i, j, h => by
    simp only [List.length_cons] at h
    rw [heapK, get_set _ _ _ _ (by omega), heapK_get r (i + 1) j (by omega)]
    by_cases e : j = i
    · subst e; simp
    · rw [if_neg e]
      by_cases h1 : i + 1 ≤ j
      · rw [if_pos h1, if_pos (by omega), show j - i = (j - (i + 1)) + 1 from by omega, List.getElem?_cons_succ]
      · rw [if_neg h1, if_neg (by omega)]
theorem getObj_get (h : Tr AObj) (τ : Nat → Option Nat) : ∀ (l : List Nat) (i : Nat), (getObj' h τ l)[i]? = (l[i]?).map (fun o => (h.get o).bind (AObj.ren τ))
  | [], i => by simp [getObj']
  | o :: r, 0 => by simp [getObj']
  | o :: r, i + 1 => by simp [getObj', getObj_get h τ r i]
theorem getObj_length (h : Tr AObj) (τ : Nat → Option Nat) : ∀ l : List Nat, (getObj' h τ l).length = l.length
  | [] => rfl
  | _ :: r => by simp [getObj', getObj_length h τ r]

theorem zipK_lk : ∀ (keep : List Nat) (f : Nat → AV) (t : Nat), lk (zipK keep (keep.map f)) t = if t ∈ keep then f t else .bad
  | [], f, t => by simp [zipK, lk]
  | k :: ks, f, t => by
    simp only [List.map_cons, zipK, lk_cons, zipK_lk ks f t, List.mem_cons]
    by_cases e : k = t
    · subst e; simp
    · rw [if_neg e]
      by_cases h : t ∈ ks
      · simp [h]
      · simp [h, Ne.symm e]

/-- At the head of a loop the names are given anew. -/
theorem canon_ok {B : BaseP} {nt : Nat} {g : Gh} {st : St} {w : World} {L : SL} {tmps : Array Value} (hnf : B.NoFar) (hp : B.pin ≤ 1000) (keep : List Nat) (hc : Cur B g st w) (hr : RelSL g w nt L tmps) :
    Cur B (g.ren (canonN B.pin keep L st)) (stK (canonO B.pin keep L st)) w ∧ RelSL (g.ren (canonN B.pin keep L st)) w nt (zipK keep (canonV B.pin keep L st)) tmps := by
  have hN := reach_acc st.h reachFuel (AV.names.go (keep.map (lk L)) ++ namesAt st.h (fromTo 0 B.pin)) (fromTo 0 B.pin) (fromTo_nodup _ _)
  change (canonN B.pin keep L st).Nodup ∧ (∃ r, canonN B.pin keep L st = fromTo 0 B.pin ++ r) ∧ (canonN B.pin keep L st).length ≤ _ at hN
  have hτ : ∀ o p, (fun o => idx (canonN B.pin keep L st) o 0) o = some p → (canonN B.pin keep L st)[p]? = some o := fun o p h => idx_tau _ o p h
  unfold canonO canonV
  generalize canonN B.pin keep L st = N at hN hτ
  obtain ⟨hnd, ⟨rest, hpre⟩, hlen⟩ := hN
  rw [fromTo_length] at hlen
  have hlim : N.length ≤ limit := by simp only [reachFuel, limit] at *; omega
  have hget : ∀ i x, (stK (getObj' st.h (fun o => idx N o 0) N)).h.get i = some x → ∃ o y, N[i]? = some o ∧ st.h.get o = some y ∧ y.ren (fun o => idx N o 0) = some x := by
    intro i x hx
    simp only [stK] at hx
    rw [heapK_get _ _ _ (by rw [getObj_length]; omega), if_pos (Nat.zero_le _), Nat.sub_zero, getObj_get] at hx
    cases hi : N[i]? with
    | none => rw [hi] at hx; cases hx
    | some o =>
      rw [hi] at hx
      simp only [Option.map_some, Option.join_some] at hx
      cases hy : st.h.get o with
      | none => rw [hy] at hx; cases hx
      | some y => rw [hy] at hx; exact ⟨o, y, rfl, hy, hx⟩
  have hinj : ∀ i o, N[i]? = some o → (g.ren N).inj i = g.inj o := fun i o h => by simp [Gh.ren, h]
  refine ⟨⟨⟨hc.ok.size, fun i x hx => ?_, fun i j x y b base base' hij hx hy hb hb' => ?_, hc.ok.K⟩, fun i hi => ?_, ?_, ?_⟩, hr.1, fun t => ?_⟩
  · obtain ⟨o, y, h1, h2, h3⟩ := hget i x hx
    refine (hc.ok.obj' o y h2).imp (fun q => ⟨by rw [hinj i o h1]; exact q.1, by obtain ⟨s0, e0, rfl⟩ := q.2; simp only [AObj.ren, AV.ren.go, Option.some.injEq] at h3; exact ⟨s0, e0, h3.symm⟩⟩) ?_
    rintro ⟨b, base, q1, q2, q3⟩
    exact ⟨b, base, by rw [hinj i o h1]; exact q1, q2, q3.ren hτ h3⟩
  · obtain ⟨o, y1, h1, h2, _⟩ := hget i x hx
    obtain ⟨o', y2, h1', h2', _⟩ := hget j y hy
    rw [hinj i o h1] at hb
    rw [hinj j o' h1'] at hb'
    have hne : o ≠ o' := by
      intro e
      subst e
      obtain ⟨hi, ei⟩ := List.getElem?_eq_some_iff.1 h1
      obtain ⟨hj, ej⟩ := List.getElem?_eq_some_iff.1 h1'
      exact hij ((List.getElem_inj hnd).1 (ei.trans ej.symm))
    exact hc.ok.sep o o' _ _ b base base' hne h2 h2' hb hb'
  · simp only [stK, getObj_length] at hi
    intro _; simp [Gh.ren, List.getElem?_eq_none hi]
  · have b := hc.base
    refine ⟨b.b0, fun o ho => ?_, b.K, b.cell, b.size, b.os, b.tape, b.output, b.frame, fun i c base hi hj => ?_, b.Kold, b.blk, b.lp⟩
    · have ho := ho.resolve_right (hnf o)
      rw [hinj o o (by rw [hpre, List.getElem?_append_left (by rw [fromTo_length]; exact ho), fromTo_get _ _ _ ho, Nat.zero_add])]
      exact b.pins o (.inl ho)
    · obtain ⟨x, hx⟩ := Option.isSome_iff_exists.1 hi
      obtain ⟨o, y, h1, h2, _⟩ := hget i x hx
      rw [hinj i o h1] at hj
      exact b.own o c base (by rw [h2]; rfl) hj
  · simp only [stK, getObj_length]
    rw [hpre, List.length_append, fromTo_length]
    omega
  · rw [renGo_map, List.map_map, zipK_lk]
    by_cases h : t ∈ keep
    · rw [if_pos h]; exact (hr.2 t).ren hτ
    · rw [if_neg h]; exact .bad _

/-- Names that are given anew, for values and objects alone. -/
def canonP (pin : Nat) (vs : List AV) (os : List (Option AObj)) : List Nat := reach (stK os).h reachFuel (AV.names.go vs ++ namesAt (stK os).h (fromTo 0 pin)) (fromTo 0 pin)
theorem WkV.canon {pin : Nat} {vs : List AV} {os : List (Option AObj)} (hp : pin ≤ 1000) :
    WkV pin vs os (AV.ren.go (fun o => idx (canonP pin vs os) o 0) vs) (getObj' (stK os).h (fun o => idx (canonP pin vs os) o 0) (canonP pin vs os)) := by
  have hN := reach_acc (stK os).h reachFuel (AV.names.go vs ++ namesAt (stK os).h (fromTo 0 pin)) (fromTo 0 pin) (fromTo_nodup _ _)
  change (canonP pin vs os).Nodup ∧ (∃ r, canonP pin vs os = fromTo 0 pin ++ r) ∧ (canonP pin vs os).length ≤ _ at hN
  have hτ : ∀ o p, (fun o => idx (canonP pin vs os) o 0) o = some p → (canonP pin vs os)[p]? = some o := fun o p h => idx_tau _ o p h
  generalize canonP pin vs os = N at hN hτ
  obtain ⟨hnd, ⟨rest, hpre⟩, hlen⟩ := hN
  rw [fromTo_length] at hlen
  have hlim : N.length ≤ limit := by simp only [reachFuel, limit] at *; omega
  refine ⟨by rw [renGo_map, List.length_map], fun _ => by rw [getObj_length, hpre, List.length_append, fromTo_length]; omega, fun g w us hok hf hr => ⟨g.ren N, ?_⟩⟩
  have hget : ∀ i x, (stK (getObj' (stK os).h (fun o => idx N o 0) N)).h.get i = some x → ∃ o y, N[i]? = some o ∧ (stK os).h.get o = some y ∧ y.ren (fun o => idx N o 0) = some x := by
    intro i x hx
    rw [show (stK (getObj' (stK os).h (fun o => idx N o 0) N)).h = heapK 0 (getObj' (stK os).h (fun o => idx N o 0) N) from rfl, heapK_get _ _ _ (by rw [getObj_length]; omega), if_pos (Nat.zero_le _), Nat.sub_zero, getObj_get] at hx
    cases hi : N[i]? with
    | none => rw [hi] at hx; cases hx
    | some o =>
      rw [hi] at hx
      simp only [Option.map_some, Option.join_some] at hx
      cases hy : (stK os).h.get o with
      | none => rw [hy] at hx; cases hx
      | some y => rw [hy] at hx; exact ⟨o, y, rfl, hy, hx⟩
  have hinj : ∀ i o, N[i]? = some o → (g.ren N).inj i = g.inj o := fun i o h => by simp [Gh.ren, h]
  refine ⟨⟨hok.size, fun i x hx => ?_, fun i j x y b base base' hij hx hy hb hb' => ?_, hok.K⟩, ?_, rfl, fun o ho => ?_, fun o ho => ?_, fun _ _ h => h, fun i b base hi hj => ?_, fun _ _ h => .inl h⟩
  · obtain ⟨o, y, h1, h2, h3⟩ := hget i x hx
    refine (hok.obj' o y h2).imp (fun q => ⟨by rw [hinj i o h1]; exact q.1, by obtain ⟨s0, e0, rfl⟩ := q.2; simp only [AObj.ren, AV.ren.go, Option.some.injEq] at h3; exact ⟨s0, e0, h3.symm⟩⟩) ?_
    rintro ⟨b, base, q1, q2, q3⟩
    exact ⟨b, base, by rw [hinj i o h1]; exact q1, q2, q3.ren hτ h3⟩
  · obtain ⟨o, y1, h1, h2, _⟩ := hget i x hx
    obtain ⟨o', y2, h1', h2', _⟩ := hget j y hy
    rw [hinj i o h1] at hb
    rw [hinj j o' h1'] at hb'
    have hne : o ≠ o' := by
      intro e
      subst e
      obtain ⟨hi, ei⟩ := List.getElem?_eq_some_iff.1 h1
      obtain ⟨hj, ej⟩ := List.getElem?_eq_some_iff.1 h1'
      exact hij ((List.getElem_inj hnd).1 (ei.trans ej.symm))
    exact hok.sep o o' _ _ b base base' hne h2 h2' hb hb'
  · rw [renGo_map]
    refine ⟨by simpa using hr.1, fun i a v ha hv => ?_⟩
    rw [List.getElem?_map, Option.map_eq_some_iff] at ha
    obtain ⟨x, hx, rfl⟩ := ha
    exact (hr.2 i x v hx hv).ren hτ
  · rw [getObj_length] at ho
    simp [Gh.ren, List.getElem?_eq_none ho]
  · rw [hinj o o (by rw [hpre, List.getElem?_append_left (by rw [fromTo_length]; exact ho), fromTo_get _ _ _ ho, Nat.zero_add])]
  · obtain ⟨x, hx⟩ := Option.isSome_iff_exists.1 hi
    obtain ⟨o, y, h1, h2, _⟩ := hget i x hx
    rw [hinj i o h1] at hj
    exact ⟨o, base, by rw [h2]; rfl, hj⟩

theorem canon_marks {B : BaseP} {D : List Deferred} {n0 : Nat} {g : Gh} {st : St} {w : World} {L : SL} {ds : List Deferred} (hp : B.pin ≤ 1000) (keep : List Nat) (hd : Marks D n0 st.h g w ds) :
    Marks D n0 (stK (canonO B.pin keep L st)).h (g.ren (canonN B.pin keep L st)) w ds := by
  have hN := reach_acc st.h reachFuel (AV.names.go (keep.map (lk L)) ++ namesAt st.h (fromTo 0 B.pin)) (fromTo 0 B.pin) (fromTo_nodup _ _)
  change (canonN B.pin keep L st).Nodup ∧ (∃ r, canonN B.pin keep L st = fromTo 0 B.pin ++ r) ∧ (canonN B.pin keep L st).length ≤ _ at hN
  unfold canonO
  generalize canonN B.pin keep L st = N at hN
  obtain ⟨hnd, ⟨rest, hpre⟩, hlen⟩ := hN
  rw [fromTo_length] at hlen
  have hlim : N.length ≤ limit := by simp only [reachFuel, limit] at *; omega
  obtain ⟨bs, h1, h2, h3⟩ := hd
  refine ⟨bs, h1, h2, fun b hb => ⟨(h3 b hb).1, (h3 b hb).2.1, fun i base hi hj => ?_⟩⟩
  obtain ⟨x, hx⟩ := Option.isSome_iff_exists.1 hi
  simp only [stK] at hx
  rw [heapK_get _ _ _ (by rw [getObj_length]; omega), if_pos (Nat.zero_le _), Nat.sub_zero, getObj_get] at hx
  cases hi' : N[i]? with
  | none => rw [hi'] at hx; cases hx
  | some o =>
    rw [hi'] at hx
    simp only [Option.map_some, Option.join_some] at hx
    cases hy : st.h.get o with
    | none => rw [hy] at hx; cases hx
    | some y =>
      have : (g.ren N).inj i = g.inj o := by simp [Gh.ren, hi']
      rw [this] at hj
      exact (h3 b hb).2.2 o base (by rw [hy]; rfl) hj

/-! ### Loops -/
theorem wpIn_loop_least {F : Fence} {n : Nat} {P : Program} {c : Code} {Q : Exit → Act → World → Prop} {a : Act} {w : World} (h : ∀ X : Act → World → Prop, (∀ a w, c.wpIn F n P (Exit.then X Q) a w → X a w) → X a w) : (Code.loop c).wpIn F n P Q a w := by
  intro b k cs hro hb hr
  have key := h (fun a w => ∃ e a' w', Q e a' w' ∧ ArrivesIn (Machine.fenced P F) P (lone (b.atR a (.code c :: .inLoop c :: k)) cs w) b k cs e a' w') (fun a w hw => by
    obtain ⟨e, a₁, w₁, hq, harr⟩ := hw b (.inLoop c :: k) cs hro hb hr
    cases e with
    | normal =>
      obtain ⟨e₂, a₂, w₂, hq₂, harr₂⟩ := hq
      exact ⟨e₂, a₂, w₂, hq₂, .of_steps (StepsIn.trans harr (.one (fenced_calm hb hr rfl) stepR_inLoop)) harr₂⟩
    | exit id => exact ⟨_, a₁, w₁, hq, .pass (x := .inLoop c) rfl (fun _ _ => .inl (by simp)) harr⟩
    | goto l => exact ⟨_, a₁, w₁, hq, .pass (x := .inLoop c) rfl (fun _ _ => .inl (by simp)) harr⟩
    | ret => exact ⟨_, a₁, w₁, hq, .pass (x := .inLoop c) rfl (fun _ _ => .inl (by simp)) harr⟩
    | panic ch => exact ⟨_, a₁, w₁, hq, .pass (x := .inLoop c) rfl (fun _ _ => .inl (by simp)) harr⟩
    | outgrown => exact ⟨_, a₁, w₁, hq, .pass (x := .inLoop c) rfl (fun _ _ => .inl (by simp)) harr⟩)
  obtain ⟨e, a', w', hq, harr⟩ := key
  exact ⟨e, a', w', hq, .of_steps (.one (fenced_calm hb hr rfl) stepR_loop) harr⟩

/-- What a walk says of a piece of code. -/
def WlOk (P : Program) (ro : Option Nat) (N : Nat) (B : BaseP) (nt : Nat) (c : Code) (W : QL → SL → St → Prop) : Prop :=
  ∀ (Q : QL) (L : SL) (st : St) (g : Gh) (w : World) (a : Act), W Q L st → Cur B g st w → RelSL g w nt L a.tmps → Marks B.D B.n0 st.h g w a.defers → c.wpIn (fence ro) N P (Fin B nt Q) a w

theorem canonV_map (pin : Nat) (keep : List Nat) (L : SL) (st : St) : canonV pin keep L st = keep.map (fun t => (lk L t).ren (fun o => idx (canonN pin keep L st) o 0)) := by
  unfold canonV
  rw [renGo_map, List.map_map]
  rfl
theorem relL_keep {g w nt} {keep : List Nat} {L : SL} {tmps : Array Value} (f : Nat → AV) (hr : RelSL g w nt (zipK keep (keep.map f)) tmps) : RelL g w (keep.map f) (keep.map fun t => tmps.getD t undef) := by
  refine ⟨by simp, fun i a v ha hv => ?_⟩
  rw [List.getElem?_map, Option.map_eq_some_iff] at ha hv
  obtain ⟨t, ht, rfl⟩ := ha
  obtain ⟨t', ht', rfl⟩ := hv
  rw [ht] at ht'; cases ht'
  have := hr.2 t
  rw [zipK_lk, if_pos (List.mem_of_getElem? ht)] at this
  exact this
theorem relSL_keep {g w nt} {tmps : Array Value} (hs : tmps.size = nt) : ∀ (keep : List Nat) (vs : List AV), RelL g w vs (keep.map fun t => tmps.getD t undef) → RelSL g w nt (zipK keep vs) tmps := by
  intro keep vs h
  refine ⟨hs, fun t => ?_⟩
  induction keep generalizing vs with
  | nil => exact .bad _
  | cons k ks ih =>
    cases vs with
    | nil => exact .bad _
    | cons v vs =>
      rw [List.map_cons] at h
      simp only [zipK, lk_cons]
      by_cases e : k = t
      · subst e; rw [if_pos rfl]; exact h.head
      · rw [if_neg e]; exact ih vs h.tail
theorem head_ok {B : BaseP} {nt : Nat} {g : Gh} {st : St} {w : World} {L : SL} {tmps : Array Value} (hnf : B.NoFar) (hp : B.pin ≤ 1000) (keep : List Nat) {X : List AV → List (Option AObj) → Prop} (h : upW B.pin X (canonV B.pin keep L st) (canonO B.pin keep L st)) (hc : Cur B g st w) (hr : RelSL g w nt L tmps) :
    ∃ vs os g', X vs os ∧ Cur B g' (stK os) w ∧ RelSL g' w nt (zipK keep vs) tmps ∧ (∀ D n0 ds, Marks D n0 (stK (canonO B.pin keep L st)).h (g.ren (canonN B.pin keep L st)) w ds → Marks D n0 (stK os).h g' w ds) ∧ (∀ b, Unowned (g.ren (canonN B.pin keep L st)) (stK (canonO B.pin keep L st)).h b → Unowned g' (stK os).h b) := by
  obtain ⟨vs', os', hw, hx⟩ := h
  have := canon_ok hnf hp keep hc hr
  have hv := canonV_map B.pin keep L st
  have hrl := this.2
  rw [hv] at hrl
  have hk := relL_keep (L := L) _ hrl
  rw [← hv] at hk
  obtain ⟨h1, h2, h3⟩ := hw
  obtain ⟨g', q1, q2, q3, q4, q4', q5, q6, q7⟩ := h3 _ w _ this.1.ok (fun o ho => this.1.fresh o (by simpa [stK] using ho) (hnf o)) hk
  have b := this.1.base
  refine ⟨vs', os', g', hx, ⟨q1, fun o ho hf => q4 o (by simpa [stK] using ho), ⟨q3.trans b.b0, fun o ho => by rw [q4' o (ho.resolve_right (hnf o))]; exact b.pins o ho, fun b' j hk => q5 _ _ (b.K b' j hk), b.cell, b.size, b.os, b.tape, b.output, b.frame, fun o c base ho hi => ?_, fun c j hk => ?_, b.blk, b.lp⟩, by have := h2 (by simpa [stK] using this.1.pin); simpa [stK] using this⟩, relSL_keep hr.1 keep vs' q2, fun D n0 ds hm => ?_, fun b hu o base ho hi => by
    obtain ⟨o2, base2, e1, e2⟩ := q6 o _ base ho hi
    exact hu o2 base2 e1 e2⟩
  · obtain ⟨o2, base2, e1, e2⟩ := q6 o c base ho hi
    exact b.own o2 c base2 e1 e2
  · rcases q7 c j hk with h4 | ⟨o, base, h4, h5⟩
    · exact b.Kold c j h4
    · exact .inr (b.own o c base h4 h5)
  · obtain ⟨bs, e1, e2, e3⟩ := hm
    exact ⟨bs, e1, e2, fun b hb => ⟨(e3 b hb).1, (e3 b hb).2.1, fun o base ho hi => by
      obtain ⟨o2, base2, p1, p2⟩ := q6 o _ base ho hi
      exact (e3 b hb).2.2 o2 base2 p1 p2⟩⟩
theorem loop_ok {P : Program} {ro : Option Nat} {N : Nat} {B : BaseP} {nt : Nat} {c : Code} {W : QL → SL → St → Prop} (hnf : B.NoFar) (hp : B.pin ≤ 1000) (h : WlOk P ro N B nt c W) : WlOk P ro N B nt (.loop c) (LoopL B.pin W) := by
  intro Q L st g w a hw hc hr hd
  obtain ⟨keep, hw⟩ := hw
  refine wpIn_loop_least fun Y hY => ?_
  have head : ∀ (L : SL) (st : St) (g : Gh) (w : World) (a : Act), upW B.pin (fun vs os => ∀ g w a, Cur B g (stK os) w → RelSL g w nt (zipK keep vs) a.tmps → Marks B.D B.n0 (stK os).h g w a.defers → Y a w) (canonV B.pin keep L st) (canonO B.pin keep L st) → Cur B g st w → RelSL g w nt L a.tmps → Marks B.D B.n0 st.h g w a.defers → Y a w := by
    intro L st g w a hh hc hr hd
    obtain ⟨vs', os', g', hx, k1, k2, k3, _⟩ := head_ok hnf hp keep hh hc hr
    exact hx g' w a k1 k2 (k3 _ _ _ (canon_marks hp keep hd))
  have hX := hw (fun vs os => ∀ g w a, Cur B g (stK os) w → RelSL g w nt (zipK keep vs) a.tmps → Marks B.D B.n0 (stK os).h g w a.defers → Y a w) (fun vs os hb g w a hc hr hd => by
    refine hY a w (wpIn_mono (h _ _ _ g w a hb hc hr hd) ?_)
    rintro ex a' w' ⟨e, L', st', g', rfl, hq, hc', hr', hd'⟩
    cases e with
    | normal => exact head _ _ _ _ _ hq hc' hr' hd'
    | exit id => exact ⟨.exit id, L', st', g', rfl, hq, hc', hr', hd'⟩
    | ret => exact ⟨.ret, L', st', g', rfl, hq, hc', hr', hd'⟩)
  exact head _ _ _ _ _ hX hc hr hd

/-- A loop by a measure. -/
theorem LoopL.of_w {α : Type} {pin : Nat} {B : QL → SL → St → Prop} {Q : QL} {L : SL} {st : St} (keep : List Nat) (V : α → List AV) (O : α → List (Option AObj)) (I : α → Prop) (μ : α → Nat) (x : α) (hx : I x)
    (hv : WkV pin (canonV pin keep L st) (canonO pin keep L st) (V x) (O x))
    (hmono : ∀ (Q Q' : QL), (∀ e L st, Q e L st → Q' e L st) → ∀ L st, B Q L st → B Q' L st)
    (step : ∀ x, I x → B (headQ pin keep (fun vs os => ∃ y, I y ∧ μ y < μ x ∧ WkV pin vs os (V y) (O y)) Q) (zipK keep (V x)) (stK (O x))) : LoopL pin B Q L st := by
  refine ⟨keep, fun X hX => ⟨_, _, hv, ?_⟩⟩
  have key : ∀ n x, μ x = n → I x → X (V x) (O x) := by
    intro n
    induction n using Nat.strongRecOn with
    | _ n ih =>
      intro x hn hi
      refine hX _ _ (hmono _ _ ?_ _ _ (step x hi))
      intro e L' st' hq
      cases e with
      | normal =>
        obtain ⟨y, h1, h2, h3⟩ := hq
        exact ⟨_, _, h3, ih (μ y) (by omega) y rfl h1⟩
      | exit id => exact hq
      | ret => exact hq
  exact key _ x rfl hx
theorem LoopL.of {α : Type} {pin : Nat} {B : QL → SL → St → Prop} {Q : QL} {L : SL} {st : St} (keep : List Nat) (V : α → List AV) (O : α → List (Option AObj)) (I : α → Prop) (μ : α → Nat) (x : α) (hx : I x)
    (hv : canonV pin keep L st = V x) (ho : canonO pin keep L st = O x)
    (hmono : ∀ (Q Q' : QL), (∀ e L st, Q e L st → Q' e L st) → ∀ L st, B Q L st → B Q' L st)
    (step : ∀ x, I x → B (headQ pin keep (fun vs os => ∃ y, I y ∧ μ y < μ x ∧ vs = V y ∧ os = O y) Q) (zipK keep (V x)) (stK (O x))) : LoopL pin B Q L st :=
  LoopL.of_w keep V O I μ x hx (by rw [hv, ho]; exact .refl _ _ _) hmono (fun x hi => hmono _ _ (fun e L' st' hq => by
    cases e with
    | normal =>
      obtain ⟨y, h1, h2, h3, h4⟩ := hq
      refine ⟨y, h1, h2, ?_⟩
      rw [h3, h4]; exact .refl _ _ _
    | exit id => exact hq
    | ret => exact hq) _ _ (step x hi))

end
end Go.Vm
