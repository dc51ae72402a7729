/- More steps: an object is forgotten, written, named anew; what a row of stores comes to. No condition. -/
import Derived.Test.YtnkjblopaagkoaaVmC
namespace Go.Vm

theorem ObjRel.lt {g w b base x} (h : ObjRel g w b base x) : b < w.heap.size := by
  cases x with
  | row cells k st et => obtain ⟨cs, fr, hh, _⟩ := h; exact lt_of_heap hh
  | map es => obtain ⟨_, ms, clock, hh, _⟩ := h; exact lt_of_heap hh
  | loop => obtain ⟨_, l, hh, _⟩ := h; exact lt_of_heap hh

theorem drop_step {g h w o lo hi} (hok : Ok g h w) (hlim : o ≤ limit) : Step g h w lo hi g (h.set depth o none) w ∧ Ok g (h.set depth o none) w := by
  have hsub : ∀ p y, (h.set depth o none).get p = some y → h.get p = some y := by
    intro p y hy
    rw [get_set _ _ _ _ hlim] at hy
    by_cases e : p = o
    · rw [if_pos e] at hy; cases hy
    · rw [if_neg e] at hy; exact hy
  refine ⟨⟨.refl _ _, Nat.le_refl _, rfl, rfl, rfl, fun _ _ _ => rfl, fun _ h _ => h, fun p b base hp hj => ?_, fun _ _ h => .inl h⟩, ⟨hok.size, fun p y hy => hok.obj' p y (hsub p y hy), fun p p' y y' b base base' hne hy hy' => hok.sep p p' y y' b base base' hne (hsub _ _ hy) (hsub _ _ hy'), hok.K⟩⟩
  obtain ⟨y, hy⟩ := Option.isSome_iff_exists.1 hp
  exact .inr ⟨p, base, by rw [hsub p y hy]; rfl, hj⟩

/-- An empty row that lies nowhere. -/
theorem ghost_step {g h w id x lo hi} (hok : Ok g h w) (hid : g.inj id = none) (hlim : id ≤ limit) (hx : Ghostly x) : Step g h w lo hi g (h.set depth id (some x)) w ∧ Ok g (h.set depth id (some x)) w := by
  have hget : ∀ p y, (h.set depth id (some x)).get p = some y → (p = id ∧ y = x) ∨ h.get p = some y := by
    intro p y hy
    rw [get_set _ _ _ _ hlim] at hy
    by_cases e : p = id
    · rw [if_pos e] at hy; exact .inl ⟨e, (Option.some.inj hy).symm⟩
    · rw [if_neg e] at hy; exact .inr hy
  refine ⟨⟨.refl _ _, Nat.le_refl _, rfl, rfl, rfl, fun _ _ _ => rfl, fun _ h _ => h, fun p b base hp hj => ?_, fun _ _ h => .inl h⟩, ⟨hok.size, fun p y hy => ?_, fun p p' y y' b base base' hne hy hy' hb hb' => ?_, hok.K⟩⟩
  · obtain ⟨y, hy⟩ := Option.isSome_iff_exists.1 hp
    rcases hget p y hy with ⟨rfl, _⟩ | hy
    · rw [hid] at hj; cases hj
    · exact .inr ⟨p, base, by rw [hy]; rfl, hj⟩
  · rcases hget p y hy with ⟨rfl, rfl⟩ | hy
    · exact .inl ⟨hid, hx⟩
    · exact hok.obj' p y hy
  · rcases hget p y hy with ⟨rfl, _⟩ | hy
    · rw [hid] at hb; cases hb
    rcases hget p' y' hy' with ⟨rfl, _⟩ | hy'
    · rw [hid] at hb'; cases hb'
    exact hok.sep p p' y y' b base base' hne hy hy' hb hb'

theorem modify_step {g h w o b base lo up} {x x' : AObj} {ob ob' : Obj} (hok : Ok g h w) (ho : h.get o = some x) (hi : g.inj o = some (b, base)) (hob : w.heap[b]? = some ob)
    (hblk : ∀ (cs : Array Value) e fr, ob = .cells cs e fr → ∃ (cs' : Array Value) (fr' : Nat × Nat), ob' = .cells cs' e fr' ∧ cs'.size = cs.size)
    (hcell : ∀ j, g.K b j → (putB w b ob').cell? ⟨b, j, none⟩ = w.cell? ⟨b, j, none⟩) (hlim : o ≤ limit)
    (hx : Ext g w g (putB w b ob') → ObjRel g (putB w b ob') b base x') (hlp : ∀ l, ob = .loop l → ∃ l', ob' = .loop l' := by intro l hl; cases hl) :
    Step g h w lo up g (h.set depth o (some x')) (putB w b ob') ∧ Ok g (h.set depth o (some x')) (putB w b ob') := by
  have hlt := lt_of_heap hob
  have hext : Ext g w g (putB w b ob') := by
    refine ⟨rfl, fun _ _ h => h, fun _ _ h => h, fun c j hj => ?_, fun c cs e fr hc => ?_, fun c l hc => ?_⟩
    · by_cases hcb : c = b
      · subst hcb; exact hcell j hj
      · exact cell_heap (putB_other w ob' hcb)
    · by_cases hcb : c = b
      · subst hcb
        rw [hob] at hc
        obtain ⟨cs', fr', h1, h2⟩ := hblk cs e fr (Option.some.inj hc)
        exact ⟨cs', fr', by rw [putB_same _ hlt, h1], h2⟩
      · exact ⟨cs, fr, (putB_other w ob' hcb).trans hc, rfl⟩
    · by_cases hcb : c = b
      · subst hcb
        rw [hob] at hc
        obtain ⟨l', h1⟩ := hlp l (Option.some.inj hc)
        exact ⟨l', by rw [putB_same _ hlt, h1]⟩
      · exact ⟨l, (putB_other w ob' hcb).trans hc⟩
  refine ⟨⟨hext, by rw [putB_size]; exact Nat.le_refl _, rfl, rfl, rfl, fun c _ hn => putB_other w ob' (fun e => hn o base (by rw [ho]; rfl) (by rw [e]; exact hi)), fun _ h _ => h, fun p c base' hp hj => ?_, fun _ _ h => .inl h⟩,
    ⟨by rw [putB_size]; exact hok.size, fun p y hy => ?_, fun p p' y y' c base1 base2 hne hy hy' hb hb' => ?_, fun c j hj => by rw [putB_size]; exact hok.K c j hj⟩⟩
  · by_cases e : p = o
    · subst e; exact .inr ⟨p, base', by rw [ho]; rfl, hj⟩
    · rw [get_set _ _ _ _ hlim, if_neg e] at hp
      exact .inr ⟨p, base', hp, hj⟩
  · rw [get_set _ _ _ _ hlim] at hy
    by_cases e : p = o
    · subst e; simp at hy; subst hy
      obtain ⟨b', base', h1, h2, _⟩ := hok.obj p x ho
      rw [hi] at h1; cases h1
      exact .inr ⟨b, base, hi, h2, hx hext⟩
    · rw [if_neg e] at hy
      refine (hok.obj' p y hy).imp id ?_
      rintro ⟨b', base', h1, h2, h3⟩
      have hne : b' ≠ b := fun e' => hok.sep p o y x b base' base e hy ho (by rw [← e']; exact h1) hi
      exact ⟨b', base', h1, h2, h3.ext hext (putB_other w ob' hne) (fun _ h => h)⟩
  · rw [get_set _ _ _ _ hlim] at hy hy'
    have f : ∀ p y, (if p = o then some x' else h.get p) = some y → ∃ z, h.get p = some z := by
      intro p y hy
      by_cases e : p = o
      · subst e; exact ⟨x, ho⟩
      · rw [if_neg e] at hy; exact ⟨y, hy⟩
    obtain ⟨z, hz⟩ := f p y hy
    obtain ⟨z', hz'⟩ := f p' y' hy'
    exact hok.sep p p' z z' c base1 base2 hne hz hz' hb hb'

/-- An object's block gets a new name, from a further place on; the old one is forgotten. -/
theorem realias_step {g h w o id b base base'} {x x' : AObj} (hok : Ok g h w) (ho : h.get o = some x) (hi : g.inj o = some (b, base)) (hid : g.inj id = none) (hlo : o ≤ limit) (hlim : id ≤ limit)
    (hx : Ext g w (g.with id b base') w → ObjRel (g.with id b base') w b base' x') :
    Step g h w id (id + 1) (g.with id b base') ((h.set depth o none).set depth id (some x')) w ∧ Ok (g.with id b base') ((h.set depth o none).set depth id (some x')) w := by
  have hext : Ext g w (g.with id b base') w := ⟨rfl, fun p q hp => by rw [Gh.with_other (by intro e; subst e; rw [hid] at hp; cases hp)]; exact hp, fun _ _ h => h, fun _ _ _ => rfl, fun _ cs _ fr h => ⟨cs, fr, h, rfl⟩, fun _ l h => ⟨l, h⟩⟩
  have hget : ∀ p y, ((h.set depth o none).set depth id (some x')).get p = some y → (p = id ∧ y = x') ∨ (p ≠ id ∧ p ≠ o ∧ h.get p = some y) := by
    intro p y hy
    rw [get_set _ _ _ _ hlim, get_set _ _ _ _ hlo] at hy
    by_cases e : p = id
    · rw [if_pos e] at hy; exact .inl ⟨e, (Option.some.inj hy).symm⟩
    · rw [if_neg e] at hy
      by_cases e' : p = o
      · rw [if_pos e'] at hy; cases hy
      · rw [if_neg e'] at hy; exact .inr ⟨e, e', hy⟩
  refine ⟨⟨hext, Nat.le_refl _, rfl, rfl, rfl, fun _ _ _ => rfl, fun p hp hr => by rw [Gh.with_other (by omega)]; exact hp, fun p c base1 hp hj => ?_, fun _ _ h => .inl h⟩, ⟨hok.size, fun p y hy => ?_, fun p p' y y' c base1 base2 hne hy hy' hb hb' => ?_, hok.K⟩⟩
  · obtain ⟨y, hy⟩ := Option.isSome_iff_exists.1 hp
    rcases hget p y hy with ⟨rfl, _⟩ | ⟨e, _, hy'⟩
    · rw [Gh.with_inj] at hj; cases hj
      exact .inr ⟨o, base, by rw [ho]; rfl, hi⟩
    · rw [Gh.with_other e] at hj
      exact .inr ⟨p, base1, by rw [hy']; rfl, hj⟩
  · rcases hget p y hy with ⟨rfl, rfl⟩ | ⟨e, _, hy'⟩
    · obtain ⟨b1, base1, h1, h2, _⟩ := hok.obj o x ho
      rw [hi] at h1; cases h1
      exact .inr ⟨b, base', Gh.with_inj, h2, hx hext⟩
    · refine (hok.obj' p y hy').imp (fun h => ⟨by rw [Gh.with_other e]; exact h.1, h.2⟩) ?_
      rintro ⟨b1, base1, h1, h2, h3⟩
      exact ⟨b1, base1, by rw [Gh.with_other e]; exact h1, h2, h3.ext hext rfl (fun _ h => h)⟩
  · rcases hget p y hy with ⟨rfl, _⟩ | ⟨e, eo, hz⟩
    · rcases hget p' y' hy' with ⟨rfl, _⟩ | ⟨e', eo', hz'⟩
      · exact hne rfl
      · rw [Gh.with_inj] at hb; cases hb
        rw [Gh.with_other e'] at hb'
        exact hok.sep o p' x y' b base base2 (fun h => eo' h.symm) ho hz' hi hb'
    · rcases hget p' y' hy' with ⟨rfl, _⟩ | ⟨e', eo', hz'⟩
      · rw [Gh.with_inj] at hb'; cases hb'
        rw [Gh.with_other e] at hb
        exact hok.sep p o y x b base1 base eo hz ho hb hi
      · rw [Gh.with_other e] at hb
        rw [Gh.with_other e'] at hb'
        exact hok.sep p p' y y' c base1 base2 hne hz hz' hb hb'

/-! ### A row of stores -/
def splice (cs : Array Value) (n : Nat) (vs : List Value) : Array Value := (cs.toList.take n ++ vs ++ cs.toList.drop (n + vs.length)).toArray
theorem splice_size (cs : Array Value) (n : Nat) (vs : List Value) (h : n + vs.length ≤ cs.size) : (splice cs n vs).size = cs.size := by
  simp only [splice, List.size_toArray, List.length_append, List.length_take, List.length_drop, Array.length_toList]
  omega
theorem splice_get (cs : Array Value) (n : Nat) (vs : List Value) (h : n + vs.length ≤ cs.size) (j : Nat) :
    (splice cs n vs)[j]? = if n ≤ j ∧ j < n + vs.length then vs[j - n]? else cs[j]? := by
  have hl : (cs.toList.take n).length = n := by simp; omega
  simp only [splice, List.getElem?_toArray]
  by_cases h1 : j < n
  · rw [if_neg (by omega), List.append_assoc, List.getElem?_append_left (by omega), List.getElem?_take, if_pos h1]
    simp
  · rw [List.append_assoc, List.getElem?_append_right (by omega), hl]
    by_cases h2 : j - n < vs.length
    · rw [if_pos (by omega), List.getElem?_append_left h2]
    · rw [if_neg (by omega), List.getElem?_append_right (by omega), List.getElem?_drop, show n + vs.length + (j - n - vs.length) = j from by omega]
      simp
theorem splice_nil (cs : Array Value) (n : Nat) : splice cs n [] = cs := by
  simp [splice]
theorem splice_cons (cs : Array Value) (n : Nat) (v : Value) (vs : List Value) (h : n + vs.length + 1 ≤ cs.size) : splice (cs.setIfInBounds n v) (n + 1) vs = splice cs n (v :: vs) := by
  apply Array.ext'
  apply List.ext_getElem?
  intro j
  have e1 := splice_get (cs.setIfInBounds n v) (n + 1) vs (by simp; omega) j
  have e2 := splice_get cs n (v :: vs) (by simp; omega) j
  simp only [Array.getElem?_toList]
  rw [e1, e2]
  by_cases h1 : n + 1 ≤ j ∧ j < n + 1 + vs.length
  · rw [if_pos h1, if_pos (by simp; omega), show j - n = (j - (n + 1)) + 1 from by omega]
    simp
  · rw [if_neg h1]
    by_cases h2 : j = n
    · subst h2
      rw [if_pos (by simp)]
      have : j < cs.size := by omega
      simp [this]
    · rw [if_neg (by simp; omega), Array.getElem?_setIfInBounds_ne (by omega)]

theorem putB_putB (w : World) (b : Nat) (o o' : Obj) : putB (putB w b o) b o' = putB w b o' := by simp [putB]
theorem putB_self {w : World} {b : Nat} {o : Obj} (h : w.heap[b]? = some o) : putB w b o = w := by
  obtain ⟨hlt, _⟩ := Array.getElem?_eq_some_iff.1 h
  have : w.heap.setIfInBounds b o = w.heap := by
    apply Array.ext_getElem?
    intro i
    rw [Array.getElem?_setIfInBounds]
    by_cases hi : b = i
    · subst hi; rw [if_pos rfl, if_pos hlt, h]
    · rw [if_neg hi]
  simp [putB, this]
theorem setCell_put {w : World} {b n : Nat} {cs : Array Value} {e : TypeId} {fr : Nat × Nat} (h : w.heap[b]? = some (.cells cs e fr)) (v : Value) :
    w.setCell ⟨b, n, none⟩ v = putB w b (.cells (cs.setIfInBounds n v) e fr) := by
  have hlt := lt_of_heap h
  have : w.heap.modify b (fun x => match x with | .cells c elem frozen => .cells (c.setIfInBounds n v) elem frozen | o => o) = w.heap.setIfInBounds b (.cells (cs.setIfInBounds n v) e fr) := by
    apply Array.ext_getElem?
    intro i
    rw [Array.getElem?_modify, Array.getElem?_setIfInBounds]
    by_cases hi : b = i
    · subst hi; rw [if_pos rfl, if_pos rfl, if_pos hlt, h]; rfl
    · simp [hi]
  simp only [World.setCell, putB, Option.isSome_none, Bool.false_eq_true, if_false]
  exact congrArg (fun hp => ({ w with heap := hp } : World)) this
theorem Addr.add_at (b off n : Nat) : (⟨b, off, none⟩ : Addr).add n = ⟨b, off + n, none⟩ := by
  unfold Addr.add; split <;> simp_all
theorem frozen_at {w : World} {b n : Nat} {cs : Array Value} {e : TypeId} {fr : Nat × Nat} (h : w.heap[b]? = some (.cells cs e fr)) (hf : ¬ (fr.1 ≤ n ∧ n < fr.2)) : w.frozen? ⟨b, n, none⟩ = false := by
  simp only [World.frozen?, h]
  simpa using hf

theorem run_storeCells (P : Program) (b off : Nat) (e : TypeId) (fr : Nat × Nat) : ∀ (vs : List Value) (i : Nat) (cs : Array Value) (w : World), w.heap[b]? = some (.cells cs e fr) →
    off + i + vs.length ≤ cs.size → (∀ j, off + i ≤ j → j < off + i + vs.length → ¬ (fr.1 ≤ j ∧ j < fr.2)) → (∀ v ∈ vs, v.oneCell' = true) →
    (storeCells ⟨b, off, none⟩ vs i).run P w = .ok () (putB w b (.cells (splice cs (off + i) vs) e fr)) := by
  intro vs
  induction vs with
  | nil => intro i cs w h _ _ _; simp [storeCells, splice_nil, putB_self h]
  | cons v vs ih =>
    intro i cs w h hs hf h1
    simp only [List.length_cons] at hs hf
    have hc : w.cell? ⟨b, off + i, none⟩ = some cs[off + i] := by rw [cell_eq h]; simp
    have hfr := frozen_at (n := off + i) h (hf _ (by omega) (by omega))
    have hst : (store ((⟨b, off, none⟩ : Addr).add i) v).run P w = .ok () (putB w b (.cells (cs.setIfInBounds (off + i) v) e fr)) := by
      rw [Addr.add_at, run_store P w _ v _ (h1 v (by simp)), hc]
      simp only [hfr, Bool.false_eq_true, if_false]
      rw [setCell_put h]
    have hn := ih (i + 1) (cs.setIfInBounds (off + i) v) (putB w b (.cells (cs.setIfInBounds (off + i) v) e fr)) (putB_same _ (lt_of_heap h)) (by simp; omega)
      (fun j h1 h2 => hf j (by omega) (by omega)) (fun u hu => h1 u (by simp [hu]))
    rw [putB_putB] at hn
    simp only [storeCells, Sem.run_bind, hst, Result.andThen_ok, hn]
    rw [show off + (i + 1) = off + i + 1 from rfl, splice_cons _ _ _ _ (by omega)]

end Go.Vm
