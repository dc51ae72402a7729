/- The relation between the abstract machine and the model, and how it is carried from world to world. No condition. -/
import Derived.Test.YtnkjblopaagkoaaVmA
namespace Go.Vm

/-- What the abstract state leaves out: from which block on memory is the call's own; where objects lie; which cells are never written again. -/
structure Gh where
  b0 : Nat
  inj : Nat → Option (Nat × Nat)
  K : Nat → Nat → Prop

def Room (w : World) (b n : Nat) : Prop := ∃ (cs : Array Value) (e : TypeId) (fr : Nat × Nat), w.heap[b]? = some (Obj.cells cs e fr) ∧ n ≤ cs.size

inductive Rel (g : Gh) (w : World) : AV → Value → Prop
  | sc (x : Value) : Rel g w (.sc x) x
  | agg (l : List AV) (vs : Array Value) (hs : vs.size = l.length) (h : ∀ (i : Nat) a v, l[i]? = some a → vs[i]? = some v → Rel g w a v) : Rel g w (.agg l) (.agg vs)
  | tup (l : List AV) (vs : Array Value) (hs : vs.size = l.length) (h : ∀ (i : Nat) a v, l[i]? = some a → vs[i]? = some v → Rel g w a v) : Rel g w (.tup l) (.tuple vs)
  | vl (loc : Bool) (sz : Nat) (es : List AV) (b off cap : Nat) (c : Nat → Value) (hsz : ∀ e ∈ es, e.cells.length = sz) (hl : loc = true → g.b0 ≤ b) (hcap : es.length ≤ cap)
      (h : ∀ (j : Nat) a, (es.flatMap AV.cells)[j]? = some a → g.K b (off + j) ∧ w.cell? ⟨b, off + j, none⟩ = some (c j))
      (hr : ∀ (j : Nat) a, (es.flatMap AV.cells)[j]? = some a → Rel g w a (c j)) : Rel g w (.vl loc sz es) (.slice (some ⟨b, off, none⟩) es.length cap)
  | vlnil (loc : Bool) (sz : Nat) : Rel g w (.vl loc sz []) (.slice none 0 0)
  | vlz (loc : Bool) (sz : Nat) (a : Addr) : Rel g w (.vl loc sz []) (.slice (some a) 0 0)
  | sl (o off len sz b base cap : Nat) (hi : g.inj o = some (b, base)) (hc : len ≤ cap) (hm : cap ≤ maxLen) (hr : Room w b (base + off + cap * sz)) :
      Rel g w (.sl o off len sz) (.slice (some ⟨b, base + off, none⟩) len cap)
  | slz (o off sz : Nat) (a : Addr) : Rel g w (.sl o off 0 sz) (.slice (some a) 0 0)
  | sln (o off sz : Nat) : Rel g w (.sl o off 0 sz) (.slice none 0 0)
  | ez (a : Option Addr) : Rel g w .ez (.slice a 0 0)
  | ptr (o off b base : Nat) (hi : g.inj o = some (b, base)) : Rel g w (.ptr o off) (.pointer (some ⟨b, base + off, none⟩))
  | cptr (l : List AV) (b off : Nat) (c : Nat → Value) (h : ∀ (j : Nat) a, l[j]? = some a → g.K b (off + j) ∧ w.cell? ⟨b, off + j, none⟩ = some (c j))
      (hr : ∀ (j : Nat) a, l[j]? = some a → Rel g w a (c j)) : Rel g w (.cptr l) (.pointer (some ⟨b, off, none⟩))
  | fn (f : Fn) (first captured : List AV) (va vb : Array Value) (hs : va.size = first.length) (h : ∀ (i : Nat) a v, first[i]? = some a → va[i]? = some v → Rel g w a v)
      (hs' : vb.size = captured.length) (h' : ∀ (i : Nat) a v, captured[i]? = some a → vb[i]? = some v → Rel g w a v) : Rel g w (.fn f first captured) (.func f va vb)
  | mp (o b base : Nat) (hi : g.inj o = some (b, base)) : Rel g w (.mp o) (.map (some b))
  | ifc (t : TypeId) (a : AV) (v : Value) (h : Rel g w a v) : Rel g w (.ifc t a) (.iface t v)
  | yl (o b base : Nat) (hi : g.inj o = some (b, base)) : Rel g w (.yl o) (.func (.yield b) #[] #[])
  | bad (v : Value) : Rel g w .bad v

/-- From the one world to the other everything that is related stays so. -/
structure Ext (g : Gh) (w : World) (g' : Gh) (w' : World) : Prop where
  b0 : g'.b0 = g.b0
  inj : ∀ o p, g.inj o = some p → g'.inj o = some p
  K : ∀ b j, g.K b j → g'.K b j
  cell : ∀ b j, g.K b j → w'.cell? ⟨b, j, none⟩ = w.cell? ⟨b, j, none⟩
  blk : ∀ (b : Nat) (cs : Array Value) (e : TypeId) (fr : Nat × Nat), w.heap[b]? = some (Obj.cells cs e fr) → ∃ (cs' : Array Value) (fr' : Nat × Nat), w'.heap[b]? = some (Obj.cells cs' e fr') ∧ cs'.size = cs.size
  lp : ∀ (b : Nat) (l : Loop), w.heap[b]? = some (Obj.loop l) → ∃ l', w'.heap[b]? = some (Obj.loop l')

theorem Room.ext {g w g' w'} (hx : Ext g w g' w') {b n : Nat} (h : Room w b n) : Room w' b n := by
  obtain ⟨cs, e, fr, hb, hn⟩ := h
  obtain ⟨cs', fr', hb', hs⟩ := hx.blk _ _ _ _ hb
  exact ⟨cs', e, fr', hb', by omega⟩

theorem Rel.ext {g w g' w'} (hx : Ext g w g' w') {a : AV} {v : Value} (h : Rel g w a v) : Rel g' w' a v := by
  induction h with
  | sc x => exact .sc x
  | agg l vs hs _ ih => exact .agg l vs hs ih
  | tup l vs hs _ ih => exact .tup l vs hs ih
  | vl loc sz es b off cap c hsz hl hcap h _ ih =>
    exact .vl loc sz es b off cap c hsz (fun e => by rw [hx.b0]; exact hl e) hcap (fun j a hj => ⟨hx.K _ _ (h j a hj).1, (hx.cell _ _ (h j a hj).1).trans (h j a hj).2⟩) ih
  | vlnil loc sz => exact .vlnil loc sz
  | vlz loc sz a => exact .vlz loc sz a
  | sl o off len sz b base cap hi hc hm hr => exact .sl o off len sz b base cap (hx.inj _ _ hi) hc hm (hr.ext hx)
  | slz o off sz a => exact .slz o off sz a
  | sln o off sz => exact .sln o off sz
  | ez a => exact .ez a
  | ptr o off b base hi => exact .ptr o off b base (hx.inj _ _ hi)
  | cptr l b off c h _ ih =>
    exact .cptr l b off c (fun j a hj => ⟨hx.K _ _ (h j a hj).1, (hx.cell _ _ (h j a hj).1).trans (h j a hj).2⟩) ih
  | fn f first captured va vb hs _ hs' _ ih ih' => exact .fn f first captured va vb hs ih hs' ih'
  | mp o b base hi => exact .mp o b base (hx.inj _ _ hi)
  | ifc t a v _ ih => exact .ifc t a v ih
  | yl o b base hi => exact .yl o b base (hx.inj _ _ hi)
  | bad v => exact .bad v

theorem Ext.refl (g : Gh) (w : World) : Ext g w g w := ⟨rfl, fun _ _ h => h, fun _ _ h => h, fun _ _ _ => rfl, fun _ cs _ fr h => ⟨cs, fr, h, rfl⟩, fun _ l h => ⟨l, h⟩⟩
theorem Ext.trans {g w g' w' g'' w''} (h : Ext g w g' w') (k : Ext g' w' g'' w'') : Ext g w g'' w'' :=
  ⟨k.b0.trans h.b0, fun o p e => k.inj o p (h.inj o p e), fun b j e => k.K b j (h.K b j e), fun b j e => (k.cell b j (h.K b j e)).trans (h.cell b j e),
    fun b cs e fr hb => by
      obtain ⟨cs', fr', hb', hs⟩ := h.blk b cs e fr hb
      obtain ⟨cs'', fr'', hb'', hs'⟩ := k.blk b cs' e fr' hb'
      exact ⟨cs'', fr'', hb'', hs'.trans hs⟩,
    fun b l hb => by
      obtain ⟨l', hb'⟩ := h.lp b l hb
      exact k.lp b l' hb'⟩

/-- Lists, position by position. -/
def RelL (g : Gh) (w : World) (l : List AV) (vs : List Value) : Prop := vs.length = l.length ∧ ∀ (i : Nat) a v, l[i]? = some a → vs[i]? = some v → Rel g w a v
theorem RelL.nil (g w) : RelL g w [] [] := ⟨rfl, fun i a v h => by simp at h⟩
theorem RelL.cons {g w a v l vs} (h : Rel g w a v) (hl : RelL g w l vs) : RelL g w (a :: l) (v :: vs) :=
  ⟨by simp [hl.1], fun i x y hx hy => by
    cases i with
    | zero => simp at hx hy; subst hx hy; exact h
    | succ i => exact hl.2 i x y (by simpa using hx) (by simpa using hy)⟩
theorem RelL.head {g w a v l vs} (h : RelL g w (a :: l) (v :: vs)) : Rel g w a v := h.2 0 a v rfl rfl
theorem RelL.tail {g w a v l vs} (h : RelL g w (a :: l) (v :: vs)) : RelL g w l vs :=
  ⟨by simpa using h.1, fun i x y hx hy => h.2 (i + 1) x y (by simpa using hx) (by simpa using hy)⟩
theorem RelL.ext {g w g' w'} (hx : Ext g w g' w') {l vs} (h : RelL g w l vs) : RelL g' w' l vs := ⟨h.1, fun i a v ha hv => (h.2 i a v ha hv).ext hx⟩
theorem RelL.get {g w l vs} (h : RelL g w l vs) {i : Nat} {a : AV} (ha : l[i]? = some a) : ∃ v, vs[i]? = some v ∧ Rel g w a v := by
  have hi : i < vs.length := by rw [h.1]; exact (List.getElem?_eq_some_iff.1 ha).1
  exact ⟨vs[i], by simp [hi], h.2 i a _ ha (by simp [hi])⟩
theorem RelL.take {g w l vs} (h : RelL g w l vs) (n : Nat) : RelL g w (l.take n) (vs.take n) :=
  ⟨by simp [h.1], fun i a v ha hv => by
    rw [List.getElem?_take] at ha hv
    by_cases hn : i < n
    · simp [hn] at ha hv; exact h.2 i a v ha hv
    · simp [hn] at ha⟩
theorem RelL.drop {g w l vs} (h : RelL g w l vs) (n : Nat) : RelL g w (l.drop n) (vs.drop n) :=
  ⟨by simp [h.1], fun i a v ha hv => by
    rw [List.getElem?_drop] at ha hv
    exact h.2 _ a v ha hv⟩
theorem RelL.append {g w l vs l' vs'} (h : RelL g w l vs) (h' : RelL g w l' vs') : RelL g w (l ++ l') (vs ++ vs') :=
  ⟨by simp [h.1, h'.1], fun i a v ha hv => by
    by_cases hi : i < l.length
    · rw [List.getElem?_append_left hi] at ha
      rw [List.getElem?_append_left (by rw [h.1]; exact hi)] at hv
      exact h.2 i a v ha hv
    · rw [List.getElem?_append_right (by omega)] at ha
      rw [List.getElem?_append_right (by rw [h.1]; omega), h.1] at hv
      exact h'.2 _ a v ha hv⟩
theorem RelL.scs (g w) (l : List Value) : RelL g w (l.map .sc) l :=
  ⟨by simp, fun i a v ha hv => by
    rw [List.getElem?_map, hv] at ha
    simp at ha
    subst ha
    exact .sc v⟩

/-- A value that is exact is just that. -/
theorem toVs_get : ∀ (l : List AV) (vs : List Value), AV.toV.toVs l = some vs → vs.length = l.length ∧ ∀ (i : Nat) a, l[i]? = some a → ∃ x, a.toV = some x ∧ vs[i]? = some x := by
  intro l
  induction l with
  | nil => intro vs h; simp [AV.toV.toVs] at h; subst h; simp
  | cons a l ih =>
    intro vs h
    simp only [AV.toV.toVs] at h
    split at h
    · rename_i x xs hx hxs
      simp at h
      subst h
      obtain ⟨h1, h2⟩ := ih xs hxs
      refine ⟨by simp [h1], fun i b hb => ?_⟩
      cases i with
      | zero => simp at hb; subst hb; exact ⟨x, hx, rfl⟩
      | succ i => simp at hb; obtain ⟨y, hy, hy'⟩ := h2 i b hb; exact ⟨y, hy, by simpa using hy'⟩
    · cases h

theorem list_of_get {vs vs' : List Value} (hl : vs.length = vs'.length) (h : ∀ (i : Nat) v, vs[i]? = some v → vs'[i]? = some v) : vs = vs' := by
  apply List.ext_getElem? ; intro i
  by_cases hi : i < vs.length
  · rw [List.getElem?_eq_getElem hi]
    exact (h i _ (List.getElem?_eq_getElem hi)).symm
  · rw [List.getElem?_eq_none (by omega), List.getElem?_eq_none (by omega)]

theorem Rel.exact {g w} {a : AV} {v x : Value} (h : Rel g w a v) (hx : a.toV = some x) : v = x := by
  induction h generalizing x with
  | sc y => simpa [AV.toV] using hx
  | agg l vs hs _ ih =>
    simp only [AV.toV, Option.map_eq_some_iff] at hx
    obtain ⟨ws, hw, rfl⟩ := hx
    obtain ⟨h1, h2⟩ := toVs_get l ws hw
    congr 1
    apply Array.ext'
    refine list_of_get (by simp [hs, h1]) fun i u hu => ?_
    have hi : i < l.length := by have := (List.getElem?_eq_some_iff.1 hu).1; simp at this; omega
    obtain ⟨y, hy, hy'⟩ := h2 i l[i] (by simp [hi])
    rw [ih i l[i] u (by simp [hi]) (by simpa using hu) hy]
    simpa using hy'
  | tup l vs hs _ ih =>
    simp only [AV.toV, Option.map_eq_some_iff] at hx
    obtain ⟨ws, hw, rfl⟩ := hx
    obtain ⟨h1, h2⟩ := toVs_get l ws hw
    congr 1
    apply Array.ext'
    refine list_of_get (by simp [hs, h1]) fun i u hu => ?_
    have hi : i < l.length := by have := (List.getElem?_eq_some_iff.1 hu).1; simp at this; omega
    obtain ⟨y, hy, hy'⟩ := h2 i l[i] (by simp [hi])
    rw [ih i l[i] u (by simp [hi]) (by simpa using hu) hy]
    simpa using hy'
  | fn f first captured va vb hs _ hs' _ ih ih' =>
    simp only [AV.toV] at hx
    split at hx
    · rename_i xs ys hxs hys
      simp at hx
      subst hx
      obtain ⟨h1, h2⟩ := toVs_get _ _ hxs
      obtain ⟨k1, k2⟩ := toVs_get _ _ hys
      congr 1
      · apply Array.ext'
        refine list_of_get (by simp [hs, h1]) fun i u hu => ?_
        have hi : i < first.length := by have := (List.getElem?_eq_some_iff.1 hu).1; simp at this; omega
        obtain ⟨y, hy, hy'⟩ := h2 i first[i] (by simp [hi])
        rw [ih i first[i] u (by simp [hi]) (by simpa using hu) hy]
        simpa using hy'
      · apply Array.ext'
        refine list_of_get (by simp [hs', k1]) fun i u hu => ?_
        have hi : i < captured.length := by have := (List.getElem?_eq_some_iff.1 hu).1; simp at this; omega
        obtain ⟨y, hy, hy'⟩ := k2 i captured[i] (by simp [hi])
        rw [ih' i captured[i] u (by simp [hi]) (by simpa using hu) hy]
        simpa using hy'
    · cases hx
  | ifc t a v _ ih =>
    simp only [AV.toV, Option.map_eq_some_iff] at hx
    obtain ⟨y, hy, rfl⟩ := hx
    rw [ih hy]
  | yl | vl | vlnil | vlz | sl | slz | sln | ez | ptr | cptr | mp | bad => simp [AV.toV] at hx

theorem Rel.cells {g w} {a : AV} {v : Value} (h : Rel g w a v) (hk : a.known = true) : RelL g w a.cells v.cells.toList := by
  have one : ∀ {x : AV} {u : Value}, Rel g w x u → RelL g w [x] [u] := fun h => RelL.cons h (RelL.nil _ _)
  cases h with
  | sc x => exact RelL.scs g w _
  | agg l vs hs h => exact ⟨by simp [AV.cells, Value.cells, hs], fun i a v ha hv => h i a v ha (by simpa [Value.cells] using hv)⟩
  | bad => cases hk
  | tup l vs hs h => exact one (.tup l vs hs h)
  | vl loc sz es b off cap c hsz hl hcap h hr => exact one (.vl loc sz es b off cap c hsz hl hcap h hr)
  | vlnil => exact one (.vlnil _ _)
  | vlz loc sz a => exact one (.vlz loc sz a)
  | sl o off len sz b base cap hi hc hm hr => exact one (.sl o off len sz b base cap hi hc hm hr)
  | slz o off sz a => exact one (.slz o off sz a)
  | sln o off sz => exact one (.sln o off sz)
  | ez a => exact one (.ez a)
  | ptr o off b base hi => exact one (.ptr o off b base hi)
  | cptr l b off c h hr => exact one (.cptr l b off c h hr)
  | fn f first captured va vb hs h hs' h' => exact one (.fn f first captured va vb hs h hs' h')
  | mp o b base hi => exact one (.mp o b base hi)
  | yl o b base hi => exact one (.yl o b base hi)
  | ifc t a v h => exact one (.ifc t a v h)
theorem Rel.one {g w} {a : AV} {v : Value} (h : Rel g w a v) (ho : a.one = true) : v.oneCell' = true := by
  cases h <;> simp_all [AV.one, Value.oneCell']

end Go.Vm
