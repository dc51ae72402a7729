/- States, steps from state to state, and the steps that memory takes: nothing, a draw, a new block, a block that is written. No condition. -/
import Derived.Test.YtnkjblopaagkoaaVmB
namespace Go.Vm

/-- Slots. -/
def RelS (g : Gh) (w : World) (fr : Fr) (tmps : Array Value) : Prop :=
  tmps.size = fr.nt ∧ ∀ (t : Nat) a, fr.slots.get t = some a → ∃ v, tmps[t]? = some v ∧ Rel g w a v
theorem RelS.ext {g w g' w'} (hx : Ext g w g' w') {fr tmps} (h : RelS g w fr tmps) : RelS g' w' fr tmps :=
  ⟨h.1, fun t a ha => let ⟨v, hv, hr⟩ := h.2 t a ha; ⟨v, hv, hr.ext hx⟩⟩

structure RelLoop (g : Gh) (w : World) (slots : Tr AV) (nt : Nat) (params : List Nat) (assign body : Code) (state : LoopState) (pending : Option Code) (l : Loop) : Prop where
  state : l.state = state
  pending : l.pending = pending
  params : l.params.toList = params
  assign : l.assign = assign
  body : l.body = body
  tmps : RelS g w { slots, nt } l.tmps

/-- A map's entries: in some order, where the keys tell them apart. -/
structure MapRel (g : Gh) (w : World) (es : List (Value × AV)) (ms : Array MapEntry) (clock : Nat) : Prop where
  len : ms.size = es.length
  born : (ms.toList.map (·.born)).Nodup
  old : ∀ m ∈ ms.toList, m.born < clock
  perm : ∃ l : List MapEntry, l.Perm ms.toList ∧ (∀ (i : Nat) e m, es[i]? = some e → l[i]? = some m → m.key = e.1 ∧ Rel g w e.2 m.val) ∧ (l = ms.toList ∨ loose es = true)
theorem MapRel.same {g w g' w' es es' ms clock} (h : MapRel g w es ms clock) (hl : es'.length = es.length) (hloose : loose es = true → loose es' = true)
    (hr : ∀ (i : Nat) e' v, es'[i]? = some e' → ∃ e, es[i]? = some e ∧ e.1 = e'.1 ∧ (Rel g w e.2 v → Rel g' w' e'.2 v)) : MapRel g' w' es' ms clock := by
  obtain ⟨h1, h2, h3, l, h4, h5, h6⟩ := h
  refine ⟨by rw [hl]; exact h1, h2, h3, l, h4, fun i e' m he hm => ?_, h6.imp id hloose⟩
  obtain ⟨e, q1, q2, q3⟩ := hr i e' m.val he
  have := h5 i e m q1 hm
  exact ⟨this.1.trans q2, q3 this.2⟩
theorem MapRel.exact {g w es ms clock} (h : MapRel g w es ms clock) (hn : loose es = false) : ∀ (i : Nat) e m, es[i]? = some e → ms[i]? = some m → m.key = e.1 ∧ Rel g w e.2 m.val := by
  obtain ⟨l, h4, h5, h6⟩ := h.perm
  rcases h6 with rfl | h6
  · exact fun i e m he hm => h5 i e m he (by simpa using hm)
  · rw [hn] at h6; cases h6
theorem MapRel.nil {g w clock} : MapRel g w [] #[] clock := ⟨rfl, by simp, by simp, [], by simp, fun i e m he => by simp at he, .inl rfl⟩

/-- An object, at its block. -/
def ObjRel (g : Gh) (w : World) (b base : Nat) : AObj → Prop
  | .row cells k st et => ∃ (cs : Array Value) (fr : Nat × Nat), w.heap[b]? = some (.cells cs et fr) ∧ base + cells.length ≤ cs.size ∧
      (∀ (j : Nat) a, cells[j]? = some a → ∃ c, cs[base + j]? = some c ∧ Rel g w a c) ∧
      (∀ j, base + k ≤ j → j < cs.size → ¬ (fr.1 ≤ j ∧ j < fr.2)) ∧ (∀ j, g.K b j → j < base + k) ∧ (st ≠ 1 → fr = (0, 0)) ∧ (st = 2 → base = 0 ∧ cs.size = cells.length)
  | .map es => base = 0 ∧ ∃ (ms : Array MapEntry) (clock : Nat), w.heap[b]? = some (.map ms clock) ∧ MapRel g w es ms clock
  | .loop slots nt params assign body state pending => base = 0 ∧ ∃ l, w.heap[b]? = some (.loop l) ∧ RelLoop g w slots nt params assign body state pending l

theorem ObjRel.ext {g w g' w'} (hx : Ext g w g' w') {b base : Nat} (hb : w'.heap[b]? = w.heap[b]?) (hK : ∀ j, g'.K b j → g.K b j) {x : AObj} (h : ObjRel g w b base x) : ObjRel g' w' b base x := by
  cases x with
  | row cells k st et =>
    obtain ⟨cs, fr, h1, h2, h3, h4, h5, h6⟩ := h
    exact ⟨cs, fr, hb.trans h1, h2, fun j a ha => let ⟨c, hc, hr⟩ := h3 j a ha; ⟨c, hc, hr.ext hx⟩, h4, fun j hj => h5 j (hK j hj), h6⟩
  | map es =>
    obtain ⟨h0, ms, clock, h1, h2⟩ := h
    exact ⟨h0, ms, clock, hb.trans h1, h2.same rfl id fun i e v he => ⟨e, he, rfl, fun hr => hr.ext hx⟩⟩
  | loop slots nt params assign body state pending =>
    obtain ⟨h0, l, h1, h2⟩ := h
    exact ⟨h0, l, hb.trans h1, ⟨h2.state, h2.pending, h2.params, h2.assign, h2.body, h2.tmps.ext hx⟩⟩

/-- An empty row that lies nowhere: a list that is nil so far. -/
def Ghostly (x : AObj) : Prop := ∃ st et, x = .row [] 0 st et
structure Ok (g : Gh) (h : Tr AObj) (w : World) : Prop where
  size : g.b0 ≤ w.heap.size
  obj' : ∀ o x, h.get o = some x → (g.inj o = none ∧ Ghostly x) ∨ ∃ b base, g.inj o = some (b, base) ∧ g.b0 ≤ b ∧ ObjRel g w b base x
  sep : ∀ o o' x x' b base base', o ≠ o' → h.get o = some x → h.get o' = some x' → g.inj o = some (b, base) → g.inj o' ≠ some (b, base')
  K : ∀ b j, g.K b j → b < w.heap.size

theorem Ok.obj {g h w} (hok : Ok g h w) (o : Nat) (x : AObj) (ho : h.get o = some x) (hi : ∃ p, g.inj o = some p := by exact ⟨_, by assumption⟩) : ∃ b base, g.inj o = some (b, base) ∧ g.b0 ≤ b ∧ ObjRel g w b base x := by
  rcases hok.obj' o x ho with ⟨h1, _⟩ | h1
  · obtain ⟨p, hp⟩ := hi; rw [h1] at hp; cases hp
  · exact h1

structure Step (g : Gh) (h : Tr AObj) (w : World) (lo hi : Nat) (g' : Gh) (h' : Tr AObj) (w' : World) : Prop where
  ext : Ext g w g' w'
  size : w.heap.size ≤ w'.heap.size
  os : w'.os = w.os
  tape : w'.tape = w.tape
  output : w'.output = w.output
  frame : ∀ b, b < w.heap.size → (∀ o base, (h.get o).isSome = true → g.inj o ≠ some (b, base)) → w'.heap[b]? = w.heap[b]?
  fresh : ∀ o, g.inj o = none → ¬ (lo ≤ o ∧ o < hi) → g'.inj o = none
  own : ∀ o b base, (h'.get o).isSome = true → g'.inj o = some (b, base) → w.heap.size ≤ b ∨ ∃ o' base', (h.get o').isSome = true ∧ g.inj o' = some (b, base')
  Kold : ∀ b j, g'.K b j → g.K b j ∨ w.heap.size ≤ b ∨ ∃ o' base', (h.get o').isSome = true ∧ g.inj o' = some (b, base')

theorem Step.refl (g h w lo hi) : Step g h w lo hi g h w :=
  ⟨.refl _ _, Nat.le_refl _, rfl, rfl, rfl, fun _ _ _ => rfl, fun _ h _ => h, fun o _ base ho hi => .inr ⟨o, base, ho, hi⟩, fun _ _ h => .inl h⟩
theorem Step.trans {g h w lo mid hi g' h' w' g'' h'' w''} (s : Step g h w lo mid g' h' w') (t : Step g' h' w' mid hi g'' h'' w'') (h1 : lo ≤ mid) (h2 : mid ≤ hi) :
    Step g h w lo hi g'' h'' w'' := by
  refine ⟨s.ext.trans t.ext, Nat.le_trans s.size t.size, t.os.trans s.os, t.tape.trans s.tape, t.output.trans s.output, fun b hb hn => ?_, fun o ho hr => ?_, fun o b base ho hj => ?_, fun b j hK => ?_⟩
  · rw [t.frame b (Nat.lt_of_lt_of_le hb s.size) (fun o base ho hj => ?_), s.frame b hb hn]
    rcases s.own o b base ho hj with hge | ⟨o', base', ho', hj'⟩
    · omega
    · exact hn o' base' ho' hj'
  · refine t.fresh o (s.fresh o ho (by omega)) (by omega)
  · rcases t.own o b base ho hj with hge | ⟨o', base', ho', hj'⟩
    · exact .inl (Nat.le_trans s.size hge)
    · exact s.own o' b base' ho' hj'
  · rcases t.Kold b j hK with h | hge | ⟨o', base', ho', hj'⟩
    · exact s.Kold b j h
    · exact .inr (.inl (Nat.le_trans s.size hge))
    · rcases s.own o' b base' ho' hj' with hge | hx
      · exact .inr (.inl hge)
      · exact .inr (.inr hx)
theorem Step.widen {g h w lo hi lo' hi' g' h' w'} (s : Step g h w lo hi g' h' w') (h1 : lo' ≤ lo) (h2 : hi ≤ hi') : Step g h w lo' hi' g' h' w' :=
  ⟨s.ext, s.size, s.os, s.tape, s.output, s.frame, fun o ho hr => s.fresh o ho (by omega), s.own, s.Kold⟩

/-- The trie. -/
theorem Tr.get_nil {α : Type} (n : Nat) : (Tr.nil : Tr α).get n = none := rfl
theorem Tr.get_node {α : Type} (l : Tr α) (v : Option α) (r : Tr α) (n : Nat) :
    (Tr.node l v r).get n = cond (Nat.beq n 0) v (cond (Nat.beq (Nat.mod n 2) 1) (l.get (Nat.div n 2)) (r.get (Nat.sub (Nat.div n 2) 1))) := by
  show (Bool.rec (motive := fun _ => Option α) (Bool.rec (motive := fun _ => Option α) (r.get (Nat.sub (Nat.div n 2) 1)) (l.get (Nat.div n 2)) (Nat.beq (Nat.mod n 2) 1)) v (Nat.beq n 0)) = _
  cases Nat.beq n 0 <;> cases Nat.beq (Nat.mod n 2) 1 <;> rfl
theorem Tr.get_eq {α : Type} (t : Tr α) (n : Nat) :
    t.get n = cond (Nat.beq n 0) t.val (cond (Nat.beq (Nat.mod n 2) 1) (t.left.get (Nat.div n 2)) (t.right.get (Nat.sub (Nat.div n 2) 1))) := by
  cases t with
  | nil => simp [Tr.get_nil, Tr.val, Tr.left, Tr.right]
  | node l v r => exact Tr.get_node l v r n
theorem beq_no {a b : Nat} (h : a ≠ b) : Nat.beq a b = false := by
  cases e : Nat.beq a b with
  | false => rfl
  | true => exact absurd (Nat.eq_of_beq_eq_true e) h
theorem Tr.set_zero {α : Type} (t : Tr α) (n : Nat) (x : Option α) : Tr.set 0 t n x = .nil := rfl
theorem Tr.set_succ {α : Type} (d : Nat) (t : Tr α) (n : Nat) (x : Option α) : Tr.set (d + 1) t n x = cond (Nat.beq n 0) (.node t.left x t.right)
      (cond (Nat.beq (Nat.mod n 2) 1) (.node (Tr.set d t.left (Nat.div n 2) x) t.val t.right)
        (.node t.left t.val (Tr.set d t.right (Nat.sub (Nat.div n 2) 1) x))) := by
  show (Bool.rec (motive := fun _ => Tr α) (Bool.rec (motive := fun _ => Tr α) (.node t.left t.val (Tr.set d t.right (Nat.sub (Nat.div n 2) 1) x)) (.node (Tr.set d t.left (Nat.div n 2) x) t.val t.right) (Nat.beq (Nat.mod n 2) 1)) (.node t.left x t.right) (Nat.beq n 0)) = _
  cases Nat.beq n 0 <;> cases Nat.beq (Nat.mod n 2) 1 <;> rfl
theorem Tr.get_set {α : Type} : ∀ (d : Nat) (t : Tr α) (n m : Nat) (x : Option α), n + 1 < 2 ^ d → (Tr.set d t n x).get m = if m = n then x else t.get m := by
  intro d
  induction d with
  | zero => intro t n m x h; simp at h
  | succ d ih =>
    intro t n m x h
    rw [Nat.pow_succ] at h
    have hdiv : Nat.div n 2 = n / 2 := rfl
    have hmod : Nat.mod n 2 = n % 2 := rfl
    have hdivm : Nat.div m 2 = m / 2 := rfl
    have hmodm : Nat.mod m 2 = m % 2 := rfl
    have hsub : ∀ a, Nat.sub a 1 = a - 1 := fun _ => rfl
    rw [Tr.get_eq t m]
    simp only [Tr.set_succ, hdiv, hmod, hsub, hdivm, hmodm]
    by_cases h0 : n = 0
    · subst h0
      simp only [Nat.beq_refl, cond_true, Tr.get_node, hdivm, hmodm, hsub]
      by_cases hm : m = 0
      · subst hm; simp
      · have : Nat.beq m 0 = false := beq_no hm
        simp [this, hm]
    · have hb : Nat.beq n 0 = false := beq_no h0
      by_cases h1 : n % 2 = 1
      · have hb1 : Nat.beq (n % 2) 1 = true := by simpa using h1
        simp only [hb, hb1, cond_true, cond_false, Tr.get_node, hdivm, hmodm, hsub]
        rw [ih _ _ _ _ (by omega)]
        by_cases hm : m = 0
        · subst hm; simp; omega
        · have hmb : Nat.beq m 0 = false := beq_no hm
          by_cases hm1 : m % 2 = 1
          · have hmb1 : Nat.beq (m % 2) 1 = true := by simpa using hm1
            simp only [hmb, hmb1, cond_true, cond_false]
            by_cases e : m = n
            · subst e; simp
            · rw [if_neg (by omega), if_neg e]
          · have hmb1 : Nat.beq (m % 2) 1 = false := beq_no hm1
            simp only [hmb, hmb1, cond_false]
            rw [if_neg (by intro e; subst e; exact hm1 h1)]
      · have hb1 : Nat.beq (n % 2) 1 = false := beq_no h1
        simp only [hb, hb1, cond_false, Tr.get_node, hdivm, hmodm, hsub]
        rw [ih _ _ _ _ (by omega)]
        by_cases hm : m = 0
        · subst hm; simp; omega
        · have hmb : Nat.beq m 0 = false := beq_no hm
          by_cases hm1 : m % 2 = 1
          · have hmb1 : Nat.beq (m % 2) 1 = true := by simpa using hm1
            simp only [hmb, hmb1, cond_true, cond_false]
            rw [if_neg (by intro e; subst e; exact h1 hm1)]
          · have hmb1 : Nat.beq (m % 2) 1 = false := beq_no hm1
            simp only [hmb, hmb1, cond_false]
            by_cases e : m = n
            · subst e; simp
            · rw [if_neg (by omega), if_neg e]
theorem get_set {α : Type} (t : Tr α) (n m : Nat) (x : Option α) (h : n ≤ limit) : (Tr.set depth t n x).get m = if m = n then x else t.get m :=
  Tr.get_set depth t n m x (by simp only [depth, limit] at *; omega)

/-- A world with another object at a block. -/
def putB (w : World) (b : Nat) (o : Obj) : World := { w with heap := w.heap.setIfInBounds b o }
theorem putB_size (w b o) : (putB w b o).heap.size = w.heap.size := by simp [putB]
theorem putB_same {w : World} {b : Nat} (o : Obj) (h : b < w.heap.size) : (putB w b o).heap[b]? = some o := by simp [putB, h]
theorem putB_other (w : World) {b c : Nat} (o : Obj) (h : c ≠ b) : (putB w b o).heap[c]? = w.heap[c]? := by
  simp only [putB]
  rw [Array.getElem?_setIfInBounds_ne (by omega)]
theorem cell_eq {w : World} {b j : Nat} {cs : Array Value} {e : TypeId} {fr : Nat × Nat} (h : w.heap[b]? = some (.cells cs e fr)) : w.cell? ⟨b, j, none⟩ = cs[j]? := by
  simp [World.cell?, h]
theorem cell_heap {w w' : World} {b j : Nat} (h : w'.heap[b]? = w.heap[b]?) : w'.cell? ⟨b, j, none⟩ = w.cell? ⟨b, j, none⟩ := by simp [World.cell?, h]
theorem lt_of_heap {w : World} {b : Nat} {o : Obj} (h : w.heap[b]? = some o) : b < w.heap.size := (Array.getElem?_eq_some_iff.1 h).1

/-- A world whose memory is the same. -/
theorem Ext.same {g : Gh} {w w' : World} (hh : w'.heap = w.heap) : Ext g w g w' :=
  ⟨rfl, fun _ _ h => h, fun _ _ h => h, fun b j _ => by simp [World.cell?, hh], fun b cs e fr h => ⟨cs, fr, by rw [hh]; exact h, rfl⟩, fun b l h => ⟨l, by rw [hh]; exact h⟩⟩
theorem Ok.same {g h} {w w' : World} (hh : w'.heap = w.heap) (hok : Ok g h w) : Ok g h w' :=
  ⟨by rw [hh]; exact hok.size, fun o x hx => (hok.obj' o x hx).imp id fun ⟨b, base, h1, h2, h3⟩ => ⟨b, base, h1, h2, h3.ext (Ext.same hh) (by rw [hh]) (fun _ h => h)⟩, hok.sep, fun b j hj => by rw [hh]; exact hok.K b j hj⟩
theorem Step.same {g h} {w w' : World} {lo hi} (hh : w'.heap = w.heap) (ho : w'.os = w.os) (ht : w'.tape = w.tape) (hu : w'.output = w.output) : Step g h w lo hi g h w' :=
  ⟨Ext.same hh, by rw [hh]; exact Nat.le_refl _, ho, ht, hu, fun b _ _ => by rw [hh], fun _ h _ => h, fun o _ base ho hi => .inr ⟨o, base, ho, hi⟩, fun _ _ h => .inl h⟩

/-- The ghost with one object more. -/
def Gh.with (g : Gh) (id b base : Nat) : Gh := { g with inj := fun o => if o = id then some (b, base) else g.inj o }
theorem Gh.with_inj {g : Gh} {id b base : Nat} : (g.with id b base).inj id = some (b, base) := by simp [Gh.with]
theorem Gh.with_other {g : Gh} {id b base o : Nat} (h : o ≠ id) : (g.with id b base).inj o = g.inj o := by simp [Gh.with, h]

theorem Ext.alloc (g : Gh) (w : World) (id base : Nat) (ob : Obj) (hid : g.inj id = none) (hK : ∀ b j, g.K b j → b < w.heap.size) : Ext g w (g.with id w.heap.size base) (w.alloc ob) := by
  refine ⟨rfl, fun o p h => ?_, fun _ _ h => h, fun b j hj => ?_, fun b cs e fr hb => ⟨cs, fr, ?_, rfl⟩, fun b l hb => ⟨l, ?_⟩⟩
  · rw [Gh.with_other (by intro e; subst e; rw [hid] at h; cases h)]; exact h
  · exact cell_heap (Go.RowKit.Below.heap_alloc w ob b (hK b j hj))
  · exact (Go.RowKit.Below.heap_alloc w ob b (lt_of_heap hb)).trans hb
  · exact (Go.RowKit.Below.heap_alloc w ob b (lt_of_heap hb)).trans hb

theorem heap_new (w : World) (ob : Obj) : (w.alloc ob).heap[w.heap.size]? = some ob := heap_alloc_new w ob

/-- A new block. -/
theorem alloc_step {g h} {w : World} {id : Nat} {x : AObj} {ob : Obj} (hok : Ok g h w) (hid : g.inj id = none) (hlim : id ≤ limit)
    (hx : ObjRel (g.with id w.heap.size 0) (w.alloc ob) w.heap.size 0 x) :
    Step g h w id (id + 1) (g.with id w.heap.size 0) (h.set depth id (some x)) (w.alloc ob) ∧ Ok (g.with id w.heap.size 0) (h.set depth id (some x)) (w.alloc ob) := by
  have hext := Ext.alloc g w id 0 ob hid hok.K
  have hlt : ∀ o y b base, h.get o = some y → g.inj o = some (b, base) → b < w.heap.size := by
    intro o y b base hy hb
    obtain ⟨b', base', h1, _, h3⟩ := hok.obj o y hy
    rw [hb] at h1; cases h1
    cases y with
    | row cells k st et => obtain ⟨cs, fr, hh, _⟩ := h3; exact lt_of_heap hh
    | map es => obtain ⟨_, ms, clock, hh, _⟩ := h3; exact lt_of_heap hh
    | loop => obtain ⟨_, l, hh, _⟩ := h3; exact lt_of_heap hh
  refine ⟨⟨hext, by simp, rfl, rfl, rfl, fun b hb _ => Go.RowKit.Below.heap_alloc w ob b hb, fun o ho hr => ?_, fun o b base ho hj => ?_, fun _ _ h => .inl h⟩, ⟨?_, fun o y hy => ?_, ?_, fun b j hj => ?_⟩⟩
  · rw [Gh.with_other (by omega)]; exact ho
  · by_cases e : o = id
    · subst e; rw [Gh.with_inj] at hj; cases hj; exact .inl (Nat.le_refl _)
    · rw [get_set _ _ _ _ hlim, if_neg e] at ho
      rw [Gh.with_other e] at hj
      exact .inr ⟨o, base, ho, hj⟩
  · have := hok.size; simp [Gh.with]; omega
  · rw [get_set _ _ _ _ hlim] at hy
    by_cases e : o = id
    · subst e; simp at hy; subst hy
      exact .inr ⟨w.heap.size, 0, Gh.with_inj, hok.size, hx⟩
    · rw [if_neg e] at hy
      refine (hok.obj' o y hy).imp (fun h => ⟨by rw [Gh.with_other e]; exact h.1, h.2⟩) ?_
      rintro ⟨b, base, h1, h2, h3⟩
      exact ⟨b, base, by rw [Gh.with_other e]; exact h1, h2, h3.ext hext (Go.RowKit.Below.heap_alloc w ob b (hlt o y b base hy h1)) (fun _ h => h)⟩
  · intro o o' y y' b base base' hne hy hy' hb hb'
    rw [get_set _ _ _ _ hlim] at hy hy'
    by_cases e : o = id
    · subst e
      rw [Gh.with_inj] at hb; cases hb
      rw [if_neg (by omega)] at hy'
      rw [Gh.with_other (by omega)] at hb'
      have := hlt o' y' _ _ hy' hb'
      omega
    · rw [if_neg e] at hy
      rw [Gh.with_other e] at hb
      by_cases e' : o' = id
      · subst e'
        rw [Gh.with_inj] at hb'; cases hb'
        have := hlt o y _ _ hy hb
        omega
      · rw [if_neg e'] at hy'
        rw [Gh.with_other e'] at hb'
        exact hok.sep o o' y y' b base base' hne hy hy' hb hb'
  · have := hok.K b j hj; simp; omega

end Go.Vm
