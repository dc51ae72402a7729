/- Walks on abstract values: ranges over functions. No condition. -/
import Derived.Test.YtnkjblopaagkoaaWlF
import Derived.RangeFuncIn
import Derived.RangeFuncOwn
namespace Go.Vm
noncomputable section

/-! ### A base at a place -/
def baseAt (g : Gh) (h : Tr AObj) (w : World) (p : Nat) (x : Nat → Prop) (far : Nat → Prop := fun _ => False) : BaseP :=
  { b0 := g.b0, w, K := g.K, O := fun b => x b ∨ ∃ o base, (h.get o).isSome = true ∧ g.inj o = some (b, base), pin := p, pb := g.inj, n0 := 0, far := far }
theorem Cur.at' {B g st w} (h : Cur B g st w) (p : Nat) (x : Nat → Prop) (hp : p ≤ st.nx) {far : Nat → Prop} (hf : ∀ o, B.far o → far o) : Cur (baseAt g st.h w p x far) g st w :=
  ⟨h.ok, fun o h1 h2 => h.fresh o h1 (fun h3 => h2 (hf o h3)), ⟨rfl, fun _o _ho => rfl, fun _ _ h => h, fun _ _ _ => rfl, Nat.le_refl _, rfl, rfl, rfl, fun _ _ _ => rfl, fun o _b base ho hi => .inr (.inr ⟨o, base, ho, hi⟩), fun _ _ h => .inl h,
    fun _b cs _e fr h => ⟨cs, fr, h, rfl⟩, fun _b l h => ⟨l, h⟩⟩, hp⟩
theorem Base.comp {B g h w p x far g' h' w'} (b : Base B g h w) (c : Base (baseAt g h w p x far) g' h' w') (hp : B.pin ≤ p) (hf : ∀ o, B.far o → far o) (hx : ∀ n, x n → B.w.heap.size ≤ n ∨ B.O n) : Base B g' h' w' := by
  have hO : ∀ n, (baseAt g h w p x far).O n → B.w.heap.size ≤ n ∨ B.O n := by
    rintro n (hn | ⟨o, base, h1, h2⟩)
    · exact hx n hn
    · exact b.own o n base h1 h2
  refine ⟨c.b0.trans b.b0, fun o ho => ?_, fun i j hk => c.K i j (b.K i j hk), fun i j hk => (c.cell i j (b.K i j hk)).trans (b.cell i j hk), Nat.le_trans b.size c.size, c.os.trans b.os, c.tape.trans b.tape, c.output.trans b.output, fun n hn hnO => ?_, fun o n base ho hi => ?_, fun n j hk => ?_, fun n cs e fr hn => ?_, fun n l hn => ?_⟩
  · have h1 := c.pins o (ho.imp (fun h => Nat.lt_of_lt_of_le h hp) (hf o))
    exact Eq.trans h1 (b.pins o ho)
  · refine (c.frame n (Nat.lt_of_lt_of_le hn b.size) (fun hO' => ?_)).trans (b.frame n hn hnO)
    rcases hO n hO' with h1 | h1
    · omega
    · exact hnO h1
  · rcases c.own o n base ho hi with h1 | h1
    · exact .inl (Nat.le_trans b.size h1)
    · exact hO n h1
  · rcases c.Kold n j hk with h1 | h1 | h1
    · exact b.Kold n j h1
    · exact .inr (.inl (Nat.le_trans b.size h1))
    · exact .inr (hO n h1)
  · obtain ⟨cs1, fr1, h1, h2⟩ := b.blk n cs e fr hn
    obtain ⟨cs2, fr2, h3, h4⟩ := c.blk n cs1 e fr1 h1
    exact ⟨cs2, fr2, h3, h4.trans h2⟩
  · obtain ⟨l1, h1⟩ := b.lp n l hn
    exact c.lp n l1 h1
theorem Base.ext_at {g h w p x far g' h' w'} (c : Base (baseAt g h w p x far) g' h' w') (hn : ∀ o, p ≤ o → ¬ far o → g.inj o = none) : Ext g w g' w' :=
  ⟨c.b0, (fun o q hq => by
    by_cases ho : o < p ∨ far o
    · exact (c.pins o ho).trans hq
    · rw [hn o (by omega) (fun h => ho (.inr h))] at hq; cases hq), c.K, c.cell, c.blk, c.lp⟩
theorem Base.wider {g h w p x y far g' h' w'} (c : Base (baseAt g h w p x far) g' h' w') (hxy : ∀ n, x n → y n) : Base (baseAt g h w p y far) g' h' w' := by
  have hO : ∀ n, (baseAt g h w p x far).O n → (baseAt g h w p y far).O n := fun n hn => hn.imp (hxy n) id
  exact ⟨c.b0, c.pins, c.K, c.cell, c.size, c.os, c.tape, c.output, fun n hn hnO => c.frame n hn (fun h => hnO (hO n h)), fun o n base ho hi => (c.own o n base ho hi).imp id (hO n), fun n j hk => (c.Kold n j hk).imp id (·.imp id (hO n)), c.blk, c.lp⟩
theorem Base.unowned {g h w p x far g' h' w' b} (c : Base (baseAt g h w p x far) g' h' w') (hb : b < w.heap.size) (hu : Unowned g h b) (hx : ¬ x b) : Unowned g' h' b ∧ w'.heap[b]? = w.heap[b]? := by
  have hO : ¬ (baseAt g h w p x far).O b := by
    rintro (h1 | ⟨o, base, h1, h2⟩)
    · exact hx h1
    · exact hu o base h1 h2
  refine ⟨fun o base ho hi => ?_, c.frame b hb hO⟩
  rcases c.own o b base ho hi with h1 | h1
  · have : w.heap.size ≤ b := h1; omega
  · exact hO h1
theorem Marks.base {D g h w p x far g' h' w' n0 ds} (c : Base (baseAt g h w p x far) g' h' w') (hm : Marks D n0 h g w ds) (hx : ∀ b, x b → ∃ l, w.heap[b]? = some (.loop l)) : Marks D n0 h' g' w' ds := by
  obtain ⟨bs, h1, h2, h3⟩ := hm
  refine ⟨bs, h1, h2, fun b hb => ?_⟩
  obtain ⟨q1, q2, q3⟩ := h3 b hb
  have := c.unowned (lt_of_heap q2) q3 (fun hxb => by obtain ⟨l, hl⟩ := hx b hxb; rw [q2] at hl; cases hl)
  exact ⟨q1, this.2.trans q2, this.1⟩

/-! ### Blocks that are no objects -/
theorem grow_step {g h w w'} (lo hi : Nat) (hok : Ok g h w) (hsz : w.heap.size ≤ w'.heap.size) (hh : ∀ b, b < w.heap.size → w'.heap[b]? = w.heap[b]?) (h1 : w'.os = w.os) (h2 : w'.tape = w.tape) (h3 : w'.output = w.output) :
    Step g h w lo hi g h w' ∧ Ok g h w' := by
  have hext : Ext g w g w' := ⟨rfl, fun _ _ h => h, fun _ _ h => h, fun b j hj => cell_heap (hh b (hok.K b j hj)), fun b cs e fr hb => ⟨cs, fr, (hh b (lt_of_heap hb)).trans hb, rfl⟩, fun b l hb => ⟨l, (hh b (lt_of_heap hb)).trans hb⟩⟩
  refine ⟨⟨hext, hsz, h1, h2, h3, fun b hb _ => hh b hb, fun _ h _ => h, fun o b base ho hi => .inr ⟨o, base, ho, hi⟩, fun b j hk => .inl hk⟩, ⟨Nat.le_trans hok.size hsz, fun o x hx => ?_, hok.sep, fun b j hk => Nat.lt_of_lt_of_le (hok.K b j hk) hsz⟩⟩
  refine (hok.obj' o x hx).imp id ?_
  rintro ⟨b, base, p1, p2, p3⟩
  exact ⟨b, base, p1, p2, p3.ext hext (hh b p3.lt) (fun _ hk => hk)⟩
theorem put_loop {B g st w l r r'} (hc : Cur B g st w) (hl : w.heap[l]? = some (.loop r)) (hu : Unowned g st.h l) (hO : B.O l) : Cur B g st (putB w l (.loop r')) ∧ Ext g w g (putB w l (.loop r')) := by
  have hne : ∀ {c : Nat} {o : Obj}, w.heap[c]? = some o → (∀ r, o ≠ .loop r) → c ≠ l := fun hc ho e => by
    subst e
    rw [hl] at hc; cases hc
    exact ho r rfl
  have hcell : ∀ c j, (putB w l (.loop r')).cell? ⟨c, j, none⟩ = w.cell? ⟨c, j, none⟩ := fun c j => by
    by_cases e : c = l
    · subst e
      simp [World.cell?, putB_same _ (lt_of_heap hl), hl]
    · exact cell_heap (putB_other w _ e)
  have hext : Ext g w g (putB w l (.loop r')) := by
    refine ⟨rfl, fun _ _ h => h, fun _ _ h => h, fun c j _ => hcell c j, fun c cs e fr h => ?_, fun c q h => ?_⟩
    · exact ⟨cs, fr, (putB_other w _ (hne h (fun r e => by cases e))).trans h, rfl⟩
    · by_cases e : c = l
      · subst e; exact ⟨r', putB_same _ (lt_of_heap hl)⟩
      · exact ⟨q, (putB_other w _ e).trans h⟩
  refine ⟨⟨⟨by rw [putB_size]; exact hc.ok.size, fun o x hx => ?_, hc.ok.sep, fun c j hk => by rw [putB_size]; exact hc.ok.K c j hk⟩, hc.fresh, ?_, hc.pin⟩, hext⟩
  · refine (hc.ok.obj' o x hx).imp id ?_
    rintro ⟨c, base, h1, h2, h3⟩
    exact ⟨c, base, h1, h2, h3.ext hext (putB_other w _ (fun e => hu o base (by rw [hx]; rfl) (by rw [← e]; exact h1))) (fun _ h => h)⟩
  · have b := hc.base
    refine ⟨b.b0, b.pins, b.K, fun c j hk => (hcell c j).trans (b.cell c j hk), by rw [putB_size]; exact b.size, b.os, b.tape, b.output, fun c hc' hcO => ?_, b.own, b.Kold, fun c cs e fr h => ?_, fun c q h => ?_⟩
    · exact (putB_other w _ (fun e => hcO (by rw [e]; exact hO))).trans (b.frame c hc' hcO)
    · obtain ⟨cs1, fr1, h1, h2⟩ := b.blk c cs e fr h
      exact ⟨cs1, fr1, (putB_other w _ (hne h1 (fun r e => by cases e))).trans h1, h2⟩
    · obtain ⟨q1, h1⟩ := b.lp c q h
      exact hext.lp c q1 h1
theorem Marks.put_loop {D n0 h g w ds l r r'} (hm : Marks D n0 h g w ds) (hl : w.heap[l]? = some (.loop r)) : Marks D n0 h g (putB w l (.loop r')) ds := by
  obtain ⟨bs, h1, h2, h3⟩ := hm
  refine ⟨bs, h1, h2, fun b hb => ⟨(h3 b hb).1, (putB_other w _ (fun e => ?_)).trans (h3 b hb).2.1, (h3 b hb).2.2⟩⟩
  have := (h3 b hb).2.1
  rw [e, hl] at this; cases this

/-! ### Names at a head -/
theorem reach_mem (h : Tr AObj) : ∀ (n : Nat) (todo acc : List Nat) (o : Nat), o ∈ reach h n todo acc → o ∈ acc ∨ (h.get o).isSome = true := by
  intro n
  induction n with
  | zero => intro todo acc o ho; exact .inl ho
  | succ n ih =>
    intro todo acc o ho
    cases todo with
    | nil => exact .inl ho
    | cons a r =>
      simp only [reach] at ho
      cases hc : acc.contains a with
      | true => rw [hc] at ho; exact ih r acc o ho
      | false =>
        rw [hc, cond_false] at ho
        cases ha : h.get a with
        | none => rw [ha] at ho; exact ih r acc o ho
        | some x =>
          rw [ha] at ho
          rcases ih _ _ o ho with h1 | h1
          · rcases List.mem_append.1 h1 with h2 | h2
            · exact .inl h2
            · simp at h2; subst h2; exact .inr (by rw [ha]; rfl)
          · exact .inr h1
theorem canon_names {B : BaseP} {g : Gh} {st : St} {w : World} (_hc : Cur B g st w) (keep : List Nat) (L : SL) :
    B.pin ≤ (canonO B.pin keep L st).length ∧ (canonO B.pin keep L st).length ≤ (stK (canonO B.pin keep L st)).nx ∧ (∀ i, (canonO B.pin keep L st).length ≤ i → (g.ren (canonN B.pin keep L st)).inj i = none) := by
  have hN := reach_acc st.h reachFuel (AV.names.go (keep.map (lk L)) ++ namesAt st.h (fromTo 0 B.pin)) (fromTo 0 B.pin) (fromTo_nodup _ _)
  have hm := reach_mem st.h reachFuel (AV.names.go (keep.map (lk L)) ++ namesAt st.h (fromTo 0 B.pin)) (fromTo 0 B.pin)
  change (canonN B.pin keep L st).Nodup ∧ (∃ r, canonN B.pin keep L st = fromTo 0 B.pin ++ r) ∧ (canonN B.pin keep L st).length ≤ _ at hN
  change ∀ o, o ∈ canonN B.pin keep L st → _ at hm
  unfold canonO
  rw [getObj_length]
  generalize canonN B.pin keep L st = N at hN hm
  obtain ⟨_, ⟨rest, hpre⟩, _⟩ := hN
  refine ⟨by rw [hpre, List.length_append, fromTo_length]; omega, by simp [stK, getObj_length], fun i hi => by simp [Gh.ren, List.getElem?_eq_none hi]⟩
theorem canon_unowned {B : BaseP} {g : Gh} {st : St} {L : SL} {b : Nat} (hp : B.pin ≤ 1000) (keep : List Nat) (hu : Unowned g st.h b) : Unowned (g.ren (canonN B.pin keep L st)) (stK (canonO B.pin keep L st)).h b := by
  have hN := reach_acc st.h reachFuel (AV.names.go (keep.map (lk L)) ++ namesAt st.h (fromTo 0 B.pin)) (fromTo 0 B.pin) (fromTo_nodup _ _)
  change (canonN B.pin keep L st).Nodup ∧ (∃ r, canonN B.pin keep L st = fromTo 0 B.pin ++ r) ∧ (canonN B.pin keep L st).length ≤ _ at hN
  unfold canonO
  generalize canonN B.pin keep L st = N at hN
  obtain ⟨hnd, ⟨rest, hpre⟩, hlen⟩ := hN
  rw [fromTo_length] at hlen
  have hlim : N.length ≤ limit := by simp only [reachFuel, limit] at *; omega
  intro i base hi hj
  obtain ⟨x, hx⟩ := Option.isSome_iff_exists.1 hi
  simp only [stK] at hx
  rw [heapK_get _ _ _ (by rw [getObj_length]; omega), if_pos (Nat.zero_le _), Nat.sub_zero, getObj_get] at hx
  cases hi' : N[i]? with
  | none => rw [hi'] at hx; cases hx
  | some o =>
    rw [hi'] at hx
    simp only [Option.map_some, Option.join_some] at hx
    cases hy : st.h.get o with
    | none => rw [hy] at hx; cases hx
    | some y =>
      have : (g.ren N).inj i = g.inj o := by simp [Gh.ren, hi']
      rw [this] at hj
      exact hu o base (by rw [hy]; rfl) hj

end
end Go.Vm
