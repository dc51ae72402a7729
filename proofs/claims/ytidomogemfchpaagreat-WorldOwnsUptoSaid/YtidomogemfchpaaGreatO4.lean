/- A piece of the proof. Proved: where the arguments are together of bulk at most 1048576, the law WorldOwns returns true (a zone answers for its own names, zones above refer), and what it was given reads afterwards as it did before. No other conditions. -/
import Derived.WalkKit
import Derived.CallsIn
import Derived.RangeFuncIn
import Derived.RangeFuncLeaves
import Derived.Orders
import Derived.OrdersIn
import Derived.Scope
import Derived.RangeFuncOwn
import Derived.Stop.SameAnswer
import Derived.Laws.Externs
import Derived.Lib.Bytealg
import Derived.ProofKit
import Derived.OpenShut
import Derived.ReadAgain
import Derived.Deep.Slices
import Derived.ChangeSame
import Derived.Test.YtidomogemfchpaaGreatProg
import Derived.KernelRfl
import Derived.Test.YtidomogemfchpaaGreatRows
import Derived.Maps.RangeRun
import Derived.JoinedCond
import Derived.Test.YtidomogemfchpaaGreatO3
set_option linter.unusedSimpArgs false
set_option linter.unusedVariables false
section
set_option linter.unusedSimpArgs false
set_option linter.unusedVariables false
namespace Go.Proofs.YtidomogemfchpaaGreat
open Go.Vm
set_option maxRecDepth 2000000
theorem anl {z : bb} {n : Name} (hz : c9 z) (hn : be n) : be (ir z n).1.node := by
  by_cases h : i9 z n = 0
  · rcases Wf h with ⟨c, hc, e⟩ | ⟨hc, _, _, e⟩ | ⟨hc, _, _, e⟩ | ⟨hc, _, _, _, e⟩ | ⟨hc, _, _, _, e⟩ <;> rw [e]
    · exact Yw hz z.aj none (fun _ h => h) (fun m hm => by cases hm) c hc
    · exact hn
    · show br [] ≤ _; decide
    · exact Uu (Ec h).2.1
    · show br [] ≤ _; decide
  · rw [ady h]; show br [] ≤ _; decide
theorem avr {z : bb} {n : Name} (h : (ir z n).2 = 0) : i9 z n = 0 := by
  by_cases e : i9 z n = 0
  · exact e
  · rw [ady e] at h; exact h
theorem aoy {z : bb} {n : Name} {t : UInt16} (h : (ov z n t).2 = 0) : i9 z n = 0 ∧ (t.toNat : Int) ≠ 0 ∧ (t.toNat : Int) ≠ 41 ∧ (ov z n t).1 = (ir z n).1 := by
  unfold ov at h ⊢
  split at h
  · cases h
  · rename_i q
    rw [if_neg q]
    exact ⟨avr h, fun e => q ⟨h, .inl e⟩, fun e => q ⟨h, .inr e⟩, rfl⟩
noncomputable def M8 (z : bb) (n : Name) (t : UInt16) : Ez × Int := if (ov z n t).2 ≠ 0 then (xu 0 [] [], (ov z n t).2) else (rp z n t (ir z n).1, 0)
theorem avc (z : bb) (n : Name) (t : UInt16) (hz : c9 z) (hn : be n) : wl PP [aww, aym] 0 (Tryz.f23.body.getD .skip) (dj PP Tryz.f23.results.toList (fun r st => (r2 wa (aw .i64)).get true st.h r = some (M8 z n t))) (bw 0 [bg.val false z, ar.val false n, c8.val false t]) (bp []) := by
  unfold Tryz.f23
  simp only [ig, di]
  unfold M8
  by_cases he : (ov z n t).2 = 0
  · obtain ⟨h1, h2, h3, h4⟩ := aoy he
    obtain ⟨a1, a2, a3⟩ := Ec h1
    have hsp := anl hz hn
    rw [if_neg (by omega)]
    rcases hf : ir z n with ⟨⟨k, nd, cl⟩, e⟩
    rw [hf] at h4 hsp
    rcases ha : ov z n t with ⟨sp, e'⟩
    rw [ha] at h4 he
    simp only at h4 he hsp
    subst h4 he
    simp only [↓wR, RA, simprocAttr, TF, ae, C7, hz, hn, ha, bne_self_eq_false, Mx, a1, hsp]
    rfl
  · rw [if_pos he]
    rcases ha : ov z n t with ⟨⟨k, nd, cl⟩, e⟩
    rw [ha] at he
    have hb : (e != 0) = true := by simpa using he
    simp only [↓wR, RA, simprocAttr, TF, ae, C7, hz, hn, ha, hb]
noncomputable def G4 (x : bb × Name × UInt16 × Unit) : Option AV := if c9 x.1 ∧ be x.2.1 then some ((r2 wa (aw .i64)).E true (M8 x.1 x.2.1 x.2.2.1)) else none
set_option maxRecDepth 2000000 in
theorem amf (x : bb × Name × UInt16 × Unit) (r : AV) (h : G4 x = some r) : bf PP 23 ((aC bg (aC ar (aC c8 a0))).E x) r := by
  by_cases hc : c9 x.1 ∧ be x.2.1
  case neg => simp only [G4, if_neg hc] at h; cases h
  simp only [G4, if_pos hc] at h
  cases h
  exact ba (ak.cons (ai afx) (ak.cons (ai akb) (ak.nil PP))) Tryz.func23 (by kernel_rfl) (by kernel_rfl) (by kernel_rfl) (Nat.le_of_ble_eq_true (by kernel_rfl)) (r2 wa (aw .i64)) true (M8 x.1 x.2.1 x.2.2.1) (avc x.1 x.2.1 x.2.2.1 hc.1 hc.2)
noncomputable abbrev atc : Nat × Bool × (List AV → M AV) := (23, true, dc (aC bg (aC ar (aC c8 a0))) G4)
def azw (a b : UInt32) : UInt32 := if (a.toNat : Int) ≤ b.toNat then a else b
def ain (z : bb) : bo :=
  let s := (iu z.aj z.origin 6).getD mw
  mkS s.owner s.type s.cls (azw s.sr (((s.data[0]?).bind fun d => d.nums[4]?).getD 0)) s.data
theorem aqq {s : bo} (h : ni s = true) : (s.cls.toNat : Int) = 1 ∧ (s.type.toNat : Int) ≠ 255 := by
  unfold ni at h
  split at h
  · cases h
  split at h
  · cases h
  split at h
  · cases h
  · rename_i q _ _; exact ⟨by omega, by simpa using h⟩
def ayv (n : Name) (s : bo) : Bool := (decide ((s.type.toNat : Int) = 1) || decide ((s.type.toNat : Int) = 28)) && ee s.owner n
def aub (z : bb) : List Name → List Name → List bo
  | _, [] => []
  | pre, n :: r => (if pre.any (fun m => ee m n) = true then [] else z.aj.filter (ayv n)) ++ aub z (pre ++ [n]) r
def ays (z : bb) (l : List Name) : List bo := aub z [] l
def au5 (l : List Name) : Prop := fu br l ≤ 16777216
instance (l : List Name) : Decidable (au5 l) := inferInstanceAs (Decidable (_ ≤ _))
end Go.Proofs.YtidomogemfchpaaGreat
end
section
set_option linter.unusedVariables false
set_option linter.unusedSimpArgs false
namespace Go.Vm
noncomputable section
def sq (D : List Nat) (nx i : Nat) : Nat := match D[i]? with | some o => o | none => nx + (i - D.length)
def Km (D : List Nat) (nx n0 i : Nat) : Option Nat := bif Nat.blt i n0 then some (sq D nx i) else none
def Bv (D : List Nat) (nx n0 : Nat) (h0 : Tr bc) : List Nat → Tr bc → Tr bc
  | [], h => h
  | i :: r, h => Bv D nx n0 h0 r (Tr.set depth h (sq D nx i) ((h0.get i).bind (bc.db (Km D nx n0))))
def ue (D : List Nat) (st st0 : St) : St := { h := Bv D st.nx st0.nx st0.h (dm 0 st0.nx) st.h, nx := st.nx + (st0.nx - D.length), rl := [], wl := [] }
theorem zh {D : List Nat} {nx i o : Nat} (h : D[i]? = some o) : sq D nx i = o := by unfold sq; rw [h]
theorem B5 {D : List Nat} {nx i : Nat} (h : D.length ≤ i) : sq D nx i = nx + (i - D.length) := by unfold sq; rw [List.getElem?_eq_none h]
theorem au6 {D : List Nat} {nx : Nat} (hD : D.Nodup) (hlt : ∀ o ∈ D, o < nx) {i j : Nat} (h : sq D nx i = sq D nx j) : i = j := by
  rcases Nat.lt_or_ge i D.length with hi | hi <;> rcases Nat.lt_or_ge j D.length with hj | hj
  · rw [zh (List.getElem?_eq_getElem hi), zh (List.getElem?_eq_getElem hj)] at h
    exact (List.getElem_inj hD).1 h
  · rw [zh (List.getElem?_eq_getElem hi), B5 hj] at h
    have := hlt _ (List.getElem_mem hi); omega
  · rw [B5 hi, zh (List.getElem?_eq_getElem hj)] at h
    have := hlt _ (List.getElem_mem hj); omega
  · rw [B5 hi, B5 hj] at h; omega
theorem awg {D : List Nat} {nx n0 i : Nat} (hlt : ∀ o ∈ D, o < nx) (hi : i < n0) : sq D nx i ≤ nx + n0 := by
  rcases Nat.lt_or_ge i D.length with h | h
  · rw [zh (List.getElem?_eq_getElem h)]; have := hlt _ (List.getElem_mem h); omega
  · rw [B5 h]; omega
theorem Ie {D : List Nat} {nx n0 : Nat} {h0 : Tr bc} {o : Nat} : ∀ (l : List Nat) (h : Tr bc), (∀ i ∈ l, sq D nx i ≤ cq) → (∀ i ∈ l, sq D nx i ≠ o) → (Bv D nx n0 h0 l h).get o = h.get o
  | [], h, _, _ => rfl
  | i :: r, h, hl, ho => by
    rw [Bv, Ie r _ (fun j hj => hl j (by simp [hj])) (fun j hj => ho j (by simp [hj])), eh _ _ _ _ (hl i (by simp)), if_neg (fun e => ho i (by simp) e.symm)]
theorem Y5 {D : List Nat} {nx n0 : Nat} {h0 : Tr bc} (hinj : ∀ i j, sq D nx i = sq D nx j → i = j) {i : Nat} : ∀ (l : List Nat) (h : Tr bc), (∀ j ∈ l, sq D nx j ≤ cq) → i ∈ l → (Bv D nx n0 h0 l h).get (sq D nx i) = (h0.get i).bind (bc.db (Km D nx n0))
  | [], _, _, hi => by cases hi
  | j :: r, h, hl, hi => by
    rw [Bv]
    by_cases hr : i ∈ r
    · exact Y5 hinj r _ (fun k hk => hl k (by simp [hk])) hr
    · have hij : i = j := by rcases List.mem_cons.1 hi with e | e; exact e; exact (hr e).elim
      subst hij
      rw [Ie r _ (fun k hk => hl k (by simp [hk])) (fun k hk e => hr (hinj k i e ▸ hk)), eh _ _ _ _ (hl i (by simp)), if_pos rfl]
theorem aqz {n i : Nat} (h : i < n) : i ∈ dm 0 n := (g7 n 0 i).2 ⟨Nat.zero_le _, by omega⟩
theorem T2 {n i : Nat} (h : i ∈ dm 0 n) : i < n := by have := ((g7 n 0 i).1 h).2; omega
theorem aax : ∀ (l : List Nat) (o i : Nat), idx l o i = none → o ∉ l
  | [], o, i, _ => by simp
  | a :: l, o, i, h => by
    rw [I6] at h
    split at h
    · cases h
    · rename_i ne
      have := aax l o (i + 1) h
      simp only [List.mem_cons, not_or]
      exact ⟨fun e => ne e.symm, this⟩
theorem ab8 {D : List Nat} {g g0' : Gh} {st st0' : St} {h0 : Tr bc} {w w' : World} {r : AV} {v : Value} (hD : D.Nodup) (hlt : ∀ o ∈ D, o < st.nx) (hp : ∀ o ∈ D, (st.h.get o).isSome = true)
    (hok : Ok g st.h w) (hfr : ∀ o, st.nx ≤ o → g.inj o = none) (hk : D.length ≤ st0'.nx) (hb : st.nx + st0'.nx ≤ cq)
    (s0 : Step (g.db D) h0 w D.length st0'.nx g0' st0'.h w') (ok0 : Ok g0' st0'.h w') (hr : Rel g0' w' r v) :
    ∃ g', st.nx ≤ (ue D st st0').nx ∧ Step g st.h w st.nx (ue D st st0').nx g' (ue D st st0').h w' ∧ Ok g' (ue D st st0').h w' ∧ Rel g' w' (r.db (Km D st.nx st0'.nx)) v := by
  obtain ⟨n0, hn0⟩ : ∃ n0, n0 = st0'.nx := ⟨_, rfl⟩
  have hinj := fun i j => au6 (nx := st.nx) hD hlt (i := i) (j := j)
  have hule : ∀ i ∈ dm 0 st0'.nx, sq D st.nx i ≤ cq := fun i hi => Nat.le_trans (awg hlt (T2 hi)) hb
  have hin : ∀ i, i < st0'.nx → (ue D st st0').h.get (sq D st.nx i) = (st0'.h.get i).bind (bc.db (Km D st.nx st0'.nx)) := fun i hi => Y5 hinj _ _ hule (aqz hi)
  have hout : ∀ o, (∀ i, i < st0'.nx → sq D st.nx i ≠ o) → (ue D st st0').h.get o = st.h.get o := fun o ho => Ie _ _ hule (fun i hi => ho i (T2 hi))
  have hren : ∀ i, (g.db D).inj i = (D[i]?).bind g.inj := fun _ => rfl
  have hold : ∀ i b base, (g.db D).inj i = some (b, base) → ∃ o ∈ D, g.inj o = some (b, base) ∧ (st.h.get o).isSome = true := fun i b base hi => by
    rw [hren] at hi
    cases hd : D[i]? with
    | none => rw [hd] at hi; cases hi
    | some o => rw [hd] at hi; exact ⟨o, List.mem_of_getElem? hd, hi, hp o (List.mem_of_getElem? hd)⟩
  have hno : ∀ i, st0'.nx ≤ i → g0'.inj i = none := fun i hi => s0.fresh i (by rw [hren, List.getElem?_eq_none (by omega)]; rfl) (by omega)
  let g' : Gh := { b0 := g.b0, inj := fun o => if o < st.nx then g.inj o else g0'.inj (D.length + (o - st.nx)), K := g0'.K }
  have gl : ∀ o, o < st.nx → g'.inj o = g.inj o := fun o ho => if_pos ho
  have gg : ∀ o, st.nx ≤ o → g'.inj o = g0'.inj (D.length + (o - st.nx)) := fun o ho => if_neg (by omega)
  have F1 : ∀ i, g'.inj (sq D st.nx i) = g0'.inj i := fun i => by
    rcases Nat.lt_or_ge i D.length with hi | hi
    · have hd := List.getElem?_eq_getElem hi
      rw [zh hd, gl _ (hlt _ (List.getElem_mem hi))]
      have h1 : (g.db D).inj i = g.inj D[i] := by rw [hren, hd]; rfl
      cases hg : g.inj D[i] with
      | some p => exact (s0.ext.inj i p (h1.trans hg)).symm
      | none => exact (s0.fresh i (h1.trans hg) (by omega)).symm
    · rw [B5 hi, gg _ (by omega)]
      congr 1; omega
  let N : List Nat := (List.range (st.nx + st0'.nx)).map fun o => if o < st.nx then (idx D o 0).getD st0'.nx else D.length + (o - st.nx)
  have hNg : ∀ p, p < st.nx + st0'.nx → N[p]? = some (if p < st.nx then (idx D p 0).getD st0'.nx else D.length + (p - st.nx)) := fun p hp => by
    simp only [N, List.getElem?_map, List.getElem?_range hp, Option.map_some]
  have hidx : ∀ i o, D[i]? = some o → idx D o 0 = some i := fun i o hi => by
    cases hx : idx D o 0 with
    | some p =>
      have h1 := C9 D o p hx
      obtain ⟨hi', ei⟩ := List.getElem?_eq_some_iff.1 hi
      obtain ⟨hp', ep⟩ := List.getElem?_eq_some_iff.1 h1
      rw [(List.getElem_inj hD).1 (ei.trans ep.symm)]
    | none => exact absurd (List.mem_of_getElem? hi) (aax D o 0 hx)
  have hτ : ∀ o p, Km D st.nx st0'.nx o = some p → N[p]? = some o := fun i p h => by
    unfold Km at h
    cases hlt2 : Nat.blt i st0'.nx with
    | false => rw [hlt2] at h; cases h
    | true =>
      rw [hlt2] at h
      cases h
      have hi : i < st0'.nx := Nat.le_of_ble_eq_true hlt2
      rcases Nat.lt_or_ge i D.length with hi2 | hi2
      · have hd := List.getElem?_eq_getElem hi2
        rw [zh hd, hNg _ (by have := hlt _ (List.getElem_mem hi2); omega), if_pos (hlt _ (List.getElem_mem hi2)), hidx i _ hd]; rfl
      · rw [B5 hi2, hNg _ (by omega), if_neg (by omega)]
        congr 1; omega
  have hext : Ext (g0'.db N) w' g' w' := by
    refine ⟨s0.ext.b0.symm, fun p q hq => ?_, fun _ _ h => h, fun _ _ _ => rfl, fun b cs e fr h => ⟨cs, fr, h, rfl⟩, fun b l h => ⟨l, h⟩⟩
    have hq' : (N[p]?).bind g0'.inj = some q := hq
    rcases Nat.lt_or_ge p (st.nx + st0'.nx) with hpl | hpl
    · rw [hNg p hpl, Option.bind_some] at hq'
      by_cases hpn : p < st.nx
      · rw [if_pos hpn] at hq'
        cases hx : idx D p 0 with
        | none => rw [hx, Option.getD_none, hno _ (Nat.le_refl _)] at hq'; cases hq'
        | some i =>
          rw [hx, Option.getD_some] at hq'
          rw [← zh (nx := st.nx) (C9 D p i hx), F1]; exact hq'
      · rw [if_neg hpn] at hq'
        rw [gg p (by omega)]; exact hq'
    · have : N[p]? = none := List.getElem?_eq_none (by simp only [N, List.length_map, List.length_range]; exact hpl)
      rw [this] at hq'; cases hq'
  have himg : ∀ o, (∃ i, i < st0'.nx ∧ sq D st.nx i = o) ∨ (∀ i, i < st0'.nx → sq D st.nx i ≠ o) := fun o => by
    by_cases h : ∃ i, i < st0'.nx ∧ sq D st.nx i = o
    · exact .inl h
    · exact .inr fun i hi e => h ⟨i, hi, e⟩
  have cx : ∀ i x, i < st0'.nx → (ue D st st0').h.get (sq D st.nx i) = some x → ∃ y, st0'.h.get i = some y ∧ y.db (Km D st.nx st0'.nx) = some x := fun i x hi hx => by
    rw [hin i hi] at hx
    cases hy : st0'.h.get i with
    | none => rw [hy] at hx; cases hx
    | some y => rw [hy] at hx; exact ⟨y, rfl, hx⟩
  have hfar : ∀ o b base, (∀ i, i < st0'.nx → sq D st.nx i ≠ o) → g'.inj o = some (b, base) → o < st.nx ∧ o ∉ D ∧ g.inj o = some (b, base) := fun o b base ho hi => by
    rcases Nat.lt_or_ge o st.nx with h1 | h1
    · refine ⟨h1, fun hd => ?_, by rw [← gl o h1]; exact hi⟩
      obtain ⟨i, hil, e⟩ := List.getElem_of_mem hd
      exact ho i (by omega) (by rw [zh (List.getElem?_eq_getElem hil)]; exact e)
    · rw [gg o h1] at hi
      rcases Nat.lt_or_ge (D.length + (o - st.nx)) st0'.nx with h2 | h2
      · exact (ho _ h2 (by rw [B5 (by omega)]; omega)).elim
      · rw [hno _ h2] at hi; cases hi
  have hsame : ∀ o x b base, o ∉ D → st.h.get o = some x → g.inj o = some (b, base) → b < w.heap.size → w'.heap[b]? = w.heap[b]? ∧ (∀ i base', g0'.inj i = some (b, base') → (st0'.h.get i).isSome = true → False) ∧ (∀ j, g0'.K b j → g.K b j) := fun o x b base ho hx hi hbs => by
    have hnot : ∀ i base', (g.db D).inj i ≠ some (b, base') := fun i base' e => by
      obtain ⟨o2, hd, hi2, hs2⟩ := hold i b base' e
      obtain ⟨x2, hx2⟩ := Option.isSome_iff_exists.1 hs2
      exact hok.sep o o2 x x2 b base base' (fun e => ho (e ▸ hd)) hx hx2 hi hi2
    refine ⟨s0.frame b hbs fun i base' _ => hnot i base', fun i base' e hs => ?_, fun j hj => ?_⟩
    · rcases s0.own i b base' hs e with h1 | ⟨o', base2, _, h2⟩
      · omega
      · exact hnot o' base2 h2
    · rcases s0.n7 b j hj with h1 | h1 | ⟨o', base2, _, h2⟩
      · exact h1
      · omega
      · exact (hnot o' base2 h2).elim
  have hblk : ∀ o x b base, st.h.get o = some x → g.inj o = some (b, base) → mg g w b base x := fun o x b base hx hi => by
    rcases hok.mb o x hx with ⟨h1, _⟩ | ⟨b', base', h1, _, h2⟩
    · rw [h1] at hi; cases hi
    · rw [h1] at hi; cases hi; exact h2
  have hsz : ∀ b base x, mg g w b base x → b < w.heap.size := fun b base x hx => by
    have hs : ∃ q, w.heap[b]? = some q := by
      cases x with
      | row cells k st et => obtain ⟨cs, fr, h1, _⟩ := hx; exact ⟨_, h1⟩
      | map es => obtain ⟨_, ms, clock, h1, _⟩ := hx; exact ⟨_, h1⟩
      | loop slots nt params assign body state pending => obtain ⟨_, l, h1, _⟩ := hx; exact ⟨_, h1⟩
    obtain ⟨q, hq⟩ := hs
    exact (Array.getElem?_eq_some_iff.1 hq).1
  have hE : Ext g w g' w' := by
    refine ⟨rfl, fun o p hp => ?_, fun b j h => s0.ext.K b j h, fun b j h => s0.ext.cell b j h, s0.ext.zx, s0.ext.lp⟩
    rcases Nat.lt_or_ge o st.nx with h1 | h1
    · rw [gl o h1]; exact hp
    · rw [hfr o h1] at hp; cases hp
  refine ⟨g', Nat.le_add_right _ _, ⟨hE, s0.size, s0.os, s0.tape, s0.output, fun b hbs hn => ?_, fun o ho hr2 => ?_, fun o b base ho hi => ?_, fun b j hK => ?_⟩, ⟨?_, fun o x hx => ?_, fun o o' x x' b base base' hne hx hx' hi hi' => ?_, ok0.K⟩, (hr.db hτ).ext hext⟩
  · refine s0.frame b hbs fun i base _ e => ?_
    obtain ⟨o, _, h1, h2⟩ := hold i b base e
    exact hn o base h2 h1
  · rcases Nat.lt_or_ge o st.nx with h1 | h1
    · rw [gl o h1]; exact ho
    · rw [gg o h1]
      exact hno _ (by simp only [ue] at hr2; omega)
  · rcases himg o with ⟨i, hi0, rfl⟩ | ho2
    · obtain ⟨x, hx⟩ := Option.isSome_iff_exists.1 ho
      obtain ⟨y, hy, _⟩ := cx i x hi0 hx
      rw [F1] at hi
      rcases s0.own i b base (by rw [hy]; rfl) hi with h1 | ⟨o', base', _, h2⟩
      · exact .inl h1
      · obtain ⟨o2, _, h3, h4⟩ := hold o' b base' h2
        exact .inr ⟨o2, base', h4, h3⟩
    · obtain ⟨_, _, h3⟩ := hfar o b base ho2 hi
      rw [hout o ho2] at ho
      exact .inr ⟨o, base, ho, h3⟩
  · rcases s0.n7 b j hK with h1 | h1 | ⟨o', base', _, h2⟩
    · exact .inl h1
    · exact .inr (.inl h1)
    · obtain ⟨o2, _, h3, h4⟩ := hold o' b base' h2
      exact .inr (.inr ⟨o2, base', h4, h3⟩)
  · exact Nat.le_trans hok.size s0.size
  · rcases himg o with ⟨i, hi0, rfl⟩ | ho2
    · obtain ⟨y, hy, hyx⟩ := cx i x hi0 hx
      refine (ok0.mb i y hy).imp (fun q => ⟨by rw [F1]; exact q.1, by obtain ⟨s1, e1, rfl⟩ := q.2; simp only [bc.db, AV.db.go, Option.some.injEq] at hyx; exact ⟨s1, e1, hyx.symm⟩⟩) ?_
      rintro ⟨b, base, q1, q2, q3⟩
      refine ⟨b, base, by rw [F1]; exact q1, by show g.b0 ≤ b; have := s0.ext.b0; have e : g0'.b0 = g.b0 := this; omega, (q3.db hτ hyx).ext hext rfl (fun j hj => hj)⟩
    · rw [hout o ho2] at hx
      cases hg : g'.inj o with
      | none =>
        refine .inl ⟨rfl, ?_⟩
        rcases Nat.lt_or_ge o st.nx with h1 | h1
        · rw [gl o h1] at hg
          rcases hok.mb o x hx with ⟨_, h2⟩ | ⟨b, base, h2, _⟩
          · exact h2
          · rw [hg] at h2; cases h2
        · rcases hok.mb o x hx with ⟨_, h2⟩ | ⟨b, base, h2, _⟩
          · exact h2
          · rw [hfr o h1] at h2; cases h2
      | some p =>
        obtain ⟨b, base⟩ := p
        obtain ⟨h1, h2, h3⟩ := hfar o b base ho2 hg
        have hor := hblk o x b base hx h3
        obtain ⟨e1, _, e3⟩ := hsame o x b base h2 hx h3 (hsz b base x hor)
        refine .inr ⟨b, base, rfl, ?_, hor.ext hE e1 e3⟩
        rcases hok.mb o x hx with ⟨h4, _⟩ | ⟨b', base', h4, h5, _⟩
        · rw [h4] at h3; cases h3
        · rw [h4] at h3; cases h3; exact h5
  · rcases himg o with ⟨i, hi0, rfl⟩ | ho2 <;> rcases himg o' with ⟨i', hi0', rfl⟩ | ho2'
    · obtain ⟨y, hy, _⟩ := cx i x hi0 hx
      obtain ⟨y', hy', _⟩ := cx i' x' hi0' hx'
      rw [F1] at hi hi'
      exact ok0.sep i i' y y' b base base' (fun e => hne (by rw [e])) hy hy' hi hi'
    · obtain ⟨y, hy, _⟩ := cx i x hi0 hx
      obtain ⟨h1, h2, h3⟩ := hfar o' b base' ho2' hi'
      rw [hout o' ho2'] at hx'
      rw [F1] at hi
      exact (hsame o' x' b base' h2 hx' h3 (hsz b base' x' (hblk o' x' b base' hx' h3))).2.1 i base hi (by rw [hy]; rfl)
    · obtain ⟨y, hy, _⟩ := cx i' x' hi0' hx'
      obtain ⟨h1, h2, h3⟩ := hfar o b base ho2 hi
      rw [hout o ho2] at hx
      rw [F1] at hi'
      exact (hsame o x b base h2 hx h3 (hsz b base x (hblk o x b base hx h3))).2.1 i' base' hi' (by rw [hy]; rfl)
    · obtain ⟨h1, h2, h3⟩ := hfar o b base ho2 hi
      obtain ⟨h1', h2', h3'⟩ := hfar o' b base' ho2' hi'
      rw [hout o ho2] at hx
      rw [hout o' ho2'] at hx'
      exact hok.sep o o' x x' b base base' hne hx hx' h3 h3'
theorem abo {P : Program} {f : Nat} {args : List AV} {st : St} {R : AV → St → Prop} (D : List Nat) (hD : D.Nodup) (hlt : ∀ o ∈ D, o < st.nx) (hp : ∀ o ∈ D, (st.h.get o).isSome = true) (hl : D.length ≤ cq)
    (h : qg P f (AV.db.go (fun o => idx D o 0) args) (bp (gz st.h (fun o => idx D o 0) D)) (fun r st' => (D.length ≤ st'.nx ∧ st.nx + st'.nx ≤ cq) ∧ R (r.db (Km D st.nx st'.nx)) (ue D st st'))) : qg P f args st R := by
  intro g w vs hok hfr hrel
  have hτ : ∀ o p, (fun o => idx D o 0) o = some p → D[p]? = some o := fun o p h => C9 _ o p h
  have hnx : (bp (gz st.h (fun o => idx D o 0) D)).nx = D.length := by simp only [bp, gn]
  have hinj : ∀ i o, D[i]? = some o → (g.db D).inj i = g.inj o := fun i o h => by simp [Gh.db, h]
  have cx : ∀ i x, (bp (gz st.h (fun o => idx D o 0) D)).h.get i = some x → ∃ o y, D[i]? = some o ∧ st.h.get o = some y ∧ y.db (fun o => idx D o 0) = some x := by
    intro i x hx
    simp only [bp] at hx
    rw [sv _ _ _ (by rw [gn]; omega), if_pos (Nat.zero_le _), Nat.sub_zero, tf] at hx
    cases hi : D[i]? with
    | none => rw [hi] at hx; cases hx
    | some o =>
      rw [hi] at hx
      simp only [Option.map_some, Option.join_some] at hx
      cases hy : st.h.get o with
      | none => rw [hy] at hx; cases hx
      | some y => rw [hy] at hx; exact ⟨o, y, rfl, hy, hx⟩
  have hok0 : Ok (g.db D) (bp (gz st.h (fun o => idx D o 0) D)).h w := by
    refine ⟨hok.size, fun i x hx => ?_, fun i j x y b base base' hij hx hy hb hb' => ?_, hok.K⟩
    · obtain ⟨o, y, h1, h2, h3⟩ := cx i x hx
      refine (hok.mb o y h2).imp (fun q => ⟨by rw [hinj i o h1]; exact q.1, by obtain ⟨s0, e0, rfl⟩ := q.2; simp only [bc.db, AV.db.go, Option.some.injEq] at h3; exact ⟨s0, e0, h3.symm⟩⟩) ?_
      rintro ⟨b, base, q1, q2, q3⟩
      exact ⟨b, base, by rw [hinj i o h1]; exact q1, q2, q3.db hτ h3⟩
    · obtain ⟨o, y1, h1, h2, _⟩ := cx i x hx
      obtain ⟨o', y2, h1', h2', _⟩ := cx j y hy
      rw [hinj i o h1] at hb
      rw [hinj j o' h1'] at hb'
      have hne : o ≠ o' := by
        intro e
        subst e
        obtain ⟨hi, ei⟩ := List.getElem?_eq_some_iff.1 h1
        obtain ⟨hj, ej⟩ := List.getElem?_eq_some_iff.1 h1'
        exact hij ((List.getElem_inj hD).1 (ei.trans ej.symm))
      exact hok.sep o o' _ _ b base base' hne h2 h2' hb hb'
  have hfr0 : ∀ o, (bp (gz st.h (fun o => idx D o 0) D)).nx ≤ o → (g.db D).inj o = none := fun o ho => by
    rw [hnx] at ho; simp [Gh.db, List.getElem?_eq_none ho]
  have hrel0 : bm (g.db D) w (AV.db.go (fun o => idx D o 0) args) vs := by
    rw [jq]
    refine ⟨by rw [List.length_map]; exact hrel.1, fun i a v ha hv => ?_⟩
    rw [List.getElem?_map] at ha
    cases hx : args[i]? with
    | none => rw [hx] at ha; cases ha
    | some a0 => rw [hx] at ha; cases ha; exact (hrel.2 i a0 v hx hv).db hτ
  rcases h (g.db D) w vs hok0 hfr0 hrel0 with ⟨v, w', g', r, st', q1, q2, q3, q4, q5, q6⟩ | ⟨q1, q2⟩
  · rw [hnx] at q4
    obtain ⟨g'', p1, p2, p3, p4⟩ := ab8 hD hlt hp hok hfr q2.1.1 q2.1.2 q4 q5 q6
    exact .inl ⟨v, w', g'', _, _, q1, q2.2, p1, p2, p3, p4⟩
  · refine .inr ⟨q1, q2.mono ?_⟩
    rintro e w' ⟨v, g', r, st', rfl, q2, q3, q4, q5, q6⟩
    rw [hnx] at q4
    obtain ⟨g'', p1, p2, p3, p4⟩ := ab8 hD hlt hp hok hfr q2.1.1 q2.1.2 q4 q5 q6
    exact ⟨v, g'', _, _, rfl, q2.2, p1, p2, p3, p4⟩
theorem Sk {P : Program} {f : Nat} {args : List AV} {st : St} {R : AV → St → Prop} (D : List Nat) {args0 : List AV} {objs0 : List (Option bc)} {r0 : AV} {objs1 : List (Option bc)}
    (hc : qg P f args0 (bp objs0) (fun r st' => r = r0 ∧ st' = bp objs1)) (hD : D.Nodup)
    (hlt : (D.all fun o => Nat.blt o st.nx) = true) (hp : (D.all fun o => (st.h.get o).isSome) = true) (hl : D.length ≤ cq)
    (ha : AV.db.go (fun o => idx D o 0) args = args0) (hs : gz st.h (fun o => idx D o 0) D = objs0) (hb : D.length ≤ objs1.length ∧ st.nx + objs1.length ≤ cq)
    (h : R (r0.db (Km D st.nx objs1.length)) (ue D st (bp objs1))) : qg P f args st R := by
  refine abo D hD (fun o ho => Nat.le_of_ble_eq_true (List.all_eq_true.1 hlt o ho)) (fun o ho => List.all_eq_true.1 hp o ho) hl ?_
  rw [ha, hs]
  intro g w vs hok hfr hrel
  rcases hc g w vs hok hfr hrel with ⟨v, w', g', r, st', q1, ⟨rfl, rfl⟩, q3⟩ | ⟨q1, q2⟩
  · exact .inl ⟨v, w', g', _, _, q1, ⟨hb, h⟩, q3⟩
  · refine .inr ⟨q1, q2.mono ?_⟩
    rintro e w' ⟨v, g', r, st', e1, ⟨rfl, rfl⟩, q3⟩
    exact ⟨v, g', _, _, e1, ⟨hb, h⟩, q3⟩
end
end Go.Vm
end
section
set_option linter.unusedSimpArgs false
set_option linter.unusedVariables false
namespace Go.Proofs.YtidomogemfchpaaGreat
open Go.Vm
set_option maxRecDepth 2000000
def ayk (s : bo) : Bool := decide ((s.type.toNat : Int) = 2) || (decide ((s.type.toNat : Int) = 15) || decide ((s.type.toNat : Int) = 33))
def kq (l : List c7) : List Name := l.flatMap fun d => d.names
def Ag (s : bo) : List Name := if ayk s = true then kq s.data else []
def ka (l : List bo) : List Name := l.flatMap Ag
def ayr (ans : List bo) (s : bo) : Bool := ans.any fun x => decide ((x.type.toNat : Int) = s.type.toNat) && ee x.owner s.owner
def atq (z : bb) (ans l : List bo) : List bo := (ays z (ka l)).filter fun s => !ayr ans s
def az1 (l : List Name) (n : Name) : Bool := l.any fun m => ee m n
noncomputable def aqn (z : bb) (t : UInt16) : Nat → Name → List Name → List bo → aba
  | 0, _, _, ans => Xc 0 true ans [] []
  | k + 1, n, seen, ans =>
    let x := rp z n t (ir z n).1
    if x.turn = 0 then Xc 0 true (ans ++ x.aj) [] (atq z (ans ++ x.aj) x.aj)
    else if x.turn = 3 then Xc 3 true ans [ain z] []
    else if x.turn = 2 then Xc 0 true ans [ain z] []
    else if x.turn = 4 then Xc 0 (decide (0 < ans.length)) ans x.aj (atq z ans x.aj)
    else if cw x.to z.origin = false then Xc 0 true (ans ++ x.aj) [] []
    else if az1 (seen ++ [n]) x.to = true then Xc 0 true (ans ++ x.aj) [] []
    else aqn z t k x.to (seen ++ [n]) (ans ++ x.aj)
noncomputable def ofV (z : bb) (n : Name) (t : UInt16) : aba × Int :=
  if (ov z n t).2 ≠ 0 then (Xc 0 false [] [] [], (ov z n t).2) else (aqn z t 16 n [] [], 0)
end Go.Proofs.YtidomogemfchpaaGreat
end
section
set_option linter.unusedSimpArgs false
set_option linter.unusedVariables false
namespace Go.Proofs.YtidomogemfchpaaGreat
open Go.Vm
set_option maxRecDepth 2000000
theorem G1 {l : List c7} {i : Nat} {c : c7} (hc : l[i]? = some c) : kq (l.take (i + 1)) = kq (l.take i) ++ c.names := by
  obtain ⟨hi, rfl⟩ := List.getElem?_eq_some_iff.1 hc
  rw [List.take_succ_eq_append_getElem hi, kq, List.flatMap_append]; simp [kq]
end Go.Proofs.YtidomogemfchpaaGreat
end
section
namespace Go.Proofs.YtidomogemfchpaaGreat
open Go.Vm
theorem D2 {a b b' : Name} (h : ee b b' = true) : cw a b = cw a b' := by simp only [cw, qv.1 h]
theorem alm {a b c : Name} (h1 : ee a b = true) (h2 : ee b c = true) : ee a c = true := qv.2 ((qv.1 h1).trans (qv.1 h2))
theorem at_mem {z : bb} {n : Name} {s : bo} (h : s ∈ jw z n) : s ∈ z.aj ∧ ee s.owner n = true := List.mem_filter.1 h
theorem adm {l : List Name} (h : tj l = 0) : ∀ n ∈ l, dp n = 0 := by
  induction l with
  | nil => intro n hn; cases hn
  | cons a l ih =>
    intro n hn
    rw [tj] at h
    split at h
    · contradiction
    · rename_i q
      rcases List.mem_cons.1 hn with rfl | hn
      · omega
      · exact ih h n hn
theorem Zt {t : UInt16} {d : c7} (h : fk t d = 0) : ∀ n ∈ d.names, dp n = 0 := by
  unfold fk at h
  split at h
  · cases h
  split at h
  · cases h
  split at h
  · contradiction
  · rename_i q; exact adm (by omega)
theorem aov {z : bb} (h : iw z = 0) {y : bo} (hy : y ∈ z.aj) (ht : (y.type.toNat : Int) = 5) : ∃ d m, y.data = [d] ∧ d.names = [m] ∧ dp m = 0 := by
  have hg := Su h
  obtain ⟨k, hk, rfl⟩ := List.getElem_of_mem hy
  have ha := hg.alone k _ (List.getElem?_eq_getElem hk)
  unfold iy at ha
  rw [if_neg (by omega)] at ha
  split at ha
  · cases ha
  rename_i hl
  have he := Kn h _ hy
  have hall := Tz he
  cases hd : (z.aj[k]).data with
  | nil => rw [hd] at hl; simp at hl
  | cons d r =>
    have hr : r = [] := by
      rw [hd] at hl
      simp only [List.length_cons] at hl
      exact List.eq_nil_of_length_eq_zero (by omega)
    subst hr
    have hde : fk (z.aj[k]).type d = 0 := hall d (by rw [hd]; simp)
    have hn := (It hde).1
    have h2 : (jd (z.aj[k]).type).names = 1 := by unfold jd; rw [ht]; rfl
    rw [h2] at hn
    cases hm : d.names with
    | nil => rw [hm] at hn; simp at hn
    | cons m r2 =>
      have : r2 = [] := by rw [hm] at hn; simp only [List.length_cons] at hn; exact List.eq_nil_of_length_eq_zero (by omega)
      subst this
      exact ⟨d, m, rfl, hm, Zt hde m (by rw [hm]; simp)⟩
theorem Nq {α : Type} (f : α → Nat) (a b : List α) : fu f (a ++ b) = fu f a + fu f b := by
  induction a with
  | nil => simp [fu]
  | cons x a ih => simp only [fu, List.cons_append, List.foldr_cons] at ih ⊢; omega
theorem U2 {α : Type} (f : α → Nat) (p : α → Bool) (l : List α) : fu f (l.filter p) ≤ fu f l := by
  induction l with
  | nil => exact Nat.le_refl _
  | cons x l ih =>
    rw [List.filter_cons]
    split
    · simp only [fu, List.foldr_cons] at ih ⊢; omega
    · simp only [fu, List.foldr_cons] at ih ⊢; omega
theorem Dr (l : List c7) : fu br (kq l) ≤ fu uc l := by
  induction l with
  | nil => exact Nat.le_refl _
  | cons d l ih =>
    have h : kq (d :: l) = d.names ++ kq l := by simp [kq]
    rw [h, Nq]
    have h2 : fu br d.names ≤ uc d := by unfold uc; omega
    simp only [fu, List.foldr_cons] at ih h2 ⊢; omega
theorem ahc (s : bo) : fu br (Ag s) ≤ nb s := by
  unfold Ag
  split
  · have := Dr s.data; unfold nb; omega
  · exact Nat.zero_le _
theorem Tn (l : List bo) : fu br (ka l) ≤ fu nb l := by
  induction l with
  | nil => exact Nat.le_refl _
  | cons s l ih =>
    have h : ka (s :: l) = Ag s ++ ka l := by simp [ka]
    rw [h, Nq]
    have h2 := ahc s
    simp only [fu, List.foldr_cons] at ih h2 ⊢; omega
theorem ag0 (n : Name) (l : List bo) : ka (l.map (xr n)) = ka l := by
  induction l with
  | nil => rfl
  | cons s l ih =>
    have h : ∀ (s : bo) l, ka (s :: l) = Ag s ++ ka l := fun s l => by simp [ka]
    rw [List.map_cons, h, h, ih]; rfl
theorem ag8 {l : List bo} {x : bo} (h : x ∈ l) : fu br (ka [x]) ≤ fu br (ka l) := by
  induction l with
  | nil => cases h
  | cons s l ih =>
    have hc : ∀ (s : bo) l, ka (s :: l) = Ag s ++ ka l := fun s l => by simp [ka]
    rw [hc s l, Nq]
    rcases List.mem_cons.1 h with rfl | h
    · rw [hc, Nq]; show _ + fu br (ka []) ≤ _; have : fu br (ka []) = 0 := rfl; omega
    · have := ih h; omega
inductive apm (z : bb) (n : Name) (t : UInt16) : Prop
  | I3 (c : Name) (s : bo) (hc : j0 z n = some c) (hs : s ∈ z.aj) (ht : (s.type.toNat : Int) = 2) (ho : ee s.owner c = true) (h : rp z n t (ir z n).1 = xu 4 [s] [])
  | awa (hc : j0 z n = none) (h : rp z n t (ir z n).1 = xu 3 [] [])
  | ap4 (hc : j0 z n = none) (h : rp z n t (ir z n).1 = xu 2 [] [])
  | found (hc : j0 z n = none) (l : List bo) (hne : l ≠ []) (hln : l.length ≤ z.aj.length) (hw : fu br (ka l) ≤ fu nb z.aj) (hl : ∀ s ∈ l, ee s.owner n = true ∧ (s.owner = n ∨ s ∈ z.aj) ∧ ((t.toNat : Int) = 255 ∨ (s.type.toNat : Int) = t.toNat) ∧ ∃ y ∈ z.aj, s.data = y.data ∧ s.type = y.type) (h : rp z n t (ir z n).1 = xu 0 l [])
  | alias (hc : j0 z n = none) (s : bo) (d : c7) (m : Name) (ht : (s.type.toNat : Int) = 5) (h5 : (t.toNat : Int) ≠ 5) (h255 : (t.toNat : Int) ≠ 255) (ho : ee s.owner n = true) (hoz : s.owner = n ∨ s ∈ z.aj) (hd : s.data = [d]) (hm : d.names = [m]) (he : dp m = 0) (hy : ∃ y ∈ z.aj, s.data = y.data ∧ s.type = y.type) (h : rp z n t (ir z n).1 = xu 1 [s] m)
theorem auu {z : bb} {n c : Name} : ∀ (l : List bo) (b : Option Name), (∀ s ∈ l, s ∈ z.aj) → (∀ m, b = some m → ∃ s ∈ z.aj, (s.type.toNat : Int) = 2 ∧ s.owner = m) → l.foldl (gw z n) b = some c → ∃ s ∈ z.aj, (s.type.toNat : Int) = 2 ∧ s.owner = c := by
  intro l
  induction l with
  | nil => intro b _ h hc; exact h c hc
  | cons s l ih =>
    intro b hl h hc
    refine ih _ (fun x hx => hl x (by simp [hx])) (fun m hm => ?_) hc
    unfold gw at hm
    split at hm
    · rename_i hq
      cases hm
      simp only [Bool.and_eq_true, decide_eq_true_eq] at hq
      exact ⟨s, hl s (by simp), hq.1, rfl⟩
    · exact h m hm
theorem ah1 {z : bb} {n : Name} {t : UInt16} (h : iw z = 0) (hc : j0 z n = none) (L : List bo) (hln : L.length ≤ z.aj.length) (hw : fu br (ka L) ≤ fu nb z.aj) (hL : ∀ s ∈ L, ee s.owner n = true ∧ (s.owner = n ∨ s ∈ z.aj) ∧ ∃ y ∈ z.aj, s.data = y.data ∧ s.type = y.type) (hs : rp z n t (ir z n).1 = aae t L) : apm z n t := by
  unfold aae at hs
  split at hs
  · rename_i q
    exact .found hc L (fun e => by rw [e] at q; simp at q) hln hw (fun s hs => ⟨(hL s hs).1, (hL s hs).2.1, .inl q.1, (hL s hs).2.2⟩) hs
  rename_i q
  split at hs
  · rename_i x hx
    have h1 := List.mem_of_find?_eq_some hx
    have h2 := List.find?_some hx
    exact .found hc [x] (by simp) (by have := List.length_pos_of_mem h1; rw [List.length_singleton]; omega) (Nat.le_trans (ag8 h1) hw) (fun s hs => by rw [List.mem_singleton] at hs; subst hs; exact ⟨(hL s h1).1, (hL s h1).2.1, .inr (by simpa using h2), (hL s h1).2.2⟩) hs
  · rename_i hx
    split at hs
    · rename_i x hx2
      have h1 := List.mem_of_find?_eq_some hx2
      have h2 := List.find?_some hx2
      simp only [Bool.and_eq_true, decide_eq_true_eq] at h2
      obtain ⟨y, hy, hyd, hyt⟩ := (hL x h1).2.2
      obtain ⟨d, m, e1, e2, e3⟩ := aov h hy (by rw [← hyt]; exact h2.1)
      rw [← hyd] at e1
      have h5 : (t.toNat : Int) ≠ 5 := fun e => by
        have := List.find?_eq_none.1 hx x h1
        simp [h2.1, e] at this
      refine .alias hc x d m h2.1 h5 h2.2 (hL x h1).1 (hL x h1).2.1 e1 e2 e3 ⟨y, hy, hyd, hyt⟩ ?_
      rw [hs, e1]
      simp [e2]
    · exact .ap4 hc hs
theorem ahw {z : bb} {n : Name} (t : UInt16) (h : i9 z n = 0) : apm z n t := by
  obtain ⟨a1, a2, a3⟩ := Ec h
  have hg := Su a1
  rcases Wf h with ⟨c, hc, e⟩ | ⟨hc, hp, hh, e⟩ | ⟨hc, hp, hh, e⟩ | ⟨hc, hp, hh, hs, e⟩ | ⟨hc, hp, hh, hs, e⟩
  · obtain ⟨s, hs, ht, ho⟩ := auu z.aj none (fun _ h => h) (fun m hm => by cases hm) hc
    have hcl := (aqq (hg.cls s hs)).1
    cases hf : iu z.aj c 2 with
    | none =>
      have := List.find?_eq_none.1 hf s hs
      have hp : v9 c 2 s = true := by unfold v9; rw [decide_eq_true (show (s.type.toNat : Int) = (2 : UInt16).toNat from ht), decide_eq_true hcl, ho, Ya]; rfl
      exact (this hp).elim
    | some x =>
      obtain ⟨m1, m2, m3, m4⟩ := y9 hf
      exact .I3 c x hc m1 m2 m4 (by rw [e]; show xu 4 [(iu z.aj c 2).getD mw] [] = _; rw [hf]; rfl)
  · refine ah1 a1 hc (jw z n) (s5 _) (Nat.le_trans (Tn _) (U2 _ _ _)) (fun s hs => ⟨(at_mem hs).2, .inr (at_mem hs).1, s, (at_mem hs).1, rfl, rfl⟩) ?_
    rw [e]; rfl
  · exact .ap4 hc (by rw [e]; rfl)
  · refine ah1 a1 hc ((jw z (te :: du z n)).map (xr n)) (by rw [List.length_map]; exact s5 _) (by rw [ag0]; exact Nat.le_trans (Tn _) (U2 _ _ _)) (fun s hs => ?_) ?_
    · obtain ⟨y, hy, rfl⟩ := List.mem_map.1 hs
      exact ⟨Ya n, .inl rfl, y, (at_mem hy).1, rfl, rfl⟩
    · rw [e]; rfl
  · exact .awa hc (by rw [e]; rfl)
end Go.Proofs.YtidomogemfchpaaGreat
end
section
set_option linter.unusedSimpArgs false
set_option linter.unusedVariables false
namespace Go.Proofs.YtidomogemfchpaaGreat
open Go.Vm
set_option maxRecDepth 2000000
noncomputable def C5 (a b : bo) : Bool := a.data.all fun d => As a.type b.data d
theorem ao7 (a b : bo) (ha : dq a) (hb : dq b) : wl PP [aw1] 0 (Tryz.f77.body.getD .skip) (dj PP Tryz.f77.results.toList (fun r st => (r1 bt).get true st.h r = some (C5 a b))) (bw 0 [aq.val false a, aq.val false b]) (bp []) := by
  have hl := ha.data.len
  unfold Tryz.f77
  simp only [js]
  simp only [↓wR, RA, simprocAttr, TF, ae]
  refine dh [2, 3, 8, 9, 10] (fun (i : Nat) => [.ptr 0 0, .ptr 1 0, .vl false 4 (a.data.map (cd.val false)), .sc (.int .i64 (a.data.length)), .sc (.int .i64 (i))]) (fun _ => [some (.row [.vl false 1 (a.owner.map (an.val false)), .sc (.int .u16 a.type.toNat), .sc (.int .u16 a.cls.toNat), .sc (.int .u32 a.sr.toNat), .vl false 4 (a.data.map (cd.val false))] 0 2 40), some (.row [.vl false 1 (b.owner.map (an.val false)), .sc (.int .u16 b.type.toNat), .sc (.int .u16 b.cls.toNat), .sc (.int .u32 b.sr.toNat), .vl false 4 (b.data.map (cd.val false))] 0 2 40)]) (fun i => i ≤ a.data.length ∧ C5 a b = (a.data.drop i).all fun d => As a.type b.data d) (fun i => a.data.length - i) 0 ⟨Nat.zero_le _, rfl⟩ (by simp only [↓wR, RA, simprocAttr, TF, ae] <;> rfl) (by simp only [↓wR, RA, simprocAttr, TF, ae] <;> rfl) ?_
  rintro i ⟨hi, hx⟩
  simp only [↓wR, RA, simprocAttr, TF, ae]
  rw [bj]; refine ⟨fun h => ?_, fun h => ?_⟩
  · obtain ⟨c, hc, hd1, hlt⟩ := dt (decide_eq_true h)
    rw [hd1, List.all_cons] at hx
    have hcs := ha.data.mem c (List.mem_of_getElem? hc)
    simp only [↓wR, RA, simprocAttr, TF, ae, h, hc, M3, hb.data, hcs]
    rw [bk]; refine ⟨fun h1 => ?_, fun h1 => ?_⟩
    · have h1' : As a.type b.data c = false := by simpa only [Bool.not_eq_true'] using h1
      rw [h1', Bool.false_and] at hx
      simp only [↓wR, RA, simprocAttr, TF, ae, h1]
      rw [hx] <;> rfl
    · have h1' : As a.type b.data c = true := by simpa only [Bool.not_eq_false'] using h1
      rw [h1', Bool.true_and] at hx
      simp only [↓wR, RA, simprocAttr, TF, ae, h1]; repeat (simp (disch := omega) only [ah, ca, cb, bz, b9]; try simp only [↓wR, RA, simprocAttr, TF, ae, h1])
      exact ⟨i + 1, ⟨hlt, hx⟩, by omega, by (first | rfl | trivial | omega | ((try (simp (disch := omega) only [ah])); (try (simp only [FB])); first | done | rfl | omega))⟩
  · rw [dv (decide_eq_false h), List.all_nil] at hx
    simp only [↓wR, RA, simprocAttr, TF, ae, h]
    rw [hx] <;> rfl
noncomputable def Ah (x : bo × bo × Unit) : Option AV := if dq x.1 ∧ dq x.2.1 then some ((r1 bt).E true (C5 x.1 x.2.1)) else none
set_option maxRecDepth 2000000 in
theorem afh (x : bo × bo × Unit) (r : AV) (h : Ah x = some r) : bf PP 77 ((aC aq (aC aq a0)).E x) r := by
  by_cases hc : dq x.1 ∧ dq x.2.1
  case neg => simp only [Ah, if_neg hc] at h; cases h
  simp only [Ah, if_pos hc] at h
  cases h
  exact ba (ak.cons (ai Wv) (ak.nil PP)) Tryz.func77 (by kernel_rfl) (by kernel_rfl) (by kernel_rfl) (Nat.le_of_ble_eq_true (by kernel_rfl)) (r1 bt) true (C5 x.1 x.2.1) (ao7 x.1 x.2.1 hc.1 hc.2)
noncomputable abbrev aul : Nat × Bool × (List AV → M AV) := (77, true, dc (aC aq (aC aq a0)) Ah)
noncomputable def tt (a b : bo) : Bool := decide ((a.type.toNat : Int) = b.type.toNat) && (decide ((a.cls.toNat : Int) = b.cls.toNat) && (ee a.owner b.owner && (C5 a b && C5 b a)))
theorem agq (a b : bo) (ha : dq a) (hb : dq b) : wl PP [dr, aul] 0 (Tryz.f38.body.getD .skip) (dj PP Tryz.f38.results.toList (fun r st => (r1 bt).get true st.h r = some (tt a b))) (bw 0 [aq.val false a, aq.val false b]) (bp []) := by
  unfold Tryz.f38
  simp only [js]
  unfold tt
  simp only [↓wR, RA, simprocAttr, TF, ae]
  rw [cy]; refine ⟨fun ⟨h1, e1⟩ => ?_, fun ⟨h1, e1⟩ => ?_⟩
  · rw [decide_eq_true e1, Bool.true_and]
    simp only [↓wR, RA, simprocAttr, TF, ae, h1]
    rw [cy]; refine ⟨fun ⟨h2, e2⟩ => ?_, fun ⟨h2, e2⟩ => ?_⟩
    · rw [decide_eq_true e2, Bool.true_and]
      simp only [↓wR, RA, simprocAttr, TF, ae, h2, ia, ha.owner, hb.owner]
      rw [bk]; refine ⟨fun h3 => ?_, fun h3 => ?_⟩
      · rw [h3, Bool.true_and]
        simp only [↓wR, RA, simprocAttr, TF, ae, h3, Ah, ha, hb]
        rw [bk]; refine ⟨fun h4 => ?_, fun h4 => ?_⟩
        · rw [h4, Bool.true_and]
          simp only [↓wR, RA, simprocAttr, TF, ae, h4, Ah, ha, hb]
        · rw [h4, Bool.false_and]
          simp only [↓wR, RA, simprocAttr, TF, ae, h4]
      · rw [h3, Bool.false_and]
        simp only [↓wR, RA, simprocAttr, TF, ae, h3]
    · rw [decide_eq_false e2, Bool.false_and]
      simp only [↓wR, RA, simprocAttr, TF, ae, h2]
  · rw [decide_eq_false e1, Bool.false_and]
    simp only [↓wR, RA, simprocAttr, TF, ae, h1]
noncomputable def Da (x : bo × bo × Unit) : Option AV := if dq x.1 ∧ dq x.2.1 then some ((r1 bt).E true (tt x.1 x.2.1)) else none
set_option maxRecDepth 2000000 in
theorem Pc (x : bo × bo × Unit) (r : AV) (h : Da x = some r) : bf PP 38 ((aC aq (aC aq a0)).E x) r := by
  by_cases hc : dq x.1 ∧ dq x.2.1
  case neg => simp only [Da, if_neg hc] at h; cases h
  simp only [Da, if_pos hc] at h
  cases h
  exact ba (ak.cons (ai fv) (ak.cons (ai afh) (ak.nil PP))) Tryz.func38 (by kernel_rfl) (by kernel_rfl) (by kernel_rfl) (Nat.le_of_ble_eq_true (by kernel_rfl)) (r1 bt) true (tt x.1 x.2.1) (agq x.1 x.2.1 hc.1 hc.2)
noncomputable abbrev aoq : Nat × Bool × (List AV → M AV) := (38, true, dc (aC aq (aC aq a0)) Da)
end Go.Proofs.YtidomogemfchpaaGreat
end
section
set_option linter.unusedSimpArgs false
set_option linter.unusedVariables false
namespace Go.Proofs.YtidomogemfchpaaGreat
open Go.Vm
set_option maxRecDepth 2000000
def Yq (w : bd) : Nat := fu x9 w.ay + (fu (fun h : u2 => h.ay.length) w.dk + w.hints.length)
def da (w : bd) : Prop := Yq w ≤ 5242880
instance (w : bd) : Decidable (da w) := inferInstanceAs (Decidable (_ ≤ _))
theorem da.zone {w : bd} (h : da w) : ∀ z ∈ w.ay, c9 z := fun z hz => by
  have h1 : x9 z < fu x9 w.ay := r9 hz
  unfold da Yq at h; unfold c9; omega
theorem da.wt {w : bd} (h : da w) : ∀ z ∈ w.ay, x9 z ≤ 5242880 := fun z hz => by
  have h1 : x9 z < fu x9 w.ay := r9 hz
  unfold da Yq at h; omega
theorem da.Ee {w : bd} (h : da w) : w.ay.length ≤ 16777216 := by have := ql x9 w.ay; unfold da Yq at h; omega
theorem da.hlen {w : bd} (h : da w) : w.dk.length ≤ 16777216 := by have := ql (fun h : u2 => h.ay.length) w.dk; unfold da Yq at h; omega
theorem da.azt {w : bd} (h : da w) : w.hints.length ≤ 16777216 := by unfold da Yq at h; omega
theorem da.host {w : bd} (h : da w) : ∀ x ∈ w.dk, x.ay.length ≤ 16777216 := fun x hx => by
  have h1 : x.ay.length < fu (fun h : u2 => h.ay.length) w.dk := r9 (f := fun h : u2 => h.ay.length) hx
  unfold da Yq at h; omega
def Ho (b : Option (Nat × Nat)) (k : Nat) : Bool := match b with | none => true | some p => decide (p.2 < k)
def oh (n : Name) (b : Option (Nat × Nat)) (i : Nat) (z : bb) : Option (Nat × Nat) :=
  if (cw n z.origin && Ho b z.origin.length) = true then some (i, z.origin.length) else b
def F8 (n : Name) : List bb → Nat → Option (Nat × Nat) → Option (Nat × Nat)
  | [], _, b => b
  | z :: r, i, b => F8 n r (i + 1) (oh n b i z)
def Wr (w : bd) (n : Name) : Option (Nat × Nat) := F8 n w.ay 0 none
def Wn (b : Option (Nat × Nat)) : Int := match b with | none => -1 | some p => (p.1 : Int)
def rh (w : bd) (n : Name) : Int := Wn (Wr w n)
theorem aum {l : List bb} {i : Nat} {c : bb} (n : Name) (k : Nat) (b) (h : l.drop i = c :: l.drop (i + 1)) : F8 n (l.drop i) k b = F8 n (l.drop (i + 1)) (k + 1) (oh n b k c) := by rw [h]; rfl
theorem Vo (k : Nat) : decide ((k : Int) < 0) = false := decide_eq_false (by omega)
set_option maxHeartbeats 4000000 in
theorem aqt (w : bd) (n : Name) (hw : da w) (hn : be n) : wl PP [sj] 0 (Tryz.f52.body.getD .skip) (dj PP Tryz.f52.results.toList (fun r st => (r1 (aw .i64)).get true st.h r = some (rh w n))) (bw 0 [ct.val false w, ar.val false n]) (bp []) := by
  have hl := hw.Ee
  have hq : ∀ a b c d, gk a b c = d → gk a b c = d := fun _ _ _ _ h => h
  unfold Tryz.f52
  simp only [ek, di]
  simp only [↓wR, RA, simprocAttr, TF, ae]
  refine dh [1, 2, 5, 9, 10, 11] (fun (x : Nat × Option (Nat × Nat)) => [.vl false 1 (n.map (an.val false)), .ptr 0 0, .sc (.int .i64 (Wn x.2)), .vl false 2 (w.ay.map (bg.val false)), .sc (.int .i64 (w.ay.length)), .sc (.int .i64 (x.1))]) (fun _ => [some (.row [.vl false 2 (w.ay.map (bg.val false)), .vl false 2 (w.dk.map (dy.val false)), .vl false 1 (w.hints.map (bn.val false))] 0 2 50)]) (fun x => x.1 ≤ w.ay.length ∧ Wr w n = F8 n (w.ay.drop x.1) x.1 x.2 ∧ ∀ p, x.2 = some p → ∃ y, w.ay[p.1]? = some y ∧ y.origin.length = p.2) (fun x => w.ay.length - x.1) (0, none) ⟨Nat.zero_le _, rfl, fun p h => by cases h⟩ (by simp only [↓wR, RA, simprocAttr, TF, ae, Wn] <;> rfl) (by simp only [↓wR, RA, simprocAttr, TF, ae] <;> rfl) ?_
  rintro ⟨i, b⟩ ⟨hi, hx, hb⟩
  simp only at hi hx hb
  simp only [↓wR, RA, simprocAttr, TF, ae]
  rw [bj]; refine ⟨fun h => ?_, fun h => ?_⟩
  · obtain ⟨c, hc, hd1, hlt⟩ := dt (decide_eq_true h)
    rw [aum n i b hd1] at hx
    have hcs := (hw.zone c (List.mem_of_getElem? hc)).origin
    have step : ∀ b', oh n b i c = b' → Wr w n = F8 n (w.ay.drop (i + 1)) (i + 1) b' := fun b' e => by rw [hx, e]
    simp only [↓wR, RA, simprocAttr, TF, ae, h, hc]
    refine ⟨by kernel_rfl, .inl ?_⟩
    simp only [↓wR, RA, simprocAttr, TF, ae, ln, hn, hcs]
    rw [bk]; refine ⟨fun h1 => ?_, fun h1 => ?_⟩
    · cases b with
      | none =>
        have st := step (some (i, c.origin.length)) (by simp [oh, h1, Ho])
        simp only [↓wR, RA, simprocAttr, TF, ae, h1, Wn]; repeat (simp (disch := omega) only [ah, ca, cb, bz, b9]; try simp only [↓wR, RA, simprocAttr, TF, ae, h1, Wn])
        exact ⟨by apply hq; kernel_rfl, (i + 1, some (i, c.origin.length)), ⟨hlt, st, fun p hp => by cases hp; exact ⟨c, hc, rfl⟩⟩, by simp; omega, by (first | rfl | trivial | omega | ((try (simp (disch := omega) only [ah])); (try (simp only [FB])); first | done | rfl | omega))⟩
      | some p =>
        obtain ⟨k, m⟩ := p
        obtain ⟨y, hy, hym⟩ := hb _ rfl
        simp only at hy hym
        have hyl := List.mem_of_getElem? hy
        simp only [↓wR, RA, simprocAttr, TF, ae, h1, Wn, Vo, hy]
        refine ⟨by apply hq; kernel_rfl, ?_⟩
        rw [bj]; refine ⟨fun h2 => ?_, fun h2 => ?_⟩
        · have st := step (some (i, c.origin.length)) (by simp [oh, h1, Ho]; omega)
          simp only [↓wR, RA, simprocAttr, TF, ae, h2]; repeat (simp (disch := omega) only [ah, ca, cb, bz, b9]; try simp only [↓wR, RA, simprocAttr, TF, ae, h2])
          exact ⟨(i + 1, some (i, c.origin.length)), ⟨hlt, st, fun p hp => by cases hp; exact ⟨c, hc, rfl⟩⟩, by simp; omega, by (first | rfl | trivial | omega | ((try (simp (disch := omega) only [ah])); (try (simp only [FB])); first | done | rfl | omega))⟩
        · have st := step (some (k, m)) (by simp [oh, h1, Ho]; omega)
          simp only [↓wR, RA, simprocAttr, TF, ae, h2]; repeat (simp (disch := omega) only [ah, ca, cb, bz, b9]; try simp only [↓wR, RA, simprocAttr, TF, ae, h2])
          exact ⟨(i + 1, some (k, m)), ⟨hlt, st, hb⟩, by simp; omega, by (first | rfl | trivial | omega | ((try (simp (disch := omega) only [ah])); (try (simp only [FB])); first | done | rfl | omega))⟩
    · have st := step b (by simp [oh, h1])
      simp only [↓wR, RA, simprocAttr, TF, ae, h1]; repeat (simp (disch := omega) only [ah, ca, cb, bz, b9]; try simp only [↓wR, RA, simprocAttr, TF, ae, h1])
      exact ⟨by apply hq; kernel_rfl, (i + 1, b), ⟨hlt, st, hb⟩, by simp; omega, by (first | rfl | trivial | omega | ((try (simp (disch := omega) only [ah])); (try (simp only [FB])); first | done | rfl | omega))⟩
  · rw [dv (decide_eq_false h)] at hx
    simp only [↓wR, RA, simprocAttr, TF, ae, h]
    rw [rh, hx] <;> rfl
noncomputable def xw (x : bd × Name × Unit) : Option AV := if da x.1 ∧ be x.2.1 then some ((r1 (aw .i64)).E true (rh x.1 x.2.1)) else none
set_option maxRecDepth 2000000 in
theorem Bb (x : bd × Name × Unit) (r : AV) (h : xw x = some r) : bf PP 52 ((aC ct (aC ar a0)).E x) r := by
  by_cases hc : da x.1 ∧ be x.2.1
  case neg => simp only [xw, if_neg hc] at h; cases h
  simp only [xw, if_pos hc] at h
  cases h
  exact ba (ak.cons (ai l5) (ak.nil PP)) Tryz.func52 (by kernel_rfl) (by kernel_rfl) (by kernel_rfl) (Nat.le_of_ble_eq_true (by kernel_rfl)) (r1 (aw .i64)) true (rh x.1 x.2.1) (aqt x.1 x.2.1 hc.1 hc.2)
noncomputable abbrev S2 : Nat × Bool × (List AV → M AV) := (52, true, dc (aC ct (aC ar a0)) xw)
def o8 (w : bd) (i : Int) : Option bb := if 0 ≤ i then w.ay[i.toNat]? else none
theorem adp {w : bd} {n : Name} {p : Nat × Nat} (h : Wr w n = some p) : ∃ y, w.ay[p.1]? = some y ∧ y.origin.length = p.2 ∧ cw n y.origin = true := by
  have key : ∀ (l : List bb) (i : Nat) (b : Option (Nat × Nat)), (∀ k z, l[k]? = some z → w.ay[i + k]? = some z) → (∀ p, b = some p → ∃ y, w.ay[p.1]? = some y ∧ y.origin.length = p.2 ∧ cw n y.origin = true) → ∀ p, F8 n l i b = some p → ∃ y, w.ay[p.1]? = some y ∧ y.origin.length = p.2 ∧ cw n y.origin = true := by
    intro l
    induction l with
    | nil => intro i b _ hb p hp; exact hb p hp
    | cons z l ih =>
      intro i b hl hb p hp
      refine ih (i + 1) (oh n b i z) (fun k y hy => by rw [show i + 1 + k = i + (k + 1) from by omega]; exact hl (k + 1) y (by simpa using hy)) (fun q hq => ?_) p hp
      unfold oh at hq
      split at hq
      · rename_i h1
        rw [Bool.and_eq_true] at h1
        cases hq
        exact ⟨z, hl 0 z rfl, rfl, h1.1⟩
      · exact hb q hq
  exact key w.ay 0 none (fun k z hz => by rw [Nat.zero_add]; exact hz) (fun p h => by cases h) p h
theorem am4 {w : bd} {n : Name} (h : ¬ rh w n < 0) : ∃ (k : Nat) (y : bb), rh w n = (k : Int) ∧ w.ay[k]? = some y ∧ cw n y.origin = true := by
  unfold rh at h ⊢
  cases ho : Wr w n with
  | none => rw [ho] at h; exact (h (by decide)).elim
  | some p =>
    obtain ⟨y, h1, _, h2⟩ := adp ho
    exact ⟨p.1, y, rfl, h1, h2⟩
def Ha (w : bd) (n : Name) : Int × Int := if dp n ≠ 0 then (0, dp n) else if rh w n < 0 then (0, 9) else (rh w n, 0)
theorem apt (w : bd) (n : Name) (hw : da w) (hn : be n) : wl PP [eb, S2] 0 (Tryz.f18.body.getD .skip) (dj PP Tryz.f18.results.toList (fun r st => (r2 (aw .i64) (aw .i64)).get true st.h r = some (Ha w n))) (bw 0 [ct.val false w, ar.val false n]) (bp []) := by
  unfold Tryz.f18
  simp only [ek, di]
  simp only [↓wR, RA, simprocAttr, TF, ae, ll, hn.fit]
  unfold Ha
  rw [bk]; refine ⟨fun h => ?_, fun h => ?_⟩
  · have he : dp n ≠ 0 := by simpa using h
    rw [if_pos he]
    simp only [↓wR, RA, simprocAttr, TF, ae, h]
  have he : dp n = 0 := by simpa using h
  rw [if_neg (by omega)]
  simp only [↓wR, RA, simprocAttr, TF, ae, h, xw, hw, hn]
  rw [bj]; refine ⟨fun h2 => ?_, fun h2 => ?_⟩
  · rw [if_pos h2]
    simp only [↓wR, RA, simprocAttr, TF, ae, h2]
  · rw [if_neg h2]
    simp only [↓wR, RA, simprocAttr, TF, ae, h2]
noncomputable def Dz (x : bd × Name × Unit) : Option AV := if da x.1 ∧ be x.2.1 then some ((r2 (aw .i64) (aw .i64)).E true (Ha x.1 x.2.1)) else none
set_option maxRecDepth 2000000 in
theorem ab1 (x : bd × Name × Unit) (r : AV) (h : Dz x = some r) : bf PP 18 ((aC ct (aC ar a0)).E x) r := by
  by_cases hc : da x.1 ∧ be x.2.1
  case neg => simp only [Dz, if_neg hc] at h; cases h
  simp only [Dz, if_pos hc] at h
  cases h
  exact ba (ak.cons (ai kb) (ak.cons (ai Bb) (ak.nil PP))) Tryz.func18 (by kernel_rfl) (by kernel_rfl) (by kernel_rfl) (Nat.le_of_ble_eq_true (by kernel_rfl)) (r2 (aw .i64) (aw .i64)) true (Ha x.1 x.2.1) (apt x.1 x.2.1 hc.1 hc.2)
noncomputable abbrev aiy : Nat × Bool × (List AV → M AV) := (18, true, dc (aC ct (aC ar a0)) Dz)
def m5 (w : bd) (i : Int) : Int × Int :=
  match o8 w i with
  | none => (0, 9)
  | some z => if (j7 z.origin).2 ≠ 0 then (0, 9) else if rh w (j7 z.origin).1 < 0 then (0, 9) else (rh w (j7 z.origin).1, 0)
theorem pa (w : bd) (k : Nat) : o8 w (k : Int) = w.ay[k]? := by unfold o8; rw [if_pos (by omega), Int.toNat_natCast]
theorem H5 {w : bd} {i : Int} (h : i < 0) : o8 w i = none := by unfold o8; rw [if_neg (by omega)]
theorem Tc {w : bd} {i : Int} (h : (w.ay.length : Int) ≤ i) : o8 w i = none := by unfold o8; rw [if_pos (by omega)]; exact List.getElem?_eq_none (by omega)
theorem Yp {w : bd} {i : Int} (h : ¬ i < 0) (h2 : ¬ i ≥ (w.ay.length : Int)) : ∃ (k : Nat) (z : bb), i = (k : Int) ∧ w.ay[k]? = some z := ⟨i.toNat, w.ay[i.toNat]'(by omega), by omega, List.getElem?_eq_getElem _⟩
theorem ab6 {n : Name} (h : be n) : be (j7 n).1 := by
  unfold j7
  split
  · show br [] ≤ 16777216; decide
  · split
    · show br [] ≤ 16777216; decide
    · cases n with
      | nil => exact h
      | cons a r =>
        have h1 := jr [a] r
        have h2 : br [a] = a.size + 2 := by simp [br]; omega
        have h3 := (nr r 0).2
        simp only [List.singleton_append] at h1
        unfold be at *
        show br r ≤ 16777216
        omega
set_option maxHeartbeats 4000000 in
theorem alk (w : bd) (i : Int) (hw : da w) : wl PP [akk, S2] 0 (Tryz.f20.body.getD .skip) (dj PP Tryz.f20.results.toList (fun r st => (r2 (aw .i64) (aw .i64)).get true st.h r = some (m5 w i))) (bw 0 [ct.val false w, (aw .i64).val false i]) (bp []) := by
  unfold Tryz.f20
  simp only [ek]
  unfold m5
  simp only [↓wR, RA, simprocAttr, TF, ae]
  rw [bj]; refine ⟨fun h => ?_, fun h => ?_⟩
  · rw [H5 h]
    simp only [↓wR, RA, simprocAttr, TF, ae, h]
  simp only [↓wR, RA, simprocAttr, TF, ae, h]
  rw [bj]; refine ⟨fun h2 => ?_, fun h2 => ?_⟩
  · rw [Tc h2]
    simp only [↓wR, RA, simprocAttr, TF, ae, h2]
  obtain ⟨k, z, rfl, hz⟩ := Yp h h2
  have hzs := (hw.zone z (List.mem_of_getElem? hz)).origin
  have hps := ab6 hzs
  rw [pa, hz]
  simp only
  rcases hp : j7 z.origin with ⟨up, e⟩
  rw [hp] at hps
  simp only [↓wR, RA, simprocAttr, TF, ae, h2, hz, wu, hzs, hp]
  rw [bk]; refine ⟨fun h3 => ?_, fun h3 => ?_⟩
  · have he : e ≠ 0 := by simpa using h3
    rw [if_pos he]
    simp only [↓wR, RA, simprocAttr, TF, ae, h3]
  have he : e = 0 := by simpa using h3
  rw [if_neg (by omega)]
  simp only [↓wR, RA, simprocAttr, TF, ae, h3, xw, hw, hps]
  rw [bj]; refine ⟨fun h4 => ?_, fun h4 => ?_⟩
  · rw [if_pos h4]
    simp only [↓wR, RA, simprocAttr, TF, ae, h4]
  · rw [if_neg h4]
    simp only [↓wR, RA, simprocAttr, TF, ae, h4]
noncomputable def z5 (x : bd × Int × Unit) : Option AV := if da x.1 then some ((r2 (aw .i64) (aw .i64)).E true (m5 x.1 x.2.1)) else none
set_option maxRecDepth 2000000 in
theorem Mj (x : bd × Int × Unit) (r : AV) (h : z5 x = some r) : bf PP 20 ((aC ct (aC (aw .i64) a0)).E x) r := by
  by_cases hc : da x.1
  case neg => simp only [z5, if_neg hc] at h; cases h
  simp only [z5, if_pos hc] at h
  cases h
  exact ba (ak.cons (ai Sn) (ak.cons (ai Bb) (ak.nil PP))) Tryz.func20 (by kernel_rfl) (by kernel_rfl) (by kernel_rfl) (Nat.le_of_ble_eq_true (by kernel_rfl)) (r2 (aw .i64) (aw .i64)) true (m5 x.1 x.2.1) (alk x.1 x.2.1 hc)
noncomputable abbrev Wl : Nat × Bool × (List AV → M AV) := (20, true, dc (aC ct (aC (aw .i64) a0)) z5)
def lg (w : bd) (n : Name) (t : UInt16) : Option bo := match o8 w (rh w n) with | none => none | some z => iu z.aj n t
theorem auq (w : bd) (n : Name) (t : UInt16) (hw : da w) (hn : be n) : wl PP [S2, Bs] 0 (Tryz.f88.body.getD .skip) (dj PP Tryz.f88.results.toList (fun r st => (r2 aq bt).get true st.h r = some ((lg w n t).getD mw, (lg w n t).isSome))) (bw 0 [ct.val false w, ar.val false n, c8.val false t]) (bp []) := by
  unfold Tryz.f88
  simp only [ek, di]
  simp only [↓wR, RA, simprocAttr, TF, ae, xw, hw, hn]
  unfold lg
  rw [bj]; refine ⟨fun h => ?_, fun h => ?_⟩
  · rw [H5 h]
    simp only [↓wR, RA, simprocAttr, TF, ae, h]
    rfl
  obtain ⟨k, z, hk, hz, _⟩ := am4 h
  have hzs := hw.zone z (List.mem_of_getElem? hz)
  rw [hk] at h ⊢
  rw [pa, hz]
  simp only [↓wR, RA, simprocAttr, TF, ae, h, hz, uu, hzs.mid, hn]
noncomputable def Bn (x : bd × Name × UInt16 × Unit) : Option AV := if da x.1 ∧ be x.2.1 then some ((r2 aq bt).E true (((lg x.1 x.2.1 x.2.2.1).getD mw, (lg x.1 x.2.1 x.2.2.1).isSome))) else none
set_option maxRecDepth 2000000 in
theorem Cr (x : bd × Name × UInt16 × Unit) (r : AV) (h : Bn x = some r) : bf PP 88 ((aC ct (aC ar (aC c8 a0))).E x) r := by
  by_cases hc : da x.1 ∧ be x.2.1
  case neg => simp only [Bn, if_neg hc] at h; cases h
  simp only [Bn, if_pos hc] at h
  cases h
  exact ba (ak.cons (ai Bb) (ak.cons (ai uh) (ak.nil PP))) Tryz.func88 (by kernel_rfl) (by kernel_rfl) (by kernel_rfl) (Nat.le_of_ble_eq_true (by kernel_rfl)) (r2 aq bt) true (((lg x.1 x.2.1 x.2.2.1).getD mw, (lg x.1 x.2.1 x.2.2.1).isSome)) (auq x.1 x.2.1 x.2.2.1 hc.1 hc.2)
noncomputable abbrev Tf : Nat × Bool × (List AV → M AV) := (88, true, dc (aC ct (aC ar (aC c8 a0))) Bn)
def Aw (l : List UInt8) : Nat := l.foldl (fun n c => 256 * n + c.toNat) 0
theorem Y1 (l : List UInt8) (c : UInt8) : Aw (l ++ [c]) = 256 * Aw l + c.toNat := by simp [Aw]
theorem K2 (l : List UInt8) : ∀ k, k ≤ l.length → Aw (l.take k) < 256 ^ k
  | 0, _ => by simp [Aw]
  | k + 1, h => by
    have ih := K2 l k (by omega)
    rw [List.take_succ_eq_append_getElem (by omega), Y1, Nat.pow_succ]
    have := (l[k]'(by omega)).toNat_lt
    omega
theorem awv (a c : Nat) (hc : c < 256) : 256 * a ||| c = 256 * a + c := by
  have := Nat.two_pow_add_eq_or_of_lt (i := 8) hc a
  simpa using this.symm
def yx (d : c7) : UInt32 × Bool := if d.raw.length = 4 then (UInt32.ofNat (Aw d.raw), true) else (0, false)
theorem wrap_u32' (x : Int) (h0 : 0 ≤ x) (h1 : x < 4294967296) : IntKind.u32.wrap x = x := by
  simp [IntKind.wrap, IntKind.bits, IntKind.signed]; omega
theorem as0 (d : c7) : wl PP [] 0 (Tryz.f92.body.getD .skip) (dj PP Tryz.f92.results.toList (fun r st => (r2 bn bt).get true st.h r = some (yx d))) (bw 0 [cd.val false d]) (bp []) := by
  unfold Tryz.f92
  simp only [mc]
  unfold yx
  simp only [↓wR, RA, simprocAttr, TF, ae]
  rw [g9]; refine ⟨fun ⟨h, e⟩ => ?_, fun ⟨h, e⟩ => ?_⟩
  · rw [if_neg (by omega)]
    simp only [↓wR, RA, simprocAttr, TF, ae, h, Ui]
  have h4 : d.raw.length = 4 := by omega
  rw [if_pos h4]
  simp only [↓wR, RA, simprocAttr, TF, ae, h]
  refine dh [4, 12, 13, 14] (fun (x : Nat) => [.sc (.int .u32 (Aw (d.raw.take x))), .vl false 1 (d.raw.map (cp.val false)), .sc (.int .i64 (d.raw.length)), .sc (.int .i64 (x))]) (fun _ => []) (fun x => x ≤ 4) (fun x => 4 - x) 0 (by simp) (by simp only [↓wR, RA, simprocAttr, TF, ae] <;> rfl) (by simp only [↓wR, RA, simprocAttr, TF, ae] <;> rfl) ?_
  intro i hi
  simp only [↓wR, RA, simprocAttr, TF, ae]
  rw [bj]; refine ⟨fun h2 => ?_, fun h2 => ?_⟩
  · obtain ⟨c, hc, hd1, hlt⟩ := dt (decide_eq_true h2)
    have e1 := K2 d.raw i (by omega)
    have e2 : Aw (d.raw.take (i + 1)) = 256 * Aw (d.raw.take i) + c.toNat := by
      obtain ⟨hk, rfl⟩ := List.getElem?_eq_some_iff.1 hc
      rw [List.take_succ_eq_append_getElem hk, Y1]
    have e3 := c.toNat_lt
    have e4 : 256 ^ i ≤ 256 ^ 3 := Nat.pow_le_pow_right (by omega) (by omega)
    have n1 : ((↑(Aw (d.raw.take i)) * 256 : Int) % 4294967296).toNat = 256 * Aw (d.raw.take i) := by omega
    have n2 : ((c.toNat : Int) % 4294967296).toNat = c.toNat := by omega
    simp only [↓wR, RA, simprocAttr, TF, ae, h2, hc]; repeat (simp (disch := omega) only [ah, ca, cb, bz, b9]; try simp only [↓wR, RA, simprocAttr, TF, ae, h2, hc])
    refine ⟨i + 1, by omega, by omega, ?_⟩
    rw [e2, wrap_u32' (_ * 256) (by omega) (by omega), n1]
    have n3 : ((((UInt32.ofNat c.toNat).toNat : Nat) : Int) % 4294967296).toNat = c.toNat := by simp; omega
    have n4 : (UInt32.ofNat (256 * Aw (d.raw.take i) + c.toNat)).toNat = 256 * Aw (d.raw.take i) + c.toNat := by simp; omega
    rw [n3, awv _ _ (by omega), n4]
    rfl
  · have h5 : i = 4 := by omega
    subst h5
    have e1 := K2 d.raw 4 (by omega)
    simp only [↓wR, RA, simprocAttr, TF, ae, h2]
    rw [List.take_of_length_le (by omega)] at e1 ⊢
    rw [Ui _ _ _ (by omega) (by omega)]
    simp
noncomputable def adb (x : c7 × Unit) : Option AV := some ((r2 bn bt).E true (yx x.1))
set_option maxRecDepth 2000000 in
theorem alw (x : c7 × Unit) (r : AV) (h : adb x = some r) : bf PP 92 ((aC cd a0).E x) r := by
  cases h
  exact ba (ak.nil PP) Tryz.func92 (by kernel_rfl) (by kernel_rfl) (by kernel_rfl) (Nat.le_of_ble_eq_true (by kernel_rfl)) (r2 bn bt) true (yx x.1) (as0 x.1)
noncomputable abbrev at7 : Nat × Bool × (List AV → M AV) := (92, true, dc (aC cd a0) adb)
def o9 (z : bb) : List Name := kq ((iu z.aj z.origin 2).getD mw).data
theorem F9 {z : bb} (hz : c9 z) (n : Name) (t : UInt16) : dq ((iu z.aj n t).getD mw) := by
  cases h : iu z.aj n t with
  | none => show dq mw; decide
  | some s => exact hz.set s (y9 h).1
theorem Zr (l : List c7) : (kq l).length ≤ fu uc l := by have := ql br (kq l); have := Dr l; omega
theorem avh (z : bb) (hz : c9 z) : wl PP [Bs] 0 (Tryz.f89.body.getD .skip) (dj PP Tryz.f89.results.toList (fun r st => (r1 (cr ar)).get true st.h r = some (o9 z))) (bw 0 [bg.val false z]) (bp []) := by
  unfold Tryz.f89
  simp only [ig]
  have hs := F9 hz z.origin 2
  unfold o9
  simp only [↓wR, RA, simprocAttr, TF, ae, Qv, uu, hz.mid, hz.origin]
  obtain ⟨s, hsd⟩ : ∃ s, s = (iu z.aj z.origin 2).getD mw := ⟨_, rfl⟩
  rw [← hsd] at hs ⊢
  have hdl := hs.data.len
  refine kl [17, 18, 19, 5] (fun (x : Nat × List Name) => [.vl true 4 (s.data.map (cd.val true)), .sc (.int .i64 (s.data.length)), .sc (.int .i64 (x.1)), .sl 0 0 x.2.length 1]) (fun x => [some (.row (x.2.map (ar.val true)) 0 0 23)]) (fun x => x.1 ≤ s.data.length ∧ x.2 = kq (s.data.take x.1)) (fun x => s.data.length - x.1) (0, []) ⟨Nat.zero_le _, rfl⟩ (by simp only [↓wR, RA, simprocAttr, TF, ae]; (refine nj.lax [] (by first | exact Nat.le_of_ble_eq_true rfl | (simp [cq]; omega)) ?_ ?_ <;> repeat' first | exact i7.nil | exact dn.nil | exact je.same _ | exact je.nil _ _ _ | exact je.wm _ _ | exact dn.refl _ _ | apply i7.cons | apply dn.ghost | apply dn.same | apply dn.row)) ?_
  rintro ⟨i, x⟩ ⟨hi, hx⟩
  simp only at hi hx
  simp only [↓wR, RA, simprocAttr, TF, ae]
  rw [bj]; refine ⟨fun h => ?_, fun h => ?_⟩
  · obtain ⟨d, hd, hd1, hlt⟩ := dt (decide_eq_true h)
    have hle : (kq (s.data.take (i + 1))).length ≤ 16777216 := by
      have h1 := Zr (s.data.take (i + 1))
      have h2 := Qd uc s.data (i + 1)
      have h3 : fu uc s.data ≤ 16777216 := hs.data
      omega
    rw [G1 hd, ← hx, List.length_append] at hle
    have hlim : (x.length + d.names.length) * 24 ≤ 140737488355328 := by omega
    simp only [↓wR, RA, simprocAttr, TF, ae, h, hd, hlim]; repeat (simp (disch := omega) only [ah, ca, cb, bz, b9]; try simp only [↓wR, RA, simprocAttr, TF, ae, h, hd, hlim])
    exact ⟨(i + 1, x ++ d.names), ⟨hlt, by rw [G1 hd, ← hx]⟩, by simp; omega, by (first | rfl | trivial | omega | ((try (simp (disch := omega) only [ah])); (try (simp only [FB])); first | done | rfl | omega)), by (first | rfl | trivial | omega | ((try (simp (disch := omega) only [ah])); (try (simp only [FB])); first | done | rfl | omega))⟩
  · have hil : i = s.data.length := by omega
    subst hil
    rw [List.take_length] at hx
    subst hx
    simp only [↓wR, RA, simprocAttr, TF, ae, h]
noncomputable def G6 (x : bb × Unit) : Option AV := if c9 x.1 then some ((r1 (cr ar)).E true (o9 x.1)) else none
set_option maxRecDepth 2000000 in
theorem U7 (x : bb × Unit) (r : AV) (h : G6 x = some r) : bf PP 89 ((aC bg a0).E x) r := by
  by_cases hc : c9 x.1
  case neg => simp only [G6, if_neg hc] at h; cases h
  simp only [G6, if_pos hc] at h
  cases h
  exact ba (ak.cons (ai uh) (ak.nil PP)) Tryz.func89 (by kernel_rfl) (by kernel_rfl) (by kernel_rfl) (Nat.le_of_ble_eq_true (by kernel_rfl)) (r1 (cr ar)) true (o9 x.1) (avh x.1 hc)
noncomputable abbrev al4 : Nat × Bool × (List AV → M AV) := (89, true, dc (aC bg a0) G6)
theorem aeb (l : List Int) (a : Int) (hl : l.length ≤ 281474976710656) : wl PP [] 0 (Tryz.f58.body.getD .skip) (dj PP Tryz.f58.results.toList (fun r st => (r1 bt).get true st.h r = some (l.contains a))) (bw 0 [(cr (aw .i64)).val false l, (aw .i64).val false a]) (bp []) := by
  unfold Tryz.f58
  rw [qa]
  simp only [↓wR, RA, simprocAttr, TF, ae]
  refine bq (T := []) (ak.nil PP) mixed Tryz.func95 rfl (by kernel_rfl) (by kernel_rfl) (by kernel_rfl) (by kernel_rfl) ?_; unfold Tryz.f95
  simp only [↓wR, RA, simprocAttr, TF, ae]
  refine dh [0, 1, 7, 8] (fun (i : Nat) => [.vl false 1 (l.map ((aw .i64).val false)), .sc (.int .i64 (a)), .sc (.int .i64 (l.length)), .sc (.int .i64 (i))]) (fun _ => []) (fun i => i ≤ l.length ∧ l.contains a = (l.drop i).contains a) (fun i => l.length - i) 0 ⟨Nat.zero_le _, rfl⟩ (by simp only [↓wR, RA, simprocAttr, TF, ae] <;> rfl) (by simp only [↓wR, RA, simprocAttr, TF, ae] <;> rfl) ?_
  rintro i ⟨hi, hx⟩
  simp only [↓wR, RA, simprocAttr, TF, ae]
  rw [bj]; refine ⟨fun h => ?_, fun h => ?_⟩
  · obtain ⟨c, hc, hd1, hlt⟩ := dt (decide_eq_true h)
    rw [hd1, List.contains_cons] at hx
    simp only [↓wR, RA, simprocAttr, TF, ae, h, hc]; repeat (simp (disch := omega) only [ah, ca, cb, bz, b9]; try simp only [↓wR, RA, simprocAttr, TF, ae, h, hc])
    rw [cy]; refine ⟨fun ⟨h2, e2⟩ => ?_, fun ⟨h2, e2⟩ => ?_⟩
    · subst e2
      rw [beq_self_eq_true, Bool.true_or] at hx
      simp only [↓wR, RA, simprocAttr, TF, ae, h2]
      rw [hx]
    · rw [beq_eq_false_iff_ne.2 e2, Bool.false_or] at hx
      simp only [↓wR, RA, simprocAttr, TF, ae, h2]; repeat (simp (disch := omega) only [ah, ca, cb, bz, b9]; try simp only [↓wR, RA, simprocAttr, TF, ae, h2])
      exact ⟨i + 1, ⟨hlt, hx⟩, by omega, by (first | rfl | trivial | omega | ((try (simp (disch := omega) only [ah])); (try (simp only [FB])); first | done | rfl | omega))⟩
  · rw [dv (decide_eq_false h)] at hx
    simp only [↓wR, RA, simprocAttr, TF, ae, h]
    rw [hx] <;> rfl
noncomputable def Ik (x : List Int × Int × Unit) : Option AV := if x.1.length ≤ 281474976710656 then some ((r1 bt).E true (x.1.contains x.2.1)) else none
set_option maxRecDepth 2000000 in
theorem Br (x : List Int × Int × Unit) (r : AV) (h : Ik x = some r) : bf PP 58 ((aC (cr (aw .i64)) (aC (aw .i64) a0)).E x) r := by
  by_cases hc : x.1.length ≤ 281474976710656
  case neg => simp only [Ik, if_neg hc] at h; cases h
  simp only [Ik, if_pos hc] at h
  cases h
  exact ba (ak.nil PP) Tryz.func58 (by kernel_rfl) (by kernel_rfl) (by kernel_rfl) (Nat.le_of_ble_eq_true (by kernel_rfl)) (r1 bt) true (x.1.contains x.2.1) (aeb x.1 x.2.1 hc)
noncomputable abbrev abg : Nat × Bool × (List AV → M AV) := (58, true, dc (aC (cr (aw .i64)) (aC (aw .i64) a0)) Ik)
theorem abl (l : List UInt32) (a : UInt32) (hl : l.length ≤ 281474976710656) : wl PP [] 0 (Tryz.f93.body.getD .skip) (dj PP Tryz.f93.results.toList (fun r st => (r1 bt).get true st.h r = some (l.contains a))) (bw 0 [(cr bn).val false l, bn.val false a]) (bp []) := by
  unfold Tryz.f93
  rw [qa]
  simp only [↓wR, RA, simprocAttr, TF, ae]
  refine bq (T := []) (ak.nil PP) mixed Tryz.func134 rfl (by kernel_rfl) (by kernel_rfl) (by kernel_rfl) (by kernel_rfl) ?_; unfold Tryz.f134
  simp only [↓wR, RA, simprocAttr, TF, ae]
  refine dh [0, 1, 7, 8] (fun (i : Nat) => [.vl false 1 (l.map (bn.val false)), .sc (.int .u32 a.toNat), .sc (.int .i64 (l.length)), .sc (.int .i64 (i))]) (fun _ => []) (fun i => i ≤ l.length ∧ l.contains a = (l.drop i).contains a) (fun i => l.length - i) 0 ⟨Nat.zero_le _, rfl⟩ (by simp only [↓wR, RA, simprocAttr, TF, ae] <;> rfl) (by simp only [↓wR, RA, simprocAttr, TF, ae] <;> rfl) ?_
  rintro i ⟨hi, hx⟩
  simp only [↓wR, RA, simprocAttr, TF, ae]
  rw [bj]; refine ⟨fun h => ?_, fun h => ?_⟩
  · obtain ⟨c, hc, hd1, hlt⟩ := dt (decide_eq_true h)
    rw [hd1, List.contains_cons] at hx
    simp only [↓wR, RA, simprocAttr, TF, ae, h, hc]; repeat (simp (disch := omega) only [ah, ca, cb, bz, b9]; try simp only [↓wR, RA, simprocAttr, TF, ae, h, hc])
    rw [cy]; refine ⟨fun ⟨h2, e2⟩ => ?_, fun ⟨h2, e2⟩ => ?_⟩
    · have e3 : a = c := UInt32.toNat_inj.1 (by omega)
      subst e3
      rw [beq_self_eq_true, Bool.true_or] at hx
      simp only [↓wR, RA, simprocAttr, TF, ae, h2]
      rw [hx]
    · have e3 : ¬ a = c := fun q => e2 (by rw [q])
      rw [beq_eq_false_iff_ne.2 e3, Bool.false_or] at hx
      simp only [↓wR, RA, simprocAttr, TF, ae, h2]; repeat (simp (disch := omega) only [ah, ca, cb, bz, b9]; try simp only [↓wR, RA, simprocAttr, TF, ae, h2])
      exact ⟨i + 1, ⟨hlt, hx⟩, by omega, by (first | rfl | trivial | omega | ((try (simp (disch := omega) only [ah])); (try (simp only [FB])); first | done | rfl | omega))⟩
  · rw [dv (decide_eq_false h)] at hx
    simp only [↓wR, RA, simprocAttr, TF, ae, h]
    rw [hx] <;> rfl
noncomputable def Sp (x : List UInt32 × UInt32 × Unit) : Option AV := if x.1.length ≤ 281474976710656 then some ((r1 bt).E true (x.1.contains x.2.1)) else none
set_option maxRecDepth 2000000 in
theorem aos (x : List UInt32 × UInt32 × Unit) (r : AV) (h : Sp x = some r) : bf PP 93 ((aC (cr bn) (aC bn a0)).E x) r := by
  by_cases hc : x.1.length ≤ 281474976710656
  case neg => simp only [Sp, if_neg hc] at h; cases h
  simp only [Sp, if_pos hc] at h
  cases h
  exact ba (ak.nil PP) Tryz.func93 (by kernel_rfl) (by kernel_rfl) (by kernel_rfl) (Nat.le_of_ble_eq_true (by kernel_rfl)) (r1 bt) true (x.1.contains x.2.1) (abl x.1 x.2.1 hc)
noncomputable abbrev awj : Nat × Bool × (List AV → M AV) := (93, true, dc (aC (cr bn) (aC bn a0)) Sp)
def zq (acc : List UInt32) (d : c7) : List UInt32 := if ((yx d).2 && !acc.contains (yx d).1) = true then acc ++ [(yx d).1] else acc
def Ia (w : bd) (acc : List UInt32) (n : Name) : List UInt32 := ((lg w n 1).getD mw).data.foldl zq acc
def mu (w : bd) (z : bb) : List UInt32 := (o9 z).foldl (Ia w) []
theorem ah0 {α β : Type} {l : List α} {i : Nat} {c : α} (f : β → α → β) (b : β) (h : l.drop i = c :: l.drop (i + 1)) : (l.drop i).foldl f b = (l.drop (i + 1)).foldl f (f b c) := by rw [h]; rfl
theorem Iw {z : bb} (hz : x9 z ≤ 5242880) : (o9 z).length ≤ 5242880 ∧ ∀ n ∈ o9 z, be n := by
  have hs : nb ((iu z.aj z.origin 2).getD mw) ≤ 5242880 := by
    cases h : iu z.aj z.origin 2 with
    | none => show nb mw ≤ 5242880; decide
    | some s =>
      have h1 : nb s < fu nb z.aj := r9 (y9 h).1
      unfold x9 at hz
      show nb s ≤ 5242880; omega
  have h1 := ql br (o9 z)
  have h2 : fu br (o9 z) ≤ fu uc _ := Dr ((iu z.aj z.origin 2).getD mw).data
  unfold nb at hs
  refine ⟨by omega, fun n hn => ?_⟩
  have h3 : br n < fu br (o9 z) := r9 hn
  unfold be; omega
theorem Il {w : bd} (hw : da w) (n : Name) (t : UInt16) : nb ((lg w n t).getD mw) ≤ 5242880 := by
  have h0 : nb mw ≤ 5242880 := by decide
  cases hz : o8 w (rh w n) with
  | none => unfold lg; rw [hz]; exact h0
  | some z =>
    have hv : lg w n t = iu z.aj n t := by unfold lg; rw [hz]
    rw [hv]
    cases h : iu z.aj n t with
    | none => exact h0
    | some s =>
      have hm : z ∈ w.ay := by
        unfold o8 at hz
        split at hz
        · exact List.mem_of_getElem? hz
        · cases hz
      have h1 : nb s < fu nb z.aj := r9 (y9 h).1
      have h2 := hw.wt z hm
      unfold x9 at h2
      show nb s ≤ 5242880; omega
end Go.Proofs.YtidomogemfchpaaGreat
end
section
set_option linter.unusedSimpArgs false
set_option linter.unusedVariables false
namespace Go.Proofs.YtidomogemfchpaaGreat
open Go.Vm
set_option maxRecDepth 2000000
set_option maxHeartbeats 4000000 in
theorem aka (w : bd) (k : Nat) (z : bb) (hw : da w) (hz : w.ay[k]? = some z) : wl PP [al4, Tf, at7, awj] 0 (Tryz.f55.body.getD .skip) (dj PP Tryz.f55.results.toList (fun r st => (r1 (cr bn)).get true st.h r = some (mu w z))) (bw 0 [ct.val false w, (aw .i64).val false k]) (bp []) := by
  have hm := List.mem_of_getElem? hz
  have hzs := hw.zone z hm
  obtain ⟨hal, han⟩ := Iw (hw.wt z hm)
  have hq : ∀ a b c d, gk a b c = d → gk a b c = d := fun _ _ _ _ h => h
  unfold Tryz.f55
  simp only [ek]
  simp only [↓wR, RA, simprocAttr, TF, ae, hz, G6, hzs]
  unfold mu
  obtain ⟨ns, hns⟩ : ∃ ns, ns = o9 z := ⟨_, rfl⟩
  rw [← hns] at hal han ⊢
  refine kl [2, 19, 20, 21, 5] (fun (x : Nat × List UInt32) => [.ptr 0 0, .vl true 1 (ns.map (ar.val true)), .sc (.int .i64 (ns.length)), .sc (.int .i64 (x.1)), .sl 1 0 x.2.length 1]) (fun x => [some (.row [.vl false 2 (w.ay.map (bg.val false)), .vl false 2 (w.dk.map (dy.val false)), .vl false 1 (w.hints.map (bn.val false))] 0 2 50), some (.row ((x.2).map (bn.val false)) 0 0 37)]) (fun x => (x.1 ≤ ns.length ∧ ns.foldl (Ia w) [] = (ns.drop x.1).foldl (Ia w) x.2) ∧ (x.2.length : Int) ≤ (x.1 : Int) * 5242880) (fun x => ns.length - x.1) (0, []) ⟨⟨Nat.zero_le _, rfl⟩, by simp only [List.length_nil]; omega⟩ (by simp only [↓wR, RA, simprocAttr, TF, ae]; (refine nj.lax [] (by first | exact Nat.le_of_ble_eq_true rfl | (simp [cq]; omega)) ?_ ?_ <;> repeat' first | exact i7.nil | exact dn.nil | exact je.same _ | exact je.nil _ _ _ | exact je.wm _ _ | exact dn.refl _ _ | apply i7.cons | apply dn.ghost | apply dn.same | apply dn.row)) ?_
  rintro ⟨i, x⟩ ⟨⟨hi, hx⟩, hb⟩
  simp only at hi hx hb
  simp only [↓wR, RA, simprocAttr, TF, ae]
  rw [bj]; refine ⟨fun h => ?_, fun h => ?_⟩
  · obtain ⟨n, hn, hd1, hlt⟩ := dt (decide_eq_true h)
    rw [ah0 _ _ hd1] at hx
    have hnn := han n (List.mem_of_getElem? hn)
    have hts := Il hw n 1
    simp only [↓wR, RA, simprocAttr, TF, ae, h, hn, Qv, Bn, hw, hnn]
    obtain ⟨s, hs⟩ : ∃ s, s = (lg w n 1).getD mw := ⟨_, rfl⟩
    have hsrv : Ia w x n = s.data.foldl zq x := by unfold Ia; rw [← hs]
    rw [← hs] at hts ⊢
    rw [hsrv] at hx
    have hsl : s.data.length ≤ 5242880 := by have := ql uc s.data; unfold nb at hts; omega
    refine kl [2, 19, 20, 21, 32, 33, 34, 5] (fun (y : Nat × List UInt32) => [.ptr 0 0, .vl true 1 (ns.map (ar.val true)), .sc (.int .i64 (ns.length)), .sc (.int .i64 (i)), .vl true 4 (s.data.map (cd.val true)), .sc (.int .i64 (s.data.length)), .sc (.int .i64 (y.1)), .sl 1 0 y.2.length 1]) (fun y => [some (.row [.vl false 2 (w.ay.map (bg.val false)), .vl false 2 (w.dk.map (dy.val false)), .vl false 1 (w.hints.map (bn.val false))] 0 2 50), some (.row ((y.2).map (bn.val false)) 0 0 37)]) (fun y => (y.1 ≤ s.data.length ∧ s.data.foldl zq x = (s.data.drop y.1).foldl zq y.2) ∧ (y.2.length : Int) ≤ (i : Int) * 5242880 + (y.1 : Int)) (fun y => s.data.length - y.1) (0, x) ⟨⟨Nat.zero_le _, rfl⟩, by simp only; omega⟩ (by simp only [↓wR, RA, simprocAttr, TF, ae]; (refine nj.lax [] (by first | exact Nat.le_of_ble_eq_true rfl | (simp [cq]; omega)) ?_ ?_ <;> repeat' first | exact i7.nil | exact dn.nil | exact je.same _ | exact je.nil _ _ _ | exact je.wm _ _ | exact dn.refl _ _ | apply i7.cons | apply dn.ghost | apply dn.same | apply dn.row)) ?_
    rintro ⟨k, y⟩ ⟨⟨hk, hy⟩, hyb⟩
    simp only at hk hy hyb
    simp only [↓wR, RA, simprocAttr, TF, ae]
    rw [bj]; refine ⟨fun h2 => ?_, fun h2 => ?_⟩
    · obtain ⟨d, hd, hd2, hlt2⟩ := dt (decide_eq_true h2)
      rw [ah0 _ _ hd2] at hy
      have hyl : y.length ≤ 281474976710656 := by omega
      simp only [↓wR, RA, simprocAttr, TF, ae, h2, hd, adb]
      rw [bk]; refine ⟨fun h3 => ?_, fun h3 => ?_⟩
      · simp only [↓wR, RA, simprocAttr, TF, ae, h3, Sp, hyl]
        rw [bk]; refine ⟨fun h4 => ?_, fun h4 => ?_⟩
        · have h4' : y.contains (yx d).1 = false := by simpa only [Bool.not_eq_true'] using h4
          have hlim : (y.length + 1) * 4 ≤ 140737488355328 := by omega
          rw [show zq y d = y ++ [(yx d).1] from by unfold zq; rw [h3, h4']; rfl] at hy
          simp only [↓wR, RA, simprocAttr, TF, ae, h4, hlim]; repeat (simp (disch := omega) only [ah, ca, cb, bz, b9]; try simp only [↓wR, RA, simprocAttr, TF, ae, h4, hlim])
          exact ⟨(k + 1, y ++ [(yx d).1]), ⟨⟨hlt2, hy⟩, by simp only [List.length_append, List.length_singleton]; omega⟩, by simp; omega, by (first | rfl | trivial | omega | ((try (simp (disch := omega) only [ah])); (try (simp only [FB])); first | done | rfl | omega)), by (first | rfl | trivial | omega | ((try (simp (disch := omega) only [ah])); (try (simp only [FB])); first | done | rfl | omega))⟩
        · have h4' : y.contains (yx d).1 = true := by simpa only [Bool.not_eq_false'] using h4
          rw [show zq y d = y from by unfold zq; rw [h3, h4']; rfl] at hy
          simp only [↓wR, RA, simprocAttr, TF, ae, h4]; repeat (simp (disch := omega) only [ah, ca, cb, bz, b9]; try simp only [↓wR, RA, simprocAttr, TF, ae, h4])
          exact ⟨(k + 1, y), ⟨⟨hlt2, hy⟩, by simp only; omega⟩, by simp; omega, by (first | rfl | trivial | omega | ((try (simp (disch := omega) only [ah])); (try (simp only [FB])); first | done | rfl | omega)), by (first | rfl | trivial | omega | ((try (simp (disch := omega) only [ah])); (try (simp only [FB])); first | done | rfl | omega))⟩
      · rw [show zq y d = y from by unfold zq; rw [h3]; rfl] at hy
        simp only [↓wR, RA, simprocAttr, TF, ae, h3]; repeat (simp (disch := omega) only [ah, ca, cb, bz, b9]; try simp only [↓wR, RA, simprocAttr, TF, ae, h3])
        exact ⟨(k + 1, y), ⟨⟨hlt2, hy⟩, by simp only; omega⟩, by simp; omega, by (first | rfl | trivial | omega | ((try (simp (disch := omega) only [ah])); (try (simp only [FB])); first | done | rfl | omega)), by (first | rfl | trivial | omega | ((try (simp (disch := omega) only [ah])); (try (simp only [FB])); first | done | rfl | omega))⟩
    · rw [dv (decide_eq_false h2), List.foldl_nil] at hy
      rw [hy] at hx
      have hkl : k = s.data.length := by omega
      simp only [↓wR, RA, simprocAttr, TF, ae, h2]; repeat (simp (disch := omega) only [ah, ca, cb, bz, b9]; try simp only [↓wR, RA, simprocAttr, TF, ae, h2])
      exact ⟨(i + 1, y), ⟨⟨hlt, hx⟩, by simp only; omega⟩, by simp; omega, by (first | rfl | trivial | omega | ((try (simp (disch := omega) only [ah])); (try (simp only [FB])); first | done | rfl | omega)), by (first | rfl | trivial | omega | ((try (simp (disch := omega) only [ah])); (try (simp only [FB])); first | done | rfl | omega))⟩
  · rw [dv (decide_eq_false h), List.foldl_nil] at hx
    subst hx
    simp only [↓wR, RA, simprocAttr, TF, ae, h]
def xo (w : bd) (i : Int) : List UInt32 := match o8 w i with | none => [] | some z => mu w z
theorem agi (w : bd) (i : Int) (hw : da w) (hi : (o8 w i).isSome = true) : wl PP [al4, Tf, at7, awj] 0 (Tryz.f55.body.getD .skip) (dj PP Tryz.f55.results.toList (fun r st => (r1 (cr bn)).get true st.h r = some (xo w i))) (bw 0 [ct.val false w, (aw .i64).val false i]) (bp []) := by
  have h1 : ¬ i < 0 := fun h => by rw [H5 h] at hi; cases hi
  have h2 : ¬ i ≥ (w.ay.length : Int) := fun h => by rw [Tc h] at hi; cases hi
  obtain ⟨k, z, rfl, hz⟩ := Yp h1 h2
  have hv : xo w (k : Int) = mu w z := by unfold xo; rw [pa, hz]
  rw [hv]
  exact aka w k z hw hz
noncomputable def T8 (x : bd × Int × Unit) : Option AV := if da x.1 ∧ (o8 x.1 x.2.1).isSome = true then some ((r1 (cr bn)).E true (xo x.1 x.2.1)) else none
set_option maxRecDepth 2000000 in
theorem apj (x : bd × Int × Unit) (r : AV) (h : T8 x = some r) : bf PP 55 ((aC ct (aC (aw .i64) a0)).E x) r := by
  by_cases hc : da x.1 ∧ (o8 x.1 x.2.1).isSome = true
  case neg => simp only [T8, if_neg hc] at h; cases h
  simp only [T8, if_pos hc] at h
  cases h
  exact ba (ak.cons (ai U7) (ak.cons (ai Cr) (ak.cons (ai alw) (ak.cons (ai aos) (ak.nil PP))))) Tryz.func55 (by kernel_rfl) (by kernel_rfl) (by kernel_rfl) (Nat.le_of_ble_eq_true (by kernel_rfl)) (r1 (cr bn)) true (xo x.1 x.2.1) (agi x.1 x.2.1 hc.1 hc.2)
noncomputable abbrev azu : Nat × Bool × (List AV → M AV) := (55, true, dc (aC ct (aC (aw .i64) a0)) T8)
def oo (w : bd) (a : UInt32) (i : Int) : Bool := w.dk.any fun h => decide ((h.addr.toNat : Int) = a.toNat) && h.ay.contains i
theorem aqp (w : bd) (a : UInt32) (i : Int) (hw : da w) : wl PP [abg] 0 (Tryz.f22.body.getD .skip) (dj PP Tryz.f22.results.toList (fun r st => (r1 bt).get true st.h r = some (oo w a i))) (bw 0 [ct.val false w, bn.val false a, (aw .i64).val false i]) (bp []) := by
  have hl := hw.hlen
  unfold Tryz.f22
  simp only [ek]
  simp only [↓wR, RA, simprocAttr, TF, ae]
  refine bq (T := []) (ak.nil PP) mixed Tryz.func56 rfl (by kernel_rfl) (by kernel_rfl) (by kernel_rfl) (by kernel_rfl) ?_; unfold Tryz.f56
  simp only [↓wR, RA, simprocAttr, TF, ae]
  refine bq (T := []) (ak.nil PP) mixed Tryz.func94 rfl (by kernel_rfl) (by kernel_rfl) (by kernel_rfl) (by kernel_rfl) ?_; unfold Tryz.f94
  simp only [↓wR, RA, simprocAttr, TF, ae]
  refine dh [0, 1, 7, 8] (fun (k : Nat) => [.vl false 2 (w.dk.map (dy.val false)), .fn (.func 57) [] [.ptr 1 0, .ptr 2 0], .sc (.int .i64 (w.dk.length)), .sc (.int .i64 (k))]) (fun _ => [some (.row [.vl false 2 (w.ay.map (bg.val false)), .vl false 2 (w.dk.map (dy.val false)), .vl false 1 (w.hints.map (bn.val false))] 0 2 50), some (.row [.sc (.int .u32 a.toNat)] 0 2 37), some (.row [.sc (.int .i64 i)] 0 2 3)]) (fun k => k ≤ w.dk.length ∧ oo w a i = ((w.dk.drop k).any fun h => decide ((h.addr.toNat : Int) = a.toNat) && h.ay.contains i)) (fun k => w.dk.length - k) 0 ⟨Nat.zero_le _, rfl⟩ (by simp only [↓wR, RA, simprocAttr, TF, ae] <;> rfl) (by simp only [↓wR, RA, simprocAttr, TF, ae] <;> rfl) ?_
  rintro k ⟨hk, hx⟩
  simp only [↓wR, RA, simprocAttr, TF, ae]
  rw [bj]; refine ⟨fun h3 => ?_, fun h3 => ?_⟩
  · obtain ⟨c, hc, hd1, hlt⟩ := dt (decide_eq_true h3)
    rw [hd1, List.any_cons] at hx
    have hcz : c.ay.length ≤ 281474976710656 := by have := hw.host c (List.mem_of_getElem? hc); omega
    simp only [↓wR, RA, simprocAttr, TF, ae, h3, hc]; repeat (simp (disch := omega) only [ah, ca, cb, bz, b9]; try simp only [↓wR, RA, simprocAttr, TF, ae, h3, hc])
    refine bq (T := [abg]) (ak.cons (ai Br) (ak.nil PP)) mixed Tryz.func57 rfl (by kernel_rfl) (by kernel_rfl) (by kernel_rfl) (by kernel_rfl) ?_; unfold Tryz.f57
    simp only [↓wR, RA, simprocAttr, TF, ae]
    rw [cy]; refine ⟨fun ⟨h4, e4⟩ => ?_, fun ⟨h4, e4⟩ => ?_⟩
    · rw [decide_eq_true e4, Bool.true_and] at hx
      simp only [↓wR, RA, simprocAttr, TF, ae, h4, Ik, hcz]
      rw [bk]; refine ⟨fun h5 => ?_, fun h5 => ?_⟩
      · rw [h5, Bool.true_or] at hx
        simp only [↓wR, RA, simprocAttr, TF, ae, h5]
        rw [hx]
      · rw [h5, Bool.false_or] at hx
        simp only [↓wR, RA, simprocAttr, TF, ae, h5]; repeat (simp (disch := omega) only [ah, ca, cb, bz, b9]; try simp only [↓wR, RA, simprocAttr, TF, ae, h5])
        exact ⟨k + 1, ⟨hlt, hx⟩, by omega, by (first | rfl | trivial | omega | ((try (simp (disch := omega) only [ah])); (try (simp only [FB])); first | done | rfl | omega))⟩
    · rw [decide_eq_false e4, Bool.false_and, Bool.false_or] at hx
      simp only [↓wR, RA, simprocAttr, TF, ae, h4]; repeat (simp (disch := omega) only [ah, ca, cb, bz, b9]; try simp only [↓wR, RA, simprocAttr, TF, ae, h4])
      exact ⟨k + 1, ⟨hlt, hx⟩, by omega, by (first | rfl | trivial | omega | ((try (simp (disch := omega) only [ah])); (try (simp only [FB])); first | done | rfl | omega))⟩
  · rw [dv (decide_eq_false h3), List.any_nil] at hx
    simp only [↓wR, RA, simprocAttr, TF, ae, h3]
    rw [hx] <;> rfl
noncomputable def Ak (x : bd × UInt32 × Int × Unit) : Option AV := if da x.1 then some ((r1 bt).E true (oo x.1 x.2.1 x.2.2.1)) else none
set_option maxRecDepth 2000000 in
theorem Lc (x : bd × UInt32 × Int × Unit) (r : AV) (h : Ak x = some r) : bf PP 22 ((aC ct (aC bn (aC (aw .i64) a0))).E x) r := by
  by_cases hc : da x.1
  case neg => simp only [Ak, if_neg hc] at h; cases h
  simp only [Ak, if_pos hc] at h
  cases h
  exact ba (ak.cons (ai Br) (ak.nil PP)) Tryz.func22 (by kernel_rfl) (by kernel_rfl) (by kernel_rfl) (Nat.le_of_ble_eq_true (by kernel_rfl)) (r1 bt) true (oo x.1 x.2.1 x.2.2.1) (aqp x.1 x.2.1 x.2.2.1 hc)
noncomputable abbrev aiq : Nat × Bool × (List AV → M AV) := (22, true, dc (aC ct (aC bn (aC (aw .i64) a0))) Ak)
end Go.Proofs.YtidomogemfchpaaGreat
end
section
set_option linter.unusedSimpArgs false
set_option linter.unusedVariables false
namespace Go.Proofs.YtidomogemfchpaaGreat
open Go.Vm
set_option maxRecDepth 2000000
def Fm (w : bd) : Int := if (w.ay.length : Int) > 32 ∨ (w.dk.length : Int) > 64 then 3 else 0
theorem aun (w : bd) : wl PP [] 0 (Tryz.f40.body.getD .skip) (dj PP Tryz.f40.results.toList (fun r st => (r1 (aw .i64)).get true st.h r = some (Fm w))) (bw 0 [ct.val false w]) (bp []) := by
  unfold Tryz.f40
  simp only [ek]
  unfold Fm
  simp only [↓wR, RA, simprocAttr, TF, ae]
  rw [bj]; refine ⟨fun h => ?_, fun h => ?_⟩
  · rw [if_pos (.inl h)]
    simp only [↓wR, RA, simprocAttr, TF, ae, h]
  by_cases h2 : (w.dk.length : Int) > 64
  · rw [if_pos (.inr h2)]
    simp only [↓wR, RA, simprocAttr, TF, ae, h, h2]
  · rw [if_neg (fun q => q.elim h h2)]
    simp only [↓wR, RA, simprocAttr, TF, ae, h, h2]
noncomputable def aec (x : bd × Unit) : Option AV := some ((r1 (aw .i64)).E true (Fm x.1))
set_option maxRecDepth 2000000 in
theorem aj9 (x : bd × Unit) (r : AV) (h : aec x = some r) : bf PP 40 ((aC ct a0).E x) r := by
  cases h
  exact ba (ak.nil PP) Tryz.func40 (by kernel_rfl) (by kernel_rfl) (by kernel_rfl) (Nat.le_of_ble_eq_true (by kernel_rfl)) (r1 (aw .i64)) true (Fm x.1) (aun x.1)
noncomputable abbrev ayb : Nat × Bool × (List AV → M AV) := (40, true, dc (aC ct a0) aec)
def vd (l : List bb) (n : Name) : Bool := l.any fun x => ee x.origin n
def Cv : List bb → Bool → List bb → Int
  | _, b, [] => if b = true then 0 else 300
  | pre, b, z :: r => if vd pre z.origin = true then 300 else Cv (pre ++ [z]) (b || decide ((z.origin.length : Int) = 0)) r
def Cj (w : bd) : Int := Cv [] false w.ay
theorem ara {l : List bb} {i : Nat} {c : bb} (b : Bool) (hc : l[i]? = some c) : Cv (l.take i) b (l.drop i) = if vd (l.take i) c.origin = true then 300 else Cv (l.take (i + 1)) (b || decide ((c.origin.length : Int) = 0)) (l.drop (i + 1)) := by
  obtain ⟨hi, rfl⟩ := List.getElem?_eq_some_iff.1 hc
  rw [List.drop_eq_getElem_cons hi, Cv, List.take_succ_eq_append_getElem hi]
theorem Pw {l : List bb} {i : Nat} {c : bb} (n : Name) (h : l.drop i = c :: l.drop (i + 1)) : vd (l.drop i) n = (ee c.origin n || vd (l.drop (i + 1)) n) := by rw [h]; rfl
theorem aso (l : List bb) (n : Name) (ss : List bo) (hl : l.length ≤ 16777216) (hz : ∀ z ∈ l, be z.origin) (hn : be n) : qg PP 80 [.vl false 2 (l.map (bg.val false)), .fn (.func 81) [] [.ptr 0 0]] (bp [some (.row [.vl false 1 (n.map (an.val false)), .vl false 5 (ss.map (aq.val false))] 0 2 26)]) (fun r st' => r = .sc (.bool (vd l n)) ∧ st' = bp [some (.row [.vl false 1 (n.map (an.val false)), .vl false 5 (ss.map (aq.val false))] 0 2 26)]) := by
  refine dw _ rfl ?_ (fun r st' h => h)
  refine bq (T := []) (ak.nil PP) mixed Tryz.func80 rfl (by kernel_rfl) (by kernel_rfl) (by kernel_rfl) (by kernel_rfl) ?_; unfold Tryz.f80
  simp only [↓wR, RA, simprocAttr, TF, ae]
  refine bq (T := []) (ak.nil PP) mixed Tryz.func119 rfl (by kernel_rfl) (by kernel_rfl) (by kernel_rfl) (by kernel_rfl) ?_; unfold Tryz.f119
  simp only [↓wR, RA, simprocAttr, TF, ae]
  refine dh [0, 1, 7, 8] (fun (k : Nat) => [.vl false 2 (l.map (bg.val false)), .fn (.func 81) [] [.ptr 0 0], .sc (.int .i64 (l.length)), .sc (.int .i64 (k))]) (fun _ => [some (.row [.vl false 1 (n.map (an.val false)), .vl false 5 (ss.map (aq.val false))] 0 2 26)]) (fun k => k ≤ l.length ∧ vd l n = vd (l.drop k) n) (fun k => l.length - k) 0 ⟨Nat.zero_le _, rfl⟩ (by simp only [↓wR, RA, simprocAttr, TF, ae] <;> rfl) (by simp only [↓wR, RA, simprocAttr, TF, ae] <;> rfl) ?_
  rintro k ⟨hk, hx⟩
  simp only [↓wR, RA, simprocAttr, TF, ae]
  rw [bj]; refine ⟨fun h3 => ?_, fun h3 => ?_⟩
  · obtain ⟨q, hq, hd2, hlt2⟩ := dt (decide_eq_true h3)
    rw [Pw n hd2] at hx
    have hqo := hz q (List.mem_of_getElem? hq)
    simp only [↓wR, RA, simprocAttr, TF, ae, h3, hq]; repeat (simp (disch := omega) only [ah, ca, cb, bz, b9]; try simp only [↓wR, RA, simprocAttr, TF, ae, h3, hq])
    refine bq (T := [dr]) (ak.cons (ai fv) (ak.nil PP)) mixed Tryz.func81 rfl (by kernel_rfl) (by kernel_rfl) (by kernel_rfl) (by kernel_rfl) ?_; unfold Tryz.f81
    simp only [↓wR, RA, simprocAttr, TF, ae, ia, hqo, hn]
    rw [bk]; refine ⟨fun h5 => ?_, fun h5 => ?_⟩
    · rw [h5, Bool.true_or] at hx
      simp only [↓wR, RA, simprocAttr, TF, ae, h5, g8, gx, gq, hx]
    · rw [h5, Bool.false_or] at hx
      simp only [↓wR, RA, simprocAttr, TF, ae, h5]; repeat (simp (disch := omega) only [ah, ca, cb, bz, b9]; try simp only [↓wR, RA, simprocAttr, TF, ae, h5])
      exact ⟨k + 1, ⟨hlt2, hx⟩, by omega, by (first | rfl | trivial | omega | ((try (simp (disch := omega) only [ah])); (try (simp only [FB])); first | done | rfl | omega))⟩
  · rw [dv (decide_eq_false h3)] at hx
    have hx' : vd l n = false := hx
    simp only [↓wR, RA, simprocAttr, TF, ae, h3, g8, gx, gq, hx']
theorem alz (l : List bb) (n : Name) (hl : l.length ≤ 16777216) (hz : ∀ z ∈ l, be z.origin) (hn : be n) : qg PP 80 [.vl false 2 (l.map (bg.val false)), .fn (.func 85) [] [.ptr 0 0]] (bp [some (.row [ar.val true n] 0 2 23)]) (fun r st' => r = .sc (.bool (vd l n)) ∧ st' = bp [some (.row [ar.val true n] 0 2 23)]) := by
  refine dw _ rfl ?_ (fun r st' h => h)
  refine bq (T := []) (ak.nil PP) mixed Tryz.func80 rfl (by kernel_rfl) (by kernel_rfl) (by kernel_rfl) (by kernel_rfl) ?_; unfold Tryz.f80
  simp only [↓wR, RA, simprocAttr, TF, ae]
  refine bq (T := []) (ak.nil PP) mixed Tryz.func119 rfl (by kernel_rfl) (by kernel_rfl) (by kernel_rfl) (by kernel_rfl) ?_; unfold Tryz.f119
  simp only [↓wR, RA, simprocAttr, TF, ae]
  refine dh [0, 1, 7, 8] (fun (k : Nat) => [.vl false 2 (l.map (bg.val false)), .fn (.func 85) [] [.ptr 0 0], .sc (.int .i64 (l.length)), .sc (.int .i64 (k))]) (fun _ => [some (.row [ar.val true n] 0 2 23)]) (fun k => k ≤ l.length ∧ vd l n = vd (l.drop k) n) (fun k => l.length - k) 0 ⟨Nat.zero_le _, rfl⟩ (by simp only [↓wR, RA, simprocAttr, TF, ae] <;> rfl) (by simp only [↓wR, RA, simprocAttr, TF, ae] <;> rfl) ?_
  rintro k ⟨hk, hx⟩
  simp only [↓wR, RA, simprocAttr, TF, ae]
  rw [bj]; refine ⟨fun h3 => ?_, fun h3 => ?_⟩
  · obtain ⟨q, hq, hd2, hlt2⟩ := dt (decide_eq_true h3)
    rw [Pw n hd2] at hx
    have hqo := hz q (List.mem_of_getElem? hq)
    simp only [↓wR, RA, simprocAttr, TF, ae, h3, hq]; repeat (simp (disch := omega) only [ah, ca, cb, bz, b9]; try simp only [↓wR, RA, simprocAttr, TF, ae, h3, hq])
    refine bq (T := [dr]) (ak.cons (ai fv) (ak.nil PP)) mixed Tryz.func85 rfl (by kernel_rfl) (by kernel_rfl) (by kernel_rfl) (by kernel_rfl) ?_; unfold Tryz.f85
    simp only [↓wR, RA, simprocAttr, TF, ae, ia, hqo, hn]
    rw [bk]; refine ⟨fun h5 => ?_, fun h5 => ?_⟩
    · rw [h5, Bool.true_or] at hx
      simp only [↓wR, RA, simprocAttr, TF, ae, h5, g8, gx, gq, hx]
    · rw [h5, Bool.false_or] at hx
      simp only [↓wR, RA, simprocAttr, TF, ae, h5]; repeat (simp (disch := omega) only [ah, ca, cb, bz, b9]; try simp only [↓wR, RA, simprocAttr, TF, ae, h5])
      exact ⟨k + 1, ⟨hlt2, hx⟩, by omega, by (first | rfl | trivial | omega | ((try (simp (disch := omega) only [ah])); (try (simp only [FB])); first | done | rfl | omega))⟩
  · rw [dv (decide_eq_false h3)] at hx
    have hx' : vd l n = false := hx
    simp only [↓wR, RA, simprocAttr, TF, ae, h3, g8, gx, gq, hx']
set_option maxHeartbeats 4000000 in
theorem auk (w : bd) (hw : da w) : wl PP [dr] 0 (Tryz.f41.body.getD .skip) (dj PP Tryz.f41.results.toList (fun r st => (r1 (aw .i64)).get true st.h r = some (Cj w))) (bw 0 [ct.val false w]) (bp []) := by
  have hl := hw.Ee
  unfold Tryz.f41
  simp only [ek]
  simp only [↓wR, RA, simprocAttr, TF, ae]
  refine dh [1, 3, 8, 9, 10] (fun (x : Nat × Bool) => [.ptr 0 0, .sc (.bool x.2), .vl false 2 (w.ay.map (bg.val false)), .sc (.int .i64 (w.ay.length)), .sc (.int .i64 (x.1))]) (fun _ => [some (.row [.vl false 2 (w.ay.map (bg.val false)), .vl false 2 (w.dk.map (dy.val false)), .vl false 1 (w.hints.map (bn.val false))] 0 2 100)]) (fun x => x.1 ≤ w.ay.length ∧ Cj w = Cv (w.ay.take x.1) x.2 (w.ay.drop x.1)) (fun x => w.ay.length - x.1) (0, false) ⟨Nat.zero_le _, rfl⟩ (by simp only [↓wR, RA, simprocAttr, TF, ae] <;> rfl) (by simp only [↓wR, RA, simprocAttr, TF, ae] <;> rfl) ?_
  rintro ⟨i, b⟩ ⟨hi, hx⟩
  simp only at hi hx
  simp only [↓wR, RA, simprocAttr, TF, ae]
  rw [bj]; refine ⟨fun h => ?_, fun h => ?_⟩
  · obtain ⟨c, hc, hd1, hlt⟩ := dt (decide_eq_true h)
    rw [ara b hc] at hx
    have hcs := (hw.zone c (List.mem_of_getElem? hc)).origin
    obtain ⟨b', hb'⟩ : ∃ b', b' = (b || decide ((c.origin.length : Int) = 0)) := ⟨_, rfl⟩
    rw [← hb'] at hx
    have hdec : ((c.origin.length : Int) == 0) = decide ((c.origin.length : Int) = 0) := by rw [Bool.eq_iff_iff]; simp
    have hwt : ∀ z ∈ w.ay.take i, be z.origin := fun z hz => (hw.zone z (List.mem_of_mem_take hz)).origin
    simp only [↓wR, RA, simprocAttr, TF, ae, h, hc]
    have htl : (w.ay.take i).length ≤ 16777216 := by rw [List.length_take]; omega
    cases b <;> simp only [↓wR, RA, simprocAttr, TF, ae, hi, hdec]
    all_goals
      refine Sk [1] (aso (w.ay.take i) c.origin c.aj htl hwt hcs) (by decide) (by simp only [↓wR, RA, simprocAttr, TF, ae]) (by simp only [↓wR, RA, simprocAttr, TF, ae]) (Nat.le_of_ble_eq_true rfl) (by simp only [↓wR, RA, simprocAttr, TF, ae]) (by simp only [↓wR, RA, simprocAttr, TF, ae]) ⟨Nat.le_of_ble_eq_true rfl, Nat.le_of_ble_eq_true rfl⟩ ?_
      simp only [↓wR, RA, simprocAttr, TF, ae, gm, ue, Bv, sq, Km]
      rw [bk]; refine ⟨fun h2 => ?_, fun h2 => ?_⟩
      · rw [if_pos h2] at hx
        simp only [↓wR, RA, simprocAttr, TF, ae, h2]
        rw [hx]
      · rw [if_neg (by rw [h2]; decide)] at hx
        simp only [↓wR, RA, simprocAttr, TF, ae, h2]; repeat (simp (disch := omega) only [ah, ca, cb, bz, b9]; try simp only [↓wR, RA, simprocAttr, TF, ae, h2])
        exact ⟨(i + 1, b'), ⟨hlt, hx⟩, by simp; omega, by rw [hb']; (first | rfl | trivial | omega | ((try (simp (disch := omega) only [ah])); (try (simp only [FB])); first | done | rfl | omega))⟩
  · rw [dv (decide_eq_false h)] at hx
    simp only [↓wR, RA, simprocAttr, TF, ae, h]
    rw [hx]
    rw [bk]; refine ⟨fun h2 => ?_, fun h2 => ?_⟩
    · have hb : b = false := by simpa using h2
      simp only [↓wR, RA, simprocAttr, TF, ae, h2]
      rw [hb] <;> rfl
    · have hb : b = true := by simpa using h2
      simp only [↓wR, RA, simprocAttr, TF, ae, h2]
      rw [hb] <;> rfl
noncomputable def Kb (x : bd × Unit) : Option AV := if da x.1 then some ((r1 (aw .i64)).E true (Cj x.1)) else none
set_option maxRecDepth 2000000 in
theorem alp (x : bd × Unit) (r : AV) (h : Kb x = some r) : bf PP 41 ((aC ct a0).E x) r := by
  by_cases hc : da x.1
  case neg => simp only [Kb, if_neg hc] at h; cases h
  simp only [Kb, if_pos hc] at h
  cases h
  exact ba (ak.cons (ai fv) (ak.nil PP)) Tryz.func41 (by kernel_rfl) (by kernel_rfl) (by kernel_rfl) (Nat.le_of_ble_eq_true (by kernel_rfl)) (r1 (aw .i64)) true (Cj x.1) (auk x.1 hc)
noncomputable abbrev ayu : Nat × Bool × (List AV → M AV) := (41, true, dc (aC ct a0) Kb)
end Go.Proofs.YtidomogemfchpaaGreat
end
section
set_option linter.unusedSimpArgs false
set_option linter.unusedVariables false
namespace Go.Proofs.YtidomogemfchpaaGreat
open Go.Vm
set_option maxRecDepth 2000000
def sh (f : bb → Int) : List bb → Int
  | [] => 0
  | z :: r => if f z ≠ 0 then f z else sh f r
theorem Lu {l : List bb} {i : Nat} {c : bb} (f : bb → Int) (h : l.drop i = c :: l.drop (i + 1)) : sh f (l.drop i) = if f c ≠ 0 then f c else sh f (l.drop (i + 1)) := by rw [h]; rfl
noncomputable def tx (w : bd) : Int := sh iw w.ay
theorem aq4 (w : bd) (hw : da w) : wl PP [aps] 0 (Tryz.f42.body.getD .skip) (dj PP Tryz.f42.results.toList (fun r st => (r1 (aw .i64)).get true st.h r = some (tx w))) (bw 0 [ct.val false w]) (bp []) := by
  have hl := hw.Ee
  unfold Tryz.f42
  simp only [ek]
  simp only [↓wR, RA, simprocAttr, TF, ae]
  refine dh [8, 9, 10] (fun (i : Nat) => [.vl false 2 (w.ay.map (bg.val false)), .sc (.int .i64 (w.ay.length)), .sc (.int .i64 (i))]) (fun _ => []) (fun i => i ≤ w.ay.length ∧ tx w = sh iw (w.ay.drop i)) (fun i => w.ay.length - i) 0 ⟨Nat.zero_le _, rfl⟩ (by simp only [↓wR, RA, simprocAttr, TF, ae] <;> rfl) (by simp only [↓wR, RA, simprocAttr, TF, ae] <;> rfl) ?_
  rintro i ⟨hi, hx⟩
  simp only [↓wR, RA, simprocAttr, TF, ae]
  rw [bj]; refine ⟨fun h => ?_, fun h => ?_⟩
  · obtain ⟨c, hc, hd1, hlt⟩ := dt (decide_eq_true h)
    rw [Lu _ hd1] at hx
    simp only [↓wR, RA, simprocAttr, TF, ae, h, hc, Dd, hw.zone c (List.mem_of_getElem? hc)]
    rw [bk]; refine ⟨fun h1 => ?_, fun h1 => ?_⟩
    · have he : iw c ≠ 0 := by simpa using h1
      rw [if_pos he] at hx
      simp only [↓wR, RA, simprocAttr, TF, ae, h1]
      rw [hx]
    · have he : iw c = 0 := by simpa using h1
      rw [if_neg (by omega)] at hx
      simp only [↓wR, RA, simprocAttr, TF, ae, h1]; repeat (simp (disch := omega) only [ah, ca, cb, bz, b9]; try simp only [↓wR, RA, simprocAttr, TF, ae, h1])
      exact ⟨i + 1, ⟨hlt, hx⟩, by omega, by (first | rfl | trivial | omega | ((try (simp (disch := omega) only [ah])); (try (simp only [FB])); first | done | rfl | omega))⟩
  · rw [dv (decide_eq_false h)] at hx
    simp only [↓wR, RA, simprocAttr, TF, ae, h]
    rw [hx] <;> rfl
noncomputable def Gy (x : bd × Unit) : Option AV := if da x.1 then some ((r1 (aw .i64)).E true (tx x.1)) else none
set_option maxRecDepth 2000000 in
theorem af7 (x : bd × Unit) (r : AV) (h : Gy x = some r) : bf PP 42 ((aC ct a0).E x) r := by
  by_cases hc : da x.1
  case neg => simp only [Gy, if_neg hc] at h; cases h
  simp only [Gy, if_pos hc] at h
  cases h
  exact ba (ak.cons (ai Pn) (ak.nil PP)) Tryz.func42 (by kernel_rfl) (by kernel_rfl) (by kernel_rfl) (Nat.le_of_ble_eq_true (by kernel_rfl)) (r1 (aw .i64)) true (tx x.1) (aq4 x.1 hc)
noncomputable abbrev ax3 : Nat × Bool × (List AV → M AV) := (42, true, dc (aC ct a0) Gy)
def Gq (w : bd) (i : Int) : Bool := w.dk.any fun h => h.ay.contains i
noncomputable def G7 (w : bd) : Nat → Nat → Int
  | 0, _ => 0
  | k + 1, i => if Gq w (i : Int) = true then G7 w k (i + 1) else 302
noncomputable def yc (w : bd) : Int := G7 w w.ay.length 0
theorem aqi (w : bd) (hw : da w) : wl PP [abg] 0 (Tryz.f44.body.getD .skip) (dj PP Tryz.f44.results.toList (fun r st => (r1 (aw .i64)).get true st.h r = some (yc w))) (bw 0 [ct.val false w]) (bp []) := by
  have hl := hw.Ee
  have hhl := hw.hlen
  unfold Tryz.f44
  simp only [ek]
  simp only [↓wR, RA, simprocAttr, TF, ae]
  refine dh [1, 7, 8] (fun (i : Nat) => [.ptr 0 0, .sc (.int .i64 (w.ay.length)), .sc (.int .i64 (i))]) (fun _ => [some (.row [.vl false 2 (w.ay.map (bg.val false)), .vl false 2 (w.dk.map (dy.val false)), .vl false 1 (w.hints.map (bn.val false))] 0 2 100)]) (fun i => i ≤ w.ay.length ∧ yc w = G7 w (w.ay.length - i) i) (fun i => w.ay.length - i) 0 ⟨Nat.zero_le _, rfl⟩ (by simp only [↓wR, RA, simprocAttr, TF, ae] <;> rfl) (by simp only [↓wR, RA, simprocAttr, TF, ae] <;> rfl) ?_
  rintro i ⟨hi, hx⟩
  simp only [↓wR, RA, simprocAttr, TF, ae]
  rw [bj]; refine ⟨fun h => ?_, fun h => ?_⟩
  · obtain ⟨m, hm⟩ : ∃ m, w.ay.length - i = m + 1 := ⟨w.ay.length - i - 1, by omega⟩
    have hm' : w.ay.length - (i + 1) = m := by omega
    rw [hm, G7] at hx
    simp only [↓wR, RA, simprocAttr, TF, ae, h]
    refine dw (fun r st' => r = .sc (.bool (Gq w i)) ∧ st' = bp [some (.row [.vl false 2 (w.ay.map (bg.val false)), .vl false 2 (w.dk.map (dy.val false)), .vl false 1 (w.hints.map (bn.val false))] 0 2 100), some (.row [.sc (.int .i64 i)] 0 2 3)]) rfl ?_ ?_
    · refine bq (T := []) (ak.nil PP) mixed Tryz.func56 rfl (by kernel_rfl) (by kernel_rfl) (by kernel_rfl) (by kernel_rfl) ?_; unfold Tryz.f56
      simp only [↓wR, RA, simprocAttr, TF, ae]
      refine bq (T := []) (ak.nil PP) mixed Tryz.func94 rfl (by kernel_rfl) (by kernel_rfl) (by kernel_rfl) (by kernel_rfl) ?_; unfold Tryz.f94
      simp only [↓wR, RA, simprocAttr, TF, ae]
      refine dh [0, 1, 7, 8] (fun (k : Nat) => [.vl false 2 (w.dk.map (dy.val false)), .fn (.func 83) [] [.ptr 1 0], .sc (.int .i64 (w.dk.length)), .sc (.int .i64 (k))]) (fun _ => [some (.row [.vl false 2 (w.ay.map (bg.val false)), .vl false 2 (w.dk.map (dy.val false)), .vl false 1 (w.hints.map (bn.val false))] 0 2 100), some (.row [.sc (.int .i64 i)] 0 2 3)]) (fun k => k ≤ w.dk.length ∧ Gq w i = ((w.dk.drop k).any fun h => h.ay.contains i)) (fun k => w.dk.length - k) 0 ⟨Nat.zero_le _, rfl⟩ (by simp only [↓wR, RA, simprocAttr, TF, ae] <;> rfl) (by simp only [↓wR, RA, simprocAttr, TF, ae] <;> rfl) ?_
      rintro k ⟨hk, hy⟩
      simp only [↓wR, RA, simprocAttr, TF, ae]
      rw [bj]; refine ⟨fun h3 => ?_, fun h3 => ?_⟩
      · obtain ⟨c, hc, hd1, hlt⟩ := dt (decide_eq_true h3)
        rw [hd1, List.any_cons] at hy
        have hcz : c.ay.length ≤ 281474976710656 := by have := hw.host c (List.mem_of_getElem? hc); omega
        simp only [↓wR, RA, simprocAttr, TF, ae, h3, hc]; repeat (simp (disch := omega) only [ah, ca, cb, bz, b9]; try simp only [↓wR, RA, simprocAttr, TF, ae, h3, hc])
        refine bq (T := [abg]) (ak.cons (ai Br) (ak.nil PP)) mixed Tryz.func83 rfl (by kernel_rfl) (by kernel_rfl) (by kernel_rfl) (by kernel_rfl) ?_; unfold Tryz.f83
        simp only [↓wR, RA, simprocAttr, TF, ae, Ik, hcz]
        rw [bk]; refine ⟨fun h5 => ?_, fun h5 => ?_⟩
        · rw [h5, Bool.true_or] at hy
          simp only [↓wR, RA, simprocAttr, TF, ae, h5, g8, gx, gq, hy]
        · rw [h5, Bool.false_or] at hy
          simp only [↓wR, RA, simprocAttr, TF, ae, h5]; repeat (simp (disch := omega) only [ah, ca, cb, bz, b9]; try simp only [↓wR, RA, simprocAttr, TF, ae, h5])
          exact ⟨k + 1, ⟨hlt, hy⟩, by omega, by (first | rfl | trivial | omega | ((try (simp (disch := omega) only [ah])); (try (simp only [FB])); first | done | rfl | omega))⟩
      · rw [dv (decide_eq_false h3), List.any_nil] at hy
        simp only [↓wR, RA, simprocAttr, TF, ae, h3, g8, gx, gq, hy]
    rintro _ _ ⟨rfl, rfl⟩
    simp only [↓wR, RA, simprocAttr, TF, ae, gm]
    rw [bk]; refine ⟨fun h4 => ?_, fun h4 => ?_⟩
    · have h4' : Gq w i = false := by simpa only [Bool.not_eq_true'] using h4
      rw [h4', if_neg (by decide)] at hx
      simp only [↓wR, RA, simprocAttr, TF, ae, h4]
      rw [hx]
    · have h4' : Gq w i = true := by simpa only [Bool.not_eq_false'] using h4
      rw [if_pos h4'] at hx
      simp only [↓wR, RA, simprocAttr, TF, ae, h4]; repeat (simp (disch := omega) only [ah, ca, cb, bz, b9]; try simp only [↓wR, RA, simprocAttr, TF, ae, h4])
      exact ⟨i + 1, ⟨by omega, by rw [hm']; exact hx⟩, by omega, by (first | rfl | trivial | omega | ((try (simp (disch := omega) only [ah])); (try (simp only [FB])); first | done | rfl | omega))⟩
  · rw [show w.ay.length - i = 0 by omega, G7] at hx
    simp only [↓wR, RA, simprocAttr, TF, ae, h]
    rw [hx] <;> rfl
noncomputable def D0 (x : bd × Unit) : Option AV := if da x.1 then some ((r1 (aw .i64)).E true (yc x.1)) else none
set_option maxRecDepth 2000000 in
theorem abx (x : bd × Unit) (r : AV) (h : D0 x = some r) : bf PP 44 ((aC ct a0).E x) r := by
  by_cases hc : da x.1
  case neg => simp only [D0, if_neg hc] at h; cases h
  simp only [D0, if_pos hc] at h
  cases h
  exact ba (ak.cons (ai Br) (ak.nil PP)) Tryz.func44 (by kernel_rfl) (by kernel_rfl) (by kernel_rfl) (Nat.le_of_ble_eq_true (by kernel_rfl)) (r1 (aw .i64)) true (yc x.1) (aqi x.1 hc)
noncomputable abbrev avm : Nat × Bool × (List AV → M AV) := (44, true, dc (aC ct a0) D0)
def z7 (z : bb) (s : bo) : Bool := decide ((s.type.toNat : Int) = 2) && x6 s.owner z.origin
def ru (z : bb) : List Name := (z.aj.filter (z7 z)).map fun s => s.owner
theorem asd (z : bb) (hz : c9 z) : wl PP [ao3, oq] 0 (Tryz.f84.body.getD .skip) (dj PP Tryz.f84.results.toList (fun r st => (r1 (cr ar)).get true st.h r = some (ru z))) (bw 0 [bg.val false z]) (bp []) := by
  have hl := hz.len
  have hq : ∀ a b c d, gk a b c = d → gk a b c = d := fun _ _ _ _ h => h
  unfold Tryz.f84
  simp only [ig]
  simp only [↓wR, RA, simprocAttr, TF, ae]
  refine bq (T := []) (ak.nil PP) mixed Tryz.func127 rfl (by kernel_rfl) (by kernel_rfl) (by kernel_rfl) (by kernel_rfl) ?_; unfold Tryz.f127
  simp only [↓wR, RA, simprocAttr, TF, ae]
  refine ⟨[1, 3, 6], ?_⟩
  have hib : tn PP 154 = some (Tryz.f154.ntmps, Tryz.f154.body.getD .skip) := by kernel_rfl
  simp only [↓wR, RA, simprocAttr, TF, ae, hib]
  refine ⟨by kernel_rfl, fun l => ?_⟩
  unfold Tryz.f154
  simp only [↓wR, RA, simprocAttr, TF, ae]
  refine S1 [0, 2, 7, 8, 9] (fun (x : Nat × List Name) => [.sc (.func (.yield l) #[] #[]), .ptr 3 0, .vl false 5 (z.aj.map (aq.val false)), .sc (.int .i64 (z.aj.length)), .sc (.int .i64 (x.1))]) (fun x => [some (.row [.vl false 1 (z.origin.map (an.val false)), .vl false 5 (z.aj.map (aq.val false))] 0 2 26), some (.row [.sl 4 0 x.2.length 1] 0 2 76), some (.row [.vl false 1 (z.origin.map (an.val false)), .vl false 5 (z.aj.map (aq.val false))] 0 2 26), some (.row [.sc (.int .u16 2)] 0 2 28), some (.row (x.2.map (ar.val true)) 0 0 23)]) (fun x => (x.1 ≤ z.aj.length ∧ x.2 ++ ((z.aj.drop x.1).filter (z7 z)).map (fun s => s.owner) = ru z) ∧ x.2.length ≤ x.1) (fun x => z.aj.length - x.1) (0, []) ⟨⟨Nat.zero_le _, rfl⟩, Nat.zero_le _⟩ (by simp only [↓wR, RA, simprocAttr, TF, ae]; (refine nj.lax [] (by first | exact Nat.le_of_ble_eq_true rfl | (simp [cq]; omega)) ?_ ?_ <;> repeat' first | exact i7.nil | exact dn.nil | exact je.same _ | exact je.nil _ _ _ | exact je.wm _ _ | exact dn.refl _ _ | apply i7.cons | apply dn.ghost | apply dn.same | apply dn.row)) ?_
  rintro ⟨i, x⟩ ⟨⟨hi, hx⟩, hl2⟩
  simp only at hi hx hl2
  simp only [↓wR, RA, simprocAttr, TF, ae]
  rw [sf]; refine ⟨fun h => ?_, fun h => ?_⟩
  · obtain ⟨c, hc, hd1, hlt⟩ := dt h
    have hcs := hz.set c (List.mem_of_getElem? hc)
    rw [L6 hd1] at hx
    simp only [↓wR, RA, simprocAttr, TF, ae, h, hc]
    rw [sf]; refine ⟨fun h2 => ?_, fun h2 => ?_⟩
    · have e2 : (c.type.toNat : Int) = 2 := by simpa using h2
      simp only [↓wR, RA, simprocAttr, TF, ae, h2]
      refine v7 [0, 2, 7, 8, 9, 17, 19] ?_
      simp only [↓wR, RA, simprocAttr, TF, ae, wo, mo, C0, hcs.owner, hz.origin]
      rw [bk]; refine ⟨fun h3 => ?_, fun h3 => ?_⟩
      · have hp : z7 z c = true := by unfold z7; rw [decide_eq_true e2, h3]; rfl
        rw [if_pos hp] at hx
        have hlim : (x.length + 1) * 24 ≤ 140737488355328 := by omega
        simp only [↓wR, RA, simprocAttr, TF, ae, h3]
        refine ⟨by kernel_rfl, .inl ?_⟩
        simp only [↓wR, RA, simprocAttr, TF, ae, jo, hcs.owner, hlim]; repeat (simp (disch := omega) only [ah, ca, cb, bz, b9]; try simp only [↓wR, RA, simprocAttr, TF, ae, jo, hcs.owner, hlim])
        exact ⟨by apply hq; kernel_rfl, (i + 1, x ++ [c.owner]), ⟨⟨hlt, by simpa using hx⟩, by simp; omega⟩, by simp; omega, by (first | rfl | trivial | omega | ((try (simp (disch := omega) only [ah])); (try (simp only [FB])); first | done | rfl | omega)), by (first | rfl | trivial | omega | ((try (simp (disch := omega) only [ah])); (try (simp only [FB])); first | done | rfl | omega))⟩
      · have hp : z7 z c = false := by unfold z7; rw [h3, Bool.and_false]
        rw [hp, if_neg (by decide), List.nil_append] at hx
        simp only [↓wR, RA, simprocAttr, TF, ae, h3]; repeat (simp (disch := omega) only [ah, ca, cb, bz, b9]; try simp only [↓wR, RA, simprocAttr, TF, ae, h3])
        exact ⟨(i + 1, x), ⟨⟨hlt, hx⟩, by simp only; omega⟩, by simp; omega, by (first | rfl | trivial | omega | ((try (simp (disch := omega) only [ah])); (try (simp only [FB])); first | done | rfl | omega)), by (first | rfl | trivial | omega | ((try (simp (disch := omega) only [ah])); (try (simp only [FB])); first | done | rfl | omega))⟩
    · have e2 : ¬ (c.type.toNat : Int) = 2 := by simpa using h2
      have hp : z7 z c = false := by unfold z7; rw [decide_eq_false e2]; rfl
      rw [hp, if_neg (by decide), List.nil_append] at hx
      simp only [↓wR, RA, simprocAttr, TF, ae, h2]; repeat (simp (disch := omega) only [ah, ca, cb, bz, b9]; try simp only [↓wR, RA, simprocAttr, TF, ae, h2])
      exact ⟨(i + 1, x), ⟨⟨hlt, hx⟩, by simp only; omega⟩, by simp; omega, by (first | rfl | trivial | omega | ((try (simp (disch := omega) only [ah])); (try (simp only [FB])); first | done | rfl | omega)), by (first | rfl | trivial | omega | ((try (simp (disch := omega) only [ah])); (try (simp only [FB])); first | done | rfl | omega))⟩
  · rw [dv h, List.filter_nil, List.map_nil, List.append_nil] at hx
    subst hx
    simp only [↓wR, RA, simprocAttr, TF, ae, h]
noncomputable def Mr (x : bb × Unit) : Option AV := if c9 x.1 then some ((r1 (cr ar)).E true (ru x.1)) else none
set_option maxRecDepth 2000000 in
theorem al7 (x : bb × Unit) (r : AV) (h : Mr x = some r) : bf PP 84 ((aC bg a0).E x) r := by
  by_cases hc : c9 x.1
  case neg => simp only [Mr, if_neg hc] at h; cases h
  simp only [Mr, if_pos hc] at h
  cases h
  exact ba (ak.cons (ai Of) (ak.cons (ai j8) (ak.nil PP))) Tryz.func84 (by kernel_rfl) (by kernel_rfl) (by kernel_rfl) (Nat.le_of_ble_eq_true (by kernel_rfl)) (r1 (cr ar)) true (ru x.1) (asd x.1 hc)
noncomputable abbrev ayz : Nat × Bool × (List AV → M AV) := (84, true, dc (aC bg a0) Mr)
theorem alg {z : bb} (hz : c9 z) : (ru z).length ≤ 16777216 ∧ ∀ n ∈ ru z, be n := by
  refine ⟨?_, fun n hn => ?_⟩
  · have h1 := s5 (l := z.aj) (z7 z)
    have h2 := hz.len
    unfold ru; rw [List.length_map]; omega
  · obtain ⟨s, hs, rfl⟩ := List.mem_map.1 hn
    exact (hz.set s (List.mem_filter.1 hs).1).owner
noncomputable def Ba (w : bd) : List Name → Int
  | [] => 0
  | n :: r => if vd w.ay n = true then Ba w r else 303
noncomputable def Cl (w : bd) : Int := sh (fun z => Ba w (ru z)) w.ay
theorem asl {w : bd} {l : List Name} {i : Nat} {c : Name} (h : l.drop i = c :: l.drop (i + 1)) : Ba w (l.drop i) = if vd w.ay c = true then Ba w (l.drop (i + 1)) else 303 := by rw [h]; rfl
theorem ave (w : bd) (hw : da w) : wl PP [ayz, dr] 0 (Tryz.f45.body.getD .skip) (dj PP Tryz.f45.results.toList (fun r st => (r1 (aw .i64)).get true st.h r = some (Cl w))) (bw 0 [ct.val false w]) (bp []) := by
  have hl := hw.Ee
  have hzo : ∀ z ∈ w.ay, be z.origin := fun z hz => (hw.zone z hz).origin
  unfold Tryz.f45
  simp only [ek]
  simp only [↓wR, RA, simprocAttr, TF, ae]
  refine dh [1, 9, 10, 11] (fun (i : Nat) => [.ptr 0 0, .vl false 2 (w.ay.map (bg.val false)), .sc (.int .i64 (w.ay.length)), .sc (.int .i64 (i))]) (fun _ => [some (.row [.vl false 2 (w.ay.map (bg.val false)), .vl false 2 (w.dk.map (dy.val false)), .vl false 1 (w.hints.map (bn.val false))] 0 2 100)]) (fun i => i ≤ w.ay.length ∧ Cl w = sh (fun z => Ba w (ru z)) (w.ay.drop i)) (fun i => w.ay.length - i) 0 ⟨Nat.zero_le _, rfl⟩ (by simp only [↓wR, RA, simprocAttr, TF, ae] <;> rfl) (by simp only [↓wR, RA, simprocAttr, TF, ae] <;> rfl) ?_
  rintro i ⟨hi, hx⟩
  simp only [↓wR, RA, simprocAttr, TF, ae]
  rw [bj]; refine ⟨fun h => ?_, fun h => ?_⟩
  · obtain ⟨c, hc, hd1, hlt⟩ := dt (decide_eq_true h)
    rw [Lu _ hd1] at hx
    have hcz := hw.zone c (List.mem_of_getElem? hc)
    obtain ⟨hnl, hns⟩ := alg hcz
    simp only [↓wR, RA, simprocAttr, TF, ae, h, hc, Mr, hcz]
    refine dh [1, 9, 10, 11, 16, 17, 18] (fun (k : Nat) => [.ptr 0 0, .vl false 2 (w.ay.map (bg.val false)), .sc (.int .i64 (w.ay.length)), .sc (.int .i64 (i)), .vl true 1 ((ru c).map (ar.val true)), .sc (.int .i64 ((ru c).length)), .sc (.int .i64 (k))]) (fun _ => [some (.row [.vl false 2 (w.ay.map (bg.val false)), .vl false 2 (w.dk.map (dy.val false)), .vl false 1 (w.hints.map (bn.val false))] 0 2 100)]) (fun k => k ≤ (ru c).length ∧ Ba w (ru c) = Ba w ((ru c).drop k)) (fun k => (ru c).length - k) 0 ⟨Nat.zero_le _, rfl⟩ (by simp only [↓wR, RA, simprocAttr, TF, ae] <;> rfl) (by simp only [↓wR, RA, simprocAttr, TF, ae] <;> rfl) ?_
    rintro k ⟨hk, hy⟩
    simp only [↓wR, RA, simprocAttr, TF, ae]
    rw [bj]; refine ⟨fun h2 => ?_, fun h2 => ?_⟩
    · obtain ⟨n, hn, hd2, hlt2⟩ := dt (decide_eq_true h2)
      rw [asl hd2] at hy
      simp only [↓wR, RA, simprocAttr, TF, ae, h2, hn]
      refine Sk [1] (alz w.ay n hl hzo (hns n (List.mem_of_getElem? hn))) (by decide) (by simp only [↓wR, RA, simprocAttr, TF, ae]) (by simp only [↓wR, RA, simprocAttr, TF, ae]) (Nat.le_of_ble_eq_true rfl) (by simp only [↓wR, RA, simprocAttr, TF, ae]) (by simp only [↓wR, RA, simprocAttr, TF, ae]) ⟨Nat.le_of_ble_eq_true rfl, Nat.le_of_ble_eq_true rfl⟩ ?_
      simp only [↓wR, RA, simprocAttr, TF, ae, gm, ue, Bv, sq, Km]
      rw [bk]; refine ⟨fun h3 => ?_, fun h3 => ?_⟩
      · have h3' : vd w.ay n = false := by simpa only [Bool.not_eq_true'] using h3
        rw [h3', if_neg (by decide)] at hy
        rw [hy, if_pos (by decide)] at hx
        simp only [↓wR, RA, simprocAttr, TF, ae, h3]
        rw [hx]
      · have h3' : vd w.ay n = true := by simpa only [Bool.not_eq_false'] using h3
        rw [if_pos h3'] at hy
        simp only [↓wR, RA, simprocAttr, TF, ae, h3]; repeat (simp (disch := omega) only [ah, ca, cb, bz, b9]; try simp only [↓wR, RA, simprocAttr, TF, ae, h3])
        exact ⟨k + 1, ⟨hlt2, hy⟩, by omega, by (first | rfl | trivial | omega | ((try (simp (disch := omega) only [ah])); (try (simp only [FB])); first | done | rfl | omega))⟩
    · rw [dv (decide_eq_false h2), Ba] at hy
      rw [hy, if_neg (by decide)] at hx
      simp only [↓wR, RA, simprocAttr, TF, ae, h2]; repeat (simp (disch := omega) only [ah, ca, cb, bz, b9]; try simp only [↓wR, RA, simprocAttr, TF, ae, h2])
      exact ⟨i + 1, ⟨hlt, hx⟩, by omega, by (first | rfl | trivial | omega | ((try (simp (disch := omega) only [ah])); (try (simp only [FB])); first | done | rfl | omega))⟩
  · rw [dv (decide_eq_false h)] at hx
    simp only [↓wR, RA, simprocAttr, TF, ae, h]
    rw [hx] <;> rfl
noncomputable def Mg (x : bd × Unit) : Option AV := if da x.1 then some ((r1 (aw .i64)).E true (Cl x.1)) else none
set_option maxRecDepth 2000000 in
theorem alx (x : bd × Unit) (r : AV) (h : Mg x = some r) : bf PP 45 ((aC ct a0).E x) r := by
  by_cases hc : da x.1
  case neg => simp only [Mg, if_neg hc] at h; cases h
  simp only [Mg, if_pos hc] at h
  cases h
  exact ba (ak.cons (ai al7) (ak.cons (ai fv) (ak.nil PP))) Tryz.func45 (by kernel_rfl) (by kernel_rfl) (by kernel_rfl) (Nat.le_of_ble_eq_true (by kernel_rfl)) (r1 (aw .i64)) true (Cl x.1) (ave x.1 hc)
noncomputable abbrev ay4 : Nat × Bool × (List AV → M AV) := (45, true, dc (aC ct a0) Mg)
noncomputable def parentOf (w : bd) (z : bb) (p : Int) : Int :=
  match o8 w p with
  | none => 304
  | some y => if (iu y.aj z.origin 2).isSome = true then (if tt ((iu z.aj z.origin 2).getD mw) ((iu y.aj z.origin 2).getD mw) = true then 0 else 304) else 304
noncomputable def rj (w : bd) : List bb → Nat → Int
  | [], _ => 0
  | z :: r, i => if (z.origin.length : Int) = 0 then rj w r (i + 1) else if parentOf w z (m5 w (i : Int)).1 ≠ 0 then 304 else rj w r (i + 1)
noncomputable def tk (w : bd) : Int := rj w w.ay 0
theorem agy {w : bd} {l : List bb} {i : Nat} {c : bb} (k : Nat) (h : l.drop i = c :: l.drop (i + 1)) : rj w (l.drop i) k = if (c.origin.length : Int) = 0 then rj w (l.drop (i + 1)) (k + 1) else if parentOf w c (m5 w (k : Int)).1 ≠ 0 then 304 else rj w (l.drop (i + 1)) (k + 1) := by rw [h]; rfl
theorem ag2 {w : bd} {i : Int} (hw : w.ay ≠ []) : ∃ (k : Nat) (y : bb), (m5 w i).1 = (k : Int) ∧ w.ay[k]? = some y := by
  have h0 : ∃ (k : Nat) (y : bb), (0 : Int) = (k : Int) ∧ w.ay[k]? = some y := by
    cases hz : w.ay with
    | nil => exact (hw hz).elim
    | cons y l => exact ⟨0, y, rfl, rfl⟩
  unfold m5
  split
  · exact h0
  · split
    · exact h0
    · split
      · exact h0
      · rename_i h
        obtain ⟨k, y, h1, h2, _⟩ := am4 h
        exact ⟨k, y, h1, h2⟩
set_option maxHeartbeats 4000000 in
theorem ak4 (w : bd) (hw : da w) : wl PP [Wl, Bs, aoq] 0 (Tryz.f46.body.getD .skip) (dj PP Tryz.f46.results.toList (fun r st => (r1 (aw .i64)).get true st.h r = some (tk w))) (bw 0 [ct.val false w]) (bp []) := by
  have hl := hw.Ee
  have hq : ∀ a b c d, gk a b c = d → gk a b c = d := fun _ _ _ _ h => h
  unfold Tryz.f46
  simp only [ek]
  simp only [↓wR, RA, simprocAttr, TF, ae]
  refine dh [1, 13, 14, 15] (fun (i : Nat) => [.ptr 0 0, .vl false 2 (w.ay.map (bg.val false)), .sc (.int .i64 (w.ay.length)), .sc (.int .i64 (i))]) (fun _ => [some (.row [.vl false 2 (w.ay.map (bg.val false)), .vl false 2 (w.dk.map (dy.val false)), .vl false 1 (w.hints.map (bn.val false))] 0 2 100)]) (fun i => i ≤ w.ay.length ∧ tk w = rj w (w.ay.drop i) i) (fun i => w.ay.length - i) 0 ⟨Nat.zero_le _, rfl⟩ (by simp only [↓wR, RA, simprocAttr, TF, ae] <;> rfl) (by simp only [↓wR, RA, simprocAttr, TF, ae] <;> rfl) ?_
  rintro i ⟨hi, hx⟩
  simp only [↓wR, RA, simprocAttr, TF, ae]
  rw [bj]; refine ⟨fun h => ?_, fun h => ?_⟩
  · obtain ⟨c, hc, hd1, hlt⟩ := dt (decide_eq_true h)
    rw [agy i hd1] at hx
    have hcz := hw.zone c (List.mem_of_getElem? hc)
    obtain ⟨k, y, hk, hy⟩ := ag2 (i := (i : Int)) (fun q => by rw [q] at hc; simp at hc)
    have hyz := hw.zone y (List.mem_of_getElem? hy)
    have hs1 := F9 hcz c.origin 2
    have hs2 := F9 hyz c.origin 2
    simp only [↓wR, RA, simprocAttr, TF, ae, h, hc]
    rw [cy]; refine ⟨fun ⟨h1, e1⟩ => ?_, fun ⟨h1, e1⟩ => ?_⟩
    · rw [if_pos e1] at hx
      simp only [↓wR, RA, simprocAttr, TF, ae, h1]; repeat (simp (disch := omega) only [ah, ca, cb, bz, b9]; try simp only [↓wR, RA, simprocAttr, TF, ae, h1])
      exact ⟨i + 1, ⟨hlt, hx⟩, by omega, by (first | rfl | trivial | omega | ((try (simp (disch := omega) only [ah])); (try (simp only [FB])); first | done | rfl | omega))⟩
    rw [if_neg e1] at hx
    rcases hpe : m5 w (i : Int) with ⟨p, e⟩
    rw [hpe] at hk hx
    simp only at hk hx
    subst hk
    have hpo : parentOf w c (k : Int) = if (iu y.aj c.origin 2).isSome = true then (if tt ((iu c.aj c.origin 2).getD mw) ((iu y.aj c.origin 2).getD mw) = true then 0 else 304) else 304 := by unfold parentOf; rw [pa, hy]
    rw [hpo] at hx
    simp only [↓wR, RA, simprocAttr, TF, ae, h1, z5, hw, hpe, Qv, uu, hcz.mid, hcz.origin]
    obtain ⟨s1, hd1⟩ : ∃ s, s = (iu c.aj c.origin 2).getD mw := ⟨_, rfl⟩
    obtain ⟨s2, hd2⟩ : ∃ s, s = (iu y.aj c.origin 2).getD mw := ⟨_, rfl⟩
    obtain ⟨b, hb⟩ : ∃ b, b = (iu y.aj c.origin 2).isSome := ⟨_, rfl⟩
    rw [← hd1, ← hd2, ← hb] at hx
    rw [← hd1] at hs1
    rw [← hd2] at hs2
    rw [← hd1]
    refine ⟨by kernel_rfl, .inl ?_⟩
    simp only [↓wR, RA, simprocAttr, TF, ae, hy, Qv, uu, hyz.mid, hcz.origin, ← hd2, ← hb]
    refine ⟨by apply hq; kernel_rfl, ?_⟩
    cases b with
    | false =>
      rw [if_neg (show ¬ (false = true) by decide), if_pos (by decide)] at hx
      simp only [↓wR, RA, simprocAttr, TF, ae]
      rw [hx]
    | true =>
      rw [if_pos rfl] at hx
      simp only [↓wR, RA, simprocAttr, TF, ae, Da, hs1, hs2]
      rw [bk]; refine ⟨fun h3 => ?_, fun h3 => ?_⟩
      · have h3' : tt s1 s2 = false := by simpa only [Bool.not_eq_true'] using h3
        rw [h3', if_neg (show ¬ (false = true) by decide), if_pos (by decide)] at hx
        simp only [↓wR, RA, simprocAttr, TF, ae, h3]
        rw [hx]
      · have h3' : tt s1 s2 = true := by simpa only [Bool.not_eq_false'] using h3
        rw [if_pos h3', if_neg (by decide)] at hx
        simp only [↓wR, RA, simprocAttr, TF, ae, h3]; repeat (simp (disch := omega) only [ah, ca, cb, bz, b9]; try simp only [↓wR, RA, simprocAttr, TF, ae, h3])
        exact ⟨i + 1, ⟨hlt, hx⟩, by omega, by (first | rfl | trivial | omega | ((try (simp (disch := omega) only [ah])); (try (simp only [FB])); first | done | rfl | omega))⟩
  · rw [dv (decide_eq_false h)] at hx
    simp only [↓wR, RA, simprocAttr, TF, ae, h]
    rw [hx] <;> rfl
noncomputable def B3 (x : bd × Unit) : Option AV := if da x.1 then some ((r1 (aw .i64)).E true (tk x.1)) else none
set_option maxRecDepth 2000000 in
theorem Zn (x : bd × Unit) (r : AV) (h : B3 x = some r) : bf PP 46 ((aC ct a0).E x) r := by
  by_cases hc : da x.1
  case neg => simp only [B3, if_neg hc] at h; cases h
  simp only [B3, if_pos hc] at h
  cases h
  exact ba (ak.cons (ai Mj) (ak.cons (ai uh) (ak.cons (ai Pc) (ak.nil PP)))) Tryz.func46 (by kernel_rfl) (by kernel_rfl) (by kernel_rfl) (Nat.le_of_ble_eq_true (by kernel_rfl)) (r1 (aw .i64)) true (tk x.1) (ak4 x.1 hc)
noncomputable abbrev ar2 : Nat × Bool × (List AV → M AV) := (46, true, dc (aC ct a0) B3)
end Go.Proofs.YtidomogemfchpaaGreat
end
section
set_option linter.unusedSimpArgs false
set_option linter.unusedVariables false
namespace Go.Proofs.YtidomogemfchpaaGreat
open Go.Vm
set_option maxRecDepth 2000000
def Nn (w : bd) (z : bb) (cut : bo) (d : c7) : Bool :=
  match d.names with
  | [] => false
  | n :: _ => (lg w n 1).isSome && (!(iu z.aj n 1).isSome && cw n cut.owner)
def Hn (w : bd) (z : bb) (cut : bo) : Bool := cut.data.any (Nn w z cut)
set_option maxHeartbeats 4000000 in
theorem ap8 (w : bd) (z : bb) (s : bo) (hw : da w) (hz : c9 z) (hs : dq s) (hn : ∀ d ∈ s.data, d.names ≠ []) : wl PP [Tf, Bs, sj] 0 (Tryz.f87.body.getD .skip) (dj PP Tryz.f87.results.toList (fun r st => (r1 bt).get true st.h r = some (Hn w z s))) (bw 0 [ct.val false w, bg.val false z, aq.val false s]) (bp []) := by
  have hl := hs.data.len
  unfold Tryz.f87
  simp only [ek, ig, js]
  simp only [↓wR, RA, simprocAttr, TF, ae]
  refine dh [3, 4, 5, 15, 16, 17] (fun (i : Nat) => [.ptr 0 0, .ptr 1 0, .ptr 2 0, .vl false 4 (s.data.map (cd.val false)), .sc (.int .i64 (s.data.length)), .sc (.int .i64 (i))]) (fun _ => [some (.row [.vl false 2 (w.ay.map (bg.val false)), .vl false 2 (w.dk.map (dy.val false)), .vl false 1 (w.hints.map (bn.val false))] 0 2 100), some (.row [.vl false 1 (z.origin.map (an.val false)), .vl false 5 (z.aj.map (aq.val false))] 0 2 26), some (.row [.vl false 1 (s.owner.map (an.val false)), .sc (.int .u16 s.type.toNat), .sc (.int .u16 s.cls.toNat), .sc (.int .u32 s.sr.toNat), .vl false 4 (s.data.map (cd.val false))] 0 2 40)]) (fun i => i ≤ s.data.length ∧ Hn w z s = (s.data.drop i).any (Nn w z s)) (fun i => s.data.length - i) 0 ⟨Nat.zero_le _, rfl⟩ (by simp only [↓wR, RA, simprocAttr, TF, ae] <;> rfl) (by simp only [↓wR, RA, simprocAttr, TF, ae] <;> rfl) ?_
  rintro i ⟨hi, hx⟩
  simp only [↓wR, RA, simprocAttr, TF, ae]
  rw [bj]; refine ⟨fun h => ?_, fun h => ?_⟩
  · obtain ⟨d, hd, hd1, hlt⟩ := dt (decide_eq_true h)
    rw [hd1, List.any_cons] at hx
    have hdm := List.mem_of_getElem? hd
    obtain ⟨n, r, hnr⟩ : ∃ n r, d.names = n :: r := by
      cases q : d.names with
      | nil => exact (hn d hdm q).elim
      | cons n r => exact ⟨n, r, rfl⟩
    have hn0 : d.names[0]? = some n := by rw [hnr]; rfl
    have hns : be n := (hs.data.mem d hdm).name n (by rw [hnr]; simp)
    have hp : Nn w z s d = ((lg w n 1).isSome && (!(iu z.aj n 1).isSome && cw n s.owner)) := by unfold Nn; rw [hnr]
    rw [hp] at hx
    have u1 : ∀ fr h, c8.fo fr h (.sc (.int .u16 1)) = some 1 := ajm
    simp only [↓wR, RA, simprocAttr, TF, ae, h, hd, hn0, Qv, Bn, hw, hns, uu, hz.mid]
    rw [bk]; refine ⟨fun h1 => ?_, fun h1 => ?_⟩
    · rw [h1, Bool.true_and] at hx
      simp only [↓wR, RA, simprocAttr, TF, ae, h1]
      rw [bk]; refine ⟨fun h2 => ?_, fun h2 => ?_⟩
      · rw [h2, Bool.true_and] at hx
        simp only [↓wR, RA, simprocAttr, TF, ae, h2, ln, hns, hs.owner]
        rw [bk]; refine ⟨fun h3 => ?_, fun h3 => ?_⟩
        · rw [h3, Bool.true_or] at hx
          simp only [↓wR, RA, simprocAttr, TF, ae, h3]
          rw [hx]
        · rw [h3, Bool.false_or] at hx
          simp only [↓wR, RA, simprocAttr, TF, ae, h3]; repeat (simp (disch := omega) only [ah, ca, cb, bz, b9]; try simp only [↓wR, RA, simprocAttr, TF, ae, h3])
          exact ⟨i + 1, ⟨hlt, hx⟩, by omega, by (first | rfl | trivial | omega | ((try (simp (disch := omega) only [ah])); (try (simp only [FB])); first | done | rfl | omega))⟩
      · rw [h2, Bool.false_and, Bool.false_or] at hx
        simp only [↓wR, RA, simprocAttr, TF, ae, h2]; repeat (simp (disch := omega) only [ah, ca, cb, bz, b9]; try simp only [↓wR, RA, simprocAttr, TF, ae, h2])
        exact ⟨i + 1, ⟨hlt, hx⟩, by omega, by (first | rfl | trivial | omega | ((try (simp (disch := omega) only [ah])); (try (simp only [FB])); first | done | rfl | omega))⟩
    · rw [h1, Bool.false_and, Bool.false_or] at hx
      simp only [↓wR, RA, simprocAttr, TF, ae, h1]; repeat (simp (disch := omega) only [ah, ca, cb, bz, b9]; try simp only [↓wR, RA, simprocAttr, TF, ae, h1])
      exact ⟨i + 1, ⟨hlt, hx⟩, by omega, by (first | rfl | trivial | omega | ((try (simp (disch := omega) only [ah])); (try (simp only [FB])); first | done | rfl | omega))⟩
  · rw [dv (decide_eq_false h), List.any_nil] at hx
    simp only [↓wR, RA, simprocAttr, TF, ae, h]
    rw [hx] <;> rfl
def L4 (s : bo) : Prop := ∀ d ∈ s.data, d.names ≠ []
instance (s : bo) : Decidable (L4 s) := inferInstanceAs (Decidable (∀ d ∈ s.data, d.names ≠ []))
noncomputable def Ds (x : bd × bb × bo × Unit) : Option AV := if (da x.1 ∧ c9 x.2.1) ∧ (dq x.2.2.1 ∧ L4 x.2.2.1) then some ((r1 bt).E true (Hn x.1 x.2.1 x.2.2.1)) else none
set_option maxRecDepth 2000000 in
theorem ac1 (x : bd × bb × bo × Unit) (r : AV) (h : Ds x = some r) : bf PP 87 ((aC ct (aC bg (aC aq a0))).E x) r := by
  by_cases hc : (da x.1 ∧ c9 x.2.1) ∧ (dq x.2.2.1 ∧ L4 x.2.2.1)
  case neg => simp only [Ds, if_neg hc] at h; cases h
  simp only [Ds, if_pos hc] at h
  cases h
  exact ba (ak.cons (ai Cr) (ak.cons (ai uh) (ak.cons (ai l5) (ak.nil PP)))) Tryz.func87 (by kernel_rfl) (by kernel_rfl) (by kernel_rfl) (Nat.le_of_ble_eq_true (by kernel_rfl)) (r1 bt) true (Hn x.1 x.2.1 x.2.2.1) (ap8 x.1 x.2.1 x.2.2.1 hc.1.1 hc.1.2 hc.2.1 hc.2.2)
noncomputable abbrev av6 : Nat × Bool × (List AV → M AV) := (87, true, dc (aC ct (aC bg (aC aq a0))) Ds)
noncomputable def zd (w : bd) (z : bb) (s : bo) : Int :=
  if (j0 z s.owner).isSome = false then 0
  else if (s.type.toNat : Int) = 2 then (if Hn w z s = true then 305 else 0)
  else match lg w s.owner s.type with
    | none => 305
    | some t => if tt s t = true then 0 else 305
noncomputable def zl (w : bd) (z : bb) : List bo → Int
  | [] => 0
  | s :: r => if zd w z s ≠ 0 then zd w z s else zl w z r
noncomputable def A9 (w : bd) : Int := sh (fun z => zl w z z.aj) w.ay
theorem asx {w : bd} {z : bb} {l : List bo} {i : Nat} {c : bo} (h : l.drop i = c :: l.drop (i + 1)) : zl w z (l.drop i) = if zd w z c ≠ 0 then zd w z c else zl w z (l.drop (i + 1)) := by rw [h]; rfl
def De (w : bd) : Prop := ∀ z ∈ w.ay, ∀ s ∈ z.aj, (s.type.toNat : Int) = 2 → L4 s
set_option maxHeartbeats 4000000 in
theorem aur (w : bd) (hw : da w) (hn : De w) : wl PP [aqv, av6, Tf, aoq] 0 (Tryz.f47.body.getD .skip) (dj PP Tryz.f47.results.toList (fun r st => (r1 (aw .i64)).get true st.h r = some (A9 w))) (bw 0 [ct.val false w]) (bp []) := by
  have hl := hw.Ee
  unfold Tryz.f47
  simp only [ek]
  simp only [↓wR, RA, simprocAttr, TF, ae]
  refine dh [1, 13, 14, 15] (fun (i : Nat) => [.ptr 0 0, .vl false 2 (w.ay.map (bg.val false)), .sc (.int .i64 (w.ay.length)), .sc (.int .i64 (i))]) (fun _ => [some (.row [.vl false 2 (w.ay.map (bg.val false)), .vl false 2 (w.dk.map (dy.val false)), .vl false 1 (w.hints.map (bn.val false))] 0 2 100)]) (fun i => i ≤ w.ay.length ∧ A9 w = sh (fun z => zl w z z.aj) (w.ay.drop i)) (fun i => w.ay.length - i) 0 ⟨Nat.zero_le _, rfl⟩ (by simp only [↓wR, RA, simprocAttr, TF, ae] <;> rfl) (by simp only [↓wR, RA, simprocAttr, TF, ae] <;> rfl) ?_
  rintro i ⟨hi, hx⟩
  simp only [↓wR, RA, simprocAttr, TF, ae]
  rw [bj]; refine ⟨fun h => ?_, fun h => ?_⟩
  · obtain ⟨z, hz, hd1, hlt⟩ := dt (decide_eq_true h)
    rw [Lu _ hd1] at hx
    have hzm := List.mem_of_getElem? hz
    have hzs := hw.zone z hzm
    have hzl := hzs.len
    simp only [↓wR, RA, simprocAttr, TF, ae, h, hz]
    refine dh [1, 4, 13, 14, 15, 20, 21, 22] (fun (k : Nat) => [.ptr 0 0, .ptr 1 0, .vl false 2 (w.ay.map (bg.val false)), .sc (.int .i64 (w.ay.length)), .sc (.int .i64 (i)), .vl false 5 (z.aj.map (aq.val false)), .sc (.int .i64 (z.aj.length)), .sc (.int .i64 (k))]) (fun _ => [some (.row [.vl false 2 (w.ay.map (bg.val false)), .vl false 2 (w.dk.map (dy.val false)), .vl false 1 (w.hints.map (bn.val false))] 0 2 100), some (.row [.vl false 1 (z.origin.map (an.val false)), .vl false 5 (z.aj.map (aq.val false))] 0 2 26)]) (fun k => k ≤ z.aj.length ∧ zl w z z.aj = zl w z (z.aj.drop k)) (fun k => z.aj.length - k) 0 ⟨Nat.zero_le _, rfl⟩ (by simp only [↓wR, RA, simprocAttr, TF, ae] <;> rfl) (by simp only [↓wR, RA, simprocAttr, TF, ae] <;> rfl) ?_
    rintro k ⟨hk, hy⟩
    simp only [↓wR, RA, simprocAttr, TF, ae]
    rw [bj]; refine ⟨fun h2 => ?_, fun h2 => ?_⟩
    · obtain ⟨s, hs, hd2, hlt2⟩ := dt (decide_eq_true h2)
      rw [asx hd2] at hy
      have hsm := List.mem_of_getElem? hs
      have hss := hzs.set s hsm
      have go0 : zd w z s = 0 → zl w z z.aj = zl w z (z.aj.drop (k + 1)) := fun q => by rw [hy, if_neg (fun e => e q)]
      have go5 : zd w z s = 305 → A9 w = 305 := fun q => by rw [q, if_pos (by decide)] at hy; rw [hx, hy, if_pos (by decide)]
      simp only [↓wR, RA, simprocAttr, TF, ae, h2, hs, Ce, hzs, hss.owner]
      rw [bk]; refine ⟨fun h3 => ?_, fun h3 => ?_⟩
      · have h3' : (j0 z s.owner).isSome = false := by simpa only [Bool.not_eq_true'] using h3
        have e0 := go0 (by unfold zd; rw [if_pos h3'])
        simp only [↓wR, RA, simprocAttr, TF, ae, h3]; repeat (simp (disch := omega) only [ah, ca, cb, bz, b9]; try simp only [↓wR, RA, simprocAttr, TF, ae, h3])
        exact ⟨k + 1, ⟨hlt2, e0⟩, by omega, by (first | rfl | trivial | omega | ((try (simp (disch := omega) only [ah])); (try (simp only [FB])); first | done | rfl | omega))⟩
      have h3' : (j0 z s.owner).isSome = true := by simpa only [Bool.not_eq_false'] using h3
      simp only [↓wR, RA, simprocAttr, TF, ae, h3]
      rw [cy]; refine ⟨fun ⟨h4, e4⟩ => ?_, fun ⟨h4, e4⟩ => ?_⟩
      · have hnm := hn z hzm s hsm e4
        simp only [↓wR, RA, simprocAttr, TF, ae, h4, Ds, hw, hzs, hss, hnm]
        rw [bk]; refine ⟨fun h5 => ?_, fun h5 => ?_⟩
        · have e0 := go5 (by unfold zd; rw [if_neg (by rw [h3']; decide), if_pos e4, if_pos h5])
          simp only [↓wR, RA, simprocAttr, TF, ae, h5]
          rw [e0]
        · have e0 := go0 (by unfold zd; rw [if_neg (by rw [h3']; decide), if_pos e4, if_neg (by rw [h5]; decide)])
          simp only [↓wR, RA, simprocAttr, TF, ae, h5]; repeat (simp (disch := omega) only [ah, ca, cb, bz, b9]; try simp only [↓wR, RA, simprocAttr, TF, ae, h5])
          exact ⟨k + 1, ⟨hlt2, e0⟩, by omega, by (first | rfl | trivial | omega | ((try (simp (disch := omega) only [ah])); (try (simp only [FB])); first | done | rfl | omega))⟩
      have hg : zd w z s = match lg w s.owner s.type with | none => 305 | some t => if tt s t = true then 0 else 305 := by unfold zd; rw [if_neg (by rw [h3']; decide), if_neg e4]
      have htr := Il hw s.owner s.type
      simp only [↓wR, RA, simprocAttr, TF, ae, h4, Bn, hw, hss.owner]
      cases ht : lg w s.owner s.type with
      | none =>
        rw [ht] at hg
        have e0 := go5 hg
        simp only [↓wR, RA, simprocAttr, TF, ae, Option.isSome_none]
        rw [e0]
      | some t =>
        rw [ht] at hg htr
        have hts : dq t := by unfold dq; show nb ((some t).getD mw) ≤ 16777216; omega
        simp only [↓wR, RA, simprocAttr, TF, ae, Option.isSome_some, Option.getD_some, Da, hss, hts]
        rw [bk]; refine ⟨fun h6 => ?_, fun h6 => ?_⟩
        · have h6' : tt s t = false := by simpa only [Bool.not_eq_true'] using h6
          have e0 := go5 (by rw [hg]; simp only; rw [h6', if_neg (by decide)])
          simp only [↓wR, RA, simprocAttr, TF, ae, h6]
          rw [e0]
        · have h6' : tt s t = true := by simpa only [Bool.not_eq_false'] using h6
          have e0 := go0 (by rw [hg]; simp only; rw [if_pos h6'])
          simp only [↓wR, RA, simprocAttr, TF, ae, h6]; repeat (simp (disch := omega) only [ah, ca, cb, bz, b9]; try simp only [↓wR, RA, simprocAttr, TF, ae, h6])
          exact ⟨k + 1, ⟨hlt2, e0⟩, by omega, by (first | rfl | trivial | omega | ((try (simp (disch := omega) only [ah])); (try (simp only [FB])); first | done | rfl | omega))⟩
    · rw [dv (decide_eq_false h2), zl] at hy
      rw [hy, if_neg (by decide)] at hx
      simp only [↓wR, RA, simprocAttr, TF, ae, h2]; repeat (simp (disch := omega) only [ah, ca, cb, bz, b9]; try simp only [↓wR, RA, simprocAttr, TF, ae, h2])
      exact ⟨i + 1, ⟨hlt, hx⟩, by omega, by (first | rfl | trivial | omega | ((try (simp (disch := omega) only [ah])); (try (simp only [FB])); first | done | rfl | omega))⟩
  · rw [dv (decide_eq_false h)] at hx
    simp only [↓wR, RA, simprocAttr, TF, ae, h]
    rw [hx] <;> rfl
instance (w : bd) : Decidable (De w) := inferInstanceAs (Decidable (∀ z ∈ w.ay, ∀ s ∈ z.aj, (s.type.toNat : Int) = 2 → L4 s))
noncomputable def Kk (x : bd × Unit) : Option AV := if da x.1 ∧ De x.1 then some ((r1 (aw .i64)).E true (A9 x.1)) else none
set_option maxRecDepth 2000000 in
theorem amb (x : bd × Unit) (r : AV) (h : Kk x = some r) : bf PP 47 ((aC ct a0).E x) r := by
  by_cases hc : da x.1 ∧ De x.1
  case neg => simp only [Kk, if_neg hc] at h; cases h
  simp only [Kk, if_pos hc] at h
  cases h
  exact ba (ak.cons (ai K4) (ak.cons (ai ac1) (ak.cons (ai Cr) (ak.cons (ai Pc) (ak.nil PP))))) Tryz.func47 (by kernel_rfl) (by kernel_rfl) (by kernel_rfl) (Nat.le_of_ble_eq_true (by kernel_rfl)) (r1 (aw .i64)) true (A9 x.1) (aur x.1 hc.1 hc.2)
noncomputable abbrev ay5 : Nat × Bool × (List AV → M AV) := (47, true, dc (aC ct a0) Kk)
noncomputable def If (w : bd) (z : bb) (i : Nat) : Int :=
  if ((o9 z).all fun n => (lg w n 1).isSome) = true then (if ((mu w z).all fun a => oo w a (i : Int)) = true then 0 else 306) else 306
noncomputable def Ib (w : bd) : List bb → Nat → Int
  | [], _ => 0
  | z :: r, i => if If w z i ≠ 0 then 306 else Ib w r (i + 1)
noncomputable def Bd (w : bd) : Int := Ib w w.ay 0
theorem ar5 {w : bd} {l : List bb} {i : Nat} {c : bb} (k : Nat) (h : l.drop i = c :: l.drop (i + 1)) : Ib w (l.drop i) k = if If w c k ≠ 0 then 306 else Ib w (l.drop (i + 1)) (k + 1) := by rw [h]; rfl
theorem ag4 {w : bd} (hw : da w) {z : bb} (hz : x9 z ≤ 5242880) : (mu w z).length ≤ 140737488355328 := by
  have h1 : ∀ (l : List c7) (acc : List UInt32), (l.foldl zq acc).length ≤ acc.length + l.length := by
    intro l
    induction l with
    | nil => intro acc; exact Nat.le_refl _
    | cons d l ih =>
      intro acc
      have := ih (zq acc d)
      have h2 : (zq acc d).length ≤ acc.length + 1 := by unfold zq; split <;> simp
      rw [List.foldl_cons, List.length_cons]; omega
  have h2 : ∀ (l : List Name) (acc : List UInt32), ((l.foldl (Ia w) acc).length : Int) ≤ (acc.length : Int) + (l.length : Int) * 5242880 := by
    intro l
    induction l with
    | nil => intro acc; simp
    | cons n l ih =>
      intro acc
      have h3 := ih (Ia w acc n)
      have h4 := h1 ((lg w n 1).getD mw).data acc
      have h5 := Il hw n 1
      have h6 := ql uc ((lg w n 1).getD mw).data
      unfold nb at h5
      have h7 : (Ia w acc n).length ≤ acc.length + 5242880 := by unfold Ia; omega
      rw [List.foldl_cons, List.length_cons]
      have h8 : ((l.length + 1 : Nat) : Int) = (l.length : Int) + 1 := by omega
      rw [h8]; omega
  have h3 := h2 (o9 z) []
  have h4 := (Iw hz).1
  unfold mu
  simp only [List.length_nil] at h3
  omega
theorem agt {w : bd} {k : Nat} {z : bb} (h : w.ay[k]? = some z) : xo w (k : Int) = mu w z := by unfold xo; rw [pa, h]
set_option maxHeartbeats 4000000 in
theorem af6 (w : bd) (hw : da w) : wl PP [al4, Tf, azu, aiq] 0 (Tryz.f48.body.getD .skip) (dj PP Tryz.f48.results.toList (fun r st => (r1 (aw .i64)).get true st.h r = some (Bd w))) (bw 0 [ct.val false w]) (bp []) := by
  have hl := hw.Ee
  unfold Tryz.f48
  simp only [ek]
  simp only [↓wR, RA, simprocAttr, TF, ae]
  refine dh [1, 13, 14, 15] (fun (i : Nat) => [.ptr 0 0, .vl false 2 (w.ay.map (bg.val false)), .sc (.int .i64 (w.ay.length)), .sc (.int .i64 (i))]) (fun _ => [some (.row [.vl false 2 (w.ay.map (bg.val false)), .vl false 2 (w.dk.map (dy.val false)), .vl false 1 (w.hints.map (bn.val false))] 0 2 100)]) (fun i => i ≤ w.ay.length ∧ Bd w = Ib w (w.ay.drop i) i) (fun i => w.ay.length - i) 0 ⟨Nat.zero_le _, rfl⟩ (by simp only [↓wR, RA, simprocAttr, TF, ae] <;> rfl) (by simp only [↓wR, RA, simprocAttr, TF, ae] <;> rfl) ?_
  rintro i ⟨hi, hx⟩
  simp only [↓wR, RA, simprocAttr, TF, ae]
  rw [bj]; refine ⟨fun h => ?_, fun h => ?_⟩
  · obtain ⟨z, hz, hd1, hlt⟩ := dt (decide_eq_true h)
    rw [ar5 i hd1] at hx
    have hzm := List.mem_of_getElem? hz
    have hzs := hw.zone z hzm
    obtain ⟨hnl, hns⟩ := Iw (hw.wt z hzm)
    have hsl := ag4 hw (hw.wt z hzm)
    have hsome : (o8 w (i : Int)).isSome = true := by rw [pa, hz]; rfl
    have hsv := agt hz
    have bad : If w z i = 306 → Bd w = 306 := fun q => by rw [hx, q, if_pos (by decide)]
    simp only [↓wR, RA, simprocAttr, TF, ae, h, hz, G6, hzs]
    refine dh [1, 3, 13, 14, 15, 21, 22, 23] (fun (k : Nat) => [.ptr 0 0, .sc (.int .i64 (i)), .vl false 2 (w.ay.map (bg.val false)), .sc (.int .i64 (w.ay.length)), .sc (.int .i64 (i)), .vl true 1 ((o9 z).map (ar.val true)), .sc (.int .i64 ((o9 z).length)), .sc (.int .i64 (k))]) (fun _ => [some (.row [.vl false 2 (w.ay.map (bg.val false)), .vl false 2 (w.dk.map (dy.val false)), .vl false 1 (w.hints.map (bn.val false))] 0 2 100)]) (fun k => k ≤ (o9 z).length ∧ ((o9 z).all fun n => (lg w n 1).isSome) = (((o9 z).drop k).all fun n => (lg w n 1).isSome)) (fun k => (o9 z).length - k) 0 ⟨Nat.zero_le _, rfl⟩ (by simp only [↓wR, RA, simprocAttr, TF, ae] <;> rfl) (by simp only [↓wR, RA, simprocAttr, TF, ae] <;> rfl) ?_
    rintro k ⟨hk, hy⟩
    simp only [↓wR, RA, simprocAttr, TF, ae]
    rw [bj]; refine ⟨fun h2 => ?_, fun h2 => ?_⟩
    · obtain ⟨n, hn, hd2, hlt2⟩ := dt (decide_eq_true h2)
      rw [hd2, List.all_cons] at hy
      simp only [↓wR, RA, simprocAttr, TF, ae, h2, hn, Qv, Bn, hw, hns n (List.mem_of_getElem? hn)]
      rw [bk]; refine ⟨fun h3 => ?_, fun h3 => ?_⟩
      · have h3' : (lg w n 1).isSome = false := by simpa only [Bool.not_eq_true'] using h3
        rw [h3', Bool.false_and] at hy
        have e0 := bad (by unfold If; rw [hy, if_neg (by decide)])
        simp only [↓wR, RA, simprocAttr, TF, ae, h3]
        rw [e0]
      · have h3' : (lg w n 1).isSome = true := by simpa only [Bool.not_eq_false'] using h3
        rw [h3', Bool.true_and] at hy
        simp only [↓wR, RA, simprocAttr, TF, ae, h3]; repeat (simp (disch := omega) only [ah, ca, cb, bz, b9]; try simp only [↓wR, RA, simprocAttr, TF, ae, h3])
        exact ⟨k + 1, ⟨hlt2, hy⟩, by omega, by (first | rfl | trivial | omega | ((try (simp (disch := omega) only [ah])); (try (simp only [FB])); first | done | rfl | omega))⟩
    rw [dv (decide_eq_false h2), List.all_nil] at hy
    simp only [↓wR, RA, simprocAttr, TF, ae, h2, T8, hw, hsome, hsv]
    refine dh [1, 3, 13, 14, 15, 40, 41, 42] (fun (k : Nat) => [.ptr 0 0, .sc (.int .i64 (i)), .vl false 2 (w.ay.map (bg.val false)), .sc (.int .i64 (w.ay.length)), .sc (.int .i64 (i)), .vl true 1 ((mu w z).map (bn.val true)), .sc (.int .i64 ((mu w z).length)), .sc (.int .i64 (k))]) (fun _ => [some (.row [.vl false 2 (w.ay.map (bg.val false)), .vl false 2 (w.dk.map (dy.val false)), .vl false 1 (w.hints.map (bn.val false))] 0 2 100)]) (fun k => k ≤ (mu w z).length ∧ ((mu w z).all fun a => oo w a (i : Int)) = (((mu w z).drop k).all fun a => oo w a (i : Int))) (fun k => (mu w z).length - k) 0 ⟨Nat.zero_le _, rfl⟩ (by simp only [↓wR, RA, simprocAttr, TF, ae] <;> rfl) (by simp only [↓wR, RA, simprocAttr, TF, ae] <;> rfl) ?_
    rintro k ⟨hk, hu⟩
    simp only [↓wR, RA, simprocAttr, TF, ae]
    rw [bj]; refine ⟨fun h4 => ?_, fun h4 => ?_⟩
    · obtain ⟨a, ha, hd3, hlt3⟩ := dt (decide_eq_true h4)
      rw [hd3, List.all_cons] at hu
      simp only [↓wR, RA, simprocAttr, TF, ae, h4, ha, Ak, hw]
      rw [bk]; refine ⟨fun h5 => ?_, fun h5 => ?_⟩
      · have h5' : oo w a (i : Int) = false := by simpa only [Bool.not_eq_true'] using h5
        rw [h5', Bool.false_and] at hu
        have e0 := bad (by unfold If; rw [if_pos hy, hu, if_neg (by decide)])
        simp only [↓wR, RA, simprocAttr, TF, ae, h5]
        rw [e0]
      · have h5' : oo w a (i : Int) = true := by simpa only [Bool.not_eq_false'] using h5
        rw [h5', Bool.true_and] at hu
        simp only [↓wR, RA, simprocAttr, TF, ae, h5]; repeat (simp (disch := omega) only [ah, ca, cb, bz, b9]; try simp only [↓wR, RA, simprocAttr, TF, ae, h5])
        exact ⟨k + 1, ⟨hlt3, hu⟩, by omega, by (first | rfl | trivial | omega | ((try (simp (disch := omega) only [ah])); (try (simp only [FB])); first | done | rfl | omega))⟩
    · rw [dv (decide_eq_false h4), List.all_nil] at hu
      have e0 : If w z i = 0 := by unfold If; rw [if_pos hy, if_pos hu]
      rw [e0, if_neg (by decide)] at hx
      simp only [↓wR, RA, simprocAttr, TF, ae, h4]; repeat (simp (disch := omega) only [ah, ca, cb, bz, b9]; try simp only [↓wR, RA, simprocAttr, TF, ae, h4])
      exact ⟨i + 1, ⟨hlt, hx⟩, by omega, by (first | rfl | trivial | omega | ((try (simp (disch := omega) only [ah])); (try (simp only [FB])); first | done | rfl | omega))⟩
  · rw [dv (decide_eq_false h)] at hx
    simp only [↓wR, RA, simprocAttr, TF, ae, h]
    rw [hx] <;> rfl
noncomputable def J2 (x : bd × Unit) : Option AV := if da x.1 then some ((r1 (aw .i64)).E true (Bd x.1)) else none
set_option maxRecDepth 2000000 in
theorem alv (x : bd × Unit) (r : AV) (h : J2 x = some r) : bf PP 48 ((aC ct a0).E x) r := by
  by_cases hc : da x.1
  case neg => simp only [J2, if_neg hc] at h; cases h
  simp only [J2, if_pos hc] at h
  cases h
  exact ba (ak.cons (ai U7) (ak.cons (ai Cr) (ak.cons (ai apj) (ak.cons (ai Lc) (ak.nil PP))))) Tryz.func48 (by kernel_rfl) (by kernel_rfl) (by kernel_rfl) (Nat.le_of_ble_eq_true (by kernel_rfl)) (r1 (aw .i64)) true (Bd x.1) (af6 x.1 hc)
noncomputable abbrev ax7 : Nat × Bool × (List AV → M AV) := (48, true, dc (aC ct a0) J2)
def B4 (w : bd) : Int := if (w.hints.all fun a => oo w a (rh w [])) = true then (if (w.hints.length : Int) = 0 then 307 else 0) else 307
theorem as1 (w : bd) (hw : da w) : wl PP [S2, aiq] 0 (Tryz.f49.body.getD .skip) (dj PP Tryz.f49.results.toList (fun r st => (r1 (aw .i64)).get true st.h r = some (B4 w))) (bw 0 [ct.val false w]) (bp []) := by
  have hl := hw.azt
  have h0 : be [] := by decide
  unfold Tryz.f49
  simp only [ek]
  simp only [↓wR, RA, simprocAttr, TF, ae, xw, hw, h0]
  refine dh [1, 3, 11, 12, 13] (fun (i : Nat) => [.ptr 0 0, .sc (.int .i64 (rh w [])), .vl false 1 (w.hints.map (bn.val false)), .sc (.int .i64 (w.hints.length)), .sc (.int .i64 (i))]) (fun _ => [some (.row [.vl false 2 (w.ay.map (bg.val false)), .vl false 2 (w.dk.map (dy.val false)), .vl false 1 (w.hints.map (bn.val false))] 0 2 100)]) (fun i => i ≤ w.hints.length ∧ (w.hints.all fun a => oo w a (rh w [])) = ((w.hints.drop i).all fun a => oo w a (rh w []))) (fun i => w.hints.length - i) 0 ⟨Nat.zero_le _, rfl⟩ (by simp only [↓wR, RA, simprocAttr, TF, ae] <;> rfl) (by simp only [↓wR, RA, simprocAttr, TF, ae] <;> rfl) ?_
  rintro i ⟨hi, hx⟩
  simp only [↓wR, RA, simprocAttr, TF, ae]
  unfold B4
  rw [bj]; refine ⟨fun h => ?_, fun h => ?_⟩
  · obtain ⟨a, ha, hd1, hlt⟩ := dt (decide_eq_true h)
    rw [hd1, List.all_cons] at hx
    simp only [↓wR, RA, simprocAttr, TF, ae, h, ha, Ak, hw]
    rw [bk]; refine ⟨fun h5 => ?_, fun h5 => ?_⟩
    · have h5' : oo w a (rh w []) = false := by simpa only [Bool.not_eq_true'] using h5
      rw [h5', Bool.false_and] at hx
      rw [hx, if_neg (by decide)]
      simp only [↓wR, RA, simprocAttr, TF, ae, h5]
    · have h5' : oo w a (rh w []) = true := by simpa only [Bool.not_eq_false'] using h5
      rw [h5', Bool.true_and] at hx
      simp only [↓wR, RA, simprocAttr, TF, ae, h5]; repeat (simp (disch := omega) only [ah, ca, cb, bz, b9]; try simp only [↓wR, RA, simprocAttr, TF, ae, h5])
      exact ⟨i + 1, ⟨hlt, hx⟩, by omega, by (first | rfl | trivial | omega | ((try (simp (disch := omega) only [ah])); (try (simp only [FB])); first | done | rfl | omega))⟩
  · rw [dv (decide_eq_false h), List.all_nil] at hx
    rw [if_pos hx]
    simp only [↓wR, RA, simprocAttr, TF, ae, h]
    rw [cy]; refine ⟨fun ⟨h2, e2⟩ => ?_, fun ⟨h2, e2⟩ => ?_⟩
    · rw [if_pos e2]
      simp only [↓wR, RA, simprocAttr, TF, ae, h2]
    · rw [if_neg e2]
      simp only [↓wR, RA, simprocAttr, TF, ae, h2]
noncomputable def Hm (x : bd × Unit) : Option AV := if da x.1 then some ((r1 (aw .i64)).E true (B4 x.1)) else none
set_option maxRecDepth 2000000 in
theorem agm (x : bd × Unit) (r : AV) (h : Hm x = some r) : bf PP 49 ((aC ct a0).E x) r := by
  by_cases hc : da x.1
  case neg => simp only [Hm, if_neg hc] at h; cases h
  simp only [Hm, if_pos hc] at h
  cases h
  exact ba (ak.cons (ai Bb) (ak.cons (ai Lc) (ak.nil PP))) Tryz.func49 (by kernel_rfl) (by kernel_rfl) (by kernel_rfl) (Nat.le_of_ble_eq_true (by kernel_rfl)) (r1 (aw .i64)) true (B4 x.1) (as1 x.1 hc)
noncomputable abbrev ax1 : Nat × Bool × (List AV → M AV) := (49, true, dc (aC ct a0) Hm)
end Go.Proofs.YtidomogemfchpaaGreat
end
namespace Go.Vm
noncomputable section
inductive Ac : bc → bc → Prop
  | rfl (x : bc) : Ac x x
  | perm (es es' : List (Value × AV)) (h : es.Perm es') (hl : loose es = true) : Ac (.map es) (.map es')
theorem Ac.ghost {x y} (hs : Ac x y) (h : Af y) : Af x := by
  cases hs with
  | rfl => exact h
  | perm es es' hp hl => obtain ⟨s, e, he⟩ := h; cases he
theorem Ac.obj {g w b base x y} (hs : Ac x y) (h : mg g w b base y) : mg g w b base x := by
  cases hs with
  | rfl => exact h
  | perm es es' hp hl =>
    obtain ⟨h0, ms, clock, h1, h2, h3, h4, l, h5, h6, h7⟩ := h
    refine ⟨h0, ms, clock, h1, by rw [h2, hp.length_eq], h3, h4, ?_⟩
    have hlen : l.length = es'.length := by rw [h5.length_eq, ← h2]; simp
    have key : ∀ (k k' : List (Value × AV)), k.Perm k' → ∀ l' : List MapEntry, l'.length = k'.length → (∀ (i : Nat) e m, k'[i]? = some e → l'[i]? = some m → m.key = e.1 ∧ Rel g w e.2 m.val) →
        ∃ l : List MapEntry, l.Perm l' ∧ l.length = k.length ∧ (∀ (i : Nat) e m, k[i]? = some e → l[i]? = some m → m.key = e.1 ∧ Rel g w e.2 m.val) := by
      intro k k' hp
      induction hp with
      | nil => intro l' hl' hr; exact ⟨l', .refl _, hl', hr⟩
      | cons a _ ih =>
        intro l' hl' hr
        cases l' with
        | nil => simp at hl'
        | cons m l' =>
          obtain ⟨l, q1, q2, q3⟩ := ih l' (by simpa using hl') (fun i e m' he hm => hr (i + 1) e m' (by simpa using he) (by simpa using hm))
          refine ⟨m :: l, q1.cons m, by simp [q2], fun i e m' he hm => ?_⟩
          cases i with
          | zero => exact hr 0 e m' (by simpa using he) (by simpa using hm)
          | succ i => exact q3 i e m' (by simpa using he) (by simpa using hm)
      | swap a b k =>
        intro l' hl' hr
        match l', hl' with
        | m :: n :: l', hl' =>
          refine ⟨n :: m :: l', List.Perm.swap _ _ _, by simpa using hl', fun i e m' he hm => ?_⟩
          match i with
          | 0 => exact hr 1 e m' (by simpa using he) (by simpa using hm)
          | 1 => exact hr 0 e m' (by simpa using he) (by simpa using hm)
          | i + 2 => exact hr (i + 2) e m' (by simpa using he) (by simpa using hm)
      | trans _ _ ih1 ih2 =>
        intro l' hl' hr
        obtain ⟨l2, q1, q2, q3⟩ := ih2 l' hl' hr
        obtain ⟨l1, p1, p2, p3⟩ := ih1 l2 q2 q3
        exact ⟨l1, p1.trans q1, p2, p3⟩
    obtain ⟨l2, q1, _, q3⟩ := key es es' hp l hlen h6
    exact ⟨l2, q1.trans h5, q3, .inr hl⟩
theorem Ok.abt {g h h' w} (hok : Ok g h' w) (hs : ∀ o x, h.get o = some x → ∃ y, h'.get o = some y ∧ Ac x y) : Ok g h w := by
  refine ⟨hok.size, fun o x hx => ?_, fun o o' x x' b base base' hne hx hx' => ?_, hok.K⟩
  · obtain ⟨y, h1, h2⟩ := hs o x hx
    refine (hok.mb o y h1).imp (fun q => ⟨q.1, h2.ghost q.2⟩) ?_
    rintro ⟨b, base, q1, q2, q3⟩
    exact ⟨b, base, q1, q2, h2.obj q3⟩
  · obtain ⟨y, h1, _⟩ := hs o x hx
    obtain ⟨y', h1', _⟩ := hs o' x' hx'
    exact hok.sep o o' y y' b base base' hne h1 h1'
theorem Y8 {h h' : Tr bc} (hs : ∀ o x, h.get o = some x → ∃ y, h'.get o = some y ∧ Ac x y) {o : Nat} (ho : (h.get o).isSome = true) : (h'.get o).isSome = true := by
  obtain ⟨x, hx⟩ := Option.isSome_iff_exists.1 ho
  obtain ⟨y, h1, _⟩ := hs o x hx
  rw [h1]; rfl
structure Lit where
  i : Nat
  d : TypeDesc
  e : Value × AV
def ph (lits : List Lit) (D : Nat → Bool) : List (Value × AV) := (lits.filter fun q => D q.i).map (·.e)
structure aa7 (lits : List Lit) : Prop where
  idx : (lits.map (·.i)).Nodup
  apart : ∀ q ∈ lits, ∀ r ∈ lits, q.i ≠ r.i → my q.e.1 r.e.1 = true ∧ Instr.sameNow q.d q.e.1 r.e.1 = some false
theorem adw {lits : List Lit} {D : Nat → Bool} {e : Value × AV} (h : e ∈ ph lits D) : ∃ q ∈ lits, D q.i = true ∧ q.e = e := by
  simp only [ph, List.mem_map, List.mem_filter] at h
  obtain ⟨q, ⟨h1, h2⟩, h3⟩ := h
  exact ⟨q, h1, h2, h3⟩
theorem Oo {D : Nat → Bool} : ∀ {lits : List Lit}, aa7 lits → n9 (ph lits D) = true
  | [], _ => rfl
  | q :: l, h => by
    have hl : aa7 l := ⟨by have := h.idx; rw [List.map_cons, List.nodup_cons] at this; exact this.2, fun a ha b hb => h.apart a (by simp [ha]) b (by simp [hb])⟩
    have ih := Oo (D := D) hl
    unfold ph at ih ⊢
    rw [List.filter_cons]
    split
    · simp only [List.map_cons, n9, Bool.and_eq_true, List.all_eq_true]
      refine ⟨fun x hx => ?_, ih⟩
      obtain ⟨r, h1, _, rfl⟩ := adw (D := D) hx
      refine (h.apart q (by simp) r (by simp [h1]) (fun e => ?_)).1
      have := h.idx
      rw [List.map_cons, List.nodup_cons] at this
      exact this.1 (by rw [e]; exact List.mem_map_of_mem h1)
    · exact ih
theorem arw {lits : List Lit} (h : (lits.map (·.i)).Nodup) {D : Nat → Bool} {q : Lit} (hq : q ∈ lits) (hD : D q.i = false) : (ph lits (j5 D q.i)).Perm (ph lits D ++ [q.e]) := by
  induction lits with
  | nil => cases hq
  | cons a l ih =>
    rw [List.map_cons, List.nodup_cons] at h
    unfold ph at ih ⊢
    rcases List.mem_cons.1 hq with rfl | hq
    · rw [List.filter_cons_of_pos (by simp [j5]), List.filter_cons_of_neg (by simp [hD])]
      have : l.filter (fun r => j5 D q.i r.i) = l.filter (fun r => D r.i) := by
        refine List.filter_congr fun r hr => ?_
        have : r.i ≠ q.i := fun e => h.1 (by rw [← e]; exact List.mem_map_of_mem hr)
        simp [j5, this]
      rw [this, List.map_cons]
      exact (List.perm_append_singleton _ _).symm
    · have hne : a.i ≠ q.i := fun e => h.1 (by rw [e]; exact List.mem_map_of_mem hq)
      have hu : j5 D q.i a.i = D a.i := by simp [j5, hne]
      cases hb : D a.i with
      | true =>
        rw [List.filter_cons_of_pos (by rw [hu, hb]), List.filter_cons_of_pos (by rw [hb])]
        exact (ih h.2 hq).cons _
      | false =>
        rw [List.filter_cons_of_neg (by rw [hu, hb]; simp), List.filter_cons_of_neg (by rw [hb]; simp)]
        exact ih h.2 hq
theorem ajv {lits : List Lit} {D : Nat → Bool} {i : Nat} (h : ∀ q ∈ lits, q.i ≠ i) : ph lits (j5 D i) = ph lits D := by
  unfold ph
  congr 1
  exact List.filter_congr fun q hq => by simp [j5, h q hq]
theorem an2 {lits : List Lit} {D : Nat → Bool} (h : ∀ q ∈ lits, D q.i = false) : ph lits D = [] := by
  unfold ph
  rw [List.filter_eq_nil_iff.2 (fun q hq => by simp [h q hq])]
  rfl
theorem arh {lits : List Lit} {D : Nat → Bool} (h : ∀ q ∈ lits, D q.i = true) : ph lits D = lits.map (·.e) := by
  unfold ph
  rw [List.filter_eq_self.2 (fun q hq => h q hq)]
theorem Kw (d : TypeDesc) (k : Value) : ∀ (l : List MapEntry) (i : Nat), (∀ m ∈ l, Instr.sameNow d k m.key = some false) → Instr.findNow d k l i = some none
  | [], _, _ => rfl
  | m :: l, i, h => by
    rw [Instr.findNow, h m (by simp)]
    exact Kw d k l (i + 1) (fun m hm => h m (by simp [hm]))
theorem Sb {P : Program} {kt : TypeId} {d : TypeDesc} {k : Value} {es : List (Value × AV)} (hu : P.underlying kt = some d) (h : ∀ e ∈ es, Instr.sameNow d k e.1 = some false) : oi P kt k es = some none := by
  have hf : Instr.findNow d k (lj es) 0 = some none := Kw d k _ 0 (fun m hm => by
    simp only [lj, List.mem_map] at hm
    obtain ⟨e, he, rfl⟩ := hm
    exact h e he)
  have hn : Is P kt k es = true := by unfold Is; rw [hu]; simp only; rw [hf]; rfl
  unfold oi
  rw [hn, Bool.or_true, cond_true]
  have hevu : ev P (underlying kt) = some d := by
    simp [underlying, program, ev, hu, ot, ui, Sem.bind, bind]
  have : ev P (Instr.findKey kt k (lj es)) = some none := by
    unfold Instr.findKey
    rw [ot, hevu]
    simp only [Option.bind_some]
    rw [hf]; rfl
  rw [this]; rfl
theorem Step.abt {g h w lo hi g' h' h'' w'} (s : Step g h w lo hi g' h' w') (hs : ∀ o x, h''.get o = some x → ∃ y, h'.get o = some y ∧ Ac x y) : Step g h w lo hi g' h'' w' :=
  ⟨s.ext, s.size, s.os, s.tape, s.output, s.frame, s.fresh, fun o b base ho hi => s.own o b base (Y8 hs ho) hi, s.n7⟩
def s9 (o : Oper) : Bool := match o.op with | .insert .. => true | _ => false
def u7 (ops : Array Oper) (L : SL) (o : Oper) : Option Bool := bif s9 o then some false else xp ops L o
def akr (P : Program) (T : ed) (ops : Array Oper) (E : List Rec → Prop) : List Oper → (SL → St → Prop) → List Rec → SL → St → Prop
  | [], K => fun recs L st => E recs ∧ K L st
  | o :: r, K => fun recs L st => (u7 ops L o = some true ∧ Sq P T o recs (akr P T ops E r K) L st) ∨ (u7 ops L o = some false ∧ akr P T ops E r K (recs ++ [⟨[], []⟩]) (gj o.dst (.sc undef) L) st)
theorem aq8 {P : Program} {T : ed} {ops : Array Oper} {E : List Rec → Prop} {K : SL → St → Prop} : ∀ (l : List Oper) (L : SL) (st : St) (recs : List Rec), akr P T ops E l K recs L st →
    ∃ ds L' st', ds.map (·.o) = l ∧ (∀ d ∈ ds, DSRun P T d ∧ u7 ops d.L d.o = some d.want) ∧ M4 ds L st L' st' ∧ E (recs ++ ds.map fun d => ⟨d.R, d.W⟩) ∧ K L' st' := by
  intro l
  induction l with
  | nil => intro L st recs h; exact ⟨[], L, st, rfl, by simp, ⟨rfl, rfl⟩, by simpa using h.1, h.2⟩
  | cons o l ih =>
    intro L st recs h
    rcases h with ⟨hb, F, W, v, bh, hop, h4, h5, h6, h7, h8⟩ | ⟨hb, h3⟩
    · obtain ⟨ds, L', st', e1, e2, e3, e4, e5⟩ := ih _ _ _ h8
      have hle := xk hop
      refine ⟨{ o, L, st, want := true, v, bh, R := F, W := W ++ dm st.nx (bh.nx - st.nx) } :: ds, L', st', by simp [e1], ?_, ⟨rfl, rfl, ?_⟩, ?_, e5⟩
      · intro d hd
        rcases List.mem_cons.1 hd with rfl | hd
        · refine ⟨⟨fun _ => ⟨hop, h6, h7, fun q => ?_, fun q hq hn => ?_⟩, fun e => by cases e⟩, hb⟩
          · simp only [List.mem_append, g7]
            constructor
            · rintro (hq | hq)
              · exact .inl ⟨.inl hq, h4 q hq⟩
              · exact .inr ⟨hq.1, by simp at hle; omega⟩
            · rintro (hq | hq)
              · exact hq.1
              · exact .inr ⟨hq.1, by omega⟩
          · have := h5 q hq (fun hw => hn (List.mem_append.2 (.inl hw)))
            rw [pv _ _ _ (fun p hp => by have := h6 p hp; simp at hle; omega), if_pos hq] at this
            exact this
        · exact e2 d hd
      · exact e3
      · simpa [List.append_assoc] using e4
    · obtain ⟨ds, L', st', e1, e2, e3, e4, e5⟩ := ih _ _ _ h3
      refine ⟨{ o, L, st, want := false, v := .sc undef, bh := st, R := [], W := [] } :: ds, L', st', by simp [e1], ?_, ⟨rfl, rfl, ?_⟩, ?_, e5⟩
      · intro d hd
        rcases List.mem_cons.1 hd with rfl | hd
        · exact ⟨⟨(fun e => by cases e), fun _ => ⟨rfl, rfl, rfl, rfl⟩⟩, hb⟩
        · exact e2 d hd
      · exact e3
      · simpa [List.append_assoc] using e4
theorem asb {P : Program} {T : ed} {ops : Array Oper} {ds : List DS} {L : SL} {st : St} {L' : SL} {st' : St} (hs : l7 ops = true) (e1 : ds.map (·.o) = ops.toList) (e2 : ∀ d ∈ ds, DSRun P T d) (e3 : M4 ds L st L' st') : s7 P T ops ds L st L' st' := by
  obtain ⟨c1, c2, c3, c4⟩ := afn e2 e3
  unfold l7 at hs
  rw [Bool.and_eq_true] at hs
  refine ⟨e1, e2, c1, ⟨c2, c3, c4⟩, fun i k x y t hik hx hy ht hdt => ?_, fun i o ho e he hb => ?_⟩
  · have hxi : (x.o, i) ∈ ops.toList.zipIdx := by
      rw [List.mem_zipIdx_iff_getElem?, ← e1]; simp [hx]
    have hyk : (y.o, k) ∈ ops.toList.zipIdx := by
      rw [List.mem_zipIdx_iff_getElem?, ← e1]; simp [hy]
    have h1 := List.all_eq_true.1 hs.1 _ hxi
    have h2 := List.all_eq_true.1 h1 t ht
    have h3 := List.all_eq_true.1 h2 _ hyk
    simp only [hdt, Bool.or_eq_true] at h3
    rcases h3 with (h3 | h3) | h3
    · simp at h3
    · simp at h3; omega
    · rw [Nat.max_comm, Nat.min_comm]; exact h3
  · have hoi : (o, i) ∈ ops.toList.zipIdx := by rw [List.mem_zipIdx_iff_getElem?]; simpa using ho
    have h1 := List.all_eq_true.1 hs.2 _ hoi
    rw [Array.all_eq_true_iff_forall_mem] at h1
    have := h1 e he
    rw [hb] at this
    simpa using this
theorem avn {ops : Array Oper} {ds : List DS} (e4 : gk (Region.before ops) 0 (ds.map fun d => ⟨d.R, d.W⟩) = true) : Calm ops ds := fun i k x y hik hx hy => by
  have := Gk _ 0 e4 i k ⟨x.R, x.W⟩ ⟨y.R, y.W⟩ hik (by simp [hx]) (by simp [hy])
  simp only [vt, Nat.zero_add, Bool.or_eq_true, Bool.and_eq_true] at this
  rcases this with h1 | h1
  · exact .inr ⟨h1.1.1, h1.1.2, h1.2⟩
  · exact .inl h1
end
end Go.Vm
namespace Go.Vm
noncomputable section
theorem At.ins {H : (Nat → Bool) → Nat → Option bc} {P : Program} {T : ed} (hT : nk P T) {ops : Array Oper} {ds : List DS} {L0 : SL} {g0 : Gh} {st0 : St} {w0 : World} {df : List Deferred} {ro : Option Nat} {N : Nat} {nt : Nat} {L' : SL} {st' : St} (R : s7 P T ops ds L0 st0 L' st')
    {D : Nat → Bool} {a : Act} {w : World} {i : Nat} {d : DS} (hi : ds[i]? = some d) (hD : D i = false) (hr : ∀ e ∈ d.o.after, Region.binds .any e = true → D e.on = true) (A : At H ops ds L0 g0 st0 w0 df nt (i6 ds st0.nx ds.length) D a w)
    {t : TypeId} {m k x : Operand} (hop : d.o.op = .insert t m k x) (hdst : d.o.dst = none) (hgd : d.o.guard = none) {p : Nat} {kt et : TypeId} {key : Value} (hu : P.underlying t = some (.map kt et)) (hm : cj d.o d.L m = .mp p) (hkey : (cj d.o d.L k).fy = some key)
    (hck : ev P (Instr.checkKey false 10000 kt key) = some ()) {es : List (Value × AV)} (hes : H D p = some (.map es)) (hlim : p ≤ cq) (hplt : p < i6 ds st0.nx ds.length) (hfind : oi P kt key es = some none) (hst : stays es (es ++ [(key, cj d.o d.L x)]) = true)
    {es' : List (Value × AV)} (hes' : H (j5 D i) p = some (.map es')) (hsame : Ac (.map es') (.map (es ++ [(key, cj d.o d.L x)]))) (hoth : ∀ o, o ≠ p → H (j5 D i) o = H D o)
    {Q : Exit → Act → World → Prop} {K : Act → World → Prop} (hK : ∀ a' w', At H ops ds L0 g0 st0 w0 df nt (i6 ds st0.nx ds.length) (j5 D i) a' w' → K a' w') : wpOpIn (ft ro) N P ops Q i K a w := by
  have ho := R.get hi
  have hbef := vy A.closed ho hr
  have hcl := A.closed.j5 ho hr
  obtain ⟨a1, a2, a3, a4⟩ := R.uz i d hi
  obtain ⟨g, h, h1, h2, h3, h4, h5⟩ := A.mem
  have slot : ∀ t ∈ tz ops d.o, jv ds L0 D ds.length t = lk d.L t := by
    intro t ht
    have hlt : i < ds.length := (List.getElem?_eq_some_iff.1 hi).1
    have := Lr (L0 := L0) (D := D) (i := i) (t := t) (ds := ds) (fun k e hk he => ?_) ds.length
    · rw [this, a1 t]; congr 1; omega
    · rcases Nat.lt_trichotomy k i with hlt' | rfl | hgt
      · have := R.slots i k d e t (by omega) hi hk ht he
        rw [show max i k = i from by omega, show min i k = k from by omega] at this
        exact ⟨fun _ => hlt', fun _ => hbef k this⟩
      · exact ⟨(fun q => by rw [hD] at q; cases q), (fun q => by omega)⟩
      · have := R.slots i k d e t (by omega) hi hk ht he
        rw [show max i k = k from by omega, show min i k = i from by omega] at this
        exact ⟨(fun q => by have := A.closed k i q this; rw [hD] at this; cases this), (fun q => by omega)⟩
  have mono1 : ∀ i d, ds[i]? = some d → d.st.nx = i6 ds st0.nx i ∧ d.st.nx ≤ d.bh.nx := fun i d hd => ⟨(R.uz i d hd).2.2.1, (R.uz i d hd).2.2.2⟩
  have hp : ∀ q ∈ [p], q ≤ cq := fun q hq => by rw [List.mem_singleton] at hq; subst hq; exact hlim
  have hmask : ∀ o, (jy h [p]).get o = if o = p then h.get o else none := fun o => by rw [pv _ _ _ hp]; simp
  have hsub : ∀ o x, (jy h [p]).get o = some x → h.get o = some x := fun o x hx => by
    rw [hmask] at hx
    by_cases e : o = p
    · rw [if_pos e] at hx; exact hx
    · rw [if_neg e] at hx; cases hx
  have hrel : mj g w (cj d.o d.L) a.eval := Vb fun t ⟨x, hx, e⟩ => by
    have hu : t ∈ tz ops d.o := by
      simp only [tz, List.mem_append, List.mem_filterMap]
      exact .inl (.inr ⟨x, hx, by rw [e]⟩)
    rw [← slot t hu]
    exact h4 t
  have hgp : (jy h [p]).get p = some (.map es) := by rw [hmask, if_pos rfl, h1, hes]
  obtain ⟨bh, hst1⟩ : ∃ bh : St, bh = { h := (jy h [p]).set depth p (some (.map (es ++ [(key, cj d.o d.L x)]))), nx := i6 ds st0.nx ds.length, rl := [p], wl := [p] } := ⟨_, rfl⟩
  have hrun : ey P T d.o (cj d.o d.L) { h := jy h [p], nx := i6 ds st0.nx ds.length, rl := [], wl := [] } = some (.sc undef, bh) := by
    have h6 : Bj P d.o (cj d.o d.L) { h := jy h [p], nx := i6 ds st0.nx ds.length, rl := [], wl := [] } = some (.sc undef, bh) := by
      unfold Bj
      rw [hop]
      simp only [lx, hu, hm, hkey, M.bind, cx, hgp, pr, hck, hfind, hst, cond_true, ic, M.pure, hst1]
      rw [show Nat.ble p cq = true from Nat.ble_eq_true_of_le hlim]
      rfl
    have h7 : ey P T d.o (cj d.o d.L) = mono (Bj P d.o (cj d.o d.L)) := by unfold ey; rw [hop]
    rw [h7, mono, h6]
    simp only
    rw [hst1]
    simp only
    rw [show Nat.ble (i6 ds st0.nx ds.length) (i6 ds st0.nx ds.length) = true from Nat.ble_eq_true_of_le (Nat.le_refl _)]
    rfl
  unfold wpOpIn
  rw [ho]
  dsimp only
  rw [if_pos (by simp [Region.wanted, hgd])]
  refine Fp hT (h2.part hsub) (fun o q1 q2 => by rw [hst1] at q2; exact absurd (Nat.lt_of_le_of_lt q1 q2) (Nat.lt_irrefl _)) (fun o x hx => ?_) hrel hrun ro N _ _ ?_
  · have hx' : (jy h [p]).get o = some x := hx
    rw [hmask] at hx'
    by_cases e : o = p
    · subst e; exact hplt
    · rw [if_neg e] at hx'; cases hx'
  rintro u w' ⟨g', q1, q2, q3⟩
  have hget1 : ∀ o, bh.h.get o = if o = p then some (.map (es ++ [(key, cj d.o d.L x)])) else none := fun o => by
    rw [hst1]
    simp only
    rw [eh _ _ _ _ hlim, hmask]
    by_cases e : o = p
    · rw [if_pos e, if_pos e]
    · rw [if_neg e, if_neg e, if_neg e]
  have hfs := Uw (h' := o0 bh.h [p] h) (S := fun o => o ∈ [p]) h2 hsub (fun o x hx => by
    rw [hmask] at hx
    by_cases e : o = p
    · rw [e]; exact List.mem_singleton.2 rfl
    · rw [if_neg e] at hx; cases hx) q1 q2 (fun o hS => by rw [nq _ _ _ _ hp, if_pos hS]) (fun o hS => by rw [nq _ _ _ _ hp, if_neg hS]) (fun o e1 e2 => by rw [hst1] at e2; exact absurd (Nat.lt_of_le_of_lt e1 e2) (Nat.lt_irrefl _))
  have hH : ∀ o, ((o0 bh.h [p] h).set depth p (some (.map es'))).get o = H (j5 D i) o := fun o => by
    rw [eh _ _ _ _ hlim]
    by_cases e : o = p
    · rw [if_pos e, e, hes']
    · rw [if_neg e, nq _ _ _ _ hp, if_neg (by simpa using e), h1, hoth o e]
  have hcov : ∀ o y, ((o0 bh.h [p] h).set depth p (some (.map es'))).get o = some y → ∃ z, (o0 bh.h [p] h).get o = some z ∧ Ac y z := fun o y hy => by
    rw [eh _ _ _ _ hlim] at hy
    by_cases e : o = p
    · rw [if_pos e] at hy
      cases hy
      refine ⟨_, ?_, hsame⟩
      rw [nq _ _ _ _ hp, if_pos (by simpa using e), hget1, if_pos e]
    · rw [if_neg e] at hy
      exact ⟨y, hy, .rfl _⟩
  have hnx1 : bh.nx = i6 ds st0.nx ds.length := by rw [hst1]
  refine hK _ _ ⟨⟨g', _, hH, hfs.2.abt hcov, (h3.both ((by have := hfs.1; rw [hnx1] at this; exact this.Z8 (kx mono1 ds.length 0 (Nat.zero_le _)) (Nat.le_refl _)))).abt hcov, fun t => ?_, fun k e hk hkD o o1 o2 => ?_⟩, by rw [Q6]; exact A.size, by rw [put_defers]; exact A.defers, hcl⟩
  · rw [Q9 hi (fun q => by rw [hdst] at q; cases q), if_neg (fun q => by have := q.1; rw [hdst] at this; cases this), hdst]
    exact (h4 t).ext q1.ext
  · have hki : k ≠ i := fun q => by subst q; simp [j5] at hkD
    simp only [j5, if_neg hki] at hkD
    exact q1.fresh o (h5 k e hk hkD o o1 o2) (fun q => by have := q.2; rw [hnx1] at this; exact absurd (Nat.lt_of_le_of_lt q.1 this) (Nat.lt_irrefl _))
theorem Yd {P : Program} {T : ed} (hm : P.follows .mixedOrders = true) {H : (Nat → Bool) → Nat → Option bc} {ops : Array Oper} {ro : Option Nat} {N : Nat} {B : fq} {nt id : Nat} {Q : Exit → Act → World → Prop} {ds : List DS} {L : SL} {st : St} {L' : SL} {st' stF : St} (R : s7 P T ops ds L st L' st')
    {g : Gh} {w : World} {a : Act} (h0 : ∀ o, H (fun _ => false) o = st.h.get o) (hF : ∀ D, (∀ i, i < ds.length → D i = true) → ∀ o, H D o = stF.h.get o) (hnF : stF.nx = st'.nx)
    (hstep : ∀ (w0 : World) (D : Nat → Bool) (a' : Act) (w' : World) (i : Nat) (d : DS) (Q : Exit → Act → World → Prop) (K : Act → World → Prop), ds[i]? = some d → D i = false → (∀ e ∈ d.o.after, Region.binds .any e = true → D e.on = true) → At H ops ds L g st w0 a.defers nt (i6 ds st.nx ds.length) D a' w' → (∀ a'' w'', At H ops ds L g st w0 a.defers nt (i6 ds st.nx ds.length) (j5 D i) a'' w'' → K a'' w'') → wpOpIn (ft ro) N P ops Q i K a' w')
    (hnear : B.ux st.nx st'.nx) (hc : ff B g st w) (hr : ec g w nt L a.tmps) (hd : Marks B.n0 st.h g w a.defers)
    (hK : ∀ g w a', ff B g stF w → ec g w nt L' a'.tmps → Marks B.n0 stF.h g w a'.defers → a'.defers = a.defers → Q .normal a' w) :
    (Code.region id ops true).wpIn (ft ro) N P Q a w := by
  have c1 := R.uz
  obtain ⟨c2, c3, c4⟩ := R.fin
  have hc1 := hc.drawn
  have hd' : Marks B.n0 st.h g { w with drawn := w.drawn + 1 } a.defers := hd
  have mono1 : ∀ i d, ds[i]? = some d → d.st.nx = i6 ds st.nx i ∧ d.st.nx ≤ d.bh.nx := fun i d hd => ⟨(c1 i d hd).2.2.1, (c1 i d hd).2.2.2⟩
  refine wpIn_region_any hm (ao5 (H := H) (L0 := L) (g0 := g) (st0 := st) (w0 := { w with drawn := w.drawn + 1 }) (df := a.defers) R (fun D a w i d Q K hi hD hr A hK => hstep _ D a w i d Q K hi hD hr A hK) ?_ ops.size _ a _ (by simp) ?_ ?_)
  · intro D a' w' hall A
    obtain ⟨g', h', q1, q2, q3, q4, q5⟩ := A.mem
    have hh : ∀ o, h'.get o = stF.h.get o := fun o => by rw [q1 o, hF D hall o]
    have hle : st.nx ≤ st'.nx := by rw [c4]; exact kx mono1 ds.length 0 (Nat.zero_le _)
    refine hK g' w' a' (hc1.step (st' := stF) (by rw [hnF]; exact hnear) ⟨by rw [hnF]; exact hle, ?_⟩ (q2.congr hh)) ⟨A.size, fun t => ?_⟩ (by rw [A.defers]; exact Marks.congr (Marks.step q3 hd') hh) A.defers
    · rw [hnF, c4]; exact q3.congr hh
    · rw [c2 t, ← Ql _ hall]; exact q4 t
  · exact Vf _ _
  · have hf : (fun k => (Array.replicate ops.size false).getD k false) = fun _ => false := by
      funext k
      simp only [Array.getD_eq_getD_getElem?, Array.getElem?_replicate]
      split <;> rfl
    rw [hf]
    exact ⟨⟨g, st.h, fun o => (h0 o).symm, hc1.ok, .refl _ _ _ _ _, fun t => by
        rw [Lg]; exact (hr.2 t).ext (Ext.same (w := w) (w' := { w with drawn := w.drawn + 1 }) rfl), fun i d hd _ o h1 h9 => hc.fresh o (by
        have := kx mono1 i 0 (Nat.zero_le _)
        rw [(c1 i d hd).2.2.1] at h1
        exact Nat.le_trans this h1) (hnear o (by
        have := kx mono1 i 0 (Nat.zero_le _)
        rw [(c1 i d hd).2.2.1] at h1
        exact Nat.le_trans this h1) (by
        rw [c4]
        have h10 := kx mono1 ds.length (i + 1) (List.getElem?_eq_some_iff.1 hd).1
        rw [i6.eq_2, hd] at h10
        exact Nat.lt_of_lt_of_le h9 h10))⟩, hr.1, rfl, fun i k hik => by cases hik⟩
theorem Du {ds : List DS} {h0 : Tr bc} {D : Nat → Bool} {p : Nat} : ∀ m, (∀ k e, k < m → ds[k]? = some e → D k = true → p ∉ e.W) → jj ds h0 D m p = h0.get p
  | 0, _ => rfl
  | m + 1, h => by
    have ih := Du (h0 := h0) (D := D) (p := p) m (fun k e hk => h k e (by omega))
    rw [jj]
    cases hd : ds[m]? with
    | none => exact ih
    | some d =>
      simp only
      rw [if_neg (fun q => h m d (by omega) hd q.1 q.2), ih]
theorem Y2 {ds : List DS} {h0 : Tr bc} {D : Nat → Bool} {p k0 : Nat} {d : DS} (hd : ds[k0]? = some d) (hW : p ∈ d.W) (hD : D k0 = true) (ho : ∀ k e, ds[k]? = some e → k ≠ k0 → p ∉ e.W) : ∀ m, k0 < m → jj ds h0 D m p = d.bh.h.get p
  | 0, h => by omega
  | m + 1, h => by
    rw [jj]
    by_cases e : m = k0
    · subst e
      rw [hd]
      simp only
      rw [if_pos ⟨hD, hW⟩]
    · have ih := Y2 (h0 := h0) hd hW hD ho m (by omega)
      cases hm : ds[m]? with
      | none => exact ih
      | some f =>
        simp only
        rw [if_neg (fun q => ho m f hm e q.2), ih]
def Jy (ds : List DS) (h0 : Tr bc) (p k0 : Nat) (lits : List Lit) (D : Nat → Bool) (o : Nat) : Option bc := if o = p then (if D k0 = true then some (.map (ph lits D)) else h0.get p) else jj ds h0 D ds.length o
structure ay3 (P : Program) (ops : Array Oper) (ds : List DS) (p k0 : Nat) (q : Lit) : Prop where
  uz : ∃ d, ds[q.i]? = some d ∧ ∃ t m k x kt et, d.o.op = .insert t m k x ∧ d.o.dst = none ∧ d.o.guard = none ∧ P.underlying t = some (.map kt et) ∧ P.underlying kt = some q.d ∧ cj d.o d.L m = .mp p ∧ (cj d.o d.L k).fy = some q.e.1 ∧ ev P (Instr.checkKey false 10000 kt q.e.1) = some () ∧ cj d.o d.L x = q.e.2
  bef : ((Region.before ops).getD q.i 0).testBit k0 = true
theorem aog {P : Program} {T : ed} (hT : nk P T) (hm : P.follows .mixedOrders = true) {ops : Array Oper} {ro : Option Nat} {N : Nat} {B : fq} {nt id : Nat} {Q : Exit → Act → World → Prop} (hg : ou nt ops = true) (hdst : tw nt ops = true) {ds : List DS} {L : SL} {st : St} {L' : SL} {st' stF : St} (R : s7 P T ops ds L st L' st') (C : Calm ops ds)
    (hgY : ∀ d ∈ ds, u7 ops d.L d.o = some d.want) {p k0 : Nat} {lits : List Lit} (hl : aa7 lits) (hat : ∀ q ∈ lits, ay3 P ops ds p k0 q) (hall : ∀ i d, ds[i]? = some d → s9 d.o = true → ∃ q ∈ lits, q.i = i) {d0 : DS} (hk0 : ds[k0]? = some d0) (hk0' : s9 d0.o = false) (hno : ∀ k e, ds[k]? = some e → k ≠ k0 → p ∉ e.R ∧ p ∉ e.W)
    (hp : st'.h.get p = some (.map [])) (hplt : p < st'.nx) (hlim : p ≤ cq) (hF : ∀ o, stF.h.get o = if o = p then some (.map (lits.map (·.e))) else st'.h.get o) (hnF : stF.nx = st'.nx)
    {g : Gh} {w : World} {a : Act} (hnear : B.ux st.nx st'.nx) (hc : ff B g st w) (hr : ec g w nt L a.tmps) (hd : Marks B.n0 st.h g w a.defers)
    (hK : ∀ g w a', ff B g stF w → ec g w nt L' a'.tmps → Marks B.n0 stF.h g w a'.defers → a'.defers = a.defers → Q .normal a' w) :
    (Code.region id ops true).wpIn (ft ro) N P Q a w := by
  have hlt0 : k0 < ds.length := (List.getElem?_eq_some_iff.1 hk0).1
  have hlen : ∀ q ∈ lits, q.i < ds.length := fun q hq => by
    obtain ⟨d, h1, _⟩ := (hat q hq).uz
    exact (List.getElem?_eq_some_iff.1 h1).1
  have hne0 : ∀ q ∈ lits, q.i ≠ k0 := fun q hq e => by
    obtain ⟨d, h1, t, m, k, x, kt, et, h2, _⟩ := (hat q hq).uz
    rw [e, hk0] at h1
    cases h1
    unfold s9 at hk0'
    rw [h2] at hk0'
    cases hk0'
  have hfin : jj ds st.h (fun _ => true) ds.length p = some (.map []) := by rw [← R.fin.2.1 p, hp]
  have hW0 : p ∈ d0.W → d0.bh.h.get p = some (.map []) := fun hW => by
    rw [← Y2 (h0 := st.h) (D := fun _ => true) hk0 hW rfl (fun k e hk hne => (hno k e hk hne).2) ds.length hlt0]; exact hfin
  have hN0 : p ∉ d0.W → st.h.get p = some (.map []) := fun hW => by
    rw [← Du (h0 := st.h) (D := fun _ => true) (p := p) ds.length (fun k e _ hk _ => by
      by_cases h : k = k0
      · rw [h, hk0] at hk; cases hk; exact hW
      · exact (hno k e hk h).2)]
    exact hfin
  have hnx : st'.nx = i6 ds st.nx ds.length := R.fin.2.2
  refine Yd hm (H := Jy ds st.h p k0 lits) (stF := stF) R (fun o => ?_) (fun D hD o => ?_) hnF (fun w0 D a' w' i d Q K hi hD hrd A hK => ?_) hnear hc hr hd hK
  · unfold Jy
    by_cases e : o = p
    · rw [if_pos e, if_neg (by simp), e]
    · rw [if_neg e, Fk]
  · unfold Jy
    rw [hF]
    by_cases e : o = p
    · rw [if_pos e, if_pos e, if_pos (hD k0 hlt0), arh (fun q hq => hD _ (hlen q hq))]
    · rw [if_neg e, if_neg e, Iy _ hD, ← R.fin.2.1 o]
  · have hbef := vy A.closed (R.get hi) hrd
    have hmem := List.mem_of_getElem? hi
    have hgv := hgY d hmem
    have hcalm := D9 R C hi hD A.closed hrd
    cases hins : s9 d.o with
    | false =>
      have hgv' : xp ops d.L d.o = some d.want := by unfold u7 at hgv; rw [hins] at hgv; exact hgv
      have hnl : ∀ q ∈ lits, q.i ≠ i := fun q hq e => by
        obtain ⟨d', h1, t, m, k, x, kt, et, h2, _⟩ := (hat q hq).uz
        rw [e, hi] at h1
        cases h1
        unfold s9 at hins
        rw [h2] at hins
        cases hins
      refine At.step hT R hg hdst hi hgv' (fun o ho => ?_) (fun o => ?_) hD hrd A hK
      · unfold Jy
        by_cases e : o = p
        · subst e
          by_cases hik : i = k0
          · subst hik
            rw [if_pos rfl, if_neg (by rw [hD]; simp)]
            rw [(R.uz i d hi).2.1 o, Du i (fun k e hk he _ => (hno k e he (by omega)).2)]
          · exact ((hno i d hi hik).1 ho).elim
        · rw [if_neg e]; exact hcalm.1 o ho
      · unfold Jy
        by_cases e : o = p
        · subst e
          rw [if_pos rfl, if_pos rfl]
          by_cases hik : i = k0
          · subst hik
            rw [hk0] at hi
            cases hi
            have hen : ph lits (j5 D i) = [] := an2 (fun q hq => by
              have hne := hne0 q hq
              simp only [j5, if_neg hne]
              cases hDq : D q.i with
              | false => rfl
              | true => have := A.closed q.i i hDq (hat q hq).bef; rw [hD] at this; cases this)
            rw [if_pos (show j5 D i i = true from by simp [j5]), hen]
            by_cases hW : o ∈ d0.W
            · rw [if_pos hW, hW0 hW]
            · rw [if_neg hW, if_neg (by rw [hD]; simp), hN0 hW]
          · rw [if_neg (hno i d hi hik).2, ajv hnl]
            simp only [j5, if_neg (Ne.symm hik)]
        · rw [if_neg e, if_neg e]; exact hcalm.2 o
    | true =>
      obtain ⟨q, hq, rfl⟩ := hall i d hi hins
      obtain ⟨d', h1, t, m, k, x, kt, et, h2, h3, h4, h5, h6, h7, h8, h9, h10⟩ := (hat q hq).uz
      rw [hi] at h1
      cases h1
      have hDk : D k0 = true := hbef k0 (hat q hq).bef
      have hne := hne0 q hq
      have hothers : ∀ e ∈ ph lits D, ∃ r ∈ lits, r.i ≠ q.i ∧ r.e = e := fun e he => by
        obtain ⟨r, r1, r2, r3⟩ := adw he
        exact ⟨r, r1, (fun e => by rw [e, hD] at r2; cases r2), r3⟩
      have hperm := arw hl.idx hq hD
      have hW : d.W = [] := by
        have : d.want = false := by
          unfold u7 at hgv
          rw [hins] at hgv
          simpa using hgv.symm
        exact ((R.ok d hmem).skip this).2.2.2
      refine At.ins hT R hi hD hrd A h2 h3 h4 h5 h7 h8 h9 (es := ph lits D) (es' := ph lits (j5 D q.i)) ?_ hlim (by rw [← hnx]; exact hplt) (Sb h6 (fun e he => ?_)) ?_ ?_ ?_ (fun o e => ?_) hK
      · unfold Jy; rw [if_pos rfl, if_pos hDk]
      · obtain ⟨r, r1, r2, rfl⟩ := hothers e he
        exact (hl.apart q hq r r1 (Ne.symm r2)).2
      · have hqe : (q.e.1, cj d.o d.L x) = q.e := by rw [h10]
        rw [hqe]
        unfold stays
        cases hlo : loose (ph lits D) with
        | false => rfl
        | true =>
          have : loose (ph lits D ++ [q.e]) = true := by
            unfold loose at hlo ⊢
            simp only [Bool.and_eq_true] at hlo ⊢
            refine ⟨Nat.ble_eq_true_of_le (by have := Nat.le_of_ble_eq_true hlo.1; rw [List.length_append]; omega), ?_⟩
            have key : ∀ l : List (Value × AV), n9 l = true → (∀ e ∈ l, my e.1 q.e.1 = true) → n9 (l ++ [q.e]) = true := by
              intro l
              induction l with
              | nil => intro _ _; rfl
              | cons b l ih =>
                intro h1 h2
                simp only [n9, List.cons_append, Bool.and_eq_true, List.all_eq_true] at h1 ⊢
                refine ⟨fun y hy => ?_, ih h1.2 (fun e he => h2 e (by simp [he]))⟩
                rcases List.mem_append.1 hy with hy | hy
                · exact h1.1 y hy
                · rw [List.mem_singleton] at hy; rw [hy]; exact h2 b (by simp)
            refine key _ hlo.2 (fun e he => ?_)
            obtain ⟨r, r1, r2, rfl⟩ := hothers e he
            exact (hl.apart r r1 q hq r2).1
          rw [this]; rfl
      · unfold Jy; rw [if_pos rfl, if_pos (by simp [j5, hDk])]
      · have hqe : (q.e.1, cj d.o d.L x) = q.e := by rw [h10]
        rw [hqe]
        by_cases h2 : 2 ≤ (ph lits (j5 D q.i)).length
        · refine .perm _ _ hperm ?_
          unfold loose
          rw [Nat.ble_eq_true_of_le h2, Oo hl]
          rfl
        · have h3 : (ph lits D).length = 0 := by have := hperm.length_eq; rw [List.length_append] at this; simp at this; omega
          have h4 : ph lits D = [] := List.eq_nil_of_length_eq_zero h3
          rw [h4] at hperm ⊢
          rw [List.nil_append] at hperm ⊢
          rw [List.perm_singleton.1 hperm]
          exact .rfl _
      · unfold Jy
        rw [if_neg e, if_neg e, hcalm.2 o, hW, if_neg (by simp)]
end
end Go.Vm
section
set_option linter.unusedSimpArgs false
set_option linter.unusedVariables false
namespace Go.Vm
def Ab (a : UInt32) : Value × AV := (.int .u32 a.toNat, .sc (.bool true))
def kh (l : List UInt32) : List (Value × AV) := l.map Ab
theorem Qt (a b : UInt32) : Instr.sameNow (.int .u32) (.int .u32 a.toNat) (Ab b).1 = some (a == b) := by
  show (if IntKind.u32 = IntKind.u32 then some (((a.toNat : Int)) == (b.toNat : Int)) else none) = _
  rw [if_pos rfl]
  congr 1
  rw [Bool.eq_iff_iff, beq_iff_eq, beq_iff_eq]
  exact ⟨fun h => UInt32.toNat_inj.1 (by omega), fun h => by rw [h]⟩
theorem Uq {P : Program} {kt : TypeId} (hu : P.underlying kt = some (.int .u32)) (a : UInt32) (l : List UInt32) :
    (l.contains a = false ∧ oi P kt (.int .u32 a.toNat) (kh l) = some none) ∨ (l.contains a = true ∧ ∃ i, oi P kt (.int .u32 a.toNat) (kh l) = some (some i) ∧ (kh l)[i]? = some (Ab a)) := by
  have hall : ∀ m ∈ lj (kh l), (Instr.sameNow (.int .u32) (.int .u32 a.toNat) m.key).isSome = true := fun m hm => by
    simp only [lj, kh, List.map_map, List.mem_map] at hm
    obtain ⟨b, _, rfl⟩ := hm
    show (Instr.sameNow _ _ (Ab b).1).isSome = true
    rw [Qt]; rfl
  rcases wv (.int .u32) (.int .u32 a.toNat) (lj (kh l)) 0 hall with ⟨h1, h2⟩ | ⟨j, m, h1, h2, h3⟩
  · refine .inl ⟨?_, Sb hu fun e he => ?_⟩
    · cases hc : l.contains a with
      | false => rfl
      | true =>
        have := h2 { key := (Ab a).1, val := undef, born := 0 } (by
          simp only [lj, kh, List.map_map, List.mem_map]
          exact ⟨a, by simpa using hc, rfl⟩)
        rw [show ({ key := (Ab a).1, val := undef, born := 0 } : MapEntry).key = (Ab a).1 from rfl, Qt] at this
        simp at this
    · have := h2 { key := e.1, val := undef, born := 0 } (by
        simp only [lj, List.mem_map]
        exact ⟨e, he, rfl⟩)
      exact this
  · simp only [lj, kh, List.map_map, List.getElem?_map, Option.map_eq_some_iff] at h1
    obtain ⟨b, hb, rfl⟩ := h1
    have h2' : Instr.sameNow (.int .u32) (.int .u32 a.toNat) (Ab b).1 = some true := h2
    rw [Qt] at h2'
    have hab : a = b := by simpa using h2'
    subst hab
    refine .inr ⟨by simpa using List.mem_of_getElem? hb, j, ?_, by simp only [kh, List.getElem?_map, hb, Option.map_some]⟩
    have hn : Is P kt (.int .u32 a.toNat) (kh l) = true := by unfold Is; rw [hu]; simp only; rw [h3]; rfl
    unfold oi
    rw [hn, Bool.or_true, cond_true]
    have hevu : ev P (underlying kt) = some (.int .u32) := by
      simp [underlying, program, ev, hu, ot, ui, Sem.bind, bind]
    have : ev P (Instr.findKey kt (.int .u32 a.toNat) (lj (kh l))) = some (some (j, undef)) := by
      unfold Instr.findKey
      rw [ot, hevu]
      simp only [Option.bind_some]
      rw [h3, Nat.zero_add]; rfl
    rw [this]; rfl
theorem Xx {P : Program} {kt : TypeId} (hu : P.underlying kt = some (.int .u32)) (b : Bool) (v : Value) : ∃ x, ev P (Instr.checkKey b 10000 kt v) = some x := by
  have hevu : ev P (underlying kt) = some (.int .u32) := by
    simp [underlying, program, ev, hu, ot, ui, Sem.bind, bind]
  refine ⟨(), ?_⟩
  show ev P (Instr.checkKey b (9999 + 1) kt v) = _
  rw [Instr.checkKey, ot, hevu]
  rfl
theorem ayj {P : Program} {kt et : TypeId} (hu : P.underlying kt = some (.int .u32)) (hz : ef P et = some (.bool false)) (a : UInt32) (l : List UInt32) : vn P kt et (.int .u32 a.toNat) false (.map (kh l)) = .pure (.sc (.bool (l.contains a))) := by
  unfold vn
  simp only
  obtain ⟨x, hx⟩ := Xx hu (kh l).isEmpty (.int .u32 a.toNat)
  rw [hx]
  rcases Uq hu a l with ⟨h1, h2⟩ | ⟨h1, i, h2, h3⟩
  · rw [h2, h1]; simp only [found, hz]; rfl
  · rw [h2, h1]; simp only [h3, found, hz]; rfl
theorem alu {a b : UInt32} (h : a ≠ b) : my (Ab a).1 (Ab b).1 = true := by
  show (decide (IntKind.u32 = IntKind.u32) && !((a.toNat : Int) == (b.toNat : Int))) = true
  have : ¬ (a.toNat : Int) = b.toNat := fun q => h (UInt32.toNat_inj.1 (by omega))
  simp [this]
theorem N5 : ∀ (l : List UInt32), l.Nodup → n9 (kh l) = true
  | [], _ => rfl
  | a :: l, h => by
    have h1 := N5 l (List.nodup_cons.1 h).2
    show (_ && n9 (kh l)) = true
    rw [h1, Bool.and_true, List.all_eq_true]
    intro e he
    obtain ⟨b, hb, rfl⟩ := List.mem_map.1 he
    exact alu fun q => (List.nodup_cons.1 h).1 (by rw [q]; exact hb)
theorem akv (l : List UInt32) (a : UInt32) (h : (l ++ [a]).Nodup) : stays (kh l) (kh (l ++ [a])) = true := by
  have h1 := N5 _ h
  have hl : (kh l).length = l.length := by simp [kh]
  have hl2 : (kh (l ++ [a])).length = l.length + 1 := by simp [kh]
  unfold stays loose
  rw [h1, hl, hl2]
  cases hb : Nat.ble 2 l.length with
  | false => simp
  | true =>
    have h2 : 2 ≤ l.length := Nat.le_of_ble_eq_true hb
    have : Nat.ble 2 (l.length + 1) = true := Nat.ble_eq_true_of_le (by omega)
    simp [this]
theorem az5 {P : Program} {kt : TypeId} (hu : P.underlying kt = some (.int .u32)) (id : Nat) (a : UInt32) (l : List UInt32) (h : l.contains a = false) (hn : l.Nodup) :
    pr P id kt (.int .u32 a.toNat) (.sc (.bool true)) (.map (kh l)) = (ic id (.map (kh (l ++ [a])))).bind fun _ => .pure (.sc undef) := by
  unfold pr
  simp only
  obtain ⟨x, hx⟩ := Xx hu false (.int .u32 a.toNat)
  rw [hx]
  have hd : (l ++ [a]).Nodup := List.nodup_append.2 ⟨hn, by simp, fun q hq y hy => by
    rw [List.mem_singleton] at hy
    subst hy
    intro e; subst e
    have : l.contains q = true := by simpa using hq
    rw [h] at this; cases this⟩
  rcases Uq hu a l with ⟨h1, h2⟩ | ⟨h1, _⟩
  · have e : kh l ++ [((.int .u32 a.toNat : Value), AV.sc (.bool true))] = kh (l ++ [a]) := by simp [kh, Ab]
    rw [h2]
    simp only [e, akv l a hd, cond_true]
  · rw [h] at h1; cases h1
theorem wc (l : List UInt32) : AV.names.go ((kh l).map fun x => x.2) = [] := by
  induction l with
  | nil => rfl
  | cons a l ih => exact ih
theorem z4 (τ : Nat → Option Nat) (l : List UInt32) : ((kh l).map fun e => (e.1, e.2.db τ)) = kh l := by
  induction l with
  | nil => rfl
  | cons a l ih => show Ab a :: (kh l).map _ = Ab a :: kh l; rw [ih]
theorem apu (v : Value) : (AV.sc v).fy = some v := rfl
end Go.Vm
end
section
set_option linter.unusedSimpArgs false
set_option linter.unusedVariables false
namespace Go.Proofs.YtidomogemfchpaaGreat
open Go.Vm
set_option maxRecDepth 2000000
def Ow (k : Int) : List Int → List Int → Int
  | _, [] => 0
  | pre, i :: r => if i < 0 ∨ (i ≥ k ∨ pre.contains i = true) then 301 else Ow k (pre ++ [i]) r
theorem axb {l : List Int} {i : Nat} {c k : Int} (hc : l[i]? = some c) : Ow k (l.take i) (l.drop i) = if c < 0 ∨ (c ≥ k ∨ (l.take i).contains c = true) then 301 else Ow k (l.take (i + 1)) (l.drop (i + 1)) := by
  obtain ⟨hi, rfl⟩ := List.getElem?_eq_some_iff.1 hc
  rw [List.drop_eq_getElem_cons hi, Ow, List.take_succ_eq_append_getElem hi]
def Bl (k : Int) : List UInt32 → List u2 → Int
  | _, [] => 0
  | met, h :: r => if met.contains h.addr = true ∨ (h.ay.length : Int) = 0 then 301 else if Ow k [] h.ay ≠ 0 then 301 else Bl k (met ++ [h.addr]) r
theorem aow {l : List u2} {i : Nat} {c : u2} {k : Int} (met : List UInt32) (h : l.drop i = c :: l.drop (i + 1)) : Bl k met (l.drop i) = if met.contains c.addr = true ∨ (c.ay.length : Int) = 0 then 301 else if Ow k [] c.ay ≠ 0 then 301 else Bl k (met ++ [c.addr]) (l.drop (i + 1)) := by rw [h]; rfl
def vm (w : bd) : Int := if Bl w.ay.length [] w.dk ≠ 0 then 301 else if (w.dk.length : Int) = 0 then 301 else 0
theorem awi : PP.underlying 142 = some (.map 37 4) := by kernel_rfl
theorem axx : PP.underlying 37 = some (.int .u32) := by kernel_rfl
theorem ay2 : ef PP 4 = some (.bool false) := by kernel_rfl
set_option maxHeartbeats 4000000 in
theorem ase (w : bd) (hw : da w) : wl PP [abg] 0 (Tryz.f43.body.getD .skip) (dj PP Tryz.f43.results.toList (fun r st => (r1 (aw .i64)).get true st.h r = some (vm w))) (bw 0 [ct.val false w]) (bp []) := by
  have hl := hw.hlen
  have hzl := hw.Ee
  have lkU := ayj axx ay2
  unfold Tryz.f43
  simp only [ek]
  simp only [↓wR, RA, simprocAttr, TF, ae, qx]
  refine dh [1, 3, 11, 12, 13] (fun (x : Nat × List UInt32) => [.ptr 0 0, .mp 1, .vl false 2 (w.dk.map (dy.val false)), .sc (.int .i64 (w.dk.length)), .sc (.int .i64 (x.1))]) (fun x => [some (.row [.vl false 2 (w.ay.map (bg.val false)), .vl false 2 (w.dk.map (dy.val false)), .vl false 1 (w.hints.map (bn.val false))] 0 2 100), some (.map (kh x.2))]) (fun x => x.1 ≤ w.dk.length ∧ (Bl w.ay.length [] w.dk = Bl w.ay.length x.2 (w.dk.drop x.1) ∧ x.2.Nodup)) (fun x => w.dk.length - x.1) (0, []) ⟨Nat.zero_le _, rfl, .nil⟩ (by simp only [↓wR, RA, simprocAttr, TF, ae] <;> rfl) (by simp only [↓wR, RA, simprocAttr, TF, ae] <;> rfl) ?_
  rintro ⟨i, met⟩ ⟨hi, hx, hnd⟩
  simp only at hi hx hnd
  have bad : Bl w.ay.length [] w.dk = 301 → vm w = 301 := fun q => by unfold vm; rw [q, if_pos (by decide)]
  simp only [↓wR, RA, simprocAttr, TF, ae]
  rw [bj]; refine ⟨fun h => ?_, fun h => ?_⟩
  · obtain ⟨c, hc, hd1, hlt⟩ := dt (decide_eq_true h)
    rw [aow met hd1] at hx
    have hcz := hw.host c (List.mem_of_getElem? hc)
    simp only [↓wR, RA, simprocAttr, TF, ae, h, hc, awi, lkU, apu]
    rw [bk]; refine ⟨fun h1 => ?_, fun h1 => ?_⟩
    · have e0 := bad (by rw [hx, if_pos (.inl h1)])
      simp only [↓wR, RA, simprocAttr, TF, ae, h1]
      rw [e0]
    simp only [↓wR, RA, simprocAttr, TF, ae, h1]
    rw [cy]; refine ⟨fun ⟨h2, e2⟩ => ?_, fun ⟨h2, e2⟩ => ?_⟩
    · have e0 := bad (by rw [hx, if_pos (.inr e2)])
      simp only [↓wR, RA, simprocAttr, TF, ae, h2]
      rw [e0]
    rw [if_neg (fun q => q.elim (fun q => by rw [h1] at q; cases q) e2)] at hx
    have upU := fun id => az5 axx id c.addr met h1 hnd
    have hnd2 : (met ++ [c.addr]).Nodup := List.nodup_append.2 ⟨hnd, by simp, fun q hq y hy => by
      rw [List.mem_singleton] at hy
      subst hy
      intro e; subst e
      have : met.contains c.addr = true := by simpa using hq
      rw [h1] at this; cases this⟩
    simp only [↓wR, RA, simprocAttr, TF, ae, h2, lx, awi, upU, apu]
    obtain ⟨met', hm'⟩ : ∃ m, m = met ++ [c.addr] := ⟨_, rfl⟩
    rw [← hm'] at hx hnd2 ⊢
    refine dh [1, 3, 5, 11, 12, 13, 31, 32, 33] (fun (k : Nat) => [.ptr 0 0, .mp 1, .ptr 2 0, .vl false 2 (w.dk.map (dy.val false)), .sc (.int .i64 (w.dk.length)), .sc (.int .i64 (i)), .vl false 1 (c.ay.map ((aw .i64).val false)), .sc (.int .i64 (c.ay.length)), .sc (.int .i64 (k))]) (fun _ => [some (.row [.vl false 2 (w.ay.map (bg.val false)), .vl false 2 (w.dk.map (dy.val false)), .vl false 1 (w.hints.map (bn.val false))] 0 2 100), some (.map (kh met')), some (.row [.sc (.int .u32 c.addr.toNat), .vl false 1 (c.ay.map ((aw .i64).val false))] 0 2 71)]) (fun k => k ≤ c.ay.length ∧ Ow w.ay.length [] c.ay = Ow w.ay.length (c.ay.take k) (c.ay.drop k)) (fun k => c.ay.length - k) 0 ⟨Nat.zero_le _, rfl⟩ (by simp only [↓wR, RA, simprocAttr, TF, ae, wc, z4] <;> rfl) (by simp only [↓wR, RA, simprocAttr, TF, ae, wc, z4] <;> rfl) ?_
    rintro k ⟨hk, hy⟩
    simp only [↓wR, RA, simprocAttr, TF, ae]
    rw [bj]; refine ⟨fun h3 => ?_, fun h3 => ?_⟩
    · obtain ⟨q, hq, hd2, hlt2⟩ := dt (decide_eq_true h3)
      rw [axb hq] at hy
      have bad2 : Ow w.ay.length [] c.ay = 301 → vm w = 301 := fun q => bad (by rw [hx, q, if_pos (by decide)])
      have htk : k ≤ 281474976710656 := by omega
      simp only [↓wR, RA, simprocAttr, TF, ae, h3, hq]
      rw [bj]; refine ⟨fun h4 => ?_, fun h4 => ?_⟩
      · have e0 := bad2 (by rw [hy, if_pos (.inl h4)])
        simp only [↓wR, RA, simprocAttr, TF, ae, h4]
        rw [e0]
      simp only [↓wR, RA, simprocAttr, TF, ae, h4]
      rw [bj]; refine ⟨fun h5 => ?_, fun h5 => ?_⟩
      · have e0 := bad2 (by rw [hy, if_pos (.inr (.inl h5))])
        simp only [↓wR, RA, simprocAttr, TF, ae, h5]
        rw [e0]
      simp only [↓wR, RA, simprocAttr, TF, ae, h5, hk, Ik, htk]
      rw [bk]; refine ⟨fun h6 => ?_, fun h6 => ?_⟩
      · have e0 := bad2 (by rw [hy, if_pos (.inr (.inr h6))])
        simp only [↓wR, RA, simprocAttr, TF, ae, h6]
        rw [e0]
      · rw [if_neg (fun q => q.elim h4 (fun q => q.elim h5 (fun q => by rw [h6] at q; cases q)))] at hy
        simp only [↓wR, RA, simprocAttr, TF, ae, h6, wc, z4]; repeat (simp (disch := omega) only [ah, ca, cb, bz, b9]; try simp only [↓wR, RA, simprocAttr, TF, ae, h6, wc, z4])
        exact ⟨k + 1, ⟨hlt2, hy⟩, by omega, by (first | rfl | trivial | omega | ((try (simp (disch := omega) only [ah])); (try (simp only [FB])); first | done | rfl | omega))⟩
    · rw [dv (decide_eq_false h3), Ow] at hy
      rw [hy, if_neg (by decide)] at hx
      simp only [↓wR, RA, simprocAttr, TF, ae, h3, wc, z4]; repeat (simp (disch := omega) only [ah, ca, cb, bz, b9]; try simp only [↓wR, RA, simprocAttr, TF, ae, h3, wc, z4])
      exact ⟨(i + 1, met'), ⟨hlt, hx, hnd2⟩, by simp; omega, by (first | rfl | trivial | omega | ((try (simp (disch := omega) only [ah])); (try (simp only [FB])); first | done | rfl | omega)), by (first | rfl | trivial | omega | ((try (simp (disch := omega) only [ah])); (try (simp only [FB])); first | done | rfl | omega))⟩
  · rw [dv (decide_eq_false h), Bl] at hx
    simp only [↓wR, RA, simprocAttr, TF, ae, h]
    unfold vm
    rw [if_neg (by omega)]
    rw [cy]; refine ⟨fun ⟨h2, e2⟩ => ?_, fun ⟨h2, e2⟩ => ?_⟩
    · rw [if_pos e2]
      simp only [↓wR, RA, simprocAttr, TF, ae, h2]
    · rw [if_neg e2]
      simp only [↓wR, RA, simprocAttr, TF, ae, h2]
noncomputable def Hf (x : bd × Unit) : Option AV := if da x.1 then some ((r1 (aw .i64)).E true (vm x.1)) else none
set_option maxRecDepth 2000000 in
theorem afz (x : bd × Unit) (r : AV) (h : Hf x = some r) : bf PP 43 ((aC ct a0).E x) r := by
  by_cases hc : da x.1
  case neg => simp only [Hf, if_neg hc] at h; cases h
  simp only [Hf, if_pos hc] at h
  cases h
  exact ba (ak.cons (ai Br) (ak.nil PP)) Tryz.func43 (by kernel_rfl) (by kernel_rfl) (by kernel_rfl) (Nat.le_of_ble_eq_true (by kernel_rfl)) (r1 (aw .i64)) true (vm x.1) (ase x.1 hc)
noncomputable abbrev axf : Nat × Bool × (List AV → M AV) := (43, true, dc (aC ct a0) Hf)
end Go.Proofs.YtidomogemfchpaaGreat
end
section
set_option linter.unusedSimpArgs false
set_option linter.unusedVariables false
namespace Go.Proofs.YtidomogemfchpaaGreat
open Go.Vm
set_option maxRecDepth 2000000
noncomputable def aem : List Int → Int
  | [] => 0
  | e :: r => if e ≠ 0 then e else aem r
noncomputable def ak7 (w : bd) : List Int := [Fm w, Cj w, tx w, vm w, yc w, Cl w, tk w, A9 w, Bd w, B4 w]
noncomputable def kg (w : bd) : Int := aem (ak7 w)
theorem aft {w : bd} (h : tx w = 0) : De w := by
  have key : ∀ l : List bb, sh iw l = 0 → ∀ z ∈ l, iw z = 0 := by
    intro l
    induction l with
    | nil => intro _ z hz; cases hz
    | cons a l ih =>
      intro h z hz
      rw [sh] at h
      split at h
      · contradiction
      · rename_i q
        rcases List.mem_cons.1 hz with rfl | hz
        · omega
        · exact ih h z hz
  intro z hz s hs ht d hd
  have hg := Kn (key _ h z hz) s hs
  have h1 := (It (Tz hg d hd)).1
  have h2 : (jd s.type).names = 1 := by unfold jd; rw [ht]; rfl
  rw [h2] at h1
  intro q
  rw [q] at h1; simp at h1
theorem Eh : z0 PP 102 = some (101, 1, [.sc .nilFunc]) ∧ de PP 101 = some 1 ∧ jm PP 101 = some false := ⟨by kernel_rfl, by kernel_rfl, by kernel_rfl⟩
set_option maxHeartbeats 8000000 in
theorem an7 (w : bd) (hw : da w) : wl PP [ayb, ayu, ax3, axf, avm, ay4, ar2, ay5, ax7, ax1] 0 (Tryz.f16.body.getD .skip) (dj PP Tryz.f16.results.toList (fun r st => (r1 (aw .i64)).get true st.h r = some (kg w))) (bw 0 [ct.val false w]) (bp []) := by
  unfold Tryz.f16
  simp only [ek]
  simp (maxSteps := 9000000) only [↓wR, RA, simprocAttr, TF, ae, Eh]
  have gl : tx w = 0 → De w := aft
  refine dh [29, 30, 31] (fun (i : Nat) => [.sl 0 0 10 1, .sc (.int .i64 (10)), .sc (.int .i64 (i))]) (fun _ => [some (.row [.fn (.func 40) [.agg [.vl false 2 (w.ay.map (bg.val false)), .vl false 2 (w.dk.map (dy.val false)), .vl false 1 (w.hints.map (bn.val false))]] [], .fn (.func 41) [.agg [.vl false 2 (w.ay.map (bg.val false)), .vl false 2 (w.dk.map (dy.val false)), .vl false 1 (w.hints.map (bn.val false))]] [], .fn (.func 42) [.agg [.vl false 2 (w.ay.map (bg.val false)), .vl false 2 (w.dk.map (dy.val false)), .vl false 1 (w.hints.map (bn.val false))]] [], .fn (.func 43) [.agg [.vl false 2 (w.ay.map (bg.val false)), .vl false 2 (w.dk.map (dy.val false)), .vl false 1 (w.hints.map (bn.val false))]] [], .fn (.func 44) [.agg [.vl false 2 (w.ay.map (bg.val false)), .vl false 2 (w.dk.map (dy.val false)), .vl false 1 (w.hints.map (bn.val false))]] [], .fn (.func 45) [.agg [.vl false 2 (w.ay.map (bg.val false)), .vl false 2 (w.dk.map (dy.val false)), .vl false 1 (w.hints.map (bn.val false))]] [], .fn (.func 46) [.agg [.vl false 2 (w.ay.map (bg.val false)), .vl false 2 (w.dk.map (dy.val false)), .vl false 1 (w.hints.map (bn.val false))]] [], .fn (.func 47) [.agg [.vl false 2 (w.ay.map (bg.val false)), .vl false 2 (w.dk.map (dy.val false)), .vl false 1 (w.hints.map (bn.val false))]] [], .fn (.func 48) [.agg [.vl false 2 (w.ay.map (bg.val false)), .vl false 2 (w.dk.map (dy.val false)), .vl false 1 (w.hints.map (bn.val false))]] [], .fn (.func 49) [.agg [.vl false 2 (w.ay.map (bg.val false)), .vl false 2 (w.dk.map (dy.val false)), .vl false 1 (w.hints.map (bn.val false))]] []] 0 0 101)]) (fun i => i ≤ 10 ∧ kg w = aem ((ak7 w).drop i) ∧ (3 ≤ i → tx w = 0)) (fun i => 10 - i) 0 ⟨by decide, rfl, by omega⟩ (by simp only [↓wR, RA, simprocAttr, TF, ae] <;> rfl) (by simp only [↓wR, RA, simprocAttr, TF, ae] <;> rfl) ?_
  rintro i ⟨hi, hx, hz⟩
  by_cases h10 : i = 10
  · subst h10
    simp only [↓wR, RA, simprocAttr, TF, ae]
    rw [hx] <;> rfl
  have hcase : i = 0 ∨ i = 1 ∨ i = 2 ∨ i = 3 ∨ i = 4 ∨ i = 5 ∨ i = 6 ∨ i = 7 ∨ i = 8 ∨ i = 9 := by omega
  rcases hcase with rfl | rfl | rfl | rfl | rfl | rfl | rfl | rfl | rfl | rfl
  · skip
    simp only [↓wR, RA, simprocAttr, TF, ae, Eh, aec]
    rw [bk]; refine ⟨fun h => ?_, fun h => ?_⟩
    · have he : Fm w ≠ 0 := by simpa using h
      have e0 : kg w = Fm w := by rw [hx]; exact if_pos he
      simp only [↓wR, RA, simprocAttr, TF, ae, h]
      rw [e0]
    · have he : Fm w = 0 := by simpa using h
      simp only [↓wR, RA, simprocAttr, TF, ae, h]; repeat (simp (disch := omega) only [ah, ca, cb, bz, b9]; try simp only [↓wR, RA, simprocAttr, TF, ae, h])
      exact ⟨0 + 1, ⟨by decide, by rw [hx]; exact if_neg (fun q => q he), fun q => absurd q (by decide)⟩, by decide, by (first | rfl | trivial | omega | ((try (simp (disch := omega) only [ah])); (try (simp only [FB])); first | done | rfl | omega))⟩
  · skip
    simp only [↓wR, RA, simprocAttr, TF, ae, Eh, Kb, hw]
    rw [bk]; refine ⟨fun h => ?_, fun h => ?_⟩
    · have he : Cj w ≠ 0 := by simpa using h
      have e0 : kg w = Cj w := by rw [hx]; exact if_pos he
      simp only [↓wR, RA, simprocAttr, TF, ae, h]
      rw [e0]
    · have he : Cj w = 0 := by simpa using h
      simp only [↓wR, RA, simprocAttr, TF, ae, h]; repeat (simp (disch := omega) only [ah, ca, cb, bz, b9]; try simp only [↓wR, RA, simprocAttr, TF, ae, h])
      exact ⟨1 + 1, ⟨by decide, by rw [hx]; exact if_neg (fun q => q he), fun q => absurd q (by decide)⟩, by decide, by (first | rfl | trivial | omega | ((try (simp (disch := omega) only [ah])); (try (simp only [FB])); first | done | rfl | omega))⟩
  · skip
    simp only [↓wR, RA, simprocAttr, TF, ae, Eh, Gy, hw]
    rw [bk]; refine ⟨fun h => ?_, fun h => ?_⟩
    · have he : tx w ≠ 0 := by simpa using h
      have e0 : kg w = tx w := by rw [hx]; exact if_pos he
      simp only [↓wR, RA, simprocAttr, TF, ae, h]
      rw [e0]
    · have he : tx w = 0 := by simpa using h
      simp only [↓wR, RA, simprocAttr, TF, ae, h]; repeat (simp (disch := omega) only [ah, ca, cb, bz, b9]; try simp only [↓wR, RA, simprocAttr, TF, ae, h])
      exact ⟨2 + 1, ⟨by decide, by rw [hx]; exact if_neg (fun q => q he), fun _ => he⟩, by decide, by (first | rfl | trivial | omega | ((try (simp (disch := omega) only [ah])); (try (simp only [FB])); first | done | rfl | omega))⟩
  · skip
    simp only [↓wR, RA, simprocAttr, TF, ae, Eh, Hf, hw]
    rw [bk]; refine ⟨fun h => ?_, fun h => ?_⟩
    · have he : vm w ≠ 0 := by simpa using h
      have e0 : kg w = vm w := by rw [hx]; exact if_pos he
      simp only [↓wR, RA, simprocAttr, TF, ae, h]
      rw [e0]
    · have he : vm w = 0 := by simpa using h
      simp only [↓wR, RA, simprocAttr, TF, ae, h]; repeat (simp (disch := omega) only [ah, ca, cb, bz, b9]; try simp only [↓wR, RA, simprocAttr, TF, ae, h])
      exact ⟨3 + 1, ⟨by decide, by rw [hx]; exact if_neg (fun q => q he), fun _ => hz (by decide)⟩, by decide, by (first | rfl | trivial | omega | ((try (simp (disch := omega) only [ah])); (try (simp only [FB])); first | done | rfl | omega))⟩
  · skip
    simp only [↓wR, RA, simprocAttr, TF, ae, Eh, D0, hw]
    rw [bk]; refine ⟨fun h => ?_, fun h => ?_⟩
    · have he : yc w ≠ 0 := by simpa using h
      have e0 : kg w = yc w := by rw [hx]; exact if_pos he
      simp only [↓wR, RA, simprocAttr, TF, ae, h]
      rw [e0]
    · have he : yc w = 0 := by simpa using h
      simp only [↓wR, RA, simprocAttr, TF, ae, h]; repeat (simp (disch := omega) only [ah, ca, cb, bz, b9]; try simp only [↓wR, RA, simprocAttr, TF, ae, h])
      exact ⟨4 + 1, ⟨by decide, by rw [hx]; exact if_neg (fun q => q he), fun _ => hz (by decide)⟩, by decide, by (first | rfl | trivial | omega | ((try (simp (disch := omega) only [ah])); (try (simp only [FB])); first | done | rfl | omega))⟩
  · skip
    simp only [↓wR, RA, simprocAttr, TF, ae, Eh, Mg, hw]
    rw [bk]; refine ⟨fun h => ?_, fun h => ?_⟩
    · have he : Cl w ≠ 0 := by simpa using h
      have e0 : kg w = Cl w := by rw [hx]; exact if_pos he
      simp only [↓wR, RA, simprocAttr, TF, ae, h]
      rw [e0]
    · have he : Cl w = 0 := by simpa using h
      simp only [↓wR, RA, simprocAttr, TF, ae, h]; repeat (simp (disch := omega) only [ah, ca, cb, bz, b9]; try simp only [↓wR, RA, simprocAttr, TF, ae, h])
      exact ⟨5 + 1, ⟨by decide, by rw [hx]; exact if_neg (fun q => q he), fun _ => hz (by decide)⟩, by decide, by (first | rfl | trivial | omega | ((try (simp (disch := omega) only [ah])); (try (simp only [FB])); first | done | rfl | omega))⟩
  · skip
    simp only [↓wR, RA, simprocAttr, TF, ae, Eh, B3, hw]
    rw [bk]; refine ⟨fun h => ?_, fun h => ?_⟩
    · have he : tk w ≠ 0 := by simpa using h
      have e0 : kg w = tk w := by rw [hx]; exact if_pos he
      simp only [↓wR, RA, simprocAttr, TF, ae, h]
      rw [e0]
    · have he : tk w = 0 := by simpa using h
      simp only [↓wR, RA, simprocAttr, TF, ae, h]; repeat (simp (disch := omega) only [ah, ca, cb, bz, b9]; try simp only [↓wR, RA, simprocAttr, TF, ae, h])
      exact ⟨6 + 1, ⟨by decide, by rw [hx]; exact if_neg (fun q => q he), fun _ => hz (by decide)⟩, by decide, by (first | rfl | trivial | omega | ((try (simp (disch := omega) only [ah])); (try (simp only [FB])); first | done | rfl | omega))⟩
  · have hn := gl (hz (by decide))
    simp only [↓wR, RA, simprocAttr, TF, ae, Eh, Kk, hw, hn]
    rw [bk]; refine ⟨fun h => ?_, fun h => ?_⟩
    · have he : A9 w ≠ 0 := by simpa using h
      have e0 : kg w = A9 w := by rw [hx]; exact if_pos he
      simp only [↓wR, RA, simprocAttr, TF, ae, h]
      rw [e0]
    · have he : A9 w = 0 := by simpa using h
      simp only [↓wR, RA, simprocAttr, TF, ae, h]; repeat (simp (disch := omega) only [ah, ca, cb, bz, b9]; try simp only [↓wR, RA, simprocAttr, TF, ae, h])
      exact ⟨7 + 1, ⟨by decide, by rw [hx]; exact if_neg (fun q => q he), fun _ => hz (by decide)⟩, by decide, by (first | rfl | trivial | omega | ((try (simp (disch := omega) only [ah])); (try (simp only [FB])); first | done | rfl | omega))⟩
  · skip
    simp only [↓wR, RA, simprocAttr, TF, ae, Eh, J2, hw]
    rw [bk]; refine ⟨fun h => ?_, fun h => ?_⟩
    · have he : Bd w ≠ 0 := by simpa using h
      have e0 : kg w = Bd w := by rw [hx]; exact if_pos he
      simp only [↓wR, RA, simprocAttr, TF, ae, h]
      rw [e0]
    · have he : Bd w = 0 := by simpa using h
      simp only [↓wR, RA, simprocAttr, TF, ae, h]; repeat (simp (disch := omega) only [ah, ca, cb, bz, b9]; try simp only [↓wR, RA, simprocAttr, TF, ae, h])
      exact ⟨8 + 1, ⟨by decide, by rw [hx]; exact if_neg (fun q => q he), fun _ => hz (by decide)⟩, by decide, by (first | rfl | trivial | omega | ((try (simp (disch := omega) only [ah])); (try (simp only [FB])); first | done | rfl | omega))⟩
  · skip
    simp only [↓wR, RA, simprocAttr, TF, ae, Eh, Hm, hw]
    rw [bk]; refine ⟨fun h => ?_, fun h => ?_⟩
    · have he : B4 w ≠ 0 := by simpa using h
      have e0 : kg w = B4 w := by rw [hx]; exact if_pos he
      simp only [↓wR, RA, simprocAttr, TF, ae, h]
      rw [e0]
    · have he : B4 w = 0 := by simpa using h
      simp only [↓wR, RA, simprocAttr, TF, ae, h]; repeat (simp (disch := omega) only [ah, ca, cb, bz, b9]; try simp only [↓wR, RA, simprocAttr, TF, ae, h])
      exact ⟨9 + 1, ⟨by decide, by rw [hx]; exact if_neg (fun q => q he), fun _ => hz (by decide)⟩, by decide, by (first | rfl | trivial | omega | ((try (simp (disch := omega) only [ah])); (try (simp only [FB])); first | done | rfl | omega))⟩
noncomputable def He (x : bd × Unit) : Option AV := if da x.1 then some ((r1 (aw .i64)).E true (kg x.1)) else none
set_option maxRecDepth 2000000 in
theorem af4 (x : bd × Unit) (r : AV) (h : He x = some r) : bf PP 16 ((aC ct a0).E x) r := by
  by_cases hc : da x.1
  case neg => simp only [He, if_neg hc] at h; cases h
  simp only [He, if_pos hc] at h
  cases h
  exact ba (ak.cons (ai aj9) (ak.cons (ai alp) (ak.cons (ai af7) (ak.cons (ai afz) (ak.cons (ai abx) (ak.cons (ai alx) (ak.cons (ai Zn) (ak.cons (ai amb) (ak.cons (ai alv) (ak.cons (ai agm) (ak.nil PP))))))))))) Tryz.func16 (by kernel_rfl) (by kernel_rfl) (by kernel_rfl) (Nat.le_of_ble_eq_true (by kernel_rfl)) (r1 (aw .i64)) true (kg x.1) (an7 x.1 hc)
noncomputable abbrev aph : Nat × Bool × (List AV → M AV) := (16, true, dc (aC ct a0) He)
end Go.Proofs.YtidomogemfchpaaGreat
end
section
namespace Go.Proofs.YtidomogemfchpaaGreat
open Go.Vm
theorem Xp : ∀ (l : List Int), aem l = 0 → ∀ e ∈ l, e = 0
  | [], _, e, he => by cases he
  | a :: l, h, e, he => by
    rw [aem] at h
    split at h
    · contradiction
    · rename_i q
      rcases List.mem_cons.1 he with rfl | he
      · omega
      · exact Xp l h e he
theorem A3 {f : bb → Int} : ∀ (l : List bb), sh f l = 0 → ∀ z ∈ l, f z = 0
  | [], _, z, hz => by cases hz
  | a :: l, h, z, hz => by
    rw [sh] at h
    split at h
    · contradiction
    · rename_i q
      rcases List.mem_cons.1 hz with rfl | hz
      · omega
      · exact A3 l h z hz
structure Ct (w : bd) : Prop where
  zone : ∀ z ∈ w.ay, iw z = 0
  root : ∃ z ∈ w.ay, z.origin = []
  one : w.ay.Pairwise fun a b => ee a.origin b.origin = false
  azz : ∀ z ∈ w.ay, ∀ n ∈ ru z, ∃ y ∈ w.ay, ee y.origin n = true
  par : ∀ (i : Nat) z, w.ay[i]? = some z → z.origin ≠ [] → parentOf w z (m5 w (i : Int)).1 = 0
  glue : ∀ z ∈ w.ay, zl w z z.aj = 0
  srv : ∀ (i : Nat) z, w.ay[i]? = some z → If w z i = 0
theorem T1 : ∀ (l pre : List bb) (b : Bool), Cv pre b l = 0 → (b = true ∨ ∃ z ∈ l, z.origin = []) ∧ l.Pairwise (fun a b => ee a.origin b.origin = false) ∧ ∀ z ∈ l, ∀ y ∈ pre, ee y.origin z.origin = false
  | [], pre, b, h => by
    rw [Cv] at h
    refine ⟨.inl ?_, .nil, fun z hz => by cases hz⟩
    cases b with
    | true => rfl
    | false => rw [if_neg (by decide)] at h; cases h
  | a :: l, pre, b, h => by
    rw [Cv] at h
    split at h
    · cases h
    · rename_i q
      obtain ⟨h1, h2, h3⟩ := T1 l (pre ++ [a]) _ h
      have hd : ∀ y ∈ pre, ee y.origin a.origin = false := fun y hy => by
        cases hs : ee y.origin a.origin with
        | false => rfl
        | true => exact (q (List.any_eq_true.2 ⟨y, hy, hs⟩)).elim
      refine ⟨?_, List.pairwise_cons.2 ⟨fun z hz => h3 z hz a (by simp), h2⟩, fun z hz y hy => ?_⟩
      · rcases h1 with h1 | ⟨z, hz, h1⟩
        · rw [Bool.or_eq_true] at h1
          rcases h1 with h1 | h1
          · exact .inl h1
          · refine .inr ⟨a, by simp, ?_⟩
            have := of_decide_eq_true h1
            exact List.eq_nil_of_length_eq_zero (by omega)
        · exact .inr ⟨z, by simp [hz], h1⟩
      · rcases List.mem_cons.1 hz with rfl | hz
        · exact hd y hy
        · exact h3 z hz y (by simp [hy])
theorem I8 {w : bd} : ∀ (l : List bb) (i : Nat), rj w l i = 0 → ∀ (k : Nat) z, l[k]? = some z → z.origin ≠ [] → parentOf w z (m5 w ((i + k : Nat) : Int)).1 = 0
  | [], i, _, k, z, hz => by simp at hz
  | a :: l, i, h, k, z, hz => by
    rw [rj] at h
    intro ho
    cases k with
    | zero =>
      simp at hz
      subst hz
      rw [if_neg (fun q => ho (List.eq_nil_of_length_eq_zero (by omega)))] at h
      split at h
      · cases h
      · rename_i q; rw [Nat.add_zero]; omega
    | succ k =>
      have : rj w l (i + 1) = 0 := by
        split at h
        · exact h
        · split at h
          · cases h
          · exact h
      have := I8 l (i + 1) this k z (by simpa using hz) ho
      rwa [show i + 1 + k = i + (k + 1) from by omega] at this
theorem Ty {w : bd} : ∀ (l : List bb) (i : Nat), Ib w l i = 0 → ∀ (k : Nat) z, l[k]? = some z → If w z (i + k) = 0
  | [], i, _, k, z, hz => by simp at hz
  | a :: l, i, h, k, z, hz => by
    rw [Ib] at h
    split at h
    · cases h
    · rename_i q
      cases k with
      | zero => simp at hz; subst hz; rw [Nat.add_zero]; omega
      | succ k =>
        have := Ty l (i + 1) h k z (by simpa using hz)
        rwa [show i + 1 + k = i + (k + 1) from by omega] at this
theorem Tb {w : bd} : ∀ (l : List Name), Ba w l = 0 → ∀ n ∈ l, vd w.ay n = true
  | [], _, n, hn => by cases hn
  | a :: l, h, n, hn => by
    rw [Ba] at h
    split at h
    · rename_i q
      rcases List.mem_cons.1 hn with rfl | hn
      · exact q
      · exact Tb l h n hn
    · cases h
theorem ayh {w : bd} (h : kg w = 0) : Ct w := by
  have hz := Xp _ h
  unfold ak7 at hz
  have h2 := hz (Cj w) (by simp)
  have h3 := hz (tx w) (by simp)
  have h6 := hz (Cl w) (by simp)
  have h7 := hz (tk w) (by simp)
  have h8 := hz (A9 w) (by simp)
  have h9 := hz (Bd w) (by simp)
  obtain ⟨r1, r2, _⟩ := T1 _ _ _ h2
  refine ⟨A3 _ h3, ?_, r2, fun z hz n hn => ?_, fun i z hi ho => ?_, A3 _ h8, fun i z hi => ?_⟩
  · rcases r1 with r1 | r1
    · cases r1
    · exact r1
  · have := Tb _ (A3 _ h6 z hz) n hn
    obtain ⟨y, hy, hs⟩ := List.any_eq_true.1 this
    exact ⟨y, hy, hs⟩
  · have := I8 w.ay 0 h7 i z hi ho
    rwa [Nat.zero_add] at this
  · have := Ty w.ay 0 h9 i z hi
    rwa [Nat.zero_add] at this
theorem aq2 {a b : Name} (h : cw a b = true) : b.length ≤ a.length := by
  have := (i4.1 h).length_le
  simpa [en] using this
theorem am3 (n : Name) : cw n [] = true := i4.2 (by simp [en])
theorem al6 {n a b : Name} (ha : cw n a = true) (hb : cw n b = true) (hl : a.length = b.length) : ee a b = true := by
  have h1 := i4.1 ha
  have h2 := i4.1 hb
  have := List.suffix_of_suffix_length_le h1 h2 (by simp [en, hl])
  exact qv.2 (this.eq_of_length (by simp [en, hl]))
theorem aq9 {n a b : Name} (ha : cw n a = true) (hb : cw n b = true) (hl : a.length ≤ b.length) : cw b a = true :=
  i4.2 (List.suffix_of_suffix_length_le (i4.1 ha) (i4.1 hb) (by simpa [en] using hl))
theorem aht {n : Name} : ∀ (l : List bb) (i : Nat) (b : Option (Nat × Nat)), (∀ p, F8 n l i b = some p → (∀ q, b = some q → q.2 ≤ p.2) ∧ ∀ z ∈ l, cw n z.origin = true → z.origin.length ≤ p.2) ∧ (b.isSome = true ∨ (∃ z ∈ l, cw n z.origin = true) → (F8 n l i b).isSome = true)
  | [], i, b => ⟨fun p hp => ⟨fun q hq => by rw [F8, hq] at hp; cases hp; exact Nat.le_refl _, fun z hz => by cases hz⟩, fun h => by
      rcases h with h | ⟨z, hz, _⟩
      · exact h
      · cases hz⟩
  | a :: l, i, b => by
    obtain ⟨h1, h2⟩ := aht (n := n) l (i + 1) (oh n b i a)
    have key : ∀ q, b = some q → ∃ r, oh n b i a = some r ∧ q.2 ≤ r.2 := fun q hq => by
      unfold oh
      split
      · rename_i hc
        rw [Bool.and_eq_true] at hc
        have hf := hc.2
        rw [hq] at hf
        have := of_decide_eq_true hf
        exact ⟨_, rfl, by simp only; omega⟩
      · exact ⟨q, hq, Nat.le_refl _⟩
    have key2 : cw n a.origin = true → ∃ r, oh n b i a = some r ∧ a.origin.length ≤ r.2 := fun hu => by
      unfold oh
      rw [hu, Bool.true_and]
      cases b with
      | none => exact ⟨_, rfl, Nat.le_refl _⟩
      | some q =>
        by_cases hf : Ho (some q) a.origin.length = true
        · rw [if_pos hf]; exact ⟨_, rfl, Nat.le_refl _⟩
        · rw [if_neg hf]
          refine ⟨q, rfl, ?_⟩
          have : ¬ q.2 < a.origin.length := fun h => hf (decide_eq_true h)
          omega
    refine ⟨fun p hp => ?_, fun h => h2 ?_⟩
    · obtain ⟨k1, k2⟩ := h1 p hp
      refine ⟨fun q hq => ?_, fun z hz hu => ?_⟩
      · obtain ⟨r, hr, hle⟩ := key q hq
        exact Nat.le_trans hle (k1 r hr)
      · rcases List.mem_cons.1 hz with rfl | hz
        · obtain ⟨r, hr, hle⟩ := key2 hu
          exact Nat.le_trans hle (k1 r hr)
        · exact k2 z hz hu
    · rcases h with h | ⟨z, hz, hu⟩
      · obtain ⟨q, hq⟩ := Option.isSome_iff_exists.1 h
        obtain ⟨r, hr, _⟩ := key q hq
        exact .inl (by rw [hr]; rfl)
      · rcases List.mem_cons.1 hz with rfl | hz
        · obtain ⟨r, hr, _⟩ := key2 hu
          exact .inl (by rw [hr]; rfl)
        · exact .inr ⟨z, hz, hu⟩
structure My (w : bd) (n : Name) (k : Nat) (z : bb) : Prop where
  val : rh w n = (k : Int)
  get : w.ay[k]? = some z
  under : cw n z.origin = true
  max : ∀ y ∈ w.ay, cw n y.origin = true → y.origin.length ≤ z.origin.length
theorem aoe {w : bd} (h : Ct w) (n : Name) : ∃ k z, My w n k z := by
  obtain ⟨r, hr, hro⟩ := h.root
  obtain ⟨h1, h2⟩ := aht (n := n) w.ay 0 none
  have hs := h2 (.inr ⟨r, hr, by rw [hro]; exact am3 n⟩)
  obtain ⟨p, hp⟩ := Option.isSome_iff_exists.1 hs
  obtain ⟨y, hy1, hy2, hy3⟩ := adp (w := w) (n := n) hp
  refine ⟨p.1, y, ⟨?_, hy1, hy3, fun z hz hu => ?_⟩⟩
  · unfold rh Wr; rw [hp]; rfl
  · rw [hy2]; exact (h1 p hp).2 z hz hu
theorem apz {w : bd} (h : Ct w) {i : Nat} {z : bb} (hi : w.ay[i]? = some z) (ho : z.origin ≠ []) : ∃ a r p y, z.origin = a :: r ∧ My w r p y ∧ m5 w (i : Int) = ((p : Int), 0) ∧ y.origin.length < z.origin.length ∧ cw z.origin y.origin = true := by
  have hz := h.zone z (List.mem_of_getElem? hi)
  have hn : dp z.origin = 0 := by
    have := (Su hz).first
    unfold tu at this
    split at this
    · contradiction
    · rename_i q; omega
  cases hc : z.origin with
  | nil => exact (ho hc).elim
  | cons a r =>
    obtain ⟨p, y, hy⟩ := aoe h r
    rw [hc] at hn
    have hpv : j7 (a :: r) = (r, 0) := by unfold j7; rw [if_neg (by omega), if_neg (by simp)]; rfl
    have hl := aq2 hy.under
    refine ⟨a, r, p, y, rfl, hy, ?_, by rw [List.length_cons]; omega, Be (i4.2 (List.suffix_cons _ _)) hy.under⟩
    unfold m5
    rw [pa, hi]
    simp only
    rw [hc, hpv]
    simp only
    rw [if_neg (by simp), hy.val, if_neg (by omega)]
end Go.Proofs.YtidomogemfchpaaGreat
end
section
set_option linter.unusedSimpArgs false
set_option linter.unusedVariables false
namespace Go.Proofs.YtidomogemfchpaaGreat
open Go.Vm
set_option maxRecDepth 2000000
def Iq (l : List bb) : Bool := l.all Mi
def Hy (l : List u2) : Bool := l.all fun h => !decide ((h.ay.length : Int) > 40)
def ajt (w : bd) : Bool :=
  Iq w.ay && (Hy w.dk && ((decide ((w.ay.length : Int) ≤ 8) || (decide ((w.ay.length : Int) > 32) && decide ((w.ay.length : Int) < 40))) && ((decide ((w.dk.length : Int) ≤ 12) || (decide ((w.dk.length : Int) > 64) && decide ((w.dk.length : Int) < 80))) && decide ((w.hints.length : Int) ≤ 40))))
set_option maxHeartbeats 8000000 in
theorem auz (w : bd) (hw : da w) : wl PP [az2] 0 (Tryz.f15.body.getD .skip) (dj PP Tryz.f15.results.toList (fun r st => (r1 bt).get true st.h r = some (ajt w))) (bw 0 [ct.val false w]) (bp []) := by
  have hl := hw.Ee
  have hhl := hw.hlen
  unfold Tryz.f15
  simp only [ek]
  simp only [↓wR, RA, simprocAttr, TF, ae]
  refine dh [1, 3] (fun (i : Nat) => [.ptr 0 0, .sc (.int .i64 (i))]) (fun _ => [some (.row [.vl false 2 (w.ay.map (bg.val false)), .vl false 2 (w.dk.map (dy.val false)), .vl false 1 (w.hints.map (bn.val false))] 0 2 50)]) (fun i => i ≤ w.ay.length ∧ Iq w.ay = Iq (w.ay.drop i)) (fun i => w.ay.length - i) 0 ⟨Nat.zero_le _, rfl⟩ (by simp only [↓wR, RA, simprocAttr, TF, ae] <;> rfl) (by simp only [↓wR, RA, simprocAttr, TF, ae] <;> rfl) ?_
  rintro i ⟨hi, hx⟩
  simp only [↓wR, RA, simprocAttr, TF, ae]
  unfold ajt
  rw [bj]; refine ⟨fun h => ?_, fun h => ?_⟩
  · obtain ⟨c, hc, hd1, hlt⟩ := dt (decide_eq_true h)
    rw [hd1, Iq, Iq, List.all_cons] at hx
    simp only [↓wR, RA, simprocAttr, TF, ae, h, hc, M0, hw.zone c (List.mem_of_getElem? hc)]; repeat (simp (disch := omega) only [ah, ca, cb, bz, b9]; try simp only [↓wR, RA, simprocAttr, TF, ae, h, hc, M0, hw.zone c (List.mem_of_getElem? hc)])
    rw [bk]; refine ⟨fun h1 => ?_, fun h1 => ?_⟩
    · have h1' : Mi c = false := by simpa only [Bool.not_eq_true'] using h1
      rw [h1', Bool.false_and] at hx
      simp only [↓wR, RA, simprocAttr, TF, ae, h1]
      rw [Iq, hx]; rfl
    · have h1' : Mi c = true := by simpa only [Bool.not_eq_false'] using h1
      rw [h1', Bool.true_and] at hx
      simp only [↓wR, RA, simprocAttr, TF, ae, h1]; repeat (simp (disch := omega) only [ah, ca, cb, bz, b9]; try simp only [↓wR, RA, simprocAttr, TF, ae, h1])
      exact ⟨i + 1, ⟨hlt, hx⟩, by omega, by (first | rfl | trivial | omega | ((try (simp (disch := omega) only [ah])); (try (simp only [FB])); first | done | rfl | omega))⟩
  rw [dv (decide_eq_false h)] at hx
  have hx' : Iq w.ay = true := hx
  clear hx hi
  simp only [↓wR, RA, simprocAttr, TF, ae, h]
  refine dh [1, 4] (fun (i : Nat) => [.ptr 0 0, .sc (.int .i64 (i))]) (fun _ => [some (.row [.vl false 2 (w.ay.map (bg.val false)), .vl false 2 (w.dk.map (dy.val false)), .vl false 1 (w.hints.map (bn.val false))] 0 2 50)]) (fun i => i ≤ w.dk.length ∧ Hy w.dk = Hy (w.dk.drop i)) (fun i => w.dk.length - i) 0 ⟨Nat.zero_le _, rfl⟩ (by simp only [↓wR, RA, simprocAttr, TF, ae] <;> rfl) (by simp only [↓wR, RA, simprocAttr, TF, ae] <;> rfl) ?_
  rintro i ⟨hi, hy⟩
  simp only [↓wR, RA, simprocAttr, TF, ae]
  rw [bj]; refine ⟨fun h2 => ?_, fun h2 => ?_⟩
  · obtain ⟨c, hc, hd1, hlt⟩ := dt (decide_eq_true h2)
    rw [hd1, Hy, Hy, List.all_cons] at hy
    simp only [↓wR, RA, simprocAttr, TF, ae, h2, hc]; repeat (simp (disch := omega) only [ah, ca, cb, bz, b9]; try simp only [↓wR, RA, simprocAttr, TF, ae, h2, hc])
    rw [bj]; refine ⟨fun h3 => ?_, fun h3 => ?_⟩
    · rw [decide_eq_true h3, Bool.not_true, Bool.false_and] at hy
      simp only [↓wR, RA, simprocAttr, TF, ae, h3]
      rw [hx', Hy, hy]; rfl
    · rw [decide_eq_false h3, Bool.not_false, Bool.true_and] at hy
      simp only [↓wR, RA, simprocAttr, TF, ae, h3]; repeat (simp (disch := omega) only [ah, ca, cb, bz, b9]; try simp only [↓wR, RA, simprocAttr, TF, ae, h3])
      exact ⟨i + 1, ⟨hlt, hy⟩, by omega, by (first | rfl | trivial | omega | ((try (simp (disch := omega) only [ah])); (try (simp only [FB])); first | done | rfl | omega))⟩
  rw [dv (decide_eq_false h2)] at hy
  have hy' : Hy w.dk = true := hy
  clear hy hi
  rw [hx', hy', Bool.true_and, Bool.true_and]
  simp only [↓wR, RA, simprocAttr, TF, ae, h2]
  rw [bj]; refine ⟨fun p1 => ?_, fun p1 => ?_⟩
  · rw [decide_eq_true p1, Bool.true_or, Bool.true_and]
    simp only [↓wR, RA, simprocAttr, TF, ae, p1]
    rw [bj]; refine ⟨fun p4 => ?_, fun p4 => ?_⟩
    · rw [decide_eq_true p4, Bool.true_or, Bool.true_and]
      simp only [↓wR, RA, simprocAttr, TF, ae, p4]
    · rw [decide_eq_false p4, Bool.false_or]
      simp only [↓wR, RA, simprocAttr, TF, ae, p4]
      rw [bj]; refine ⟨fun p5 => ?_, fun p5 => ?_⟩
      · rw [decide_eq_true p5, Bool.true_and]
        simp only [↓wR, RA, simprocAttr, TF, ae, p5]
        rw [bj]; refine ⟨fun p6 => ?_, fun p6 => ?_⟩
        · rw [decide_eq_true p6, Bool.true_and]
          simp only [↓wR, RA, simprocAttr, TF, ae, p6]
        · rw [decide_eq_false p6, Bool.false_and]
          simp only [↓wR, RA, simprocAttr, TF, ae, p6]
      · rw [decide_eq_false p5, Bool.false_and, Bool.false_and]
        simp only [↓wR, RA, simprocAttr, TF, ae, p5]
  · rw [decide_eq_false p1, Bool.false_or]
    simp only [↓wR, RA, simprocAttr, TF, ae, p1]
    rw [bj]; refine ⟨fun p2 => ?_, fun p2 => ?_⟩
    · rw [decide_eq_true p2, Bool.true_and]
      simp only [↓wR, RA, simprocAttr, TF, ae, p2]
      rw [bj]; refine ⟨fun p3 => ?_, fun p3 => ?_⟩
      · rw [decide_eq_true p3, Bool.true_and]
        simp only [↓wR, RA, simprocAttr, TF, ae, p3]
        rw [bj]; refine ⟨fun p4 => ?_, fun p4 => ?_⟩
        · rw [decide_eq_true p4, Bool.true_or, Bool.true_and]
          simp only [↓wR, RA, simprocAttr, TF, ae, p4]
        · rw [decide_eq_false p4, Bool.false_or]
          simp only [↓wR, RA, simprocAttr, TF, ae, p4]
          rw [bj]; refine ⟨fun p5 => ?_, fun p5 => ?_⟩
          · rw [decide_eq_true p5, Bool.true_and]
            simp only [↓wR, RA, simprocAttr, TF, ae, p5]
            rw [bj]; refine ⟨fun p6 => ?_, fun p6 => ?_⟩
            · rw [decide_eq_true p6, Bool.true_and]
              simp only [↓wR, RA, simprocAttr, TF, ae, p6]
            · rw [decide_eq_false p6, Bool.false_and]
              simp only [↓wR, RA, simprocAttr, TF, ae, p6]
          · rw [decide_eq_false p5, Bool.false_and, Bool.false_and]
            simp only [↓wR, RA, simprocAttr, TF, ae, p5]
      · rw [decide_eq_false p3, Bool.false_and]
        simp only [↓wR, RA, simprocAttr, TF, ae, p3]
    · rw [decide_eq_false p2, Bool.false_and, Bool.false_and]
      simp only [↓wR, RA, simprocAttr, TF, ae, p2]
noncomputable def Kp (x : bd × Unit) : Option AV := if da x.1 then some ((r1 bt).E true (ajt x.1)) else none
set_option maxRecDepth 2000000 in
theorem akf (x : bd × Unit) (r : AV) (h : Kp x = some r) : bf PP 15 ((aC ct a0).E x) r := by
  by_cases hc : da x.1
  case neg => simp only [Kp, if_neg hc] at h; cases h
  simp only [Kp, if_pos hc] at h
  cases h
  exact ba (ak.cons (ai anc) (ak.nil PP)) Tryz.func15 (by kernel_rfl) (by kernel_rfl) (by kernel_rfl) (Nat.le_of_ble_eq_true (by kernel_rfl)) (r1 bt) true (ajt x.1) (auz x.1 hc)
noncomputable abbrev at4 : Nat × Bool × (List AV → M AV) := (15, true, dc (aC ct a0) Kp)
noncomputable abbrev awake20 : Nat × Bool × (List AV → M AV) := (14, true, dc a0 (fun _ => some (.sc (.bool true))))
end Go.Proofs.YtidomogemfchpaaGreat
end
section
set_option linter.unusedSimpArgs false
set_option linter.unusedVariables false
namespace Go.Proofs.YtidomogemfchpaaGreat
open Go.Vm
set_option maxRecDepth 2000000
def w9 (z : bb) (n : Name) (s : bo) : Bool := z7 z s && cw n s.owner
theorem acj {z : bb} {n : Name} : ∀ (l : List bo) (b : Option Name), (∀ m, b = some m → ∃ c, l.foldl (gw z n) b = some c ∧ c.length ≤ m.length) ∧ (∀ s ∈ l, w9 z n s = true → ∃ c, l.foldl (gw z n) b = some c ∧ c.length ≤ s.owner.length) ∧ ∀ c, l.foldl (gw z n) b = some c → b = some c ∨ ∃ s ∈ l, w9 z n s = true ∧ s.owner = c := by
  intro l
  induction l with
  | nil => intro b; exact ⟨fun m hm => ⟨m, hm, Nat.le_refl _⟩, (fun s hs => by cases hs), fun c hc => .inl hc⟩
  | cons a l ih =>
    intro b
    obtain ⟨i1, i2, i3⟩ := ih (gw z n b a)
    rw [List.foldl_cons]
    have hst : gw z n b a = if (w9 z n a && C1 a.owner b) = true then some a.owner else b := by
      unfold gw w9 z7
      simp only [Bool.and_assoc]
    have keep : ∀ m, b = some m → ∃ q, gw z n b a = some q ∧ q.length ≤ m.length := fun m hm => by
      rw [hst]
      split
      · rename_i h
        rw [Bool.and_eq_true, hm] at h
        have := of_decide_eq_true h.2
        exact ⟨_, rfl, by omega⟩
      · exact ⟨m, hm, Nat.le_refl _⟩
    refine ⟨fun m hm => ?_, fun s hs hok => ?_, fun c hc => ?_⟩
    · obtain ⟨q, hq, hle⟩ := keep m hm
      obtain ⟨c, hc, hle2⟩ := i1 q hq
      exact ⟨c, hc, by omega⟩
    · rcases List.mem_cons.1 hs with rfl | hs
      · cases hsh : C1 s.owner b with
        | true =>
          rw [hok, hsh, if_pos (by rfl)] at hst
          exact i1 _ hst
        | false =>
          cases b with
          | none => cases hsh
          | some m =>
            have h2 : ¬ s.owner.length < m.length := of_decide_eq_false hsh
            obtain ⟨q, hq, hle⟩ := keep m rfl
            obtain ⟨c, hc, hle2⟩ := i1 q hq
            exact ⟨c, hc, by omega⟩
      · exact i2 s hs hok
    · rcases i3 c hc with h | ⟨s, hs, h1, h2⟩
      · rw [hst] at h
        split at h
        · rename_i hq
          rw [Bool.and_eq_true] at hq
          cases h
          exact .inr ⟨a, by simp, hq.1, rfl⟩
        · exact .inl h
      · exact .inr ⟨s, by simp [hs], h1, h2⟩
theorem apa {z : bb} {n c : Name} (h : j0 z n = some c) : ∃ s ∈ z.aj, w9 z n s = true ∧ s.owner = c := by
  rcases (acj z.aj none).2.2 c h with h | h
  · cases h
  · exact h
theorem apl {z : bb} {n : Name} {s : bo} (hs : s ∈ z.aj) (h : w9 z n s = true) : ∃ c, j0 z n = some c ∧ c.length ≤ s.owner.length := (acj z.aj none).2.1 s hs h
theorem Xj {z : bb} {n : Name} {s : bo} (h : w9 z n s = true) : (s.type.toNat : Int) = 2 ∧ z.origin.length < s.owner.length ∧ cw s.owner z.origin = true ∧ cw n s.owner = true := by
  unfold w9 z7 x6 at h
  simp only [Bool.and_eq_true, decide_eq_true_eq] at h
  exact ⟨h.1.1, h.1.2.1, h.1.2.2, h.2⟩
theorem afa {w : bd} (hg : Ct w) {z : bb} (hz : z ∈ w.ay) {n : Name} {s : bo} (hs : s ∈ z.aj) (h : w9 z n s = true) : ∃ y ∈ w.ay, ee y.origin s.owner = true := by
  unfold w9 at h
  rw [Bool.and_eq_true] at h
  exact hg.azz z hz s.owner (List.mem_map.2 ⟨s, List.mem_filter.2 ⟨hs, h.1⟩, rfl⟩)
theorem Qw {w : bd} (hg : Ct w) {z : bb} (hz : z ∈ w.ay) {n : Name} (hn : dp n = 0) (hu : cw n z.origin = true) : i9 z n = 0 := by
  have := hg.zone z hz
  unfold i9; rw [if_neg (by omega), if_neg (by omega), if_neg (by rw [hu]; decide)]
theorem aqh {w : bd} (hg : Ct w) {n : Name} {k : Nat} {z : bb} (ho : My w n k z) : j0 z n = none := by
  cases h : j0 z n with
  | none => rfl
  | some c =>
    obtain ⟨s, hs, hok, _⟩ := apa h
    have hzm := List.mem_of_getElem? ho.get
    obtain ⟨y, hy, hsame⟩ := afa hg hzm hs hok
    obtain ⟨_, h1, _, h2⟩ := Xj hok
    have h3 := ho.max y hy (by rw [D2 hsame]; exact h2)
    have h4 := Q8 hsame
    omega
theorem ai5 {w : bd} (hg : Ct w) {z : bb} (hz : z ∈ w.ay) {n : Name} {t : UInt16} (hn : dp n = 0) (hu : cw n z.origin = true) (t0 : (t.toNat : Int) ≠ 0) (t41 : (t.toNat : Int) ≠ 41) : M8 z n t = (rp z n t (ir z n).1, 0) := by
  have h := Qw hg hz hn hu
  have hf : (ir z n).2 = 0 := by rcases Wf h with ⟨_, _, e⟩ | ⟨_, _, _, e⟩ | ⟨_, _, _, e⟩ | ⟨_, _, _, _, e⟩ | ⟨_, _, _, _, e⟩ <;> rw [e]
  have ha : ov z n t = ir z n := by unfold ov; rw [if_neg (fun q => q.2.elim t0 t41)]
  unfold M8; rw [ha, if_neg (by omega)]
theorem aqy {w : bd} (hg : Ct w) {n : Name} {t : UInt16} (hn : dp n = 0) {k : Nat} {z : bb} (ho : My w n k z) : (rp z n t (ir z n).1).turn ≠ 4 := by
  have h := Qw hg (List.mem_of_getElem? ho.get) hn ho.under
  have hc := aqh hg ho
  rcases ahw t h with ⟨c, s, hc', _⟩ | ⟨_, e⟩ | ⟨_, e⟩ | ⟨_, l, _, _, _, _, e⟩ | ⟨_, s, d, m, _, _, _, _, _, _, _, _, _, e⟩
  · rw [hc] at hc'; cases hc'
  · rw [e]; intro q; cases q
  · rw [e]; intro q; cases q
  · rw [e]; intro q; cases q
  · rw [e]; intro q; cases q
theorem ag5 {w : bd} (hg : Ct w) {n : Name} {t : UInt16} (hn : dp n = 0) {k p : Nat} {z y : bb} {a : ByteArray} {r : Name} (ho : My w n k z) (hr : z.origin = a :: r) (hp : My w r p y) (hpe : m5 w (k : Int) = ((p : Int), 0)) (hl : y.origin.length < z.origin.length) (hu : cw z.origin y.origin = true) :
    ∃ s ∈ y.aj, rp y n t (ir y n).1 = xu 4 [s] [] ∧ ee s.owner z.origin = true := by
  have hym := List.mem_of_getElem? hp.get
  have hzm := List.mem_of_getElem? ho.get
  have h := Qw hg hym hn (Be ho.under hu)
  have hpar := hg.par k z ho.get (by rw [hr]; simp)
  rw [hpe] at hpar
  unfold parentOf at hpar
  simp only at hpar
  rw [pa, hp.get] at hpar
  simp only at hpar
  have hsome : (iu y.aj z.origin 2).isSome = true := by
    split at hpar
    · rename_i q; exact q
    · cases hpar
  obtain ⟨s0, hs0⟩ := Option.isSome_iff_exists.1 hsome
  obtain ⟨m1, m2, _, m4⟩ := y9 hs0
  have hsl := Q8 m4
  have hok : w9 y n s0 = true := by
    unfold w9 z7 x6
    rw [decide_eq_true (show (s0.type.toNat : Int) = 2 from m2), decide_eq_true (show y.origin.length < s0.owner.length by omega), show cw s0.owner y.origin = true by rw [N7 m4]; exact hu, show cw n s0.owner = true by rw [D2 m4]; exact ho.under]
    rfl
  obtain ⟨c, hc, hcl⟩ := apl m1 hok
  obtain ⟨s1, hs1, hok1, rfl⟩ := apa hc
  obtain ⟨x, hx, hxs⟩ := afa hg hym hs1 hok1
  obtain ⟨_, g1, g2, g3⟩ := Xj hok1
  have hxl := Q8 hxs
  have hsame : ee s1.owner z.origin = true := by
    by_cases e : s1.owner.length = z.origin.length
    · exact al6 g3 ho.under e
    · have h3 : cw z.origin s1.owner = true := aq9 g3 ho.under (by omega)
      have h4 : cw r s1.owner = true := by
        have := i4.1 h3
        rw [hr] at this
        rcases List.suffix_cons_iff.1 (show en s1.owner <:+ fold a :: en r from this) with q | q
        · have := congrArg List.length q
          simp only [en, List.length_map, List.length_cons] at this
          rw [hr, List.length_cons] at e
          omega
        · exact i4.2 q
      have h5 := hp.max x hx (by rw [D2 hxs]; exact h4)
      omega
  rcases ahw t h with ⟨c, s, hc', hs, ht, hso, e⟩ | ⟨hc', e⟩ | ⟨hc', e⟩ | ⟨hc', l, _, _, _, _, e⟩ | ⟨hc', s, d, m, _, _, _, _, _, _, _, _, _, e⟩
  · rw [hc] at hc'
    cases hc'
    exact ⟨s, hs, e, alm hso hsame⟩
  all_goals rw [hc] at hc'; cases hc'
set_option maxHeartbeats 8000000 in
theorem avs (w : bd) (n : Name) (t : UInt16) (hw : da w) (hn : be n) : wl PP [awake20, at4, aph, eb, aiy, Wl, atc, dr] 0 (Tryz.f5.body.getD .skip) (dj PP Tryz.f5.results.toList (fun r st => (r1 bt).get true st.h r = some true)) (bw 0 [ct.val false w, ar.val false n, c8.val false t]) (bp []) := by
  have hl := hw.Ee
  have hq : ∀ a b c d, gk a b c = d → gk a b c = d := fun _ _ _ _ h => h
  unfold Tryz.f5
  simp only [ek, di]
  simp only [↓wR, RA, simprocAttr, TF, ae, Kp, hw]
  rw [bk]; refine ⟨fun h1 => ?_, fun h1 => ?_⟩
  · simp only [↓wR, RA, simprocAttr, TF, ae, h1]
  simp only [↓wR, RA, simprocAttr, TF, ae, h1, He, hw]
  rw [bk]; refine ⟨fun h2 => ?_, fun h2 => ?_⟩
  · simp only [↓wR, RA, simprocAttr, TF, ae, h2]
  simp only [↓wR, RA, simprocAttr, TF, ae, h2, ll, hn.fit]
  rw [bk]; refine ⟨fun h3 => ?_, fun h3 => ?_⟩
  · simp only [↓wR, RA, simprocAttr, TF, ae, h3]
  simp only [↓wR, RA, simprocAttr, TF, ae, h3]
  rw [cy]; refine ⟨fun ⟨h4, t0⟩ => ?_, fun ⟨h4, t0⟩ => ?_⟩
  · simp only [↓wR, RA, simprocAttr, TF, ae, h4]
  simp only [↓wR, RA, simprocAttr, TF, ae, h4]
  rw [cy]; refine ⟨fun ⟨h5, t41⟩ => ?_, fun ⟨h5, t41⟩ => ?_⟩
  · simp only [↓wR, RA, simprocAttr, TF, ae, h5]
  have hwe : kg w = 0 := by simpa using h2
  have hne : dp n = 0 := by simpa using h3
  have hg := ayh hwe
  obtain ⟨i, z, ho⟩ := aoe hg n
  have hown : Ha w n = ((i : Int), 0) := by unfold Ha; rw [if_neg (fun q => q hne), ho.val, if_neg (by omega)]
  have hzi := ho.get
  have hzm := List.mem_of_getElem? hzi
  have hil : i < w.ay.length := (List.getElem?_eq_some_iff.1 hzi).1
  have hzs := hw.zone z hzm
  have hnx := ai5 hg hzm hne ho.under t0 t41
  have htn := aqy (t := t) hg hne ho
  rcases hst : rp z n t (ir z n).1 with ⟨u, ss, to⟩
  rw [hst] at hnx htn
  have d1 : decide ((i : Int) ≥ (w.ay.length : Int)) = false := decide_eq_false (by omega)
  have d2 : (u == 4) = false := beq_eq_false_iff_ne.2 htn
  simp only [↓wR, RA, simprocAttr, TF, ae, h5, Dz, hw, hn, hown, bne_self_eq_false, Vo, d1, hzi, G4, hzs, hnx, d2, z5]
  by_cases ho0 : z.origin = []
  · have hpe : m5 w (i : Int) = (0, 9) := by
      unfold m5
      rw [pa, hzi]
      simp only
      rw [if_pos (by rw [ho0]; decide)]
    have d3 : ((z.origin.length : Int) == 0) = true := by rw [ho0]; rfl
    simp only [↓wR, RA, simprocAttr, TF, ae, hpe, hzi, d3]
  obtain ⟨a, r, p, y, hr, hop, hpe, hly, huy⟩ := apz hg hzi ho0
  have hyp := hop.get
  have hym := List.mem_of_getElem? hyp
  have hys := hw.zone y hym
  have hpl : p < w.ay.length := (List.getElem?_eq_some_iff.1 hyp).1
  obtain ⟨s, hs, hst2, hso⟩ := ag5 (t := t) hg hne ho hr hop hpe hly huy
  have hss := (hys.set s hs).owner
  have hnx2 := ai5 hg hym hne (Be ho.under huy) t0 t41
  rw [hst2] at hnx2
  have d4 : decide ((p : Int) ≥ (w.ay.length : Int)) = false := decide_eq_false (by omega)
  simp only [↓wR, RA, simprocAttr, TF, ae, hpe, bne_self_eq_false, Vo, d4, hyp, G4, hys, hn, hnx2]
  refine ⟨by kernel_rfl, .inl ?_⟩
  simp only [↓wR, RA, simprocAttr, TF, ae, beq_self_eq_true, hzi, ia, hss, hzs.origin, hso]
  apply hq; kernel_rfl
end Go.Proofs.YtidomogemfchpaaGreat
end
section
set_option linter.unusedSimpArgs false
set_option linter.unusedVariables false
namespace Go.Proofs.YtidomogemfchpaaGreat
open Go.Vm
set_option maxRecDepth 2000000
noncomputable section
def muP {α β : Type} (μ : α → Nat) (ν : β → Nat) (p : α × β) : Nat := μ p.1 + ν p.2
def si {α : Type} (μ : α → Nat) (l : List α) : Nat := sd μ l + 1
def Hu {α : Type} (_ : α) : Nat := 1
def muI {α β : Type} (f : β → α) (μ : α → Nat) (y : β) : Nat := μ (f y) + 1
def Vk (P : Program) (t : TypeId) : List Field := match P.underlying t with | some (.struct fs) => fs.toList | _ => []
def axk (l : List Field) : Nat := match l with | f :: _ => f.offset | [] => 0
def tyH (l : List Field) : TypeId := match l with | f :: _ => f.type | [] => 0
def at9 (l : List Field) : Bool := match l with | _ :: _ => true | [] => false
def azr (l : List Field) : Bool := match l with | [_] => true | _ => false
theorem Dl {P : Program} {l : List Field} {off : Nat} {t : TypeId} {α : Type} {C : dg α} {μ : α → Nat} (hl : azr l = true) (ho : axk l = off) (ht : tyH l = t) (hs : P.cellsOf t = C.sz) (h : Rd P t C μ) : Xi P l off C μ := by
  match l, hl with
  | [f], _ => subst ht; exact fun {H} => av3 ho hs h
theorem oc {P : Program} {l : List Field} {off : Nat} {t : TypeId} {α β : Type} {A : dg α} {B : dg β} {μ : α → Nat} {ν : β → Nat} (hl : at9 l = true) (ho : axk l = off) (ht : tyH l = t) (hs : P.cellsOf t = A.sz) (h : Rd P t A μ) (hr : Xi P l.tail (off + A.sz) B ν) : Xi P l off (jk A B) (muP μ ν) := by
  match l, hl with
  | f :: fs, _ => subst ht; exact fun {H} => asm ho hs h hr
theorem zk {P : Program} {t : TypeId} {α β : Type} {C : dg α} {μ : α → Nat} {f : β → α} {i : α → β} {h1 : ∀ y, i (f y) = y} {h2 : ∀ x, f (i x) = x} (ht : at9 (Vk P t) = true) (hc : P.cellsOf t = C.sz) (h : Xi P (Vk P t) 0 C μ) : Rd P t (vr C f i h1 h2) (muI f μ) := by
  unfold Vk at ht h
  cases hu : P.underlying t with
  | none => rw [hu] at ht; cases ht
  | some d =>
    rw [hu] at ht h
    cases d with
    | struct fs => exact fun {H} => axj (an0 hu hc h)
    | _ => cases ht
theorem ri {P : Program} {t e : TypeId} {α : Type} {C : dg α} {μ : α → Nat} (ht : P.underlying t = some (.slice e)) (hsz : P.cellsOf e = C.sz) (hpos : 0 < C.sz) (he : Rd P e C μ) : Rd P t (cr C) (si μ) := av4 ht hsz hpos he
def Mz (s : ByteArray) : Nat := s.size + 1
theorem rdS : Rd PP 9 an Mz := awd (by kernel_rfl)
def ow : Name → Nat := si Mz
theorem T0 : Rd PP 23 ar ow := ri (e := 9) (by kernel_rfl) (by kernel_rfl) (by decide) rdS
theorem avq : Rd PP 22 ar ow := ri (e := 9) (by kernel_rfl) (by kernel_rfl) (by decide) rdS
theorem au4 : Rd PP 76 (cr ar) (si ow) := ri (e := 23) (by kernel_rfl) (by kernel_rfl) (by decide) T0
theorem amn : Rd PP 48 (cr bn) (si Hu) := ri (e := 37) (by kernel_rfl) (by kernel_rfl) (by decide) (aob (by kernel_rfl))
theorem ayq : Rd PP 81 (cr cp) (si Hu) := ri (e := 5) (by kernel_rfl) (by kernel_rfl) (by decide) (ayp (by kernel_rfl))
def Gr (d : c7) : Nat := si ow d.names + (si Hu d.nums + (ow d.texts + si Hu d.raw)) + 1
theorem axi : Rd PP 83 cd Gr :=
  zk (by kernel_rfl) (by kernel_rfl) (oc (by kernel_rfl) (by kernel_rfl) (by kernel_rfl) (by kernel_rfl) au4 (oc (by kernel_rfl) (by kernel_rfl) (by kernel_rfl) (by kernel_rfl) amn (oc (by kernel_rfl) (by kernel_rfl) (by kernel_rfl) (by kernel_rfl) avq (Dl (by kernel_rfl) (by kernel_rfl) (by kernel_rfl) (by kernel_rfl) ayq))))
theorem ava : Rd PP 38 (cr cd) (si Gr) := ri (e := 83) (by kernel_rfl) (by kernel_rfl) (by decide) axi
theorem anj : Rd PP 28 c8 Hu := ana (by kernel_rfl)
theorem av1 : Rd PP 36 c8 Hu := ana (by kernel_rfl)
theorem att : Rd PP 37 bn Hu := aob (by kernel_rfl)
def Nd (s : bo) : Nat := ow s.owner + (1 + (1 + (1 + si Gr s.data))) + 1
theorem ayd : Rd PP 40 aq Nd :=
  zk (by kernel_rfl) (by kernel_rfl) (oc (by kernel_rfl) (by kernel_rfl) (by kernel_rfl) (by kernel_rfl) T0 (oc (by kernel_rfl) (by kernel_rfl) (by kernel_rfl) (by kernel_rfl) anj (oc (by kernel_rfl) (by kernel_rfl) (by kernel_rfl) (by kernel_rfl) av1 (oc (by kernel_rfl) (by kernel_rfl) (by kernel_rfl) (by kernel_rfl) att (Dl (by kernel_rfl) (by kernel_rfl) (by kernel_rfl) (by kernel_rfl) ava)))))
theorem awk : Rd PP 24 (cr aq) (si Nd) := ri (e := 40) (by kernel_rfl) (by kernel_rfl) (by decide) ayd
def Bm (z : bb) : Nat := ow z.origin + si Nd z.aj + 1
theorem aw7 : Rd PP 26 bg Bm :=
  zk (by kernel_rfl) (by kernel_rfl) (oc (by kernel_rfl) (by kernel_rfl) (by kernel_rfl) (by kernel_rfl) T0 (Dl (by kernel_rfl) (by kernel_rfl) (by kernel_rfl) (by kernel_rfl) awk))
theorem Ng (n : Name) : br n = ow n := by
  suffices h : ∀ (n : Name) (k : Nat), n.foldl (fun k s => k + (s.size + 1)) k = k + sd Mz n by
    have := h n 1; simp only [br, ow, si]; omega
  intro n
  induction n with
  | nil => intro k; rfl
  | cons a n ih => intro k; rw [List.foldl_cons, ih]; simp only [sd, Mz]; omega
theorem Dg {α : Type} {f μ : α → Nat} {c : Nat} {l : List α} (h : ∀ x, f x + 1 ≤ c * μ x) : fu f l ≤ c * sd μ l := by
  induction l with
  | nil => simp [fu, sd]
  | cons a l ih =>
    have := h a
    simp only [fu, List.foldr_cons, sd, Nat.mul_add] at ih ⊢
    omega
theorem M6 {α : Type} (l : List α) : sd Hu l = l.length := by
  induction l with
  | nil => rfl
  | cons a l ih => simp only [sd, ih, Hu, List.length_cons]; omega
theorem avb (d : c7) : uc d + 1 ≤ 3 * Gr d := by
  have h1 := Dg (f := br) (μ := ow) (c := 2) (l := d.names) (fun n => by rw [Ng]; simp only [ow, si]; omega)
  have h2 := Dg (f := ByteArray.size) (μ := Mz) (c := 1) (l := d.texts) (fun n => by unfold Mz; omega)
  have h3 := M6 d.nums
  have h4 := M6 d.raw
  simp only [uc, Gr, ow, si] at *
  omega
theorem axl (s : bo) : nb s + 1 ≤ 4 * Nd s := by
  have h1 := Dg (f := uc) (μ := Gr) (c := 3) (l := s.data) avb
  have h2 := Ng s.owner
  simp only [nb, Nd, ow, si] at *
  omega
theorem auy (z : bb) : x9 z ≤ 4 * Bm z := by
  have h1 := Dg (f := nb) (μ := Nd) (c := 4) (l := z.aj) axl
  have h2 := Ng z.origin
  simp only [x9, Bm, ow, si] at *
  omega
theorem ala {n : Name} (h : ow n ≤ 1048576) : be n := by unfold be; rw [Ng]; omega
end
end Go.Proofs.YtidomogemfchpaaGreat
end
section
set_option linter.unusedSimpArgs false
set_option linter.unusedVariables false
namespace Go.Proofs.YtidomogemfchpaaGreat
open Go.Vm
set_option maxRecDepth 2000000
noncomputable section
theorem aw0 {P : Program} {t : TypeId} (ht : P.underlying t = some (.int .i64)) : Rd P t (aw .i64) (fun _ => 1) := by
  intro H enc W b0 fuel cs x h
  obtain ⟨n, rfl, rfl, hw⟩ := DataW.trod_int ht h
  exact ⟨n, bm.one (.sc _), by simp [ku]⟩
theorem aw2 : Rd PP 68 (cr (aw .i64)) (si Hu) := ri (e := 3) (by kernel_rfl) (by kernel_rfl) (by decide) (aw0 (by kernel_rfl))
def Mw (h : u2) : Nat := 1 + si Hu h.ay + 1
theorem ax5 : Rd PP 71 dy Mw :=
  zk (by kernel_rfl) (by kernel_rfl) (oc (by kernel_rfl) (by kernel_rfl) (by kernel_rfl) (by kernel_rfl) att (Dl (by kernel_rfl) (by kernel_rfl) (by kernel_rfl) (by kernel_rfl) aw2))
theorem avo : Rd PP 47 (cr dy) (si Mw) := ri (e := 71) (by kernel_rfl) (by kernel_rfl) (by decide) ax5
theorem au7 : Rd PP 46 (cr bg) (si Bm) := ri (e := 26) (by kernel_rfl) (by kernel_rfl) (by decide) aw7
def Nx (w : bd) : Nat := si Bm w.ay + (si Mw w.dk + si Hu w.hints) + 1
theorem auj : Rd PP 50 ct Nx :=
  zk (by kernel_rfl) (by kernel_rfl) (oc (by kernel_rfl) (by kernel_rfl) (by kernel_rfl) (by kernel_rfl) au7 (oc (by kernel_rfl) (by kernel_rfl) (by kernel_rfl) (by kernel_rfl) avo (Dl (by kernel_rfl) (by kernel_rfl) (by kernel_rfl) (by kernel_rfl) amn)))
theorem agh {w : bd} (h : Nx w ≤ 1048576) : da w := by
  have h1 := Dg (f := x9) (μ := Bm) (c := 5) (l := w.ay) (fun z => by have h1 := auy z; have h2 : 1 ≤ Bm z := (by unfold Bm; omega); omega)
  have h2 := Dg (f := fun h : u2 => h.ay.length) (μ := Mw) (c := 1) (l := w.dk) (fun h => by have := M6 h.ay; unfold Mw si; omega)
  have h3 := M6 w.hints
  unfold da Yq
  simp only [Nx, si] at h
  omega
end
end Go.Proofs.YtidomogemfchpaaGreat
end
