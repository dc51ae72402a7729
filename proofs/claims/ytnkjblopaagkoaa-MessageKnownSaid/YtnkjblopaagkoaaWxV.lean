/- Runs on abstract values: values as data; calls that were reckoned ahead, by a list of their arguments and results. No condition. -/
import Derived.Test.YtnkjblopaagkoaaWxE
namespace Go.Vm
noncomputable section

/-! ### Values as data: what slices hold is read out of memory, to the bottom -/
def oneC (c : AV) : Bool :=
  match c with
  | .sc v => match v with
    | .agg _ => false
    | _ => true
  | .agg _ => false
  | _ => true
def chunkN (sz : Nat) : Nat → List AV → List AV
  | 0, _ => []
  | n + 1, l => .agg (l.take sz) :: chunkN sz n (l.drop sz)
def chunkC (sz n : Nat) (l : List AV) : Option (List AV) := bif Nat.beq sz 1 then (bif l.all oneC then some l else none) else some (chunkN sz n l)
def mapX (f : AV → M AV) (l : List AV) : M (List AV) := List.rec (motive := fun _ => M (List AV)) (M.pure []) (fun a _ ih => (f a).bind fun x => ih.bind fun l => M.pure (x :: l)) l
def deepRow (fr : Bool) (r : List AV → M (List AV)) (off len sz : Nat) (x : AObj) : M AV :=
  match x with
  | .row cells _ _ _ => bif Nat.ble (off + len * sz) cells.length then (r ((cells.drop off).take (len * sz))).bind fun l => (M.of (chunkC sz len l)).bind fun es => M.pure (.vl fr sz es) else M.fail
  | _ => M.fail
def deep1 (fr : Bool) (f : AV → M AV) (a : AV) : M AV :=
  match a with
  | .sc _ => M.pure a
  | .agg l => (mapX f l).bind fun l => M.pure (.agg l)
  | .tup l => (mapX f l).bind fun l => M.pure (.tup l)
  | .vl loc sz es => bif loc || !fr then (mapX f es).bind fun l => M.pure (.vl fr sz l) else M.fail
  | .sl o off len sz => (hget o).bind (deepRow fr (mapX f) off len sz)
  | .ez => M.pure a
  | _ => M.fail
def deep (fr : Bool) (n : Nat) : AV → M AV := Nat.rec (motive := fun _ => AV → M AV) (fun _ => M.fail) (fun _ ih => deep1 fr ih) n

theorem oneC_cells {c : AV} (h : oneC c = true) : c.cells = [c] := by
  cases c with
  | sc v => cases v <;> first | rfl | cases h
  | agg l => cases h
  | _ => rfl
theorem chunkN_cells {sz : Nat} : ∀ (n : Nat) (l : List AV), l.length = n * sz → (chunkN sz n l).flatMap AV.cells = l ∧ (chunkN sz n l).length = n ∧ ∀ e ∈ chunkN sz n l, e.cells.length = sz
  | 0, l, h => by
    have : l = [] := List.eq_nil_of_length_eq_zero (by simpa using h)
    subst this
    exact ⟨rfl, rfl, fun e he => by cases he⟩
  | n + 1, l, h => by
    rw [Nat.succ_mul] at h
    obtain ⟨h1, h2, h3⟩ := chunkN_cells (sz := sz) n (l.drop sz) (by rw [List.length_drop]; omega)
    refine ⟨?_, by simp [chunkN, h2], fun e he => ?_⟩
    · rw [chunkN, List.flatMap_cons, h1]
      show l.take sz ++ l.drop sz = l
      exact List.take_append_drop sz l
    · rcases List.mem_cons.1 he with rfl | he
      · show (l.take sz).length = sz
        rw [List.length_take]; omega
      · exact h3 e he
theorem chunkC_cells {sz n : Nat} {l es : List AV} (hl : l.length = n * sz) (h : chunkC sz n l = some es) : es.flatMap AV.cells = l ∧ es.length = n ∧ ∀ e ∈ es, e.cells.length = sz := by
  unfold chunkC at h
  cases hb : Nat.beq sz 1 with
  | false => rw [hb] at h; cases h; exact chunkN_cells n l hl
  | true =>
    rw [hb, cond_true] at h
    have h1 := Nat.eq_of_beq_eq_true hb
    subst h1
    cases ha : l.all oneC with
    | false => rw [ha] at h; cases h
    | true =>
      rw [ha] at h
      cases h
      rw [List.all_eq_true] at ha
      refine ⟨?_, by omega, fun e he => by rw [oneC_cells (ha e he)]; rfl⟩
      clear hl
      induction l with
      | nil => rfl
      | cons a l ih => rw [List.flatMap_cons, oneC_cells (ha a (by simp)), ih (fun x hx => ha x (by simp [hx]))]; rfl

/-- What is said of data and what it was read of. -/
structure DeepA (fr : Bool) (h : Tr AObj) (a x : AV) : Prop where
  len : x.cells.length = a.cells.length
  rel : ∀ {g w K b0 v}, Ok g h w → Lends g h K → (fr = true → b0 ≤ g.b0) → Rel g w a v → Rel (gK b0 K) w x v
  cel : ∀ {g w K b0 vs}, Ok g h w → Lends g h K → (fr = true → b0 ≤ g.b0) → RelL g w a.cells vs → RelL (gK b0 K) w x.cells vs
structure DeepL (fr : Bool) (h : Tr AObj) (l l' : List AV) : Prop where
  len : l'.length = l.length
  size : ∀ sz, (∀ e ∈ l, e.cells.length = sz) → ∀ e ∈ l', e.cells.length = sz
  rel : ∀ {g w K b0 vs}, Ok g h w → Lends g h K → (fr = true → b0 ≤ g.b0) → RelL g w l vs → RelL (gK b0 K) w l' vs
  cel : ∀ {g w K b0 vs}, Ok g h w → Lends g h K → (fr = true → b0 ≤ g.b0) → RelL g w (l.flatMap AV.cells) vs → RelL (gK b0 K) w (l'.flatMap AV.cells) vs
theorem DeepL.nil {fr h} : DeepL fr h [] [] where
  len := rfl
  size _ _ e he := by cases he
  rel _ _ _ hr := ⟨hr.1, fun i a v ha => by simp at ha⟩
  cel _ _ _ hr := ⟨hr.1, fun i a v ha => by simp at ha⟩
theorem relL_un {g w a l vs} (h : RelL g w (a :: l) vs) : ∃ v us, vs = v :: us ∧ Rel g w a v ∧ RelL g w l us := by
  match vs, h with
  | [], h => have := h.1; simp at this
  | v :: us, h => exact ⟨v, us, rfl, h.head, h.tail⟩
theorem DeepL.cons {fr h a x l l'} (h1 : DeepA fr h a x) (h2 : DeepL fr h l l') : DeepL fr h (a :: l) (x :: l') where
  len := by simp [h2.len]
  size sz hs e he := by
    rcases List.mem_cons.1 he with rfl | he
    · rw [h1.len]; exact hs a (by simp)
    · exact h2.size sz (fun e he => hs e (by simp [he])) e he
  rel hok hl hb hr := by
    obtain ⟨v, us, rfl, q1, q2⟩ := relL_un hr
    exact RelL.cons (h1.rel hok hl hb q1) (h2.rel hok hl hb q2)
  cel hok hl hb hr := by
    rw [List.flatMap_cons] at hr ⊢
    obtain ⟨u, u', rfl, q1, q2⟩ := hr.split
    exact (h1.cel hok hl hb q1).append (h2.cel hok hl hb q2)
theorem DeepA.one {fr h a x} (ha : a.cells = [a]) (hx : x.cells = [x]) (rel : ∀ {g w K b0 v}, Ok g h w → Lends g h K → (fr = true → b0 ≤ g.b0) → Rel g w a v → Rel (gK b0 K) w x v) : DeepA fr h a x where
  len := by rw [ha, hx]; rfl
  rel := rel
  cel hok hl hb hr := by
    rw [ha] at hr
    rw [hx]
    obtain ⟨v, rfl, h1⟩ := relL_one hr
    exact RelL.one (rel hok hl hb h1)
theorem vl_cells {fr b0 K w sz} {es : List AV} {vs : List Value} {b off cap : Nat} (hr : RelL (gK b0 K) w (es.flatMap AV.cells) vs) (hsz : ∀ e ∈ es, e.cells.length = sz) (hcap : es.length ≤ cap) (hb : fr = true → b0 ≤ b)
    (hc : ∀ j v, vs[j]? = some v → K b (off + j) ∧ w.cell? ⟨b, off + j, none⟩ = some v) : Rel (gK b0 K) w (.vl fr sz es) (.slice (some ⟨b, off, none⟩) es.length cap) :=
  Rel.vl (g := gK b0 K) (w := w) fr sz es b off cap (fun j => vs.getD j undef) hsz hb hcap
    (fun j a ha => by
      obtain ⟨v, hv, _⟩ := hr.get ha
      have := hc j v hv
      exact ⟨this.1, by rw [this.2, List.getD_eq_getElem?_getD, hv]; rfl⟩)
    (fun j a ha => by
      obtain ⟨v, hv, hrel⟩ := hr.get ha
      show Rel _ _ a (vs.getD j undef)
      rw [List.getD_eq_getElem?_getD, hv]; exact hrel)
theorem deep_vl {fr h loc sz} {es es' : List AV} (hd : DeepL fr h es es') (hb : (loc || !fr) = true) : DeepA fr h (.vl loc sz es) (.vl fr sz es') := by
  refine DeepA.one rfl rfl fun {g w K b0 v} hok hl hb0 hr => ?_
  cases hr with
  | vlnil => have := hd.len; rw [List.eq_nil_of_length_eq_zero this]; exact .vlnil _ _
  | vlz _ _ a => have := hd.len; rw [List.eq_nil_of_length_eq_zero this]; exact .vlz _ _ a
  | vl _ _ _ b off cap c hsz hloc hcap hc hrel =>
    have hloc' : fr = true → b0 ≤ b := fun e => by
      rw [e] at hb
      simp at hb
      have := hloc hb
      have := hb0 e
      omega
    have hlist : RelL g w (es.flatMap AV.cells) (valsOf 0 (es.flatMap AV.cells).length c) := by
      refine ⟨by simp [valsOf], fun i a v ha hv => ?_⟩
      have hi := (List.getElem?_eq_some_iff.1 ha).1
      simp only [valsOf, List.getElem?_map, List.getElem?_range hi, Option.map_some, Option.some.injEq, Nat.zero_add] at hv
      subst hv
      exact hrel i a ha
    have q1 := hd.cel (b0 := b0) hok hl hb0 hlist
    rw [← hd.len]
    refine vl_cells q1 (hd.size sz hsz) (by rw [hd.len]; exact hcap) hloc' (fun j v hv => ?_)
    have hj : j < (es.flatMap AV.cells).length := by
      have := (List.getElem?_eq_some_iff.1 hv).1; simpa [valsOf] using this
    simp only [valsOf, List.getElem?_map, List.getElem?_range hj, Option.map_some, Option.some.injEq, Nat.zero_add] at hv
    subst hv
    have := hc j _ (List.getElem?_eq_getElem hj)
    exact ⟨hl.K _ _ this.1, this.2⟩
theorem deep_sl {fr h o off len sz k st et} {cells l es : List AV} (ho : h.get o = some (.row cells k st et)) (hle : off + len * sz ≤ cells.length) (hd : DeepL fr h ((cells.drop off).take (len * sz)) l) (he : chunkC sz len l = some es) : DeepA fr h (.sl o off len sz) (.vl fr sz es) := by
  have hlen : ((cells.drop off).take (len * sz)).length = len * sz := by simp; omega
  obtain ⟨e1, e2, e3⟩ := chunkC_cells (hd.len.trans hlen) he
  refine DeepA.one rfl rfl fun {g w K b0 v} hok hl hb0 hr => ?_
  cases hr with
  | slz _ _ _ a => rw [List.eq_nil_of_length_eq_zero e2]; exact .vlz _ _ a
  | sln _ _ _ => rw [List.eq_nil_of_length_eq_zero e2]; exact .vlnil _ _
  | sl _ _ _ _ b base cap hi hcap hm hroom =>
    obtain ⟨b', base', hi', hbb, hrow⟩ := hok.obj o _ ho
    rw [hi] at hi'; cases hi'
    obtain ⟨cs, fz, r1, r2, r3, _⟩ := hrow
    have hpart : RelL g w ((cells.drop off).take (len * sz)) (valsOf (base + off) (len * sz) (fun j => cs.getD j undef)) := by
      refine ⟨by simp [valsOf]; omega, fun i a v ha hv => ?_⟩
      rw [List.getElem?_take, List.getElem?_drop] at ha
      by_cases hil : i < len * sz
      · rw [if_pos hil] at ha
        obtain ⟨u, hu, hrel⟩ := r3 _ a ha
        simp only [valsOf, List.getElem?_map, List.getElem?_range hil, Option.map_some, Option.some.injEq] at hv
        subst hv
        rw [Array.getD_eq_getD_getElem?, Nat.add_assoc, hu]
        exact hrel
      · rw [if_neg hil] at ha; cases ha
    have q1 := hd.rel (b0 := b0) hok hl hb0 hpart
    rw [← e1] at q1
    rw [← e2]
    refine vl_cells q1 e3 (by omega) (fun e => by have := hb0 e; omega) (fun j v hv => ?_)
    have hj : j < len * sz := by
      have := (List.getElem?_eq_some_iff.1 hv).1; simpa [valsOf] using this
    simp only [valsOf, List.getElem?_map, List.getElem?_range hj, Option.map_some, Option.some.injEq] at hv
    obtain ⟨u, hu, _⟩ := r3 (off + j) (cells[off + j]'(by omega)) (by simp)
    have hrows := hl.rows o cells k st et ho b base hi (off + j) (by omega)
    rw [← Nat.add_assoc] at hrows hu
    refine ⟨hrows, ?_⟩
    rw [cell_eq r1, hu, ← hv, Array.getD_eq_getD_getElem?, hu]
    rfl

def DeepF (fr : Bool) (f : AV → M AV) : Prop := ∀ a st x st1, f a st = some (x, st1) → st1.h = st.h ∧ st1.nx = st.nx ∧ DeepA fr st.h a x
theorem mapX_deep {fr} {f : AV → M AV} (hf : DeepF fr f) : ∀ (l : List AV) (st : St) (l' : List AV) (st1 : St), mapX f l st = some (l', st1) → st1.h = st.h ∧ st1.nx = st.nx ∧ DeepL fr st.h l l'
  | [], st, l', st1, h => by cases h; exact ⟨rfl, rfl, .nil⟩
  | a :: l, st, l', st1, h => by
    change (M.bind (f a) fun x => M.bind (mapX f l) fun l => M.pure (x :: l)) st = _ at h
    obtain ⟨x, s1, h1, h⟩ := bind_some h
    obtain ⟨q, s2, h2, h⟩ := bind_some h
    cases h
    obtain ⟨e1, e2, e3⟩ := hf a st x s1 h1
    obtain ⟨e4, e5, e6⟩ := mapX_deep hf l s1 q _ h2
    rw [e1] at e6
    exact ⟨e4.trans e1, e5.trans e2, .cons e3 e6⟩
theorem relL_any {g g' w vs} {l : List Value} (h : RelL g w (l.map .sc) vs) : RelL g' w (l.map .sc) vs :=
  ⟨h.1, fun i a v ha hv => by
    have h1 := h.2 i a v ha hv
    rw [List.getElem?_map, Option.map_eq_some_iff] at ha
    obtain ⟨u, _, rfl⟩ := ha
    cases h1
    exact .sc _⟩
theorem deep1_deep {fr} {f : AV → M AV} (hf : DeepF fr f) : DeepF fr (deep1 fr f) := by
  intro a st x st1 h
  cases a with
  | sc v =>
    cases h
    exact ⟨rfl, rfl, rfl, (fun _ _ _ hr => by cases hr; exact .sc _), fun _ _ _ hr => relL_any hr⟩
  | ez => cases h; exact ⟨rfl, rfl, .one rfl rfl fun _ _ _ hr => by cases hr; exact .ez _⟩
  | agg l =>
    change ((mapX f l).bind fun l => M.pure (AV.agg l)) st = some (x, st1) at h
    obtain ⟨l', s1, h1, h⟩ := bind_some h
    cases h
    obtain ⟨e1, e2, e3⟩ := mapX_deep hf l st l' _ h1
    refine ⟨e1, e2, e3.len, fun {g w K b0 v} hok hl hb hr => ?_, fun hok hl hb hr => e3.rel hok hl hb hr⟩
    cases hr with
    | agg _ vs hs hh =>
      have q := e3.rel (b0 := b0) hok hl hb (vs := vs.toList) ⟨by simpa using hs, fun i a v ha hv => hh i a v ha (by simpa using hv)⟩
      exact .agg _ vs (by rw [hs, e3.len]) (fun i a v ha hv => q.2 i a v ha (by simpa using hv))
  | tup l =>
    change ((mapX f l).bind fun l => M.pure (AV.tup l)) st = some (x, st1) at h
    obtain ⟨l', s1, h1, h⟩ := bind_some h
    cases h
    obtain ⟨e1, e2, e3⟩ := mapX_deep hf l st l' _ h1
    refine ⟨e1, e2, .one rfl rfl fun {g w K b0 v} hok hl hb hr => ?_⟩
    cases hr with
    | tup _ vs hs hh =>
      have q := e3.rel (b0 := b0) hok hl hb (vs := vs.toList) ⟨by simpa using hs, fun i a v ha hv => hh i a v ha (by simpa using hv)⟩
      exact .tup _ vs (by rw [hs, e3.len]) (fun i a v ha hv => q.2 i a v ha (by simpa using hv))
  | vl loc sz es =>
    change (bif loc || !fr then (mapX f es).bind fun l => M.pure (AV.vl fr sz l) else M.fail) st = some (x, st1) at h
    cases hb : (loc || !fr) with
    | false => rw [hb] at h; cases h
    | true =>
      rw [hb, cond_true] at h
      obtain ⟨l', s1, h1, h⟩ := bind_some h
      cases h
      obtain ⟨e1, e2, e3⟩ := mapX_deep hf es st l' _ h1
      exact ⟨e1, e2, deep_vl e3 hb⟩
  | sl o off len sz =>
    change ((hget o).bind (deepRow fr (mapX f) off len sz)) st = _ at h
    obtain ⟨ob, s1, h1, h⟩ := bind_some h
    obtain ⟨ho, hs1⟩ := hget_some h1
    cases ob with
    | row cells k s e =>
      change (bif Nat.ble (off + len * sz) cells.length then (mapX f ((cells.drop off).take (len * sz))).bind fun l => (M.of (chunkC sz len l)).bind fun es => M.pure (AV.vl fr sz es) else M.fail) s1 = some (x, st1) at h
      cases hle : Nat.ble (off + len * sz) cells.length with
      | false => rw [hle] at h; cases h
      | true =>
        rw [hle, cond_true] at h
        obtain ⟨l, s2, h2, h⟩ := bind_some h
        obtain ⟨es, s3, h3, h⟩ := bind_some h
        cases h
        obtain ⟨h4, rfl⟩ := of_some h3
        obtain ⟨e1, e2, e3⟩ := mapX_deep hf _ s1 l _ h2
        rw [hs1.1] at e1 e3
        rw [hs1.2] at e2
        exact ⟨e1, e2, deep_sl ho (Nat.le_of_ble_eq_true hle) e3 h4⟩
    | _ => cases h
  | _ => cases h
theorem deep_deep (fr : Bool) : ∀ n, DeepF fr (deep fr n)
  | 0 => fun _ _ _ _ h => by cases h
  | n + 1 => deep1_deep (deep_deep fr n)

/-! ### Frames -/
theorem mapX_framed {f : AV → M AV} (hf : ∀ a, Framed (f a)) : ∀ l, Framed (mapX f l)
  | [] => Framed.pure _
  | a :: l => Framed.bind (hf a) fun _ => Framed.bind (mapX_framed hf l) fun _ => Framed.pure _
theorem deep1_framed {fr} {f : AV → M AV} (hf : ∀ a, Framed (f a)) (a : AV) : Framed (deep1 fr f a) := by
  unfold deep1 deepRow
  repeat' (first | exact Framed.pure _ | exact Framed.fail | exact Framed.of _ | exact Framed.hget _ | exact mapX_framed hf _ | apply Framed.cond | (refine Framed.bind ?_ fun x => ?_) | split)
theorem deep_framed (fr : Bool) : ∀ n a, Framed (deep fr n a)
  | 0, _ => Framed.fail
  | n + 1, a => deep1_framed (deep_framed fr n) a

/-! ### Data, written short -/
namespace Lit
abbrev I (k : IntKind) (n : Int) : AV := .sc (.int k n)
abbrev B (b : Bool) : AV := .sc (.bool b)
abbrev S (l : List UInt8) : AV := .sc (.string ⟨⟨l⟩⟩)
abbrev N : AV := .sc (.slice none 0 0)
abbrev G (l : List AV) : AV := .agg l
abbrev T (l : List AV) : AV := .tup l
abbrev V (loc : Bool) (sz : Nat) (es : List AV) : AV := .vl loc sz es
abbrev Z : AV := .ez
end Lit

/-! ### Calls that were reckoned ahead -/
abbrev Memo := List (List AV × AV)
def pickL (ds : List AV) : Memo → Option AV
  | [] => none
  | p :: r => bif eqAV.eqL p.1 ds then some p.2 else pickL ds r
theorem pickL_mem {ds : List AV} {r : AV} : ∀ {l : Memo}, pickL ds l = some r → (ds, r) ∈ l
  | [], h => by cases h
  | p :: l, h => by
    unfold pickL at h
    cases hb : eqAV.eqL p.1 ds with
    | false => rw [hb] at h; exact List.mem_cons_of_mem _ (pickL_mem h)
    | true =>
      rw [hb] at h
      cases h
      rw [← eqAVL_eq hb]
      exact List.mem_cons_self
def memoM (n : Nat) (l : Memo) (args : List AV) : M AV := (mapX (deep false n) args).bind fun ds => M.of (pickL ds l)
theorem memo_framed (n : Nat) (l : Memo) (args : List AV) : Framed (memoM n l args) := Framed.bind (mapX_framed (deep_framed false n) _) fun _ => Framed.of _
def MemoOk (P : Program) (f : Nat) (l : Memo) : Prop := ∀ p ∈ l, p.2.fresh = true ∧ CallPure P f p.1 p.2
theorem MemoOk.nil {P f} : MemoOk P f [] := fun p hp => by cases hp
theorem MemoOk.cons {P f a r l} (hf : r.fresh = true) (h : CallPure P f a r) (hl : MemoOk P f l) : MemoOk P f ((a, r) :: l) := fun p hp => by
  rcases List.mem_cons.1 hp with rfl | hp
  · exact ⟨hf, h⟩
  · exact hl p hp
theorem memo_call {P : Program} {f n : Nat} {l : Memo} (h : MemoOk P f l) (args : List AV) : CallF P f args (memoM n l args) := by
  intro g st w vs r st' hok hfree _ hrel hm
  obtain ⟨ds, s1, h1, hm⟩ := bind_some hm
  obtain ⟨h2, rfl⟩ := of_some hm
  obtain ⟨hfr, hp⟩ := h _ (pickL_mem h2)
  obtain ⟨e1, e2, e3⟩ := mapX_deep (deep_deep false n) args st ds _ h1
  have hargs := e3.rel (b0 := w.heap.size) (K := fun b _ => b < w.heap.size) hok ⟨fun b j hk => hok.K b j hk, fun o cells k s e ho b base hi j hj => by
    obtain ⟨b', base', h5, _, h6⟩ := hok.obj o _ ho
    rw [hi] at h5; cases h5
    exact h6.lt⟩ (fun h => by cases h) hrel
  rw [e1, e2]
  have hX : ∀ v w', Quiet w w' ∧ Rel (gK w.heap.size (newK (fun b _ => b < w.heap.size) w w')) w' r v → Quiet w w' ∧ Rel (g.more w w') w' r v := fun v w' hv => ⟨hv.1, hv.2.fresh hfr hok.size (fun b j hk hle => by
    rcases hk with hk | hk
    · omega
    · exact .inr hk)⟩
  rcases hp (fun b _ => b < w.heap.size) w vs (fun _ _ h => h) hargs with ⟨v, q1, q2⟩ | ⟨q1, q2⟩
  · obtain ⟨q, hr⟩ := hX v w q2
    have := quiet_step (lo := st.nx) (hi := st.nx) hok q
    exact .inl ⟨v, w, _, q1, this.1, this.2, hr⟩
  · refine .inr ⟨q1, q2.mono ?_⟩
    rintro e w' ⟨v, rfl, h3⟩
    obtain ⟨q, hr⟩ := hX v w' h3
    have := quiet_step (lo := st.nx) (hi := st.nx) hok q
    exact ⟨v, _, rfl, this.1, this.2, hr⟩

/-- A result as data. -/
def rDeep (n : Nat) : RC AV where
  E _ x := x
  D fr h a := match deep fr n a { h := h, nx := 0, rl := [], wl := [] } with
    | some p => some p.1
    | none => none
  ok := by
    intro fr g h w K b0 a v x hok hl hb hr hd
    split at hd
    · rename_i p hp
      cases hd
      exact ((deep_deep fr n) a _ p.1 p.2 hp).2.2.rel hok hl hb hr
    · cases hd
/-- A run at given data, checked against the data that is to come. -/
def ranTo (n : Nat) (o : Option (AV × St)) (x : AV) : Bool :=
  match o with
  | some p => match (rDeep n).get true p.2.h p.1 with
    | some y => eqAV y x && x.fresh
    | none => false
  | none => false
theorem callPure_ran {P : Program} {look : Look} (hl : LookOk P look) {f n : Nat} (he : entered P f = true) {args : List AV} {x : AV} (h : ranTo n (match look f with | some p => p.2 args (stK []) | none => none) x = true) : x.fresh = true ∧ CallPure P f args x := by
  unfold ranTo at h
  cases hp : look f with
  | none => rw [hp] at h; cases h
  | some p =>
    rw [hp] at h
    dsimp only at h
    cases hq : p.2 args (stK []) with
    | none => rw [hq] at h; cases h
    | some q =>
      rw [hq] at h
      dsimp only at h
      cases hy : (rDeep n).get true q.2.h q.1 with
      | none => rw [hy] at h; cases h
      | some y =>
        rw [hy] at h
        simp only [Bool.and_eq_true] at h
        have hx := eqAV_eq h.1
        subst hx
        exact ⟨h.2, callPure_of_run hl hp he (rDeep n) true y (r := q.1) (st' := q.2) hq hy⟩

end
end Go.Vm
