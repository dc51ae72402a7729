/- A piece of the proof. Proved: where the arguments are together of bulk at most 1048576, the law ZoneBack returns true (records of a zone make it again in any order), and what it was given reads afterwards as it did before. No other conditions. -/
import Derived.WalkKit
import Derived.CallsIn
import Derived.RangeFuncIn
import Derived.RangeFuncLeaves
import Derived.Orders
import Derived.OrdersIn
import Derived.Scope
import Derived.RangeFuncOwn
import Derived.Stop.SameAnswer
import Derived.Laws.Externs
import Derived.Lib.Bytealg
import Derived.ProofKit
import Derived.OpenShut
import Derived.ReadAgain
import Derived.Deep.Slices
import Derived.ChangeSame
import Derived.Test.YtifjogffkafalaaGreatProg
import Derived.KernelRfl
import Derived.Test.YtifjogffkafalaaGreatRows
import Derived.Maps.RangeRun
import Derived.JoinedCond
import Derived.Test.YtifjogffkafalaaGreatY1
set_option linter.unusedSimpArgs false
set_option linter.unusedVariables false
namespace Go.Vm
noncomputable section
structure Ak (w w':World):Prop where
 size:w.heap.size≤w'.heap.size
 heap:∀ b,b<w.heap.size→w'.heap[b]? = w.heap[b]?
 os:w'.os=w.os
 tape:w'.tape=w.tape
 output:w'.output=w.output
def ad5 (K:Nat→Nat→Prop) (w w':World):Nat→Nat→Prop:=fun b j=>K b j∨(w.heap.size≤b∧b<w'.heap.size)
def aim (P:Program) (f:Nat) (vs:List Value) (w:World) (X:Value→World→Prop):Prop:=
 (∃ v,(callFunc f vs.toArray).run P w = .ok (.value v) w∧X v w) ∨
 ((callFunc f vs.toArray).run P w = .ok (.enter f vs.toArray) w∧Calls P f vs.toArray w (fun e w'=>∃ v,e = .returned v∧X v w'))
def bu (P:Program) (f:Nat) (args:List AV) (r:AV):Prop:=
 ∀ (K:Nat→Nat→Prop) (w:World) (vs:List Value),(∀ b j,K b j→b<w.heap.size)→bo (gK w.heap.size K) w args vs →
  aim P f vs w (fun v w'=>Ak w w'∧Rel (gK w.heap.size (ad5 K w w')) w' r v)
theorem Ob {P:Program} {g w nt} {L:SL} {tmps:Array Value} {st:St} (hok:Ok g st.h w) (hs:ew g w nt L tmps):∀ (rs:List ResultVar) (l:List AV),qt P L st rs=some l →
 ∃ vs,(rs.mapM (w9 tmps)).run P w = .ok vs w∧bo g w l vs:=by
 intro rs
 induction rs with
 |nil=>intro l h;simp [qt] at h;subst h;exact ⟨[],by simp,bo.nil _ _⟩
 |cons r rs ih=>
  intro l h
  cases r with
  |tmp t=>
   simp only [qt,Option.map_eq_some_iff] at h
   obtain ⟨l',h1,rfl⟩:=h
   obtain ⟨vs,h2,h3⟩:=ih l' h1
   refine ⟨tmps.getD t undef::vs,?_,bo.cons (hs.2 t) h3⟩
   simp only [List.mapM_cons,Sem.run_bind,w9,Sem.run_pure,Result.andThen_ok,h2]
  |cell c t=>
   simp only [qt] at h
   split at h
   ·rename_i v st' hl
    rw [Option.map_eq_some_iff] at h
    obtain ⟨l',h1,rfl⟩:=h
    obtain ⟨vs,h2,h3⟩:=ih l' h1
    have hrel:=hs.2 c
    have hptr:∃ ad,tmps.getD c undef = .pointer (some ad):=by
     generalize lk L c=x at hrel hl
     generalize tmps.getD c undef=v at hrel
     cases hrel<;>first|exact ⟨_,rfl⟩|cases hl
    obtain ⟨ad,had⟩:=hptr
    obtain ⟨u,h4,h5⟩:=ak4 (P:=P) hok hrel hl had
    refine ⟨u::vs,?_,bo.cons h5 h3⟩
    have h6:(w9 tmps (.cell c t)).run P w = .ok u w:=by simp [w9,had,asAddr,h4]
    simp only [List.mapM_cons,Sem.run_bind,h6,Result.andThen_ok,h2]
    rfl
   ·cases h
theorem O1 {P:Program} {g w} {fn:Func} {tmps:Array Value} {l:List AV} {vs:List Value} (h:(fn.results.toList.mapM (w9 tmps)).run P w = .ok vs w) (q4:bo g w l vs) :
 ∃ v,(results fn tmps).run P w = .ok v w∧Rel g w (pack l) v:=by
 have hmap:(fn.results.mapM (w9 tmps)).run P w = .ok vs.toArray w:=by
  rw [Array.mapM_eq_mapM_toList]
  simp [h]
 rw [amd]
 simp only [Sem.run_bind,hmap,Result.andThen_ok,Sem.run_pure]
 refine ⟨_,rfl,?_⟩
 match l,vs,q4 with
 | [a1],[v1],q4=>simpa [pack] using q4.head
 | [],[],q4=>simp [pack];exact .fc _ _ rfl (fun i a v h _=>by simp at h)
 |a1::a2::l,v1::v2::vs,q4=>
  simp [pack]
  exact .fc _ _ (by have:=q4.1;simp at this ⊢;omega) (fun i a v h1 h2=>q4.2 i a v h1 (by simpa using h2))
 | [],v::vs,q4=>have:=q4.1;simp at this
 |a::l,[],q4=>have:=q4.1;simp at this
 | [a1],v1::v2::vs,q4=>have:=q4.1;simp at this
 |a1::a2::l,[v1],q4=>have:=q4.1;simp at this
theorem Wy {P:Program} {T:er} (hT:aq P T) (hm:P.follows .mixedOrders=true) {f:Nat} {fn:Func} {body:Code} (hf:P.funcs[f]? = some fn) (hb:fn.body=some body) (he:m7 P f=true) (hs:ef fn.ntmps body=true)
 {args:List AV} (hl:args.length≤fn.ntmps) {ρ:Type} (R:RC ρ) (fr:Bool) (x : ρ)
 (h:wl P T 0 body (du P fn.results.toList (fun r st=>R.get fr st.h r=some x)) (cg 0 args) (bb [])):bu P f args (R.E fr x):=by
 intro K w vs hK hrel
 refine .inr ⟨tg he _ _,vo (ro:=none) (n:=0) (callsIn_of_wp_marks hf hb trivial ?_)⟩
 let B:dk:={ b0:=w.heap.size,w,K,O:=fun _=>False,ay:=0,pb:=fun _=>none,n0:=w.heap.size }
 have hcur:gj B (gK w.heap.size K) (bb []) w:=by
  refine ⟨⟨Nat.le_refl _,fun o x hx=>?_,fun o o' x x' b base base' _ hx=>?_,hK⟩,fun o _ _=>rfl,⟨rfl,(fun o ho=>(by rcases ho with ho|ho;cases ho;exact ho.elim)),fun _ _ h=>h,fun _ _ _=>rfl,Nat.le_refl _,rfl,rfl,rfl,fun _ _ _=>rfl,fun o b base ho=>?_,fun _ _ h=>.inl h,fun b cs e fr h=>⟨cs,fr,h,rfl⟩,fun b l h=>⟨l,h⟩⟩,Nat.zero_le _⟩
  ·simp [bb,pf,Tr.get_nil] at hx
  ·simp [bb,pf,Tr.get_nil] at hx
  ·simp [bb,pf,Tr.get_nil] at ho
 refine wpIn_mono (amr hT hm (N:=0) (B:=B) (nt:=fn.ntmps) (fun _ h=>h) (by show (0:Nat)≤1000;omega) (Nat.le_refl _) body hs _ _ _ (gK w.heap.size K) w _ h hcur (xz hrel hl) (Marks.nil _ _ _ _)) ?_
 rintro ex a w' ⟨e,L,st,g,rfl,hq,hc,hr,hd⟩
 have fin:Hm (qt P L st fn.results.toList) (fun r st=>R.get fr st.h r=some x) st→bodyPostM (fm none) 0 P fn (fun e w'=>∃ v,e = .returned v∧Ak w w'∧Rel (gK w.heap.size (ad5 K w w')) w' (R.E fr x) v) .ret a w':=by
  intro hq
  show LeavesInM (fm none) 0 P fn a.tmps _ a.defers .returning w'
  unfold Hm at hq
  cases hres:qt P L st fn.results.toList with
  |none=>rw [hres] at hq;exact hq.elim
  |some l=>
   rw [hres] at hq
   have hbs:=hc.base
   obtain ⟨bs,e1,e2,e3⟩:=hd
   rw [e1]
   refine Co (Good:=fun u=>Ok g st.h u∧Ak w u∧(∀ a v,Rel g w' a v→Rel g u a v)∧u.heap.size=w'.heap.size) (S:=fun b=>w.heap.size≤b∧fg g st.h b) ?_ ?_ bs w'
    ⟨hc.ok,⟨hbs.size,fun b hlt=>hbs.frame b hlt (fun h=>h),hbs.os,hbs.tape,hbs.output⟩,fun _ _ h=>h,rfl⟩ e2 (fun b hb=>⟨⟨(e3 b hb).1,(e3 b hb).2.2⟩,(e3 b hb).2.1⟩)
   ·rintro u b ⟨g1,g2,g3,g4⟩ ⟨hb1,hb2⟩ hb3
    have hput:=Ok.Cw (ds':=none) g1 hb3 hb2
    exact ⟨hput.1,⟨by rw [n6];exact g2.size,fun c hc=>(g6 u _ (by omega)).trans (g2.heap c hc),g2.os,g2.tape,g2.output⟩,fun a v h=>hput.2 a v (g3 a v h),by rw [n6];exact g4⟩
   ·rintro u ⟨g1,g2,g3,g4⟩
    obtain ⟨us,h1,h2⟩:=Ob (P:=P) g1 ⟨hr.1,fun t=>g3 _ _ (hr.2 t)⟩ fn.results.toList l hres
    obtain ⟨v,h3,h4⟩:=O1 h1 h2
    refine ⟨v,h3,v,rfl,g2,?_⟩
    refine R.ok g1 ⟨fun b j hk=>?_,fun o cells k s e ho b base hi j hj=>?_⟩ (fun _=>?_) h4 hq
    ·rcases hbs.k8 b j hk with h5|h5|h5
     ·exact .inl h5
     ·exact .inr ⟨h5,g1.K b j hk⟩
     ·exact h5.elim
    ·obtain ⟨b',base',h5,_,h6⟩:=g1.obj o _ ho
     rw [hi] at h5;cases h5
     rcases hbs.own o b base (by rw [ho];rfl) hi with h7|h7
     ·exact .inr ⟨h7,h6.lt⟩
     ·exact h7.elim
    ·rw [hbs.b0];exact Nat.le_refl _
 cases e with
 |normal=>exact fin hq
 |ret=>exact fin hq
 |exit id=>exact hq.elim
theorem Rel.lift {b0 K g w a v} (h:Rel (gK b0 K) w a v) (hb:g.b0≤b0) (hK:∀ b j,K b j→g.K b j):Rel g w a v:=by
 have hno:∀ o p,(gK b0 K).inj o≠some p:=fun o p e=>by cases e
 generalize hg:gK b0 K=g0 at h hno
 have hK':∀ b j,g0.K b j→g.K b j:=by subst hg;exact hK
 have hb':g.b0≤g0.b0:=by subst hg;exact hb
 clear hg
 induction h with
 |sc x=>exact .sc x
 |agg l vs hs _ ih=>exact .agg l vs hs ih
 |fc l vs hs _ ih=>exact .fc l vs hs ih
 |vl loc sz es b off cap c hsz hl hcap h _ ih=>exact .vl loc sz es b off cap c hsz (fun e=>Nat.le_trans hb' (hl e)) hcap (fun j a hj=>⟨hK' _ _ (h j a hj).1,(h j a hj).2⟩) ih
 |nm loc sz=>exact .nm loc sz
 |w7 loc sz a=>exact .w7 loc sz a
 |sl o off len sz b base cap hi hc hm hr=>exact (hno _ _ hi).elim
 |uu o off sz a=>exact .uu o off sz a
 |u1 o off sz=>exact .u1 o off sz
 |ez a=>exact .ez a
 |ptr o off b base hi=>exact (hno _ _ hi).elim
 |iw l b off c h _ ih=>exact .iw l b off c (fun j a hj=>⟨hK' _ _ (h j a hj).1,(h j a hj).2⟩) ih
 |fn f first captured va vb hs _ hs' _ ih ih'=>exact .fn f first captured va vb hs ih hs' ih'
 |mp o b base hi=>exact (hno _ _ hi).elim
 |tv t a v _ ih=>exact .tv t a v ih
 |yl o b base hi=>exact (hno _ _ hi).elim
 |bad v=>exact .bad v
theorem En {l:List AV} (h:AV.fresh.go l=true):∀ a ∈ l,a.fresh=true:=by
 induction l with
 |nil=>intro a ha;cases ha
 |cons x l ih=>
  simp only [AV.fresh.go,Bool.and_eq_true] at h
  intro a ha
  rcases List.mem_cons.1 ha with rfl|ha
  ·exact h.1
  ·exact ih h.2 a ha
theorem ah6 {a:AV} (h:a.fresh=true):∀ c ∈ a.cells,c.fresh=true:=by
 cases a with
 |agg l=>exact En h
 |sc v=>intro c hc;simp only [AV.cells,List.mem_map] at hc;obtain ⟨x,_,rfl⟩:=hc;rfl
 |_=>intro c hc;simp only [AV.cells,List.mem_singleton] at hc;subst hc;exact h
theorem Rel.fresh {b0 K g w a v} (h:Rel (gK b0 K) w a v) (hf:a.fresh=true) (hb:g.b0≤b0) (hK:∀ b j,K b j→b0≤b→g.K b j):Rel g w a v:=by
 generalize hg:gK b0 K=g0 at h
 have hK':∀ b j,g0.K b j→g0.b0≤b→g.K b j:=by subst hg;exact hK
 have hb':g.b0≤g0.b0:=by subst hg;exact hb
 clear hg hb hK
 induction h with
 |sc x=>exact .sc x
 |agg l vs hs _ ih=>exact .agg l vs hs (fun i a v ha hv=>ih i a v ha hv (En hf a (List.mem_of_getElem? ha)))
 |fc l vs hs _ ih=>exact .fc l vs hs (fun i a v ha hv=>ih i a v ha hv (En hf a (List.mem_of_getElem? ha)))
 |vl loc sz es b off cap c hsz hl hcap h _ ih=>
  simp only [AV.fresh,Bool.and_eq_true] at hf
  have hbb:=hl hf.1
  refine .vl loc sz es b off cap c hsz (fun e=>Nat.le_trans hb' hbb) hcap (fun j a hj=>⟨hK' _ _ (h j a hj).1 hbb,(h j a hj).2⟩) (fun j a hj=>ih j a hj ?_)
  obtain ⟨e,he,hc⟩:=List.mem_flatMap.1 (List.mem_of_getElem? hj)
  exact ah6 (En hf.2 e he) a hc
 |nm loc sz=>exact .nm loc sz
 |w7 loc sz a=>exact .w7 loc sz a
 |sl o off len sz b base cap hi hc hm hr=>cases hf
 |uu o off sz a=>cases hf
 |u1 o off sz=>cases hf
 |ez a=>exact .ez a
 |ptr o off b base hi=>cases hf
 |iw l b off c h _ ih=>cases hf
 |fn f first captured va vb hs _ hs' _ ih ih'=>
  simp only [AV.fresh,Bool.and_eq_true] at hf
  exact .fn f first captured va vb hs (fun i a v ha hv=>ih i a v ha hv (En hf.1 a (List.mem_of_getElem? ha))) hs' (fun i a v ha hv=>ih' i a v ha hv (En hf.2 a (List.mem_of_getElem? ha)))
 |mp o b base hi=>cases hf
 |tv t a v _ ih=>exact .tv t a v (ih hf)
 |yl o b base hi=>cases hf
 |bad v=>cases hf
def Gh.more (g:Gh) (w w':World):Gh:={ g with K:=ad5 g.K w w' }
theorem Sr {g h w w'} {lo hi:Nat} (hok:Ok g h w) (q:Ak w w'):Step g h w lo hi (g.more w w') h w'∧Ok (g.more w w') h w':=by
 have hext:Ext g w (g.more w w') w':=by
  refine ⟨rfl,fun _ _ h=>h,fun _ _ h=>.inl h,fun b j hj=>u3 (q.heap b (hok.K b j hj)),fun b cs e fr hb=>⟨cs,fr,(q.heap b (ca hb)).trans hb,rfl⟩,fun b l hb=>⟨l,(q.heap b (ca hb)).trans hb⟩⟩
 refine ⟨⟨hext,q.size,q.os,q.tape,q.output,fun b hb _=>q.heap b hb,fun _ h _=>h,fun o b base ho hi=>.inr ⟨o,base,ho,hi⟩,fun b j hk=>?_⟩,⟨Nat.le_trans hok.size q.size,fun o x hx=>?_,hok.sep,fun b j hk=>?_⟩⟩
 ·rcases hk with hk|hk
  ·exact .inl hk
  ·exact .inr (.inl hk.1)
 ·refine (hok.mb o x hx).imp id ?_
  rintro ⟨b,base,h1,h2,h3⟩
  refine ⟨b,base,h1,h2,h3.ext hext (q.heap b h3.lt) (fun j hk=>?_)⟩
  rcases hk with hk|hk
  ·exact hk
  ·have:=h3.lt;omega
 ·rcases hk with hk|hk
  ·exact Nat.lt_of_lt_of_le (hok.K b j hk) q.size
  ·exact hk.2
noncomputable def dq {α:Type} (A:AC α) (F : α→Option AV) (args:List AV):M AV:=fun st=>
 match A.get .nil args with
 |some x=>(F x).map fun r=>(r,st)
 |none=>
  match A.get st.h args with
  |some x=>
   match F x with
   |some r=>bif r.fresh then some (r,st) else none
   |none=>none
  |none=>none
theorem ar {P:Program} {f:Nat} {α:Type} {A:AC α} {F : α→Option AV} (h:∀ x r,F x=some r→bu P f (A.E x) r) (args:List AV):zg P f args (dq A F args):=by
 intro g st w vs r st' hok hfree hrel hm
 have go:∀ (X:Value→World→Prop),aim P f vs w X→(∀ v w',X v w'→Ak w w'∧Rel (g.more w w') w' r v)→st'=st →
  (∃ v w' g',(callFunc f vs.toArray).run P w = .ok (.value v) w'∧Step g st.h w st.nx st'.nx g' st'.h w'∧Ok g' st'.h w'∧Rel g' w' r v) ∨
  ((callFunc f vs.toArray).run P w = .ok (.enter f vs.toArray) w∧Calls P f vs.toArray w (fun e w'=>∃ v g',e = .returned v∧Step g st.h w st.nx st'.nx g' st'.h w'∧Ok g' st'.h w'∧Rel g' w' r v)):=by
  intro X hx hX e
  subst e
  rcases hx with ⟨v,h1,h2⟩|⟨h1,h2⟩
  ·obtain ⟨q,hr⟩:=hX v w h2
   have:=Sr (lo:=st'.nx) (hi:=st'.nx) hok q
   exact .inl ⟨v,w,_,h1,this.1,this.2,hr⟩
  ·refine .inr ⟨h1,h2.mono ?_⟩
   rintro e w' ⟨v,rfl,h3⟩
   obtain ⟨q,hr⟩:=hX v w' h3
   have:=Sr (lo:=st'.nx) (hi:=st'.nx) hok q
   exact ⟨v,_,rfl,this.1,this.2,hr⟩
 unfold dq at hm
 cases h1:A.get .nil args with
 |some x=>
  rw [h1] at hm
  simp only [Option.map_eq_some_iff] at hm
  obtain ⟨r',h2,h3⟩:=hm
  cases h3
  have hargs:=A.ok (b0:=w.heap.size) (hok.part (hm:=.nil) (fun o x hx=>by rw [Tr.get_nil] at hx;cases hx)) (zc.nil g g.K (fun _ _ h=>h)) hrel h1
  refine go _ (h x r h2 g.K w vs hok.K hargs) (fun v w' hv=>⟨hv.1,hv.2.lift hok.size (fun b j hk=>hk)⟩) rfl
 |none=>
  rw [h1] at hm
  simp only at hm
  cases h2:A.get st.h args with
  |none=>rw [h2] at hm;cases hm
  |some x=>
   rw [h2] at hm
   simp only at hm
   cases h3:F x with
   |none=>rw [h3] at hm;cases hm
   |some r'=>
    rw [h3] at hm
    simp only at hm
    cases h4:r'.fresh with
    |false=>rw [h4] at hm;cases hm
    |true=>
     rw [h4] at hm
     cases hm
     have hargs:=A.ok (b0:=w.heap.size) (K:=fun b _=>b<w.heap.size) hok ⟨fun b j hk=>hok.K b j hk,fun o cells k s e ho b base hi j hj=>by
      obtain ⟨b',base',h5,_,h6⟩:=hok.obj o _ ho
      rw [hi] at h5;cases h5
      exact h6.lt⟩ hrel h2
     refine go _ (h x r h3 (fun b _=>b<w.heap.size) w vs (fun _ _ h=>h) hargs) (fun v w' hv=>⟨hv.1,hv.2.fresh h4 hok.size (fun b j hk hle=>?_)⟩) rfl
     rcases hk with hk|hk
     ·omega
     ·exact .inr hk
theorem aq.nil (P:Program):aq P []:=fun f b m h=>by cases h
theorem aq.cons {P:Program} {f:Nat} {b:Bool} {m:List AV→M AV} {T:er} (h:∀ args,zg P f args (m args)) (hT:aq P T):aq P ((f,b,m)::T):=by
 intro f' b' m' hf args
 simp only [er.find] at hf
 by_cases e:f=f'
 ·subst e
  simp only [Nat.beq_refl,cond_true,Option.some.injEq] at hf
  cases hf
  exact h args
 ·rw [nr e,cond_false] at hf
  exact hT f' b' m' hf args
def alm (g:Gh) (st:St) (w:World):dk:={ gq g st.h w st.nx (fun _=>False) with n0:=w.heap.size }
theorem gj.ofC {g st w} (hok:Ok g st.h w) (hfr:∀ o,st.nx≤o→g.inj o=none):gj (alm g st w) g st w:=
 ⟨hok,fun o h1 _=>hfr o h1,⟨rfl,fun _o _ho=>rfl,fun _ _ h=>h,fun _ _ _=>rfl,Nat.le_refl _,rfl,rfl,rfl,fun _ _ _=>rfl,fun o _b base ho hi=>.inr (.inr ⟨o,base,ho,hi⟩),fun _ _ h=>.inl h,
  fun _b cs _e fr h=>⟨cs,fr,h,rfl⟩,fun _b l h=>⟨l,h⟩⟩,Nat.le_refl _⟩
theorem gj.ay5 {g st w g' st' w'} (h:gj (alm g st w) g' st' w') (hfr:∀ o,st.nx≤o→g.inj o=none):Step g st.h w st.nx st'.nx g' st'.h w':=by
 have b:=h.base
 have pins:∀ o,o<st.nx→g'.inj o=g.inj o:=fun o ho=>b.pins o (.inl ho)
 refine ⟨⟨b.b0,fun o p hp=>?_,b.K,b.cell,b.i4,b.lp⟩,b.size,b.os,b.tape,b.output,fun c hc hn=>b.frame c hc (fun hO=>?_),fun o ho hr=>?_,fun o c base ho hi=>?_,fun c j hk=>?_⟩
 ·by_cases h1:st.nx≤o
  ·rw [hfr o h1] at hp;cases hp
  ·rw [pins o (by omega)];exact hp
 ·rcases hO with hO|⟨o,base,h1,h2⟩
  ·exact hO
  ·exact hn o base h1 h2
 ·by_cases h1:o<st.nx
  ·rw [pins o h1];exact ho
  ·exact h.fresh o (by omega) (fun hf=>hf)
 ·rcases b.own o c base ho hi with h1|h1|h1
  ·exact .inl h1
  ·exact h1.elim
  ·exact .inr h1
 ·rcases b.k8 c j hk with h1|h1|h1|h1
  ·exact .inl h1
  ·exact .inr (.inl h1)
  ·exact h1.elim
  ·exact .inr (.inr h1)
theorem bm {P:Program} {T:er} (hT:aq P T) (hm:P.follows .mixedOrders=true) {f:Nat} {fn:Func} {body:Code} (hf:P.funcs[f]? = some fn) (hb:fn.body=some body) (he:m7 P f=true) (hs:ef fn.ntmps body=true)
 {args:List AV} (hl:Nat.ble args.length fn.ntmps=true) {st:St} (hp:Nat.ble st.nx 1000=true) {R:AV→St→Prop}
 (h:wl P T st.nx body (du P fn.results.toList R) (cg 0 args) st):gp P f args st R:=by
 intro g w vs hok hfr hrel
 refine .inr ⟨tg he _ _,vo (ro:=none) (n:=0) (callsIn_of_wp_marks hf hb trivial ?_)⟩
 have hcur:=gj.ofC (w:=w) hok hfr
 refine wpIn_mono (amr hT hm (N:=0) (B:=alm g st w) (nt:=fn.ntmps) (fun _ h=>h) (Nat.le_of_ble_eq_true hp) (Nat.le_refl _) body hs _ _ _ g w _ h hcur (xz hrel (Nat.le_of_ble_eq_true hl)) (Marks.nil _ _ _ _)) ?_
 rintro ex a w' ⟨e,L,st',g',rfl,hq,hc,hr,hd⟩
 have fin:Hm (qt P L st' fn.results.toList) R st'→bodyPostM (fm none) 0 P fn (fun e w'=>∃ v g' r st',e = .returned v∧R r st'∧st.nx≤st'.nx∧Step g st.h w st.nx st'.nx g' st'.h w'∧Ok g' st'.h w'∧Rel g' w' r v) .ret a w':=by
  intro hq
  show LeavesInM (fm none) 0 P fn a.tmps _ a.defers .returning w'
  unfold Hm at hq
  cases hres:qt P L st' fn.results.toList with
  |none=>rw [hres] at hq;exact hq.elim
  |some l=>
   rw [hres] at hq
   obtain ⟨bs,e1,e2,e3⟩:=hd
   rw [e1]
   refine Co (Good:=fun u=>Ok g' st'.h u∧Step g st.h w st.nx st'.nx g' st'.h u∧(∀ a v,Rel g' w' a v→Rel g' u a v)) (S:=fun b=>w.heap.size≤b∧fg g' st'.h b) ?_ ?_ bs w'
    ⟨hc.ok,hc.ay5 hfr,fun _ _ h=>h⟩ e2 (fun b hb=>⟨⟨(e3 b hb).1,(e3 b hb).2.2⟩,(e3 b hb).2.1⟩)
   ·rintro u b ⟨g1,g2,g3⟩ ⟨hb1,hb2⟩ hb3
    have hput:=Ok.Cw (ds':=none) g1 hb3 hb2
    exact ⟨hput.1,Step.ae8 (ds':=none) hok g2 hb1,fun a v h=>hput.2 a v (g3 a v h)⟩
   ·rintro u ⟨g1,g2,g3⟩
    obtain ⟨us,h1,h2⟩:=Ob (P:=P) g1 ⟨hr.1,fun t=>g3 _ _ (hr.2 t)⟩ fn.results.toList l hres
    obtain ⟨v,h3,h4⟩:=O1 h1 h2
    exact ⟨v,h3,v,g',_,st',rfl,hq,hc.ay,g2,g1,h4⟩
 cases e with
 |normal=>exact fin hq
 |ret=>exact fin hq
 |exit id=>exact hq.elim
end
end Go.Vm
namespace Go.Vm
noncomputable section
section code
variable (P : Program) (T : er) (ay : Nat) (Q : QL) (L : SL) (st : St)
theorem aiy:wl P T ay .skip Q L st=Q .normal L st:=id rfl
theorem Zg (i ops d):wl P T ay (.region i ops d) Q L st=Ej P T ops d (Q .normal) L st:=id rfl
theorem ap8 (a b):wl P T ay (.seq a b) Q L st=wl P T ay a (ae0 (wl P T ay b) Q) L st:=id rfl
theorem aj4 (c a b):wl P T ay (.cond c a b) Q L st=wy (cf L c) (wl P T ay a Q) (wl P T ay b Q) L st:=id rfl
theorem aff (i b):wl P T ay (.block i b) Q L st=wl P T ay b (Ro i Q) L st:=id rfl
theorem ajk (b):wl P T ay (.loop b) Q L st=tz ay (wl P T ay b) Q L st:=id rfl
theorem ajv (i):wl P T ay (.exit i) Q L st=Q (.exit i) L st:=id rfl
theorem aqn:wl P T ay .ret Q L st=Q .ret L st:=id rfl
theorem aqm (W):ae0 W Q .normal L st=W Q L st:=id rfl
theorem ap3 (W i):ae0 W Q (.exit i) L st=Q (.exit i) L st:=id rfl
theorem apu (W):ae0 W Q .ret L st=Q .ret L st:=id rfl
theorem anq (i):Ro i Q .normal L st=Q .normal L st:=id rfl
theorem aoe (i):Ro i Q .ret L st=Q .ret L st:=id rfl
theorem ap7 (i j):Ro i Q (.exit j) L st=bif Nat.beq j i then Q .normal L st else Q (.exit j) L st:=id rfl
theorem ajr (keep X):r8 ay keep X Q .normal L st=X (dn ay keep L st) (gu ay keep L st):=id rfl
theorem ajo (keep X i):r8 ay keep X Q (.exit i) L st=Q (.exit i) L st:=id rfl
theorem akb (keep X):r8 ay keep X Q .ret L st=Q .ret L st:=id rfl
theorem ard (rs R):du P rs R .normal L st=Hm (qt P L st rs) R st:=id rfl
theorem ark (rs R):du P rs R .ret L st=Hm (qt P L st rs) R st:=id rfl
theorem Yy (ops K):Ej P T ops false K L st=opsL P T ops ops.toList K L st:=id rfl
theorem aez (ops K):opsL P T ops [] K L st=K L st:=id rfl
theorem Y3 (ops o r K):opsL P T ops (o::r) K L st=zl ops o.guard (ad3 P T o (opsL P T ops r K)) (Ih o.dst (opsL P T ops r K)) L st:=id rfl
theorem agx (ops K recs):Fw P T ops [] K recs L st=(c0 (Region.before ops) 0 recs=true∧K L st):=id rfl
theorem Yp (ops o r K recs):Fw P T ops (o::r) K recs L st=zl ops o.guard (gv P T o recs (Fw P T ops r K)) (Ih o.dst (Fw P T ops r K (recs++[⟨[],[]⟩]))) L st:=id rfl
theorem Tk (ops X Y):zl ops none X Y L st=X L st:=id rfl
theorem Ta (ops j c X Y):zl ops (some (j,c)) X Y L st=Fp (lk L (vc ops j)) c X Y L st:=id rfl
theorem adn (b:Bool) (X Y:SL→St→Prop):Fp (.sc (.bool b)) true X Y L st=wy (.sc (.bool b)) X Y L st:=by cases b<;>simp [Fp,z6,Cu,G8,wy,sk,AV.bool,AV.exact,qh]
theorem agm (b:Bool) (X Y:SL→St→Prop):Fp (.sc (.bool b)) false X Y L st=wy (.sc (.bool b)) Y X L st:=by cases b<;>simp [Fp,z6,Cu,G8,wy,sk,AV.bool,AV.exact,qh]
theorem afw (c:Bool) (X Y:SL→St→Prop):Fp (.sc undef) c X Y L st=Y L st:=by simp [Fp,z6,Cu,G8,AV.exact,undef]
theorem ai3 (o K):ad3 P T o K L st=Nw (ft P T o (cf L) st) P o L st K:=id rfl
theorem aev (v o K st'):Nw (some (v,st')) P o L st K=K (iy o.dst v L) st':=id rfl
theorem acz (K d r):cx K d L r st=K (iy d r L) st:=id rfl
theorem acd (ro F o recs K v bd):Fx ro F o recs K L st (some (v,bd))=((Hd st.nx F=true∧Nat.ble bd.nx br=true)∧same (ll st.h F) bd.h (bif ro then F else []) ∧
 K (recs++[⟨F,(bif ro then [] else F)++dh st.nx (bd.nx - st.nx)⟩]) (iy o.dst v L) { h:=q8 bd.h (F++dh st.nx (bd.nx - st.nx)) st.h,nx:=bd.nx,rl:=[],wl:=[] }):=id rfl
theorem Yd (d K):Ih d K L st=K (iy d (.sc undef) L) st:=id rfl
theorem dm (b X Y):wy (.sc (.bool b)) X Y L st=((b=true→X L st)∧(b=false→Y L st)):=id rfl
theorem If (X Y):wy (.sc (.bool true)) X Y L st=X L st:=by simp [wy,sk,AV.bool,AV.exact,qh]
theorem Is (X Y):wy (.sc (.bool false)) X Y L st=Y L st:=by simp [wy,sk,AV.bool,AV.exact,qh]
theorem Y1 (v d K):H6 (some (v,st)) d L K=K (iy d v L) st:=id rfl
theorem X9 (d v):iy (some d) v L=(d,v)::L:=id rfl
theorem Z2 (v):iy none v L=L:=id rfl
theorem aov (l R):Hm (some l) R st=R (pack l) st:=id rfl
theorem an7 (d v):lk ((d,v)::L) d=v:=by simp [lk]
theorem ajs (d t v) (h:(d == t)=false):lk ((d,v)::L) t=lk L t:=by
 have e:d≠t:=by simpa using h
 rw [n5,if_neg e]
theorem auc (t):cf L (.tmp t)=lk L t:=id rfl
theorem aud (v):cf L (.const v) = .sc v:=id rfl
theorem auw (f):cf L (.func f) = .sc (.func (.func f) #[] #[]):=id rfl
theorem arq:qt P L st []=some []:=id rfl
theorem arh (t r):qt P L st (.tmp t::r)=(qt P L st r).map (lk L t :: ·):=id rfl
theorem aou (a t r):qt P L st (.cell a t::r)=match j6 P t (lk L a) st with|some (v,_)=>(qt P L st r).map (v :: ·)|none=>none:=id rfl
end code
section ops
variable (P : Program) (T : er) (ρ : Operand → AV) (d : Option Tmp) (ty : TypeId) (pos : String) (af : Array Edge) (gd : Option (Nat × Bool))
theorem Jg (x):ft P T ⟨d,.move x,ty,pos,af,gd⟩ ρ=mono (M.pure (ρ x)):=id rfl
theorem Fa (x):ft P T ⟨d,.assign x,ty,pos,af,gd⟩ ρ=mono (M.pure (ρ x)):=id rfl
theorem Jt (t a):ft P T ⟨d,.load t a,ty,pos,af,gd⟩ ρ=mono (j6 P t (ρ a)):=id rfl
theorem Ai (s x f):ft P T ⟨d,.fieldAddr s x f,ty,pos,af,gd⟩ ρ=mono (lz P s (ρ x) f):=id rfl
theorem Ra (op t x y u):ft P T ⟨d,.binOp op t x y u,ty,pos,af,gd⟩ ρ=mono (zd P ρ ⟨d,.binOp op t x y u,ty,pos,af,gd⟩ op t x y):=id rfl
theorem J4 (c a b):ft P T ⟨d,.pick c a b,ty,pos,af,gd⟩ ρ=mono (vu (ρ c) (ρ a) (ρ b)):=id rfl
theorem Ht (t a x):ft P T ⟨d,.store t a x,ty,pos,af,gd⟩ ρ=mono (qq P t (ρ a) (ρ x)):=id rfl
theorem K6 (t i):ft P T ⟨d,.extract t i,ty,pos,af,gd⟩ ρ=mono (ql (ρ t) i):=id rfl
theorem As (t x i):ft P T ⟨d,.indexAddr t x i,ty,pos,af,gd⟩ ρ=mono (l7 P t (ρ x) (ρ i)):=id rfl
theorem B6 (x):ft P T ⟨d,.nilCheck x,ty,pos,af,gd⟩ ρ=mono (ku (ρ x)):=id rfl
theorem Qe (t):ft P T ⟨d,.alloc t,ty,pos,af,gd⟩ ρ=mono (sv P t):=id rfl
theorem Z1 (t x):ft P T ⟨d,.box t x,ty,pos,af,gd⟩ ρ=mono (ze t (ρ x)):=id rfl
theorem Hp (t ps):ft P T ⟨d,.build t ps,ty,pos,af,gd⟩ ρ=mono (sg P t (ps.toList.map fun p=>(p.1,ρ p.2))):=id rfl
theorem zk (t n ps):ft P T ⟨d,.buildSlice t n ps,ty,pos,af,gd⟩ ρ=mono (j4 P t n (ps.toList.map fun p=>(p.1,ρ p.2))):=id rfl
theorem Ld (t r):ft P T ⟨d,.makeMap t r,ty,pos,af,gd⟩ ρ=mono (th r):=id rfl
theorem Ja (f a b):ft P T ⟨d,.makeFunc f a b,ty,pos,af,gd⟩ ρ=mono (M.pure (.fn f (a.toList.map ρ) (b.toList.map ρ))):=id rfl
theorem Kx (s u x):ft P T ⟨d,.convert s u x,ty,pos,af,gd⟩ ρ=mono (qg P ρ ⟨d,.convert s u x,ty,pos,af,gd⟩ s u (ρ x)):=id rfl
theorem P5 (s x f):ft P T ⟨d,.field s x f,ty,pos,af,gd⟩ ρ=mono (um P s (ρ x) f):=id rfl
theorem P9 (t x i):ft P T ⟨d,.index t x i,ty,pos,af,gd⟩ ρ=mono (ud P ρ ⟨d,.index t x i,ty,pos,af,gd⟩ t x i):=id rfl
theorem Qq (t x l h m):ft P T ⟨d,.slice t x l h m,ty,pos,af,gd⟩ ρ=mono (s5 P ρ ⟨d,.slice t x l h m,ty,pos,af,gd⟩ t x l h m):=id rfl
theorem Nj (t x i ok):ft P T ⟨d,.lookup t x i ok,ty,pos,af,gd⟩ ρ=mono (sj P t (ρ x) (ρ i) ok):=id rfl
theorem Gj (t m k x):ft P T ⟨d,.mapUpdate t m k x,ty,pos,af,gd⟩ ρ=mono (mh P t (ρ m) (ρ k) (ρ x)):=id rfl
theorem Nh (x ts):ft P T ⟨d,.call { callee:=.builtin .len,args:=#[x],argTypes:=ts },ty,pos,af,gd⟩ ρ=mono (s7 ((ts[0]?).bind P.underlying) (ρ x)):=id rfl
theorem Ez (s x ts):ft P T ⟨d,.call { callee:=.builtin .append,args:=#[s,x],argTypes:=ts },ty,pos,af,gd⟩ ρ=mono (ou P ts[0]? ((ts[1]?).bind P.underlying) (ρ s) (ρ x)):=id rfl
theorem Um (f args ts):ft P T ⟨d,.call { callee:=.value f,args,argTypes:=ts },ty,pos,af,gd⟩ ρ=u6 T (ρ f) (args.toList.map ρ):=id rfl
end ops
section monad
variable {α β : Type} (s : St)
theorem auz (m:M α):mono m s=match m s with|none=>none|some (a,s')=>bif decide (s.nx≤s'.nx) then some (a,s') else none:=by
 have:∀ a b,Nat.ble a b=decide (a≤b):=fun a b=>by rw [Bool.eq_iff_iff];simp
 unfold mono
 cases m s with
 |none=>rfl
 |some p=>simp only [this]
theorem au4 (m:M α) (f : α→M β):(m.bind f) s=match m s with|none=>none|some (a,s')=>f a s':=id rfl
theorem au7 (a : α):(M.pure a) s=some (a,s):=id rfl
theorem aur:(M.fail:M α) s=none:=id rfl
theorem aus (a : α):(M.of (some a)) s=some (a,s):=id rfl
theorem aui (b:Bool) (m m':M α):(bif b then m else m') s=bif b then m s else m' s:=by cases b<;>rfl
theorem auu (o:Nat):cj o s=match s.h.get o with|some x=>some (x,{ s with rl:=o::s.rl })|none=>none:=id rfl
theorem au2 (x:ba):gi x s=bif decide (s.nx≤br) then some (s.nx,{ s with h:=s.h.set depth s.nx (some x),nx:=s.nx+1,wl:=s.nx::s.wl }) else none:=by
 have:Nat.ble s.nx br=decide (s.nx≤br):=by rw [Bool.eq_iff_iff];simp
 unfold gi;rw [this]
theorem au0 (o:Nat) (x:ba):gh o x s=match s.h.get o with|some _=>bif decide (o≤br) then some ((),{ s with h:=s.h.set depth o (some x),wl:=o::s.wl }) else none|none=>none:=by
 have:Nat.ble o br=decide (o≤br):=by rw [Bool.eq_iff_iff];simp
 unfold gh;rw [this];rfl
theorem aup (o:Nat):wm o s=match s.h.get o with|some _=>bif decide (o≤br) then some ((),{ s with h:=s.h.set depth o none,wl:=o::s.wl }) else none|none=>none:=by
 have:Nat.ble o br=decide (o≤br):=by rw [Bool.eq_iff_iff];simp
 unfold wm;rw [this];rfl
theorem ab5 (t:Tr ba) (n m:Nat) (x:Option ba) (h:n≤16777214):(Tr.set depth t n x).get m=if m=n then x else t.get m:=ea t n m x h
theorem adt (n:Nat):(Tr.nil:Tr ba).get n=none:=id rfl
theorem axr (a b:Nat):Nat.ble a b=decide (a≤b):=by rw [Bool.eq_iff_iff];simp
theorem axv (a b:Nat):Nat.blt a b=decide (a<b):=by rw [Bool.eq_iff_iff];simp
theorem am4 (a b:Nat):Nat.beq a b=decide (a=b):=by rw [Bool.eq_iff_iff];simp
end monad
theorem Pq {a:AV} {x y x' y':Prop} (h1:x→x') (h2:y→y') (h:sk a x y):sk a x' y':=by
 unfold sk at *
 split at h
 ·exact ⟨fun e=>h1 (h.1 e),fun e=>h2 (h.2 e)⟩
 ·exact h.elim
theorem An {ops L gd} {x y x' y':Prop} (h1:x→x') (h2:y→y') (h:guarded ops L gd x y):guarded ops L gd x' y':=by
 unfold guarded at *
 split at h
 ·exact h1 h
 ·unfold z6 at *
  split at h
  ·exact ⟨fun e=>h1 (h.1 e),fun e=>h2 (h.2 e)⟩
  ·exact h.elim
theorem gp.mono {P f args st} {R R':AV→St→Prop} (h:∀ r st,R r st→R' r st) (hc:gp P f args st R):gp P f args st R':=by
 intro g w vs h1 h2 h3
 rcases hc g w vs h1 h2 h3 with ⟨v,w',g',r,st',q1,q2,q3⟩|⟨q1,q2⟩
 ·exact .inl ⟨v,w',g',r,st',q1,h _ _ q2,q3⟩
 ·refine .inr ⟨q1,q2.mono ?_⟩
  rintro e w' ⟨v,g',r,st',p1,p2,p3⟩
  exact ⟨v,g',r,st',p1,h _ _ p2,p3⟩
theorem ani {P o L st} {K K':SL→St→Prop} (h:∀ L st,K L st→K' L st) (hc:O4 P o L st K):O4 P o L st K':=by
 unfold O4 amt at *
 split at hc
 ·split at hc
  ·exact gp.mono (fun r st hk=>h _ _ hk) hc
  ·exact hc.elim
 ·exact hc.elim
theorem G1 {P T ops} {K K':SL→St→Prop} (h:∀ L st,K L st→K' L st):∀ (l:List Oper) (L:SL) (st:St),opsL P T ops l K L st→opsL P T ops l K' L st
 | [],L,st,hh=>h L st hh
 |o::r,L,st,hh=>An (fun q=>by
  unfold ad3 Nw at *
  split at q
  ·exact G1 h r _ _ q
  ·exact ani (fun L st=>G1 h r L st) q) (fun q=>G1 h r _ _ q) hh
theorem Gx {P T ops} {K K':SL→St→Prop} (h:∀ L st,K L st→K' L st):∀ (l:List Oper) (recs:List Rec) (L:SL) (st:St),Fw P T ops l K recs L st→Fw P T ops l K' recs L st
 | [],recs,L,st,hh=>⟨hh.1,h L st hh.2⟩
 |o::r,recs,L,st,hh=>An (fun q=>by
  unfold gv kp Fx at *
  split at q
  ·exact ⟨q.1,q.2.1,Gx h r _ _ _ q.2.2⟩
  ·exact q.elim) (fun q=>Gx h r _ _ _ q) hh
theorem Gt {P T ops} {K K':SL→St→Prop} (h:∀ L st,K L st→K' L st):∀ (l:List Oper) (recs:List Rec) (L:SL) (st:St),Mp P T ops l K recs L st→Mp P T ops l K' recs L st
 | [],recs,L,st,hh=>⟨hh.1,h L st hh.2⟩
 |o::r,recs,L,st,hh=>An (fun q=>Uo (fun _ _ _ k=>Gt h r _ _ _ k) q) (fun q=>Gt h r _ _ _ q) hh
theorem zw {P T l ay ops} {R:Ix} (hR:∀ p args (X X':Ex→St→Prop) st,(∀ e st,X e st→X' e st)→R p args X st→R p args X' st) {K K':Option Ex→SL→St→Prop} (h:∀ pe L st,K pe L st→K' pe L st) :
 ∀ (ls:List Oper) (pe:Option Ex) (L:SL) (st:St),Fo P T l R ay ops ls K pe L st→Fo P T l R ay ops ls K' pe L st
 | [],pe,L,st,hh=>h pe L st hh
 |o::r,pe,L,st,hh=>An (fun q=>by
  unfold opI Wf at *
  split at q
  ·unfold H6 at *
   split at q
   ·exact zw hR h r _ _ _ q
   ·exact q.elim
  ·obtain ⟨h0,keep,q⟩:=q
   refine ⟨h0,keep,hR _ _ _ _ _ (fun e st q=>?_) q⟩
   cases e with
   |normal=>exact zw hR h r _ _ _ q
   |ret=>exact zw hR h r _ _ _ q
   |exit id=>exact zw hR h r _ _ _ q) (fun q=>zw hR h r _ _ _ q) hh
theorem Sk {P:Program} {T:er} {l ay:Nat} {R:Ix} (hR:∀ p args (X X':Ex→St→Prop) st,(∀ e st,X e st→X' e st)→R p args X st→R p args X' st) :
 ∀ (c:Code) (Q Q':QI),(∀ e pe L st,Q e pe L st→Q' e pe L st)→∀ pe L st,qy P T l R ay c Q pe L st→qy P T l R ay c Q' pe L st:=by
 intro c
 induction c with
 |skip=>intro Q Q' h pe L st hh;exact h _ _ _ _ hh
 |label l=>intro Q Q' h pe L st hh;exact h _ _ _ _ hh
 |exit i=>intro Q Q' h pe L st hh;exact h _ _ _ _ hh
 |ret=>intro Q Q' h pe L st hh;exact h _ _ _ _ hh
 |region i ops draw=>
  intro Q Q' h pe L st hh
  cases draw with
  |false=>exact zw hR (h _) _ _ _ _ hh
  |true=>exact ⟨hh.1,hh.2.imp (Gx (h _ _) _ _ _ _) (Gt (h _ _) _ _ _ _)⟩
 |seq a b iha ihb=>
  intro Q Q' h pe L st hh
  refine iha _ _ ?_ pe L st hh
  intro e pe L st q
  cases e with
  |normal=>exact ihb _ _ h pe L st q
  |_=>exact h _ _ _ _ q
 |cond c a b iha ihb=>intro Q Q' h pe L st hh;exact Pq (iha _ _ h pe L st) (ihb _ _ h pe L st) hh
 |block i b ih=>
  intro Q Q' h pe L st hh
  refine ih _ _ ?_ pe L st hh
  intro e pe L st q
  cases e with
  |exit j=>
   simp only [Si] at *
   cases hb:Nat.beq j i with
   |true=>rw [hb] at q;exact h _ _ _ _ q
   |false=>rw [hb] at q;exact h _ _ _ _ q
  |_=>exact h _ _ _ _ q
 |loop b ih=>
  intro Q Q' h pe L st hh
  obtain ⟨h0,keep,hh⟩:=hh
  refine ⟨h0,keep,fun X hX=>hh X fun vs os q=>hX vs os (ih _ _ ?_ _ _ _ q)⟩
  intro e pe L st q
  cases e with
  |normal=>exact q
  |_=>exact h _ _ _ _ q
 |scope b ih=>intro _ _ _ _ _ _ hh;exact hh.elim
 |rangeFunc=>intro _ _ _ _ _ _ hh;exact hh.elim
 |goto=>intro _ _ _ _ _ _ hh;exact hh.elim
 |refuse=>intro _ _ _ _ _ _ hh;exact hh.elim
theorem asy {P:Program} {T:er}:∀ (c:Code) (ay:Nat) (Q Q':QL),(∀ e L st,Q e L st→Q' e L st)→∀ L st,wl P T ay c Q L st→wl P T ay c Q' L st:=by
 intro c
 induction c with
 |skip=>intro ay Q Q' h L st hh;exact h _ _ _ hh
 |label l=>intro ay Q Q' h L st hh;exact h _ _ _ hh
 |exit i=>intro ay Q Q' h L st hh;exact h _ _ _ hh
 |ret=>intro ay Q Q' h L st hh;exact h _ _ _ hh
 |region i ops draw=>
  intro ay Q Q' h L st hh
  cases draw with
  |false=>exact G1 (h _) _ _ _ hh
  |true=>exact ⟨hh.1,hh.2.imp (Gx (h _) _ _ _ _) (Gt (h _) _ _ _ _)⟩
 |seq a b iha ihb=>
  intro ay Q Q' h L st hh
  refine iha _ _ _ ?_ L st hh
  intro e L st q
  cases e with
  |normal=>exact ihb _ _ _ h L st q
  |_=>exact h _ _ _ q
 |cond c a b iha ihb=>intro ay Q Q' h L st hh;exact Pq (iha _ _ _ h L st) (ihb _ _ _ h L st) hh
 |block i b ih=>
  intro ay Q Q' h L st hh
  refine ih _ _ _ ?_ L st hh
  intro e L st q
  cases e with
  |exit j=>
   simp only [Ro] at *
   cases hb:Nat.beq j i with
   |true=>rw [hb] at q;exact h _ _ _ q
   |false=>rw [hb] at q;exact h _ _ _ q
  |_=>exact h _ _ _ q
 |loop b ih=>
  intro ay Q Q' h L st hh
  obtain ⟨keep,hh⟩:=hh
  refine ⟨keep,fun X hX=>hh X fun vs os q=>hX vs os (ih _ _ _ ?_ _ _ q)⟩
  intro e L st q
  cases e with
  |normal=>exact q
  |_=>exact h _ _ _ q
 |scope b ih=>intro ay Q Q' h L st hh;exact ih _ _ _ h L st hh
 |rangeFunc f ps a b iha ihb=>
  intro ay Q Q' h L st hh
  obtain ⟨keep,h0,hh⟩:=hh
  refine ⟨keep,h0,?_⟩
  unfold Lv at *
  split at hh
  ·unfold L5 at *
   split at hh
   ·refine ⟨hh.1,fun l=>Sk (fun p args X X' st hX hr=>⟨hr.1,hr.2.1,iha _ _ _ (fun e L st q=>(by
     cases e with
     |normal=>exact ihb _ _ _ (fun e _ st q=>hX e st q) _ _ q
     |_=>exact q.elim)) _ _ hr.2.2⟩) _ _ _ (fun e pe L st q=>(by
     cases e with
     |exit id=>exact q.elim
     |normal=>
      cases pe with
      |none=>exact h _ _ _ q
      |some e=>exact h _ _ _ q
     |ret=>
      cases pe with
      |none=>exact h _ _ _ q
      |some e=>exact h _ _ _ q)) _ _ _ (hh.2 l)⟩
   ·exact hh.elim
  ·exact hh.elim
 |goto=>intro _ _ _ _ _ _ hh;exact hh.elim
 |refuse=>intro _ _ _ _ _ _ hh;exact hh.elim
theorem Ij {P:Program} {T:er} {ay:Nat} (c:Code) (Q Q':QL) (h:∀ e L st,Q e L st→Q' e L st) (L:SL) (st:St) (hh:wl P T ay c Q L st):wl P T ay c Q' L st:=asy c ay Q Q' h L st hh
theorem c8 {α:Type} {P:Program} {T:er} {ay:Nat} {b:Code} {Q:QL} {L:SL} {st:St} (keep:List Nat) (V : α→List AV) (O : α→List (Option ba)) (I : α→Prop) (μ : α→Nat) (x : α) (hx:I x)
 (hv:dn ay keep L st=V x) (ho:gu ay keep L st=O x)
 (step:∀ x,I x→wl P T ay b (r8 ay keep (fun vs os=>∃ y,I y ∧ μ y < μ x∧vs=V y∧os=O y) Q) (ja keep (V x)) (bb (O x))):tz ay (wl P T ay b) Q L st:=
 tz.of keep V O I μ x hx hv ho (fun _ _ h=>Ij b _ _ h) step
section cods
theorem px {α:Type} (C:c9 α) (l:Bool) (xs:List α):(cd C).val l xs = .vl l C.sz (xs.map (C.val l)):=id rfl
theorem Eo {α:Type} (C:c9 α):(cd C).sz=1:=id rfl
theorem Xt:ai.sz=1:=id rfl
theorem afb:bp.sz=1:=id rfl
theorem M9:cz.sz=1:=id rfl
theorem C9:db.sz=1:=id rfl
theorem C2 (k:IntKind):(bc k).sz=1:=id rfl
theorem Ji:bw.sz=1:=id rfl
theorem Ga (l:Bool) (x:UInt8):bp.val l x = .sc (.int .u8 x.toNat):=id rfl
theorem Vt (l:Bool) (x:UInt16):cz.val l x = .sc (.int .u16 x.toNat):=id rfl
theorem Sv (l:Bool) (x:UInt32):db.val l x = .sc (.int .u32 x.toNat):=id rfl
theorem Ug (k:IntKind) (l:Bool) (x:Int):(bc k).val l x = .sc (.int k x):=id rfl
theorem Q6 (l:Bool) (x:Bool):bw.val l x = .sc (.bool x):=id rfl
theorem ai4 (o i:Nat):idx [] o i=none:=id rfl
theorem abq {α:Type} (C:c9 α) (τ:Nat→Option Nat) (l:Bool):AV.cb τ ∘ C.val l=C.val l:=by funext x;exact Iu C τ l x
theorem Vn (l:Bool) (x:ByteArray):ai.val l x = .sc (.string x):=id rfl
theorem B9 {α:Type} (C:c9 α) (fr:Bool) (h:Tr ba) (a:AV) (h1:a.known=true) (h2:a.isAgg=C.agg):C.jd fr h a=C.dec fr h a.cells:=by
 unfold c9.jd;rw [h1,h2];simp
theorem Z4 (fr:Bool) (h:Tr ba) (n:UInt32):db.jd fr h (.sc (.int .u32 n.toNat))=some n:=db.Ku fr h true n (fun _=>rfl)
theorem Y0 (fr:Bool) (h:Tr ba) (n:UInt16):cz.jd fr h (.sc (.int .u16 n.toNat))=some n:=cz.Ku fr h true n (fun _=>rfl)
theorem Ui (k:IntKind) (fr:Bool) (h:Tr ba) (n:Int):(bc k).jd fr h (.sc (.int k n))=some n:=(bc k).Ku fr h true n (fun _=>rfl)
theorem Pz (fr:Bool) (h:Tr ba) (b:Bool):bw.jd fr h (.sc (.bool b))=some b:=bw.Ku fr h true b (fun _=>rfl)
theorem Tq (fr:Bool) (h:Tr ba) (s:ByteArray):ai.jd fr h (.sc (.string s))=some s:=ai.Ku fr h true s (fun _=>rfl)
theorem Cc {α:Type} (C:c9 α) (fr:Bool) (h:Tr ba) (a:AV) (h1:a.known=true) (h2:a.isAgg=false) (h3:a.cells=[a]):(cd C).jd fr h a=jc C fr h a:=by
 rw [B9 _ _ _ _ h1 h2,h3];rfl
theorem awc {α:Type} (C:c9 α) (fr:Bool) (h:Tr ba) (l:Bool) (xs:List α) (hl:(l || !fr)=true):(cd C).jd fr h (.vl l C.sz (xs.map (C.val l)))=some xs:=by
 refine (cd C).Ku fr h l xs ?_
 cases fr<;>simp_all
theorem afp {α:Type} (C:c9 α) (fr:Bool) (h:Tr ba):jc C fr h (.sc (.slice none 0 0))=some []:=id rfl
theorem xp {α:Type} (C:c9 α) (fr:Bool) (h:Tr ba) (l:Bool) (xs:List α) (n:Nat) (hn:n=C.sz) (hl:(l || !fr)=true):jc C fr h (.vl l n (xs.map (C.val l)))=some xs:=by
 subst hn
 have:(cd C).jd fr h (.vl l C.sz (xs.map (C.val l)))=some xs:=awc C fr h l xs hl
 rwa [Cc C fr h _ rfl rfl rfl] at this
theorem aih {α:Type} (C:c9 α) (fr:Bool) (h:Tr ba) (o off len n:Nat):jc C fr h (.sl o off len n)=bif decide (n=C.sz) then (h.get o).bind (mf C fr h off len) else none:=by
 show (bif Nat.beq n C.sz then _ else _)=_
 rw [am4]
theorem aA3 {α:Type} (C:c9 α) (fr:Bool) (h:Tr ba) (n:Nat) (l:List AV):Bh C fr h (n+1) l=match C.dec fr h (l.take C.sz),Bh C fr h n (l.drop C.sz) with|some x,some xs=>some (x::xs)|_,_=>none:=id rfl
theorem T3 (fr:Bool) (h:Tr ba) (n:Int) (h0 : 0≤n) (h1:n<256):bp.dec fr h [.sc (.int .u8 n)]=some (UInt8.ofNat n.toNat):=by
 show u8V (.int .u8 n)=_;simp [u8V,h0,h1]
theorem axq {α β:Type} (A:c9 α) (B:c9 β) (l:Bool) (p : α × β):(r2 A B).E l p = .fc [A.val l p.1,B.val l p.2]:=id rfl
theorem axw {α:Type} (A:c9 α) (l:Bool) (x : α):(r1 A).E l x=A.val l x:=id rfl
theorem agq (T:er) (g:Nat) (a b:Array Value) (args:List AV):u6 T (.sc (.func (.func g) a b)) args=ub T g (a.toList.map .sc++args++b.toList.map .sc):=id rfl
theorem ab9 (T:er) (g:Nat) (a b:List AV) (args:List AV):u6 T (.fn (.func g) a b) args=ub T g (a++args++b):=id rfl
theorem Y5 (f:Nat) (b:Bool) (m:List AV→M AV) (T:er) (args:List AV):ub ((f,b,m)::T) f args=mono (m args):=by simp [ub,er.find]
theorem Vc (f g:Nat) (b:Bool) (m:List AV→M AV) (T:er) (args:List AV) (h:(f == g)=false):ub ((f,b,m)::T) g args=ub T g args:=by
 have:f≠g:=by simpa using h
 simp [ub,er.find,nr this]
theorem acs {α:Type} (A:AC α) (F : α→Option AV) (args:List AV) (st:St):dq A F args st=match A.get .nil args with|some x=>(F x).map fun r=>(r,st)|none=>match A.get st.h args with|some x=>(match F x with|some r=>bif r.fresh then some (r,st) else none|none=>none)|none=>none:=id rfl
theorem ayq {α β:Type} (A:c9 α) (B:c9 β) (fr:Bool) (h:Tr ba) (a b:AV):(r2 A B).get fr h (.fc [a,b])=match A.jd fr h a,B.jd fr h b with|some x,some y=>some (x,y)|_,_=>none:=id rfl
theorem ayy (h:Tr ba):a0.get h []=some ():=id rfl
theorem axl {α β:Type} (C:c9 α) (R:AC β) (h:Tr ba) (a:AV) (r:List AV):(aC C R).get h (a::r)=match C.jd false h a,R.get h r with|some x,some y=>some (x,y)|_,_=>none:=id rfl
theorem ax1 {α:Type} (A:c9 α) (fr:Bool) (h:Tr ba) (a:AV):(r1 A).get fr h a=A.jd fr h a:=id rfl
end cods
section
variable (P : Program)
theorem Zn (pl:Nat→Option (Nat × Nat)) (cells:List AV):wv pl cells []=some cells:=id rfl
theorem Vf (pl:Nat→Option (Nat × Nat)) (cells:List AV) (i:Nat) (v:AV) (rest:List (Nat × AV)):wv pl cells ((i,v)::rest)=match pl i with
 |none=>none
 |some (off,size)=>bif !v.known || !(Nat.beq v.cells.length size) || !(Nat.ble (off+size) cells.length) then none else wv pl (cells.take off++v.cells++cells.drop (off+size)) rest:=id rfl
def yy (t:TypeId):Option (List AV × List (Nat × Nat)):=
 match fq P t,P.underlying t with
 |some z,some (.struct fields)=>(Il P fields).map fun pl=>(z.cells.toList.map .sc,pl)
 |_,_=>none
theorem Ts (t:TypeId) (ps:List (Nat × AV)):sg P t ps=match yy P t with
 |some (z,pl)=>.of ((wv (fun i=>pl[i]?) z ps).map .agg)
 |none=>sg P t ps:=by
 cases hb:yy P t with
 |none=>rfl
 |some q=>
  obtain ⟨z,pl⟩:=q
  simp only [yy] at hb
  split at hb
  ·rename_i z' fs hz hu
   cases hp:Il P fs with
   |none=>simp [hp] at hb
   |some pl'=>
    simp [hp] at hb
    obtain ⟨rfl,rfl⟩:=hb
    simp [sg,hz,hu,hp]
  ·cases hb
def Br (t:TypeId):Option (TypeId × Nat × List AV):=
 match qs P t with
 |none=>none
 |some e=>
  match dc P e,fq P e with
  |some sz,some z=>bif Nat.beq z.cells.size sz then some (e,sz,z.cells.toList.map .sc) else none
  |_,_=>none
theorem Gn (t:TypeId) (len:Nat) (ps:List (Nat × AV)):j4 P t len ps=match Br P t with
 |some (e,sz,z)=>
  match wv (fun i=>some (i * sz,sz)) (List.replicate len z).flatten ps with
  |some cells=>bif Nat.ble (len * sz) 16777216 && Nat.ble len 16777216 then mj e sz len cells else .fail
  |none=>.fail
 |none=>j4 P t len ps:=by
 cases hb:Br P t with
 |none=>rfl
 |some q=>
  obtain ⟨e,sz,z⟩:=q
  simp only [Br] at hb
  split at hb
  ·cases hb
  ·rename_i e' he
   split at hb
   ·rename_i sz' z' hs hz
    cases hq:Nat.beq z'.cells.size sz' with
    |false=>simp [hq] at hb
    |true=>
     simp [hq] at hb
     obtain ⟨rfl,rfl,rfl⟩:=hb
     simp only [j4,he,hs,hz,hq,Bool.and_true]
     rfl
   ·cases hb
end
section ranges
variable (P : Program) (T : er) (l ay : Nat) (R : Ix) (Q : QI) (pe : Option Ex) (L : SL) (st : St)
theorem aex (f:Operand) (ps:Array Tmp) (a b:Code) (Q:QL):wl P T ay (.rangeFunc f ps a b) Q L st=aph P T f ps.toList (fun p=>wl P T p a) (fun p=>wl P T p b) ay Q L st:=id rfl
theorem acv:qy P T l R ay .skip Q pe L st=Q .normal pe L st:=id rfl
theorem T2 (i:Nat) (ops:Array Oper):qy P T l R ay (.region i ops false) Q pe L st=Fo P T l R ay ops ops.toList (Q .normal) pe L st:=id rfl
theorem ai8 (a b:Code):qy P T l R ay (.seq a b) Q pe L st=qy P T l R ay a (agp (qy P T l R ay b) Q) pe L st:=id rfl
theorem aec (c:Operand) (a b:Code):qy P T l R ay (.cond c a b) Q pe L st=Cl (cf L c) (qy P T l R ay a Q) (qy P T l R ay b Q) pe L st:=id rfl
theorem aaa (i:Nat) (a:Code):qy P T l R ay (.block i a) Q pe L st=qy P T l R ay a (Si i Q) pe L st:=id rfl
theorem afs (i:Nat):qy P T l R ay (.exit i) Q pe L st=Q (.exit i) pe L st:=id rfl
theorem ajz:qy P T l R ay .ret Q pe L st=Q .ret pe L st:=id rfl
theorem ao4 (W:QI→Option Ex→SL→St→Prop):agp W Q .normal pe L st=W Q pe L st:=id rfl
theorem apm (W:QI→Option Ex→SL→St→Prop) (i:Nat):agp W Q (.exit i) pe L st=Q (.exit i) pe L st:=id rfl
theorem aqi (W:QI→Option Ex→SL→St→Prop):agp W Q .ret pe L st=Q .ret pe L st:=id rfl
theorem arw (i:Nat):Si i Q .normal pe L st=Q .normal pe L st:=id rfl
theorem aog (i:Nat):Si i Q .ret pe L st=Q .ret pe L st:=id rfl
theorem aqz (i j:Nat):Si i Q (.exit j) pe L st=if j=i then Q .normal pe L st else Q (.exit j) pe L st:=by
 show (bif Nat.beq j i then _ else _)=_
 rw [am4];by_cases h:j=i<;>simp [h]
theorem aio (Q':QL):Bb Q' Q .normal pe L st=(pe=none∧Q' .normal L st):=id rfl
theorem ai1 (Q':QL) (i:Nat):Bb Q' Q (.exit i) pe L st=Q (.exit i) pe L st:=id rfl
theorem aj6 (Q':QL):Bb Q' Q .ret pe L st=Q .ret pe L st:=id rfl
theorem aje (Q:QL) (L0:SL):ab2 Q L0 .normal none L st=Q .normal L0 st:=id rfl
theorem aif (Q:QL) (L0:SL) (e:Ex):ab2 Q L0 .ret (some e) L st=Q e L0 st:=id rfl
theorem abu (ops:Array Oper) (K:Option Ex→SL→St→Prop):Fo P T l R ay ops [] K pe L st=K pe L st:=id rfl
theorem X8 (ops:Array Oper) (o:Oper) (r:List Oper) (K:Option Ex→SL→St→Prop):Fo P T l R ay ops (o::r) K pe L st=J9 ops o.guard (opI P T l R ay o (Fo P T l R ay ops r K)) (Xg o.dst (Fo P T l R ay ops r K)) pe L st:=id rfl
theorem Tf (ops:Array Oper) (X Y:Option Ex→SL→St→Prop):J9 ops none X Y pe L st=X pe L st:=id rfl
theorem Vb (ops:Array Oper) (j:Nat) (c:Bool) (X Y:Option Ex→SL→St→Prop):J9 ops (some (j,c)) X Y pe L st=age (lk L (vc ops j)) c X Y pe L st:=id rfl
theorem afh (b:Bool) (X Y:Option Ex→SL→St→Prop):age (.sc (.bool b)) true X Y pe L st=Cl (.sc (.bool b)) X Y pe L st:=by cases b<;>simp [age,z6,Cu,G8,Cl,sk,AV.bool,AV.exact,qh]
theorem ajx (X Y:Option Ex→SL→St→Prop):Cl (.sc (.bool true)) X Y pe L st=X pe L st:=by simp [Cl,sk,AV.bool,AV.exact,qh]
theorem aiu (X Y:Option Ex→SL→St→Prop):Cl (.sc (.bool false)) X Y pe L st=Y pe L st:=by simp [Cl,sk,AV.bool,AV.exact,qh]
theorem yc (b:Bool) (X Y:Option Ex→SL→St→Prop):Cl (.sc (.bool b)) X Y pe L st=((b=true→X pe L st)∧(b=false→Y pe L st)):=by simp [Cl,sk,AV.bool,AV.exact,qh]
theorem Us (d:Option Tmp) (K:Option Ex→SL→St→Prop):Xg d K pe L st=K pe (iy d (.sc undef) L) st:=id rfl
theorem aox (o:Oper) (K:Option Ex→SL→St→Prop):opI P T l R ay o K pe L st=Wf P T R ay o K pe L st (yieldOf l o L):=id rfl
theorem aok (o:Oper) (K:Option Ex→SL→St→Prop):Wf P T R ay o K pe L st none=H6 (ft P T o (cf L) st) o.dst L (K pe):=id rfl
theorem acu (d:Option Tmp) (K:Option Ex→SL→St→Prop):abn d L K .normal st=K none (iy d (.sc (.bool true)) L) st:=id rfl
theorem agj (d:Option Tmp) (K:Option Ex→SL→St→Prop):abn d L K .ret st=K (some .ret) (iy d (.sc (.bool false)) L) st:=id rfl
theorem ajw (B:QL→SL→St→Prop) (X:Ex→St→Prop):au8 B X .normal L st=B (fun e _ st=>X e st) L st:=id rfl
theorem Zt (k:Nat) (va vb:Array Value):Bv l (.sc (.func (.yield k) va vb))=(Nat.beq k l && Nat.beq va.size 0 && Nat.beq vb.size 0):=id rfl
theorem Qk:zy [] [] L=L:=id rfl
theorem Mc (t:Nat) (ts:List Nat) (v:AV) (vs:List AV):zy (t::ts) (v::vs) L=zy ts vs ((t,v)::L):=id rfl
theorem atm {α:Type} {b:Code} (keep:List Nat) (V : α→List AV) (O : α→List (Option ba)) (I : α→Prop) (μ : α→Nat) (x : α) (hx:I x) (hR:∀ p args (X X':Ex→St→Prop) st,(∀ e st,X e st→X' e st)→R p args X st→R p args X' st)
 (hv:dn ay keep L st=V x) (ho:gu ay keep L st=O x)
 (step:∀ x,I x→qy P T l R ay b (Bb (r8 ay keep (fun vs os=>∃ y,I y ∧ μ y < μ x∧vs=V y∧os=O y) (fun _ _ _=>False)) Q) none (ja keep (V x)) (bb (O x))):qy P T l R ay (.loop b) Q none L st:=
 ⟨rfl,tz.of (B:=fun Q' L st=>qy P T l R ay b (Bb Q' Q) none L st) keep V O I μ x hx hv ho (fun Q1 Q2 h L st hh=>Sk hR b _ _ (fun e pe L st q=>by
  cases e with
  |normal=>exact ⟨q.1,h _ _ _ q.2⟩
  |ret=>exact q
  |exit i=>exact q) none L st hh) step⟩
theorem P0 {ps:List Tmp} {a b:Code} {L0:SL}:∀ p args (X X':Ex→St→Prop) st,(∀ e st,X e st→X' e st)→po ps (fun p=>wl P T p a) (fun p=>wl P T p b) L0 p args X st→po ps (fun p=>wl P T p a) (fun p=>wl P T p b) L0 p args X' st:=
 fun p args X X' st hX hr=>⟨hr.1,hr.2.1,Ij _ _ _ (fun e L st q=>by
  cases e with
  |normal=>exact Ij _ _ _ (fun e _ st q=>hX e st q) _ _ q
  |_=>exact q.elim) _ _ hr.2.2⟩
end ranges
section yields
variable {lp : Nat} {L : SL} {d : Option Tmp} {ty : TypeId} {pos : String} {af : Array Edge} {gd : Option (Nat × Bool)}
theorem Mu (x):yieldOf lp ⟨d,.move x,ty,pos,af,gd⟩ L=none:=id rfl
theorem I6 (x):yieldOf lp ⟨d,.assign x,ty,pos,af,gd⟩ L=none:=id rfl
theorem Ns (t a):yieldOf lp ⟨d,.load t a,ty,pos,af,gd⟩ L=none:=id rfl
theorem Dy (s x f):yieldOf lp ⟨d,.fieldAddr s x f,ty,pos,af,gd⟩ L=none:=id rfl
theorem K2 (op t x y u):yieldOf lp ⟨d,.binOp op t x y u,ty,pos,af,gd⟩ L=none:=id rfl
theorem Me (c a b):yieldOf lp ⟨d,.pick c a b,ty,pos,af,gd⟩ L=none:=id rfl
theorem Lf (t a x):yieldOf lp ⟨d,.store t a x,ty,pos,af,gd⟩ L=none:=id rfl
theorem Dx (t x i):yieldOf lp ⟨d,.indexAddr t x i,ty,pos,af,gd⟩ L=none:=id rfl
theorem K7 (t):yieldOf lp ⟨d,.alloc t,ty,pos,af,gd⟩ L=none:=id rfl
theorem Lt (op t x):yieldOf lp ⟨d,.unOp op t x,ty,pos,af,gd⟩ L=none:=id rfl
theorem Qb (x ts):yieldOf lp ⟨d,.call { callee:=.builtin .len,args:=#[x],argTypes:=ts },ty,pos,af,gd⟩ L=none:=id rfl
theorem Mh (f:Operand) (args:Array Operand) (ts:Array TypeId):yieldOf lp ⟨d,.call { callee:=.value f,args:=args,argTypes:=ts },ty,pos,af,gd⟩ L=bif Bv lp (cf L f) then some args else none:=id rfl
end yields
end
end Go.Vm
namespace Go.Vm
noncomputable section
section
variable (P : Program) (ρ : Operand → AV) (d : Option Tmp) (ty : TypeId) (pos : String) (af : Array Edge) (gd : Option (Nat × Bool)) (t u : TypeId) (x y : Operand)
theorem Np (op:BinOp) (k k':IntKind) (a b:Int) (hx : ρ x = .sc (.int k a)) (hy : ρ y = .sc (.int k' b)) :
 l8 P ρ ⟨d,.binOp op t x y u,ty,pos,af,gd⟩ op t (.sc (.int k a)) (.sc (.int k' b))=M.of ((ev P (binOp op t (.int k a) (.int k' b))).map .sc):=by
 have h1:∀ s:Sem Value,ev P (do pure (Next.value (← s)))=(ev P s).map Next.value:=by
  intro s
  induction s with
  |pure b=>rfl
  |program k ih=>exact ih P
  |choose q k ih=>
   simp only [bind,Sem.bind,ev]
   split
   ·exact ih 0
   ·rfl
  |mark m k ih=>exact ih
  |_=>rfl
 have h2:execOp (fun z=>((ρ z).gw).getD undef) ⟨d,.binOp op t x y u,ty,pos,af,gd⟩=(do pure (Next.value (← (do eqGuard op t x y (.int k a) (.int k' b);binOp op t (.int k a) (.int k' b))))):=by
  simp only [execOp,hx,hy,AV.gw,Option.getD_some]
 have h3:ev P (do eqGuard op t x y (.int k a) (.int k' b);binOp op t (.int k a) (.int k' b))=ev P (binOp op t (.int k a) (.int k' b)):=by
  cases op<;>rfl
 unfold l8 sq
 simp only [AV.gw,Option.isSome_some,Bool.and_self,cond_true]
 rw [h2,h1,h3]
 cases ev P (binOp op t (.int k a) (.int k' b))<;>rfl
theorem aq7 (k k':IntKind) (a b:Int) (h : 0≤b):ev P (binOp .shl t (.int k a) (.int k' b))=some (.int k (k.wrap (a * 2 ^ (min b.toNat k.bits)))):=by
 have:¬ b<0:=by omega
 simp [binOp,Op.shift,this,xu]
theorem an5 (k k':IntKind) (a b:Int) (h : 0≤b):ev P (binOp .shr t (.int k a) (.int k' b))=some (.int k (a.fdiv (2 ^ (min b.toNat k.bits)))):=by
 have:¬ b<0:=by omega
 simp [binOp,Op.shift,this,xu]
theorem anw (k:IntKind) (a b:Int) (h:b≠0):ev P (binOp .rem t (.int k a) (.int k b))=some (.int k (a.tmod b)):=by
 simp [binOp,Op.intDiv,xu,h]
theorem F2 {d:TypeDesc} (h:P.underlying t=some d):ev P (underlying t)=some d:=by
 rw [underlying]
 show ev P (match P.underlying t with|some d=>pure d|none=>_)=_
 rw [h];rfl
theorem Mj (op:BinOp) (a b:ByteArray) (hx : ρ x = .sc (.string a)) (hy : ρ y = .sc (.string b)) :
 l8 P ρ ⟨d,.binOp op t x y u,ty,pos,af,gd⟩ op t (.sc (.string a)) (.sc (.string b))=M.of ((ev P (binOp op t (.string a) (.string b))).map .sc):=by
 have h1:∀ s:Sem Value,ev P (do pure (Next.value (← s)))=(ev P s).map Next.value:=by
  intro s
  induction s with
  |pure b=>rfl
  |program k ih=>exact ih P
  |choose q k ih=>
   simp only [bind,Sem.bind,ev]
   split
   ·exact ih 0
   ·rfl
  |mark m k ih=>exact ih
  |_=>rfl
 have h2:execOp (fun z=>((ρ z).gw).getD undef) ⟨d,.binOp op t x y u,ty,pos,af,gd⟩=(do pure (Next.value (← (do eqGuard op t x y (.string a) (.string b);binOp op t (.string a) (.string b))))):=by
  simp only [execOp,hx,hy,AV.gw,Option.getD_some]
 have h3:ev P (do eqGuard op t x y (.string a) (.string b);binOp op t (.string a) (.string b))=ev P (binOp op t (.string a) (.string b)):=by
  cases op<;>rfl
 unfold l8 sq
 simp only [AV.gw,Option.isSome_some,Bool.and_self,cond_true]
 rw [h2,h1,h3]
 cases ev P (binOp op t (.string a) (.string b))<;>rfl
theorem str_eq (a b:ByteArray):(a.toList == b.toList)=decide (a=b):=by
 rw [ByteArray.toList_eq,ByteArray.toList_eq,Bool.eq_iff_iff]
 simp only [beq_iff_eq,decide_eq_true_eq]
 constructor
 ·intro h
  cases a;cases b
  congr 1
  exact Array.ext' h
 ·intro h;rw [h]
theorem T0 (a b:ByteArray):ev P (binOp .eql t (.string a) (.string b))=some (.bool (decide (a=b))):=by
 rw [← str_eq];rfl
theorem Ve (a b:ByteArray):ev P (binOp .neq t (.string a) (.string b))=some (.bool (!decide (a=b))):=by
 rw [← str_eq];rfl
end
def Oh (u:Option TypeDesc):Bool:=match u with|some (.slice _)=>true|_=>false
theorem aiq (e):Oh (some (.slice e))=true:=id rfl
theorem aij {u} (h:Oh u=true):∃ e,u=some (.slice e):=by
 unfold Oh at h;split at h
 ·exact ⟨_,rfl⟩
 ·cases h
theorem ajf {P:Program} {t op x y} (h:Oh (P.underlying t)=true):A4 P t op x y=Ei op x y:=by
 obtain ⟨e,he⟩:=aij h
 unfold A4;rw [he]
theorem Tv (P:Program) (ρ o op t l sz es b):l8 P ρ o op t (.vl l sz es) b=A4 P t op (.vl l sz es) b:=id rfl
theorem aj0 (b):og .eql b=M.pure (.sc (.bool b)):=id rfl
theorem akf (b):og .neq b=M.pure (.sc (.bool (!b))):=id rfl
theorem Jd (P:Program) (ρ:Operand→AV) (d ty pos af gd) (t u:TypeId) (x y:Operand) (op:BinOp) (a b:Option Addr) (n c m k:Nat) (hx : ρ x = .sc (.slice a n c)) (hy : ρ y = .sc (.slice b m k)) :
 l8 P ρ ⟨d,.binOp op t x y u,ty,pos,af,gd⟩ op t (.sc (.slice a n c)) (.sc (.slice b m k))=M.of ((ev P (binOp op t (.slice a n c) (.slice b m k))).map .sc):=by
 have h1:∀ s:Sem Value,ev P (do pure (Next.value (← s)))=(ev P s).map Next.value:=by
  intro s
  induction s with
  |pure b=>rfl
  |program k ih=>exact ih P
  |choose q k ih=>
   simp only [bind,Sem.bind,ev]
   split
   ·exact ih 0
   ·rfl
  |mark m k ih=>exact ih
  |_=>rfl
 have h2:execOp (fun z=>((ρ z).gw).getD undef) ⟨d,.binOp op t x y u,ty,pos,af,gd⟩=(do pure (Next.value (← (do eqGuard op t x y (.slice a n c) (.slice b m k);binOp op t (.slice a n c) (.slice b m k))))):=by
  simp only [execOp,hx,hy,AV.gw,Option.getD_some]
 have h3:ev P (do eqGuard op t x y (.slice a n c) (.slice b m k);binOp op t (.slice a n c) (.slice b m k))=ev P (binOp op t (.slice a n c) (.slice b m k)):=by
  cases op<;>rfl
 unfold l8 sq
 simp only [AV.gw,Option.isSome_some,Bool.and_self,cond_true]
 rw [h2,h1,h3]
 cases ev P (binOp op t (.slice a n c) (.slice b m k))<;>rfl
theorem aa2 {P:Program} {t:TypeId} {a:Option Addr} {n c m k:Nat} (d:Nat) (h:Oh (P.underlying t)=true):ev P (Op.equalIn (d+1) t (.slice a n c) (.slice none m k))=some a.isNone:=by
 obtain ⟨e,he⟩:=aij h
 simp only [Op.equalIn]
 rw [lr,F2 P t he]
 cases a<;>rfl
theorem L8 {P:Program} {t:TypeId} {a:Option Addr} {n c m k:Nat} (h:Oh (P.underlying t)=true):ev P (binOp .eql t (.slice a n c) (.slice none m k))=some (.bool a.isNone):=by
 show ev P (do pure (Value.bool (← Op.equalIn (9999+1) t (.slice a n c) (.slice none m k))))=_
 rw [lr,aa2 9999 h]
 rfl
end
end Go.Vm
namespace Go.Vm
noncomputable section
abbrev Name:=List ByteArray
structure bn where
 names:List Name
 nums:List UInt32
 texts:List ByteArray
 raw:List UInt8
def mkD (a:List Name) (b:List UInt32) (c:List ByteArray) (e:List UInt8):bn:=⟨a,b,c,e⟩
theorem ai5 (d:bn):mkD d.names d.nums d.texts d.raw=d:=id rfl
noncomputable def az:c9 Name:=cd ai
noncomputable def ak:c9 bn:=Dd (m9 (cd az) (m9 (cd db) (m9 az (cd bp)))) (fun d=>(d.names,d.nums,d.texts,d.raw)) (fun p=>⟨p.1,p.2.1,p.2.2.1,p.2.2.2⟩) (fun _=>rfl) (fun _=>rfl)
theorem dt (l:Bool) (n:Name):az.val l n = .vl l 1 (n.map (ai.val l)):=id rfl
theorem x5:az.sz=1:=id rfl
theorem Ue:ak.sz=4:=id rfl
theorem nc (l:Bool) (d:bn):ak.val l d = .agg [.vl l 1 (d.names.map (az.val l)),.vl l 1 (d.nums.map (db.val l)),.vl l 1 (d.texts.map (ai.val l)),.vl l 1 (d.raw.map (bp.val l))]:=id rfl
theorem Pt (fr:Bool) (h:Tr ba) (x1 x2 x3 x4:AV) :
 ak.jd fr h (.agg [x1,x2,x3,x4])=match jc az fr h x1,jc db fr h x2,jc ai fr h x3,jc bp fr h x4 with
  |some a,some b,some c,some e=>some (mkD a b c e)
  |_,_,_,_=>none:=by
 rw [B9 _ _ _ _ rfl rfl]
 have h1:ak.dec fr h (AV.agg [x1,x2,x3,x4]).cells=Option.map (fun p=>(⟨p.1,p.2.1,p.2.2.1,p.2.2.2⟩:bn)) ((m9 (cd az) (m9 (cd db) (m9 az (cd bp)))).dec fr h [x1,x2,x3,x4]):=rfl
 have d2:∀ {α β:Type} (A:c9 α) (B:c9 β) (l:List AV),(m9 A B).dec fr h l=match A.dec fr h (l.take A.sz),B.dec fr h (l.drop A.sz) with|some x,some y=>some (x,y)|_,_=>none:=fun _ _ _=>rfl
 have l1:∀ {α:Type} (C:c9 α) (x:AV),(cd C).dec fr h [x]=jc C fr h x:=fun _ _=>rfl
 have n1:∀ x,az.dec fr h [x]=jc ai fr h x:=fun _=>rfl
 rw [h1]
 simp only [d2,Eo,x5,List.take_succ_cons,List.take_zero,List.drop_succ_cons,List.drop_zero,l1,n1]
 cases jc az fr h x1<;>cases jc db fr h x2<;>cases jc ai fr h x3<;>cases jc bp fr h x4<;>rfl
theorem Nt {α:Type} (C:c9 α) (fr:Bool) (h:Tr ba) (l:Bool) (n:Nat) (es:List AV):(cd C).jd fr h (.vl l n es)=jc C fr h (.vl l n es):=Cc C fr h _ rfl rfl rfl
theorem Nd {α:Type} (C:c9 α) (fr:Bool) (h:Tr ba) (o off len n:Nat):(cd C).jd fr h (.sl o off len n)=jc C fr h (.sl o off len n):=Cc C fr h _ rfl rfl rfl
theorem Dn {α:Type} (C:c9 α) (fr:Bool) (h:Tr ba):(cd C).jd fr h (.sc (.slice none 0 0))=some []:=by
 rw [Cc C fr h _ rfl rfl rfl];rfl
theorem Gd (fr:Bool) (h:Tr ba) (l:Bool) (n:Nat) (es:List AV):az.jd fr h (.vl l n es)=jc ai fr h (.vl l n es):=Cc ai fr h _ rfl rfl rfl
theorem G5 (fr:Bool) (h:Tr ba) (o off len n:Nat):az.jd fr h (.sl o off len n)=jc ai fr h (.sl o off len n):=Cc ai fr h _ rfl rfl rfl
theorem Fh (fr:Bool) (h:Tr ba):az.jd fr h (.sc (.slice none 0 0))=some []:=Dn ai fr h
theorem E4 (l:List UInt8):l.map Bn=l.map (bp.val false):=id rfl
theorem N1 {α:Type} (C:c9 α) (b:Bool) (l:List α):AV.names.go (l.map (C.val b))=[]:=Hz (fun c hc=>by
 obtain ⟨x,_,rfl⟩:=List.mem_map.1 hc
 exact My C b x)
theorem y8:∀ (l:List UInt8) (b:Bool),bytesOf (l.map (bp.val b))=some l
 | [],_=>rfl
 |c::l,b=>by
  rw [List.map_cons,Ga,bytesOf,y8 l b]
  simp
end
end Go.Vm
section
namespace Go.Vm.Cx
open Go.Vm
noncomputable section
theorem C0 {P:Program} (w:World):∀ (ns:List Int) (a:Addr) (i:Nat) (acc:ByteArray),(∀ (j:Nat) x,ns[j]? = some x→(load (a.add (i+j))).run P w = .ok (.int .u8 x) w) →
 (Extern.Bytes.loadBytes (a.add i) ns.length acc).run P w = .ok ⟨acc.data++(ns.map fun n=>UInt8.ofNat n.toNat).toArray⟩ w
 | [],a,i,acc,_=>by simp [Extern.Bytes.loadBytes]
 |x::l,a,i,acc,h=>by
  have h0:=h 0 x rfl
  rw [Nat.add_zero] at h0
  have e:(a.add i).add 1=a.add (i+1):=by
   unfold Addr.add
   by_cases hj:i=0
   ·subst hj;simp
   ·simp [hj];omega
  have ih:=C0 (P:=P) w l a (i+1) (acc.push x.toNat.toUInt8) (fun j y hy=>by
   have:=h (j+1) y (by simpa using hy)
   rw [show i+1+j=i+(j+1) from by omega];exact this)
  simp only [List.length_cons,Extern.Bytes.loadBytes,Sem.run_bind,h0,Result.andThen]
  rw [e,ih]
  congr 1
  apply ByteArray.ext
  simp [ByteArray.push,Nat.toUInt8]
theorem W9 {l:List Int} {l':List Value} (h:l'=l.map (Value.int .u8)) (j:Nat) (x:Int) (hx:l[j]? = some x):l'[j]? = some (.int .u8 x):=by rw [h,List.getElem?_map,hx];rfl
theorem C3 {P:Program} {g st bd w} {a:AV} {v:Value} {l:List AV} {bs:List UInt8} (hok:Ok g st.h w) (hr:Rel g w a v) (h:cellsIn 1 a st=some (l,bd)) (hb:bytesOf l=some bs) :
 (Extern.Bytes.bytesOf v).run P w = .ok ⟨bs.toArray⟩ w:=by
 obtain ⟨_,_,n,news,hsrc,hrl⟩:=x6 (P:=P) hok hr h
 obtain ⟨ns,e1,e2⟩:=Ea _ _ _ hrl hb
 obtain ⟨r1,r2⟩:=hsrc.run w rfl
 cases v with
 |slice p len cap=>
  have hn:n=len:=by simp [Builtin.lenOf] at r1;exact r1.symm
  subst hn
  cases p with
  |none=>
   have:news=[]:=by simpa [Builtin.firstCells] using r2
   subst this
   have:ns=[]:=by simpa using e1.symm
   subst this
   subst e2
   rfl
  |some a=>
   simp only [Builtin.firstCells,Nat.mul_one] at r2
   unfold loadCells at r2
   obtain ⟨l',q1,q2,q3⟩:=loadCellsFrom_ok a n 0 #[] _ _ r2
   have hl':l'=news:=by simpa using q2.symm
   subst hl'
   have hlen:ns.length=n:=by rw [← q1,e1,List.length_map]
   have:=C0 (P:=P) w ns a 0 .empty (fun j x hx=>by
    exact q3 j _ (W9 e1 j x hx))
   rw [hlen] at this
   have e0:a.add 0=a:=by simp [Addr.add]
   rw [e0] at this
   show (Extern.Bytes.loadBytes a n .empty).run P w=_
   rw [this,e2]
   congr 2
   simp [ByteArray.empty,ByteArray.emptyWithCapacity]
   rfl
 |string s=>
  have hn:n=s.size:=by simp [Builtin.lenOf] at r1;exact r1.symm
  subst hn
  simp only [Builtin.firstCells,Sem.run_pure,Result.ok.injEq,and_true] at r2
  have h1:=congrArg Array.toList r2
  rw [e1] at h1
  show Result.ok s w=_
  congr 1
  apply ByteArray.ext
  apply Array.ext'
  rw [e2]
  have h2:=congrArg (List.map fun v:Value=>match v with|.int _ n=>UInt8.ofNat n.toNat|_=>0) h1
  simp only [List.map_map,Array.toList_map] at h2
  have h3:(s.extract 0 s.size).data.toList=s.data.toList:=by simp
  rw [h3] at h2
  have h4:(List.map ((fun v:Value=>match v with|.int _ n=>UInt8.ofNat n.toNat|_=>0) ∘ fun b:UInt8=>Value.int .u8 (b.toNat:Int)) s.data.toList)=s.data.toList:=by
   rw [show ((fun v:Value=>match v with|.int _ n=>UInt8.ofNat n.toNat|_=>0) ∘ fun b:UInt8=>Value.int .u8 (b.toNat:Int))=id from by funext b;simp]
   simp
  rw [h4] at h2
  rw [h2]
  simp
 |_=>simp [Builtin.lenOf,stuck] at r1
def xw (args:List AV):M AV:=
 match args with
 | [a]=>.pure a
 |_=>.fail
def j5 (args:List AV):M AV:=
 match args with
 | [a,b]=>(cellsIn 1 a).bind fun x=>(cellsIn 1 b).bind fun y=>
  match bytesOf x with
  |some x=>
   match bytesOf y with
   |some y=>.pure (.sc (goInt (Lib.compareBytes x y)))
   |none=>.fail
  |none=>.fail
 |_=>.fail
def eu {α:Type} (m:M α):Prop:=∀ st v bd,m st=some (v,bd)→bd.h=st.h∧bd.nx=st.nx
theorem eu.pure {α:Type} (a : α):eu (M.pure a):=fun st v bd h=>by cases h;exact ⟨rfl,rfl⟩
theorem eu.fail {α:Type}:eu (M.fail:M α):=fun st v bd h=>by cases h
theorem eu.bind {α β:Type} {m:M α} {f : α→M β} (hm:eu m) (h:∀ x,eu (f x)):eu (m.bind f):=fun st v bd hb=>by
 obtain ⟨x,s1,h1,h2⟩:=bind_some hb
 have h3:=hm _ _ _ h1
 have h4:=h x _ _ _ h2
 exact ⟨h4.1.trans h3.1,h4.2.trans h3.2⟩
theorem eu.cj (id:Nat):eu (Vm.cj id):=fun _st _v _st1 h=>(ib h).2
theorem eu.cond {α:Type} {b:Bool} {x y:M α} (hx:eu x) (hy:eu y):eu (bif b then x else y):=by cases b<;>assumption
theorem eu.cellsIn (sz:Nat) (v:AV):eu (Vm.cellsIn sz v):=by
 unfold Vm.cellsIn zj
 repeat' (first|exact eu.pure _|exact eu.fail|apply eu.cond|(refine eu.bind (eu.cj _) fun x=>?_)|split)
theorem Bm (args:List AV):eu (j5 args):=by
 unfold j5;split
 ·exact eu.bind (eu.cellsIn _ _) fun x=>eu.bind (eu.cellsIn _ _) fun y=>by
   split
   ·split
    ·exact eu.pure _
    ·exact eu.fail
   ·exact eu.fail
 ·exact eu.fail
theorem Xw {P:Program} {f:Nat} {fn:Func} (hf:P.funcs[f]? = some fn) (h1:(fn.name == "runtime.NumGoroutine")=false) (h2:fn.body.isNone=true) (h3:Extern.findNext fn=none) (h4:Extern.find fn=some Extern.AbiNoEscape.same) (args:List AV) :
 zg P f args (xw args):=by
 intro g st w vs r st' hok hfree hrel hm
 refine .inl ?_
 unfold xw at hm
 split at hm
 ·rename_i a
  cases hm
  obtain ⟨v,rfl,hv⟩:=B0 hrel
  refine ⟨v,w,g,?_,.refl _ _ _ _ _,hok,hv⟩
  rw [run_callFunc_extern hf h1 h2 h3 h4]
  rfl
 ·cases hm
theorem Bd {P:Program} {f:Nat} {fn:Func} (hf:P.funcs[f]? = some fn) (h1:(fn.name == "runtime.NumGoroutine")=false) (h2:fn.body.isNone=true) (h3:Extern.findNext fn=none) (h4:Extern.find fn=some Extern.BytealgCompare.compare) (args:List AV) :
 zg P f args (j5 args):=by
 intro g st w vs r st' hok hfree hrel hm
 refine .inl ?_
 have hst:=Bm _ _ _ _ hm
 unfold j5 at hm
 split at hm
 ·rename_i a c
  obtain ⟨x,s1,e1,hm⟩:=bind_some hm
  obtain ⟨y,s2,e2,hm⟩:=bind_some hm
  cases hx:bytesOf x with
  |none=>rw [hx] at hm;cases hm
  |some bx=>
  cases hy:bytesOf y with
  |none=>rw [hx,hy] at hm;cases hm
  |some yb=>
  rw [hx,hy] at hm
  cases hm
  have hh:=eu.cellsIn _ _ _ _ _ e1
  match vs,hrel with
  | [v,u],hrel=>
   have r1:=C3 (P:=P) hok hrel.head e1 hx
   have r2:=C3 (P:=P) (st:=s1) (by rw [hh.1];exact hok) hrel.tail.head e2 hy
   refine ⟨goInt (Lib.compareBytes bx yb),w,g,?_,?_,?_,.sc _⟩
   ·rw [run_callFunc_extern hf h1 h2 h3 h4]
    have:(Extern.BytealgCompare.compare #[v,u]).run P w = .ok (goInt (Lib.compareBytes bx yb)) w:=by
     change Sem.run P (do pure (goInt (Extern.BytealgCompare.cmp (← Extern.Bytes.bytesOf v) (← Extern.Bytes.bytesOf u)))) w=_
     simp only [Sem.run_bind,r1,r2,Result.andThen,Sem.run_pure]
     rw [Lib.cmp_eq]
    show ((Extern.BytealgCompare.compare #[v,u]).run P w).andThen _=_
    rw [this]
    rfl
   ·rw [hst.1,hst.2];exact .refl _ _ _ _ _
   ·rw [hst.1];exact hok
  | [],hrel=>have:=hrel.1;simp at this
  | [v],hrel=>have:=hrel.1;simp at this
  |_::_::_::_,hrel=>have:=hrel.1;simp at this
 ·cases hm
end
end Go.Vm.Cx
end
section
set_option linter.unnecessarySimpa false
namespace Go.Vm
noncomputable section
def roT (o:Option (Bool × (List AV→M AV))):Bool:=match o with|some (b,_)=>b|none=>false
theorem aue (b m):roT (some (b,m))=b:=id rfl
theorem fi {o:Oper} {L:SL} {x:Operand} (h:x ∈ o.op.operands):b9 o L x=cf L x:=by
 cases x with
 |tmp t=>
  show (bif o.op.operands.any (fun x=>match x with|.tmp u=>Nat.beq u t|_=>false) then lk L t else .bad)=lk L t
  have:o.op.operands.any (fun x=>match x with|.tmp u=>Nat.beq u t|_=>false)=true:=by
   rw [Array.any_eq_true']
   exact ⟨_,h,by simp⟩
  rw [this];rfl
 |const v=>rfl
 |global g=>rfl
 |func f=>rfl
theorem ik {o:Oper} {L:SL} {l:List Operand} (h:∀ x ∈ l,x ∈ o.op.operands):l.map (b9 o L)=l.map (cf L):=List.map_congr_left fun x hx=>fi (h x hx)
theorem Q9 {o:Oper} {L:SL} {l:List (Nat × Operand)} (h:∀ x ∈ l,x.2 ∈ o.op.operands):l.map (fun p=>(p.1,b9 o L p.2))=l.map (fun p=>(p.1,cf L p.2)):=List.map_congr_left fun x hx=>by rw [fi (h x hx)]
def fl (ro:Bool) (F:List Nat) (o:Oper) (recs:List Rec) (K:List Rec→SL→St→Prop) (L:SL) (st:St) (m:M AV):Prop:=Fx ro F o recs K L st (m { h:=ll st.h F,nx:=st.nx,rl:=[],wl:=[] })
theorem Z7 (ro F o recs K L st m):fl ro F o recs K L st m=Fx ro F o recs K L st (m { h:=ll st.h F,nx:=st.nx,rl:=[],wl:=[] }):=id rfl
section ops
variable (P : Program) (T : er) (L : SL) (st : St) (recs : List Rec) (K : List Rec → SL → St → Prop) (d : Option Tmp) (ty : TypeId) (pos : String) (af : Array Edge) (gd : Option (Nat × Bool))
theorem af4 (x):gv P T ⟨d,.move x,ty,pos,af,gd⟩ recs K L st=fl (true) ([]) ⟨d,.move x,ty,pos,af,gd⟩ recs K L st (mono (M.pure (cf L x))):=by
 unfold gv kp me fl
 simp only [ji,cond_true]
 have hm:∀ y,y ∈ ([x]:List Operand)→b9 ⟨d,.move x,ty,pos,af,gd⟩ L y=cf L y:=fun y hy=>fi (by simpa [Op.operands,Call.operands] using hy)
 have hmap:([x]:List Operand).map (b9 ⟨d,.move x,ty,pos,af,gd⟩ L)=([x]:List Operand).map (cf L):=ik (fun y hy=>by simpa [Op.operands,Call.operands] using hy)
 have ho:(⟨d,.move x,ty,pos,af,gd⟩:Oper).op.operands.toList=[x]:=by simp [Op.operands,Call.operands]
 rw [Jg,hm x (by simp)]
 rfl
theorem V3 (x):gv P T ⟨d,.assign x,ty,pos,af,gd⟩ recs K L st=fl (true) ([]) ⟨d,.assign x,ty,pos,af,gd⟩ recs K L st (mono (M.pure (cf L x))):=by
 unfold gv kp me fl
 simp only [ji,cond_true]
 have hm:∀ y,y ∈ ([x]:List Operand)→b9 ⟨d,.assign x,ty,pos,af,gd⟩ L y=cf L y:=fun y hy=>fi (by simpa [Op.operands,Call.operands] using hy)
 have hmap:([x]:List Operand).map (b9 ⟨d,.assign x,ty,pos,af,gd⟩ L)=([x]:List Operand).map (cf L):=ik (fun y hy=>by simpa [Op.operands,Call.operands] using hy)
 have ho:(⟨d,.assign x,ty,pos,af,gd⟩:Oper).op.operands.toList=[x]:=by simp [Op.operands,Call.operands]
 rw [Fa,hm x (by simp)]
 rfl
theorem adr (t a):gv P T ⟨d,.load t a,ty,pos,af,gd⟩ recs K L st=fl (true) ((cf L a).names) ⟨d,.load t a,ty,pos,af,gd⟩ recs K L st (mono (j6 P t (cf L a))):=by
 unfold gv kp me fl
 simp only [ji,cond_false]
 have hm:∀ y,y ∈ ([a]:List Operand)→b9 ⟨d,.load t a,ty,pos,af,gd⟩ L y=cf L y:=fun y hy=>fi (by simpa [Op.operands,Call.operands] using hy)
 have hmap:([a]:List Operand).map (b9 ⟨d,.load t a,ty,pos,af,gd⟩ L)=([a]:List Operand).map (cf L):=ik (fun y hy=>by simpa [Op.operands,Call.operands] using hy)
 have ho:(⟨d,.load t a,ty,pos,af,gd⟩:Oper).op.operands.toList=[a]:=by simp [Op.operands,Call.operands]
 rw [Jt,hm a (by simp)]
 rfl
theorem K4 (s x f):gv P T ⟨d,.fieldAddr s x f,ty,pos,af,gd⟩ recs K L st=fl (true) ([]) ⟨d,.fieldAddr s x f,ty,pos,af,gd⟩ recs K L st (mono (lz P s (cf L x) f)):=by
 unfold gv kp me fl
 simp only [ji,cond_true]
 have hm:∀ y,y ∈ ([x]:List Operand)→b9 ⟨d,.fieldAddr s x f,ty,pos,af,gd⟩ L y=cf L y:=fun y hy=>fi (by simpa [Op.operands,Call.operands] using hy)
 have hmap:([x]:List Operand).map (b9 ⟨d,.fieldAddr s x f,ty,pos,af,gd⟩ L)=([x]:List Operand).map (cf L):=ik (fun y hy=>by simpa [Op.operands,Call.operands] using hy)
 have ho:(⟨d,.fieldAddr s x f,ty,pos,af,gd⟩:Oper).op.operands.toList=[x]:=by simp [Op.operands,Call.operands]
 rw [Ai,hm x (by simp)]
 rfl
theorem Zk (op t x y u):gv P T ⟨d,.binOp op t x y u,ty,pos,af,gd⟩ recs K L st=fl (true) ([]) ⟨d,.binOp op t x y u,ty,pos,af,gd⟩ recs K L st (mono (zd P (b9 ⟨d,.binOp op t x y u,ty,pos,af,gd⟩ L) ⟨d,.binOp op t x y u,ty,pos,af,gd⟩ op t x y)):=by
 unfold gv kp me fl
 simp only [ji,cond_true]
 have hm:∀ y,y ∈ ([x,y]:List Operand)→b9 ⟨d,.binOp op t x y u,ty,pos,af,gd⟩ L y=cf L y:=fun y hy=>fi (by simpa [Op.operands,Call.operands] using hy)
 have hmap:([x,y]:List Operand).map (b9 ⟨d,.binOp op t x y u,ty,pos,af,gd⟩ L)=([x,y]:List Operand).map (cf L):=ik (fun y hy=>by simpa [Op.operands,Call.operands] using hy)
 have ho:(⟨d,.binOp op t x y u,ty,pos,af,gd⟩:Oper).op.operands.toList=[x,y]:=by simp [Op.operands,Call.operands]
 rfl
theorem adq (c a b):gv P T ⟨d,.pick c a b,ty,pos,af,gd⟩ recs K L st=fl (true) ([]) ⟨d,.pick c a b,ty,pos,af,gd⟩ recs K L st (mono (vu (cf L c) (cf L a) (cf L b))):=by
 unfold gv kp me fl
 simp only [ji,cond_true]
 have hm:∀ y,y ∈ ([c,a,b]:List Operand)→b9 ⟨d,.pick c a b,ty,pos,af,gd⟩ L y=cf L y:=fun y hy=>fi (by simpa [Op.operands,Call.operands] using hy)
 have hmap:([c,a,b]:List Operand).map (b9 ⟨d,.pick c a b,ty,pos,af,gd⟩ L)=([c,a,b]:List Operand).map (cf L):=ik (fun y hy=>by simpa [Op.operands,Call.operands] using hy)
 have ho:(⟨d,.pick c a b,ty,pos,af,gd⟩:Oper).op.operands.toList=[c,a,b]:=by simp [Op.operands,Call.operands]
 rw [J4,hm c (by simp),hm a (by simp),hm b (by simp)]
 rfl
theorem Xo (t a x):gv P T ⟨d,.store t a x,ty,pos,af,gd⟩ recs K L st=fl (false) ((cf L a).names) ⟨d,.store t a x,ty,pos,af,gd⟩ recs K L st (mono (qq P t (cf L a) (cf L x))):=by
 unfold gv kp me fl
 simp only [ji,cond_false]
 have hm:∀ y,y ∈ ([a,x]:List Operand)→b9 ⟨d,.store t a x,ty,pos,af,gd⟩ L y=cf L y:=fun y hy=>fi (by simpa [Op.operands,Call.operands] using hy)
 have hmap:([a,x]:List Operand).map (b9 ⟨d,.store t a x,ty,pos,af,gd⟩ L)=([a,x]:List Operand).map (cf L):=ik (fun y hy=>by simpa [Op.operands,Call.operands] using hy)
 have ho:(⟨d,.store t a x,ty,pos,af,gd⟩:Oper).op.operands.toList=[a,x]:=by simp [Op.operands,Call.operands]
 rw [Ht,hm a (by simp),hm x (by simp)]
 rfl
theorem La (t x i):gv P T ⟨d,.indexAddr t x i,ty,pos,af,gd⟩ recs K L st=fl (true) ([]) ⟨d,.indexAddr t x i,ty,pos,af,gd⟩ recs K L st (mono (l7 P t (cf L x) (cf L i))):=by
 unfold gv kp me fl
 simp only [ji,cond_true]
 have hm:∀ y,y ∈ ([x,i]:List Operand)→b9 ⟨d,.indexAddr t x i,ty,pos,af,gd⟩ L y=cf L y:=fun y hy=>fi (by simpa [Op.operands,Call.operands] using hy)
 have hmap:([x,i]:List Operand).map (b9 ⟨d,.indexAddr t x i,ty,pos,af,gd⟩ L)=([x,i]:List Operand).map (cf L):=ik (fun y hy=>by simpa [Op.operands,Call.operands] using hy)
 have ho:(⟨d,.indexAddr t x i,ty,pos,af,gd⟩:Oper).op.operands.toList=[x,i]:=by simp [Op.operands,Call.operands]
 rw [As,hm x (by simp),hm i (by simp)]
 rfl
theorem Nc (x):gv P T ⟨d,.nilCheck x,ty,pos,af,gd⟩ recs K L st=fl (true) ([]) ⟨d,.nilCheck x,ty,pos,af,gd⟩ recs K L st (mono (ku (cf L x))):=by
 unfold gv kp me fl
 simp only [ji,cond_true]
 have hm:∀ y,y ∈ ([x]:List Operand)→b9 ⟨d,.nilCheck x,ty,pos,af,gd⟩ L y=cf L y:=fun y hy=>fi (by simpa [Op.operands,Call.operands] using hy)
 have hmap:([x]:List Operand).map (b9 ⟨d,.nilCheck x,ty,pos,af,gd⟩ L)=([x]:List Operand).map (cf L):=ik (fun y hy=>by simpa [Op.operands,Call.operands] using hy)
 have ho:(⟨d,.nilCheck x,ty,pos,af,gd⟩:Oper).op.operands.toList=[x]:=by simp [Op.operands,Call.operands]
 rw [B6,hm x (by simp)]
 rfl
theorem Zs (t):gv P T ⟨d,.alloc t,ty,pos,af,gd⟩ recs K L st=fl (true) (reach st.h gk [] []) ⟨d,.alloc t,ty,pos,af,gd⟩ recs K L st (mono (sv P t)):=by
 unfold gv kp me fl
 simp only [ji,cond_false]
 have hm:∀ y,y ∈ ([]:List Operand)→b9 ⟨d,.alloc t,ty,pos,af,gd⟩ L y=cf L y:=fun y hy=>fi (by simpa [Op.operands,Call.operands] using hy)
 have hmap:([]:List Operand).map (b9 ⟨d,.alloc t,ty,pos,af,gd⟩ L)=([]:List Operand).map (cf L):=ik (fun y hy=>by simpa [Op.operands,Call.operands] using hy)
 have ho:(⟨d,.alloc t,ty,pos,af,gd⟩:Oper).op.operands.toList=[]:=by simp [Op.operands,Call.operands]
 rw [ho,hmap]
 rfl
theorem Yc (t ps):gv P T ⟨d,.build t ps,ty,pos,af,gd⟩ recs K L st=fl (true) (reach st.h gk (AV.names.go ((ps.toList.map (·.2)).map (cf L))) []) ⟨d,.build t ps,ty,pos,af,gd⟩ recs K L st (mono (sg P t (ps.toList.map fun p=>(p.1,cf L p.2)))):=by
 unfold gv kp me fl
 simp only [ji,cond_false]
 have hm:∀ y,y ∈ ((ps.toList.map (·.2)):List Operand)→b9 ⟨d,.build t ps,ty,pos,af,gd⟩ L y=cf L y:=fun y hy=>fi (by simpa [Op.operands,Call.operands] using hy)
 have hmap:((ps.toList.map (·.2)):List Operand).map (b9 ⟨d,.build t ps,ty,pos,af,gd⟩ L)=((ps.toList.map (·.2)):List Operand).map (cf L):=ik (fun y hy=>by simpa [Op.operands,Call.operands] using hy)
 have ho:(⟨d,.build t ps,ty,pos,af,gd⟩:Oper).op.operands.toList=(ps.toList.map (·.2)):=by simp [Op.operands,Call.operands]
 rw [ho,hmap]
 rw [Hp,Q9 (fun x hx=>by simp [Op.operands];exact ⟨_,by simpa using hx⟩)]
 rfl
theorem I4 (t n ps):gv P T ⟨d,.buildSlice t n ps,ty,pos,af,gd⟩ recs K L st=fl (true) (reach st.h gk (AV.names.go ((ps.toList.map (·.2)).map (cf L))) []) ⟨d,.buildSlice t n ps,ty,pos,af,gd⟩ recs K L st (mono (j4 P t n (ps.toList.map fun p=>(p.1,cf L p.2)))):=by
 unfold gv kp me fl
 simp only [ji,cond_false]
 have hm:∀ y,y ∈ ((ps.toList.map (·.2)):List Operand)→b9 ⟨d,.buildSlice t n ps,ty,pos,af,gd⟩ L y=cf L y:=fun y hy=>fi (by simpa [Op.operands,Call.operands] using hy)
 have hmap:((ps.toList.map (·.2)):List Operand).map (b9 ⟨d,.buildSlice t n ps,ty,pos,af,gd⟩ L)=((ps.toList.map (·.2)):List Operand).map (cf L):=ik (fun y hy=>by simpa [Op.operands,Call.operands] using hy)
 have ho:(⟨d,.buildSlice t n ps,ty,pos,af,gd⟩:Oper).op.operands.toList=(ps.toList.map (·.2)):=by simp [Op.operands,Call.operands]
 rw [ho,hmap]
 rw [zk,Q9 (fun x hx=>by simp [Op.operands];exact ⟨_,by simpa using hx⟩)]
 rfl
theorem Yu (t x l h m):gv P T ⟨d,.slice t x l h m,ty,pos,af,gd⟩ recs K L st=fl (true) (reach st.h gk (AV.names.go ((#[x]++l.toArray++h.toArray++m.toArray).toList.map (cf L))) []) ⟨d,.slice t x l h m,ty,pos,af,gd⟩ recs K L st (mono (s5 P (b9 ⟨d,.slice t x l h m,ty,pos,af,gd⟩ L) ⟨d,.slice t x l h m,ty,pos,af,gd⟩ t x l h m)):=by
 unfold gv kp me fl
 simp only [ji,cond_false]
 have hm:∀ y,y ∈ ((#[x]++l.toArray++h.toArray++m.toArray).toList:List Operand)→b9 ⟨d,.slice t x l h m,ty,pos,af,gd⟩ L y=cf L y:=fun y hy=>fi (by simpa [Op.operands,Call.operands] using hy)
 have hmap:((#[x]++l.toArray++h.toArray++m.toArray).toList:List Operand).map (b9 ⟨d,.slice t x l h m,ty,pos,af,gd⟩ L)=((#[x]++l.toArray++h.toArray++m.toArray).toList:List Operand).map (cf L):=ik (fun y hy=>by simpa [Op.operands,Call.operands] using hy)
 have ho:(⟨d,.slice t x l h m,ty,pos,af,gd⟩:Oper).op.operands.toList=(#[x]++l.toArray++h.toArray++m.toArray).toList:=by simp [Op.operands,Call.operands]
 rw [ho,hmap]
 rfl
theorem atl (op t x):gv P T ⟨d,.unOp op t x,ty,pos,af,gd⟩ recs K L st=fl (true) (reach st.h gk (AV.names.go ([x].map (cf L))) []) ⟨d,.unOp op t x,ty,pos,af,gd⟩ recs K L st (mono (i6 P (b9 ⟨d,.unOp op t x,ty,pos,af,gd⟩ L) ⟨d,.unOp op t x,ty,pos,af,gd⟩ [x])):=by
 unfold gv kp me fl
 simp only [ji,cond_false]
 have hm:∀ y,y ∈ ([x]:List Operand)→b9 ⟨d,.unOp op t x,ty,pos,af,gd⟩ L y=cf L y:=fun y hy=>fi (by simpa [Op.operands,Call.operands] using hy)
 have hmap:([x]:List Operand).map (b9 ⟨d,.unOp op t x,ty,pos,af,gd⟩ L)=([x]:List Operand).map (cf L):=ik (fun y hy=>by simpa [Op.operands,Call.operands] using hy)
 have ho:(⟨d,.unOp op t x,ty,pos,af,gd⟩:Oper).op.operands.toList=[x]:=by simp [Op.operands,Call.operands]
 rw [ho,hmap]
 rfl
theorem aiz (x ts):gv P T ⟨d,.call { callee:=.builtin .len,args:=#[x],argTypes:=ts },ty,pos,af,gd⟩ recs K L st=fl (true) ([]) ⟨d,.call { callee:=.builtin .len,args:=#[x],argTypes:=ts },ty,pos,af,gd⟩ recs K L st (mono (s7 ((ts[0]?).bind P.underlying) (cf L x))):=by
 unfold gv kp me fl
 simp only [ji,cond_true]
 have hm:∀ y,y ∈ ([x]:List Operand)→b9 ⟨d,.call { callee:=.builtin .len,args:=#[x],argTypes:=ts },ty,pos,af,gd⟩ L y=cf L y:=fun y hy=>fi (by simpa [Op.operands,Call.operands] using hy)
 have hmap:([x]:List Operand).map (b9 ⟨d,.call { callee:=.builtin .len,args:=#[x],argTypes:=ts },ty,pos,af,gd⟩ L)=([x]:List Operand).map (cf L):=ik (fun y hy=>by simpa [Op.operands,Call.operands] using hy)
 have ho:(⟨d,.call { callee:=.builtin .len,args:=#[x],argTypes:=ts },ty,pos,af,gd⟩:Oper).op.operands.toList=[x]:=by simp [Op.operands,Call.operands]
 rw [Nh,hm x (by simp)]
 rfl
theorem Uf (s x ts):gv P T ⟨d,.call { callee:=.builtin .append,args:=#[s,x],argTypes:=ts },ty,pos,af,gd⟩ recs K L st=fl (false) (reach st.h gk (AV.names.go ([s,x].map (cf L))) []) ⟨d,.call { callee:=.builtin .append,args:=#[s,x],argTypes:=ts },ty,pos,af,gd⟩ recs K L st (mono (ou P ts[0]? ((ts[1]?).bind P.underlying) (cf L s) (cf L x))):=by
 unfold gv kp me fl
 simp only [ji,cond_false]
 have hm:∀ y,y ∈ ([s,x]:List Operand)→b9 ⟨d,.call { callee:=.builtin .append,args:=#[s,x],argTypes:=ts },ty,pos,af,gd⟩ L y=cf L y:=fun y hy=>fi (by simpa [Op.operands,Call.operands] using hy)
 have hmap:([s,x]:List Operand).map (b9 ⟨d,.call { callee:=.builtin .append,args:=#[s,x],argTypes:=ts },ty,pos,af,gd⟩ L)=([s,x]:List Operand).map (cf L):=ik (fun y hy=>by simpa [Op.operands,Call.operands] using hy)
 have ho:(⟨d,.call { callee:=.builtin .append,args:=#[s,x],argTypes:=ts },ty,pos,af,gd⟩:Oper).op.operands.toList=[s,x]:=by simp [Op.operands,Call.operands]
 rw [ho,hmap]
 rw [Ez,hm s (by simp),hm x (by simp)]
 rfl
theorem afn (f args ts):gv P T ⟨d,.call { callee:=.value f,args,argTypes:=ts },ty,pos,af,gd⟩ recs K L st=fl (qj T (cf L) ⟨d,.call { callee:=.value f,args,argTypes:=ts },ty,pos,af,gd⟩) (reach st.h gk (AV.names.go ((f::args.toList).map (cf L))) []) ⟨d,.call { callee:=.value f,args,argTypes:=ts },ty,pos,af,gd⟩ recs K L st (u6 T (cf L f) (args.toList.map (cf L))):=by
 unfold gv kp me fl
 simp only [ji,cond_false]
 have h1:⟨d,.call { callee:=.value f,args,argTypes:=ts },ty,pos,af,gd⟩=(⟨d,.call { callee:=.value f,args,argTypes:=ts },ty,pos,af,gd⟩:Oper):=rfl
 have hf:b9 ⟨d,.call { callee:=.value f,args,argTypes:=ts },ty,pos,af,gd⟩ L f=cf L f:=fi (by simp [Op.operands,Call.operands])
 have ha:args.toList.map (b9 ⟨d,.call { callee:=.value f,args,argTypes:=ts },ty,pos,af,gd⟩ L)=args.toList.map (cf L):=ik (fun x hx=>by simp [Op.operands,Call.operands];exact .inr (by simpa using hx))
 have hr:qj T (b9 ⟨d,.call { callee:=.value f,args,argTypes:=ts },ty,pos,af,gd⟩ L) ⟨d,.call { callee:=.value f,args,argTypes:=ts },ty,pos,af,gd⟩=qj T (cf L) ⟨d,.call { callee:=.value f,args,argTypes:=ts },ty,pos,af,gd⟩:=by simp only [qj,hf]
 have ho:(⟨d,.call { callee:=.value f,args,argTypes:=ts },ty,pos,af,gd⟩:Oper).op.operands.toList.map (b9 ⟨d,.call { callee:=.value f,args,argTypes:=ts },ty,pos,af,gd⟩ L)=(f::args.toList).map (cf L):=by
  show ((#[f]++args).toList).map _=_
  simp only [Array.toList_append,List.map_append,ha,List.map_cons,hf]
  rfl
 rw [hr,ho]
 show Fx _ _ _ _ _ _ _ (u6 T (b9 _ L f) (args.toList.map (b9 _ L)) _)=_
 rw [hf,ha]
theorem w8 (f args ts g a b) (h:cf L f = .fn (.func g) a b):qj T (cf L) ⟨d,.call { callee:=.value f,args,argTypes:=ts },ty,pos,af,gd⟩=roT (T.find g):=by simp only [qj,h];rfl
theorem Qr (n args ts):qj T (cf L) ⟨d,.call { callee:=.value (.func n),args,argTypes:=ts },ty,pos,af,gd⟩=roT (T.find n):=by simp only [qj,cf];rfl
end ops
theorem Ys (P T ops K L st):Ej P T ops true K L st=(oc ops=true∧(Fw P T ops ops.toList K [] L st∨Mp P T ops ops.toList K [] L st)):=id rfl
theorem X6 (n):Hd n []=true:=id rfl
theorem U4 (n o r):Hd n (o::r)=(Nat.blt o n && Hd n r):=id rfl
theorem ad8 (h h'):same h h' []=True:=id rfl
theorem Zu (h h' o r):same h h' (o::r)=(h.get o=h'.get o∧same h h' r):=id rfl
theorem Ym (h):ll h [] = .nil:=id rfl
theorem Vo (h o r):ll h (o::r)=Tr.set depth (ll h r) o (h.get o):=id rfl
theorem Vk (h1 h):q8 h1 [] h=h:=id rfl
theorem Q0 (h1 o r h):q8 h1 (o::r) h=Tr.set depth (q8 h1 r h) o (h1.get o):=id rfl
theorem Y6 (t ts v vs):ja (t::ts) (v::vs)=(t,v)::ja ts vs:=id rfl
theorem aad (P T f ps A B p Q L0 st0):aqv P T f ps A B p Q L0 st0=(Nat.ble p 1000=true∧Lv P T ps A B p Q L0 st0 (yr (cf L0 f))):=id rfl
theorem agn (P T ps A B p Q L0 st0 g caps):Lv P T ps A B p Q L0 st0 (some (g,caps))=L5 P T ps A B p Q L0 st0 caps (wt P g):=id rfl
theorem ad1 (P T ps A B p Q L0 st0 caps nt code):L5 P T ps A B p Q L0 st0 caps (some (nt,code))=(Nat.ble (caps.length+1) nt=true∧∀ l:Nat,qy P T l (po ps A B L0) p code (ab2 Q L0) none (cg 0 (.sc (.func (.yield l) #[] #[])::caps)) st0):=id rfl
theorem Yl (g c):yr (.fn (.func g) [] c)=some (g,c):=id rfl
theorem Gg {P:Program} {T:er} {l:Nat} {ay:Nat} {L:SL} {st:St} {Q:QI} {ps:List Tmp} {ra rb:Code} {L0:SL} {α:Type} {b:Code} (keep:List Nat) (V : α→List AV) (O : α→List (Option ba)) (I : α→Prop) (μ : α→Nat) (x : α) (hx:I x)
 (hv:dn ay keep L st=V x) (ho:gu ay keep L st=O x)
 (step:∀ x,I x→qy P T l (po ps (fun p=>wl P T p ra) (fun p=>wl P T p rb) L0) ay b (Bb (r8 ay keep (fun vs os=>∃ y,I y ∧ μ y < μ x∧vs=V y∧os=O y) (fun _ _ _=>False)) Q) none (ja keep (V x)) (bb (O x))):qy P T l (po ps (fun p=>wl P T p ra) (fun p=>wl P T p rb) L0) ay (.loop b) Q none L st:=
 atm (keep:=keep) (V:=V) (O:=O) (I:=I) (μ:=μ) (x:=x) (hx:=hx) (hR:=P0 P T) (hv:=hv) (ho:=ho) (step:=step)
theorem z8 {P:Program} {T:er} {R:Ix} {ay:Nat} {L:SL} {st:St} {o:Oper} {K:Option Ex→SL→St→Prop} {args:Array Operand} (keep:List Nat) (h:A1 R (gu ay keep L st).length args o.dst K (ja keep (dn ay keep L st)) (bb (gu ay keep L st))):Wf P T R ay o K none L st (some args):=⟨rfl,keep,h⟩
theorem It (P:Program):∀ s:Sem Value,ev P (do pure (Next.value (← s)))=(ev P s).map Next.value:=by
 intro s
 induction s with
 |pure b=>rfl
 |program k ih=>exact ih P
 |choose q k ih=>
  simp only [bind,Sem.bind,ev]
  split
  ·exact ih 0
  ·rfl
 |mark m k ih=>exact ih
 |_=>rfl
def adg (m:M AV):M AV:=m
def afg (a:AV) (m:M AV):M AV:=
 match a.bool with
 |some b=>M.pure (.sc (.bool (!b)))
 |none=>m
theorem anr (b:Bool) (m:M AV):afg (.sc (.bool b)) m=M.pure (.sc (.bool (!b))):=id rfl
theorem avq {a:AV} {b:Bool} (h:a.bool=some b):a = .sc (.bool b):=by
 unfold AV.bool AV.exact qh at h
 cases a with
 |sc v=>cases v<;>simp at h;rw [h]
 |_=>cases h
theorem V5 (P:Program) (ρ:Operand→AV) (d ty pos af gd) (t:TypeId) (x:Operand):i6 P ρ ⟨d,.unOp .not t x,ty,pos,af,gd⟩ [x]=afg (ρ x) (adg (i6 P ρ ⟨d,.unOp .not t x,ty,pos,af,gd⟩ [x])):=by
 unfold afg
 split
 ·rename_i b hb
  have hx:=avq hb
  have h2:execOp (fun z=>((ρ z).gw).getD undef) ⟨d,.unOp .not t x,ty,pos,af,gd⟩=(do pure (Next.value (← Op.unary .not (.bool b)))):=by
   simp only [execOp,hx,AV.gw,Option.getD_some]
  unfold i6 ln sq
  simp only [List.all_cons,List.all_nil,hx,AV.gw,Option.isSome_some,Bool.and_true,cond_true]
  rw [h2,It]
  rfl
 ·rfl
theorem Yv (P:Program) (T:er) (ρ:Operand→AV) (d ty pos af gd) (t:TypeId) (x:Operand):ft P T ⟨d,.unOp .not t x,ty,pos,af,gd⟩ ρ=mono (afg (ρ x) (adg (i6 P ρ ⟨d,.unOp .not t x,ty,pos,af,gd⟩ [x]))):=by
 exact congrArg mono (V5 ..)
theorem aid (P:Program) (T:er) (L:SL) (st:St) (recs:List Rec) (K:List Rec→SL→St→Prop) (d ty pos af gd) (t x):gv P T ⟨d,.unOp .not t x,ty,pos,af,gd⟩ recs K L st=fl true (reach st.h gk (AV.names.go ([x].map (cf L))) []) ⟨d,.unOp .not t x,ty,pos,af,gd⟩ recs K L st (mono (afg (cf L x) (adg (i6 P (b9 ⟨d,.unOp .not t x,ty,pos,af,gd⟩ L) ⟨d,.unOp .not t x,ty,pos,af,gd⟩ [x])))):=by
 rw [atl]
 have h:=V5 P (b9 ⟨d,.unOp .not t x,ty,pos,af,gd⟩ L) d ty pos af gd t x
 rw [fi (by simp [Op.operands])] at h
 rw [← h]
theorem Rm (l:List UInt8):bytesOf (l.map Bn)=some l:=by rw [E4,y8]
theorem Qt (a b:ByteArray):Cx.j5 [.sc (.string a),.sc (.string b)]=M.pure (.sc (goInt (Lib.compareBytes a.data.toList b.data.toList))):=by
 unfold Cx.j5 cellsIn
 simp only [Nat.beq_refl,cond_true]
 unfold M.bind M.pure
 simp only [Rm]
 rfl
theorem Ot {α:Type} (C:c9 α) (f:Bool) (h:C.sz=1) (ha:C.agg=false) (l:List α):(l.map (C.val f)).flatMap AV.cells=l.map (C.val f):=by
 induction l with
 |nil=>rfl
 |cons x l ih=>
  simp only [List.map_cons,List.flatMap_cons,ih]
  obtain ⟨c,h1,h2,_⟩:=C.one ha f x
  have:C.val f x=c:=by simp [c9.val,ha,h1]
  rw [this,h2];rfl
theorem Q5 (f g:Bool) (a b:List UInt8):Cx.j5 [.vl f 1 (a.map (bp.val f)),.vl g 1 (b.map (bp.val g))]=M.pure (.sc (goInt (Lib.compareBytes a b))):=by
 unfold Cx.j5 cellsIn
 simp only [Nat.beq_refl,cond_true,Ot bp _ rfl rfl]
 unfold M.bind M.pure
 simp only [y8]
 rfl
theorem Qn {L:SL} {d ty pos af gd} {op t u x y}:b9 ⟨d,.binOp op t x y u,ty,pos,af,gd⟩ L x=cf L x:=fi (by simp [Op.operands])
theorem Qs {L:SL} {d ty pos af gd} {op t u x y}:b9 ⟨d,.binOp op t x y u,ty,pos,af,gd⟩ L y=cf L y:=fi (by simp [Op.operands])
theorem Uk {L:SL} {d ty pos af gd} {h l m t x}:b9 ⟨d,.slice t x l h m,ty,pos,af,gd⟩ L x=cf L x:=fi (by simp [Op.operands])
theorem Vp {L:SL} {d ty pos af gd} {h l m t x}:b9 ⟨d,.slice t x l (some h) m,ty,pos,af,gd⟩ L h=cf L h:=fi (by simp [Op.operands])
def z2 (P:Program) (ρ:Operand→AV) (o:Oper) (l:List Operand):M AV:=i6 P ρ o l
def adz (u:Option TypeDesc) (a ix:AV) (m:M AV):M AV:=
 match u with
 |some .string=>
  match a with
  |.sc (.string s)=>
   match ix with
   |.sc (.int _ n)=>
    match (bif decide (0≤n) then s.data.toList[n.toNat]? else none) with
    |some b=>M.pure (.sc (.int .u8 b.toNat))
    |none=>m
   |_=>m
  |_=>m
 |_=>m
theorem aco (s:ByteArray) (k:IntKind) (n:Int) (m:M AV):adz (some .string) (.sc (.string s)) (.sc (.int k n)) m=match (bif decide (0≤n) then s.data.toList[n.toNat]? else none) with|some b=>M.pure (.sc (.int .u8 b.toNat))|none=>m:=id rfl
theorem Md (P:Program) (ρ:Operand→AV) (d ty pos af gd) (t:TypeId) (x i:Operand):i6 P ρ ⟨d,.index t x i,ty,pos,af,gd⟩ [x,i]=adz (P.underlying t) (ρ x) (ρ i) (z2 P ρ ⟨d,.index t x i,ty,pos,af,gd⟩ [x,i]):=by
 unfold adz
 split
 ·rename_i hu
  split
  ·rename_i s hx
   split
   ·rename_i k n hi
    split
    ·rename_i b hb
     cases h0:decide (0≤n) with
     |false=>rw [h0] at hb;cases hb
     |true=>
     rw [h0,cond_true] at hb
     have h0 : 0≤n:=by simpa using h0
     have hb':s[n.toNat]? = some b:=by
      obtain ⟨h1,h2⟩:=List.getElem?_eq_some_iff.1 hb
      simp at h1
      rw [getElem?_pos s n.toNat (by simpa using h1)]
      rw [← h2];rfl
     have h2:execOp (fun z=>((ρ z).gw).getD undef) ⟨d,.index t x i,ty,pos,af,gd⟩=(do pure (Next.value (← Instr.index t (.string s) (.int k n)))):=by
      simp only [execOp,hx,hi,AV.gw,Option.getD_some]
     unfold i6 ln sq
     simp only [List.all_cons,List.all_nil,hx,hi,AV.gw,Option.isSome_some,Bool.and_true,cond_true]
     rw [h2,It]
     have h3:ev P (Instr.index t (.string s) (.int k n))=some (.int .u8 b.toNat):=by
      simp [Instr.index,asIntOf,underlying,program,ev,hu,h0,hb',bind,Sem.bind,pure]
     rw [h3]
     rfl
    ·rfl
   ·rfl
  ·rfl
 ·rfl
theorem Jq (a n:Nat):(a:Int).fdiv (n:Int)=((a / n:Nat):Int):=by
 rw [Int.fdiv_eq_ediv_of_nonneg _ (by omega)];rfl
theorem ax6 (a:Nat):(a:Int).fdiv 2=((a / 2:Nat):Int):=Jq a 2
theorem afk (a:Nat):(a:Int).fdiv 256=((a / 256:Nat):Int):=Jq a 256
theorem Vs (a:Nat):(a:Int).fdiv 65536=((a / 65536:Nat):Int):=Jq a 65536
theorem Kv (a:Nat):(a:Int).fdiv 16777216=((a / 16777216:Nat):Int):=Jq a 16777216
theorem ac6 (f:Nat) (m) (T:er):er.find ((f,m)::T) f=some m:=by simp [er.find]
theorem X4 (f g:Nat) (m) (T:er) (h:(f == g)=false):er.find ((f,m)::T) g=er.find T g:=by
 have e:f≠g:=by simpa using h
 simp [er.find,nr e]
end
end Go.Vm
end
namespace Go.Vm
noncomputable section
def Ap (P:Program) (t:TypeId):Option (Nat × Nat × Nat):=
 match qs P t with
 |some e=>
  match dc P e,lx P e,fq P e with
  |some sz,some bytes,some z=>bif Nat.blt 0 sz && Nat.blt 0 bytes && Nat.beq z.cells.size sz then some (e,sz,bytes) else none
  |_,_,_=>none
 |none=>none
def ags (q:Option (Nat × Nat × Nat)) (s x:AV):M AV:=
 match q with
 |some (e,sz,bytes)=>(cellsIn sz x).bind (py e sz bytes s)
 |none=>M.fail
theorem aqh (e sz bytes s x):ags (some (e,sz,bytes)) s x=(cellsIn sz x).bind (py e sz bytes s):=id rfl
theorem S9 (P:Program) (t e:TypeId) (s x:AV):ou P (some t) (some (.slice e)) s x=ags (Ap P t) s x:=by
 unfold ou ags Ap
 simp only [Option.bind_some]
 cases qs P t with
 |none=>rfl
 |some e=>
  simp only
  cases dc P e with
  |none=>rfl
  |some sz=>
   cases lx P e with
   |none=>rfl
   |some bytes=>
    cases fq P e with
    |none=>rfl
    |some z=>
     simp only
     cases (Nat.blt 0 sz && Nat.blt 0 bytes && Nat.beq z.cells.size sz)<;>rfl
theorem Te (P:Program) (t:TypeId) (s x:AV):ou P (some t) (some .string) s x=ags (Ap P t) s x:=by
 unfold ou ags Ap
 simp only [Option.bind_some]
 cases qs P t with
 |none=>rfl
 |some e=>
  simp only
  cases dc P e with
  |none=>rfl
  |some sz=>
   cases lx P e with
   |none=>rfl
   |some bytes=>
    cases fq P e with
    |none=>rfl
    |some z=>
     simp only
     cases (Nat.blt 0 sz && Nat.blt 0 bytes && Nat.beq z.cells.size sz)<;>rfl
theorem Rb (e sz bytes new):py e sz bytes (.sc (.slice none 0 0)) new=bif new.isEmpty then M.pure (.sc (.slice none 0 0)) else bif Nat.ble (new.length * bytes) 140737488355328 then mj e sz (new.length / sz) new else M.fail:=id rfl
theorem Ut (e sz bytes o off len sz' new):py e sz bytes (.sl o off len sz') new=bif Nat.beq sz sz' then (cj o).bind (zt e sz bytes o off len new) else M.fail:=id rfl
theorem Q7 (e sz bytes o off len new cells k st et):zt e sz bytes o off len new (.row cells k st et)=(bif Nat.beq et e && new.all AV.one && Nat.ble (off+len * sz) cells.length && Nat.ble ((len * sz+new.length) * bytes) 140737488355328 then
 bif Nat.ble k (off+len * sz) then
  (wm o).bind fun _=>(gi (.row ((cells.take (off+len * sz)).drop off++new) (k - off) (sr st) et)).bind fun id=>M.pure (.sl id 0 (len+new.length / sz) sz)
 else bif new.isEmpty then M.pure (.sl o off len sz)
 else M.fail
 else M.fail):=id rfl
theorem auk:sr 0=0:=id rfl
def cellsOf {α:Type} (C:c9 α) (f:Bool) (xs:List α):List AV:=xs.flatMap (C.cells f)
theorem Ps {α:Type} (C:c9 α) (f):cellsOf C f []=[]:=id rfl
theorem tn {α:Type} (C:c9 α) (f) (xs:List α):(cellsOf C f xs).length=xs.length * C.sz:=by
 induction xs with
 |nil=>simp [cellsOf]
 |cons x xs ih=>
  simp only [cellsOf] at ih
  simp [cellsOf,C.len,ih,Nat.succ_mul];omega
theorem yp {α:Type} (C:c9 α) (f) (xs ys:List α):cellsOf C f (xs++ys)=cellsOf C f xs++cellsOf C f ys:=by simp [cellsOf]
theorem y6 {α:Type} (C:c9 α) (f) (x : α):cellsOf C f [x]=C.cells f x:=by simp [cellsOf]
theorem y7 {α:Type} (C:c9 α) (f) (xs:List α):(cellsOf C f xs).all AV.one=true:=by
 rw [List.all_eq_true]
 intro c hc
 obtain ⟨x,_,hx⟩:=List.mem_flatMap.1 hc
 exact (C.pl f x c hx).one
theorem Kz {α:Type} (C:c9 α) (f) (xs:List α):AV.names.go (cellsOf C f xs)=[]:=Hz (fun c hc=>by
 obtain ⟨x,_,hx⟩:=List.mem_flatMap.1 hc
 exact (C.pl f x c hx).names)
theorem Hy {α:Type} (C:c9 α) (τ) (f) (xs:List α):(cellsOf C f xs).map (AV.cb τ)=cellsOf C f xs:=by
 rw [← jr]
 exact Rq (fun c hc=>by
  obtain ⟨x,_,hx⟩:=List.mem_flatMap.1 hc
  exact (C.pl f x c hx).cb τ)
theorem vt {α:Type} (C:c9 α) (τ) (f) (xs:List α):AV.cb.go τ (cellsOf C f xs)=cellsOf C f xs:=by rw [jr,Hy]
theorem N6 {α:Type} (C:c9 α) (f) (xs:List α) (i:Nat):(cellsOf C f xs).drop (i * C.sz)=cellsOf C f (xs.drop i):=by
 induction xs generalizing i with
 |nil=>simp [cellsOf]
 |cons x xs ih=>
  cases i with
  |zero=>simp
  |succ i=>
   have:(i+1) * C.sz=C.sz+i * C.sz:=by rw [Nat.succ_mul];omega
   rw [this,← List.drop_drop]
   have h1:(cellsOf C f (x::xs)).drop C.sz=cellsOf C f xs:=by
    have h2:cellsOf C f (x::xs)=C.cells f x++cellsOf C f xs:=by simp [cellsOf]
    rw [h2,← C.len f x,List.drop_left]
   rw [h1,ih,List.drop_succ_cons]
theorem ab8 {α:Type} (C:c9 α) (f) (xs:List α) (i:Nat):(cellsOf C f xs).take (i * C.sz)=cellsOf C f (xs.take i):=by
 induction xs generalizing i with
 |nil=>simp [cellsOf]
 |cons x xs ih=>
  cases i with
  |zero=>simp [cellsOf]
  |succ i=>
   have h2:cellsOf C f (x::xs)=C.cells f x++cellsOf C f xs:=by simp [cellsOf]
   have:(i+1) * C.sz=(C.cells f x).length+i * C.sz:=by rw [Nat.succ_mul,C.len];omega
   rw [h2,this,List.take_length_add_append,ih,List.take_succ_cons]
   simp [cellsOf]
theorem Ni {α:Type} (C:c9 α) (f) (x : α) (xs:List α):cellsOf C f (x::xs)=C.cells f x++cellsOf C f xs:=by simp [cellsOf]
theorem I0 {α:Type} {xs:List α} {i:Nat} {x : α} (h:xs[i]? = some x):xs.drop i=x::xs.drop (i+1):=by
 obtain ⟨h1,h2⟩:=List.getElem?_eq_some_iff.1 h
 rw [← h2];exact List.drop_eq_getElem_cons h1
theorem Fz {α:Type} (C:c9 α) (f) (xs:List α):(xs.map (C.val f)).flatMap AV.cells=cellsOf C f xs:=by
 rw [List.flatMap_map];congr 1;funext x;exact C.Gm f x
theorem nh {α:Type} (C:c9 α) (fr:Bool) (h:Tr ba) (f:Bool) (xs:List α) (k st et) (n:Nat) (hn:n=xs.length) (hf:(f || !fr)=true):mf C fr h 0 n (.row (cellsOf C f xs) k st et)=some xs:=by
 subst hn
 simp only [mf,Nat.zero_add,tn,Nat.ble_self_eq_true,cond_true,List.drop_zero]
 have:(cellsOf C f xs).take (xs.length * C.sz)=cellsOf C f xs:=List.take_of_length_le (by rw [tn];exact Nat.le_refl _)
 rw [this]
 exact Zr C fr h f (fun e=>by subst e;simpa using hf) xs
theorem Ul {α:Type} (C:c9 α) (fr h cells k st et):mf C fr h 0 0 (.row cells k st et)=some []:=by
 have h:Nat.ble 0 cells.length=true:=Nat.ble_eq_true_of_le (Nat.zero_le _)
 simp [mf,Bh,h]
def si {α:Type} (C:c9 α) (fr:Bool) (h:Tr ba):List AV→Option (List α)
 | []=>some []
 |a::l=>match C.dec fr h [a],si C fr h l with
  |some x,some xs=>some (x::xs)
  |_,_=>none
def ayu {α:Type} (a b:Option (List α)):Option (List α):=match a,b with|some x,some y=>some (x++y)|_,_=>none
def au5 {α:Type} (a:Option α) (b:Option (List α)):Option (List α):=match a,b with|some x,some y=>some (x::y)|_,_=>none
theorem ap9 {α:Type} (a b:List α):ayu (some a) (some b)=some (a++b):=id rfl
theorem ajp {α:Type} (a : α) (b:List α):au5 (some a) (some b)=some (a::b):=id rfl
theorem Rj {α:Type} (C:c9 α) (fr h):si C fr h []=some []:=id rfl
theorem Ge {α:Type} (C:c9 α) (fr h a l):si C fr h (a::l)=au5 (C.dec fr h [a]) (si C fr h l):=id rfl
theorem Rl {α:Type} (C:c9 α) (fr h):∀ a b,si C fr h (a++b)=ayu (si C fr h a) (si C fr h b)
 | [],b=>by
  simp only [List.nil_append,Rj]
  cases si C fr h b<;>rfl
 |x::a,b=>by
  simp only [List.cons_append,Ge,Rl C fr h a b]
  cases C.dec fr h [x]<;>cases si C fr h a<;>cases si C fr h b<;>rfl
theorem ada {α:Type} (C:c9 α) (hz:C.sz=1) (fr h):∀ cells:List AV,Bh C fr h cells.length cells=si C fr h cells
 | []=>rfl
 |a::l=>by
  have h1:(a::l).take C.sz=[a]:=by rw [hz];rfl
  have h2:(a::l).drop C.sz=l:=by rw [hz];rfl
  simp only [List.length_cons,Bh,h1,h2,ada C hz fr h l]
  rfl
theorem xn {α:Type} (C:c9 α) (hz:C.sz=1) (fr h n cells k st et) (hn:n=cells.length):mf C fr h 0 n (.row cells k st et)=si C fr h cells:=by
 subst hn
 simp only [mf,hz,Nat.mul_one,Nat.zero_add,Nat.ble_self_eq_true,cond_true,List.drop_zero,List.take_length]
 exact ada C hz fr h cells
theorem F4 {α:Type} (C:c9 α) (hz:C.sz=1) (ha:C.agg=false) (fr h f) (hf:fr=true→f=true):∀ l:List α,si C fr h (l.map (C.val f))=some l
 | []=>rfl
 |x::l=>by
  obtain ⟨c,h1,_⟩:=C.one ha f x
  have hv:C.val f x=c:=by simp [c9.val,ha,h1]
  have hd:=C.rt fr h f x hf
  rw [h1] at hd
  rw [List.map_cons,Ge,F4 C hz ha fr h f hf l,hv,hd];rfl
theorem afj {α β:Type} (f : α → β) (l:List α) (n:Nat):(l.map f).take n=(l.take n).map f:=List.map_take.symm
theorem ad2 {α β:Type} (f : α → β) (l:List α) (n:Nat):(l.map f).drop n=(l.drop n).map f:=List.map_drop.symm
theorem Ey {α β:Type} (f : α → β) (l:List α):(l.map f).isEmpty=l.isEmpty:=by cases l<;>rfl
theorem Ha {α:Type} (l:List α) (x : α):(l++[x]).isEmpty=false:=by cases l<;>rfl
theorem I3 (a b:List AV):AV.names.go (a++b)=AV.names.go a++AV.names.go b:=by
 induction a with
 |nil=>rfl
 |cons x a ih=>simp only [List.cons_append,AV.names.go,ih,List.append_assoc]
theorem rtT {α:Type} (C:c9 α) (h:Tr ba) (x : α):C.jd true h (C.val true x)=some x:=C.Ku true h true x (fun _=>rfl)
theorem rtF {α:Type} (C:c9 α) (h:Tr ba) (l:Bool) (x : α):C.jd false h (C.val l x)=some x:=C.Ku false h l x (fun e=>by cases e)
theorem abh (s:ByteArray):s.data.toList.length=s.size:=by simp
theorem ajg {α:Type} {l:List α} {n:Nat} (h:l.length≤n):l.take n=l:=List.take_of_length_le h
theorem aAp {α:Type} (C:c9 α) (fr:Bool) (h:Tr ba) (x : α):C.jd fr h (C.val fr x)=some x:=C.Ku fr h fr x (fun e=>e)
theorem bh {a b:Nat} (h:a≤b):decide (a≤b)=true:=by simpa using h
theorem bf {a b:Nat} (h:a<b):decide (a<b)=true:=by simpa using h
theorem bg {a b:Int} (h:a≤b):decide (a≤b)=true:=by simpa using h
theorem be {a b:Int} (h:a<b):decide (a<b)=true:=by simpa using h
theorem ah (x:Int) (h0 : -9223372036854775808≤x) (h1:x<9223372036854775808):IntKind.i64.wrap x=x:=by
 simp [IntKind.wrap,IntKind.bits,IntKind.signed];omega
theorem apx (n:Nat):IntKind.u8.wrap (n:Int)=((UInt8.ofNat n).toNat:Int):=by simp [IntKind.wrap,IntKind.bits,IntKind.signed]
theorem bj {p:Prop} [Decidable p] {X Y:SL→St→Prop} {L st}:wy (.sc (.bool (decide p))) X Y L st=((p→X L st)∧(¬ p→Y L st)):=by
 by_cases h:p<;>simp [h,If,Is]
theorem eb {a b:Int} {X Y:SL→St→Prop} {L st}:wy (.sc (.bool (a == b))) X Y L st=(((a == b)=true∧a=b→X L st)∧((a == b)=false∧a≠b→Y L st)):=by
 by_cases h:a=b
 ·subst h;simp [If]
 ·have:(a == b)=false:=by simpa using h
  simp [h,this,Is]
theorem ed {a b:Int} {X Y:SL→St→Prop} {L st}:wy (.sc (.bool (a != b))) X Y L st=(((a != b)=true∧a≠b→X L st)∧((a != b)=false∧a=b→Y L st)):=by
 by_cases h:a=b
 ·subst h;simp [Is]
 ·have:(a != b)=true:=by simpa using h
  simp [h,this,If]
theorem Zd (P:Program) (T:er) (ρ:Operand→AV) (d ty pos af gd) (x ts):ft P T ⟨d,.call { callee:=.builtin .cap,args:=#[x],argTypes:=ts },ty,pos,af,gd⟩ ρ=mono (Cm ((ts[0]?).bind P.underlying) (ρ x)):=id rfl
theorem Yt (e a n c):Cm (some (.slice e)) (.sc (.slice a n c))=M.pure (.sc (goInt c)):=id rfl
def as5 (P:Program) (q:Option (Nat × Nat × Nat)) (s x:AV):M AV:=
 match q with
 |some (e,sz,bytes)=>
  match Et P e sz x with
  |some new=>py e sz bytes s new
  |none=>M.fail
 |none=>M.fail
theorem apq (P:Program) (e sz bytes s x):as5 P (some (e,sz,bytes)) s x=match Et P e sz x with|some new=>py e sz bytes s new|none=>M.fail:=id rfl
theorem V6 (P:Program) (t:TypeId) (k:IntKind) (s x:AV):ou P (some t) (some (.int k)) s x=as5 P (Ap P t) s x:=by
 unfold ou as5 Ap
 simp only [Option.bind_some]
 cases qs P t with
 |none=>rfl
 |some e=>
  simp only
  cases dc P e with
  |none=>rfl
  |some sz=>
   cases lx P e with
   |none=>rfl
   |some bytes=>
    cases fq P e with
    |none=>rfl
    |some z=>
     simp only
     cases (Nat.blt 0 sz && Nat.blt 0 bytes && Nat.beq z.cells.size sz)<;>rfl
def agk (z:Option Value) (sz:Nat) (n:Int):Option (List AV):=
 match z with
 |some z=>bif decide (0≤n) && decide (n≤1073741824) && Nat.beq z.cells.size sz then some ((List.replicate n.toNat (z.cells.toList.map AV.sc)).flatten) else none
 |none=>none
theorem ad7 (z sz n):agk (some z) sz n=bif decide (0≤n) && decide (n≤1073741824) && Nat.beq z.cells.size sz then some ((List.replicate n.toNat (z.cells.toList.map AV.sc)).flatten) else none:=id rfl
theorem Ya (P:Program) (e sz:Nat) (k:IntKind) (n:Int):Et P e sz (.sc (.int k n))=agk (fq P e) sz n:=by
 simp only [Et,agk,yi,AV.int,AV.exact,Option.bind_some,intOf,Option.map_some]
 cases fq P e<;>rfl
theorem ais {α:Type} (n:Nat) (x : α):(List.replicate n [x]).flatten=List.replicate n x:=by
 induction n with
 |zero=>rfl
 |succ n ih=>simp [List.replicate_succ,ih]
theorem Qj {α:Type} {n:Nat} {x : α} (h : 0<n):(List.replicate n x).isEmpty=false:=by
 cases n with
 |zero=>omega
 |succ n=>rfl
theorem nc0:((0:Nat):Int)=0:=id rfl
theorem nc1:((1:Nat):Int)=1:=id rfl
theorem aoi (n:Nat):List.replicate n (AV.sc (.int .u8 0))=(List.replicate n (0:UInt8)).map (bp.val false):=by rw [List.map_replicate];rfl
def alh (P:Program) (u:Option TypeDesc) (x hi:AV) (m:M AV):M AV:=
 match u with
 |some (.slice e)=>
  match dc P e with
  |some _=>
   match x with
   |.sc (.slice none 0 0)=>
    match hi with
    |.sc (.int .i64 0)=>M.pure (.sc (.slice none 0 0))
    |_=>m
   |_=>m
  |none=>m
 |_=>m
theorem art (P:Program) (e m) (h:(dc P e).isSome=true):alh P (some (.slice e)) (.sc (.slice none 0 0)) (.sc (.int .i64 0)) m=M.pure (.sc (.slice none 0 0)):=by
 obtain ⟨n,hn⟩:=Option.isSome_iff_exists.1 h
 simp only [alh,hn]
theorem Hb (P:Program) (ρ:Operand→AV) (d ty pos af gd) (t:TypeId) (x h:Operand):i6 P ρ ⟨d,.slice t x none (some h) none,ty,pos,af,gd⟩ (.slice t x none (some h) none:Op).operands.toList=alh P (P.underlying t) (ρ x) (ρ h) (z2 P ρ ⟨d,.slice t x none (some h) none,ty,pos,af,gd⟩ (.slice t x none (some h) none:Op).operands.toList):=by
 unfold alh
 split
 ·rename_i e hu
  split
  ·rename_i n hn
   split
   ·rename_i hx
    split
    ·rename_i hh
     have h2:execOp (fun z=>((ρ z).gw).getD undef) ⟨d,.slice t x none (some h) none,ty,pos,af,gd⟩=(do pure (Next.value (← Instr.sliceAt t (.slice none 0 0) none (some (.int .i64 0)) none))):=by
      simp only [execOp,hx,hh,AV.gw,Option.getD_some,Option.map_some,Option.map_none]
     have hi:∃ i,P.info? e=some i:=by
      unfold dc at hn
      cases hq:P.info? e with
      |none=>rw [hq] at hn;cases hn
      |some i=>exact ⟨i,rfl⟩
     obtain ⟨i,hi⟩:=hi
     have h3:ev P (Instr.sliceAt t (.slice none 0 0) none (some (.int .i64 0)) none)=some (.slice none 0 0):=by
      simp [Instr.sliceAt,Instr.slice,Instr.sliceBounds,Instr.sliceBound,asIntOf,underlying,program,ev,hu,sizeOf,typeInfo,hi,bind,Sem.bind,pure]
     unfold i6 ln sq
     simp only [Op.operands]
     simp [hx,hh,AV.gw]
     rw [h2,It,h3]
     rfl
    ·rfl
   ·rfl
  ·rfl
 ·rfl
def atq {α:Type} (o sz:Nat) (l:List α):AV:=bif l.isEmpty then .sc (.slice none 0 0) else .sl o 0 l.length sz
def akk (cells:List AV) (k st:Nat) (et:TypeId):List (Option ba):=bif cells.isEmpty then [] else [some (.row cells k st et)]
theorem an4 {α:Type} {o sz} {l:List α} (h:l.isEmpty=false):atq o sz l = .sl o 0 l.length sz:=by simp [atq,h]
theorem Y9 {α:Type} (o sz) (l:List α) (c : α):atq o sz (l++[c]) = .sl o 0 (l.length+1) sz:=by rw [an4 (Ha l c)];simp
theorem aor {cells:List AV} {k st et} (h:cells.isEmpty=false):akk cells k st et=[some (.row cells k st et)]:=by simp [akk,h]
theorem asf {α:Type} {f : α→AV} {l:List α} {k st et} (h:l.isEmpty=false):akk (l.map f) k st et=[some (.row (l.map f) k st et)]:=aor (by rw [Ey,h])
theorem Xm {α:Type} (f : α→AV) (l:List α) (c : α) (k st et):akk ((l++[c]).map f) k st et=[some (.row (l.map f++[f c]) k st et)]:=by rw [asf (Ha l c)];simp
theorem gm {α:Type} {l:List α} {i:Nat} (h:decide ((i:Int)<(l.length:Int))=true):∃ c,l[i]? = some c∧l.drop i=c::l.drop (i+1)∧i<l.length:=by
 have h1:i<l.length:=by simp at h;omega
 exact ⟨l[i],List.getElem?_eq_getElem h1,List.drop_eq_getElem_cons h1,h1⟩
theorem jh {α:Type} {l:List α} {i:Nat} (h:decide ((i:Int)<(l.length:Int))=false):l.drop i=[]:=by
 have h1:¬ i<l.length:=by simp at h;omega
 exact List.drop_eq_nil_of_le (by omega)
def Cg (D:List Nat):Nat→List (Option ba)→List (Option ba)
 |_,[]=>[]
 |i,x::r=>(bif zn i D then x else none)::Cg D (i+1) r
def Ec (D:List Nat):Nat→List (Option ba)→List (Option ba)
 |_,[]=>[]
 |i,x::r=>(bif zn i D then none else x)::Ec D (i+1) r
theorem Yk (D):∀ (i:Nat) (os:List (Option ba)),(Cg D i os).length=os.length
 |_,[]=>rfl
 |i,x::r=>by simp [Cg,Yk D (i+1) r]
theorem N3 (D):∀ (i:Nat) (os:List (Option ba)),(Ec D i os).length=os.length
 |_,[]=>rfl
 |i,x::r=>by simp [Ec,N3 D (i+1) r]
theorem Zb (D):∀ (os:List (Option ba)) (i j:Nat),((Cg D i os)[j]?).join=if (i+j) ∈ D then (os[j]?).join else none
 | [],i,j=>by simp [Cg]
 |x::r,i,0=>by
  simp only [Cg,List.getElem?_cons_zero,Option.join_some,Nat.add_zero]
  cases hb:zn i D with
  |true=>rw [if_pos ((vh i D).1 hb)];rfl
  |false=>rw [if_neg (fun h=>by rw [(vh i D).2 h] at hb;cases hb)];rfl
 |x::r,i,j+1=>by
  simp only [Cg,List.getElem?_cons_succ]
  rw [Zb D r (i+1) j,show i+1+j=i+(j+1) from by omega]
theorem Yq (D):∀ (os:List (Option ba)) (i j:Nat),((Ec D i os)[j]?).join=if (i+j) ∈ D then none else (os[j]?).join
 | [],i,j=>by simp [Ec]
 |x::r,i,0=>by
  simp only [Ec,List.getElem?_cons_zero,Option.join_some,Nat.add_zero]
  cases hb:zn i D with
  |true=>rw [if_pos ((vh i D).1 hb)];rfl
  |false=>rw [if_neg (fun h=>by rw [(vh i D).2 h] at hb;cases hb)];rfl
 |x::r,i,j+1=>by
  simp only [Ec,List.getElem?_cons_succ]
  rw [Yq D r (i+1) j,show i+1+j=i+(j+1) from by omega]
theorem Xi (os:List (Option ba)) (h:os.length≤br) (o:Nat):(bb os).h.get o=(os[o]?).join:=by
 simp only [bb]
 rw [u2 _ _ _ (by omega),if_pos (Nat.zero_le _),Nat.sub_zero]
inductive ke (h:Tr ba):AV→AV→Prop
 |same (a:AV):ke h a a
 |data {α:Type} (C:c9 α) (fr:Bool) (x : α) (a:AV) (hd:C.jd fr h a=some x):ke h a (C.val fr x)
 |bad (a:AV):ke h a .bad
 |nil (o off sz:Nat):ke h (.sc (.slice none 0 0)) (.sl o off 0 sz)
 |yk (loc:Bool) (sz:Nat):ke h (.sc (.slice none 0 0)) (.vl loc sz [])
inductive j0 (h:Tr ba):List AV→List AV→Prop
 |nil:j0 h [] []
 |cons {a b:AV} {l m:List AV} (h1:ke h a b) (h2:j0 h l m):j0 h (a::l) (b::m)
theorem j0.len {h l m} (hl:j0 h l m):m.length=l.length:=by
 induction hl with
 |nil=>rfl
 |cons _ _ ih=>simp [ih]
theorem j0.get {h l m} (hl:j0 h l m):∀ (i:Nat) b,m[i]? = some b→∃ a,l[i]? = some a∧ke h a b:=by
 induction hl with
 |nil=>intro i b hb;simp at hb
 |cons h1 h2 ih=>
  intro i b hb
  cases i with
  |zero=>simp at hb;subst hb;exact ⟨_,rfl,h1⟩
  |succ i=>exact ih i b (by simpa using hb)
inductive dp (h:Tr ba):List (Option ba)→List (Option ba)→Prop
 |nil:dp h [] []
 |ghost {st et m} (h2:dp h [] m):dp h [] (some (.row [] 0 st et)::m)
 |same {x l m} (h2:dp h l m):dp h (x::l) (x::m)
 |gone {x l m} (h2:dp h l m):dp h (x::l) (none::m)
 |row {cells cells' k st et l m} (h1:j0 h cells cells') (h2:dp h l m):dp h (some (.row cells k st et)::l) (some (.row cells' k st et)::m)
theorem dp.refl (h):∀ l,dp h l l
 | []=>.nil
 |x::l=>.same (dp.refl h l)
theorem dp.len {h l m} (hl:dp h l m):l.length≤m.length:=by induction hl<;>simp_all
theorem dp.get {h l m} (hl:dp h l m):∀ (i:Nat) y,(m[i]?).join=some y→(l[i]?).join=some y∨(∃ cells cells' k st et,y = .row cells' k st et∧(l[i]?).join=some (.row cells k st et)∧j0 h cells cells')∨(l.length≤i∧Bw y):=by
 induction hl with
 |nil=>intro i y hy;simp at hy
 | @ghost st et m h2 ih=>
  intro i y hy
  cases i with
  |zero=>simp at hy;subst hy;exact .inr (.inr ⟨Nat.le_refl _,st,et,rfl⟩)
  |succ i=>exact .inr (.inr ⟨Nat.zero_le _,(by
   rcases ih i y (by simpa using hy) with h|⟨_,_,_,_,_,_,h,_⟩|h
   ·simp at h
   ·simp at h
   ·exact h.2)⟩)
 |same h2 ih=>
  intro i y hy
  cases i with
  |zero=>exact .inl hy
  |succ i=>exact (ih i y (by simpa using hy)).imp id (Or.imp id (fun h=>⟨Nat.succ_le_succ h.1,h.2⟩))
 |gone h2 ih=>
  intro i y hy
  cases i with
  |zero=>simp at hy
  |succ i=>exact (ih i y (by simpa using hy)).imp id (Or.imp id (fun h=>⟨Nat.succ_le_succ h.1,h.2⟩))
 |row h1 h2 ih=>
  intro i y hy
  cases i with
  |zero=>simp at hy;subst hy;exact .inr (.inl ⟨_,_,_,_,_,rfl,rfl,h1⟩)
  |succ i=>exact (ih i y (by simpa using hy)).imp id (Or.imp id (fun h=>⟨Nat.succ_le_succ h.1,h.2⟩))
theorem tu.lax {vs vs':List AV} {os os':List (Option ba)} {ay:Nat} (D:List Nat) (hlen':os'.length≤br) (hv:j0 (bb (Cg D 0 os)).h vs vs') (ho:dp (bb (Cg D 0 os)).h (Ec D 0 os) os'):tu ay vs os vs' os':=by
 have holen:os.length≤os'.length:=by have:=ho.len;rw [N3] at this;exact this
 have hlen:os.length≤br:=Nat.le_trans holen hlen'
 refine ⟨hv.len,fun q=>Nat.le_trans q holen,fun g w us hok hfree hr=>?_⟩
 obtain ⟨hD,ehD⟩:∃ hD,(bb (Cg D 0 os)).h=hD:=⟨_,rfl⟩
 rw [ehD] at hv ho
 have cj:∀ o,(bb os).h.get o=(os[o]?).join:=Xi os hlen
 have hgetD:∀ o,hD.get o=if o ∈ D then (os[o]?).join else none:=fun o=>by
  rw [← ehD,Xi _ (by rw [Yk];exact hlen),Zb,Nat.zero_add]
 have hget':∀ o y,(bb os').h.get o=some y→(o ∉ D∧((bb os).h.get o=some y∨∃ cells cells' k st et,y = .row cells' k st et∧(bb os).h.get o=some (.row cells k st et)∧j0 hD cells cells'))∨(os.length≤o∧Bw y):=fun o y hy=>by
  rw [Xi _ hlen'] at hy
  have hmid:∀ z,((Ec D 0 os)[o]?).join=some z→o ∉ D∧(os[o]?).join=some z:=fun z hz=>by
   rw [Yq,Nat.zero_add] at hz
   by_cases hd:o ∈ D
   ·rw [if_pos hd] at hz;cases hz
   ·rw [if_neg hd] at hz;exact ⟨hd,hz⟩
  rw [cj]
  rcases ho.get o y hy with h1|⟨cells,cells',k,st,et,h1,h2,h3⟩|h1
  ·exact .inl ⟨(hmid _ h1).1,.inl (hmid _ h1).2⟩
  ·exact .inl ⟨(hmid _ h2).1,.inr ⟨cells,cells',k,st,et,h1,(hmid _ h2).2,h3⟩⟩
  ·rw [N3] at h1;exact .inr h1
 have hsub:∀ o x,hD.get o=some x→o ∈ D∧(bb os).h.get o=some x:=fun o x hx=>by
  rw [hgetD] at hx
  by_cases hd:o ∈ D
  ·rw [if_pos hd] at hx;rw [cj];exact ⟨hd,hx⟩
  ·rw [if_neg hd] at hx;cases hx
 have hokD:Ok g hD w:=hok.part (fun o x hx=>(hsub o x hx).2)
 obtain ⟨K',eK⟩:∃ K':Nat→Nat→Prop,(fun b j=>g.K b j∨∃ o base cells k s e,hD.get o=some (.row cells k s e)∧g.inj o=some (b,base)∧∃ i,i<cells.length∧j=base+i)=K':=⟨_,rfl⟩
 have hK':∀ b j,K' b j↔(g.K b j∨∃ o base cells k s e,hD.get o=some (.row cells k s e)∧g.inj o=some (b,base)∧∃ i,i<cells.length∧j=base+i):=fun b j=>by rw [← eK]
 have hlend:zc g hD K':=⟨fun b j h=>(hK' b j).2 (.inl h),fun o cells k s e h b base hi j hj=>(hK' _ _).2 (.inr ⟨o,base,cells,k,s,e,h,hi,j,hj,rfl⟩)⟩
 have hlax:∀ {a b:AV} {v:Value},ke hD a b→Rel g w a v→Rel { g with K:=K' } w b v:=fun {a b v} hl hrel=>by
  have hup:Rel { g with K:=K' } w a v:=Rel.ext (g:=g) (w:=w) (g':={ g with K:=K' }) (w':=w) ⟨rfl,fun _ _ h=>h,fun b j h=>(hK' b j).2 (.inl h),fun _ _ _=>rfl,fun b cs e fr h=>⟨cs,fr,h,rfl⟩,fun b l h=>⟨l,h⟩⟩ hrel
  cases hl with
  |same=>exact hup
  |data C fr x a hd=>exact (C.Zv hokD hlend (fun _=>Nat.le_refl g.b0) hrel hd).lift (Nat.le_refl _) (fun _ _ h=>h)
  |bad=>exact .bad _
  |nil o off sz=>obtain rfl:=hup.exact rfl;exact .u1 _ _ _
  |yk loc sz=>obtain rfl:=hup.exact rfl;exact .nm _ _
 refine ⟨{ g with K:=K' },⟨hok.size,fun o y hy=>?_,fun o o' x x' b base base' hne hx hx' hb hb'=>?_,fun b j hk=>?_⟩,⟨by rw [hv.len];exact hr.1,fun i b v hb hv'=>?_⟩,rfl,fun o q=>hfree o (Nat.le_trans holen q),fun _ _=>rfl,fun b j h=>(hK' b j).2 (.inl h),fun o b base ho' hi'=>?_,fun b j hk=>?_⟩
 ·rcases hget' o y hy with ⟨hnd,hy⟩|⟨hge,hgh⟩
  case inr=>exact .inl ⟨hfree o hge,hgh⟩
  have hKo:∀ b base,g.inj o=some (b,base)→((bb os).h.get o).isSome=true→∀ j,K' b j→g.K b j:=fun b base hi hs j hk=>by
   rcases (hK' b j).1 hk with h|⟨o2,base2,cells,k,s,e,h1,h2,_⟩
   ·exact h
   ·exfalso
    obtain ⟨hd2,h1'⟩:=hsub o2 _ h1
    obtain ⟨x,hx⟩:=Option.isSome_iff_exists.1 hs
    exact hok.sep o o2 x _ b base base2 (fun e=>hnd (by rw [e];exact hd2)) hx h1' hi h2
  have hext:Ext g w { g with K:=K' } w:=⟨rfl,fun _ _ h=>h,fun b j h=>(hK' b j).2 (.inl h),fun _ _ _=>rfl,fun b cs e fr h=>⟨cs,fr,h,rfl⟩,fun b l h=>⟨l,h⟩⟩
  rcases hy with hy|⟨cells,cells',k,st,et,rfl,hy,hcl⟩
  ·refine (hok.mb o y hy).imp id ?_
   rintro ⟨b,base,h1,h2,h3⟩
   exact ⟨b,base,h1,h2,h3.ext hext rfl (fun j hj=>hKo b base h1 (by rw [hy];rfl) j hj)⟩
  ·refine (hok.mb o _ hy).imp (fun q=>⟨q.1,by
    obtain ⟨s0,e0,he⟩:=q.2
    simp only [ba.row.injEq] at he
    obtain ⟨rfl,rfl,rfl,rfl⟩:=he
    cases hcl
    exact ⟨_,_,rfl⟩⟩) ?_
   rintro ⟨b,base,h1,h2,cs,fr,r1,r2,r3,r4,r5,r6,r7⟩
   refine ⟨b,base,h1,h2,cs,fr,r1,by rw [hcl.len];exact r2,fun j c hc=>?_,r4,fun j hj=>r5 j (hKo b base h1 (by rw [hy];rfl) j hj),r6,fun e=>by rw [hcl.len];exact r7 e⟩
   obtain ⟨a,ha,hla⟩:=hcl.get j c hc
   obtain ⟨u,hu,hru⟩:=r3 j a ha
   exact ⟨u,hu,hlax hla hru⟩
 ·have q:∀ o y p,(bb os').h.get o=some y→g.inj o=some p→∃ z,(bb os).h.get o=some z:=fun o y p hy hp=>by
   rcases hget' o y hy with ⟨_,h|⟨_,_,_,_,_,_,h,_⟩⟩|⟨h,_⟩
   ·exact ⟨_,h⟩
   ·exact ⟨_,h⟩
   ·rw [hfree o h] at hp;cases hp
  obtain ⟨z,hz⟩:=q o x _ hx hb
  obtain ⟨z',hz'⟩:=q o' x' _ hx' hb'
  exact hok.sep o o' z z' b base base' hne hz hz' hb hb'
 ·rcases (hK' b j).1 hk with h|⟨o,base,cells,k,s,e,h1,h2,_⟩
  ·exact hok.K b j h
  ·obtain ⟨b',base',h3,_,h4⟩:=hokD.obj o _ h1
   rw [h2] at h3;cases h3
   exact h4.lt
 ·obtain ⟨a,ha,hla⟩:=hv.get i b hb
  exact hlax hla (hr.2 i a v ha hv')
 ·obtain ⟨y,hy⟩:=Option.isSome_iff_exists.1 ho'
  rcases hget' o y hy with ⟨_,h|⟨_,_,_,_,_,_,h,_⟩⟩|⟨h,_⟩
  ·exact ⟨o,base,by rw [h];rfl,hi'⟩
  ·exact ⟨o,base,by rw [h];rfl,hi'⟩
  ·have:g.inj o=some (b,base):=hi'
   rw [hfree o h] at this;cases this
 ·rcases (hK' b j).1 hk with h|⟨o,base,cells,k,s,e,h1,h2,_⟩
  ·exact .inl h
  ·exact .inr ⟨o,base,by rw [(hsub o _ h1).2];rfl,h2⟩
theorem arj {α:Type} {P:Program} {T:er} {ay:Nat} {b:Code} {Q:QL} {L:SL} {st:St} (keep:List Nat) (V : α→List AV) (O : α→List (Option ba)) (I : α→Prop) (μ : α→Nat) (x : α) (hx:I x)
 (hv:tu ay (dn ay keep L st) (gu ay keep L st) (V x) (O x))
 (step:∀ x,I x→wl P T ay b (r8 ay keep (fun vs os=>∃ y,I y ∧ μ y < μ x∧tu ay vs os (V y) (O y)) Q) (ja keep (V x)) (bb (O x))):tz ay (wl P T ay b) Q L st:=
 tz.asj keep V O I μ x hx hv (fun _ _ h=>Ij b _ _ h) step
theorem n8 {α:Type} {P:Program} {T:er} {ay:Nat} {b:Code} {Q:QL} {L:SL} {st:St} (keep:List Nat) (V : α→List AV) (O : α→List (Option ba)) (I : α→Prop) (μ : α→Nat) (x : α) (hx:I x)
 (hv:tu ay (dn ay keep L st) (gu ay keep L st) (V x) (O x))
 (step:∀ x,I x→wl P T ay b (r8 ay keep (fun vs os=>∃ y,I y ∧ μ y < μ x∧vs=V y∧os=O y) Q) (ja keep (V x)) (bb (O x))):tz ay (wl P T ay b) Q L st:=
 arj keep V O I μ x hx hv (fun x hi=>Ij b _ _ (fun e L' st' hq=>by
  cases e with
  |normal=>
   obtain ⟨y,h1,h2,h3,h4⟩:=hq
   refine ⟨y,h1,h2,?_⟩
   rw [h3,h4];exact .refl _ _ _
  |exit id=>exact hq
  |ret=>exact hq) _ _ (step x hi))
theorem Hx (f) (l):(List.map (ai.val f) l).flatMap AV.cells=l.map (ai.val f):=Ot ai f rfl rfl l
theorem Vg (f) (l):(List.map (ai.val f) l).all AV.one=true:=by rw [← Hx f l,Fz];exact y7 _ _ _
theorem Lg (fr h n cells k st et) (hn:n=cells.length):mf ai fr h 0 n (.row cells k st et)=si ai fr h cells:=xn ai rfl fr h n cells k st et hn
theorem Qd (fr h f) (l):si ai fr h (List.map (ai.val f) l)=some l:=by
 have e:List.map (ai.val f) l=List.map (ai.val true) l:=by cases f<;>rfl
 rw [e];exact F4 ai rfl rfl fr h true (fun _=>rfl) l
theorem Jn (f) (l):(List.map (bp.val f) l).flatMap AV.cells=l.map (bp.val f):=Ot bp f rfl rfl l
theorem Yx (f) (l):(List.map (bp.val f) l).all AV.one=true:=by rw [← Jn f l,Fz];exact y7 _ _ _
theorem Ms (fr h n cells k st et) (hn:n=cells.length):mf bp fr h 0 n (.row cells k st et)=si bp fr h cells:=xn bp rfl fr h n cells k st et hn
theorem Vz (fr h f) (l):si bp fr h (List.map (bp.val f) l)=some l:=by
 have e:List.map (bp.val f) l=List.map (bp.val true) l:=by cases f<;>rfl
 rw [e];exact F4 bp rfl rfl fr h true (fun _=>rfl) l
theorem Hl (f) (l):(List.map (db.val f) l).flatMap AV.cells=l.map (db.val f):=Ot db f rfl rfl l
theorem Uu (f) (l):(List.map (db.val f) l).all AV.one=true:=by rw [← Hl f l,Fz];exact y7 _ _ _
theorem K3 (fr h n cells k st et) (hn:n=cells.length):mf db fr h 0 n (.row cells k st et)=si db fr h cells:=xn db rfl fr h n cells k st et hn
theorem Qx (fr h f) (l):si db fr h (List.map (db.val f) l)=some l:=by
 have e:List.map (db.val f) l=List.map (db.val true) l:=by cases f<;>rfl
 rw [e];exact F4 db rfl rfl fr h true (fun _=>rfl) l
theorem Ik (fr h n cells k st et) (hn:n=cells.length):mf az fr h 0 n (.row cells k st et)=si az fr h cells:=xn az rfl fr h n cells k st et hn
theorem Nu (fr h f) (l) (hf:(f || !fr)=true):si az fr h (List.map (az.val f) l)=some l:=F4 az rfl rfl fr h f (fun e=>by subst e;simpa using hf) l
theorem Ng (fr h l n xs) (hn:n=1) (hl:(l || !fr)=true):jc ai fr h (.vl l n (xs.map (ai.val false)))=some xs:=by
 cases l with
 |true=>exact xp ai fr h true xs n hn hl
 |false=>exact xp ai fr h false xs n hn hl
theorem Vy:ai.val true=ai.val false:=id rfl
theorem Pr (fr h l n xs) (hn:n=1) (hl:(l || !fr)=true):jc bp fr h (.vl l n (xs.map (bp.val false)))=some xs:=by
 cases l with
 |true=>exact xp bp fr h true xs n hn hl
 |false=>exact xp bp fr h false xs n hn hl
theorem Yf:bp.val true=bp.val false:=id rfl
theorem Mn (fr h l n xs) (hn:n=1) (hl:(l || !fr)=true):jc db fr h (.vl l n (xs.map (db.val false)))=some xs:=by
 cases l with
 |true=>exact xp db fr h true xs n hn hl
 |false=>exact xp db fr h false xs n hn hl
theorem U1:db.val true=db.val false:=id rfl
theorem aab (fr h) (c:UInt8):bp.dec fr h [.sc (.int .u8 c.toNat)]=some c:=bp.rt fr h true c (fun _=>rfl)
theorem U7 (fr h) (c:UInt16):cz.dec fr h [.sc (.int .u16 c.toNat)]=some c:=cz.rt fr h true c (fun _=>rfl)
theorem S8 (fr h) (c:UInt32):db.dec fr h [.sc (.int .u32 c.toNat)]=some c:=db.rt fr h true c (fun _=>rfl)
theorem Xx (a b:List AV):AV.fresh.go (a++b)=(AV.fresh.go a && AV.fresh.go b):=by
 induction a with
 |nil=>rfl
 |cons x a ih=>simp only [List.cons_append,AV.fresh.go,ih,Bool.and_assoc]
theorem aeb (f) (l:List UInt8):AV.fresh.go (l.map (bp.val f))=true:=by
 induction l with
 |nil=>rfl
 |cons x l ih=>simp only [List.map_cons,AV.fresh.go,ih];rfl
theorem Qh (f) (c:Name):(az.val f c).one=true:=id rfl
theorem K0 (f) (c:Name):(az.val f c).cells=[az.val f c]:=id rfl
theorem Ze (fr h a):(cd bp).dec fr h [a]=jc bp fr h a:=id rfl
theorem Mr (fr h n cells k st et) (hn:n=cells.length):mf (cd bp) fr h 0 n (.row cells k st et)=si (cd bp) fr h cells:=xn (cd bp) rfl fr h n cells k st et hn
end
end Go.Vm
section
set_option maxRecDepth 4000
namespace Go.Vm
theorem wR:type_of% @aiy∧type_of% @Zg∧type_of% @ap8∧type_of% @aj4∧type_of% @aff∧type_of% @ajk∧type_of% @ajv∧type_of% @aqn∧type_of% @aqm∧type_of% @ap3∧type_of% @apu∧type_of% @anq∧type_of% @aoe∧type_of% @ap7∧type_of% @ajr∧type_of% @ajo∧type_of% @akb∧type_of% @ard∧type_of% @ark∧type_of% @Yy∧type_of% @aez∧type_of% @Y3∧type_of% @Tk∧type_of% @Ta∧type_of% @adn∧type_of% @agm∧type_of% @afw∧type_of% @ai3∧type_of% @aev∧type_of% @acz∧type_of% @Ys∧type_of% @agx∧type_of% @Yp∧type_of% @Z7∧type_of% @acd∧type_of% @Yd∧type_of% @Y1∧type_of% @aov∧type_of% @If∧type_of% @Is∧type_of% @aex∧type_of% @acv∧type_of% @T2∧type_of% @ai8∧type_of% @aec∧type_of% @aaa∧type_of% @afs∧type_of% @ajz∧type_of% @ao4∧type_of% @apm∧type_of% @aqi∧type_of% @arw∧type_of% @aog∧type_of% @aqz∧type_of% @aio∧type_of% @ai1∧type_of% @aj6∧type_of% @aje∧type_of% @aif∧type_of% @abu∧type_of% @X8∧type_of% @Tf∧type_of% @Vb∧type_of% @afh∧type_of% @ajx∧type_of% @aiu∧type_of% @Us∧type_of% @aox∧type_of% @aok∧type_of% @acu∧type_of% @agj∧type_of% @ajw∧type_of% @Qk∧type_of% @Mc:=
 ⟨@aiy,@Zg,@ap8,@aj4,@aff,@ajk,@ajv,@aqn,@aqm,@ap3,@apu,@anq,@aoe,@ap7,@ajr,@ajo,@akb,@ard,@ark,@Yy,@aez,@Y3,@Tk,@Ta,@adn,@agm,@afw,@ai3,@aev,@acz,@Ys,@agx,@Yp,@Z7,@acd,@Yd,@Y1,@aov,@If,@Is,@aex,@acv,@T2,@ai8,@aec,@aaa,@afs,@ajz,@ao4,@apm,@aqi,@arw,@aog,@aqz,@aio,@ai1,@aj6,@aje,@aif,@abu,@X8,@Tf,@Vb,@afh,@ajx,@aiu,@Us,@aox,@aok,@acu,@agj,@ajw,@Qk,@Mc⟩
theorem R0:type_of% @ad2∧type_of% @aoi∧type_of% @nc0∧type_of% @nc1∧type_of% @Int.sub_zero∧type_of% @Int.sub_self∧type_of% @Int.zero_add∧type_of% @V6∧type_of% @apq∧type_of% @Ya∧type_of% @ad7∧type_of% @ais∧type_of% @Qj∧type_of% @List.length_replicate.{0}∧type_of% @Zd∧type_of% @Yt∧type_of% @art∧type_of% @Hb∧type_of% @P9∧type_of% @Md∧type_of% @aco∧type_of% @afk∧type_of% @Vs∧type_of% @Kv∧type_of% @abh∧type_of% @ajg∧type_of% @apx∧type_of% @Rj∧type_of% @Ge∧type_of% @Rl∧type_of% @ap9∧type_of% @ajp∧type_of% @Qd∧type_of% @Vz∧type_of% @Qx∧type_of% @Nu∧type_of% @aab∧type_of% @U7∧type_of% @S8∧type_of% @List.length_append.{0}∧type_of% @rtT∧type_of% @rtF∧type_of% @Go.Vm.s5.eq_1∧type_of% @Go.Vm.bounds.eq_1∧type_of% @Go.Vm.F3.eq_1∧type_of% @Go.Vm.F3.eq_2:=
 ⟨@ad2,@aoi,@nc0,@nc1,@Int.sub_zero,@Int.sub_self,@Int.zero_add,@V6,@apq,@Ya,@ad7,@ais,@Qj,@List.length_replicate.{0},@Zd,@Yt,@art,@Hb,@P9,@Md,@aco,@afk,@Vs,@Kv,@abh,@ajg,@apx,@Rj,@Ge,@Rl,@ap9,@ajp,@Qd,@Vz,@Qx,@Nu,@aab,@U7,@S8,@List.length_append.{0},@rtT,@rtF,@Go.Vm.s5.eq_1,@Go.Vm.bounds.eq_1,@Go.Vm.F3.eq_1,@Go.Vm.F3.eq_2⟩
theorem R1:type_of% @Go.Vm.ud.eq_1∧type_of% @Go.Vm.um.eq_def∧type_of% @Go.Vm.sj.eq_def∧type_of% @I3∧type_of% @Kz∧type_of% @Hy∧type_of% @y7∧type_of% @Ul∧type_of% @Nat.div_one∧type_of% @S9∧type_of% @Te∧type_of% @aqh∧type_of% @Rb∧type_of% @Ut∧type_of% @Q7∧type_of% @auk∧type_of% @Hx∧type_of% @Jn∧type_of% @Hl∧type_of% @Vg∧type_of% @Yx∧type_of% @Uu∧type_of% @Vy∧type_of% @Yf∧type_of% @U1∧type_of% @aiq∧type_of% @ajf∧type_of% @Tv∧type_of% @aj0∧type_of% @akf∧type_of% @Jd∧type_of% @L8∧type_of% @Option.isNone_none.{0}∧type_of% @Option.isNone_some.{0}∧type_of% @ai5:=
 ⟨@Go.Vm.ud.eq_1,@Go.Vm.um.eq_def,@Go.Vm.sj.eq_def,@I3,@Kz,@Hy,@y7,@Ul,@Nat.div_one,@S9,@Te,@aqh,@Rb,@Ut,@Q7,@auk,@Hx,@Jn,@Hl,@Vg,@Yx,@Uu,@Vy,@Yf,@U1,@aiq,@ajf,@Tv,@aj0,@akf,@Jd,@L8,@Option.isNone_none.{0},@Option.isNone_some.{0},@ai5⟩
theorem R2:type_of% @Qh∧type_of% @K0∧type_of% @Ng∧type_of% @Pr∧type_of% @Mn∧type_of% @Xx∧type_of% @aeb∧type_of% @Ze∧type_of% @Mr∧type_of% @Lg∧type_of% @Ms∧type_of% @K3∧type_of% @Ik∧type_of% @afj∧type_of% @Ey∧type_of% @List.isEmpty_cons.{0}∧type_of% @List.isEmpty_nil.{0}∧type_of% @List.flatMap_nil.{0,0}∧type_of% @Qn∧type_of% @Qs∧type_of% @Uk∧type_of% @Vp∧type_of% @and_true∧type_of% @true_and∧type_of% @Qt∧type_of% @Q5∧type_of% @Yv∧type_of% @aid∧type_of% @anr∧type_of% @and_self∧type_of% @List.size_toArray.{0}∧type_of% @Y6∧type_of% @aad∧type_of% @agn∧type_of% @ad1∧type_of% @Yl∧type_of% @af4∧type_of% @V3∧type_of% @adr∧type_of% @K4∧type_of% @Zk∧type_of% @adq∧type_of% @Xo∧type_of% @La:=
 ⟨@Qh,@K0,@Ng,@Pr,@Mn,@Xx,@aeb,@Ze,@Mr,@Lg,@Ms,@K3,@Ik,@afj,@Ey,@List.isEmpty_cons.{0},@List.isEmpty_nil.{0},@List.flatMap_nil.{0,0},@Qn,@Qs,@Uk,@Vp,@and_true,@true_and,@Qt,@Q5,@Yv,@aid,@anr,@and_self,@List.size_toArray.{0},@Y6,@aad,@agn,@ad1,@Yl,@af4,@V3,@adr,@K4,@Zk,@adq,@Xo,@La⟩
theorem R3:type_of% @Nc∧type_of% @Zs∧type_of% @Yc∧type_of% @I4∧type_of% @Yu∧type_of% @aiz∧type_of% @Uf∧type_of% @afn∧type_of% @X6∧type_of% @U4∧type_of% @ad8∧type_of% @Zu∧type_of% @Ym∧type_of% @Vo∧type_of% @Vk∧type_of% @Q0∧type_of% @aue∧type_of% @ac6∧type_of% @X4∧type_of% @Qr∧type_of% @Mj∧type_of% @T0∧type_of% @Ve∧type_of% @y8∧type_of% @Go.Vm.cellsIn.eq_1∧type_of% @Go.Vm.cellsIn.eq_2∧type_of% @Go.Vm.cellsIn.eq_5∧type_of% @Go.Vm.cellsIn.eq_6∧type_of% @Go.Vm.zj.eq_1∧type_of% @Go.Vm.B5.eq_1∧type_of% @E4∧type_of% @N1∧type_of% @Nt∧type_of% @Nd∧type_of% @Dn∧type_of% @Gd∧type_of% @G5∧type_of% @Fh∧type_of% @Mu∧type_of% @I6∧type_of% @Ns∧type_of% @Dy∧type_of% @K2∧type_of% @Me∧type_of% @Lf:=
 ⟨@Nc,@Zs,@Yc,@I4,@Yu,@aiz,@Uf,@afn,@X6,@U4,@ad8,@Zu,@Ym,@Vo,@Vk,@Q0,@aue,@ac6,@X4,@Qr,@Mj,@T0,@Ve,@y8,@Go.Vm.cellsIn.eq_1,@Go.Vm.cellsIn.eq_2,@Go.Vm.cellsIn.eq_5,@Go.Vm.cellsIn.eq_6,@Go.Vm.zj.eq_1,@Go.Vm.B5.eq_1,@E4,@N1,@Nt,@Nd,@Dn,@Gd,@G5,@Fh,@Mu,@I6,@Ns,@Dy,@K2,@Me,@Lf⟩
theorem R4:type_of% @Dx∧type_of% @K7∧type_of% @Lt∧type_of% @Qb∧type_of% @Mh∧type_of% @Zt∧type_of% @x5∧type_of% @Ue∧type_of% @Pt∧type_of% @afp∧type_of% @xp∧type_of% @aih∧type_of% @T3∧type_of% @Ts∧type_of% @Gn∧type_of% @Zn∧type_of% @Vf∧type_of% @Go.Vm.mj.eq_1∧type_of% @List.flatten_cons.{0}∧type_of% @List.flatten_nil.{0}∧type_of% @List.replicate_succ.{0}∧type_of% @List.replicate_zero.{0}∧type_of% @X9∧type_of% @Z2∧type_of% @an7∧type_of% @ajs∧type_of% @auc∧type_of% @aud∧type_of% @auw∧type_of% @Jg∧type_of% @Fa∧type_of% @Jt∧type_of% @Ai∧type_of% @Ra:=
 ⟨@Dx,@K7,@Lt,@Qb,@Mh,@Zt,@x5,@Ue,@Pt,@afp,@xp,@aih,@T3,@Ts,@Gn,@Zn,@Vf,@Go.Vm.mj.eq_1,@List.flatten_cons.{0},@List.flatten_nil.{0},@List.replicate_succ.{0},@List.replicate_zero.{0},@X9,@Z2,@an7,@ajs,@auc,@aud,@auw,@Jg,@Fa,@Jt,@Ai,@Ra⟩
theorem R5:type_of% @J4∧type_of% @Ht∧type_of% @K6∧type_of% @As∧type_of% @B6∧type_of% @Qe∧type_of% @Z1∧type_of% @Hp∧type_of% @zk∧type_of% @Ld∧type_of% @Ja∧type_of% @Kx∧type_of% @P5∧type_of% @Qq∧type_of% @Nj∧type_of% @Gj∧type_of% @Nh∧type_of% @Ez∧type_of% @Um∧type_of% @Np∧type_of% @aq7∧type_of% @an5∧type_of% @Go.IntKind.bits.eq_6∧type_of% @Go.IntKind.bits.eq_8∧type_of% @Nat.min_def∧type_of% @auz∧type_of% @au4∧type_of% @au7∧type_of% @aur∧type_of% @aus∧type_of% @aui∧type_of% @auu∧type_of% @au2∧type_of% @au0∧type_of% @aup∧type_of% @ab5∧type_of% @adt∧type_of% @axr∧type_of% @axv∧type_of% @am4∧type_of% @Go.Vm.ze.eq_1∧type_of% @Go.Vm.sv.eq_1∧type_of% @Go.Vm.qq.eq_def:=
 ⟨@J4,@Ht,@K6,@As,@B6,@Qe,@Z1,@Hp,@zk,@Ld,@Ja,@Kx,@P5,@Qq,@Nj,@Gj,@Nh,@Ez,@Um,@Np,@aq7,@an5,@Go.IntKind.bits.eq_6,@Go.IntKind.bits.eq_8,@Nat.min_def,@auz,@au4,@au7,@aur,@aus,@aui,@auu,@au2,@au0,@aup,@ab5,@adt,@axr,@axv,@am4,@Go.Vm.ze.eq_1,@Go.Vm.sv.eq_1,@Go.Vm.qq.eq_def⟩
theorem R6:type_of% @Go.Vm.jz.eq_1∧type_of% @Go.Vm.vu.eq_1∧type_of% @Go.Vm.ql.eq_1∧type_of% @Go.Vm.ku.eq_1∧type_of% @Go.Vm.ku.eq_2∧type_of% @Go.Vm.AV.known.eq_2∧type_of% @Go.Value.oneCell'.eq_3∧type_of% @Go.Vm.AV.cells.eq_1∧type_of% @Go.Vm.AV.cells.eq_2∧type_of% @Go.Vm.AV.cells.eq_3∧type_of% @Go.Value.cells.eq_1∧type_of% @Go.Value.cells.eq_2∧type_of% @Go.Vm.AV.one.eq_4∧type_of% @Go.Vm.AV.one.eq_5∧type_of% @Go.Vm.lz.eq_1∧type_of% @Go.Vm.j6.eq_1∧type_of% @Go.Vm.j6.eq_2∧type_of% @Go.Vm.i9.eq_1∧type_of% @Go.Vm.oz.eq_1∧type_of% @Go.Vm.s7.eq_2∧type_of% @Go.Vm.s7.eq_6∧type_of% @Go.Vm.kh.eq_1∧type_of% @Go.Vm.kh.eq_3∧type_of% @Go.Vm.kh.eq_4∧type_of% @Go.Vm.zd.eq_1∧type_of% @Go.Vm.Eu.eq_1∧type_of% @Go.Vm.M6.eq_1∧type_of% @Go.Vm.ox.eq_1∧type_of% @Go.Vm.ox.eq_2∧type_of% @Go.Vm.ox.eq_3∧type_of% @Go.Vm.ox.eq_4∧type_of% @Go.Vm.ox.eq_5∧type_of% @Go.Vm.ox.eq_6∧type_of% @Go.Vm.ox.eq_7∧type_of% @Go.Vm.ox.eq_8∧type_of% @Go.Vm.ox.eq_9∧type_of% @Go.Vm.ox.eq_10:=
 ⟨@Go.Vm.jz.eq_1,@Go.Vm.vu.eq_1,@Go.Vm.ql.eq_1,@Go.Vm.ku.eq_1,@Go.Vm.ku.eq_2,@Go.Vm.AV.known.eq_2,@Go.Value.oneCell'.eq_3,@Go.Vm.AV.cells.eq_1,@Go.Vm.AV.cells.eq_2,@Go.Vm.AV.cells.eq_3,@Go.Value.cells.eq_1,@Go.Value.cells.eq_2,@Go.Vm.AV.one.eq_4,@Go.Vm.AV.one.eq_5,@Go.Vm.lz.eq_1,@Go.Vm.j6.eq_1,@Go.Vm.j6.eq_2,@Go.Vm.i9.eq_1,@Go.Vm.oz.eq_1,@Go.Vm.s7.eq_2,@Go.Vm.s7.eq_6,@Go.Vm.kh.eq_1,@Go.Vm.kh.eq_3,@Go.Vm.kh.eq_4,@Go.Vm.zd.eq_1,@Go.Vm.Eu.eq_1,@Go.Vm.M6.eq_1,@Go.Vm.ox.eq_1,@Go.Vm.ox.eq_2,@Go.Vm.ox.eq_3,@Go.Vm.ox.eq_4,@Go.Vm.ox.eq_5,@Go.Vm.ox.eq_6,@Go.Vm.ox.eq_7,@Go.Vm.ox.eq_8,@Go.Vm.ox.eq_9,@Go.Vm.ox.eq_10⟩
theorem R7:type_of% @Go.Vm.AV.int.eq_1∧type_of% @Go.Vm.AV.bool.eq_1∧type_of% @Go.Vm.AV.exact.eq_1∧type_of% @Go.Vm.AV.exact.eq_2∧type_of% @Go.Vm.intOf.eq_1∧type_of% @Go.Vm.intOf.eq_2∧type_of% @Go.Vm.qh.eq_1∧type_of% @Go.Vm.l7.eq_1∧type_of% @Go.Vm.wi.eq_1∧type_of% @Go.Vm.wi.eq_2∧type_of% @Go.Vm.yi.eq_1∧type_of% @Go.Vm.C6.eq_1∧type_of% @Go.Vm.qs.eq_1∧type_of% @Go.Vm.qg.eq_1∧type_of% @Go.Vm.lu.eq_1∧type_of% @Go.Vm.lu.eq_3∧type_of% @Go.Vm.lu.eq_5∧type_of% @Go.Vm.lu.eq_7∧type_of% @Go.Vm.lu.eq_9∧type_of% @Go.Vm.Fs.eq_1∧type_of% @Go.Vm.Sa.eq_1∧type_of% @Go.Vm.Ii.eq_1∧type_of% @Go.Vm.isSlice.eq_3∧type_of% @Go.Vm.isSlice.eq_4∧type_of% @Go.Vm.Er.eq_1∧type_of% @Go.goInt.eq_1∧type_of% @arq∧type_of% @arh∧type_of% @aou∧type_of% @Go.Vm.pack.eq_1∧type_of% @Go.Vm.pack.eq_2∧type_of% @Go.Vm.cg.eq_1∧type_of% @Go.Vm.cg.eq_2∧type_of% @Go.Vm.bb.eq_1∧type_of% @Go.Vm.pf.eq_1∧type_of% @Go.Vm.pf.eq_2∧type_of% @Go.Vm.vc.eq_1∧type_of% @px∧type_of% @Eo∧type_of% @Xt∧type_of% @afb∧type_of% @C9∧type_of% @C2∧type_of% @Ga:=
 ⟨@Go.Vm.AV.int.eq_1,@Go.Vm.AV.bool.eq_1,@Go.Vm.AV.exact.eq_1,@Go.Vm.AV.exact.eq_2,@Go.Vm.intOf.eq_1,@Go.Vm.intOf.eq_2,@Go.Vm.qh.eq_1,@Go.Vm.l7.eq_1,@Go.Vm.wi.eq_1,@Go.Vm.wi.eq_2,@Go.Vm.yi.eq_1,@Go.Vm.C6.eq_1,@Go.Vm.qs.eq_1,@Go.Vm.qg.eq_1,@Go.Vm.lu.eq_1,@Go.Vm.lu.eq_3,@Go.Vm.lu.eq_5,@Go.Vm.lu.eq_7,@Go.Vm.lu.eq_9,@Go.Vm.Fs.eq_1,@Go.Vm.Sa.eq_1,@Go.Vm.Ii.eq_1,@Go.Vm.isSlice.eq_3,@Go.Vm.isSlice.eq_4,@Go.Vm.Er.eq_1,@Go.goInt.eq_1,@arq,@arh,@aou,@Go.Vm.pack.eq_1,@Go.Vm.pack.eq_2,@Go.Vm.cg.eq_1,@Go.Vm.cg.eq_2,@Go.Vm.bb.eq_1,@Go.Vm.pf.eq_1,@Go.Vm.pf.eq_2,@Go.Vm.vc.eq_1,@px,@Eo,@Xt,@afb,@C9,@C2,@Ga⟩
theorem R8:type_of% @Vt∧type_of% @Sv∧type_of% @Ug∧type_of% @Q6∧type_of% @Vn∧type_of% @Go.Vm.dn.eq_1∧type_of% @Go.Vm.gu.eq_1∧type_of% @Go.Vm.il.eq_1∧type_of% @Go.Vm.sf.eq_1∧type_of% @Go.Vm.sf.eq_2∧type_of% @Go.Vm.reach.eq_1∧type_of% @Go.Vm.reach.eq_2∧type_of% @Go.Vm.reach.eq_3∧type_of% @Go.Vm.gk.eq_1∧type_of% @Go.Vm.dh.eq_1∧type_of% @Go.Vm.dh.eq_2∧type_of% @Go.Vm.AV.names.eq_1∧type_of% @Go.Vm.AV.names.eq_2∧type_of% @Go.Vm.AV.names.eq_3∧type_of% @Go.Vm.AV.names.eq_4∧type_of% @Go.Vm.AV.names.eq_5∧type_of% @Go.Vm.AV.names.eq_6∧type_of% @Go.Vm.AV.names.eq_9∧type_of% @Go.Vm.AV.names.go.eq_1∧type_of% @Go.Vm.AV.names.go.eq_2∧type_of% @Go.Vm.ba.names.eq_1∧type_of% @Go.Vm.ba.names.eq_2∧type_of% @Go.Vm.AV.cb.eq_1∧type_of% @Go.Vm.AV.cb.eq_2∧type_of% @Go.Vm.AV.cb.eq_3∧type_of% @Go.Vm.AV.cb.eq_4∧type_of% @Go.Vm.AV.cb.eq_5∧type_of% @Go.Vm.AV.cb.eq_6∧type_of% @Go.Vm.AV.cb.eq_7∧type_of% @Go.Vm.AV.cb.eq_8∧type_of% @Go.Vm.AV.cb.eq_11∧type_of% @Go.Vm.ba.cb.eq_1∧type_of% @Go.Vm.ba.cb.eq_2∧type_of% @Jo∧type_of% @ai4∧type_of% @Go.Vm.kg.eq_1∧type_of% @Go.Vm.kg.eq_2∧type_of% @Go.Vm.ja.eq_2∧type_of% @jr∧type_of% @Option.bind_some.{0,0}∧type_of% @Option.bind_none.{0,0}∧type_of% @Option.map_some.{0,0}∧type_of% @Option.getD_some.{0}∧type_of% @Option.getD_none.{0}∧type_of% @Option.isSome_some.{0}:=
 ⟨@Vt,@Sv,@Ug,@Q6,@Vn,@Go.Vm.dn.eq_1,@Go.Vm.gu.eq_1,@Go.Vm.il.eq_1,@Go.Vm.sf.eq_1,@Go.Vm.sf.eq_2,@Go.Vm.reach.eq_1,@Go.Vm.reach.eq_2,@Go.Vm.reach.eq_3,@Go.Vm.gk.eq_1,@Go.Vm.dh.eq_1,@Go.Vm.dh.eq_2,@Go.Vm.AV.names.eq_1,@Go.Vm.AV.names.eq_2,@Go.Vm.AV.names.eq_3,@Go.Vm.AV.names.eq_4,@Go.Vm.AV.names.eq_5,@Go.Vm.AV.names.eq_6,@Go.Vm.AV.names.eq_9,@Go.Vm.AV.names.go.eq_1,@Go.Vm.AV.names.go.eq_2,@Go.Vm.ba.names.eq_1,@Go.Vm.ba.names.eq_2,@Go.Vm.AV.cb.eq_1,@Go.Vm.AV.cb.eq_2,@Go.Vm.AV.cb.eq_3,@Go.Vm.AV.cb.eq_4,@Go.Vm.AV.cb.eq_5,@Go.Vm.AV.cb.eq_6,@Go.Vm.AV.cb.eq_7,@Go.Vm.AV.cb.eq_8,@Go.Vm.AV.cb.eq_11,@Go.Vm.ba.cb.eq_1,@Go.Vm.ba.cb.eq_2,@Jo,@ai4,@Go.Vm.kg.eq_1,@Go.Vm.kg.eq_2,@Go.Vm.ja.eq_2,@jr,@Option.bind_some.{0,0},@Option.bind_none.{0,0},@Option.map_some.{0,0},@Option.getD_some.{0},@Option.getD_none.{0},@Option.isSome_some.{0}⟩
theorem R9:type_of% @List.getElem?_cons_zero.{0}∧type_of% @List.getElem?_toArray.{0}∧type_of% @Go.Vm.br.eq_1∧type_of% @List.drop_zero.{0}∧type_of% @List.drop_succ_cons.{0}∧type_of% @List.drop_nil.{0}∧type_of% @List.take_succ_cons.{0}∧type_of% @List.take_zero.{0}∧type_of% @List.length_cons.{0}∧type_of% @List.length_nil.{0}∧type_of% @List.length_map.{0,0}∧type_of% @List.getElem?_cons_succ.{0}∧type_of% @List.getElem?_nil.{0}∧type_of% @List.getElem?_map.{0,0}∧type_of% @List.getElem?_drop.{0}∧type_of% @List.map_cons.{0,0}∧type_of% @List.map_nil.{0,0}∧type_of% @List.nil_append.{0}∧type_of% @List.cons_append.{0}∧type_of% @List.append_nil.{0}∧type_of% @List.all_cons.{0}∧type_of% @List.all_nil.{0}∧type_of% @cond_true.{1}∧type_of% @cond_false.{1}∧type_of% @decide_true∧type_of% @decide_false∧type_of% @Bool.and_true∧type_of% @Bool.true_and∧type_of% @Bool.and_self∧type_of% @Bool.not_true∧type_of% @Bool.not_false∧type_of% @BEq.rfl.{0}∧type_of% @Nat.zero_le∧type_of% @Nat.le_refl∧type_of% @Nat.add_zero∧type_of% @Nat.zero_add∧type_of% @Nat.mul_one∧type_of% @Int.toNat_natCast∧type_of% @Int.natCast_nonneg∧type_of% @Nat.sub_self∧type_of% @List.contains_nil.{0}∧type_of% @List.contains_cons.{0}∧type_of% @Bool.or_false∧type_of% @Bool.false_or∧type_of% @Bool.or_true∧type_of% @Bool.true_or∧type_of% @List.map_map.{0,0,0}∧type_of% @abq∧type_of% @Iu∧type_of% @My∧type_of% @Ll∧type_of% @Z4∧type_of% @Y0:=
 ⟨@List.getElem?_cons_zero.{0},@List.getElem?_toArray.{0},@Go.Vm.br.eq_1,@List.drop_zero.{0},@List.drop_succ_cons.{0},@List.drop_nil.{0},@List.take_succ_cons.{0},@List.take_zero.{0},@List.length_cons.{0},@List.length_nil.{0},@List.length_map.{0,0},@List.getElem?_cons_succ.{0},@List.getElem?_nil.{0},@List.getElem?_map.{0,0},@List.getElem?_drop.{0},@List.map_cons.{0,0},@List.map_nil.{0,0},@List.nil_append.{0},@List.cons_append.{0},@List.append_nil.{0},@List.all_cons.{0},@List.all_nil.{0},@cond_true.{1},@cond_false.{1},@decide_true,@decide_false,@Bool.and_true,@Bool.true_and,@Bool.and_self,@Bool.not_true,@Bool.not_false,@BEq.rfl.{0},@Nat.zero_le,@Nat.le_refl,@Nat.add_zero,@Nat.zero_add,@Nat.mul_one,@Int.toNat_natCast,@Int.natCast_nonneg,@Nat.sub_self,@List.contains_nil.{0},@List.contains_cons.{0},@Bool.or_false,@Bool.false_or,@Bool.or_true,@Bool.true_or,@List.map_map.{0,0,0},@abq,@Iu,@My,@Ll,@Z4,@Y0⟩
theorem R10:type_of% @Ui∧type_of% @Pz∧type_of% @Tq∧type_of% @ax1∧type_of% @ayq∧type_of% @ayy∧type_of% @axl∧type_of% @axw∧type_of% @axq∧type_of% @agq∧type_of% @ab9∧type_of% @Y5∧type_of% @Vc∧type_of% @acs∧type_of% @Go.Vm.AV.fresh.eq_1∧type_of% @Go.Vm.AV.fresh.eq_2∧type_of% @Go.Vm.AV.fresh.eq_3∧type_of% @Go.Vm.AV.fresh.eq_4∧type_of% @Go.Vm.AV.fresh.go.eq_1∧type_of% @Go.Vm.AV.fresh.go.eq_2∧type_of% @List.map_append.{0,0}:=
 ⟨@Ui,@Pz,@Tq,@ax1,@ayq,@ayy,@axl,@axw,@axq,@agq,@ab9,@Y5,@Vc,@acs,@Go.Vm.AV.fresh.eq_1,@Go.Vm.AV.fresh.eq_2,@Go.Vm.AV.fresh.eq_3,@Go.Vm.AV.fresh.eq_4,@Go.Vm.AV.fresh.go.eq_1,@Go.Vm.AV.fresh.go.eq_2,@List.map_append.{0,0}⟩
theorem RA:type_of% R0∧type_of% R1∧type_of% R2∧type_of% R3∧type_of% R4∧type_of% R5∧type_of% R6∧type_of% R7∧type_of% R8∧type_of% R9∧type_of% R10:=
 ⟨R0,R1,R2,R3,R4,R5,R6,R7,R8,R9,R10⟩
theorem FB:type_of% @List.cons.injEq.{0}∧type_of% @Y9∧type_of% @Xm∧type_of% @List.length_append.{0}∧type_of% @List.length_cons.{0}∧type_of% @List.length_nil.{0}∧type_of% @List.map_append.{0,0}∧type_of% @List.map_cons.{0,0}∧type_of% @List.map_nil.{0,0}∧type_of% @and_true∧type_of% @true_and∧type_of% @and_self∧type_of% @AV.sc.injEq∧type_of% @AV.sl.injEq∧type_of% @ba.row.injEq∧type_of% @Option.some.injEq.{0}∧type_of% @Value.int.injEq∧type_of% @Nat.zero_add:=
 ⟨@List.cons.injEq.{0},@Y9,@Xm,@List.length_append.{0},@List.length_cons.{0},@List.length_nil.{0},@List.map_append.{0,0},@List.map_cons.{0,0},@List.map_nil.{0,0},@and_true,@true_and,@and_self,@AV.sc.injEq,@AV.sl.injEq,@ba.row.injEq,@Option.some.injEq.{0},@Value.int.injEq,@Nat.zero_add⟩
end Go.Vm
end
section
namespace Go.Vm
noncomputable section
open Go.ChangeShapes Go.WideShapes Go.ChangeAt
mutual
def mq {H:Type}:DataW H→Nat
 |.lit (.string bytes)=>bytes.length+1
 |.lit _=>1
 |.nil=>1
 |.ptr d=>mq d+1
 |.slice elems spare=>oq elems+oq spare+1
 |.agg parts=>oq parts+1
 |.iface _ d=>mq d+1
 |.map entries=>V7 entries+1
 |.held _=>1
def oq {H:Type}:List (DataW H)→Nat
 | []=>0
 |d::r=>mq d+oq r
def V7 {H:Type}:List (Lit × DataW H)→Nat
 | []=>0
 |x::r=>alj x+V7 r
def alj {H:Type}:Lit × DataW H→Nat
 |(.string bytes,d)=>bytes.length+mq d+1
 |(_,d)=>mq d+1
end
def ac7 (W:World):Nat→Nat→Prop:=fun b _=>b<W.heap.size
def Rd (P:Program) (t:TypeId) {α:Type} (C:c9 α) (μ : α→Nat):Prop:=
 ∀ {H:Type} (enc:TypeId × Value→H) (W:World) (b0 fuel:Nat) (cs:List Value) (x:DataW H × List MemPlace),DataW.trod enc P W 0 (fun _=>true) true fuel t cs=some x →
  ∃ y,bo (gK b0 (ac7 W)) W (C.cells false y) cs ∧ μ y≤mq x.1
theorem azp {P:Program} {t:TypeId} (ht:P.underlying t=some (.int .u8)):Rd P t bp (fun _=>1):=by
 intro H enc W b0 fuel cs x h
 obtain ⟨n,rfl,rfl,hw⟩:=DataW.trod_int ht h
 have hx : 0≤n∧n≤255:=by simpa [Lit.wf,IntKind.min,IntKind.max,IntKind.signed,IntKind.bits] using hw
 refine ⟨UInt8.ofNat n.toNat,?_,by simp [mq]⟩
 have:n=((UInt8.ofNat n.toNat).toNat:Int):=by rw [UInt8.toNat_ofNat'];omega
 exact bo.one (by (conv=>rhs;rw [this]);exact .sc _)
theorem ap0 {P:Program} {t:TypeId} (ht:P.underlying t=some (.int .u16)):Rd P t cz (fun _=>1):=by
 intro H enc W b0 fuel cs x h
 obtain ⟨n,rfl,rfl,hw⟩:=DataW.trod_int ht h
 have hx : 0≤n∧n≤65535:=by simpa [Lit.wf,IntKind.min,IntKind.max,IntKind.signed,IntKind.bits] using hw
 refine ⟨UInt16.ofNat n.toNat,?_,by simp [mq]⟩
 have:n=((UInt16.ofNat n.toNat).toNat:Int):=by rw [UInt16.toNat_ofNat'];omega
 exact bo.one (by (conv=>rhs;rw [this]);exact .sc _)
theorem aqo {P:Program} {t:TypeId} (ht:P.underlying t=some (.int .u32)):Rd P t db (fun _=>1):=by
 intro H enc W b0 fuel cs x h
 obtain ⟨n,rfl,rfl,hw⟩:=DataW.trod_int ht h
 have hx : 0≤n∧n≤4294967295:=Go.bounds_u32 hw
 refine ⟨UInt32.ofNat n.toNat,?_,by simp [mq]⟩
 have:n=((UInt32.ofNat n.toNat).toNat:Int):=by rw [UInt32.toNat_ofNat'];omega
 exact bo.one (by (conv=>rhs;rw [this]);exact .sc _)
theorem axj {P:Program} {t:TypeId} (ht:P.underlying t=some .string):Rd P t ai (fun s=>s.size+1):=by
 intro H enc W b0 fuel cs x h
 obtain ⟨s,rfl,rfl,_⟩:=DataW.trod_string ht h
 refine ⟨s,bo.one (.sc _),?_⟩
 show s.size+1≤mq (DataW.lit (Lit.string s.data.toList))
 rw [mq,Array.length_toList]
 exact Nat.le_refl _
theorem avw (ao k s v j:Nat) (h3:v=k * s) (hge:v≤j):ao+k * s+(j - v)=ao+j:=by rw [← h3];omega
def tr {α:Type} (μ : α→Nat):List α→Nat
 | []=>0
 |x::r=>μ x+tr μ r
theorem Qp {α:Type} (μ : α→Nat):∀ a b:List α,tr μ (a++b)=tr μ a+tr μ b
 | [],b=>by simp [tr]
 |x::a,b=>by simp [tr,Qp μ a b];omega
theorem M3 {H:Type}:∀ a b:List (DataW H),oq (a++b)=oq a+oq b
 | [],b=>by simp [oq]
 |x::a,b=>by simp [oq,M3 a b];omega
theorem avr {P:Program} {t e:TypeId} {α:Type} {C:c9 α} {μ : α→Nat} (ht:P.underlying t=some (.slice e)) (hsz:P.cellsOf e=C.sz) (hpos : 0<C.sz) (he:Rd P e C μ):Rd P t (cd C) (fun l=>tr μ l+1):=by
 intro H enc W b0 fuel cs x h
 rcases Go.Deep.open_slice ht h with ⟨rfl,rfl⟩|⟨a,len,cap,m,n,D,Pl,rfl,_,hl,hm,hmm,rfl,hx⟩
 ·exact ⟨[],bo.one (.nm _ _),by simp [tr,mq]⟩
 ·simp only [if_true] at hmm
  subst hmm
  have spot : 0<m→a.spot=none∧a.block<W.heap.size:=by
   intro h0
   obtain ⟨cs',h1,_⟩:=hx 0 h0
   rw [hsz] at h1
   simp only [World.cells?,Nat.zero_le,if_true] at h1
   have h2:=mapM_some_get h1 0 0 (by simp [hpos])
   have hlen:=mapM_some_length h1
   have h3:∃ v,cs'[0]? = some v:=⟨cs'[0]'(by rw [hlen];simpa using hpos),by simp⟩
   obtain ⟨v,hv⟩:=h3
   rw [hv] at h2
   simp only [Nat.zero_mul,Addr.add,if_true] at h2
   simp only [World.cell?] at h2
   split at h2
   ·rename_i c _ _ hb
    cases hs:a.spot with
    |none=>exact ⟨rfl,ca hb⟩
    |some s=>simp [hs] at h2
   ·cases h2
  have build:∀ k,k≤len→∃ (xs:List α) (vs:List Value),xs.length=k∧bo (gK b0 (ac7 W)) W (xs.flatMap (C.cells false)) vs∧vs.length=k * C.sz∧(∀ j v,vs[j]? = some v→W.cell? ⟨a.block,a.off+j,none⟩=some v) ∧
   tr μ xs≤oq ((List.range k).map D):=by
   intro k
   induction k with
   |zero=>intro _;exact ⟨[],[],rfl,bo.nil _ _,by simp,(fun j v hj=>by simp at hj),by simp [tr,oq]⟩
   |succ k ih=>
    intro hk
    obtain ⟨xs,vs,h1,h2,h3,h4,h5⟩:=ih (by omega)
    obtain ⟨cs',h6,h7⟩:=hx k (by omega)
    obtain ⟨y,h8,h9⟩:=he enc W b0 n cs' _ h7
    rw [hsz] at h6
    simp only [World.cells?,Nat.zero_le,if_true] at h6
    have hlen:=mapM_some_length h6
    simp only [List.length_range] at hlen
    refine ⟨xs++[y],vs++cs',by simp [h1],?_,by simp [h3,hlen,Nat.succ_mul],fun j v hj=>?_,?_⟩
    ·rw [List.flatMap_append];exact h2.append (by simpa using h8)
    ·by_cases hj1:j<vs.length
     ·rw [List.getElem?_append_left hj1] at hj;exact h4 j v hj
     ·rw [List.getElem?_append_right (by omega)] at hj
      have hj2:=(List.getElem?_eq_some_iff.1 hj).1
      have h10:=mapM_some_get h6 (j - vs.length) (j - vs.length) (List.getElem?_range (by rw [← hlen];exact hj2))
      rw [hj] at h10
      have hs:=(spot (by omega)).1
      have e:(a.add (k * C.sz)).add (j - vs.length)=⟨a.block,a.off+j,none⟩:=by
       obtain ⟨ab,ao,azs⟩:=a
       simp only at hs
       subst hs
       rw [Addr.pk,Addr.pk]
       have hge:vs.length≤j:=Nat.le_of_not_lt hj1
       rw [avw ao k C.sz vs.length j h3 hge]
      rw [e] at h10
      exact h10
    ·rw [Qp,List.range_succ,List.map_append,M3]
     simp only [tr,List.map_cons,List.map_nil,oq]
     have : μ y≤mq (D k):=h9
     omega
  obtain ⟨xs,vs,h1,h2,h3,h4,h5⟩:=build len (Nat.le_refl _)
  refine ⟨xs,bo.one ?_,by
   simp only [mq]
   have:tr μ xs≤oq ((List.range len).map D):=h5
   omega⟩
  by_cases h0 : 0<m
  ·obtain ⟨hs,hb⟩:=spot h0
   obtain ⟨ab,ao,azs⟩:=a
   simp only at hs hb h4
   subst hs
   rw [← h1]
   refine ak5 C h2 (by omega) (fun e=>by cases e) (fun j v hj=>⟨hb,h4 j v hj⟩)
  ·have hl0:len=0:=by omega
   have hm0:m=0:=by omega
   subst hl0 hm0
   have:xs=[]:=List.eq_nil_of_length_eq_zero h1
   subst this
   exact .w7 _ _ _
def Yg (P:Program) (fs:List Field) (off:Nat) {α:Type} (C:c9 α) (μ : α→Nat):Prop:=
 ∀ {H:Type} (enc:TypeId × Value→H) (W:World) (b0 n:Nat) (cs:List Value) (ys:List (DataW H × List MemPlace)),ys.length=fs.length →
  (∀ (i:Nat) f,fs[i]? = some f→DataW.trod enc P W 0 (fun _=>true) true n f.type ((cs.drop f.offset).take (P.cellsOf f.type))=ys[i]?) →
  ∃ y,bo (gK b0 (ac7 W)) W (C.cells false y) ((cs.drop off).take C.sz) ∧ μ y≤oq (ys.map (·.1))
theorem avh {P:Program} {f:Field} {off:Nat} {α:Type} {C:c9 α} {μ : α→Nat} (ho:f.offset=off) (hs:P.cellsOf f.type=C.sz) (h:Rd P f.type C μ):Yg P [f] off C μ:=by
 intro H enc W b0 n cs ys hl hf
 match ys,hl with
 | [y0],_=>
  have:=hf 0 f rfl
  obtain ⟨y,h1,h2⟩:=h enc W b0 n _ y0 this
  rw [ho,hs] at h1
  exact ⟨y,h1,by simp [oq];exact h2⟩
theorem aso {P:Program} {f:Field} {fs:List Field} {off:Nat} {α β:Type} {A:c9 α} {B:c9 β} {μ : α→Nat} {ν : β→Nat} (ho:f.offset=off) (hs:P.cellsOf f.type=A.sz) (h:Rd P f.type A μ) (hr:Yg P fs (off+A.sz) B ν) :
 Yg P (f::fs) off (m9 A B) (fun p=>μ p.1 + ν p.2):=by
 intro H enc W b0 n cs ys hl hf
 match ys,hl with
 |y0::ys,hl=>
  have h0:=hf 0 f rfl
  obtain ⟨y,h1,h2⟩:=h enc W b0 n _ y0 h0
  obtain ⟨z,h3,h4⟩:=hr enc W b0 n cs ys (by simpa using hl) (fun i g hg=>by have:=hf (i+1) g (by simpa using hg);simpa using this)
  rw [ho,hs] at h1
  refine ⟨(y,z),?_,by simp [oq];omega⟩
  have:=h1.append h3
  rwa [show (cs.drop off).take A.sz++(cs.drop (off+A.sz)).take B.sz=(cs.drop off).take (A.sz+B.sz) from by
   rw [List.take_add,List.drop_drop]] at this
theorem anm {P:Program} {t:TypeId} {fs:Array Field} {α:Type} {C:c9 α} {μ : α→Nat} (ht:P.underlying t=some (.struct fs)) (hc:P.cellsOf t=C.sz) (h:Yg P fs.toList 0 C μ):Rd P t C (fun x=>μ x+1):=by
 intro H enc W b0 fuel cs x hx
 obtain ⟨xs,n,_,rfl,hl,hlen,hf⟩:=DataW.trod_struct ht hx
 obtain ⟨y,h1,h2⟩:=h enc W b0 n cs xs (by simpa using hlen) (fun i f hi=>hf i f (by simpa using hi))
 refine ⟨y,?_,by simp [mq];exact h2⟩
 rwa [List.drop_zero,List.take_of_length_le (by omega)] at h1
theorem axa {P:Program} {t:TypeId} {α β:Type} {C:c9 α} {μ : α→Nat} {f : β → α} {i : α → β} {h1:∀ y,i (f y)=y} {h2:∀ x,f (i x)=x} (h:Rd P t C μ):Rd P t (Dd C f i h1 h2) (fun y=>μ (f y)):=by
 intro H enc W b0 fuel cs x hx
 obtain ⟨y,h3,h4⟩:=h enc W b0 fuel cs x hx
 exact ⟨i y,by show bo _ _ (C.cells false (f (i y))) cs;rw [h2];exact h3,by show μ (f (i y))≤_;rw [h2];exact h4⟩
def RdA (P:Program) (ts:List TypeId) {α:Type} (A:AC α) (μ : α→Nat):Prop:=
 ∀ {H:Type} (enc:TypeId × Value→H) (W:World) (b0 b1:Nat) (vs:List Value) (ds:List (DataW H)) (ps:List MemPlace),(∀ (j:Nat) t v,ts[j]? = some t→vs[j]? = some v→Value.okWide P W .any b1 t v) →
  DataW.TrodAll enc P W 0 (fun _=>true) true ts vs ds ps→∃ y,bo (gK b0 (ac7 W)) W (A.E y) vs ∧ μ y≤oq ds
theorem avg (P:Program):RdA P [] a0 (fun _=>0):=by
 intro H enc W b0 b1 vs ds ps _ h
 obtain ⟨rfl,rfl,rfl⟩:=trodAll_nil h
 exact ⟨(),bo.nil _ _,Nat.zero_le _⟩
theorem akz {P:Program} {W:World} {b:Nat} {t:TypeId} {v:Value} (h:kj P t=some true) (ho:Value.okWide P W .any b t v):∃ cs,v = .agg cs:=by
 unfold kj at h
 unfold Value.okWide at ho
 cases hu:P.underlying t with
 |none=>rw [hu] at h;cases h
 |some d=>
  rw [hu] at h ho
  cases d<;>simp_all<;>exact ⟨_,ho.choose_spec.1⟩
theorem aeq {P:Program} {t:TypeId} {ts:List TypeId} {α β:Type} {C:c9 α} {R:AC β} {μ : α→Nat} {ν : β→Nat} (ha:kj P t=some C.agg) (h:Rd P t C μ) (hr:RdA P ts R ν):RdA P (t::ts) (aC C R) (fun p=>μ p.1 + ν p.2):=by
 intro H enc W b0 b1 vs ds ps hok hall
 obtain ⟨v,vs1,d,ds1,p,q,rfl,rfl,rfl,h0,h1⟩:=trodAll_cons hall
 obtain ⟨fuel,hf⟩:=h0
 obtain ⟨y,h2,h3⟩:=h enc W b0 fuel _ _ hf
 obtain ⟨z,h4,h5⟩:=hr enc W b0 b1 vs1 ds1 q (fun j t v ht hv=>hok (j+1) t v (by simpa using ht) (by simpa using hv)) h1
 have h3' : μ y≤mq d:=h3
 refine ⟨(y,z),bo.cons ?_ h4,by simp only [oq];omega⟩
 have hv:=hok 0 t v rfl rfl
 show Rel _ _ (C.val false y) v
 unfold c9.val
 cases hg:C.agg with
 |true=>
  obtain ⟨cs,rfl⟩:=akz (by rw [ha,hg]) hv
  exact .agg _ cs (by simpa [Value.cells] using h2.1) (fun i a v ha hv=>h2.2 i a v ha (by simpa [Value.cells] using hv))
 |false=>
  obtain ⟨c,h6,h7,_⟩:=C.one hg false y
  rw [cond_false,h6]
  rw [h6] at h2
  have hcs:v.cells.toList=[v]:=by
   have hl:=h2.1
   simp only [List.length_singleton] at hl
   cases v with
   |agg cs=>
    exfalso
    unfold kj at ha
    unfold Value.okWide at hv
    cases hu:P.underlying t with
    |none=>rw [hu] at ha;cases ha
    |some d=>
     rw [hu] at ha hv
     have hcell:Cell.okWide P W .any b1 t (.agg cs):=by
      cases d<;>simp_all
     rw [hg] at ha
     unfold Cell.okWide Cell.ok at hcell
     rw [hu] at hcell
     cases d<;>simp_all
   |_=>rfl
  rw [hcs] at h2
  exact h2.head
theorem aey {W W':World} (q:Ak W W') {p:MemPlace} (h:p.block<W.heap.size):W.sameAt W' p:=by
 cases p with
 |cell b off=>exact u3 (q.heap b h)
 |map b=>exact q.heap b h
theorem again {H:Type} {enc:TypeId × Value→H} {P:Program} {W W':World} {sp:Nat→Bool} (K:Kids P (· < P.types.size)) (hz:∀ t e,t<P.types.size→P.underlying t=some (.slice e)→0<P.cellsOf e) (q:Ak W W') :
 ∀ {ts:List TypeId} {vs:List Value} {ds:List (DataW H)} {ps:List MemPlace},(∀ t ∈ ts,t<P.types.size)→DataW.TrodAll enc P W 0 (fun _=>true) true ts vs ds ps→(∀ p ∈ ps,sp p.block=true)→(∀ p ∈ ps,p.block<W.heap.size) →
  DataW.TrodAll enc P W' 0 sp true ts vs ds ps
 | [],[],[],_,_,h,_,_=>h
 |t::ts,v::vs,d::ds,ps,hT,⟨p,p',h1,h2,e⟩,hs,hl=>by
  obtain ⟨n,hn⟩:=h1
  subst e
  have h3:=DataW.trod_respare (spare':=sp) K hz n t _ _ (hT t (by simp)) hn (fun x hx=>hs x (by simp only [List.mem_append];exact .inl hx))
  have h4:=DataW.trod_carry (w':=W') n t _ _ h3 (fun x hx=>aey q (hl x (by simp only [List.mem_append];exact .inl hx)))
  exact ⟨p,p',⟨n,h4⟩,again K hz q (fun t ht=>hT t (by simp [ht])) h2 (fun x hx=>hs x (by simp [hx])) (fun x hx=>hl x (by simp [hx])),rfl⟩
theorem am1 {W W':World} (q:Ak W W') (may:MemPlace→Prop):W.keptBut W' may:=by
 refine ⟨q.os,q.output,fun i hi=>?_⟩
 rw [q.heap i hi]
 split
 ·rename_i c t fr c' t' fr' h1 h2
  rw [h1] at h2
  cases h2
  exact ⟨rfl,rfl,rfl,fun _ _=>rfl⟩
 ·rename_i es cl es' cl' h1 h2
  rw [h1] at h2
  cases h2
  exact .inr ⟨rfl,rfl⟩
 ·rfl
def aky (P:Program):Bool:=(List.range P.types.size).all fun t=>match P.underlying t with|some (.slice e)=>Nat.blt 0 (P.cellsOf e)|_=>true
theorem aa6 {P:Program} (h:aky P=true) (t e:TypeId) (ht:t<P.types.size) (hu:P.underlying t=some (.slice e)) : 0<P.cellsOf e:=by
 have:=List.all_eq_true.1 h t (List.mem_range.2 ht)
 simp only [hu] at this
 exact Nat.le_of_ble_eq_true this
def ave (P:Program) (l:List TypeId):Bool:=l.all fun t=>Nat.blt t P.types.size
theorem ak8 {P:Program} {l:List TypeId} (h:ave P l=true):∀ t ∈ l,t<P.types.size:=fun t ht=>Nat.le_of_ble_eq_true (List.all_eq_true.1 h t ht)
theorem ar8 {P:Program} (hlaid:laidOutB P=true) (hmaps:mapsRowed P=true) (hz:∀ t e,t<P.types.size→P.underlying t=some (.slice e)→0<P.cellsOf e) {f:Nat} {fn:Func} {s:ChangeSpec} {tb:TypeId}
 (he:m7 P f=true) (hvars:s.vars=[]) (hres:fn.resultTypes = #[tb]) (htb:P.underlying tb=some .bool) (hpar:∀ t ∈ fn.params.toList,t<P.types.size)
 (hfn:∀ (H:Type) (ds:List (DataW H)),ds.length=fn.params.toList.length→s.fn H ds = { results:=[.lit (.bool true)],args:=ds }) {α:Type} {A:AC α} {μ : α→Nat} (hA:RdA P fn.params.toList A μ) {N:Option Nat}
 (hcall:∀ x,(∀ n,N=some n → μ x≤n)→bu P f (A.E x) (.sc (.bool true)))
 {H:Type} (enc:TypeId × Value→H) (W:World) (base:Nat) (args:Array Value) (ds gs:List (DataW H)) (before:List MemPlace) (hval:∀ (j:Nat) t v,fn.params[j]? = some t→args[j]? = some v→Value.okWide P W .any base t v)
 (hW:DataW.Whole enc P fn.params.toList s.vars false W args.toList ds gs before) (hN:∀ n,N=some n→oq (ds++gs)≤n) :
 Calls P f args W fun e W'=>∃ v,e = .returned v∧s.post enc P fn false true false false W args v W':=by
 have hW':=hW
 obtain ⟨p,q,hA0,hV,rfl,hfz,hnd⟩:=hW
 rw [hvars] at hV
 obtain ⟨rfl,rfl⟩:=trodVars_none hV
 obtain ⟨x,hx,hμ⟩:=hA enc W W.heap.size base args.toList ds p (fun j t v ht hv=>hval j t v (by simpa using ht) (by simpa using hv)) hA0
 have hp:=hcall x (fun n hn=>Nat.le_trans hμ (by have:=hN n hn;simpa using this)) (ac7 W) W args.toList (fun _ _ h=>h) hx
 have hlen:ds.length=fn.params.toList.length:=by
  have:∀ {ts:List TypeId} {vs:List Value} {ds:List (DataW H)} {ps:List MemPlace},DataW.TrodAll enc P W 0 (fun _=>true) true ts vs ds ps→ds.length=ts.length:=by
   intro ts
   induction ts with
   |nil=>intro vs ds ps h;obtain ⟨_,rfl,_⟩:=trodAll_nil h;rfl
   |cons t ts ih=>intro vs ds ps h;obtain ⟨v,vs1,d,ds1,p,q,rfl,rfl,rfl,h0,h1⟩:=trodAll_cons h;simp [ih h1]
  exact this hA0
 have hlt:∀ y ∈ p++[],y.block<W.heap.size:=fun y hy=>hW'.lt y hy
 have hspec:=hfn H ds hlen
 rcases hp with ⟨v,hv,_⟩|⟨_,hc⟩
 ·rw [tg he] at hv;cases hv
 ·refine hc.mono ?_
  rintro e W' ⟨v,rfl,hq,hr⟩
  obtain rfl:=hr.exact rfl
  refine ⟨_,rfl,ds,[],p++[],[],p,[],hW',?_,?_,?_,am1 hq _,fun e=>by cases e⟩
  ·rw [List.append_nil,hspec,hres]
   exact trodAll_cons_mk (Go.RowKit.shut_bool htb _) trodAll_mk0
  ·rw [List.append_nil,hspec]
   exact again (kids_rows hlaid hmaps) hz hq hpar hA0 (fun y hy=>by have:=hlt y (by simp [hy]);simpa using this) (fun y hy=>hlt y (by simp [hy]))
  ·rw [List.append_nil,hspec,hvars]
   rfl
end
end Go.Vm
end
section
namespace Go.Vm
open Go.Proofs
theorem aoc:(Tryz.prog.underlying 3=some (.int .i64)) ∧
 (Tryz.prog.underlying 5=some (.int .u8)) ∧
 (Tryz.prog.underlying 9=some (.string)) ∧
 (Tryz.prog.underlying 22=some (.slice 9)) ∧
 (Tryz.prog.underlying 23=some (.slice 9)) ∧
 (Tryz.prog.underlying 24=some (.slice 58)) ∧
 (Tryz.prog.underlying 27=some (.slice 3)) ∧
 (Tryz.prog.underlying 32=some (.slice 46)) ∧
 (Tryz.prog.underlying 39=some (.int .u32)) ∧
 (Tryz.prog.underlying 40=some (.slice 23)):=
 ⟨by kernel_rfl,by kernel_rfl,by kernel_rfl,by kernel_rfl,by kernel_rfl,by kernel_rfl,by kernel_rfl,by kernel_rfl,by kernel_rfl,by kernel_rfl⟩
theorem arv:(Tryz.prog.underlying 41=some (.slice 39)) ∧
 (Tryz.prog.underlying 42=some (.slice 5)) ∧
 (Tryz.prog.underlying 56=some (.slice 44)) ∧
 (Tryz.prog.underlying 85=some (.map 88 3)) ∧
 (Tryz.prog.underlying 119=some (.pointer 121)) ∧
 (Tryz.prog.underlying 144=some (.pointer 5)) ∧
 (Tryz.prog.underlying 151=some (.int .u64)) ∧
 (Tryz.prog.underlying 152=some (.slice 42)) ∧
 (Tryz.prog.underlying 154=some (.unsafePointer)):=
 ⟨by kernel_rfl,by kernel_rfl,by kernel_rfl,by kernel_rfl,by kernel_rfl,by kernel_rfl,by kernel_rfl,by kernel_rfl,by kernel_rfl⟩
theorem aqe:(kj Tryz.prog 3=some false) ∧
 (kj Tryz.prog 4=some false) ∧
 (kj Tryz.prog 5=some false) ∧
 (kj Tryz.prog 9=some false) ∧
 (kj Tryz.prog 22=some false) ∧
 (kj Tryz.prog 23=some false) ∧
 (kj Tryz.prog 24=some false) ∧
 (kj Tryz.prog 26=some true):=
 ⟨by kernel_rfl,by kernel_rfl,by kernel_rfl,by kernel_rfl,by kernel_rfl,by kernel_rfl,by kernel_rfl,by kernel_rfl⟩
theorem ann:(kj Tryz.prog 30=some false) ∧
 (kj Tryz.prog 37=some false) ∧
 (kj Tryz.prog 38=some false) ∧
 (kj Tryz.prog 39=some false) ∧
 (kj Tryz.prog 40=some false) ∧
 (kj Tryz.prog 41=some false) ∧
 (kj Tryz.prog 42=some false) ∧
 (kj Tryz.prog 44=some true) ∧
 (kj Tryz.prog 46=some true) ∧
 (kj Tryz.prog 56=some false) ∧
 (kj Tryz.prog 58=some true) ∧
 (kj Tryz.prog 59=some false) ∧
 (kj Tryz.prog 88=some true):=
 ⟨by kernel_rfl,by kernel_rfl,by kernel_rfl,by kernel_rfl,by kernel_rfl,by kernel_rfl,by kernel_rfl,by kernel_rfl,by kernel_rfl,by kernel_rfl,by kernel_rfl,by kernel_rfl,by kernel_rfl⟩
theorem aqu:(kj Tryz.prog 115=some true) ∧
 (kj Tryz.prog 119=some false):=
 ⟨by kernel_rfl,by kernel_rfl⟩
theorem ai0:(dc Tryz.prog 3=some 1) ∧
 (dc Tryz.prog 4=some 1) ∧
 (dc Tryz.prog 5=some 1) ∧
 (dc Tryz.prog 9=some 1) ∧
 (dc Tryz.prog 22=some 1) ∧
 (dc Tryz.prog 23=some 1) ∧
 (dc Tryz.prog 24=some 1) ∧
 (dc Tryz.prog 26=some 2):=
 ⟨by kernel_rfl,by kernel_rfl,by kernel_rfl,by kernel_rfl,by kernel_rfl,by kernel_rfl,by kernel_rfl,by kernel_rfl⟩
theorem ait:(dc Tryz.prog 30=some 1) ∧
 (dc Tryz.prog 37=some 1) ∧
 (dc Tryz.prog 38=some 1) ∧
 (dc Tryz.prog 39=some 1) ∧
 (dc Tryz.prog 40=some 1) ∧
 (dc Tryz.prog 41=some 1) ∧
 (dc Tryz.prog 42=some 1) ∧
 (dc Tryz.prog 44=some 4) ∧
 (dc Tryz.prog 46=some 8) ∧
 (dc Tryz.prog 56=some 1) ∧
 (dc Tryz.prog 58=some 5) ∧
 (dc Tryz.prog 59=some 1) ∧
 (dc Tryz.prog 88=some 3):=
 ⟨by kernel_rfl,by kernel_rfl,by kernel_rfl,by kernel_rfl,by kernel_rfl,by kernel_rfl,by kernel_rfl,by kernel_rfl,by kernel_rfl,by kernel_rfl,by kernel_rfl,by kernel_rfl,by kernel_rfl⟩
theorem aic:(dc Tryz.prog 115=some 5) ∧
 (dc Tryz.prog 119=some 1) ∧
 (dc Tryz.prog 121=some 2):=
 ⟨by kernel_rfl,by kernel_rfl,by kernel_rfl⟩
theorem aj5:(fq Tryz.prog 3=some (.int .i64 0)) ∧
 (fq Tryz.prog 4=some (.bool false)) ∧
 (fq Tryz.prog 5=some (.int .u8 0)) ∧
 (fq Tryz.prog 23=some (.slice none 0 0)) ∧
 (fq Tryz.prog 26=some (.agg #[.slice none 0 0,.slice none 0 0])):=
 ⟨by kernel_rfl,by kernel_rfl,by kernel_rfl,by kernel_rfl,by kernel_rfl⟩
theorem ajc:(fq Tryz.prog 44=some (.agg #[.slice none 0 0,.slice none 0 0,.slice none 0 0,.slice none 0 0])) ∧
 (fq Tryz.prog 46=some (.agg #[.slice none 0 0,.int .u16 0,.int .u16 0,.int .u32 0,.slice none 0 0,.slice none 0 0,.slice none 0 0,.slice none 0 0])) ∧
 (fq Tryz.prog 58=some (.agg #[.slice none 0 0,.int .u16 0,.int .u16 0,.int .u32 0,.slice none 0 0])) ∧
 (fq Tryz.prog 88=some (.agg #[.string .empty,.int .u16 0,.int .u16 0])):=
 ⟨by kernel_rfl,by kernel_rfl,by kernel_rfl,by kernel_rfl⟩
theorem ajh:(fq Tryz.prog 115=some (.agg #[.int .i64 0,.int .i64 0,.int .i64 0,.int .i64 0,.int .i64 0])) ∧
 (fq Tryz.prog 121=some (.agg #[.pointer none,.slice none 0 0])):=
 ⟨by kernel_rfl,by kernel_rfl⟩
theorem apf:(Br Tryz.prog 22=some (9,1,[.sc (.string .empty)])) ∧
 (Br Tryz.prog 23=some (9,1,[.sc (.string .empty)])) ∧
 (Br Tryz.prog 24=some (58,5,[.sc (.slice none 0 0),.sc (.int .u16 0),.sc (.int .u16 0),.sc (.int .u32 0),.sc (.slice none 0 0)])) ∧
 (Br Tryz.prog 27=some (3,1,[.sc (.int .i64 0)])) ∧
 (Br Tryz.prog 32=some (46,8,[.sc (.slice none 0 0),.sc (.int .u16 0),.sc (.int .u16 0),.sc (.int .u32 0),.sc (.slice none 0 0),.sc (.slice none 0 0),.sc (.slice none 0 0),.sc (.slice none 0 0)])) ∧
 (Br Tryz.prog 40=some (23,1,[.sc (.slice none 0 0)])) ∧
 (Br Tryz.prog 41=some (39,1,[.sc (.int .u32 0)])) ∧
 (Br Tryz.prog 42=some (5,1,[.sc (.int .u8 0)])) ∧
 (Br Tryz.prog 56=some (44,4,[.sc (.slice none 0 0),.sc (.slice none 0 0),.sc (.slice none 0 0),.sc (.slice none 0 0)])) ∧
 (Br Tryz.prog 152=some (42,1,[.sc (.slice none 0 0)])):=
 ⟨by kernel_rfl,by kernel_rfl,by kernel_rfl,by kernel_rfl,by kernel_rfl,by kernel_rfl,by kernel_rfl,by kernel_rfl,by kernel_rfl,by kernel_rfl⟩
theorem afz:(yy Tryz.prog 26=some ([.sc (.slice none 0 0),.sc (.slice none 0 0)],[(0,1),(1,1)])) ∧
 (yy Tryz.prog 44=some ([.sc (.slice none 0 0),.sc (.slice none 0 0),.sc (.slice none 0 0),.sc (.slice none 0 0)],[(0,1),(1,1),(2,1),(3,1)])) ∧
 (yy Tryz.prog 46=some ([.sc (.slice none 0 0),.sc (.int .u16 0),.sc (.int .u16 0),.sc (.int .u32 0),.sc (.slice none 0 0),.sc (.slice none 0 0),.sc (.slice none 0 0),.sc (.slice none 0 0)],[(0,1),(1,1),(2,1),(3,1),(4,4)])) ∧
 (yy Tryz.prog 58=some ([.sc (.slice none 0 0),.sc (.int .u16 0),.sc (.int .u16 0),.sc (.int .u32 0),.sc (.slice none 0 0)],[(0,1),(1,1),(2,1),(3,1),(4,1)])) ∧
 (yy Tryz.prog 61=some ([.sc (.slice none 0 0),.sc (.slice none 0 0),.sc (.int .i64 0)],[(0,2),(2,1)])) ∧
 (yy Tryz.prog 88=some ([.sc (.string .empty),.sc (.int .u16 0),.sc (.int .u16 0)],[(0,1),(1,1),(2,1)])) ∧
 (yy Tryz.prog 115=some ([.sc (.int .i64 0),.sc (.int .i64 0),.sc (.int .i64 0),.sc (.int .i64 0),.sc (.int .i64 0)],[(0,1),(1,1),(2,1),(3,1),(4,1)])):=
 ⟨by kernel_rfl,by kernel_rfl,by kernel_rfl,by kernel_rfl,by kernel_rfl,by kernel_rfl,by kernel_rfl⟩
theorem ach:(ig Tryz.prog 26 0=some ⟨"Origin",23,0,false, "", "",0⟩) ∧
 (ig Tryz.prog 26 1=some ⟨"Sets",24,1,false, "", "",24⟩) ∧
 (ig Tryz.prog 44 0=some ⟨"Names",40,0,false, "", "",0⟩) ∧
 (ig Tryz.prog 44 1=some ⟨"Nums",41,1,false, "", "",24⟩):=
 ⟨by kernel_rfl,by kernel_rfl,by kernel_rfl,by kernel_rfl⟩
theorem adi:(ig Tryz.prog 44 2=some ⟨"Texts",22,2,false, "", "",48⟩) ∧
 (ig Tryz.prog 44 3=some ⟨"Raw",42,3,false, "", "",72⟩) ∧
 (ig Tryz.prog 46 0=some ⟨"Owner",23,0,false, "", "",0⟩) ∧
 (ig Tryz.prog 46 1=some ⟨"Type",37,1,false, "", "",24⟩) ∧
 (ig Tryz.prog 46 2=some ⟨"Class",38,2,false, "", "",26⟩) ∧
 (ig Tryz.prog 46 3=some ⟨"TTL",39,3,false, "", "",28⟩) ∧
 (ig Tryz.prog 46 4=some ⟨"Data",44,4,false, "", "",32⟩) ∧
 (ig Tryz.prog 58 0=some ⟨"Owner",23,0,false, "", "",0⟩) ∧
 (ig Tryz.prog 58 1=some ⟨"Type",37,1,false, "", "",24⟩) ∧
 (ig Tryz.prog 58 2=some ⟨"Class",38,2,false, "", "",26⟩) ∧
 (ig Tryz.prog 58 3=some ⟨"TTL",39,3,false, "", "",28⟩) ∧
 (ig Tryz.prog 58 4=some ⟨"Data",56,4,false, "", "",32⟩):=
 ⟨by kernel_rfl,by kernel_rfl,by kernel_rfl,by kernel_rfl,by kernel_rfl,by kernel_rfl,by kernel_rfl,by kernel_rfl,by kernel_rfl,by kernel_rfl,by kernel_rfl,by kernel_rfl⟩
theorem afm:(ig Tryz.prog 61 0=some ⟨"z",26,0,false, "", "nomenclator/zone",0⟩) ∧
 (ig Tryz.prog 61 1=some ⟨"e",30,2,false, "", "nomenclator/zone",48⟩) ∧
 (ig Tryz.prog 115 0=some ⟨"names",3,0,false, "", "nomenclator/rdata",0⟩) ∧
 (ig Tryz.prog 115 1=some ⟨"nums",3,1,false, "", "nomenclator/rdata",8⟩) ∧
 (ig Tryz.prog 115 2=some ⟨"size",3,2,false, "", "nomenclator/rdata",16⟩) ∧
 (ig Tryz.prog 115 3=some ⟨"texts",3,3,false, "", "nomenclator/rdata",24⟩) ∧
 (ig Tryz.prog 115 4=some ⟨"raw",3,4,false, "", "nomenclator/rdata",32⟩) ∧
 (ig Tryz.prog 121 0=some ⟨"addr",119,0,false, "", "strings",0⟩) ∧
 (ig Tryz.prog 121 1=some ⟨"buf",42,1,false, "", "strings",8⟩):=
 ⟨by kernel_rfl,by kernel_rfl,by kernel_rfl,by kernel_rfl,by kernel_rfl,by kernel_rfl,by kernel_rfl,by kernel_rfl,by kernel_rfl⟩
theorem ao7:(Ap Tryz.prog 22=some (9,1,16)) ∧
 (Ap Tryz.prog 23=some (9,1,16)) ∧
 (Ap Tryz.prog 24=some (58,5,56)) ∧
 (Ap Tryz.prog 32=some (46,8,128)) ∧
 (Ap Tryz.prog 40=some (23,1,24)) ∧
 (Ap Tryz.prog 41=some (39,1,4)) ∧
 (Ap Tryz.prog 42=some (5,1,1)) ∧
 (Ap Tryz.prog 56=some (44,4,96)):=
 ⟨by kernel_rfl,by kernel_rfl,by kernel_rfl,by kernel_rfl,by kernel_rfl,by kernel_rfl,by kernel_rfl,by kernel_rfl⟩
theorem TF:type_of% aoc∧type_of% arv∧type_of% aqe∧type_of% ann∧type_of% aqu∧type_of% ai0∧type_of% ait∧type_of% aic∧type_of% aj5∧type_of% ajc∧type_of% ajh∧type_of% apf∧type_of% afz∧type_of% ach∧type_of% adi∧type_of% afm∧type_of% ao7:=
 ⟨aoc,arv,aqe,ann,aqu,ai0,ait,aic,aj5,ajc,ajh,apf,afz,ach,adi,afm,ao7⟩
end Go.Vm
end
section
namespace Go.Proofs.YtifjogffkafalaaGreat
open Go.Vm
noncomputable abbrev PP:=Tryz.prog
theorem mixed:PP.follows .mixedOrders=true:=by kernel_rfl
theorem bk {T:er} (hT:aq PP T) {f:Nat} {fn:Func} (hf:PP.funcs[f]? = some fn) (hb:fn.body.isSome=true) (he:m7 PP f=true) (hs:ef fn.ntmps (fn.body.getD .skip)=true)
 {args:List AV} (hl:args.length≤fn.ntmps) {ρ:Type} (R:RC ρ) (fr:Bool) (x : ρ)
 (h:wl PP T 0 (fn.body.getD .skip) (du PP fn.results.toList (fun r st=>R.get fr st.h r=some x)) (cg 0 args) (bb [])):bu PP f args (R.E fr x):=
 Wy (body:=fn.body.getD .skip) hT mixed hf (by cases hq:fn.body with|none=>rw [hq] at hb;cases hb|some b=>rfl) he hs hl R fr x h
def jy (s:ByteArray):Int:=if s.size<1∨63<s.size then 4 else 0
theorem aav (s:ByteArray):wl PP [] 0 (Tryz.f54.body.getD .skip) (du PP Tryz.f54.results.toList (fun r st=>(r1 (bc .i64)).get true st.h r=some (jy s))) (cg 0 [ai.val false s]) (bb []):=by
 unfold Tryz.f54
 simp only [↓wR,RA,simprocAttr,TF]
 rw [dm]
 refine ⟨fun h=>?_,fun h=>?_⟩
 ·have h1:s.size<1:=by simp at h;omega
  simp only [↓wR,RA,simprocAttr,TF,jy,h,h1,true_or]
 ·have h1:¬ s.size<1:=by simp at h;omega
  simp only [↓wR,RA,simprocAttr,TF,h]
  rw [dm]
  refine ⟨fun h=>?_,fun h=>?_⟩
  ·have h2 : 63<s.size:=by simp at h;omega
   simp only [↓wR,RA,simprocAttr,TF,jy,h2,or_true]
  ·have h2:¬ 63<s.size:=by simp at h;omega
   simp only [↓wR,RA,simprocAttr,TF,jy,h1,h2,or_self]
noncomputable def Hs (x:ByteArray × Unit):Option AV:=some ((r1 (bc .i64)).E true (jy x.1))
set_option maxRecDepth 2000000 in
theorem S0 (x:ByteArray × Unit) (r:AV) (h:Hs x=some r):bu PP 54 ((aC ai a0).E x) r:=by
 cases h
 exact bk (aq.nil PP) Tryz.func54 (by kernel_rfl) (by kernel_rfl) (by kernel_rfl) (Nat.le_of_ble_eq_true (by kernel_rfl)) (r1 (bc .i64)) true (jy x.1) (aav x.1)
noncomputable abbrev alf:Nat × Bool × (List AV→M AV):=(54,true,dq (aC ai a0) Hs)
def bt (n:Name):Nat:=n.foldl (fun k s=>k+(s.size+1)) 1
theorem aaw (l:Name) (c:ByteArray):bt (l++[c])=bt l+(c.size+1):=by simp [bt]
theorem aa3 (n:Name) (i:Nat) (c:ByteArray) (h:n[i]? = some c):bt (n.take (i+1))=bt (n.take i)+(c.size+1):=by
 obtain ⟨hk,rfl⟩:=List.getElem?_eq_some_iff.1 h
 rw [List.take_succ_eq_append_getElem hk,aaw]
theorem Du (l:Name):∀ k,l.foldl (fun k s=>k+(s.size+1)) k=k+l.foldl (fun k s=>k+(s.size+1)) 0:=by
 induction l with
 |nil=>intro k;simp
 |cons a l ih=>intro k;simp only [List.foldl_cons];rw [ih,ih (0+_)];omega
theorem te (a b:Name):bt (a++b)+1=bt a+bt b:=by
 simp only [bt,List.foldl_append]
 rw [Du b,Du b 1];omega
theorem oj (n:Name) (i:Nat):bt (n.take i)≤bt n∧n.length<bt n:=by
 constructor
 ·have:=te (n.take i) (n.drop i)
  rw [List.take_append_drop] at this
  have h1 : 1≤bt (n.drop i):=by simp only [bt];rw [Du];omega
  omega
 ·induction n with
  |nil=>simp [bt]
  |cons a l ih=>
   have:=te [a] l
   simp only [List.singleton_append] at this
   have h1:bt [a]=a.size+2:=by simp [bt];omega
   simp only [List.length_cons]
   omega
theorem wrap_i64 (x:Int) (h0 : -9223372036854775808≤x) (h1:x<9223372036854775808):IntKind.i64.wrap x=x:=by
 simp [IntKind.wrap,IntKind.bits,IntKind.signed];omega
theorem ahs (n:Name) (hn:bt n<17592186044416):wl PP [] 0 (Tryz.f55.body.getD .skip) (du PP Tryz.f55.results.toList (fun r st=>(r1 (bc .i64)).get true st.h r=some (bt n:Int))) (cg 0 [az.val false n]) (bb []):=by
 unfold Tryz.f55
 rw [dt]
 simp only [↓wR,RA,simprocAttr,TF]
 refine c8 [3,6,7,8] (fun (x:Nat)=>[.sc (.int .i64 (bt (n.take x))),.vl false 1 (n.map (ai.val false)),.sc (.int .i64 n.length),.sc (.int .i64 x)]) (fun _=>[]) (fun x=>x≤n.length) (fun x=>n.length - x) 0 (Nat.zero_le _) ?_ ?_ ?_
 ·simp only [↓wR,RA,simprocAttr,TF]<;>rfl
 ·simp only [↓wR,RA,simprocAttr,TF]
 ·intro i hi
  have h1:=oj n i
  simp only [↓wR,RA,simprocAttr,TF]
  rw [dm]
  refine ⟨fun h=>?_,fun h=>?_⟩
  ·have h4:i<n.length:=by simp at h;omega
   obtain ⟨c,hc⟩:∃ c,n[i]? = some c:=⟨n[i],by simp [h4]⟩
   have h2:=aa3 n i c hc
   have h3:=(oj n (i+1)).1
   simp only [↓wR,RA,simprocAttr,TF,hc]
   refine ⟨i+1,by omega,by omega,?_⟩
   rw [h2]
   simp only [List.cons.injEq,and_true,true_and,AV.sc.injEq,Value.int.injEq]
   refine ⟨?_,?_⟩
   ·rw [wrap_i64 ((c.size:Int)+1) (by omega) (by omega),wrap_i64 _ (by omega) (by omega)];omega
   ·rw [wrap_i64 _ (by omega) (by omega)];omega
  ·have h4:i=n.length:=by simp at h;omega
   subst h4
   simp only [↓wR,RA,simprocAttr,TF,List.take_length]
noncomputable def Ac (x:Name × Unit):Option AV:=if bt x.1<17592186044416 then some ((r1 (bc .i64)).E true ((bt x.1:Int))) else none
set_option maxRecDepth 2000000 in
theorem Wp (x:Name × Unit) (r:AV) (h:Ac x=some r):bu PP 55 ((aC az a0).E x) r:=by
 by_cases hc:bt x.1<17592186044416
 case neg=>simp only [Ac,if_neg hc] at h;cases h
 simp only [Ac,if_pos hc] at h
 cases h
 exact bk (aq.nil PP) Tryz.func55 (by kernel_rfl) (by kernel_rfl) (by kernel_rfl) (Nat.le_of_ble_eq_true (by kernel_rfl)) (r1 (bc .i64)) true ((bt x.1:Int)) (ahs x.1 hc)
noncomputable abbrev aqp:Nat × Bool × (List AV→M AV):=(55,true,dq (aC az a0) Ac)
def su (n:Name):Bool:=n.any fun s=>decide (jy s≠0)
def cy (n:Name):Int:=if su n then 4 else if 255<bt n then 5 else 0
theorem abj (n:Name) (i:Nat) (c:ByteArray) (h:n[i]? = some c):su (n.take (i+1))=(su (n.take i) || decide (jy c≠0)):=by
 obtain ⟨hk,rfl⟩:=List.getElem?_eq_some_iff.1 h
 rw [List.take_succ_eq_append_getElem hk]
 simp only [su,List.any_append,List.any_cons,List.any_nil,Bool.or_false]
theorem abp (n:Name) (i:Nat) (c:ByteArray) (h:n[i]? = some c) (hc:jy c≠0):su n=true:=by
 simp only [su,List.any_eq_true]
 exact ⟨c,List.mem_of_getElem? h,by simp [hc]⟩
theorem ac1 (s:ByteArray):jy s=0∨jy s=4:=by unfold jy;split<;>simp
theorem aef (n:Name) (hn:bt n<17592186044416):wl PP [alf,aqp] 0 (Tryz.f38.body.getD .skip) (du PP Tryz.f38.results.toList (fun r st=>(r1 (bc .i64)).get true st.h r=some (cy n))) (cg 0 [az.val false n]) (bb []):=by
 unfold Tryz.f38
 rw [dt]
 simp only [↓wR,RA,simprocAttr,TF]
 refine c8 [0,6,7,8] (fun (x:Nat)=>[.vl false 1 (n.map (ai.val false)),.vl false 1 (n.map (ai.val false)),.sc (.int .i64 n.length),.sc (.int .i64 x)]) (fun _=>[]) (fun x=>x≤n.length∧su (n.take x)=false) (fun x=>n.length - x) 0 ⟨Nat.zero_le _,by simp [su]⟩ ?_ ?_ ?_
 ·simp only [↓wR,RA,simprocAttr,TF]<;>rfl
 ·simp only [↓wR,RA,simprocAttr,TF]
 ·rintro i ⟨hi,hb⟩
  have h1:=oj n i
  simp only [↓wR,RA,simprocAttr,TF]
  rw [dm]
  refine ⟨fun h=>?_,fun h=>?_⟩
  ·have h4:i<n.length:=by simp at h;omega
   obtain ⟨c,hc⟩:∃ c,n[i]? = some c:=⟨n[i],by simp [h4]⟩
   simp only [↓wR,RA,simprocAttr,TF,hc,Hs]
   rw [dm]
   refine ⟨fun h=>?_,fun h=>?_⟩
   ·have h5:jy c≠0:=by simpa using h
    have h6:jy c=4:=(ac1 c).resolve_left h5
    simp only [↓wR,RA,simprocAttr,TF,cy,abp n i c hc h5,h6]
   ·have h5:jy c=0:=by simpa using h
    simp only [↓wR,RA,simprocAttr,TF]
    refine ⟨i+1,⟨by omega,by rw [abj n i c hc,hb];simp [h5]⟩,by omega,?_⟩
    simp only [List.cons.injEq,and_true,true_and,AV.sc.injEq,Value.int.injEq]
    rw [wrap_i64 _ (by omega) (by omega)];omega
  ·have h4:i=n.length:=by simp at h;omega
   subst h4
   rw [List.take_length] at hb
   simp only [↓wR,RA,simprocAttr,TF,Ac,hn]
   rw [dm]
   refine ⟨fun h=>?_,fun h=>?_⟩
   ·have h5 : 255<bt n:=by simp at h;omega
    simp only [↓wR,RA,simprocAttr,TF,cy,hb,h5]
   ·have h5:¬ 255<bt n:=by simp at h;omega
    simp only [↓wR,RA,simprocAttr,TF,cy,hb,h5]
noncomputable def i3 (x:Name × Unit):Option AV:=if bt x.1<17592186044416 then some ((r1 (bc .i64)).E true (cy x.1)) else none
set_option maxRecDepth 2000000 in
theorem sh (x:Name × Unit) (r:AV) (h:i3 x=some r):bu PP 38 ((aC az a0).E x) r:=by
 by_cases hc:bt x.1<17592186044416
 case neg=>simp only [i3,if_neg hc] at h;cases h
 simp only [i3,if_pos hc] at h
 cases h
 exact bk (aq.cons (ar S0) (aq.cons (ar Wp) (aq.nil PP))) Tryz.func38 (by kernel_rfl) (by kernel_rfl) (by kernel_rfl) (Nat.le_of_ble_eq_true (by kernel_rfl)) (r1 (bc .i64)) true (cy x.1) (aef x.1 hc)
noncomputable abbrev dj:Nat × Bool × (List AV→M AV):=(38,true,dq (aC az a0) i3)
def low (c:UInt8):UInt8:=if 65≤c∧c≤90 then c+32 else c
def fold (s:ByteArray):ByteArray:=⟨(s.data.toList.map low).toArray⟩
def pg (l:List UInt8) (i:Nat):List UInt8:=(l.take i).map low++l.drop i
theorem ap1 (l:List UInt8) (i:Nat):(pg l i).length=l.length:=by simp [pg];omega
theorem Zx (l:List UInt8) (i:Nat) (h:i<l.length):(pg l i)[i]? = l[i]? := by
 simp [pg,List.getElem?_append,Nat.min_eq_left (Nat.le_of_lt h)]
theorem Zf (l:List UInt8) (i:Nat) (h:i<l.length):(pg l i).take i++[low l[i]]++(pg l i).drop (i+1)=pg l (i+1):=by
 have h1:((l.take i).map low).length=i:=by simp;omega
 have h2:(pg l i).take i=(l.take i).map low:=by rw [pg,List.take_append_of_le_length (by omega),List.take_of_length_le (by omega)]
 have h3:(pg l i).drop (i+1)=l.drop (i+1):=by
  rw [pg,List.drop_append,List.drop_eq_nil_of_le (by omega),h1]
  simp
 rw [h2,h3,pg,List.take_succ_eq_append_getElem h,List.map_append]
 rfl
theorem Vl (l:List UInt8) (i:Nat) (h:i<l.length) (hk:low l[i]=l[i]):pg l i=pg l (i+1):=by
 rw [← Zf l i h,hk]
 have:(pg l i)[i]? = some l[i]:=by rw [Zx l i h];simp [h]
 obtain ⟨hlt,e⟩:=List.getElem?_eq_some_iff.1 this
 rw [← e,← List.take_succ_eq_append_getElem hlt,List.take_append_drop]
set_option maxRecDepth 20000 in
theorem aby (s:ByteArray) (hs:s.size≤16777216):wl PP [] 0 (Tryz.f84.body.getD .skip) (du PP Tryz.f84.results.toList (fun r st=>(r1 ai).get true st.h r=some (fold s))) (cg 0 [ai.val false s]) (bb []):=by
 unfold Tryz.f84
 have hl:s.data.toList.length=s.size:=by simp
 simp only [↓wR,RA,simprocAttr,TF,hs]
 refine c8 [3,8,9,10] (fun (x:Nat)=>[.sl 0 0 s.size 1,.sl 0 0 s.size 1,.sc (.int .i64 s.size),.sc (.int .i64 x)]) (fun x=>[some (.row ((pg s.data.toList x).map (bp.val false)) 0 1 5)]) (fun x=>x≤s.size) (fun x=>s.size - x) 0 (Nat.zero_le _) ?_ ?_ ?_
 ·simp only [↓wR,RA,simprocAttr,TF]<;>rfl
 ·simp only [↓wR,RA,simprocAttr,TF]<;>rfl
 ·intro i hi
  simp only [↓wR,RA,simprocAttr,TF]
  rw [dm]
  refine ⟨fun h=>?_,fun h=>?_⟩
  ·have h4:i<s.size:=by simp at h;omega
   have h6:i<s.data.toList.length:=by omega
   have h5:(pg s.data.toList i)[i]? = some s.data.toList[i]:=by rw [Zx s.data.toList i h6];simp [h6]
   obtain ⟨c,hc⟩:∃ c,s.data.toList[i]=c:=⟨_,rfl⟩
   have hcl:=c.toNat_lt
   rw [hc] at h5
   simp only [↓wR,RA,simprocAttr,TF,h4,h5]
   rw [dm]
   refine ⟨fun h1=>?_,fun h1=>?_⟩
   ·simp only [↓wR,RA,simprocAttr,TF,h1]
    rw [dm]
    refine ⟨fun h2=>?_,fun h2=>?_⟩
    ·have h7:i+1≤s.size:=by omega
     have hlow:low c=c+32:=by
      simp at h1 h2
      have a1 : 65≤c:=by rw [UInt8.le_iff_toNat_le];simp;omega
      have a2:c≤90:=by rw [UInt8.le_iff_toNat_le];simp;omega
      simp [low,a1,a2]
     have hw:IntKind.u8.wrap (IntKind.u8.wrap ((c.toNat:Int)+97) - 65)=((low c).toNat:Int):=by
      simp at h1 h2
      rw [hlow]
      simp [IntKind.wrap,IntKind.bits,IntKind.signed,UInt8.toNat_add]
      omega
     have hst:List.map (bp.val false) (List.take i (pg s.data.toList i))++[AV.sc (Value.int IntKind.u8 ((low c).toNat:Int))]++List.map (bp.val false) (List.drop (i+1) (pg s.data.toList i))=List.map (bp.val false) (pg s.data.toList (i+1)):=by
      rw [← Zf s.data.toList i h6,hc,List.map_append,List.map_append];rfl
     simp only [↓wR,RA,simprocAttr,TF,h4,h7,ap1,hl,hw,hst]
     refine ⟨i+1,h7,by omega,?_,rfl⟩
     rw [wrap_i64 _ (by omega) (by omega)];rfl
    ·simp only [↓wR,RA,simprocAttr,TF]
     have hk:low c=c:=by
      simp at h2
      have a2:¬ c≤90:=by rw [UInt8.le_iff_toNat_le];simp;omega
      simp [low,a2]
     refine ⟨i+1,by omega,by omega,?_,?_⟩
     ·rw [wrap_i64 _ (by omega) (by omega)];rfl
     ·rw [Vl s.data.toList i h6 (by rw [hc];exact hk)]
   ·simp only [↓wR,RA,simprocAttr,TF,h1]
    have hk:low c=c:=by
     simp at h1
     have a2:¬ 65≤c:=by rw [UInt8.le_iff_toNat_le];simp;omega
     simp [low,a2]
    refine ⟨i+1,by omega,by omega,?_,?_⟩
    ·rw [wrap_i64 _ (by omega) (by omega)];rfl
    ·rw [Vl s.data.toList i h6 (by rw [hc];exact hk)]
  ·have h4:i=s.size:=by simp at h;omega
   subst h4
   have:∃ m,List.map low s.data.toList=m:=⟨_,rfl⟩
   obtain ⟨m,hm⟩:=this
   have h5:pg s.data.toList s.size=m:=by rw [pg,List.take_of_length_le (Nat.le_of_eq hl),List.drop_eq_nil_of_le (Nat.le_of_eq hl),List.append_nil,hm]
   have hlm:m.length=s.size:=by rw [← hm,List.length_map,hl]
   have h6:List.take s.size (List.map (bp.val false) m)=List.map (bp.val false) m:=List.take_of_length_le (by rw [List.length_map,hlm];exact Nat.le_refl _)
   have hf:fold s=⟨m.toArray⟩:=by rw [fold,hm]
   rw [h5,hf]
   simp only [↓wR,RA,simprocAttr,TF,hlm,h6]
noncomputable def vi (x:ByteArray × Unit):Option AV:=if x.1.size≤16777216 then some ((r1 ai).E true (fold x.1)) else none
set_option maxRecDepth 2000000 in
theorem B7 (x:ByteArray × Unit) (r:AV) (h:vi x=some r):bu PP 84 ((aC ai a0).E x) r:=by
 by_cases hc:x.1.size≤16777216
 case neg=>simp only [vi,if_neg hc] at h;cases h
 simp only [vi,if_pos hc] at h
 cases h
 exact bk (aq.nil PP) Tryz.func84 (by kernel_rfl) (by kernel_rfl) (by kernel_rfl) (Nat.le_of_ble_eq_true (by kernel_rfl)) (r1 ai) true (fold x.1) (aby x.1 hc)
noncomputable abbrev Nq:Nat × Bool × (List AV→M AV):=(84,true,dq (aC ai a0) vi)
theorem aej (a b:ByteArray) (ha:a.size≤16777216) (hb:b.size≤16777216):wl PP [Nq] 0 (Tryz.f52.body.getD .skip) (du PP Tryz.f52.results.toList (fun r st=>(r1 bw).get true st.h r=some (decide (fold a=fold b)))) (cg 0 [ai.val false a,ai.val false b]) (bb []):=by
 unfold Tryz.f52
 simp only [↓wR,RA,simprocAttr,TF,vi,ha,hb]
noncomputable def Ax (x:ByteArray × ByteArray × Unit):Option AV:=if x.1.size≤16777216∧x.2.1.size≤16777216 then some ((r1 bw).E true (decide (fold x.1=fold x.2.1))) else none
set_option maxRecDepth 2000000 in
theorem Xc (x:ByteArray × ByteArray × Unit) (r:AV) (h:Ax x=some r):bu PP 52 ((aC ai (aC ai a0)).E x) r:=by
 by_cases hc:x.1.size≤16777216∧x.2.1.size≤16777216
 case neg=>simp only [Ax,if_neg hc] at h;cases h
 simp only [Ax,if_pos hc] at h
 cases h
 exact bk (aq.cons (ar B7) (aq.nil PP)) Tryz.func52 (by kernel_rfl) (by kernel_rfl) (by kernel_rfl) (Nat.le_of_ble_eq_true (by kernel_rfl)) (r1 bw) true (decide (fold x.1=fold x.2.1)) (aej x.1 x.2.1 hc.1 hc.2)
noncomputable abbrev anx:Nat × Bool × (List AV→M AV):=(52,true,dq (aC ai (aC ai a0)) Ax)
def fk:List ByteArray→List ByteArray→Nat
 |a::r,b::q=>if fold a=fold b then fk r q+1 else 0
 |_,_=>0
theorem ahk (l:List ByteArray):fk l []=0:=by cases l<;>rfl
def common (a b:Name):Nat:=fk a.reverse b.reverse
theorem af7 {l:List ByteArray} {x:Nat} {c:ByteArray} (h:x<l.length) (hc:l[l.length - 1 - x]? = some c):l.reverse.drop x=c::l.reverse.drop (x+1):=by
 have h1:l.reverse[x]? = some c:=by rw [List.getElem?_reverse h];exact hc
 obtain ⟨h2,h3⟩:=List.getElem?_eq_some_iff.1 h1
 rw [← h3];exact List.drop_eq_getElem_cons h2
set_option maxRecDepth 20000 in
theorem aau (a b:Name) (ha:∀ s ∈ a,s.size≤16777216) (hb:∀ s ∈ b,s.size≤16777216) (hla:a.length<17592186044416) (hlb:b.length<17592186044416):wl PP [anx] 0 (Tryz.f35.body.getD .skip) (du PP Tryz.f35.results.toList (fun r st=>(r1 (bc .i64)).get true st.h r=some (common a b:Int))) (cg 0 [az.val false a,az.val false b]) (bb []):=by
 unfold Tryz.f35
 simp only [dt]
 simp only [↓wR,RA,simprocAttr,TF]
 refine bm (T:=[]) (aq.nil PP) mixed Tryz.func51 rfl (by kernel_rfl) (by kernel_rfl) (by kernel_rfl) (by kernel_rfl) ?_;unfold Tryz.f51
 simp only [↓wR,RA,simprocAttr,TF]
 refine ⟨[2,3,4,5,10],?_⟩
 have hib:wt PP 83=some (Tryz.f83.ntmps,Tryz.f83.body.getD .skip):=by kernel_rfl
 simp only [↓wR,RA,simprocAttr,TF,hib]
 refine ⟨by kernel_rfl,fun l=>?_⟩
 unfold Tryz.f83
 simp only [↓wR,RA,simprocAttr,TF]
 refine Gg [0,1,3] (fun (x:Nat)=>[.sc (.func (.yield l) #[] #[]),.ptr 4 0,.sc (.int .i64 ((a.length:Int) - 1 - x))]) (fun x=>[some (.row [.vl false 1 (a.map (ai.val false))] 0 2 23),some (.row [.vl false 1 (b.map (ai.val false))] 0 2 23),some (.row [.sc (.int .i64 0)] 0 2 3),some (.row [.sc (.int .i64 x)] 0 2 3),some (.row [.vl false 1 (a.map (ai.val false))] 0 2 23)]) (fun x=>x≤a.length∧common a b=x+fk (a.reverse.drop x) (b.reverse.drop x)) (fun x=>a.length - x) 0 ⟨Nat.zero_le _,by simp [common]⟩ ?_ ?_ ?_
 ·simp only [↓wR,RA,simprocAttr,TF];simp;rw [wrap_i64 _ (by omega) (by omega)]
 ·simp only [↓wR,RA,simprocAttr,TF]<;>rfl
 rintro x ⟨hx,hR⟩
 simp only [↓wR,RA,simprocAttr,TF]
 rw [yc];refine ⟨fun h=>?_,fun h=>?_⟩
 ·have hx':x<a.length:=by simp at h;omega
  obtain ⟨c,hc⟩:∃ c,a[a.length - 1 - x]? = some c:=⟨_,List.getElem?_eq_getElem (by omega)⟩
  have e:((a.length:Int) - 1 - x).toNat=a.length - 1 - x:=by omega
  have e2:(0:Int)≤(a.length:Int) - 1 - x:=by omega
  simp only [↓wR,RA,simprocAttr,TF,e,hc,e2]
  refine z8 [0,1,3,12,16] ?_
  simp only [↓wR,RA,simprocAttr,TF,A1,po,hc]
  simp (disch:=omega) only [ah,bh,bf,bg,be]
  rw [dm];refine ⟨fun h1=>?_,fun h1=>?_⟩
  ·have hb0:b.length≤x:=by simp at h1;omega
   have hb1:b.reverse.drop x=[]:=List.drop_eq_nil_of_le (by simpa using hb0)
   rw [hb1,ahk] at hR
   simp only [↓wR,RA,simprocAttr,TF,h1]
   rw [hR,Nat.add_zero]
  ·have hb0:x<b.length:=by simp at h1;omega
   obtain ⟨d,hd⟩:∃ d,b[b.length - 1 - x]? = some d:=⟨_,List.getElem?_eq_getElem (by omega)⟩
   have e4:((b.length:Int) - ((a.length:Int) - ((a.length:Int) - 1 - x))).toNat=b.length - 1 - x:=by omega
   have e5:(0:Int)≤(b.length:Int) - ((a.length:Int) - ((a.length:Int) - 1 - x)):=by omega
   simp only [↓wR,RA,simprocAttr,TF,h1,hd,e4,e5,Ax,ha c (List.mem_of_getElem? hc),hb d (List.mem_of_getElem? hd)]
   rw [af7 hx' hc,af7 hb0 hd,fk] at hR
   rw [dm];refine ⟨fun h2=>?_,fun h2=>?_⟩
   ·have h3:¬ fold c=fold d:=by simpa using h2
    rw [if_neg h3] at hR
    simp only [↓wR,RA,simprocAttr,TF,h2]
    rw [hR,Nat.add_zero]
   ·have h3:fold c=fold d:=by simpa using h2
    rw [if_pos h3] at hR
    simp only [↓wR,RA,simprocAttr,TF,h2]
    refine ⟨x+1,⟨by omega,by omega⟩,by omega,?_,?_⟩
    ·simp only [List.cons.injEq,and_true,true_and,AV.sc.injEq,Value.int.injEq]
     simp (disch:=omega) only [ah,bh,bf,bg,be]
     omega
    ·simp (disch:=omega) only [ah,bh,bf,bg,be]
     rfl
 ·have h4:x=a.length:=by simp at h;omega
  have h5:a.reverse.drop x=[]:=List.drop_eq_nil_of_le (by simp;omega)
  rw [h5,fk] at hR
  simp only [↓wR,RA,simprocAttr,TF,h]
  rw [hR,Nat.add_zero]
  all_goals simp
theorem ahn (args:List AV):zg PP 111 args (Cx.j5 args):=
 Cx.Bd (fn:=(PP.funcs[111]?).getD default) (by kernel_rfl) (by kernel_rfl) (by kernel_rfl) (by kernel_rfl) (by kernel_rfl) args
noncomputable abbrev aqc:Nat × Bool × (List AV→M AV):=(111,true,Cx.j5)
theorem aq5:aq PP [aqc]:=aq.cons ahn (aq.nil PP)
noncomputable def Bs (a b:ByteArray):Int:=Lib.compareBytes a.data.toList b.data.toList
theorem Pj (a b:ByteArray):wl PP [] 0 (Tryz.f100.body.getD .skip) (du PP Tryz.f100.results.toList (fun r st=>(r1 (bc .i64)).get true st.h r=some (Bs a b))) (cg 0 [ai.val false a,ai.val false b]) (bb []):=by
 unfold Tryz.f100
 simp only [↓wR,RA,simprocAttr,TF]
 refine bm (T:=[aqc]) aq5 mixed Tryz.func108 rfl (by kernel_rfl) (by kernel_rfl) (by kernel_rfl) (by kernel_rfl) ?_;unfold Tryz.f108
 simp only [↓wR,RA,simprocAttr,TF,Bs]
noncomputable def A2 (x:ByteArray × ByteArray × Unit):Option AV:=some ((r1 (bc .i64)).E true (Bs x.1 x.2.1))
set_option maxRecDepth 2000000 in
theorem Lh (x:ByteArray × ByteArray × Unit) (r:AV) (h:A2 x=some r):bu PP 100 ((aC ai (aC ai a0)).E x) r:=by
 cases h
 exact bk (aq.nil PP) Tryz.func100 (by kernel_rfl) (by kernel_rfl) (by kernel_rfl) (Nat.le_of_ble_eq_true (by kernel_rfl)) (r1 (bc .i64)) true (Bs x.1 x.2.1) (Pj x.1 x.2.1)
noncomputable abbrev Wl:Nat × Bool × (List AV→M AV):=(100,true,dq (aC ai (aC ai a0)) A2)
theorem U0 (a b:ByteArray) (ha:a.size≤16777216) (hb:b.size≤16777216):wl PP [Nq,Wl] 0 (Tryz.f85.body.getD .skip) (du PP Tryz.f85.results.toList (fun r st=>(r1 (bc .i64)).get true st.h r=some (Bs (fold a) (fold b)))) (cg 0 [ai.val false a,ai.val false b]) (bb []):=by
 unfold Tryz.f85
 simp only [↓wR,RA,simprocAttr,TF,vi,A2,ha,hb]
noncomputable def v7 (x:ByteArray × ByteArray × Unit):Option AV:=if x.1.size≤16777216∧x.2.1.size≤16777216 then some ((r1 (bc .i64)).E true (Bs (fold x.1) (fold x.2.1))) else none
set_option maxRecDepth 2000000 in
theorem Pk (x:ByteArray × ByteArray × Unit) (r:AV) (h:v7 x=some r):bu PP 85 ((aC ai (aC ai a0)).E x) r:=by
 by_cases hc:x.1.size≤16777216∧x.2.1.size≤16777216
 case neg=>simp only [v7,if_neg hc] at h;cases h
 simp only [v7,if_pos hc] at h
 cases h
 exact bk (aq.cons (ar B7) (aq.cons (ar Lh) (aq.nil PP))) Tryz.func85 (by kernel_rfl) (by kernel_rfl) (by kernel_rfl) (Nat.le_of_ble_eq_true (by kernel_rfl)) (r1 (bc .i64)) true (Bs (fold x.1) (fold x.2.1)) (U0 x.1 x.2.1 hc.1 hc.2)
noncomputable abbrev aga:Nat × Bool × (List AV→M AV):=(85,true,dq (aC ai (aC ai a0)) v7)
def fw (n:Name):List ByteArray:=n.map fold
def cp (n:Name):Prop:=bt n≤16777216
instance (n:Name):Decidable (cp n):=inferInstanceAs (Decidable (_≤_))
theorem acg {n:Name} {s:ByteArray} (h:s ∈ n):s.size<bt n:=by
 obtain ⟨a,b,rfl⟩:=List.append_of_mem h
 have h1:=te a ([s]++b)
 have h2:=te [s] b
 have h3:bt [s]=s.size+2:=by simp [bt];omega
 have h4:∀ l:Name,1≤bt l:=fun l=>by have:=(oj l 0).2;omega
 have:=h4 a;have:=h4 b
 simp only [List.singleton_append] at h1 h2
 omega
theorem cp.label {n:Name} (h:cp n):∀ s ∈ n,s.size≤16777216:=fun s hs=>by have:=acg hs;unfold cp at h;omega
theorem cp.len {n:Name} (h:cp n):n.length<17592186044416:=by have:=(oj n 0).2;unfold cp at h;omega
theorem Jh:∀ r q:List ByteArray,fk r q≤q.length
 | [],q=>by simp [fk]
 |a::r,[]=>by simp [fk]
 |a::r,b::q=>by
  have:=Jh r q
  simp only [fk,List.length_cons]
  split<;>omega
theorem F8:∀ r q:List ByteArray,fk r q≤r.length
 | [],q=>by simp [fk]
 |a::r,[]=>by simp [fk]
 |a::r,b::q=>by
  have:=F8 r q
  simp only [fk,List.length_cons]
  split<;>omega
theorem Q3:∀ r q:List ByteArray,fk r q=q.length↔q.map fold <+: r.map fold
 | [],[]=>by simp [fk]
 |a::r,[]=>by simp [fk]
 | [],b::q=>by simp [fk]
 |a::r,b::q=>by
  have:=Q3 r q
  simp only [fk,List.length_cons,List.map_cons,List.cons_prefix_cons]
  by_cases h:fold a=fold b
  ·rw [if_pos h]
   constructor
   ·intro h1;exact ⟨h.symm,this.1 (by omega)⟩
   ·intro h1;have:=this.2 h1.2;omega
  ·rw [if_neg h]
   constructor
   ·intro h1;omega
   ·intro h1;exact (h h1.1.symm).elim
theorem E3 (n top:Name):common n top=top.length↔fw top <:+ fw n:=by
 unfold common fw
 rw [← List.length_reverse,Q3,List.map_reverse,List.map_reverse,List.reverse_prefix]
theorem P8 (a b:Name):(a.length=b.length∧common a b=a.length)↔fw a=fw b:=by
 constructor
 ·rintro ⟨h1,h2⟩
  rw [h1] at h2
  have:=(E3 a b).1 h2
  exact (this.eq_of_length (by simp [fw,h1])).symm
 ·intro h
  have hl:a.length=b.length:=by have:=congrArg List.length h;simpa [fw] using this
  refine ⟨hl,?_⟩
  rw [hl]
  exact (E3 a b).2 (by rw [h];exact List.suffix_refl _)
def jg (a b:Name):Bool:=decide (fw a=fw b)
def jm (n top:Name):Bool:=decide (fw top <:+ fw n)
noncomputable def se (x:Name × Name × Unit):Option AV:=if cp x.1∧cp x.2.1 then some ((r1 (bc .i64)).E true ((common x.1 x.2.1:Int))) else none
set_option maxRecDepth 2000000 in
theorem A7 (x:Name × Name × Unit) (r:AV) (h:se x=some r):bu PP 35 ((aC az (aC az a0)).E x) r:=by
 by_cases hc:cp x.1∧cp x.2.1
 case neg=>simp only [se,if_neg hc] at h;cases h
 simp only [se,if_pos hc] at h
 cases h
 exact bk (aq.cons (ar Xc) (aq.nil PP)) Tryz.func35 (by kernel_rfl) (by kernel_rfl) (by kernel_rfl) (Nat.le_of_ble_eq_true (by kernel_rfl)) (r1 (bc .i64)) true ((common x.1 x.2.1:Int)) (aau x.1 x.2.1 hc.1.label hc.2.label hc.1.len hc.2.len)
noncomputable abbrev Jv:Nat × Bool × (List AV→M AV):=(35,true,dq (aC az (aC az a0)) se)
theorem adp (n top:Name) (hn:cp n) (ht:cp top):wl PP [Jv] 0 (Tryz.f20.body.getD .skip) (du PP Tryz.f20.results.toList (fun r st=>(r1 bw).get true st.h r=some (jm n top))) (cg 0 [az.val false n,az.val false top]) (bb []):=by
 unfold Tryz.f20
 simp only [dt]
 simp only [↓wR,RA,simprocAttr,TF,se,hn,ht]
 congr 1
 unfold jm
 have:=E3 n top
 rw [Bool.eq_iff_iff];simp [← this];omega
noncomputable def rq (x:Name × Name × Unit):Option AV:=if cp x.1∧cp x.2.1 then some ((r1 bw).E true (jm x.1 x.2.1)) else none
set_option maxRecDepth 2000000 in
theorem xr (x:Name × Name × Unit) (r:AV) (h:rq x=some r):bu PP 20 ((aC az (aC az a0)).E x) r:=by
 by_cases hc:cp x.1∧cp x.2.1
 case neg=>simp only [rq,if_neg hc] at h;cases h
 simp only [rq,if_pos hc] at h
 cases h
 exact bk (aq.cons (ar A7) (aq.nil PP)) Tryz.func20 (by kernel_rfl) (by kernel_rfl) (by kernel_rfl) (Nat.le_of_ble_eq_true (by kernel_rfl)) (r1 bw) true (jm x.1 x.2.1) (adp x.1 x.2.1 hc.1 hc.2)
noncomputable abbrev Dc:Nat × Bool × (List AV→M AV):=(20,true,dq (aC az (aC az a0)) rq)
theorem ahf (n top:Name) (hn:cp n) (ht:cp top):wl PP [Jv] 0 (Tryz.f13.body.getD .skip) (du PP Tryz.f13.results.toList (fun r st=>(r1 bw).get true st.h r=some (jg n top))) (cg 0 [az.val false n,az.val false top]) (bb []):=by
 unfold Tryz.f13
 simp only [dt]
 simp only [↓wR,RA,simprocAttr,TF,se,hn,ht]
 rw [dm];refine ⟨fun h=>?_,fun h=>?_⟩
 ·have hl:n.length=top.length:=by simp at h;omega
  simp only [↓wR,RA,simprocAttr,TF,h,se,hn,ht]
  congr 1
  unfold jg
  have:=P8 n top
  rw [Bool.eq_iff_iff];simp [← this,hl];omega
 ·have hl:¬ n.length=top.length:=by simp at h;omega
  simp only [↓wR,RA,simprocAttr,TF,h]
  have:=P8 n top
  simp [jg,← this,hl]
noncomputable def nw (x:Name × Name × Unit):Option AV:=if cp x.1∧cp x.2.1 then some ((r1 bw).E true (jg x.1 x.2.1)) else none
set_option maxRecDepth 2000000 in
theorem v5 (x:Name × Name × Unit) (r:AV) (h:nw x=some r):bu PP 13 ((aC az (aC az a0)).E x) r:=by
 by_cases hc:cp x.1∧cp x.2.1
 case neg=>simp only [nw,if_neg hc] at h;cases h
 simp only [nw,if_pos hc] at h
 cases h
 exact bk (aq.cons (ar A7) (aq.nil PP)) Tryz.func13 (by kernel_rfl) (by kernel_rfl) (by kernel_rfl) (Nat.le_of_ble_eq_true (by kernel_rfl)) (r1 bw) true (jg x.1 x.2.1) (ahf x.1 x.2.1 hc.1 hc.2)
noncomputable abbrev fv:Nat × Bool × (List AV→M AV):=(13,true,dq (aC az (aC az a0)) nw)
noncomputable def al8 (a b:Name) (k:Nat):Int:=
 match a[a.length - 1 - k]?,b[b.length - 1 - k]? with
 |some x,some y=>Bs (fold x) (fold y)
 |_,_=>0
noncomputable def qk (a b:Name):Int:=
 if common a b=a.length∧common a b=b.length then 0 else if common a b=a.length then -1 else if common a b=b.length then 1 else al8 a b (common a b)
theorem Wd (a b:Name) (ha:cp a) (hb:cp b):wl PP [Jv,aga] 0 (Tryz.f57.body.getD .skip) (du PP Tryz.f57.results.toList (fun r st=>(r1 (bc .i64)).get true st.h r=some (qk a b))) (cg 0 [az.val false a,az.val false b]) (bb []):=by
 unfold Tryz.f57
 simp only [dt]
 simp only [↓wR,RA,simprocAttr,TF,se,ha,hb]
 have h1:=F8 a.reverse b.reverse
 have h2:=Jh a.reverse b.reverse
 rw [List.length_reverse] at h1 h2
 change common a b≤a.length at h1
 change common a b≤b.length at h2
 obtain ⟨k,hk⟩:∃ k,common a b=k:=⟨_,rfl⟩
 rw [hk] at h1 h2
 unfold qk
 rw [hk]
 rw [dm];refine ⟨fun h=>?_,fun h=>?_⟩
 ·simp only [↓wR,RA,simprocAttr,TF,h]
  have hka:k=a.length:=by simp at h;omega
  rw [dm];refine ⟨fun h3=>?_,fun h3=>?_⟩
  ·have hkb:k=b.length:=by simp at h3;omega
   simp only [↓wR,RA,simprocAttr,TF,h3]
   rw [if_pos ⟨hka,hkb⟩]
  ·have hkb:¬ k=b.length:=by simp at h3;omega
   simp only [↓wR,RA,simprocAttr,TF,h3,h]
   rw [if_neg (fun e=>hkb e.2),if_pos hka]
 ·simp only [↓wR,RA,simprocAttr,TF,h]
  have hka:¬ k=a.length:=by simp at h;omega
  rw [dm];refine ⟨fun h3=>?_,fun h3=>?_⟩
  ·have hkb:k=b.length:=by simp at h3;omega
   simp only [↓wR,RA,simprocAttr,TF,h3]
   rw [if_neg (fun e=>hka e.1),if_neg hka,if_pos hkb]
  ·have hkb:¬ k=b.length:=by simp at h3;omega
   rw [if_neg (fun e=>hka e.1),if_neg hka,if_neg hkb]
   obtain ⟨x,hx⟩:∃ x,a[a.length - 1 - k]? = some x:=⟨_,List.getElem?_eq_getElem (by omega)⟩
   obtain ⟨y,hy⟩:∃ y,b[b.length - 1 - k]? = some y:=⟨_,List.getElem?_eq_getElem (by omega)⟩
   simp only [↓wR,RA,simprocAttr,TF,h3]
   refine ⟨by kernel_rfl,.inl ?_⟩
   have la:=ha.len
   have lb:=hb.len
   simp (disch:=omega) only [ah,bh,bf,bg,be]
   have e1:(((a.length:Int) - 1) - k).toNat=a.length - 1 - k:=by omega
   have e2:(0:Int)≤((a.length:Int) - 1) - k:=by omega
   have e3:(((b.length:Int) - 1) - k).toNat=b.length - 1 - k:=by omega
   have e4:(0:Int)≤((b.length:Int) - 1) - k:=by omega
   simp only [↓wR,RA,simprocAttr,TF,hx,e1,e2]
   simp (disch:=omega) only [ah,bh,bf,bg,be]
   simp only [↓wR,RA,simprocAttr,TF,hy,e3,e4,v7,ha.label x (List.mem_of_getElem? hx),hb.label y (List.mem_of_getElem? hy)]
   exact ⟨by kernel_rfl,by simp [al8,hx,hy]⟩
noncomputable def ui (x:Name × Name × Unit):Option AV:=if cp x.1∧cp x.2.1 then some ((r1 (bc .i64)).E true (qk x.1 x.2.1)) else none
set_option maxRecDepth 2000000 in
theorem E7 (x:Name × Name × Unit) (r:AV) (h:ui x=some r):bu PP 57 ((aC az (aC az a0)).E x) r:=by
 by_cases hc:cp x.1∧cp x.2.1
 case neg=>simp only [ui,if_neg hc] at h;cases h
 simp only [ui,if_pos hc] at h
 cases h
 exact bk (aq.cons (ar A7) (aq.cons (ar Pk) (aq.nil PP))) Tryz.func57 (by kernel_rfl) (by kernel_rfl) (by kernel_rfl) (Nat.le_of_ble_eq_true (by kernel_rfl)) (r1 (bc .i64)) true (qk x.1 x.2.1) (Wd x.1 x.2.1 hc.1 hc.2)
noncomputable abbrev Py:Nat × Bool × (List AV→M AV):=(57,true,dq (aC az (aC az a0)) ui)
theorem cp.lt {n:Name} (h:cp n):n.length<16777216:=by have:=(oj n 0).2;unfold cp at h;omega
theorem ah9 (n:Name) (hn:cp n):wl PP [] 0 (Tryz.f34.body.getD .skip) (du PP Tryz.f34.results.toList (fun r st=>(r1 az).get true st.h r=some n)) (cg 0 [az.val false n]) (bb []):=by
 unfold Tryz.f34
 simp only [dt]
 have hlim:n.length * 16≤140737488355328:=by have:=hn.lt;omega
 simp only [↓wR,RA,simprocAttr,TF,hlim]
noncomputable def mw (x:Name × Unit):Option AV:=if cp x.1 then some ((r1 az).E true (x.1)) else none
set_option maxRecDepth 2000000 in
theorem o9 (x:Name × Unit) (r:AV) (h:mw x=some r):bu PP 34 ((aC az a0).E x) r:=by
 by_cases hc:cp x.1
 case neg=>simp only [mw,if_neg hc] at h;cases h
 simp only [mw,if_pos hc] at h
 cases h
 exact bk (aq.nil PP) Tryz.func34 (by kernel_rfl) (by kernel_rfl) (by kernel_rfl) (Nat.le_of_ble_eq_true (by kernel_rfl)) (r1 az) true (x.1) (ah9 x.1 hc)
noncomputable abbrev j3:Nat × Bool × (List AV→M AV):=(34,true,dq (aC az a0) mw)
theorem ar2 {n:Name} {i:Nat} {c:ByteArray} (hc:n[i]? = some c):fw (n.drop i)=fold c::fw (n.drop (i+1)):=by rw [I0 hc];rfl
theorem ahq (n:Name) (hn:cp n):wl PP [Nq] 0 (Tryz.f69.body.getD .skip) (du PP Tryz.f69.results.toList (fun r st=>(r1 az).get true st.h r=some (fw n))) (cg 0 [az.val false n]) (bb []):=by
 unfold Tryz.f69
 simp only [dt]
 have hln:=hn.lt
 simp only [↓wR,RA,simprocAttr,TF]
 refine n8 [6,7,8,3] (fun (x:List ByteArray)=>[.vl false 1 (n.map (ai.val false)),.sc (.int .i64 n.length),.sc (.int .i64 x.length),.sl 0 0 x.length 1]) (fun x=>[some (.row (x.map (ai.val false)) 0 0 9)]) (fun x=>x++fw (n.drop x.length)=fw n∧x.length≤n.length) (fun x=>n.length - x.length) [] ⟨rfl,Nat.zero_le _⟩ (by simp only [↓wR,RA,simprocAttr,TF];(refine tu.lax [] (by first|exact Nat.le_of_ble_eq_true rfl|(simp [br];omega)) ?_ ?_<;>repeat' first|exact j0.nil|exact dp.nil|exact ke.same _|exact ke.nil _ _ _|exact ke.yk _ _|exact dp.refl _ _|apply j0.cons|apply dp.ghost|apply dp.same|apply dp.row)) ?_
 rintro x ⟨hR,hx⟩
 simp only [↓wR,RA,simprocAttr,TF]
 rw [dm];refine ⟨fun h=>?_,fun h=>?_⟩
 ·obtain ⟨c,hc,hd,hlt⟩:=gm h
  have hlim:(x.length+1) * 16≤140737488355328:=by omega
  simp only [↓wR,RA,simprocAttr,TF,hc,vi,hn.label c (List.mem_of_getElem? hc),hlim]
  refine ⟨x++[fold c],⟨?_,by simp;omega⟩,by simp;omega,by (first|rfl|trivial|omega|((try (simp (disch:=omega) only [ah]));(try (simp only [FB]));first|done|rfl|omega)),by (first|rfl|trivial|omega|((try (simp (disch:=omega) only [ah]));(try (simp only [FB]));first|done|rfl|omega))⟩
  rw [← hR,ar2 hc];simp
 ·rw [jh h] at hR
  simp only [↓wR,RA,simprocAttr,TF,h]
  simpa [fw] using hR
noncomputable def z0 (x:Name × Unit):Option AV:=if cp x.1 then some ((r1 az).E true (fw x.1)) else none
set_option maxRecDepth 2000000 in
theorem Le (x:Name × Unit) (r:AV) (h:z0 x=some r):bu PP 69 ((aC az a0).E x) r:=by
 by_cases hc:cp x.1
 case neg=>simp only [z0,if_neg hc] at h;cases h
 simp only [z0,if_pos hc] at h
 cases h
 exact bk (aq.cons (ar B7) (aq.nil PP)) Tryz.func69 (by kernel_rfl) (by kernel_rfl) (by kernel_rfl) (Nat.le_of_ble_eq_true (by kernel_rfl)) (r1 az) true (fw x.1) (ahq x.1 hc)
noncomputable abbrev ac4:Nat × Bool × (List AV→M AV):=(69,true,dq (aC az a0) z0)
theorem aan {n:Name} (h:cy n=0):bt n≤255:=by
 unfold cy at h
 split at h
 ·cases h
 ·split at h
  ·cases h
  ·omega
theorem cp.fit {n:Name} (h:cp n):bt n<17592186044416:=by unfold cp at h;omega
def akr:ByteArray:=⟨#[42]⟩
def ky (s:ByteArray):List UInt8:=UInt8.ofNat s.size::s.data.toList
def nameBytes (n:Name):List UInt8:=n.flatMap ky++[0]
def ua (n:Name):List UInt8:=if cy n≠0 then [] else nameBytes n
theorem I8 (s):(ky s).length=s.size+1:=by simp [ky]
theorem sy (n:Name):(n.flatMap ky).length+1=bt n:=by
 induction n with
 |nil=>rfl
 |cons a l ih=>
  have:=te [a] l
  have h3:bt [a]=a.size+2:=by simp [bt];omega
  simp only [List.singleton_append] at this
  simp only [List.flatMap_cons,List.length_append,I8]
  omega
theorem adx (n:Name) (hn:cp n):wl PP [dj] 0 (Tryz.f92.body.getD .skip) (du PP Tryz.f92.results.toList (fun r st=>(r2 (cd bp) (bc .i64)).get true st.h r=some (ua n,cy n))) (cg 0 [az.val false n]) (bb []):=by
 unfold Tryz.f92
 simp only [dt]
 have hln:=hn.lt
 simp only [↓wR,RA,simprocAttr,TF,i3,hn.fit]
 rw [dm];refine ⟨fun h=>?_,fun h=>?_⟩
 ·have he:cy n≠0:=by simpa using h
  have hb:ua n=[]:=if_pos he
  simp only [↓wR,RA,simprocAttr,TF,hb]
 have he:cy n=0:=by simpa using h
 have hb:ua n=nameBytes n:=if_neg (by omega)
 rw [hb,he]
 simp only [↓wR,RA,simprocAttr,TF]
 refine n8 [13,14,15,5] (fun (x:Nat × List UInt8)=>[.vl false 1 (n.map (ai.val false)),.sc (.int .i64 n.length),.sc (.int .i64 x.1),.sl 0 0 x.2.length 1]) (fun x=>[some (.row (x.2.map (bp.val false)) 0 0 5)]) (fun x=>x.2++(n.drop x.1).flatMap ky=n.flatMap ky∧x.1≤n.length) (fun x=>n.length - x.1) (0,[]) ⟨rfl,Nat.zero_le _⟩ (by simp only [↓wR,RA,simprocAttr,TF];(refine tu.lax [] (by first|exact Nat.le_of_ble_eq_true rfl|(simp [br];omega)) ?_ ?_<;>repeat' first|exact j0.nil|exact dp.nil|exact ke.same _|exact ke.nil _ _ _|exact ke.yk _ _|exact dp.refl _ _|apply j0.cons|apply dp.ghost|apply dp.same|apply dp.row)) ?_
 rintro ⟨i,x⟩ ⟨hR,hx⟩
 simp only at hR hx
 have hnb:=sy n
 have hsm:=aan he
 simp only [↓wR,RA,simprocAttr,TF]
 rw [dm];refine ⟨fun h2=>?_,fun h2=>?_⟩
 ·obtain ⟨c,hc,hd,hlt⟩:=gm h2
  rw [hd,List.flatMap_cons] at hR
  have hl:x.length+(ky c).length≤(n.flatMap ky).length:=by rw [← hR];simp
  rw [I8] at hl
  simp only [↓wR,RA,simprocAttr,TF,hc];repeat (simp (disch:=omega) only [ah,bh,bf,bg,be];try simp only [↓wR,RA,simprocAttr,TF,hc])
  refine ⟨(i+1,x++ky c),⟨by rw [← hR];simp,hlt⟩,by simp;omega,?_,by simp only [ky,List.map_append,List.map_cons,List.append_assoc,List.singleton_append,Ga]⟩
  simp only [List.cons.injEq,and_true,true_and,AV.sc.injEq,Value.int.injEq,AV.sl.injEq,ky,List.length_append,List.length_cons]
  refine ⟨by (try simp (disch:=omega) only [ah,bh,bf,bg,be]);simp,by simp;omega⟩
 ·rw [jh h2] at hR
  have hl:x.length<bt n:=by rw [← hnb,← hR];simp
  simp only [↓wR,RA,simprocAttr,TF,h2];repeat (simp (disch:=omega) only [ah,bh,bf,bg,be];try simp only [↓wR,RA,simprocAttr,TF,h2])
  simp only [nameBytes,← hR];simp
noncomputable def wc (x:Name × Unit):Option AV:=if cp x.1 then some ((r2 (cd bp) (bc .i64)).E true ((ua x.1,cy x.1))) else none
set_option maxRecDepth 2000000 in
theorem Un (x:Name × Unit) (r:AV) (h:wc x=some r):bu PP 92 ((aC az a0).E x) r:=by
 by_cases hc:cp x.1
 case neg=>simp only [wc,if_neg hc] at h;cases h
 simp only [wc,if_pos hc] at h
 cases h
 exact bk (aq.cons (ar sh) (aq.nil PP)) Tryz.func92 (by kernel_rfl) (by kernel_rfl) (by kernel_rfl) (Nat.le_of_ble_eq_true (by kernel_rfl)) (r2 (cd bp) (bc .i64)) true ((ua x.1,cy x.1)) (adx x.1 hc)
noncomputable abbrev alo:Nat × Bool × (List AV→M AV):=(92,true,dq (aC az a0) wc)
end Go.Proofs.YtifjogffkafalaaGreat
end
section
namespace Go.Proofs.YtifjogffkafalaaGreat
open Go.Vm
set_option maxRecDepth 2000000
theorem J5 {α:Type} {f : α→AV} {xs:List α} (h:xs≠[]) (op l sz p q):Ei op (.vl l sz (xs.map f)) (.sc (.slice none p q))=og op false:=by
 cases xs with
 |nil=>exact (h rfl).elim
 |cons x xs=>rfl
def Ma (v:Value):Prop:=v = .slice none 0 0∨∃ a c,v = .slice (some a) 0 c
theorem B8 {f:Nat} {r:AV} {sz:Nat} (h:∀ v,Ma v→bu PP f [.sc v] r):bu PP f [.vl false sz []] r:=by
 intro K w vs hK hrel
 obtain ⟨v,rfl,hv⟩:=B0 hrel
 have hE:Ma v:=by
  cases hv with
  |vl=>exact .inr ⟨_,_,rfl⟩
  |nm=>exact .inl rfl
  |w7=>exact .inr ⟨_,_,rfl⟩
 exact h v hE K w [v] hK (bo.cons (.sc v) (bo.nil _ _))
theorem ah4 (l:List UInt32) (hne:l≠[]) (hl:l.length≤16777216):wl PP [] 0 (Tryz.f62.body.getD .skip) (du PP Tryz.f62.results.toList (fun r st=>(r1 (cd db)).get true st.h r=some l)) (cg 0 [(cd db).val false l]) (bb []):=by
 unfold Tryz.f62
 rw [px]
 have hb:l.length * 4≤140737488355328:=by omega
 simp only [↓wR,RA,simprocAttr,TF,J5 hne,hb]
theorem aew (v:Value) (hv:Ma v):wl PP [] 0 (Tryz.f62.body.getD .skip) (du PP Tryz.f62.results.toList (fun r st=>(r1 (cd db)).get true st.h r=some [])) (cg 0 [.sc v]) (bb []):=by
 unfold Tryz.f62
 rcases hv with rfl|⟨a,c,rfl⟩
 ·simp only [↓wR,RA,simprocAttr,TF]
 ·simp only [↓wR,RA,simprocAttr,TF]
noncomputable def zp (x:List UInt32 × Unit):Option AV:=if x.1.length≤16777216 then some ((r1 (cd db)).E true x.1) else none
theorem K5 (x:List UInt32 × Unit) (r:AV) (h:zp x=some r):bu PP 62 ((aC (cd db) a0).E x) r:=by
 by_cases hc:x.1.length≤16777216
 case neg=>simp only [zp,if_neg hc] at h;cases h
 simp only [zp,if_pos hc] at h
 cases h
 obtain ⟨l,⟨⟩⟩:=x
 by_cases hn:l=[]
 ·subst hn
  exact B8 (sz:=1) fun v hv=>bk (aq.nil PP) Tryz.func62 (by kernel_rfl) (by kernel_rfl) (by kernel_rfl) (Nat.le_of_ble_eq_true (by kernel_rfl)) (r1 (cd db)) true [] (aew v hv)
 ·exact bk (aq.nil PP) Tryz.func62 (by kernel_rfl) (by kernel_rfl) (by kernel_rfl) (Nat.le_of_ble_eq_true (by kernel_rfl)) (r1 (cd db)) true l (ah4 l hn hc)
noncomputable abbrev afe:Nat × Bool × (List AV→M AV):=(62,true,dq (aC (cd db) a0) zp)
theorem ahz (l:List ByteArray) (hne:l≠[]) (hl:l.length≤16777216):wl PP [] 0 (Tryz.f63.body.getD .skip) (du PP Tryz.f63.results.toList (fun r st=>(r1 (cd ai)).get true st.h r=some l)) (cg 0 [(cd ai).val false l]) (bb []):=by
 unfold Tryz.f63
 rw [px]
 have hb:l.length * 16≤140737488355328:=by omega
 simp only [↓wR,RA,simprocAttr,TF,J5 hne,hb]
theorem af5 (v:Value) (hv:Ma v):wl PP [] 0 (Tryz.f63.body.getD .skip) (du PP Tryz.f63.results.toList (fun r st=>(r1 (cd ai)).get true st.h r=some [])) (cg 0 [.sc v]) (bb []):=by
 unfold Tryz.f63
 rcases hv with rfl|⟨a,c,rfl⟩
 ·simp only [↓wR,RA,simprocAttr,TF]
 ·simp only [↓wR,RA,simprocAttr,TF]
noncomputable def zr (x:List ByteArray × Unit):Option AV:=if x.1.length≤16777216 then some ((r1 (cd ai)).E true x.1) else none
theorem Kr (x:List ByteArray × Unit) (r:AV) (h:zr x=some r):bu PP 63 ((aC (cd ai) a0).E x) r:=by
 by_cases hc:x.1.length≤16777216
 case neg=>simp only [zr,if_neg hc] at h;cases h
 simp only [zr,if_pos hc] at h
 cases h
 obtain ⟨l,⟨⟩⟩:=x
 by_cases hn:l=[]
 ·subst hn
  exact B8 (sz:=1) fun v hv=>bk (aq.nil PP) Tryz.func63 (by kernel_rfl) (by kernel_rfl) (by kernel_rfl) (Nat.le_of_ble_eq_true (by kernel_rfl)) (r1 (cd ai)) true [] (af5 v hv)
 ·exact bk (aq.nil PP) Tryz.func63 (by kernel_rfl) (by kernel_rfl) (by kernel_rfl) (Nat.le_of_ble_eq_true (by kernel_rfl)) (r1 (cd ai)) true l (ahz l hn hc)
noncomputable abbrev acp:Nat × Bool × (List AV→M AV):=(63,true,dq (aC (cd ai) a0) zr)
theorem akj (l:List UInt8) (hne:l≠[]) (hl:l.length≤16777216):wl PP [] 0 (Tryz.f64.body.getD .skip) (du PP Tryz.f64.results.toList (fun r st=>(r1 (cd bp)).get true st.h r=some l)) (cg 0 [(cd bp).val false l]) (bb []):=by
 unfold Tryz.f64
 rw [px]
 have hb:l.length≤140737488355328:=by omega
 simp only [↓wR,RA,simprocAttr,TF,J5 hne,hb]
theorem ahg (v:Value) (hv:Ma v):wl PP [] 0 (Tryz.f64.body.getD .skip) (du PP Tryz.f64.results.toList (fun r st=>(r1 (cd bp)).get true st.h r=some [])) (cg 0 [.sc v]) (bb []):=by
 unfold Tryz.f64
 rcases hv with rfl|⟨a,c,rfl⟩
 ·simp only [↓wR,RA,simprocAttr,TF]
 ·simp only [↓wR,RA,simprocAttr,TF]
noncomputable def Bl (x:List UInt8 × Unit):Option AV:=if x.1.length≤16777216 then some ((r1 (cd bp)).E true x.1) else none
theorem Nz (x:List UInt8 × Unit) (r:AV) (h:Bl x=some r):bu PP 64 ((aC (cd bp) a0).E x) r:=by
 by_cases hc:x.1.length≤16777216
 case neg=>simp only [Bl,if_neg hc] at h;cases h
 simp only [Bl,if_pos hc] at h
 cases h
 obtain ⟨l,⟨⟩⟩:=x
 by_cases hn:l=[]
 ·subst hn
  exact B8 (sz:=1) fun v hv=>bk (aq.nil PP) Tryz.func64 (by kernel_rfl) (by kernel_rfl) (by kernel_rfl) (Nat.le_of_ble_eq_true (by kernel_rfl)) (r1 (cd bp)) true [] (ahg v hv)
 ·exact bk (aq.nil PP) Tryz.func64 (by kernel_rfl) (by kernel_rfl) (by kernel_rfl) (Nat.le_of_ble_eq_true (by kernel_rfl)) (r1 (cd bp)) true l (akj l hn hc)
noncomputable abbrev aii:Nat × Bool × (List AV→M AV):=(64,true,dq (aC (cd bp) a0) Bl)
structure Shape where
 names:Int
 nums:Int
 size:Int
 texts:Int
 raw:Int
noncomputable def vm:c9 Shape:=Dd (m9 (bc .i64) (m9 (bc .i64) (m9 (bc .i64) (m9 (bc .i64) (bc .i64))))) (fun s=>(s.names,s.nums,s.size,s.texts,s.raw)) (fun p=>⟨p.1,p.2.1,p.2.2.1,p.2.2.2.1,p.2.2.2.2⟩) (fun _=>rfl) (fun _=>rfl)
theorem E5 (l:Bool) (s:Shape):vm.val l s = .agg [.sc (.int .i64 s.names),.sc (.int .i64 s.nums),.sc (.int .i64 s.size),.sc (.int .i64 s.texts),.sc (.int .i64 s.raw)]:=id rfl
theorem ly (fr h) (a b c d e:Int):vm.jd fr h (.agg [.sc (.int .i64 a),.sc (.int .i64 b),.sc (.int .i64 c),.sc (.int .i64 d),.sc (.int .i64 e)])=some ⟨a,b,c,d,e⟩:=aAp vm fr h ⟨a,b,c,d,e⟩
def qd (t:UInt16):Shape:=
 if (t.toNat:Int)=1 then ⟨0,0,0,0,4⟩ else if (t.toNat:Int)=28 then ⟨0,0,0,0,16⟩ else if (t.toNat:Int)=2 then ⟨1,0,0,0,0⟩ else if (t.toNat:Int)=5 then ⟨1,0,0,0,0⟩ else if (t.toNat:Int)=12 then ⟨1,0,0,0,0⟩
 else if (t.toNat:Int)=6 then ⟨2,5,4,0,0⟩ else if (t.toNat:Int)=15 then ⟨1,1,2,0,0⟩ else if (t.toNat:Int)=33 then ⟨1,3,2,0,0⟩ else if (t.toNat:Int)=16 then ⟨0,0,0,-1,0⟩ else if (t.toNat:Int)=257 then ⟨0,1,1,2,0⟩ else ⟨0,0,0,0,-1⟩
theorem apw (t:UInt16):wl PP [] 0 (Tryz.f66.body.getD .skip) (du PP Tryz.f66.results.toList (fun r st=>(r1 vm).get true st.h r=some (qd t))) (cg 0 [cz.val false t]) (bb []):=by
 unfold Tryz.f66
 unfold qd
 simp only [↓wR,RA,simprocAttr,TF]
 rw [eb];refine ⟨fun ⟨h0,e0⟩=>?_,fun ⟨h0,e0⟩=>?_⟩
 ·simp only [↓wR,RA,simprocAttr,TF,h0]
  rw [if_pos e0]
  exact ly ..
 rw [if_neg e0]
 simp only [↓wR,RA,simprocAttr,TF,h0]
 rw [eb];refine ⟨fun ⟨h1,e1⟩=>?_,fun ⟨h1,e1⟩=>?_⟩
 ·simp only [↓wR,RA,simprocAttr,TF,h1]
  rw [if_pos e1]
  exact ly ..
 rw [if_neg e1]
 simp only [↓wR,RA,simprocAttr,TF,h1]
 rw [eb];refine ⟨fun ⟨h2,e2⟩=>?_,fun ⟨h2,e2⟩=>?_⟩
 ·simp only [↓wR,RA,simprocAttr,TF,h2]
  rw [if_pos e2]
  exact ly ..
 rw [if_neg e2]
 simp only [↓wR,RA,simprocAttr,TF,h2]
 rw [eb];refine ⟨fun ⟨h3,e3⟩=>?_,fun ⟨h3,e3⟩=>?_⟩
 ·simp only [↓wR,RA,simprocAttr,TF,h3]
  rw [if_pos e3]
  exact ly ..
 rw [if_neg e3]
 simp only [↓wR,RA,simprocAttr,TF,h3]
 rw [eb];refine ⟨fun ⟨h4,e4⟩=>?_,fun ⟨h4,e4⟩=>?_⟩
 ·simp only [↓wR,RA,simprocAttr,TF,h4]
  rw [if_pos e4]
  exact ly ..
 rw [if_neg e4]
 simp only [↓wR,RA,simprocAttr,TF,h4]
 rw [eb];refine ⟨fun ⟨h5,e5⟩=>?_,fun ⟨h5,e5⟩=>?_⟩
 ·simp only [↓wR,RA,simprocAttr,TF,h5]
  rw [if_pos e5]
  exact ly ..
 rw [if_neg e5]
 simp only [↓wR,RA,simprocAttr,TF,h5]
 rw [eb];refine ⟨fun ⟨h6,e6⟩=>?_,fun ⟨h6,e6⟩=>?_⟩
 ·simp only [↓wR,RA,simprocAttr,TF,h6]
  rw [if_pos e6]
  exact ly ..
 rw [if_neg e6]
 simp only [↓wR,RA,simprocAttr,TF,h6]
 rw [eb];refine ⟨fun ⟨h7,e7⟩=>?_,fun ⟨h7,e7⟩=>?_⟩
 ·simp only [↓wR,RA,simprocAttr,TF,h7]
  rw [if_pos e7]
  exact ly ..
 rw [if_neg e7]
 simp only [↓wR,RA,simprocAttr,TF,h7]
 rw [eb];refine ⟨fun ⟨h8,e8⟩=>?_,fun ⟨h8,e8⟩=>?_⟩
 ·simp only [↓wR,RA,simprocAttr,TF,h8]
  rw [if_pos e8]
  exact ly ..
 rw [if_neg e8]
 simp only [↓wR,RA,simprocAttr,TF,h8]
 rw [eb];refine ⟨fun ⟨h9,e9⟩=>?_,fun ⟨h9,e9⟩=>?_⟩
 ·simp only [↓wR,RA,simprocAttr,TF,h9]
  rw [if_pos e9]
  exact ly ..
 rw [if_neg e9]
 simp only [↓wR,RA,simprocAttr,TF,h9]
 exact ly ..
noncomputable def Fe (x:UInt16 × Unit):Option AV:=some ((r1 vm).E true (qd x.1))
set_option maxRecDepth 2000000 in
theorem Ft (x:UInt16 × Unit) (r:AV) (h:Fe x=some r):bu PP 66 ((aC cz a0).E x) r:=by
 cases h
 exact bk (aq.nil PP) Tryz.func66 (by kernel_rfl) (by kernel_rfl) (by kernel_rfl) (Nat.le_of_ble_eq_true (by kernel_rfl)) (r1 vm) true (qd x.1) (apw x.1)
noncomputable abbrev W3:Nat × Bool × (List AV→M AV):=(66,true,dq (aC cz a0) Fe)
def Iq (t:UInt16):Bool:=(t.toNat:Int) == 0 || (decide ((128:Int)≤(t.toNat:Int)) && decide ((t.toNat:Int)≤255))
theorem apc (t:UInt16):wl PP [] 0 (Tryz.f65.body.getD .skip) (du PP Tryz.f65.results.toList (fun r st=>(r1 bw).get true st.h r=some (Iq t))) (cg 0 [cz.val false t]) (bb []):=by
 unfold Tryz.f65
 unfold Iq
 simp only [↓wR,RA,simprocAttr,TF]
 rw [eb];refine ⟨fun ⟨h,e⟩=>?_,fun ⟨h,e⟩=>?_⟩
 ·simp only [↓wR,RA,simprocAttr,TF,h]
 ·simp only [↓wR,RA,simprocAttr,TF,h]
  rw [bj];refine ⟨fun h2=>?_,fun h2=>?_⟩
  ·simp only [↓wR,RA,simprocAttr,TF,h2]
  ·simp only [↓wR,RA,simprocAttr,TF,h2]
   rfl
noncomputable def V9 (x:UInt16 × Unit):Option AV:=some ((r1 bw).E true (Iq x.1))
set_option maxRecDepth 2000000 in
theorem ah1 (x:UInt16 × Unit) (r:AV) (h:V9 x=some r):bu PP 65 ((aC cz a0).E x) r:=by
 cases h
 exact bk (aq.nil PP) Tryz.func65 (by kernel_rfl) (by kernel_rfl) (by kernel_rfl) (Nat.le_of_ble_eq_true (by kernel_rfl)) (r1 bw) true (Iq x.1) (apc x.1)
noncomputable abbrev ax8:Nat × Bool × (List AV→M AV):=(65,true,dq (aC cz a0) V9)
noncomputable def Hf (n:UInt32):List UInt8:=[UInt8.ofNat (n.toNat / 16777216),UInt8.ofNat (n.toNat / 65536),UInt8.ofNat (n.toNat / 256),UInt8.ofNat n.toNat]
theorem asm (n:UInt32):wl PP [] 0 (Tryz.f91.body.getD .skip) (du PP Tryz.f91.results.toList (fun r st=>(r1 (cd bp)).get true st.h r=some (Hf n))) (cg 0 [db.val false n]) (bb []):=by
 unfold Tryz.f91
 simp only [↓wR,RA,simprocAttr,TF]
 rfl
noncomputable def Oq (x:UInt32 × Unit):Option AV:=some ((r1 (cd bp)).E true (Hf x.1))
set_option maxRecDepth 2000000 in
theorem aia (x:UInt32 × Unit) (r:AV) (h:Oq x=some r):bu PP 91 ((aC db a0).E x) r:=by
 cases h
 exact bk (aq.nil PP) Tryz.func91 (by kernel_rfl) (by kernel_rfl) (by kernel_rfl) (Nat.le_of_ble_eq_true (by kernel_rfl)) (r1 (cd bp)) true (Hf x.1) (asm x.1)
noncomputable abbrev ayr:Nat × Bool × (List AV→M AV):=(91,true,dq (aC db a0) Oq)
def Rt (c:UInt8):Bool:=decide (97≤c.toNat∧c.toNat≤122∨65≤c.toNat∧c.toNat≤90∨48≤c.toNat∧c.toNat≤57)
def N0 (s:ByteArray):Bool:=s.data.toList.all Rt && decide (1≤s.size∧s.size≤15)
theorem axo (s:ByteArray) (hs:s.size≤16777216):wl PP [] 0 (Tryz.f88.body.getD .skip) (du PP Tryz.f88.results.toList (fun r st=>(r1 bw).get true st.h r=some (N0 s))) (cg 0 [ai.val false s]) (bb []):=by
 unfold Tryz.f88
 simp only [↓wR,RA,simprocAttr,TF]
 refine c8 [0,6,7] (fun (i:Nat)=>[.sc (.string s),.sc (.int .i64 s.size),.sc (.int .i64 i)]) (fun _=>[]) (fun i=>i≤s.size∧s.data.toList.all Rt=(s.data.toList.drop i).all Rt) (fun i=>s.size - i) 0 ⟨Nat.zero_le _,rfl⟩ ?_ ?_ ?_
 ·simp only [↓wR,RA,simprocAttr,TF]<;>rfl
 ·simp only [↓wR,RA,simprocAttr,TF]
 rintro i ⟨hi,hR⟩
 simp only [↓wR,RA,simprocAttr,TF]
 rw [bj];refine ⟨fun h=>?_,fun h=>?_⟩
 ·obtain ⟨c,hc⟩:∃ c,s.data.toList[i]? = some c:=⟨_,List.getElem?_eq_getElem (by simp;omega)⟩
  have hd:=I0 hc
  rw [hd,List.all_cons] at hR
  simp only [↓wR,RA,simprocAttr,TF,h,hc];repeat (simp (disch:=omega) only [ah,bh,bf,bg,be];try simp only [↓wR,RA,simprocAttr,TF,h,hc])
  repeat' (rw [bj];refine ⟨fun h=>?_,fun h=>?_⟩<;>simp only [↓wR,RA,simprocAttr,TF,h,hc])
  all_goals first
   |(
    have ht:Rt c=false:=by (unfold Rt;rw [decide_eq_false_iff_not];omega)
    rw [N0,hR,ht];rfl)
   |(
    have ht:Rt c=true:=by (unfold Rt;rw [decide_eq_true_eq];omega)
    refine ⟨i+1,⟨by omega,by rw [hR,ht];simp⟩,by omega,by (first|rfl|trivial|omega|((try (simp (disch:=omega) only [ah]));(try (simp only [FB]));first|done|rfl|omega))⟩)
 ·have hdn:s.data.toList.drop i=[]:=List.drop_eq_nil_of_le (by simp;omega)
  rw [hdn,List.all_nil] at hR
  simp only [↓wR,RA,simprocAttr,TF,h]
  unfold N0
  rw [hR]
  rw [bj];refine ⟨fun h1=>?_,fun h1=>?_⟩
  ·simp only [↓wR,RA,simprocAttr,TF,h1]
   congr 1
   rw [Bool.eq_iff_iff];simp;omega
  ·simp only [↓wR,RA,simprocAttr,TF,h1]
   congr 1
   rw [Bool.eq_iff_iff];simp;omega
noncomputable def Th (x:ByteArray × Unit):Option AV:=if x.1.size≤16777216 then some ((r1 bw).E true (N0 x.1)) else none
set_option maxRecDepth 2000000 in
theorem an6 (x:ByteArray × Unit) (r:AV) (h:Th x=some r):bu PP 88 ((aC ai a0).E x) r:=by
 by_cases hc:x.1.size≤16777216
 case neg=>simp only [Th,if_neg hc] at h;cases h
 simp only [Th,if_pos hc] at h
 cases h
 exact bk (aq.nil PP) Tryz.func88 (by kernel_rfl) (by kernel_rfl) (by kernel_rfl) (Nat.le_of_ble_eq_true (by kernel_rfl)) (r1 bw) true (N0 x.1) (axo x.1 hc)
noncomputable abbrev aAk:Nat × Bool × (List AV→M AV):=(88,true,dq (aC ai a0) Th)
def di {α:Type} (f : α→Nat) (l:List α):Nat:=l.foldr (fun x k=>f x+k+1) 0
def lf (d:bn):Nat:=di bt d.names+d.nums.length+di ByteArray.size d.texts+d.raw.length
theorem z5 {α:Type} {f : α→Nat} {l:List α} {x : α} (h:x ∈ l):f x<di f l:=by
 induction l with
 |nil=>cases h
 |cons a l ih=>
  simp only [di,List.foldr_cons] at ih ⊢
  rcases List.mem_cons.1 h with rfl|h
  ·omega
  ·have:=ih h;omega
theorem B3 {α:Type} (f : α→Nat) (l:List α):l.length≤di f l:=by
 induction l with
 |nil=>exact Nat.le_refl _
 |cons a l ih=>simp only [di,List.foldr_cons,List.length_cons] at ih ⊢;omega
def da (d:bn):Prop:=lf d≤16777216
instance (d:bn):Decidable (da d):=inferInstanceAs (Decidable (_≤_))
theorem da.name {d:bn} (h:da d):∀ n ∈ d.names,cp n:=fun n hn=>by
 have h1:bt n<di bt d.names:=z5 hn
 unfold da lf at h;unfold cp;omega
theorem da.text {d:bn} (h:da d):∀ s ∈ d.texts,s.size≤16777216:=fun s hs=>by
 have h1:ByteArray.size s<di ByteArray.size d.texts:=z5 hs
 unfold da lf at h;omega
theorem da.lens {d:bn} (h:da d):d.names.length≤16777216∧d.nums.length≤16777216∧d.texts.length≤16777216∧d.raw.length≤16777216:=by
 have h1:=B3 bt d.names
 have h2:=B3 ByteArray.size d.texts
 unfold da lf at h;omega
noncomputable def Ow (s:Shape):Int:=IntKind.u32.wrap (1 * 2 ^ (if (8 * s.size).toNat≤32 then (8 * s.size).toNat else 32))
noncomputable def Cq (s:Shape) (t:UInt16) (d:bn):Bool:=
 if (d.names.length:Int)≠s.names∨(d.nums.length:Int)≠s.nums∨(0≤s.raw∧(d.raw.length:Int)≠s.raw) then false
 else if s.size<4∧(d.nums.any fun n=>decide (Ow s≤(n.toNat:Int)))=true then false
 else if (t.toNat:Int)=257 then decide (d.texts.length=2) && N0 (d.texts.headD ⟨#[]⟩)
 else if s.texts=0 then decide (d.texts.length=0)
 else decide (0<d.texts.length) && !(d.texts.any fun x=>decide (255<x.size))
noncomputable def T9 (s:Shape) (t:UInt16) (d:bn):Bool:=
 if s.size<4∧(d.nums.any fun n=>decide (Ow s≤(n.toNat:Int)))=true then false
 else if (t.toNat:Int)=257 then decide (d.texts.length=2) && N0 (d.texts.headD ⟨#[]⟩)
 else if s.texts=0 then decide (d.texts.length=0)
 else decide (0<d.texts.length) && !(d.texts.any fun x=>decide (255<x.size))
theorem awz (s:Shape) (t:UInt16) (d:bn) (hs : 0≤s.size∧s.size≤4) (hd:da d):wl PP [aAk] 0 (Tryz.f67.body.getD .skip) (du PP Tryz.f67.results.toList (fun r st=>(r1 bw).get true st.h r=some (Cq s t d))) (cg 0 [vm.val false s,cz.val false t,ak.val false d]) (bb []):=by
 unfold Tryz.f67
 obtain ⟨l1,l2,l3,l4⟩:=hd.lens
 simp only [E5,nc,dt]
 simp only [↓wR,RA,simprocAttr,TF]
 rw [ed];refine ⟨fun ⟨h,e⟩=>?_,fun ⟨h,e⟩=>?_⟩
 ·have hv:Cq s t d=false:=if_pos (.inl e)
  simp only [↓wR,RA,simprocAttr,TF,h,hv]
 simp only [↓wR,RA,simprocAttr,TF,h]
 rw [ed];refine ⟨fun ⟨h2,e2⟩=>?_,fun ⟨h2,e2⟩=>?_⟩
 ·have hv:Cq s t d=false:=if_pos (.inr (.inl e2))
  simp only [↓wR,RA,simprocAttr,TF,h2,hv]
 simp only [↓wR,RA,simprocAttr,TF,h2]
 have hraw:¬ (0≤s.raw∧(d.raw.length:Int)≠s.raw)→Cq s t d=T9 s t d:=fun hr=>if_neg (fun h=>by
  rcases h with h|h|h
  ·exact h e
  ·exact h e2
  ·exact hr h)
 rw [bj];refine ⟨fun h3=>?_,fun h3=>?_⟩
 simp only [↓wR,RA,simprocAttr,TF,h3]
 rw [ed];refine ⟨fun ⟨h4,e4⟩=>?_,fun ⟨h4,e4⟩=>?_⟩
 have hv:Cq s t d=false:=if_pos (.inr (.inr ⟨h3,e4⟩))
 simp only [↓wR,RA,simprocAttr,TF,h4,hv]
 rw [hraw (fun q=>q.2 e4)]
 simp only [↓wR,RA,simprocAttr,TF,h4]
 rotate_left
 rw [hraw (fun q=>h3 q.1)]
 simp only [↓wR,RA,simprocAttr,TF,h3]
 all_goals
  clear hraw
  refine c8 [1,3,5,37,38,39] (fun (i:Nat)=>[.sc (.int .u16 t.toNat),.ptr 0 0,.ptr 1 0,.vl false 1 (d.nums.map (db.val false)),.sc (.int .i64 d.nums.length),.sc (.int .i64 i)]) (fun _=>[some (.row [.sc (.int .i64 s.names),.sc (.int .i64 s.nums),.sc (.int .i64 s.size),.sc (.int .i64 s.texts),.sc (.int .i64 s.raw)] 0 2 115),some (.row [.vl false 1 (d.names.map (az.val false)),.vl false 1 (d.nums.map (db.val false)),.vl false 1 (d.texts.map (ai.val false)),.vl false 1 (d.raw.map (bp.val false))] 0 2 44)]) (fun i=>i≤d.nums.length∧(s.size<4→(d.nums.any fun n=>decide (Ow s≤(n.toNat:Int)))=((d.nums.drop i).any fun n=>decide (Ow s≤(n.toNat:Int))))) (fun i=>d.nums.length - i) 0 ⟨Nat.zero_le _,fun _=>rfl⟩ (by simp only [↓wR,RA,simprocAttr,TF]<;>rfl) (by simp only [↓wR,RA,simprocAttr,TF]<;>rfl) ?_
  clear h h2 e e2
  rintro i ⟨hi,hR⟩
  simp only [↓wR,RA,simprocAttr,TF]
  rw [bj];refine ⟨fun h=>?_,fun h=>?_⟩
  ·obtain ⟨c,hc,hd1,hlt⟩:=gm (decide_eq_true h)
   rw [hd1,List.any_cons] at hR
   simp only [↓wR,RA,simprocAttr,TF,h,hc]
   rw [bj];refine ⟨fun h5=>?_,fun h5=>?_⟩
   ·have hR:=hR h5
    have h80:(0:Int)≤8 * s.size:=by omega
    simp only [↓wR,RA,simprocAttr,TF,h5,h80];repeat (simp (disch:=omega) only [ah,bh,bf,bg,be];try simp only [↓wR,RA,simprocAttr,TF,h5,h80])
    rw [bj];refine ⟨fun h6=>?_,fun h6=>?_⟩
    ·have hv:T9 s t d=false:=by
      rw [T9,if_pos ⟨h5,by rw [hR,decide_eq_true (show Ow s≤(c.toNat:Int) from h6)];rfl⟩]
     simp only [↓wR,RA,simprocAttr,TF,h6,hv]
    ·simp only [↓wR,RA,simprocAttr,TF,h6];repeat (simp (disch:=omega) only [ah,bh,bf,bg,be];try simp only [↓wR,RA,simprocAttr,TF,h6])
     refine ⟨i+1,⟨hlt,fun _=>?_⟩,by omega,by (first|rfl|trivial|omega|((try (simp (disch:=omega) only [ah]));(try (simp only [FB]));first|done|rfl|omega))⟩
     rw [hR,decide_eq_false (show ¬ Ow s≤(c.toNat:Int) from h6),Bool.false_or]
   ·simp only [↓wR,RA,simprocAttr,TF,h5];repeat (simp (disch:=omega) only [ah,bh,bf,bg,be];try simp only [↓wR,RA,simprocAttr,TF,h5])
    exact ⟨i+1,⟨hlt,fun h=>h.elim⟩,by omega,by (first|rfl|trivial|omega|((try (simp (disch:=omega) only [ah]));(try (simp only [FB]));first|done|rfl|omega))⟩
  ·rw [jh (decide_eq_false h),List.any_nil] at hR
   have hr:T9 s t d=if (t.toNat:Int)=257 then decide (d.texts.length=2) && N0 (d.texts.headD ⟨#[]⟩) else if s.texts=0 then decide (d.texts.length=0) else decide (0<d.texts.length) && !(d.texts.any fun x=>decide (255<x.size)):=by
    rw [T9,if_neg];rintro ⟨q1,q2⟩;rw [hR q1] at q2;cases q2
   simp only [↓wR,RA,simprocAttr,TF,h]
   rw [eb];refine ⟨fun ⟨h6,e6⟩=>?_,fun ⟨h6,e6⟩=>?_⟩
   ·rw [if_pos e6] at hr
    simp only [↓wR,RA,simprocAttr,TF,h6]
    rw [eb];refine ⟨fun ⟨h7,e7⟩=>?_,fun ⟨h7,e7⟩=>?_⟩
    ·obtain ⟨c,hc⟩:∃ c,d.texts[0]? = some c:=⟨_,List.getElem?_eq_getElem (by omega)⟩
     have hh:d.texts.headD ⟨#[]⟩=c:=by
      cases ht:d.texts with
      |nil=>rw [ht] at hc;cases hc
      |cons a l=>rw [ht] at hc;simpa using hc
     rw [hh,decide_eq_true (show d.texts.length=2 by omega)] at hr
     simp only [↓wR,RA,simprocAttr,TF,h7,hc,Th,hd.text c (List.mem_of_getElem? hc)]
     rw [hr];rfl
    ·simp only [↓wR,RA,simprocAttr,TF,h7]
     rw [hr,decide_eq_false (show ¬ d.texts.length=2 by omega)];rfl
   ·rw [if_neg e6] at hr
    simp only [↓wR,RA,simprocAttr,TF,h6]
    rw [eb];refine ⟨fun ⟨h7,e7⟩=>?_,fun ⟨h7,e7⟩=>?_⟩
    ·rw [if_pos e7] at hr
     simp only [↓wR,RA,simprocAttr,TF,h7]
     rw [hr];congr 1
     rw [Bool.eq_iff_iff];simp
    ·rw [if_neg e7] at hr
     simp only [↓wR,RA,simprocAttr,TF,h7]
     rw [bj];refine ⟨fun h8=>?_,fun h8=>?_⟩
     ·simp only [↓wR,RA,simprocAttr,TF,h8]
      refine bm (T:=[]) (aq.nil PP) mixed Tryz.func89 rfl (by kernel_rfl) (by kernel_rfl) (by kernel_rfl) (by kernel_rfl) ?_;unfold Tryz.f89
      simp only [↓wR,RA,simprocAttr,TF]
      refine bm (T:=[]) (aq.nil PP) mixed Tryz.func101 rfl (by kernel_rfl) (by kernel_rfl) (by kernel_rfl) (by kernel_rfl) ?_;unfold Tryz.f101
      simp only [↓wR,RA,simprocAttr,TF]
      refine c8 [0,1,7,8] (fun (i:Nat)=>[.vl false 1 (d.texts.map (ai.val false)),.sc (.func (.func 90) #[] #[]),.sc (.int .i64 d.texts.length),.sc (.int .i64 i)]) (fun _=>[some (.row [.sc (.int .i64 s.names),.sc (.int .i64 s.nums),.sc (.int .i64 s.size),.sc (.int .i64 s.texts),.sc (.int .i64 s.raw)] 0 2 115),some (.row [.vl false 1 (d.names.map (az.val false)),.vl false 1 (d.nums.map (db.val false)),.vl false 1 (d.texts.map (ai.val false)),.vl false 1 (d.raw.map (bp.val false))] 0 2 44)]) (fun i=>i≤d.texts.length∧(d.texts.any fun x=>decide (255<x.size))=((d.texts.drop i).any fun x=>decide (255<x.size))) (fun i=>d.texts.length - i) 0 ⟨Nat.zero_le _,rfl⟩ (by simp only [↓wR,RA,simprocAttr,TF]<;>rfl) (by simp only [↓wR,RA,simprocAttr,TF]<;>rfl) ?_
      rintro k ⟨hk,hK⟩
      simp only [↓wR,RA,simprocAttr,TF]
      rw [bj];refine ⟨fun h9=>?_,fun h9=>?_⟩
      ·obtain ⟨c,hc,hd1,hlt⟩:=gm (decide_eq_true h9)
       rw [hd1,List.any_cons] at hK
       simp only [↓wR,RA,simprocAttr,TF,h9,hc];repeat (simp (disch:=omega) only [ah,bh,bf,bg,be];try simp only [↓wR,RA,simprocAttr,TF,h9,hc])
       refine bm (T:=[]) (aq.nil PP) mixed Tryz.func90 rfl (by kernel_rfl) (by kernel_rfl) (by kernel_rfl) (by kernel_rfl) ?_;unfold Tryz.f90
       simp only [↓wR,RA,simprocAttr,TF]
       rw [bj];refine ⟨fun h10=>?_,fun h10=>?_⟩
       ·simp only [↓wR,RA,simprocAttr,TF,h10]
        rw [hr,hK,decide_eq_true (show 0<d.texts.length by omega),decide_eq_true (show 255<c.size by omega)];rfl
       ·simp only [↓wR,RA,simprocAttr,TF,h10];repeat (simp (disch:=omega) only [ah,bh,bf,bg,be];try simp only [↓wR,RA,simprocAttr,TF,h10])
        refine ⟨k+1,⟨hlt,?_⟩,by omega,by (first|rfl|trivial|omega|((try (simp (disch:=omega) only [ah]));(try (simp only [FB]));first|done|rfl|omega))⟩
        rw [hK,decide_eq_false (show ¬ 255<c.size by omega),Bool.false_or]
      ·rw [jh (decide_eq_false h9),List.any_nil] at hK
       simp only [↓wR,RA,simprocAttr,TF,h9]
       rw [hr,hK,decide_eq_true (show 0<d.texts.length by omega)];rfl
     ·simp only [↓wR,RA,simprocAttr,TF,h8]
      rw [hr,decide_eq_false (show ¬ 0<d.texts.length by omega)];rfl
theorem Vr (t:UInt16) : 0≤(qd t).size∧(qd t).size≤4:=by
 unfold qd
 repeat' split
 all_goals simp
noncomputable def Mi (x:Shape × UInt16 × bn × Unit):Option AV:=if (0≤x.1.size∧x.1.size≤4)∧da x.2.2.1 then some ((r1 bw).E true (Cq x.1 x.2.1 x.2.2.1)) else none
set_option maxRecDepth 2000000 in
theorem amq (x:Shape × UInt16 × bn × Unit) (r:AV) (h:Mi x=some r):bu PP 67 ((aC vm (aC cz (aC ak a0))).E x) r:=by
 by_cases hc:(0≤x.1.size∧x.1.size≤4)∧da x.2.2.1
 case neg=>simp only [Mi,if_neg hc] at h;cases h
 simp only [Mi,if_pos hc] at h
 cases h
 exact bk (aq.cons (ar an6) (aq.nil PP)) Tryz.func67 (by kernel_rfl) (by kernel_rfl) (by kernel_rfl) (Nat.le_of_ble_eq_true (by kernel_rfl)) (r1 bw) true (Cq x.1 x.2.1 x.2.2.1) (awz x.1 x.2.1 x.2.2.1 hc.1 hc.2)
noncomputable abbrev azi:Nat × Bool × (List AV→M AV):=(67,true,dq (aC vm (aC cz (aC ak a0))) Mi)
theorem aiw {α:Type} {l:List (List α)} {i:Nat} {c:List α} (h:l[i]? = some c):(l.drop i).flatten=c++(l.drop (i+1)).flatten:=by rw [I0 h];rfl
theorem aw5 {α:Type} {l:List (List α)} {c:List α} (h:c ∈ l):c.length≤l.flatten.length:=by
 induction l with
 |nil=>cases h
 |cons a l ih=>
  simp only [List.flatten_cons,List.length_append]
  rcases List.mem_cons.1 h with rfl|h
  ·omega
  ·have:=ih h;omega
theorem anl (l:List (List UInt8)) (hl:l.length≤16777216) (hf:l.flatten.length≤134217728):wl PP [] 0 (Tryz.f93.body.getD .skip) (du PP Tryz.f93.results.toList (fun r st=>(r1 (cd bp)).get true st.h r=some l.flatten)) (cg 0 [(cd (cd bp)).val false l]) (bb []):=by
 unfold Tryz.f93
 rw [px]
 simp only [↓wR,RA,simprocAttr,TF]
 refine c8 [0,3,9,10,11] (fun (x:Nat × Nat)=>[.vl false 1 (l.map ((cd bp).val false)),.sc (.int .i64 x.2),.vl false 1 (l.map ((cd bp).val false)),.sc (.int .i64 l.length),.sc (.int .i64 x.1)]) (fun _=>[]) (fun x=>x.1≤l.length∧x.2+(l.drop x.1).flatten.length=l.flatten.length) (fun x=>l.length - x.1) (0,0) ⟨Nat.zero_le _,by simp⟩ (by simp only [↓wR,RA,simprocAttr,TF]<;>rfl) (by simp only [↓wR,RA,simprocAttr,TF]<;>rfl) ?_
 rintro ⟨i,k⟩ ⟨hi,hk⟩
 simp only at hi hk
 simp only [↓wR,RA,simprocAttr,TF]
 rw [bj];refine ⟨fun h=>?_,fun h=>?_⟩
 ·obtain ⟨c,hc,hd1,hlt⟩:=gm (decide_eq_true h)
  rw [aiw hc,List.length_append] at hk
  simp only [↓wR,RA,simprocAttr,TF,h,hc];repeat (simp (disch:=omega) only [ah,bh,bf,bg,be];try simp only [↓wR,RA,simprocAttr,TF,h,hc])
  rw [bj];refine ⟨fun h1=>?_,fun h1=>?_⟩
  ·exfalso;omega
  ·simp only [↓wR,RA,simprocAttr,TF,h1];repeat (simp (disch:=omega) only [ah,bh,bf,bg,be];try simp only [↓wR,RA,simprocAttr,TF,h1])
   exact ⟨(i+1,k+c.length),⟨hlt,by show k+c.length+(l.drop (i+1)).flatten.length=_;omega⟩,by simp;omega,by simp⟩
 ·rw [jh (decide_eq_false h)] at hk
  have hk:k=l.flatten.length:=by simpa using hk
  subst hk
  simp only [↓wR,RA,simprocAttr,TF,h]
  refine bm (T:=[]) (aq.nil PP) mixed Tryz.func102 rfl (by kernel_rfl) (by kernel_rfl) (by kernel_rfl) (by kernel_rfl) ?_;unfold Tryz.f102
  simp only [↓wR,RA,simprocAttr,TF]
  rw [bj];refine ⟨fun h1=>?_,fun h1=>?_⟩
  ·exfalso;omega
  simp only [↓wR,RA,simprocAttr,TF,h1];repeat (simp (disch:=omega) only [ah,bh,bf,bg,be];try simp only [↓wR,RA,simprocAttr,TF,h1])
  rw [bj];refine ⟨fun h2=>?_,fun h2=>?_⟩
  ·have hpos : 0<l.flatten.length:=by omega
   simp only [↓wR,RA,simprocAttr,TF,h2,hpos];repeat (simp (disch:=omega) only [ah,bh,bf,bg,be];try simp only [↓wR,RA,simprocAttr,TF,h2,hpos])
   refine c8 [25,26,27,6] (fun (x:Nat × Nat × List UInt8)=>[.vl false 1 (l.map ((cd bp).val false)),.sc (.int .i64 l.length),.sc (.int .i64 x.1),.sl 0 0 x.2.1 1]) (fun x=>[some (.row (x.2.2.map (bp.val false)) 0 0 5)]) (fun x=>x.1≤l.length∧(x.2.1=x.2.2.length∨x.2.1=0)∧x.2.2.take x.2.1++(l.drop x.1).flatten=l.flatten) (fun x=>l.length - x.1) (0,0,List.replicate l.flatten.length 0) ⟨Nat.zero_le _,.inr rfl,rfl⟩ (by simp only [↓wR,RA,simprocAttr,TF]<;>rfl) (by simp only [↓wR,RA,simprocAttr,TF]<;>rfl) ?_
   rintro ⟨k,m,r⟩ ⟨hk1,hk0,hk3⟩
   simp only at hk1 hk0 hk3
   have hk2:m≤r.length:=by omega
   simp only [↓wR,RA,simprocAttr,TF]
   rw [bj];refine ⟨fun h3=>?_,fun h3=>?_⟩
   ·obtain ⟨c,hc,hd1,hlt⟩:=gm (decide_eq_true h3)
    rw [aiw hc] at hk3
    have hm:m+c.length≤134217728:=by
     have:=congrArg List.length hk3
     simp only [List.length_append,List.length_take] at this
     omega
    simp only [↓wR,RA,simprocAttr,TF,h3,hc,hk2];repeat (simp (disch:=omega) only [ah,bh,bf,bg,be];try simp only [↓wR,RA,simprocAttr,TF,h3,hc,hk2])
    have hl1:(r.take m++c).length=m+c.length:=by simp [Nat.min_eq_left hk2]
    refine ⟨(k+1,m+c.length,r.take m++c),⟨hlt,.inl hl1.symm,?_⟩,by simp;omega,by simp,by simp⟩
    show (r.take m++c).take (m+c.length)++_=_
    rw [List.take_of_length_le (Nat.le_of_eq hl1),List.append_assoc]
    exact hk3
   ·rw [jh (decide_eq_false h3)] at hk3
    have hmr:m=r.length:=by
     have:=congrArg List.length hk3
     simp only [List.length_append,List.length_take,List.flatten_nil,List.length_nil] at this
     omega
    subst hmr
    have hr:r=l.flatten:=by simpa using hk3
    subst hr
    simp only [↓wR,RA,simprocAttr,TF,h3,hk2];repeat (simp (disch:=omega) only [ah,bh,bf,bg,be];try simp only [↓wR,RA,simprocAttr,TF,h3,hk2])
  ·have hnil:l.flatten=[]:=List.eq_nil_of_length_eq_zero (by omega)
   simp only [↓wR,RA,simprocAttr,TF,h2];repeat (simp (disch:=omega) only [ah,bh,bf,bg,be];try simp only [↓wR,RA,simprocAttr,TF,h2])
   refine c8 [25,26,27,6] (fun (x:Nat)=>[.vl false 1 (l.map ((cd bp).val false)),.sc (.int .i64 l.length),.sc (.int .i64 x),.sc (.slice none 0 0)]) (fun _=>[]) (fun x=>x≤l.length) (fun x=>l.length - x) 0 (Nat.zero_le _) (by simp only [↓wR,RA,simprocAttr,TF]<;>rfl) (by simp only [↓wR,RA,simprocAttr,TF]<;>rfl) ?_
   intro k hk1
   simp only [↓wR,RA,simprocAttr,TF]
   rw [bj];refine ⟨fun h3=>?_,fun h3=>?_⟩
   ·obtain ⟨c,hc,hd1,hlt⟩:=gm (decide_eq_true h3)
    have hc0:c=[]:=List.eq_nil_of_length_eq_zero (by have:=aw5 (List.mem_of_getElem? hc);rw [hnil] at this;simpa using this)
    subst hc0
    simp only [↓wR,RA,simprocAttr,TF,h3,hc];repeat (simp (disch:=omega) only [ah,bh,bf,bg,be];try simp only [↓wR,RA,simprocAttr,TF,h3,hc])
    refine ⟨k+1,hlt,?_⟩
    first|(refine ⟨by simp;omega,?_⟩;simp)|(simp;omega)
   ·simp only [↓wR,RA,simprocAttr,TF,h3];repeat (simp (disch:=omega) only [ah,bh,bf,bg,be];try simp only [↓wR,RA,simprocAttr,TF,h3])
    rw [hnil]
noncomputable def Bq (x:List (List UInt8) × Unit):Option AV:=if x.1.length≤16777216∧x.1.flatten.length≤134217728 then some ((r1 (cd bp)).E true (x.1.flatten)) else none
set_option maxRecDepth 2000000 in
theorem ado (x:List (List UInt8) × Unit) (r:AV) (h:Bq x=some r):bu PP 93 ((aC (cd (cd bp)) a0).E x) r:=by
 by_cases hc:x.1.length≤16777216∧x.1.flatten.length≤134217728
 case neg=>simp only [Bq,if_neg hc] at h;cases h
 simp only [Bq,if_pos hc] at h
 cases h
 exact bk (aq.nil PP) Tryz.func93 (by kernel_rfl) (by kernel_rfl) (by kernel_rfl) (Nat.le_of_ble_eq_true (by kernel_rfl)) (r1 (cd bp)) true (x.1.flatten) (anl x.1 hc.1 hc.2)
noncomputable abbrev avx:Nat × Bool × (List AV→M AV):=(93,true,dq (aC (cd (cd bp)) a0) Bq)
end Go.Proofs.YtifjogffkafalaaGreat
end
