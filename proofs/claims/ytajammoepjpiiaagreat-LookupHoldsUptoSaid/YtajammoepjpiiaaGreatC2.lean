/- A piece of the proof. Proved: where the arguments are together of bulk at most 1048576, the law LookupHolds returns true (each set that is answered holds), and what it was given reads afterwards as it did before. No other conditions. -/
import Derived.WalkKit
import Derived.CallsIn
import Derived.RangeFuncIn
import Derived.RangeFuncLeaves
import Derived.Orders
import Derived.OrdersIn
import Derived.Scope
import Derived.RangeFuncOwn
import Derived.Stop.SameAnswer
import Derived.Laws.Externs
import Derived.Lib.Bytealg
import Derived.ProofKit
import Derived.OpenShut
import Derived.ReadAgain
import Derived.Deep.Slices
import Derived.ChangeSame
import Derived.Test.YtajammoepjpiiaaGreatProg
import Derived.KernelRfl
import Derived.Test.YtajammoepjpiiaaGreatRows
import Derived.Maps.RangeRun
import Derived.JoinedCond
import Derived.Test.YtajammoepjpiiaaGreatC1
set_option linter.unusedSimpArgs false
set_option linter.unusedVariables false
namespace Go.Vm
noncomputable section
structure Aj (w w':World):Prop where
 size:w.heap.size≤w'.heap.size
 heap:∀ b,b<w.heap.size→w'.heap[b]? = w.heap[b]?
 os:w'.os=w.os
 tape:w'.tape=w.tape
 output:w'.output=w.output
def acw (K:Nat→Nat→Prop) (w w':World):Nat→Nat→Prop:=fun b j=>K b j∨(w.heap.size≤b∧b<w'.heap.size)
def aj5 (P:Program) (f:Nat) (vs:List Value) (w:World) (X:Value→World→Prop):Prop:=
 (∃ v,(callFunc f vs.toArray).run P w = .ok (.value v) w∧X v w) ∨
 ((callFunc f vs.toArray).run P w = .ok (.enter f vs.toArray) w∧Calls P f vs.toArray w (fun e w'=>∃ v,e = .returned v∧X v w'))
def be (P:Program) (f:Nat) (args:List AV) (r:AV):Prop:=
 ∀ (K:Nat→Nat→Prop) (w:World) (vs:List Value),(∀ b j,K b j→b<w.heap.size)→bq (gK w.heap.size K) w args vs →
  aj5 P f vs w (fun v w'=>Aj w w'∧Rel (gK w.heap.size (acw K w w')) w' r v)
theorem Ym {P:Program} {g w nt} {L:SL} {tmps:Array Value} {st:St} (hok:Ok g st.h w) (hs:eg g w nt L tmps):∀ (rs:List ResultVar) (l:List AV),rq P L st rs=some l →
 ∃ vs,(rs.mapM (xz tmps)).run P w = .ok vs w∧bq g w l vs:=by
 intro rs
 induction rs with
 |nil=>intro l h;simp [rq] at h;subst h;exact ⟨[],by simp,bq.nil _ _⟩
 |cons r rs ih=>
  intro l h
  cases r with
  |tmp t=>
   simp only [rq,Option.map_eq_some_iff] at h
   obtain ⟨l',h1,rfl⟩:=h
   obtain ⟨vs,h2,h3⟩:=ih l' h1
   refine ⟨tmps.getD t undef::vs,?_,bq.cons (hs.2 t) h3⟩
   simp only [List.mapM_cons,Sem.run_bind,xz,Sem.run_pure,Result.andThen_ok,h2]
  |cell c t=>
   simp only [rq] at h
   split at h
   ·rename_i v st' hl
    rw [Option.map_eq_some_iff] at h
    obtain ⟨l',h1,rfl⟩:=h
    obtain ⟨vs,h2,h3⟩:=ih l' h1
    have hrel:=hs.2 c
    have hptr:∃ ad,tmps.getD c undef = .pointer (some ad):=by
     generalize lk L c=x at hrel hl
     generalize tmps.getD c undef=v at hrel
     cases hrel<;>first|exact ⟨_,rfl⟩|cases hl
    obtain ⟨ad,had⟩:=hptr
    obtain ⟨u,h4,h5⟩:=amf (P:=P) hok hrel hl had
    refine ⟨u::vs,?_,bq.cons h5 h3⟩
    have h6:(xz tmps (.cell c t)).run P w = .ok u w:=by simp [xz,had,asAddr,h4]
    simp only [List.mapM_cons,Sem.run_bind,h6,Result.andThen_ok,h2]
    rfl
   ·cases h
theorem Yk {P:Program} {g w} {fn:Func} {tmps:Array Value} {l:List AV} {vs:List Value} (h:(fn.results.toList.mapM (xz tmps)).run P w = .ok vs w) (q4:bq g w l vs) :
 ∃ v,(results fn tmps).run P w = .ok v w∧Rel g w (pack l) v:=by
 have hmap:(fn.results.mapM (xz tmps)).run P w = .ok vs.toArray w:=by
  rw [Array.mapM_eq_mapM_toList]
  simp [h]
 rw [ao6]
 simp only [Sem.run_bind,hmap,Result.andThen_ok,Sem.run_pure]
 refine ⟨_,rfl,?_⟩
 match l,vs,q4 with
 | [a1],[v1],q4=>simpa [pack] using q4.head
 | [],[],q4=>simp [pack];exact .fv _ _ rfl (fun i a v h _=>by simp at h)
 |a1::a2::l,v1::v2::vs,q4=>
  simp [pack]
  exact .fv _ _ (by have:=q4.1;simp at this ⊢;omega) (fun i a v h1 h2=>q4.2 i a v h1 (by simpa using h2))
 | [],v::vs,q4=>have:=q4.1;simp at this
 |a::l,[],q4=>have:=q4.1;simp at this
 | [a1],v1::v2::vs,q4=>have:=q4.1;simp at this
 |a1::a2::l,[v1],q4=>have:=q4.1;simp at this
theorem Yu {P:Program} {T:ee} (hT:ak P T) (hm:P.follows .mixedOrders=true) {f:Nat} {fn:Func} {body:Code} (hf:P.funcs[f]? = some fn) (hb:fn.body=some body) (he:mc P f=true) (hs:ec fn.ntmps body=true)
 {args:List AV} (hl:args.length≤fn.ntmps) {ρ:Type} (R:RC ρ) (fr:Bool) (x : ρ)
 (h:wl P T 0 body (dp P fn.results.toList (fun r st=>R.get fr st.h r=some x)) (ca 0 args) (br [])):be P f args (R.E fr x):=by
 intro K w vs hK hrel
 refine .inr ⟨vd he _ _,za (ro:=none) (n:=0) (callsIn_of_wp_marks hf hb trivial ?_)⟩
 let B:gq:={ b0:=w.heap.size,w,K,O:=fun _=>False,az:=0,pb:=fun _=>none,n0:=w.heap.size }
 have hcur:gj B (gK w.heap.size K) (br []) w:=by
  refine ⟨⟨Nat.le_refl _,fun o x hx=>?_,fun o o' x x' b base base' _ hx=>?_,hK⟩,fun o _ _=>rfl,⟨rfl,(fun o ho=>(by rcases ho with ho|ho;cases ho;exact ho.elim)),fun _ _ h=>h,fun _ _ _=>rfl,Nat.le_refl _,rfl,rfl,rfl,fun _ _ _=>rfl,fun o b base ho=>?_,fun _ _ h=>.inl h,fun b cs e fr h=>⟨cs,fr,h,rfl⟩,fun b l h=>⟨l,h⟩⟩,Nat.zero_le _⟩
  ·simp [br,qp,Tr.get_nil] at hx
  ·simp [br,qp,Tr.get_nil] at hx
  ·simp [br,qp,Tr.get_nil] at ho
 refine wpIn_mono (awu hT hm (N:=0) (B:=B) (nt:=fn.ntmps) (fun _ h=>h) (by show (0:Nat)≤1000;omega) (Nat.le_refl _) body hs _ _ _ (gK w.heap.size K) w _ h hcur (Au hrel hl) (Marks.nil _ _ _ _)) ?_
 rintro ex a w' ⟨e,L,st,g,rfl,hq,hc,hr,hd⟩
 have fin:Nw (rq P L st fn.results.toList) (fun r st=>R.get fr st.h r=some x) st→bodyPostM (gv none) 0 P fn (fun e w'=>∃ v,e = .returned v∧Aj w w'∧Rel (gK w.heap.size (acw K w w')) w' (R.E fr x) v) .ret a w':=by
  intro hq
  show LeavesInM (gv none) 0 P fn a.tmps _ a.defers .returning w'
  unfold Nw at hq
  cases hres:rq P L st fn.results.toList with
  |none=>rw [hres] at hq;exact hq.elim
  |some l=>
   rw [hres] at hq
   have hbs:=hc.base
   obtain ⟨bs,e1,e2,e3⟩:=hd
   rw [e1]
   refine If (Good:=fun u=>Ok g st.h u∧Aj w u∧(∀ a v,Rel g w' a v→Rel g u a v)∧u.heap.size=w'.heap.size) (S:=fun b=>w.heap.size≤b∧fw g st.h b) ?_ ?_ bs w'
    ⟨hc.ok,⟨hbs.size,fun b hlt=>hbs.frame b hlt (fun h=>h),hbs.os,hbs.tape,hbs.output⟩,fun _ _ h=>h,rfl⟩ e2 (fun b hb=>⟨⟨(e3 b hb).1,(e3 b hb).2.2⟩,(e3 b hb).2.1⟩)
   ·rintro u b ⟨g1,g2,g3,g4⟩ ⟨hb1,hb2⟩ hb3
    have hput:=Ok.H8 (ds':=none) g1 hb3 hb2
    exact ⟨hput.1,⟨by rw [py];exact g2.size,fun c hc=>(gk u _ (by omega)).trans (g2.heap c hc),g2.os,g2.tape,g2.output⟩,fun a v h=>hput.2 a v (g3 a v h),by rw [py];exact g4⟩
   ·rintro u ⟨g1,g2,g3,g4⟩
    obtain ⟨us,h1,h2⟩:=Ym (P:=P) g1 ⟨hr.1,fun t=>g3 _ _ (hr.2 t)⟩ fn.results.toList l hres
    obtain ⟨v,h3,h4⟩:=Yk h1 h2
    refine ⟨v,h3,v,rfl,g2,?_⟩
    refine R.ok g1 ⟨fun b j hk=>?_,fun o cells k s e ho b base hi j hj=>?_⟩ (fun _=>?_) h4 hq
    ·rcases hbs.pz b j hk with h5|h5|h5
     ·exact .inl h5
     ·exact .inr ⟨h5,g1.K b j hk⟩
     ·exact h5.elim
    ·obtain ⟨b',base',h5,_,h6⟩:=g1.obj o _ ho
     rw [hi] at h5;cases h5
     rcases hbs.own o b base (by rw [ho];rfl) hi with h7|h7
     ·exact .inr ⟨h7,h6.lt⟩
     ·exact h7.elim
    ·rw [hbs.b0];exact Nat.le_refl _
 cases e with
 |normal=>exact fin hq
 |ret=>exact fin hq
 |exit id=>exact hq.elim
theorem Rel.lift {b0 K g w a v} (h:Rel (gK b0 K) w a v) (hb:g.b0≤b0) (hK:∀ b j,K b j→g.K b j):Rel g w a v:=by
 have hno:∀ o p,(gK b0 K).inj o≠some p:=fun o p e=>by cases e
 generalize hg:gK b0 K=g0 at h hno
 have hK':∀ b j,g0.K b j→g.K b j:=by subst hg;exact hK
 have hb':g.b0≤g0.b0:=by subst hg;exact hb
 clear hg
 induction h with
 |sc x=>exact .sc x
 |agg l vs hs _ ih=>exact .agg l vs hs ih
 |fv l vs hs _ ih=>exact .fv l vs hs ih
 |vl loc sz es b off cap c hsz hl hcap h _ ih=>exact .vl loc sz es b off cap c hsz (fun e=>Nat.le_trans hb' (hl e)) hcap (fun j a hj=>⟨hK' _ _ (h j a hj).1,(h j a hj).2⟩) ih
 |kn loc sz=>exact .kn loc sz
 |uq loc sz a=>exact .uq loc sz a
 |sl o off len sz b base cap hi hc hm hr=>exact (hno _ _ hi).elim
 |w5 o off sz a=>exact .w5 o off sz a
 |xq o off sz=>exact .xq o off sz
 |ez a=>exact .ez a
 |ptr o off b base hi=>exact (hno _ _ hi).elim
 |gp l b off c h _ ih=>exact .gp l b off c (fun j a hj=>⟨hK' _ _ (h j a hj).1,(h j a hj).2⟩) ih
 |fn f first captured va vb hs _ hs' _ ih ih'=>exact .fn f first captured va vb hs ih hs' ih'
 |mp o b base hi=>exact (hno _ _ hi).elim
 |tj t a v _ ih=>exact .tj t a v ih
 |yl o b base hi=>exact (hno _ _ hi).elim
 |bad v=>exact .bad v
theorem Eu {l:List AV} (h:AV.fresh.go l=true):∀ a ∈ l,a.fresh=true:=by
 induction l with
 |nil=>intro a ha;cases ha
 |cons x l ih=>
  simp only [AV.fresh.go,Bool.and_eq_true] at h
  intro a ha
  rcases List.mem_cons.1 ha with rfl|ha
  ·exact h.1
  ·exact ih h.2 a ha
theorem ai0 {a:AV} (h:a.fresh=true):∀ c ∈ a.cells,c.fresh=true:=by
 cases a with
 |agg l=>exact Eu h
 |sc v=>intro c hc;simp only [AV.cells,List.mem_map] at hc;obtain ⟨x,_,rfl⟩:=hc;rfl
 |_=>intro c hc;simp only [AV.cells,List.mem_singleton] at hc;subst hc;exact h
theorem Rel.fresh {b0 K g w a v} (h:Rel (gK b0 K) w a v) (hf:a.fresh=true) (hb:g.b0≤b0) (hK:∀ b j,K b j→b0≤b→g.K b j):Rel g w a v:=by
 generalize hg:gK b0 K=g0 at h
 have hK':∀ b j,g0.K b j→g0.b0≤b→g.K b j:=by subst hg;exact hK
 have hb':g.b0≤g0.b0:=by subst hg;exact hb
 clear hg hb hK
 induction h with
 |sc x=>exact .sc x
 |agg l vs hs _ ih=>exact .agg l vs hs (fun i a v ha hv=>ih i a v ha hv (Eu hf a (List.mem_of_getElem? ha)))
 |fv l vs hs _ ih=>exact .fv l vs hs (fun i a v ha hv=>ih i a v ha hv (Eu hf a (List.mem_of_getElem? ha)))
 |vl loc sz es b off cap c hsz hl hcap h _ ih=>
  simp only [AV.fresh,Bool.and_eq_true] at hf
  have hbb:=hl hf.1
  refine .vl loc sz es b off cap c hsz (fun e=>Nat.le_trans hb' hbb) hcap (fun j a hj=>⟨hK' _ _ (h j a hj).1 hbb,(h j a hj).2⟩) (fun j a hj=>ih j a hj ?_)
  obtain ⟨e,he,hc⟩:=List.mem_flatMap.1 (List.mem_of_getElem? hj)
  exact ai0 (Eu hf.2 e he) a hc
 |kn loc sz=>exact .kn loc sz
 |uq loc sz a=>exact .uq loc sz a
 |sl o off len sz b base cap hi hc hm hr=>cases hf
 |w5 o off sz a=>cases hf
 |xq o off sz=>cases hf
 |ez a=>exact .ez a
 |ptr o off b base hi=>cases hf
 |gp l b off c h _ ih=>cases hf
 |fn f first captured va vb hs _ hs' _ ih ih'=>
  simp only [AV.fresh,Bool.and_eq_true] at hf
  exact .fn f first captured va vb hs (fun i a v ha hv=>ih i a v ha hv (Eu hf.1 a (List.mem_of_getElem? ha))) hs' (fun i a v ha hv=>ih' i a v ha hv (Eu hf.2 a (List.mem_of_getElem? ha)))
 |mp o b base hi=>cases hf
 |tj t a v _ ih=>exact .tj t a v (ih hf)
 |yl o b base hi=>cases hf
 |bad v=>cases hf
def Gh.more (g:Gh) (w w':World):Gh:={ g with K:=acw g.K w w' }
theorem D5 {g h w w'} {lo hi:Nat} (hok:Ok g h w) (q:Aj w w'):Step g h w lo hi (g.more w w') h w'∧Ok (g.more w w') h w':=by
 have hext:Ext g w (g.more w w') w':=by
  refine ⟨rfl,fun _ _ h=>h,fun _ _ h=>.inl h,fun b j hj=>ur (q.heap b (hok.K b j hj)),fun b cs e fr hb=>⟨cs,fr,(q.heap b (ct hb)).trans hb,rfl⟩,fun b l hb=>⟨l,(q.heap b (ct hb)).trans hb⟩⟩
 refine ⟨⟨hext,q.size,q.os,q.tape,q.output,fun b hb _=>q.heap b hb,fun _ h _=>h,fun o b base ho hi=>.inr ⟨o,base,ho,hi⟩,fun b j hk=>?_⟩,⟨Nat.le_trans hok.size q.size,fun o x hx=>?_,hok.sep,fun b j hk=>?_⟩⟩
 ·rcases hk with hk|hk
  ·exact .inl hk
  ·exact .inr (.inl hk.1)
 ·refine (hok.nn o x hx).imp id ?_
  rintro ⟨b,base,h1,h2,h3⟩
  refine ⟨b,base,h1,h2,h3.ext hext (q.heap b h3.lt) (fun j hk=>?_)⟩
  rcases hk with hk|hk
  ·exact hk
  ·have:=h3.lt;omega
 ·rcases hk with hk|hk
  ·exact Nat.lt_of_lt_of_le (hok.K b j hk) q.size
  ·exact hk.2
noncomputable def dc {α:Type} (A:AC α) (F : α→Option AV) (args:List AV):M AV:=fun st=>
 match A.get .nil args with
 |some x=>(F x).map fun r=>(r,st)
 |none=>
  match A.get st.h args with
  |some x=>
   match F x with
   |some r=>bif r.fresh then some (r,st) else none
   |none=>none
  |none=>none
theorem ai {P:Program} {f:Nat} {α:Type} {A:AC α} {F : α→Option AV} (h:∀ x r,F x=some r→be P f (A.E x) r) (args:List AV):Cw P f args (dc A F args):=by
 intro g st w vs r st' hok hfree hrel hm
 have go:∀ (X:Value→World→Prop),aj5 P f vs w X→(∀ v w',X v w'→Aj w w'∧Rel (g.more w w') w' r v)→st'=st →
  (∃ v w' g',(callFunc f vs.toArray).run P w = .ok (.value v) w'∧Step g st.h w st.nx st'.nx g' st'.h w'∧Ok g' st'.h w'∧Rel g' w' r v) ∨
  ((callFunc f vs.toArray).run P w = .ok (.enter f vs.toArray) w∧Calls P f vs.toArray w (fun e w'=>∃ v g',e = .returned v∧Step g st.h w st.nx st'.nx g' st'.h w'∧Ok g' st'.h w'∧Rel g' w' r v)):=by
  intro X hx hX e
  subst e
  rcases hx with ⟨v,h1,h2⟩|⟨h1,h2⟩
  ·obtain ⟨q,hr⟩:=hX v w h2
   have:=D5 (lo:=st'.nx) (hi:=st'.nx) hok q
   exact .inl ⟨v,w,_,h1,this.1,this.2,hr⟩
  ·refine .inr ⟨h1,h2.mono ?_⟩
   rintro e w' ⟨v,rfl,h3⟩
   obtain ⟨q,hr⟩:=hX v w' h3
   have:=D5 (lo:=st'.nx) (hi:=st'.nx) hok q
   exact ⟨v,_,rfl,this.1,this.2,hr⟩
 unfold dc at hm
 cases h1:A.get .nil args with
 |some x=>
  rw [h1] at hm
  simp only [Option.map_eq_some_iff] at hm
  obtain ⟨r',h2,h3⟩:=hm
  cases h3
  have hargs:=A.ok (b0:=w.heap.size) (hok.part (hm:=.nil) (fun o x hx=>by rw [Tr.get_nil] at hx;cases hx)) (sm.nil g g.K (fun _ _ h=>h)) hrel h1
  refine go _ (h x r h2 g.K w vs hok.K hargs) (fun v w' hv=>⟨hv.1,hv.2.lift hok.size (fun b j hk=>hk)⟩) rfl
 |none=>
  rw [h1] at hm
  simp only at hm
  cases h2:A.get st.h args with
  |none=>rw [h2] at hm;cases hm
  |some x=>
   rw [h2] at hm
   simp only at hm
   cases h3:F x with
   |none=>rw [h3] at hm;cases hm
   |some r'=>
    rw [h3] at hm
    simp only at hm
    cases h4:r'.fresh with
    |false=>rw [h4] at hm;cases hm
    |true=>
     rw [h4] at hm
     cases hm
     have hargs:=A.ok (b0:=w.heap.size) (K:=fun b _=>b<w.heap.size) hok ⟨fun b j hk=>hok.K b j hk,fun o cells k s e ho b base hi j hj=>by
      obtain ⟨b',base',h5,_,h6⟩:=hok.obj o _ ho
      rw [hi] at h5;cases h5
      exact h6.lt⟩ hrel h2
     refine go _ (h x r h3 (fun b _=>b<w.heap.size) w vs (fun _ _ h=>h) hargs) (fun v w' hv=>⟨hv.1,hv.2.fresh h4 hok.size (fun b j hk hle=>?_)⟩) rfl
     rcases hk with hk|hk
     ·omega
     ·exact .inr hk
theorem ak.nil (P:Program):ak P []:=fun f b m h=>by cases h
theorem ak.cons {P:Program} {f:Nat} {b:Bool} {m:List AV→M AV} {T:ee} (h:∀ args,Cw P f args (m args)) (hT:ak P T):ak P ((f,b,m)::T):=by
 intro f' b' m' hf args
 simp only [ee.find] at hf
 by_cases e:f=f'
 ·subst e
  simp only [Nat.beq_refl,cond_true,Option.some.injEq] at hf
  cases hf
  exact h args
 ·rw [ni e,cond_false] at hf
  exact hT f' b' m' hf args
def anm (g:Gh) (st:St) (w:World):gq:={ iy g st.h w st.nx (fun _=>False) with n0:=w.heap.size }
theorem gj.ofC {g st w} (hok:Ok g st.h w) (hfr:∀ o,st.nx≤o→g.inj o=none):gj (anm g st w) g st w:=
 ⟨hok,fun o h1 _=>hfr o h1,⟨rfl,fun _o _ho=>rfl,fun _ _ h=>h,fun _ _ _=>rfl,Nat.le_refl _,rfl,rfl,rfl,fun _ _ _=>rfl,fun o _b base ho hi=>.inr (.inr ⟨o,base,ho,hi⟩),fun _ _ h=>.inl h,
  fun _b cs _e fr h=>⟨cs,fr,h,rfl⟩,fun _b l h=>⟨l,h⟩⟩,Nat.le_refl _⟩
theorem gj.aD3 {g st w g' st' w'} (h:gj (anm g st w) g' st' w') (hfr:∀ o,st.nx≤o→g.inj o=none):Step g st.h w st.nx st'.nx g' st'.h w':=by
 have b:=h.base
 have pins:∀ o,o<st.nx→g'.inj o=g.inj o:=fun o ho=>b.pins o (.inl ho)
 refine ⟨⟨b.b0,fun o p hp=>?_,b.K,b.cell,b.Be,b.lp⟩,b.size,b.os,b.tape,b.output,fun c hc hn=>b.frame c hc (fun hO=>?_),fun o ho hr=>?_,fun o c base ho hi=>?_,fun c j hk=>?_⟩
 ·by_cases h1:st.nx≤o
  ·rw [hfr o h1] at hp;cases hp
  ·rw [pins o (by omega)];exact hp
 ·rcases hO with hO|⟨o,base,h1,h2⟩
  ·exact hO
  ·exact hn o base h1 h2
 ·by_cases h1:o<st.nx
  ·rw [pins o h1];exact ho
  ·exact h.fresh o (by omega) (fun hf=>hf)
 ·rcases b.own o c base ho hi with h1|h1|h1
  ·exact .inl h1
  ·exact h1.elim
  ·exact .inr h1
 ·rcases b.pz c j hk with h1|h1|h1|h1
  ·exact .inl h1
  ·exact .inr (.inl h1)
  ·exact h1.elim
  ·exact .inr (.inr h1)
theorem bo {P:Program} {T:ee} (hT:ak P T) (hm:P.follows .mixedOrders=true) {f:Nat} {fn:Func} {body:Code} (hf:P.funcs[f]? = some fn) (hb:fn.body=some body) (he:mc P f=true) (hs:ec fn.ntmps body=true)
 {args:List AV} (hl:Nat.ble args.length fn.ntmps=true) {st:St} (hp:Nat.ble st.nx 1000=true) {R:AV→St→Prop}
 (h:wl P T st.nx body (dp P fn.results.toList R) (ca 0 args) st):r8 P f args st R:=by
 intro g w vs hok hfr hrel
 refine .inr ⟨vd he _ _,za (ro:=none) (n:=0) (callsIn_of_wp_marks hf hb trivial ?_)⟩
 have hcur:=gj.ofC (w:=w) hok hfr
 refine wpIn_mono (awu hT hm (N:=0) (B:=anm g st w) (nt:=fn.ntmps) (fun _ h=>h) (Nat.le_of_ble_eq_true hp) (Nat.le_refl _) body hs _ _ _ g w _ h hcur (Au hrel (Nat.le_of_ble_eq_true hl)) (Marks.nil _ _ _ _)) ?_
 rintro ex a w' ⟨e,L,st',g',rfl,hq,hc,hr,hd⟩
 have fin:Nw (rq P L st' fn.results.toList) R st'→bodyPostM (gv none) 0 P fn (fun e w'=>∃ v g' r st',e = .returned v∧R r st'∧st.nx≤st'.nx∧Step g st.h w st.nx st'.nx g' st'.h w'∧Ok g' st'.h w'∧Rel g' w' r v) .ret a w':=by
  intro hq
  show LeavesInM (gv none) 0 P fn a.tmps _ a.defers .returning w'
  unfold Nw at hq
  cases hres:rq P L st' fn.results.toList with
  |none=>rw [hres] at hq;exact hq.elim
  |some l=>
   rw [hres] at hq
   obtain ⟨bs,e1,e2,e3⟩:=hd
   rw [e1]
   refine If (Good:=fun u=>Ok g' st'.h u∧Step g st.h w st.nx st'.nx g' st'.h u∧(∀ a v,Rel g' w' a v→Rel g' u a v)) (S:=fun b=>w.heap.size≤b∧fw g' st'.h b) ?_ ?_ bs w'
    ⟨hc.ok,hc.aD3 hfr,fun _ _ h=>h⟩ e2 (fun b hb=>⟨⟨(e3 b hb).1,(e3 b hb).2.2⟩,(e3 b hb).2.1⟩)
   ·rintro u b ⟨g1,g2,g3⟩ ⟨hb1,hb2⟩ hb3
    have hput:=Ok.H8 (ds':=none) g1 hb3 hb2
    exact ⟨hput.1,Step.aet (ds':=none) hok g2 hb1,fun a v h=>hput.2 a v (g3 a v h)⟩
   ·rintro u ⟨g1,g2,g3⟩
    obtain ⟨us,h1,h2⟩:=Ym (P:=P) g1 ⟨hr.1,fun t=>g3 _ _ (hr.2 t)⟩ fn.results.toList l hres
    obtain ⟨v,h3,h4⟩:=Yk h1 h2
    exact ⟨v,h3,v,g',_,st',rfl,hq,hc.az,g2,g1,h4⟩
 cases e with
 |normal=>exact fin hq
 |ret=>exact fin hq
 |exit id=>exact hq.elim
end
end Go.Vm
namespace Go.Vm
noncomputable section
section code
variable (P : Program) (T : ee) (az : Nat) (Q : QL) (L : SL) (st : St)
theorem aj1:wl P T az .skip Q L st=Q .normal L st:=id rfl
theorem agf (l):wl P T az (.label l) Q L st=Q .normal L st:=id rfl
theorem Zp (i ops d):wl P T az (.region i ops d) Q L st=By P T ops d (Q .normal) L st:=id rfl
theorem apl (a b):wl P T az (.seq a b) Q L st=wl P T az a (aeo (wl P T az b) Q) L st:=id rfl
theorem alu (c a b):wl P T az (.cond c a b) Q L st=xd (c0 L c) (wl P T az a Q) (wl P T az b Q) L st:=id rfl
theorem ahv (i b):wl P T az (.block i b) Q L st=wl P T az b (Ta i Q) L st:=id rfl
theorem alk (b):wl P T az (.loop b) Q L st=sx az (wl P T az b) Q L st:=id rfl
theorem ahx (b):wl P T az (.scope b) Q L st=wl P T az b Q L st:=id rfl
theorem akj (i):wl P T az (.exit i) Q L st=Q (.exit i) L st:=id rfl
theorem arj:wl P T az .ret Q L st=Q .ret L st:=id rfl
theorem ar7 (W):aeo W Q .normal L st=W Q L st:=id rfl
theorem arx (W i):aeo W Q (.exit i) L st=Q (.exit i) L st:=id rfl
theorem apc (W):aeo W Q .ret L st=Q .ret L st:=id rfl
theorem apg (i):Ta i Q .normal L st=Q .normal L st:=id rfl
theorem arl (i):Ta i Q .ret L st=Q .ret L st:=id rfl
theorem atc (i j):Ta i Q (.exit j) L st=bif Nat.beq j i then Q .normal L st else Q (.exit j) L st:=id rfl
theorem ak1 (keep X):yf az keep X Q .normal L st=X (ki az keep L st) (gy az keep L st):=id rfl
theorem ajz (keep X i):yf az keep X Q (.exit i) L st=Q (.exit i) L st:=id rfl
theorem alm (keep X):yf az keep X Q .ret L st=Q .ret L st:=id rfl
theorem aql (rs R):dp P rs R .normal L st=Nw (rq P L st rs) R st:=id rfl
theorem apu (rs R):dp P rs R .ret L st=Nw (rq P L st rs) R st:=id rfl
theorem Z8 (ops K):By P T ops false K L st=opsL P T ops ops.toList K L st:=id rfl
theorem agh (ops K):opsL P T ops [] K L st=K L st:=id rfl
theorem Zt (ops o r K):opsL P T ops (o::r) K L st=zd ops o.guard (adb P T o (opsL P T ops r K)) (Io o.dst (opsL P T ops r K)) L st:=id rfl
theorem adk (ops K recs):Ga P T ops [] K recs L st=(fe (Region.before ops) 0 recs=true∧K L st):=id rfl
theorem Zi (ops o r K recs):Ga P T ops (o::r) K recs L st=zd ops o.guard (gb P T o recs (Ga P T ops r K)) (Io o.dst (Ga P T ops r K (recs++[⟨[],[]⟩]))) L st:=id rfl
theorem Ul (ops X Y):zd ops none X Y L st=X L st:=id rfl
theorem V3 (ops j c X Y):zd ops (some (j,c)) X Y L st=Fz (lk L (vi ops j)) c X Y L st:=id rfl
theorem afr (b:Bool) (X Y:SL→St→Prop):Fz (.sc (.bool b)) true X Y L st=xd (.sc (.bool b)) X Y L st:=by cases b<;>simp [Fz,ya,yy,Cv,xd,qi,AV.bool,AV.exact,ox]
theorem aeg (b:Bool) (X Y:SL→St→Prop):Fz (.sc (.bool b)) false X Y L st=xd (.sc (.bool b)) Y X L st:=by cases b<;>simp [Fz,ya,yy,Cv,xd,qi,AV.bool,AV.exact,ox]
theorem agk (c:Bool) (X Y:SL→St→Prop):Fz (.sc undef) c X Y L st=Y L st:=by simp [Fz,ya,yy,Cv,AV.exact,undef]
theorem akf (o K):adb P T o K L st=M4 (fo P T o (c0 L) st) P o L st K:=id rfl
theorem aeq (v o K st'):M4 (some (v,st')) P o L st K=K (g9 o.dst v L) st':=id rfl
theorem aeh (K d r):ia K d L r st=K (g9 d r L) st:=id rfl
theorem ahs (ro F o recs K v bk):Fj ro F o recs K L st (some (v,bk))=((Hu st.nx F=true∧Nat.ble bk.nx cx=true)∧same (ko st.h F) bk.h (bif ro then F else []) ∧
 K (recs++[⟨F,(bif ro then [] else F)++dx st.nx (bk.nx - st.nx)⟩]) (g9 o.dst v L) { h:=ql bk.h (F++dx st.nx (bk.nx - st.nx)) st.h,nx:=bk.nx,rl:=[],wl:=[] }):=id rfl
theorem aah (d K):Io d K L st=K (g9 d (.sc undef) L) st:=id rfl
theorem bm (b X Y):xd (.sc (.bool b)) X Y L st=((b=true→X L st)∧(b=false→Y L st)):=id rfl
theorem Iu (X Y):xd (.sc (.bool true)) X Y L st=X L st:=by simp [xd,qi,AV.bool,AV.exact,ox]
theorem Jo (X Y):xd (.sc (.bool false)) X Y L st=Y L st:=by simp [xd,qi,AV.bool,AV.exact,ox]
theorem Z2 (v d K):I9 (some (v,st)) d L K=K (g9 d v L) st:=id rfl
theorem aad (d v):g9 (some d) v L=(d,v)::L:=id rfl
theorem Z6 (v):g9 none v L=L:=id rfl
theorem arc (l R):Nw (some l) R st=R (pack l) st:=id rfl
theorem as1 (d v):lk ((d,v)::L) d=v:=by simp [lk]
theorem akw (d t v) (h:(d == t)=false):lk ((d,v)::L) t=lk L t:=by
 have e:d≠t:=by simpa using h
 rw [oi,if_neg e]
theorem aw0 (t):c0 L (.tmp t)=lk L t:=id rfl
theorem axj (v):c0 L (.const v) = .sc v:=id rfl
theorem axp (f):c0 L (.func f) = .sc (.func (.func f) #[] #[]):=id rfl
theorem apx:rq P L st []=some []:=id rfl
theorem aru (t r):rq P L st (.tmp t::r)=(rq P L st r).map (lk L t :: ·):=id rfl
theorem asj (a t r):rq P L st (.cell a t::r)=match ju P t (lk L a) st with|some (v,_)=>(rq P L st r).map (v :: ·)|none=>none:=id rfl
end code
section ops
variable (P : Program) (T : ee) (ρ : Operand → AV) (d : Option Tmp) (ty : TypeId) (pos : String) (af : Array Edge) (gd : Option (Nat × Bool))
theorem J8 (x):fo P T ⟨d,.move x,ty,pos,af,gd⟩ ρ=mono (M.pure (ρ x)):=id rfl
theorem Fa (x):fo P T ⟨d,.assign x,ty,pos,af,gd⟩ ρ=mono (M.pure (ρ x)):=id rfl
theorem J7 (t a):fo P T ⟨d,.load t a,ty,pos,af,gd⟩ ρ=mono (ju P t (ρ a)):=id rfl
theorem A3 (s x f):fo P T ⟨d,.fieldAddr s x f,ty,pos,af,gd⟩ ρ=mono (ky P s (ρ x) f):=id rfl
theorem Sk (op t x y u):fo P T ⟨d,.binOp op t x y u,ty,pos,af,gd⟩ ρ=mono (yz P ρ ⟨d,.binOp op t x y u,ty,pos,af,gd⟩ op t x y):=id rfl
theorem Kx (c a b):fo P T ⟨d,.pick c a b,ty,pos,af,gd⟩ ρ=mono (v8 (ρ c) (ρ a) (ρ b)):=id rfl
theorem Ih (t a x):fo P T ⟨d,.store t a x,ty,pos,af,gd⟩ ρ=mono (qd P t (ρ a) (ρ x)):=id rfl
theorem Dx (t i):fo P T ⟨d,.extract t i,ty,pos,af,gd⟩ ρ=mono (om (ρ t) i):=id rfl
theorem Ba (t x i):fo P T ⟨d,.indexAddr t x i,ty,pos,af,gd⟩ ρ=mono (kz P t (ρ x) (ρ i)):=id rfl
theorem Ck (x):fo P T ⟨d,.nilCheck x,ty,pos,af,gd⟩ ρ=mono (kg (ρ x)):=id rfl
theorem Q0 (t):fo P T ⟨d,.alloc t,ty,pos,af,gd⟩ ρ=mono (sj P t):=id rfl
theorem aar (t x):fo P T ⟨d,.box t x,ty,pos,af,gd⟩ ρ=mono (y7 t (ρ x)):=id rfl
theorem Hw (t ps):fo P T ⟨d,.build t ps,ty,pos,af,gd⟩ ρ=mono (rj P t (ps.toList.map fun p=>(p.1,ρ p.2))):=id rfl
theorem y9 (t n ps):fo P T ⟨d,.buildSlice t n ps,ty,pos,af,gd⟩ ρ=mono (jt P t n (ps.toList.map fun p=>(p.1,ρ p.2))):=id rfl
theorem L5 (t r):fo P T ⟨d,.makeMap t r,ty,pos,af,gd⟩ ρ=mono (s6 r):=id rfl
theorem Jh (f a b):fo P T ⟨d,.makeFunc f a b,ty,pos,af,gd⟩ ρ=mono (M.pure (.fn f (a.toList.map ρ) (b.toList.map ρ))):=id rfl
theorem Ln (s u x):fo P T ⟨d,.convert s u x,ty,pos,af,gd⟩ ρ=mono (pq P ρ ⟨d,.convert s u x,ty,pos,af,gd⟩ s u (ρ x)):=id rfl
theorem Sl (s x f):fo P T ⟨d,.field s x f,ty,pos,af,gd⟩ ρ=mono (tw P s (ρ x) f):=id rfl
theorem Q5 (t x i):fo P T ⟨d,.index t x i,ty,pos,af,gd⟩ ρ=mono (tq P ρ ⟨d,.index t x i,ty,pos,af,gd⟩ t x i):=id rfl
theorem Sa (t x l h m):fo P T ⟨d,.slice t x l h m,ty,pos,af,gd⟩ ρ=mono (si P ρ ⟨d,.slice t x l h m,ty,pos,af,gd⟩ t x l h m):=id rfl
theorem Nq (t x i ok):fo P T ⟨d,.lookup t x i ok,ty,pos,af,gd⟩ ρ=mono (sb P t (ρ x) (ρ i) ok):=id rfl
theorem Gr (t m k x):fo P T ⟨d,.mapUpdate t m k x,ty,pos,af,gd⟩ ρ=mono (mz P t (ρ m) (ρ k) (ρ x)):=id rfl
theorem N0 (x ts):fo P T ⟨d,.call { callee:=.builtin .len,args:=#[x],argTypes:=ts },ty,pos,af,gd⟩ ρ=mono (s5 ((ts[0]?).bind P.underlying) (ρ x)):=id rfl
theorem Fl (s x ts):fo P T ⟨d,.call { callee:=.builtin .append,args:=#[s,x],argTypes:=ts },ty,pos,af,gd⟩ ρ=mono (nw P ts[0]? ((ts[1]?).bind P.underlying) (ρ s) (ρ x)):=id rfl
theorem Uj (f args ts):fo P T ⟨d,.call { callee:=.value f,args,argTypes:=ts },ty,pos,af,gd⟩ ρ=u3 T (ρ f) (args.toList.map ρ):=id rfl
end ops
section monad
variable {α β : Type} (s : St)
theorem aww (m:M α):mono m s=match m s with|none=>none|some (a,s')=>bif decide (s.nx≤s'.nx) then some (a,s') else none:=by
 have:∀ a b,Nat.ble a b=decide (a≤b):=fun a b=>by rw [Bool.eq_iff_iff];simp
 unfold mono
 cases m s with
 |none=>rfl
 |some p=>simp only [this]
theorem awv (m:M α) (f : α→M β):(m.bind f) s=match m s with|none=>none|some (a,s')=>f a s':=id rfl
theorem axs (a : α):(M.pure a) s=some (a,s):=id rfl
theorem axt:(M.fail:M α) s=none:=id rfl
theorem ax0 (a : α):(M.of (some a)) s=some (a,s):=id rfl
theorem axc (b:Bool) (m m':M α):(bif b then m else m') s=bif b then m s else m' s:=by cases b<;>rfl
theorem axb (o:Nat):c8 o s=match s.h.get o with|some x=>some (x,{ s with rl:=o::s.rl })|none=>none:=id rfl
theorem aws (x:bf):ja x s=bif decide (s.nx≤cx) then some (s.nx,{ s with h:=s.h.set depth s.nx (some x),nx:=s.nx+1,wl:=s.nx::s.wl }) else none:=by
 have:Nat.ble s.nx cx=decide (s.nx≤cx):=by rw [Bool.eq_iff_iff];simp
 unfold ja;rw [this]
theorem axi (o:Nat) (x:bf):jg o x s=match s.h.get o with|some _=>bif decide (o≤cx) then some ((),{ s with h:=s.h.set depth o (some x),wl:=o::s.wl }) else none|none=>none:=by
 have:Nat.ble o cx=decide (o≤cx):=by rw [Bool.eq_iff_iff];simp
 unfold jg;rw [this];rfl
theorem ax1 (o:Nat):wv o s=match s.h.get o with|some _=>bif decide (o≤cx) then some ((),{ s with h:=s.h.set depth o none,wl:=o::s.wl }) else none|none=>none:=by
 have:Nat.ble o cx=decide (o≤cx):=by rw [Bool.eq_iff_iff];simp
 unfold wv;rw [this];rfl
theorem aew (t:Tr bf) (n m:Nat) (x:Option bf) (h:n≤16777214):(Tr.set depth t n x).get m=if m=n then x else t.get m:=fh t n m x h
theorem aej (n:Nat):(Tr.nil:Tr bf).get n=none:=id rfl
theorem aA3 (a b:Nat):Nat.ble a b=decide (a≤b):=by rw [Bool.eq_iff_iff];simp
theorem az4 (a b:Nat):Nat.blt a b=decide (a<b):=by rw [Bool.eq_iff_iff];simp
theorem aoy (a b:Nat):Nat.beq a b=decide (a=b):=by rw [Bool.eq_iff_iff];simp
end monad
theorem Sh {a:AV} {x y x' y':Prop} (h1:x→x') (h2:y→y') (h:qi a x y):qi a x' y':=by
 unfold qi at *
 split at h
 ·exact ⟨fun e=>h1 (h.1 e),fun e=>h2 (h.2 e)⟩
 ·exact h.elim
theorem Al {ops L gd} {x y x' y':Prop} (h1:x→x') (h2:y→y') (h:guarded ops L gd x y):guarded ops L gd x' y':=by
 unfold guarded at *
 split at h
 ·exact h1 h
 ·unfold ya at *
  split at h
  ·exact ⟨fun e=>h1 (h.1 e),fun e=>h2 (h.2 e)⟩
  ·exact h.elim
theorem r8.mono {P f args st} {R R':AV→St→Prop} (h:∀ r st,R r st→R' r st) (hc:r8 P f args st R):r8 P f args st R':=by
 intro g w vs h1 h2 h3
 rcases hc g w vs h1 h2 h3 with ⟨v,w',g',r,st',q1,q2,q3⟩|⟨q1,q2⟩
 ·exact .inl ⟨v,w',g',r,st',q1,h _ _ q2,q3⟩
 ·refine .inr ⟨q1,q2.mono ?_⟩
  rintro e w' ⟨v,g',r,st',p1,p2,p3⟩
  exact ⟨v,g',r,st',p1,h _ _ p2,p3⟩
theorem anw {P o L st} {K K':SL→St→Prop} (h:∀ L st,K L st→K' L st) (hc:Qe P o L st K):Qe P o L st K':=by
 unfold Qe ao9 at *
 split at hc
 ·split at hc
  ·exact r8.mono (fun r st hk=>h _ _ hk) hc
  ·exact hc.elim
 ·exact hc.elim
theorem G2 {P T ops} {K K':SL→St→Prop} (h:∀ L st,K L st→K' L st):∀ (l:List Oper) (L:SL) (st:St),opsL P T ops l K L st→opsL P T ops l K' L st
 | [],L,st,hh=>h L st hh
 |o::r,L,st,hh=>Al (fun q=>by
  unfold adb M4 at *
  split at q
  ·exact G2 h r _ _ q
  ·exact anw (fun L st=>G2 h r L st) q) (fun q=>G2 h r _ _ q) hh
theorem Hf {P T ops} {K K':SL→St→Prop} (h:∀ L st,K L st→K' L st):∀ (l:List Oper) (recs:List Rec) (L:SL) (st:St),Ga P T ops l K recs L st→Ga P T ops l K' recs L st
 | [],recs,L,st,hh=>⟨hh.1,h L st hh.2⟩
 |o::r,recs,L,st,hh=>Al (fun q=>by
  unfold gb kr Fj at *
  split at q
  ·exact ⟨q.1,q.2.1,Hf h r _ _ _ q.2.2⟩
  ·exact q.elim) (fun q=>Hf h r _ _ _ q) hh
theorem Gu {P T ops} {K K':SL→St→Prop} (h:∀ L st,K L st→K' L st):∀ (l:List Oper) (recs:List Rec) (L:SL) (st:St),M9 P T ops l K recs L st→M9 P T ops l K' recs L st
 | [],recs,L,st,hh=>⟨hh.1,h L st hh.2⟩
 |o::r,recs,L,st,hh=>Al (fun q=>V2 (fun _ _ _ k=>Gu h r _ _ _ k) q) (fun q=>Gu h r _ _ _ q) hh
theorem zr {P T l az ops} {R:Js} (hR:∀ p args (X X':Ex→St→Prop) st,(∀ e st,X e st→X' e st)→R p args X st→R p args X' st) {K K':Option Ex→SL→St→Prop} (h:∀ pe L st,K pe L st→K' pe L st) :
 ∀ (ls:List Oper) (pe:Option Ex) (L:SL) (st:St),Fm P T l R az ops ls K pe L st→Fm P T l R az ops ls K' pe L st
 | [],pe,L,st,hh=>h pe L st hh
 |o::r,pe,L,st,hh=>Al (fun q=>by
  unfold opI X8 at *
  split at q
  ·unfold I9 at *
   split at q
   ·exact zr hR h r _ _ _ q
   ·exact q.elim
  ·obtain ⟨h0,keep,q⟩:=q
   refine ⟨h0,keep,hR _ _ _ _ _ (fun e st q=>?_) q⟩
   cases e with
   |normal=>exact zr hR h r _ _ _ q
   |ret=>exact zr hR h r _ _ _ q
   |exit id=>exact zr hR h r _ _ _ q) (fun q=>zr hR h r _ _ _ q) hh
theorem Kt {P:Program} {T:ee} {l az:Nat} {R:Js} (hR:∀ p args (X X':Ex→St→Prop) st,(∀ e st,X e st→X' e st)→R p args X st→R p args X' st) :
 ∀ (c:Code) (Q Q':QI),(∀ e pe L st,Q e pe L st→Q' e pe L st)→∀ pe L st,n6 P T l R az c Q pe L st→n6 P T l R az c Q' pe L st:=by
 intro c
 induction c with
 |skip=>intro Q Q' h pe L st hh;exact h _ _ _ _ hh
 |label l=>intro Q Q' h pe L st hh;exact h _ _ _ _ hh
 |exit i=>intro Q Q' h pe L st hh;exact h _ _ _ _ hh
 |ret=>intro Q Q' h pe L st hh;exact h _ _ _ _ hh
 |region i ops draw=>
  intro Q Q' h pe L st hh
  cases draw with
  |false=>exact zr hR (h _) _ _ _ _ hh
  |true=>exact ⟨hh.1,hh.2.imp (Hf (h _ _) _ _ _ _) (Gu (h _ _) _ _ _ _)⟩
 |seq a b iha ihb=>
  intro Q Q' h pe L st hh
  refine iha _ _ ?_ pe L st hh
  intro e pe L st q
  cases e with
  |normal=>exact ihb _ _ h pe L st q
  |_=>exact h _ _ _ _ q
 |cond c a b iha ihb=>intro Q Q' h pe L st hh;exact Sh (iha _ _ h pe L st) (ihb _ _ h pe L st) hh
 |block i b ih=>
  intro Q Q' h pe L st hh
  refine ih _ _ ?_ pe L st hh
  intro e pe L st q
  cases e with
  |exit j=>
   simp only [Tb] at *
   cases hb:Nat.beq j i with
   |true=>rw [hb] at q;exact h _ _ _ _ q
   |false=>rw [hb] at q;exact h _ _ _ _ q
  |_=>exact h _ _ _ _ q
 |loop b ih=>
  intro Q Q' h pe L st hh
  obtain ⟨h0,keep,hh⟩:=hh
  refine ⟨h0,keep,fun X hX=>hh X fun vs os q=>hX vs os (ih _ _ ?_ _ _ _ q)⟩
  intro e pe L st q
  cases e with
  |normal=>exact q
  |_=>exact h _ _ _ _ q
 |scope b ih=>intro _ _ _ _ _ _ hh;exact hh.elim
 |rangeFunc=>intro _ _ _ _ _ _ hh;exact hh.elim
 |goto=>intro _ _ _ _ _ _ hh;exact hh.elim
 |refuse=>intro _ _ _ _ _ _ hh;exact hh.elim
theorem avu {P:Program} {T:ee}:∀ (c:Code) (az:Nat) (Q Q':QL),(∀ e L st,Q e L st→Q' e L st)→∀ L st,wl P T az c Q L st→wl P T az c Q' L st:=by
 intro c
 induction c with
 |skip=>intro az Q Q' h L st hh;exact h _ _ _ hh
 |label l=>intro az Q Q' h L st hh;exact h _ _ _ hh
 |exit i=>intro az Q Q' h L st hh;exact h _ _ _ hh
 |ret=>intro az Q Q' h L st hh;exact h _ _ _ hh
 |region i ops draw=>
  intro az Q Q' h L st hh
  cases draw with
  |false=>exact G2 (h _) _ _ _ hh
  |true=>exact ⟨hh.1,hh.2.imp (Hf (h _) _ _ _ _) (Gu (h _) _ _ _ _)⟩
 |seq a b iha ihb=>
  intro az Q Q' h L st hh
  refine iha _ _ _ ?_ L st hh
  intro e L st q
  cases e with
  |normal=>exact ihb _ _ _ h L st q
  |_=>exact h _ _ _ q
 |cond c a b iha ihb=>intro az Q Q' h L st hh;exact Sh (iha _ _ _ h L st) (ihb _ _ _ h L st) hh
 |block i b ih=>
  intro az Q Q' h L st hh
  refine ih _ _ _ ?_ L st hh
  intro e L st q
  cases e with
  |exit j=>
   simp only [Ta] at *
   cases hb:Nat.beq j i with
   |true=>rw [hb] at q;exact h _ _ _ q
   |false=>rw [hb] at q;exact h _ _ _ q
  |_=>exact h _ _ _ q
 |loop b ih=>
  intro az Q Q' h L st hh
  obtain ⟨keep,hh⟩:=hh
  refine ⟨keep,fun X hX=>hh X fun vs os q=>hX vs os (ih _ _ _ ?_ _ _ q)⟩
  intro e L st q
  cases e with
  |normal=>exact q
  |_=>exact h _ _ _ q
 |scope b ih=>intro az Q Q' h L st hh;exact ih _ _ _ h L st hh
 |rangeFunc f ps a b iha ihb=>
  intro az Q Q' h L st hh
  obtain ⟨keep,h0,hh⟩:=hh
  refine ⟨keep,h0,?_⟩
  unfold Nj at *
  split at hh
  ·unfold M7 at *
   split at hh
   ·refine ⟨hh.1,fun l=>Kt (fun p args X X' st hX hr=>⟨hr.1,hr.2.1,iha _ _ _ (fun e L st q=>(by
     cases e with
     |normal=>exact ihb _ _ _ (fun e _ st q=>hX e st q) _ _ q
     |_=>exact q.elim)) _ _ hr.2.2⟩) _ _ _ (fun e pe L st q=>(by
     cases e with
     |exit id=>exact q.elim
     |normal=>
      cases pe with
      |none=>exact h _ _ _ q
      |some e=>exact h _ _ _ q
     |ret=>
      cases pe with
      |none=>exact h _ _ _ q
      |some e=>exact h _ _ _ q)) _ _ _ (hh.2 l)⟩
   ·exact hh.elim
  ·exact hh.elim
 |goto=>intro _ _ _ _ _ _ hh;exact hh.elim
 |refuse=>intro _ _ _ _ _ _ hh;exact hh.elim
theorem Il {P:Program} {T:ee} {az:Nat} (c:Code) (Q Q':QL) (h:∀ e L st,Q e L st→Q' e L st) (L:SL) (st:St) (hh:wl P T az c Q L st):wl P T az c Q' L st:=avu c az Q Q' h L st hh
theorem dh {α:Type} {P:Program} {T:ee} {az:Nat} {b:Code} {Q:QL} {L:SL} {st:St} (keep:List Nat) (V : α→List AV) (O : α→List (Option bf)) (I : α→Prop) (μ : α→Nat) (x : α) (hx:I x)
 (hv:ki az keep L st=V x) (ho:gy az keep L st=O x)
 (step:∀ x,I x→wl P T az b (yf az keep (fun vs os=>∃ y,I y ∧ μ y < μ x∧vs=V y∧os=O y) Q) (nm keep (V x)) (br (O x))):sx az (wl P T az b) Q L st:=
 sx.of keep V O I μ x hx hv ho (fun _ _ h=>Il b _ _ h) step
section cods
theorem qe {α:Type} (C:de α) (l:Bool) (xs:List α):(cp C).val l xs = .vl l C.sz (xs.map (C.val l)):=id rfl
theorem wh {α:Type} (C:de α):(cp C).sz=1:=id rfl
theorem aae:aq.sz=1:=id rfl
theorem afh:cy.sz=1:=id rfl
theorem x7:cw.sz=1:=id rfl
theorem su:bn.sz=1:=id rfl
theorem sv (k:IntKind):(au k).sz=1:=id rfl
theorem ux:bp.sz=1:=id rfl
theorem G1 (l:Bool) (x:UInt8):cy.val l x = .sc (.int .u8 x.toNat):=id rfl
theorem Uh (l:Bool) (x:UInt16):cw.val l x = .sc (.int .u16 x.toNat):=id rfl
theorem Xp (l:Bool) (x:UInt32):bn.val l x = .sc (.int .u32 x.toNat):=id rfl
theorem Ug (k:IntKind) (l:Bool) (x:Int):(au k).val l x = .sc (.int k x):=id rfl
theorem Sq (l:Bool) (x:Bool):bp.val l x = .sc (.bool x):=id rfl
theorem aln (o i:Nat):idx [] o i=none:=id rfl
theorem agv {α:Type} (C:de α) (τ:Nat→Option Nat) (l:Bool):AV.dg τ ∘ C.val l=C.val l:=by funext x;exact P6 C τ l x
theorem Vf (l:Bool) (x:ByteArray):aq.val l x = .sc (.string x):=id rfl
theorem r9 {α:Type} (C:de α) (fr:Bool) (h:Tr bf) (a:AV) (h1:a.known=true) (h2:a.isAgg=C.agg):C.fp fr h a=C.dec fr h a.cells:=by
 unfold de.fp;rw [h1,h2];simp
theorem Uo (fr:Bool) (h:Tr bf) (n:Int) (h0 : 0≤n) (h1:n<4294967296):bn.fp fr h (.sc (.int .u32 n))=some (UInt32.ofNat n.toNat):=by
 rw [r9 _ _ _ _ rfl rfl];show adg (.int .u32 n)=_;simp [adg,h0,h1]
theorem Zx (fr:Bool) (h:Tr bf) (n:UInt32):bn.fp fr h (.sc (.int .u32 n.toNat))=some n:=bn.Pj fr h true n (fun _=>rfl)
theorem xu (fr:Bool) (h:Tr bf) (n:UInt16):cw.fp fr h (.sc (.int .u16 n.toNat))=some n:=cw.Pj fr h true n (fun _=>rfl)
theorem Xa (k:IntKind) (fr:Bool) (h:Tr bf) (n:Int):(au k).fp fr h (.sc (.int k n))=some n:=(au k).Pj fr h true n (fun _=>rfl)
theorem Ss (fr:Bool) (h:Tr bf) (b:Bool):bp.fp fr h (.sc (.bool b))=some b:=bp.Pj fr h true b (fun _=>rfl)
theorem Wh (fr:Bool) (h:Tr bf) (s:ByteArray):aq.fp fr h (.sc (.string s))=some s:=aq.Pj fr h true s (fun _=>rfl)
theorem Ch {α:Type} (C:de α) (fr:Bool) (h:Tr bf) (a:AV) (h1:a.known=true) (h2:a.isAgg=false) (h3:a.cells=[a]):(cp C).fp fr h a=ew C fr h a:=by
 rw [r9 _ _ _ _ h1 h2,h3];rfl
theorem ayu {α:Type} (C:de α) (fr:Bool) (h:Tr bf) (l:Bool) (xs:List α) (hl:(l || !fr)=true):(cp C).fp fr h (.vl l C.sz (xs.map (C.val l)))=some xs:=by
 refine (cp C).Pj fr h l xs ?_
 cases fr<;>simp_all
theorem ah0 {α:Type} (C:de α) (fr:Bool) (h:Tr bf):ew C fr h (.sc (.slice none 0 0))=some []:=id rfl
theorem wa {α:Type} (C:de α) (fr:Bool) (h:Tr bf) (l:Bool) (xs:List α) (n:Nat) (hn:n=C.sz) (hl:(l || !fr)=true):ew C fr h (.vl l n (xs.map (C.val l)))=some xs:=by
 subst hn
 have:(cp C).fp fr h (.vl l C.sz (xs.map (C.val l)))=some xs:=ayu C fr h l xs hl
 rwa [Ch C fr h _ rfl rfl rfl] at this
theorem aj4 {α:Type} (C:de α) (fr:Bool) (h:Tr bf) (o off len n:Nat):ew C fr h (.sl o off len n)=bif decide (n=C.sz) then (h.get o).bind (og C fr h off len) else none:=by
 show (bif Nat.beq n C.sz then _ else _)=_
 rw [aoy]
theorem aGm {α:Type} (C:de α) (fr:Bool) (h:Tr bf) (n:Nat) (l:List AV):Ab C fr h (n+1) l=match C.dec fr h (l.take C.sz),Ab C fr h n (l.drop C.sz) with|some x,some xs=>some (x::xs)|_,_=>none:=id rfl
theorem Uy (fr:Bool) (h:Tr bf) (n:Int) (h0 : 0≤n) (h1:n<256):cy.dec fr h [.sc (.int .u8 n)]=some (UInt8.ofNat n.toNat):=by
 show u8V (.int .u8 n)=_;simp [u8V,h0,h1]
theorem aC2 {α β:Type} (A:de α) (B:de β) (l:Bool) (p : α × β):(r2 A B).E l p = .fv [A.val l p.1,B.val l p.2]:=id rfl
theorem aCx {α β γ:Type} (A:de α) (B:de β) (C:de γ) (l:Bool) (p : α × β × γ):(r3 A B C).E l p = .fv [A.val l p.1,B.val l p.2.1,C.val l p.2.2]:=id rfl
theorem az3 {α:Type} (A:de α) (l:Bool) (x : α):(r1 A).E l x=A.val l x:=id rfl
theorem afe (T:ee) (g:Nat) (a b:Array Value) (args:List AV):u3 T (.sc (.func (.func g) a b)) args=tn T g (a.toList.map .sc++args++b.toList.map .sc):=id rfl
theorem af9 (T:ee) (g:Nat) (a b:List AV) (args:List AV):u3 T (.fn (.func g) a b) args=tn T g (a++args++b):=id rfl
theorem aao (f:Nat) (b:Bool) (m:List AV→M AV) (T:ee) (args:List AV):tn ((f,b,m)::T) f args=mono (m args):=by simp [tn,ee.find]
theorem Un (f g:Nat) (b:Bool) (m:List AV→M AV) (T:ee) (args:List AV) (h:(f == g)=false):tn ((f,b,m)::T) g args=tn T g args:=by
 have:f≠g:=by simpa using h
 simp [tn,ee.find,ni this]
theorem adz {α:Type} (A:AC α) (F : α→Option AV) (args:List AV) (st:St):dc A F args st=match A.get .nil args with|some x=>(F x).map fun r=>(r,st)|none=>match A.get st.h args with|some x=>(match F x with|some r=>bif r.fresh then some (r,st) else none|none=>none)|none=>none:=id rfl
theorem az5 {α β:Type} (A:de α) (B:de β) (fr:Bool) (h:Tr bf) (a b:AV):(r2 A B).get fr h (.fv [a,b])=match A.fp fr h a,B.fp fr h b with|some x,some y=>some (x,y)|_,_=>none:=id rfl
theorem aBe {α β γ:Type} (A:de α) (B:de β) (C:de γ) (fr:Bool) (h:Tr bf) (a b c:AV):(r3 A B C).get fr h (.fv [a,b,c])=match A.fp fr h a,B.fp fr h b,C.fp fr h c with|some x,some y,some z=>some (x,y,z)|_,_,_=>none:=id rfl
theorem aC1 (h:Tr bf):a0.get h []=some ():=id rfl
theorem aB1 {α β:Type} (C:de α) (R:AC β) (h:Tr bf) (a:AV) (r:List AV):(aC C R).get h (a::r)=match C.fp false h a,R.get h r with|some x,some y=>some (x,y)|_,_=>none:=id rfl
theorem aA5 {α:Type} (A:de α) (fr:Bool) (h:Tr bf) (a:AV):(r1 A).get fr h a=A.fp fr h a:=id rfl
end cods
section
variable (P : Program)
theorem aa0 (pl:Nat→Option (Nat × Nat)) (cells:List AV):xe pl cells []=some cells:=id rfl
theorem Us (pl:Nat→Option (Nat × Nat)) (cells:List AV) (i:Nat) (v:AV) (rest:List (Nat × AV)):xe pl cells ((i,v)::rest)=match pl i with
 |none=>none
 |some (off,size)=>bif !v.known || !(Nat.beq v.cells.length size) || !(Nat.ble (off+size) cells.length) then none else xe pl (cells.take off++v.cells++cells.drop (off+size)) rest:=id rfl
def vn (t:TypeId):Option (List AV × List (Nat × Nat)):=
 match er P t,P.underlying t with
 |some z,some (.struct fields)=>(Iq P fields).map fun pl=>(z.cells.toList.map .sc,pl)
 |_,_=>none
theorem W6 (t:TypeId) (ps:List (Nat × AV)):rj P t ps=match vn P t with
 |some (z,pl)=>.of ((xe (fun i=>pl[i]?) z ps).map .agg)
 |none=>rj P t ps:=by
 cases hb:vn P t with
 |none=>rfl
 |some q=>
  obtain ⟨z,pl⟩:=q
  simp only [vn] at hb
  split at hb
  ·rename_i z' fs hz hu
   cases hp:Iq P fs with
   |none=>simp [hp] at hb
   |some pl'=>
    simp [hp] at hb
    obtain ⟨rfl,rfl⟩:=hb
    simp [rj,hz,hu,hp]
  ·cases hb
def Bw (t:TypeId):Option (TypeId × Nat × List AV):=
 match qa P t with
 |none=>none
 |some e=>
  match di P e,er P e with
  |some sz,some z=>bif Nat.beq z.cells.size sz then some (e,sz,z.cells.toList.map .sc) else none
  |_,_=>none
theorem Hl (t:TypeId) (len:Nat) (ps:List (Nat × AV)):jt P t len ps=match Bw P t with
 |some (e,sz,z)=>
  match xe (fun i=>some (i * sz,sz)) (List.replicate len z).flatten ps with
  |some cells=>bif Nat.ble (len * sz) 16777216 && Nat.ble len 16777216 then ln e sz len cells else .fail
  |none=>.fail
 |none=>jt P t len ps:=by
 cases hb:Bw P t with
 |none=>rfl
 |some q=>
  obtain ⟨e,sz,z⟩:=q
  simp only [Bw] at hb
  split at hb
  ·cases hb
  ·rename_i e' he
   split at hb
   ·rename_i sz' z' hs hz
    cases hq:Nat.beq z'.cells.size sz' with
    |false=>simp [hq] at hb
    |true=>
     simp [hq] at hb
     obtain ⟨rfl,rfl,rfl⟩:=hb
     simp only [jt,he,hs,hz,hq,Bool.and_true]
     rfl
   ·cases hb
end
section ranges
variable (P : Program) (T : ee) (l az : Nat) (R : Js) (Q : QI) (pe : Option Ex) (L : SL) (st : St)
theorem af8 (f:Operand) (ps:Array Tmp) (a b:Code) (Q:QL):wl P T az (.rangeFunc f ps a b) Q L st=asq P T f ps.toList (fun p=>wl P T p a) (fun p=>wl P T p b) az Q L st:=id rfl
theorem adr:n6 P T l R az .skip Q pe L st=Q .normal pe L st:=id rfl
theorem Va (i:Nat) (ops:Array Oper):n6 P T l R az (.region i ops false) Q pe L st=Fm P T l R az ops ops.toList (Q .normal) pe L st:=id rfl
theorem aeu (i:Nat) (ops:Array Oper):n6 P T l R az (.region i ops true) Q pe L st=By P T ops true (Q .normal pe) L st:=id rfl
theorem aj8 (a b:Code):n6 P T l R az (.seq a b) Q pe L st=n6 P T l R az a (ahw (n6 P T l R az b) Q) pe L st:=id rfl
theorem aer (c:Operand) (a b:Code):n6 P T l R az (.cond c a b) Q pe L st=y8 (c0 L c) (n6 P T l R az a Q) (n6 P T l R az b Q) pe L st:=id rfl
theorem abc (i:Nat) (a:Code):n6 P T l R az (.block i a) Q pe L st=n6 P T l R az a (Tb i Q) pe L st:=id rfl
theorem aho (i:Nat):n6 P T l R az (.exit i) Q pe L st=Q (.exit i) pe L st:=id rfl
theorem akn:n6 P T l R az .ret Q pe L st=Q .ret pe L st:=id rfl
theorem atl (W:QI→Option Ex→SL→St→Prop):ahw W Q .normal pe L st=W Q pe L st:=id rfl
theorem asu (W:QI→Option Ex→SL→St→Prop) (i:Nat):ahw W Q (.exit i) pe L st=Q (.exit i) pe L st:=id rfl
theorem as7 (W:QI→Option Ex→SL→St→Prop):ahw W Q .ret pe L st=Q .ret pe L st:=id rfl
theorem aps (i:Nat):Tb i Q .normal pe L st=Q .normal pe L st:=id rfl
theorem aqn (i:Nat):Tb i Q .ret pe L st=Q .ret pe L st:=id rfl
theorem arh (i j:Nat):Tb i Q (.exit j) pe L st=if j=i then Q .normal pe L st else Q (.exit j) pe L st:=by
 show (bif Nat.beq j i then _ else _)=_
 rw [aoy];by_cases h:j=i<;>simp [h]
theorem alv (Q':QL):vk Q' Q .normal pe L st=(pe=none∧Q' .normal L st):=id rfl
theorem aj2 (Q':QL) (i:Nat):vk Q' Q (.exit i) pe L st=Q (.exit i) pe L st:=id rfl
theorem aki (Q':QL):vk Q' Q .ret pe L st=Q .ret pe L st:=id rfl
theorem al0 (Q:QL) (L0:SL):Yd Q L0 .normal none L st=Q .normal L0 st:=id rfl
theorem al3 (Q:QL) (L0:SL):Yd Q L0 .ret none L st=Q .normal L0 st:=id rfl
theorem akb (Q:QL) (L0:SL) (e:Ex):Yd Q L0 .ret (some e) L st=Q e L0 st:=id rfl
theorem aek (ops:Array Oper) (K:Option Ex→SL→St→Prop):Fm P T l R az ops [] K pe L st=K pe L st:=id rfl
theorem Y7 (ops:Array Oper) (o:Oper) (r:List Oper) (K:Option Ex→SL→St→Prop):Fm P T l R az ops (o::r) K pe L st=Kj ops o.guard (opI P T l R az o (Fm P T l R az ops r K)) (X4 o.dst (Fm P T l R az ops r K)) pe L st:=id rfl
theorem Vk (ops:Array Oper) (X Y:Option Ex→SL→St→Prop):Kj ops none X Y pe L st=X pe L st:=id rfl
theorem W8 (ops:Array Oper) (j:Nat) (c:Bool) (X Y:Option Ex→SL→St→Prop):Kj ops (some (j,c)) X Y pe L st=Fs (lk L (vi ops j)) c X Y pe L st:=id rfl
theorem ah2 (b:Bool) (X Y:Option Ex→SL→St→Prop):Fs (.sc (.bool b)) true X Y pe L st=y8 (.sc (.bool b)) X Y pe L st:=by cases b<;>simp [Fs,ya,yy,Cv,y8,qi,AV.bool,AV.exact,ox]
theorem ahb (b:Bool) (X Y:Option Ex→SL→St→Prop):Fs (.sc (.bool b)) false X Y pe L st=y8 (.sc (.bool b)) Y X pe L st:=by cases b<;>simp [Fs,ya,yy,Cv,y8,qi,AV.bool,AV.exact,ox]
theorem aev (c:Bool) (X Y:Option Ex→SL→St→Prop):Fs (.sc undef) c X Y pe L st=Y pe L st:=by simp [Fs,ya,yy,Cv,AV.exact,undef]
theorem akz (X Y:Option Ex→SL→St→Prop):y8 (.sc (.bool true)) X Y pe L st=X pe L st:=by simp [y8,qi,AV.bool,AV.exact,ox]
theorem ali (X Y:Option Ex→SL→St→Prop):y8 (.sc (.bool false)) X Y pe L st=Y pe L st:=by simp [y8,qi,AV.bool,AV.exact,ox]
theorem tv (b:Bool) (X Y:Option Ex→SL→St→Prop):y8 (.sc (.bool b)) X Y pe L st=((b=true→X pe L st)∧(b=false→Y pe L st)):=by simp [y8,qi,AV.bool,AV.exact,ox]
theorem Wg (d:Option Tmp) (K:Option Ex→SL→St→Prop):X4 d K pe L st=K pe (g9 d (.sc undef) L) st:=id rfl
theorem ar5 (o:Oper) (K:Option Ex→SL→St→Prop):opI P T l R az o K pe L st=X8 P T R az o K pe L st (yieldOf l o L):=id rfl
theorem ato (o:Oper) (K:Option Ex→SL→St→Prop):X8 P T R az o K pe L st none=I9 (fo P T o (c0 L) st) o.dst L (K pe):=id rfl
theorem agt (d:Option Tmp) (K:Option Ex→SL→St→Prop):ae7 d L K .normal st=K none (g9 d (.sc (.bool true)) L) st:=id rfl
theorem af1 (d:Option Tmp) (K:Option Ex→SL→St→Prop):ae7 d L K .ret st=K (some .ret) (g9 d (.sc (.bool false)) L) st:=id rfl
theorem ak8 (B:QL→SL→St→Prop) (X:Ex→St→Prop):aw2 B X .normal L st=B (fun e _ st=>X e st) L st:=id rfl
theorem aa8 (k:Nat) (va vb:Array Value):zn l (.sc (.func (.yield k) va vb))=(Nat.beq k l && Nat.beq va.size 0 && Nat.beq vb.size 0):=id rfl
theorem Y5 (k:Nat) (va vb:Array Value):zn l (.sc (.func (.func k) va vb))=false:=id rfl
theorem Q4:zq [] [] L=L:=id rfl
theorem Nk (t:Nat) (ts:List Nat) (v:AV) (vs:List AV):zq (t::ts) (v::vs) L=zq ts vs ((t,v)::L):=id rfl
theorem awm {α:Type} {b:Code} (keep:List Nat) (V : α→List AV) (O : α→List (Option bf)) (I : α→Prop) (μ : α→Nat) (x : α) (hx:I x) (hR:∀ p args (X X':Ex→St→Prop) st,(∀ e st,X e st→X' e st)→R p args X st→R p args X' st)
 (hv:ki az keep L st=V x) (ho:gy az keep L st=O x)
 (step:∀ x,I x→n6 P T l R az b (vk (yf az keep (fun vs os=>∃ y,I y ∧ μ y < μ x∧vs=V y∧os=O y) (fun _ _ _=>False)) Q) none (nm keep (V x)) (br (O x))):n6 P T l R az (.loop b) Q none L st:=
 ⟨rfl,sx.of (B:=fun Q' L st=>n6 P T l R az b (vk Q' Q) none L st) keep V O I μ x hx hv ho (fun Q1 Q2 h L st hh=>Kt hR b _ _ (fun e pe L st q=>by
  cases e with
  |normal=>exact ⟨q.1,h _ _ _ q.2⟩
  |ret=>exact q
  |exit i=>exact q) none L st hh) step⟩
theorem H9 {ps:List Tmp} {a b:Code} {L0:SL}:∀ p args (X X':Ex→St→Prop) st,(∀ e st,X e st→X' e st)→gi ps (fun p=>wl P T p a) (fun p=>wl P T p b) L0 p args X st→gi ps (fun p=>wl P T p a) (fun p=>wl P T p b) L0 p args X' st:=
 fun p args X X' st hX hr=>⟨hr.1,hr.2.1,Il _ _ _ (fun e L st q=>by
  cases e with
  |normal=>exact Il _ _ _ (fun e _ st q=>hX e st q) _ _ q
  |_=>exact q.elim) _ _ hr.2.2⟩
end ranges
section yields
variable {lp : Nat} {L : SL} {d : Option Tmp} {ty : TypeId} {pos : String} {af : Array Edge} {gd : Option (Nat × Bool)}
theorem Mf (x):yieldOf lp ⟨d,.move x,ty,pos,af,gd⟩ L=none:=id rfl
theorem Jx (x):yieldOf lp ⟨d,.assign x,ty,pos,af,gd⟩ L=none:=id rfl
theorem Nb (t a):yieldOf lp ⟨d,.load t a,ty,pos,af,gd⟩ L=none:=id rfl
theorem D3 (s x f):yieldOf lp ⟨d,.fieldAddr s x f,ty,pos,af,gd⟩ L=none:=id rfl
theorem Lw (op t x y u):yieldOf lp ⟨d,.binOp op t x y u,ty,pos,af,gd⟩ L=none:=id rfl
theorem Oo (c a b):yieldOf lp ⟨d,.pick c a b,ty,pos,af,gd⟩ L=none:=id rfl
theorem Ls (t a x):yieldOf lp ⟨d,.store t a x,ty,pos,af,gd⟩ L=none:=id rfl
theorem Hs (t i):yieldOf lp ⟨d,.extract t i,ty,pos,af,gd⟩ L=none:=id rfl
theorem D4 (t x i):yieldOf lp ⟨d,.indexAddr t x i,ty,pos,af,gd⟩ L=none:=id rfl
theorem Lq (t):yieldOf lp ⟨d,.alloc t,ty,pos,af,gd⟩ L=none:=id rfl
theorem L4 (t ps):yieldOf lp ⟨d,.build t ps,ty,pos,af,gd⟩ L=none:=id rfl
theorem Di (t n ps):yieldOf lp ⟨d,.buildSlice t n ps,ty,pos,af,gd⟩ L=none:=id rfl
theorem E9 (f a b):yieldOf lp ⟨d,.makeFunc f a b,ty,pos,af,gd⟩ L=none:=id rfl
theorem Pn (op t x):yieldOf lp ⟨d,.unOp op t x,ty,pos,af,gd⟩ L=none:=id rfl
theorem Rg (x ts):yieldOf lp ⟨d,.call { callee:=.builtin .len,args:=#[x],argTypes:=ts },ty,pos,af,gd⟩ L=none:=id rfl
theorem Je (s x ts):yieldOf lp ⟨d,.call { callee:=.builtin .append,args:=#[s,x],argTypes:=ts },ty,pos,af,gd⟩ L=none:=id rfl
theorem Mn (f:Operand) (args:Array Operand) (ts:Array TypeId):yieldOf lp ⟨d,.call { callee:=.value f,args:=args,argTypes:=ts },ty,pos,af,gd⟩ L=bif zn lp (c0 L f) then some args else none:=id rfl
end yields
end
end Go.Vm
namespace Go.Vm
noncomputable section
section
variable (P : Program) (ρ : Operand → AV) (d : Option Tmp) (ty : TypeId) (pos : String) (af : Array Edge) (gd : Option (Nat × Bool)) (t u : TypeId) (x y : Operand)
theorem Nl (op:BinOp) (k k':IntKind) (a b:Int) (hx : ρ x = .sc (.int k a)) (hy : ρ y = .sc (.int k' b)) :
 mb P ρ ⟨d,.binOp op t x y u,ty,pos,af,gd⟩ op t (.sc (.int k a)) (.sc (.int k' b))=M.of ((ev P (binOp op t (.int k a) (.int k' b))).map .sc):=by
 have h1:∀ s:Sem Value,ev P (do pure (Next.value (← s)))=(ev P s).map Next.value:=by
  intro s
  induction s with
  |pure b=>rfl
  |program k ih=>exact ih P
  |choose q k ih=>
   simp only [bind,Sem.bind,ev]
   split
   ·exact ih 0
   ·rfl
  |mark m k ih=>exact ih
  |_=>rfl
 have h2:execOp (fun z=>((ρ z).ft).getD undef) ⟨d,.binOp op t x y u,ty,pos,af,gd⟩=(do pure (Next.value (← (do eqGuard op t x y (.int k a) (.int k' b);binOp op t (.int k a) (.int k' b))))):=by
  simp only [execOp,hx,hy,AV.ft,Option.getD_some]
 have h3:ev P (do eqGuard op t x y (.int k a) (.int k' b);binOp op t (.int k a) (.int k' b))=ev P (binOp op t (.int k a) (.int k' b)):=by
  cases op<;>rfl
 unfold mb sd
 simp only [AV.ft,Option.isSome_some,Bool.and_self,cond_true]
 rw [h2,h1,h3]
 cases ev P (binOp op t (.int k a) (.int k' b))<;>rfl
theorem aqk (k k':IntKind) (a b:Int) (h : 0≤b):ev P (binOp .shl t (.int k a) (.int k' b))=some (.int k (k.wrap (a * 2 ^ (min b.toNat k.bits)))):=by
 have:¬ b<0:=by omega
 simp [binOp,Op.shift,this,we]
theorem asb (k k':IntKind) (a b:Int) (h : 0≤b):ev P (binOp .shr t (.int k a) (.int k' b))=some (.int k (a.fdiv (2 ^ (min b.toNat k.bits)))):=by
 have:¬ b<0:=by omega
 simp [binOp,Op.shift,this,we]
theorem aw6 (k:IntKind) (a b:Int):ev P (binOp .or t (.int k a) (.int k b))=some (.int k (k.wrap (((a % 2 ^ k.bits).toNat ||| (b % 2 ^ k.bits).toNat:Nat):Int))):=by
 simp [binOp,Op.intBits,we]
theorem Lp (op:BinOp) (a b:Bool) (hx : ρ x = .sc (.bool a)) (hy : ρ y = .sc (.bool b)) :
 mb P ρ ⟨d,.binOp op t x y u,ty,pos,af,gd⟩ op t (.sc (.bool a)) (.sc (.bool b))=M.of ((ev P (binOp op t (.bool a) (.bool b))).map .sc):=by
 have h1:∀ s:Sem Value,ev P (do pure (Next.value (← s)))=(ev P s).map Next.value:=by
  intro s
  induction s with
  |pure b=>rfl
  |program k ih=>exact ih P
  |choose q k ih=>
   simp only [bind,Sem.bind,ev]
   split
   ·exact ih 0
   ·rfl
  |mark m k ih=>exact ih
  |_=>rfl
 have h2:execOp (fun z=>((ρ z).ft).getD undef) ⟨d,.binOp op t x y u,ty,pos,af,gd⟩=(do pure (Next.value (← (do eqGuard op t x y (.bool a) (.bool b);binOp op t (.bool a) (.bool b))))):=by
  simp only [execOp,hx,hy,AV.ft,Option.getD_some]
 have h3:ev P (do eqGuard op t x y (.bool a) (.bool b);binOp op t (.bool a) (.bool b))=ev P (binOp op t (.bool a) (.bool b)):=by
  cases op<;>rfl
 unfold mb sd
 simp only [AV.ft,Option.isSome_some,Bool.and_self,cond_true]
 rw [h2,h1,h3]
 cases ev P (binOp op t (.bool a) (.bool b))<;>rfl
theorem afp {d:TypeDesc} (h:P.underlying t=some d):ev P (underlying t)=some d:=by
 rw [underlying]
 show ev P (match P.underlying t with|some d=>pure d|none=>_)=_
 rw [h];rfl
theorem aey (n:Nat) (a b:Bool) (h:P.underlying t=some .bool):ev P (Op.equalIn (n+1) t (.bool a) (.bool b))=some (a == b):=by
 simp only [Op.equalIn]
 rw [n7,afp P t h]
 rfl
theorem Sw (a b:Bool) (h:P.underlying t=some .bool):ev P (binOp .eql t (.bool a) (.bool b))=some (.bool (a == b)):=by
 show ev P (do pure (Value.bool (← Op.equalIn (9999+1) t (.bool a) (.bool b))))=_
 rw [n7,aey P t 9999 a b h]
 rfl
theorem N5 (op:BinOp) (a b:ByteArray) (hx : ρ x = .sc (.string a)) (hy : ρ y = .sc (.string b)) :
 mb P ρ ⟨d,.binOp op t x y u,ty,pos,af,gd⟩ op t (.sc (.string a)) (.sc (.string b))=M.of ((ev P (binOp op t (.string a) (.string b))).map .sc):=by
 have h1:∀ s:Sem Value,ev P (do pure (Next.value (← s)))=(ev P s).map Next.value:=by
  intro s
  induction s with
  |pure b=>rfl
  |program k ih=>exact ih P
  |choose q k ih=>
   simp only [bind,Sem.bind,ev]
   split
   ·exact ih 0
   ·rfl
  |mark m k ih=>exact ih
  |_=>rfl
 have h2:execOp (fun z=>((ρ z).ft).getD undef) ⟨d,.binOp op t x y u,ty,pos,af,gd⟩=(do pure (Next.value (← (do eqGuard op t x y (.string a) (.string b);binOp op t (.string a) (.string b))))):=by
  simp only [execOp,hx,hy,AV.ft,Option.getD_some]
 have h3:ev P (do eqGuard op t x y (.string a) (.string b);binOp op t (.string a) (.string b))=ev P (binOp op t (.string a) (.string b)):=by
  cases op<;>rfl
 unfold mb sd
 simp only [AV.ft,Option.isSome_some,Bool.and_self,cond_true]
 rw [h2,h1,h3]
 cases ev P (binOp op t (.string a) (.string b))<;>rfl
theorem str_eq (a b:ByteArray):(a.toList == b.toList)=decide (a=b):=by
 rw [ByteArray.toList_eq,ByteArray.toList_eq,Bool.eq_iff_iff]
 simp only [beq_iff_eq,decide_eq_true_eq]
 constructor
 ·intro h
  cases a;cases b
  congr 1
  exact Array.ext' h
 ·intro h;rw [h]
theorem Xi (a b:ByteArray):ev P (binOp .eql t (.string a) (.string b))=some (.bool (decide (a=b))):=by
 rw [← str_eq];rfl
theorem Vx (a b:ByteArray):ev P (binOp .neq t (.string a) (.string b))=some (.bool (!decide (a=b))):=by
 rw [← str_eq];rfl
end
def P8 (u:Option TypeDesc):Bool:=match u with|some (.slice _)=>true|_=>false
theorem akr (e):P8 (some (.slice e))=true:=id rfl
theorem aka {u} (h:P8 u=true):∃ e,u=some (.slice e):=by
 unfold P8 at h;split at h
 ·exact ⟨_,rfl⟩
 ·cases h
theorem alc {P:Program} {t op x y} (h:P8 (P.underlying t)=true):Hg P t op x y=E8 op x y:=by
 obtain ⟨e,he⟩:=aka h
 unfold Hg;rw [he]
theorem Vz (P:Program) (ρ o op t l sz es b):mb P ρ o op t (.vl l sz es) b=Hg P t op (.vl l sz es) b:=id rfl
theorem als (b):pj .eql b=M.pure (.sc (.bool b)):=id rfl
theorem Ip (P:Program) (ρ:Operand→AV) (d ty pos af gd) (t u:TypeId) (x y:Operand) (op:BinOp) (a b:Option Addr) (n c m k:Nat) (hx : ρ x = .sc (.slice a n c)) (hy : ρ y = .sc (.slice b m k)) :
 mb P ρ ⟨d,.binOp op t x y u,ty,pos,af,gd⟩ op t (.sc (.slice a n c)) (.sc (.slice b m k))=M.of ((ev P (binOp op t (.slice a n c) (.slice b m k))).map .sc):=by
 have h1:∀ s:Sem Value,ev P (do pure (Next.value (← s)))=(ev P s).map Next.value:=by
  intro s
  induction s with
  |pure b=>rfl
  |program k ih=>exact ih P
  |choose q k ih=>
   simp only [bind,Sem.bind,ev]
   split
   ·exact ih 0
   ·rfl
  |mark m k ih=>exact ih
  |_=>rfl
 have h2:execOp (fun z=>((ρ z).ft).getD undef) ⟨d,.binOp op t x y u,ty,pos,af,gd⟩=(do pure (Next.value (← (do eqGuard op t x y (.slice a n c) (.slice b m k);binOp op t (.slice a n c) (.slice b m k))))):=by
  simp only [execOp,hx,hy,AV.ft,Option.getD_some]
 have h3:ev P (do eqGuard op t x y (.slice a n c) (.slice b m k);binOp op t (.slice a n c) (.slice b m k))=ev P (binOp op t (.slice a n c) (.slice b m k)):=by
  cases op<;>rfl
 unfold mb sd
 simp only [AV.ft,Option.isSome_some,Bool.and_self,cond_true]
 rw [h2,h1,h3]
 cases ev P (binOp op t (.slice a n c) (.slice b m k))<;>rfl
theorem ab5 {P:Program} {t:TypeId} {a:Option Addr} {n c m k:Nat} (d:Nat) (h:P8 (P.underlying t)=true):ev P (Op.equalIn (d+1) t (.slice a n c) (.slice none m k))=some a.isNone:=by
 obtain ⟨e,he⟩:=aka h
 simp only [Op.equalIn]
 rw [n7,afp P t he]
 cases a<;>rfl
theorem Mr {P:Program} {t:TypeId} {a:Option Addr} {n c m k:Nat} (h:P8 (P.underlying t)=true):ev P (binOp .eql t (.slice a n c) (.slice none m k))=some (.bool a.isNone):=by
 show ev P (do pure (Value.bool (← Op.equalIn (9999+1) t (.slice a n c) (.slice none m k))))=_
 rw [n7,ab5 9999 h]
 rfl
end
end Go.Vm
namespace Go.Vm
noncomputable section
abbrev Name:=List ByteArray
structure db where
 names:List Name
 nums:List UInt32
 texts:List ByteArray
 raw:List UInt8
def mkD (a:List Name) (b:List UInt32) (c:List ByteArray) (e:List UInt8):db:=⟨a,b,c,e⟩
theorem alh (d:db):mkD d.names d.nums d.texts d.raw=d:=id rfl
noncomputable def ar:de Name:=cp aq
noncomputable def cf:de db:=vx (i7 (cp ar) (i7 (cp bn) (i7 ar (cp cy)))) (fun d=>(d.names,d.nums,d.texts,d.raw)) (fun p=>⟨p.1,p.2.1,p.2.2.1,p.2.2.2⟩) (fun _=>rfl) (fun _=>rfl)
theorem dm (l:Bool) (n:Name):ar.val l n = .vl l 1 (n.map (aq.val l)):=id rfl
theorem pg:ar.sz=1:=id rfl
theorem Wf:cf.sz=4:=id rfl
theorem nq (l:Bool) (d:db):cf.val l d = .agg [.vl l 1 (d.names.map (ar.val l)),.vl l 1 (d.nums.map (bn.val l)),.vl l 1 (d.texts.map (aq.val l)),.vl l 1 (d.raw.map (cy.val l))]:=id rfl
theorem Re (fr:Bool) (h:Tr bf) (x1 x2 x3 x4:AV) :
 cf.fp fr h (.agg [x1,x2,x3,x4])=match ew ar fr h x1,ew bn fr h x2,ew aq fr h x3,ew cy fr h x4 with
  |some a,some b,some c,some e=>some (mkD a b c e)
  |_,_,_,_=>none:=by
 rw [r9 _ _ _ _ rfl rfl]
 have h1:cf.dec fr h (AV.agg [x1,x2,x3,x4]).cells=Option.map (fun p=>(⟨p.1,p.2.1,p.2.2.1,p.2.2.2⟩:db)) ((i7 (cp ar) (i7 (cp bn) (i7 ar (cp cy)))).dec fr h [x1,x2,x3,x4]):=rfl
 have d2:∀ {α β:Type} (A:de α) (B:de β) (l:List AV),(i7 A B).dec fr h l=match A.dec fr h (l.take A.sz),B.dec fr h (l.drop A.sz) with|some x,some y=>some (x,y)|_,_=>none:=fun _ _ _=>rfl
 have l1:∀ {α:Type} (C:de α) (x:AV),(cp C).dec fr h [x]=ew C fr h x:=fun _ _=>rfl
 have n1:∀ x,ar.dec fr h [x]=ew aq fr h x:=fun _=>rfl
 rw [h1]
 simp only [d2,wh,pg,List.take_succ_cons,List.take_zero,List.drop_succ_cons,List.drop_zero,l1,n1]
 cases ew ar fr h x1<;>cases ew bn fr h x2<;>cases ew aq fr h x3<;>cases ew cy fr h x4<;>rfl
theorem Ng {α:Type} (C:de α) (fr:Bool) (h:Tr bf) (l:Bool) (n:Nat) (es:List AV):(cp C).fp fr h (.vl l n es)=ew C fr h (.vl l n es):=Ch C fr h _ rfl rfl rfl
theorem Pm {α:Type} (C:de α) (fr:Bool) (h:Tr bf) (o off len n:Nat):(cp C).fp fr h (.sl o off len n)=ew C fr h (.sl o off len n):=Ch C fr h _ rfl rfl rfl
theorem D1 {α:Type} (C:de α) (fr:Bool) (h:Tr bf):(cp C).fp fr h (.sc (.slice none 0 0))=some []:=by
 rw [Ch C fr h _ rfl rfl rfl];rfl
theorem Gt (fr:Bool) (h:Tr bf) (l:Bool) (n:Nat) (es:List AV):ar.fp fr h (.vl l n es)=ew aq fr h (.vl l n es):=Ch aq fr h _ rfl rfl rfl
theorem Hi (fr:Bool) (h:Tr bf) (o off len n:Nat):ar.fp fr h (.sl o off len n)=ew aq fr h (.sl o off len n):=Ch aq fr h _ rfl rfl rfl
theorem F4 (fr:Bool) (h:Tr bf):ar.fp fr h (.sc (.slice none 0 0))=some []:=D1 aq fr h
theorem Fe (l:List UInt8):l.map Bu=l.map (cy.val false):=id rfl
theorem Nm {α:Type} (C:de α) (b:Bool) (l:List α):AV.names.go (l.map (C.val b))=[]:=H4 (fun c hc=>by
 obtain ⟨x,_,rfl⟩:=List.mem_map.1 hc
 exact Nc C b x)
theorem yt:∀ (l:List UInt8) (b:Bool),bytesOf (l.map (cy.val b))=some l
 | [],_=>rfl
 |c::l,b=>by
  rw [List.map_cons,G1,bytesOf,yt l b]
  simp
end
end Go.Vm
section
namespace Go.Vm.Cx
open Go.Vm
noncomputable section
theorem Du {P:Program} (w:World):∀ (ns:List Int) (a:Addr) (i:Nat) (acc:ByteArray),(∀ (j:Nat) x,ns[j]? = some x→(load (a.add (i+j))).run P w = .ok (.int .u8 x) w) →
 (Extern.Bytes.loadBytes (a.add i) ns.length acc).run P w = .ok ⟨acc.data++(ns.map fun n=>UInt8.ofNat n.toNat).toArray⟩ w
 | [],a,i,acc,_=>by simp [Extern.Bytes.loadBytes]
 |x::l,a,i,acc,h=>by
  have h0:=h 0 x rfl
  rw [Nat.add_zero] at h0
  have e:(a.add i).add 1=a.add (i+1):=by
   unfold Addr.add
   by_cases hj:i=0
   ·subst hj;simp
   ·simp [hj];omega
  have ih:=Du (P:=P) w l a (i+1) (acc.push x.toNat.toUInt8) (fun j y hy=>by
   have:=h (j+1) y (by simpa using hy)
   rw [show i+1+j=i+(j+1) from by omega];exact this)
  simp only [List.length_cons,Extern.Bytes.loadBytes,Sem.run_bind,h0,Result.andThen]
  rw [e,ih]
  congr 1
  apply ByteArray.ext
  simp [ByteArray.push,Nat.toUInt8]
theorem Yi {l:List Int} {l':List Value} (h:l'=l.map (Value.int .u8)) (j:Nat) (x:Int) (hx:l[j]? = some x):l'[j]? = some (.int .u8 x):=by rw [h,List.getElem?_map,hx];rfl
theorem Dd {P:Program} {g st bk w} {a:AV} {v:Value} {l:List AV} {bs:List UInt8} (hok:Ok g st.h w) (hr:Rel g w a v) (h:cellsIn 1 a st=some (l,bk)) (hb:bytesOf l=some bs) :
 (Extern.Bytes.bytesOf v).run P w = .ok ⟨bs.toArray⟩ w:=by
 obtain ⟨_,_,n,news,hsrc,hrl⟩:=yd (P:=P) hok hr h
 obtain ⟨ns,e1,e2⟩:=Eo _ _ _ hrl hb
 obtain ⟨r1,r2⟩:=hsrc.run w rfl
 cases v with
 |slice p len cap=>
  have hn:n=len:=by simp [Builtin.lenOf] at r1;exact r1.symm
  subst hn
  cases p with
  |none=>
   have:news=[]:=by simpa [Builtin.firstCells] using r2
   subst this
   have:ns=[]:=by simpa using e1.symm
   subst this
   subst e2
   rfl
  |some a=>
   simp only [Builtin.firstCells,Nat.mul_one] at r2
   unfold loadCells at r2
   obtain ⟨l',q1,q2,q3⟩:=loadCellsFrom_ok a n 0 #[] _ _ r2
   have hl':l'=news:=by simpa using q2.symm
   subst hl'
   have hlen:ns.length=n:=by rw [← q1,e1,List.length_map]
   have:=Du (P:=P) w ns a 0 .empty (fun j x hx=>by
    exact q3 j _ (Yi e1 j x hx))
   rw [hlen] at this
   have e0:a.add 0=a:=by simp [Addr.add]
   rw [e0] at this
   show (Extern.Bytes.loadBytes a n .empty).run P w=_
   rw [this,e2]
   congr 2
   simp [ByteArray.empty,ByteArray.emptyWithCapacity]
   rfl
 |string s=>
  have hn:n=s.size:=by simp [Builtin.lenOf] at r1;exact r1.symm
  subst hn
  simp only [Builtin.firstCells,Sem.run_pure,Result.ok.injEq,and_true] at r2
  have h1:=congrArg Array.toList r2
  rw [e1] at h1
  show Result.ok s w=_
  congr 1
  apply ByteArray.ext
  apply Array.ext'
  rw [e2]
  have h2:=congrArg (List.map fun v:Value=>match v with|.int _ n=>UInt8.ofNat n.toNat|_=>0) h1
  simp only [List.map_map,Array.toList_map] at h2
  have h3:(s.extract 0 s.size).data.toList=s.data.toList:=by simp
  rw [h3] at h2
  have h4:(List.map ((fun v:Value=>match v with|.int _ n=>UInt8.ofNat n.toNat|_=>0) ∘ fun b:UInt8=>Value.int .u8 (b.toNat:Int)) s.data.toList)=s.data.toList:=by
   rw [show ((fun v:Value=>match v with|.int _ n=>UInt8.ofNat n.toNat|_=>0) ∘ fun b:UInt8=>Value.int .u8 (b.toNat:Int))=id from by funext b;simp]
   simp
  rw [h4] at h2
  rw [h2]
  simp
 |_=>simp [Builtin.lenOf,stuck] at r1
def qw (args:List AV):M AV:=
 match args with
 | [a]=>.pure a
 |_=>.fail
def fk (args:List AV):M AV:=
 match args with
 | [a,b]=>(cellsIn 1 a).bind fun x=>(cellsIn 1 b).bind fun y=>
  match bytesOf x with
  |some x=>
   match bytesOf y with
   |some y=>.pure (.sc (goInt (Lib.compareBytes x y)))
   |none=>.fail
  |none=>.fail
 |_=>.fail
def ed {α:Type} (m:M α):Prop:=∀ st v bk,m st=some (v,bk)→bk.h=st.h∧bk.nx=st.nx
theorem ed.pure {α:Type} (a : α):ed (M.pure a):=fun st v bk h=>by cases h;exact ⟨rfl,rfl⟩
theorem ed.fail {α:Type}:ed (M.fail:M α):=fun st v bk h=>by cases h
theorem ed.bind {α β:Type} {m:M α} {f : α→M β} (hm:ed m) (h:∀ x,ed (f x)):ed (m.bind f):=fun st v bk hb=>by
 obtain ⟨x,s1,h1,h2⟩:=bind_some hb
 have h3:=hm _ _ _ h1
 have h4:=h x _ _ _ h2
 exact ⟨h4.1.trans h3.1,h4.2.trans h3.2⟩
theorem ed.c8 (id:Nat):ed (Vm.c8 id):=fun _st _v _st1 h=>(gh h).2
theorem ed.cond {α:Type} {b:Bool} {x y:M α} (hx:ed x) (hy:ed y):ed (bif b then x else y):=by cases b<;>assumption
theorem ed.cellsIn (sz:Nat) (v:AV):ed (Vm.cellsIn sz v):=by
 unfold Vm.cellsIn zh
 repeat' (first|exact ed.pure _|exact ed.fail|apply ed.cond|(refine ed.bind (ed.c8 _) fun x=>?_)|split)
theorem Bt (args:List AV):ed (fk args):=by
 unfold fk;split
 ·exact ed.bind (ed.cellsIn _ _) fun x=>ed.bind (ed.cellsIn _ _) fun y=>by
   split
   ·split
    ·exact ed.pure _
    ·exact ed.fail
   ·exact ed.fail
 ·exact ed.fail
theorem nb {P:Program} {f:Nat} {fn:Func} (hf:P.funcs[f]? = some fn) (h1:(fn.name == "runtime.NumGoroutine")=false) (h2:fn.body.isNone=true) (h3:Extern.findNext fn=none) (h4:Extern.find fn=some Extern.AbiNoEscape.same) (args:List AV) :
 Cw P f args (qw args):=by
 intro g st w vs r st' hok hfree hrel hm
 refine .inl ?_
 unfold qw at hm
 split at hm
 ·rename_i a
  cases hm
  obtain ⟨v,rfl,hv⟩:=Cg hrel
  refine ⟨v,w,g,?_,.refl _ _ _ _ _,hok,hv⟩
  rw [run_callFunc_extern hf h1 h2 h3 h4]
  rfl
 ·cases hm
theorem i6 {P:Program} {f:Nat} {fn:Func} (hf:P.funcs[f]? = some fn) (h1:(fn.name == "runtime.NumGoroutine")=false) (h2:fn.body.isNone=true) (h3:Extern.findNext fn=none) (h4:Extern.find fn=some Extern.BytealgCompare.compare) (args:List AV) :
 Cw P f args (fk args):=by
 intro g st w vs r st' hok hfree hrel hm
 refine .inl ?_
 have hst:=Bt _ _ _ _ hm
 unfold fk at hm
 split at hm
 ·rename_i a c
  obtain ⟨x,s1,e1,hm⟩:=bind_some hm
  obtain ⟨y,s2,e2,hm⟩:=bind_some hm
  cases hx:bytesOf x with
  |none=>rw [hx] at hm;cases hm
  |some bx=>
  cases hy:bytesOf y with
  |none=>rw [hx,hy] at hm;cases hm
  |some yb=>
  rw [hx,hy] at hm
  cases hm
  have hh:=ed.cellsIn _ _ _ _ _ e1
  match vs,hrel with
  | [v,u],hrel=>
   have r1:=Dd (P:=P) hok hrel.head e1 hx
   have r2:=Dd (P:=P) (st:=s1) (by rw [hh.1];exact hok) hrel.tail.head e2 hy
   refine ⟨goInt (Lib.compareBytes bx yb),w,g,?_,?_,?_,.sc _⟩
   ·rw [run_callFunc_extern hf h1 h2 h3 h4]
    have:(Extern.BytealgCompare.compare #[v,u]).run P w = .ok (goInt (Lib.compareBytes bx yb)) w:=by
     change Sem.run P (do pure (goInt (Extern.BytealgCompare.cmp (← Extern.Bytes.bytesOf v) (← Extern.Bytes.bytesOf u)))) w=_
     simp only [Sem.run_bind,r1,r2,Result.andThen,Sem.run_pure]
     rw [Lib.cmp_eq]
    show ((Extern.BytealgCompare.compare #[v,u]).run P w).andThen _=_
    rw [this]
    rfl
   ·rw [hst.1,hst.2];exact .refl _ _ _ _ _
   ·rw [hst.1];exact hok
  | [],hrel=>have:=hrel.1;simp at this
  | [v],hrel=>have:=hrel.1;simp at this
  |_::_::_::_,hrel=>have:=hrel.1;simp at this
 ·cases hm
end
end Go.Vm.Cx
end
section
set_option linter.unnecessarySimpa false
namespace Go.Vm
noncomputable section
def roT (o:Option (Bool × (List AV→M AV))):Bool:=match o with|some (b,_)=>b|none=>false
theorem awz (b m):roT (some (b,m))=b:=id rfl
theorem eu {o:Oper} {L:SL} {x:Operand} (h:x ∈ o.op.operands):cq o L x=c0 L x:=by
 cases x with
 |tmp t=>
  show (bif o.op.operands.any (fun x=>match x with|.tmp u=>Nat.beq u t|_=>false) then lk L t else .bad)=lk L t
  have:o.op.operands.any (fun x=>match x with|.tmp u=>Nat.beq u t|_=>false)=true:=by
   rw [Array.any_eq_true']
   exact ⟨_,h,by simp⟩
  rw [this];rfl
 |const v=>rfl
 |global g=>rfl
 |func f=>rfl
theorem ib {o:Oper} {L:SL} {l:List Operand} (h:∀ x ∈ l,x ∈ o.op.operands):l.map (cq o L)=l.map (c0 L):=List.map_congr_left fun x hx=>eu (h x hx)
theorem Sm {o:Oper} {L:SL} {l:List (Nat × Operand)} (h:∀ x ∈ l,x.2 ∈ o.op.operands):l.map (fun p=>(p.1,cq o L p.2))=l.map (fun p=>(p.1,c0 L p.2)):=List.map_congr_left fun x hx=>by rw [eu (h x hx)]
def fi (ro:Bool) (F:List Nat) (o:Oper) (recs:List Rec) (K:List Rec→SL→St→Prop) (L:SL) (st:St) (m:M AV):Prop:=Fj ro F o recs K L st (m { h:=ko st.h F,nx:=st.nx,rl:=[],wl:=[] })
theorem Z4 (ro F o recs K L st m):fi ro F o recs K L st m=Fj ro F o recs K L st (m { h:=ko st.h F,nx:=st.nx,rl:=[],wl:=[] }):=id rfl
section ops
variable (P : Program) (T : ee) (L : SL) (st : St) (recs : List Rec) (K : List Rec → SL → St → Prop) (d : Option Tmp) (ty : TypeId) (pos : String) (af : Array Edge) (gd : Option (Nat × Bool))
theorem afz (x):gb P T ⟨d,.move x,ty,pos,af,gd⟩ recs K L st=fi (true) ([]) ⟨d,.move x,ty,pos,af,gd⟩ recs K L st (mono (M.pure (c0 L x))):=by
 unfold gb kr mg fi
 simp only [jl,cond_true]
 have hm:∀ y,y ∈ ([x]:List Operand)→cq ⟨d,.move x,ty,pos,af,gd⟩ L y=c0 L y:=fun y hy=>eu (by simpa [Op.operands,Call.operands] using hy)
 have hmap:([x]:List Operand).map (cq ⟨d,.move x,ty,pos,af,gd⟩ L)=([x]:List Operand).map (c0 L):=ib (fun y hy=>by simpa [Op.operands,Call.operands] using hy)
 have ho:(⟨d,.move x,ty,pos,af,gd⟩:Oper).op.operands.toList=[x]:=by simp [Op.operands,Call.operands]
 rw [J8,hm x (by simp)]
 rfl
theorem Wn (x):gb P T ⟨d,.assign x,ty,pos,af,gd⟩ recs K L st=fi (true) ([]) ⟨d,.assign x,ty,pos,af,gd⟩ recs K L st (mono (M.pure (c0 L x))):=by
 unfold gb kr mg fi
 simp only [jl,cond_true]
 have hm:∀ y,y ∈ ([x]:List Operand)→cq ⟨d,.assign x,ty,pos,af,gd⟩ L y=c0 L y:=fun y hy=>eu (by simpa [Op.operands,Call.operands] using hy)
 have hmap:([x]:List Operand).map (cq ⟨d,.assign x,ty,pos,af,gd⟩ L)=([x]:List Operand).map (c0 L):=ib (fun y hy=>by simpa [Op.operands,Call.operands] using hy)
 have ho:(⟨d,.assign x,ty,pos,af,gd⟩:Oper).op.operands.toList=[x]:=by simp [Op.operands,Call.operands]
 rw [Fa,hm x (by simp)]
 rfl
theorem ahy (t a):gb P T ⟨d,.load t a,ty,pos,af,gd⟩ recs K L st=fi (true) ((c0 L a).names) ⟨d,.load t a,ty,pos,af,gd⟩ recs K L st (mono (ju P t (c0 L a))):=by
 unfold gb kr mg fi
 simp only [jl,cond_false]
 have hm:∀ y,y ∈ ([a]:List Operand)→cq ⟨d,.load t a,ty,pos,af,gd⟩ L y=c0 L y:=fun y hy=>eu (by simpa [Op.operands,Call.operands] using hy)
 have hmap:([a]:List Operand).map (cq ⟨d,.load t a,ty,pos,af,gd⟩ L)=([a]:List Operand).map (c0 L):=ib (fun y hy=>by simpa [Op.operands,Call.operands] using hy)
 have ho:(⟨d,.load t a,ty,pos,af,gd⟩:Oper).op.operands.toList=[a]:=by simp [Op.operands,Call.operands]
 rw [J7,hm a (by simp)]
 rfl
theorem Lv (s x f):gb P T ⟨d,.fieldAddr s x f,ty,pos,af,gd⟩ recs K L st=fi (true) ([]) ⟨d,.fieldAddr s x f,ty,pos,af,gd⟩ recs K L st (mono (ky P s (c0 L x) f)):=by
 unfold gb kr mg fi
 simp only [jl,cond_true]
 have hm:∀ y,y ∈ ([x]:List Operand)→cq ⟨d,.fieldAddr s x f,ty,pos,af,gd⟩ L y=c0 L y:=fun y hy=>eu (by simpa [Op.operands,Call.operands] using hy)
 have hmap:([x]:List Operand).map (cq ⟨d,.fieldAddr s x f,ty,pos,af,gd⟩ L)=([x]:List Operand).map (c0 L):=ib (fun y hy=>by simpa [Op.operands,Call.operands] using hy)
 have ho:(⟨d,.fieldAddr s x f,ty,pos,af,gd⟩:Oper).op.operands.toList=[x]:=by simp [Op.operands,Call.operands]
 rw [A3,hm x (by simp)]
 rfl
theorem aat (op t x y u):gb P T ⟨d,.binOp op t x y u,ty,pos,af,gd⟩ recs K L st=fi (true) ([]) ⟨d,.binOp op t x y u,ty,pos,af,gd⟩ recs K L st (mono (yz P (cq ⟨d,.binOp op t x y u,ty,pos,af,gd⟩ L) ⟨d,.binOp op t x y u,ty,pos,af,gd⟩ op t x y)):=by
 unfold gb kr mg fi
 simp only [jl,cond_true]
 have hm:∀ y,y ∈ ([x,y]:List Operand)→cq ⟨d,.binOp op t x y u,ty,pos,af,gd⟩ L y=c0 L y:=fun y hy=>eu (by simpa [Op.operands,Call.operands] using hy)
 have hmap:([x,y]:List Operand).map (cq ⟨d,.binOp op t x y u,ty,pos,af,gd⟩ L)=([x,y]:List Operand).map (c0 L):=ib (fun y hy=>by simpa [Op.operands,Call.operands] using hy)
 have ho:(⟨d,.binOp op t x y u,ty,pos,af,gd⟩:Oper).op.operands.toList=[x,y]:=by simp [Op.operands,Call.operands]
 rfl
theorem ade (c a b):gb P T ⟨d,.pick c a b,ty,pos,af,gd⟩ recs K L st=fi (true) ([]) ⟨d,.pick c a b,ty,pos,af,gd⟩ recs K L st (mono (v8 (c0 L c) (c0 L a) (c0 L b))):=by
 unfold gb kr mg fi
 simp only [jl,cond_true]
 have hm:∀ y,y ∈ ([c,a,b]:List Operand)→cq ⟨d,.pick c a b,ty,pos,af,gd⟩ L y=c0 L y:=fun y hy=>eu (by simpa [Op.operands,Call.operands] using hy)
 have hmap:([c,a,b]:List Operand).map (cq ⟨d,.pick c a b,ty,pos,af,gd⟩ L)=([c,a,b]:List Operand).map (c0 L):=ib (fun y hy=>by simpa [Op.operands,Call.operands] using hy)
 have ho:(⟨d,.pick c a b,ty,pos,af,gd⟩:Oper).op.operands.toList=[c,a,b]:=by simp [Op.operands,Call.operands]
 rw [Kx,hm c (by simp),hm a (by simp),hm b (by simp)]
 rfl
theorem aa7 (t a x):gb P T ⟨d,.store t a x,ty,pos,af,gd⟩ recs K L st=fi (false) ((c0 L a).names) ⟨d,.store t a x,ty,pos,af,gd⟩ recs K L st (mono (qd P t (c0 L a) (c0 L x))):=by
 unfold gb kr mg fi
 simp only [jl,cond_false]
 have hm:∀ y,y ∈ ([a,x]:List Operand)→cq ⟨d,.store t a x,ty,pos,af,gd⟩ L y=c0 L y:=fun y hy=>eu (by simpa [Op.operands,Call.operands] using hy)
 have hmap:([a,x]:List Operand).map (cq ⟨d,.store t a x,ty,pos,af,gd⟩ L)=([a,x]:List Operand).map (c0 L):=ib (fun y hy=>by simpa [Op.operands,Call.operands] using hy)
 have ho:(⟨d,.store t a x,ty,pos,af,gd⟩:Oper).op.operands.toList=[a,x]:=by simp [Op.operands,Call.operands]
 rw [Ih,hm a (by simp),hm x (by simp)]
 rfl
theorem Se (t i):gb P T ⟨d,.extract t i,ty,pos,af,gd⟩ recs K L st=fi (true) ([]) ⟨d,.extract t i,ty,pos,af,gd⟩ recs K L st (mono (om (c0 L t) i)):=by
 unfold gb kr mg fi
 simp only [jl,cond_true]
 have hm:∀ y,y ∈ ([t]:List Operand)→cq ⟨d,.extract t i,ty,pos,af,gd⟩ L y=c0 L y:=fun y hy=>eu (by simpa [Op.operands,Call.operands] using hy)
 have hmap:([t]:List Operand).map (cq ⟨d,.extract t i,ty,pos,af,gd⟩ L)=([t]:List Operand).map (c0 L):=ib (fun y hy=>by simpa [Op.operands,Call.operands] using hy)
 have ho:(⟨d,.extract t i,ty,pos,af,gd⟩:Oper).op.operands.toList=[t]:=by simp [Op.operands,Call.operands]
 rw [Dx,hm t (by simp)]
 rfl
theorem Ly (t x i):gb P T ⟨d,.indexAddr t x i,ty,pos,af,gd⟩ recs K L st=fi (true) ([]) ⟨d,.indexAddr t x i,ty,pos,af,gd⟩ recs K L st (mono (kz P t (c0 L x) (c0 L i))):=by
 unfold gb kr mg fi
 simp only [jl,cond_true]
 have hm:∀ y,y ∈ ([x,i]:List Operand)→cq ⟨d,.indexAddr t x i,ty,pos,af,gd⟩ L y=c0 L y:=fun y hy=>eu (by simpa [Op.operands,Call.operands] using hy)
 have hmap:([x,i]:List Operand).map (cq ⟨d,.indexAddr t x i,ty,pos,af,gd⟩ L)=([x,i]:List Operand).map (c0 L):=ib (fun y hy=>by simpa [Op.operands,Call.operands] using hy)
 have ho:(⟨d,.indexAddr t x i,ty,pos,af,gd⟩:Oper).op.operands.toList=[x,i]:=by simp [Op.operands,Call.operands]
 rw [Ba,hm x (by simp),hm i (by simp)]
 rfl
theorem Mt (x):gb P T ⟨d,.nilCheck x,ty,pos,af,gd⟩ recs K L st=fi (true) ([]) ⟨d,.nilCheck x,ty,pos,af,gd⟩ recs K L st (mono (kg (c0 L x))):=by
 unfold gb kr mg fi
 simp only [jl,cond_true]
 have hm:∀ y,y ∈ ([x]:List Operand)→cq ⟨d,.nilCheck x,ty,pos,af,gd⟩ L y=c0 L y:=fun y hy=>eu (by simpa [Op.operands,Call.operands] using hy)
 have hmap:([x]:List Operand).map (cq ⟨d,.nilCheck x,ty,pos,af,gd⟩ L)=([x]:List Operand).map (c0 L):=ib (fun y hy=>by simpa [Op.operands,Call.operands] using hy)
 have ho:(⟨d,.nilCheck x,ty,pos,af,gd⟩:Oper).op.operands.toList=[x]:=by simp [Op.operands,Call.operands]
 rw [Ck,hm x (by simp)]
 rfl
theorem aaz (t):gb P T ⟨d,.alloc t,ty,pos,af,gd⟩ recs K L st=fi (true) (reach st.h ff [] []) ⟨d,.alloc t,ty,pos,af,gd⟩ recs K L st (mono (sj P t)):=by
 unfold gb kr mg fi
 simp only [jl,cond_false]
 have hm:∀ y,y ∈ ([]:List Operand)→cq ⟨d,.alloc t,ty,pos,af,gd⟩ L y=c0 L y:=fun y hy=>eu (by simpa [Op.operands,Call.operands] using hy)
 have hmap:([]:List Operand).map (cq ⟨d,.alloc t,ty,pos,af,gd⟩ L)=([]:List Operand).map (c0 L):=ib (fun y hy=>by simpa [Op.operands,Call.operands] using hy)
 have ho:(⟨d,.alloc t,ty,pos,af,gd⟩:Oper).op.operands.toList=[]:=by simp [Op.operands,Call.operands]
 rw [ho,hmap]
 rfl
theorem aac (t ps):gb P T ⟨d,.build t ps,ty,pos,af,gd⟩ recs K L st=fi (true) (reach st.h ff (AV.names.go ((ps.toList.map (·.2)).map (c0 L))) []) ⟨d,.build t ps,ty,pos,af,gd⟩ recs K L st (mono (rj P t (ps.toList.map fun p=>(p.1,c0 L p.2)))):=by
 unfold gb kr mg fi
 simp only [jl,cond_false]
 have hm:∀ y,y ∈ ((ps.toList.map (·.2)):List Operand)→cq ⟨d,.build t ps,ty,pos,af,gd⟩ L y=c0 L y:=fun y hy=>eu (by simpa [Op.operands,Call.operands] using hy)
 have hmap:((ps.toList.map (·.2)):List Operand).map (cq ⟨d,.build t ps,ty,pos,af,gd⟩ L)=((ps.toList.map (·.2)):List Operand).map (c0 L):=ib (fun y hy=>by simpa [Op.operands,Call.operands] using hy)
 have ho:(⟨d,.build t ps,ty,pos,af,gd⟩:Oper).op.operands.toList=(ps.toList.map (·.2)):=by simp [Op.operands,Call.operands]
 rw [ho,hmap]
 rw [Hw,Sm (fun x hx=>by simp [Op.operands];exact ⟨_,by simpa using hx⟩)]
 rfl
theorem Jc (t n ps):gb P T ⟨d,.buildSlice t n ps,ty,pos,af,gd⟩ recs K L st=fi (true) (reach st.h ff (AV.names.go ((ps.toList.map (·.2)).map (c0 L))) []) ⟨d,.buildSlice t n ps,ty,pos,af,gd⟩ recs K L st (mono (jt P t n (ps.toList.map fun p=>(p.1,c0 L p.2)))):=by
 unfold gb kr mg fi
 simp only [jl,cond_false]
 have hm:∀ y,y ∈ ((ps.toList.map (·.2)):List Operand)→cq ⟨d,.buildSlice t n ps,ty,pos,af,gd⟩ L y=c0 L y:=fun y hy=>eu (by simpa [Op.operands,Call.operands] using hy)
 have hmap:((ps.toList.map (·.2)):List Operand).map (cq ⟨d,.buildSlice t n ps,ty,pos,af,gd⟩ L)=((ps.toList.map (·.2)):List Operand).map (c0 L):=ib (fun y hy=>by simpa [Op.operands,Call.operands] using hy)
 have ho:(⟨d,.buildSlice t n ps,ty,pos,af,gd⟩:Oper).op.operands.toList=(ps.toList.map (·.2)):=by simp [Op.operands,Call.operands]
 rw [ho,hmap]
 rw [y9,Sm (fun x hx=>by simp [Op.operands];exact ⟨_,by simpa using hx⟩)]
 rfl
theorem aal (t x l h m):gb P T ⟨d,.slice t x l h m,ty,pos,af,gd⟩ recs K L st=fi (true) (reach st.h ff (AV.names.go ((#[x]++l.toArray++h.toArray++m.toArray).toList.map (c0 L))) []) ⟨d,.slice t x l h m,ty,pos,af,gd⟩ recs K L st (mono (si P (cq ⟨d,.slice t x l h m,ty,pos,af,gd⟩ L) ⟨d,.slice t x l h m,ty,pos,af,gd⟩ t x l h m)):=by
 unfold gb kr mg fi
 simp only [jl,cond_false]
 have hm:∀ y,y ∈ ((#[x]++l.toArray++h.toArray++m.toArray).toList:List Operand)→cq ⟨d,.slice t x l h m,ty,pos,af,gd⟩ L y=c0 L y:=fun y hy=>eu (by simpa [Op.operands,Call.operands] using hy)
 have hmap:((#[x]++l.toArray++h.toArray++m.toArray).toList:List Operand).map (cq ⟨d,.slice t x l h m,ty,pos,af,gd⟩ L)=((#[x]++l.toArray++h.toArray++m.toArray).toList:List Operand).map (c0 L):=ib (fun y hy=>by simpa [Op.operands,Call.operands] using hy)
 have ho:(⟨d,.slice t x l h m,ty,pos,af,gd⟩:Oper).op.operands.toList=(#[x]++l.toArray++h.toArray++m.toArray).toList:=by simp [Op.operands,Call.operands]
 rw [ho,hmap]
 rfl
theorem atz (op t x):gb P T ⟨d,.unOp op t x,ty,pos,af,gd⟩ recs K L st=fi (true) (reach st.h ff (AV.names.go ([x].map (c0 L))) []) ⟨d,.unOp op t x,ty,pos,af,gd⟩ recs K L st (mono (iw P (cq ⟨d,.unOp op t x,ty,pos,af,gd⟩ L) ⟨d,.unOp op t x,ty,pos,af,gd⟩ [x])):=by
 unfold gb kr mg fi
 simp only [jl,cond_false]
 have hm:∀ y,y ∈ ([x]:List Operand)→cq ⟨d,.unOp op t x,ty,pos,af,gd⟩ L y=c0 L y:=fun y hy=>eu (by simpa [Op.operands,Call.operands] using hy)
 have hmap:([x]:List Operand).map (cq ⟨d,.unOp op t x,ty,pos,af,gd⟩ L)=([x]:List Operand).map (c0 L):=ib (fun y hy=>by simpa [Op.operands,Call.operands] using hy)
 have ho:(⟨d,.unOp op t x,ty,pos,af,gd⟩:Oper).op.operands.toList=[x]:=by simp [Op.operands,Call.operands]
 rw [ho,hmap]
 rfl
theorem akg (x ts):gb P T ⟨d,.call { callee:=.builtin .len,args:=#[x],argTypes:=ts },ty,pos,af,gd⟩ recs K L st=fi (true) ([]) ⟨d,.call { callee:=.builtin .len,args:=#[x],argTypes:=ts },ty,pos,af,gd⟩ recs K L st (mono (s5 ((ts[0]?).bind P.underlying) (c0 L x))):=by
 unfold gb kr mg fi
 simp only [jl,cond_true]
 have hm:∀ y,y ∈ ([x]:List Operand)→cq ⟨d,.call { callee:=.builtin .len,args:=#[x],argTypes:=ts },ty,pos,af,gd⟩ L y=c0 L y:=fun y hy=>eu (by simpa [Op.operands,Call.operands] using hy)
 have hmap:([x]:List Operand).map (cq ⟨d,.call { callee:=.builtin .len,args:=#[x],argTypes:=ts },ty,pos,af,gd⟩ L)=([x]:List Operand).map (c0 L):=ib (fun y hy=>by simpa [Op.operands,Call.operands] using hy)
 have ho:(⟨d,.call { callee:=.builtin .len,args:=#[x],argTypes:=ts },ty,pos,af,gd⟩:Oper).op.operands.toList=[x]:=by simp [Op.operands,Call.operands]
 rw [N0,hm x (by simp)]
 rfl
theorem W4 (s x ts):gb P T ⟨d,.call { callee:=.builtin .append,args:=#[s,x],argTypes:=ts },ty,pos,af,gd⟩ recs K L st=fi (false) (reach st.h ff (AV.names.go ([s,x].map (c0 L))) []) ⟨d,.call { callee:=.builtin .append,args:=#[s,x],argTypes:=ts },ty,pos,af,gd⟩ recs K L st (mono (nw P ts[0]? ((ts[1]?).bind P.underlying) (c0 L s) (c0 L x))):=by
 unfold gb kr mg fi
 simp only [jl,cond_false]
 have hm:∀ y,y ∈ ([s,x]:List Operand)→cq ⟨d,.call { callee:=.builtin .append,args:=#[s,x],argTypes:=ts },ty,pos,af,gd⟩ L y=c0 L y:=fun y hy=>eu (by simpa [Op.operands,Call.operands] using hy)
 have hmap:([s,x]:List Operand).map (cq ⟨d,.call { callee:=.builtin .append,args:=#[s,x],argTypes:=ts },ty,pos,af,gd⟩ L)=([s,x]:List Operand).map (c0 L):=ib (fun y hy=>by simpa [Op.operands,Call.operands] using hy)
 have ho:(⟨d,.call { callee:=.builtin .append,args:=#[s,x],argTypes:=ts },ty,pos,af,gd⟩:Oper).op.operands.toList=[s,x]:=by simp [Op.operands,Call.operands]
 rw [ho,hmap]
 rw [Fl,hm s (by simp),hm x (by simp)]
 rfl
theorem ad7 (f args ts):gb P T ⟨d,.call { callee:=.value f,args,argTypes:=ts },ty,pos,af,gd⟩ recs K L st=fi (s7 T (c0 L) ⟨d,.call { callee:=.value f,args,argTypes:=ts },ty,pos,af,gd⟩) (reach st.h ff (AV.names.go ((f::args.toList).map (c0 L))) []) ⟨d,.call { callee:=.value f,args,argTypes:=ts },ty,pos,af,gd⟩ recs K L st (u3 T (c0 L f) (args.toList.map (c0 L))):=by
 unfold gb kr mg fi
 simp only [jl,cond_false]
 have h1:⟨d,.call { callee:=.value f,args,argTypes:=ts },ty,pos,af,gd⟩=(⟨d,.call { callee:=.value f,args,argTypes:=ts },ty,pos,af,gd⟩:Oper):=rfl
 have hf:cq ⟨d,.call { callee:=.value f,args,argTypes:=ts },ty,pos,af,gd⟩ L f=c0 L f:=eu (by simp [Op.operands,Call.operands])
 have ha:args.toList.map (cq ⟨d,.call { callee:=.value f,args,argTypes:=ts },ty,pos,af,gd⟩ L)=args.toList.map (c0 L):=ib (fun x hx=>by simp [Op.operands,Call.operands];exact .inr (by simpa using hx))
 have hr:s7 T (cq ⟨d,.call { callee:=.value f,args,argTypes:=ts },ty,pos,af,gd⟩ L) ⟨d,.call { callee:=.value f,args,argTypes:=ts },ty,pos,af,gd⟩=s7 T (c0 L) ⟨d,.call { callee:=.value f,args,argTypes:=ts },ty,pos,af,gd⟩:=by simp only [s7,hf]
 have ho:(⟨d,.call { callee:=.value f,args,argTypes:=ts },ty,pos,af,gd⟩:Oper).op.operands.toList.map (cq ⟨d,.call { callee:=.value f,args,argTypes:=ts },ty,pos,af,gd⟩ L)=(f::args.toList).map (c0 L):=by
  show ((#[f]++args).toList).map _=_
  simp only [Array.toList_append,List.map_append,ha,List.map_cons,hf]
  rfl
 rw [hr,ho]
 show Fj _ _ _ _ _ _ _ (u3 T (cq _ L f) (args.toList.map (cq _ L)) _)=_
 rw [hf,ha]
theorem Sf (n args ts):s7 T (c0 L) ⟨d,.call { callee:=.value (.func n),args,argTypes:=ts },ty,pos,af,gd⟩=roT (T.find n):=by simp only [s7,c0];rfl
end ops
theorem aaj (P T ops K L st):By P T ops true K L st=(nf ops=true∧(Ga P T ops ops.toList K [] L st∨M9 P T ops ops.toList K [] L st)):=id rfl
theorem aaq (n):Hu n []=true:=id rfl
theorem T7 (n o r):Hu n (o::r)=(Nat.blt o n && Hu n r):=id rfl
theorem agp (h h'):same h h' []=True:=id rfl
theorem aa6 (h h' o r):same h h' (o::r)=(h.get o=h'.get o∧same h h' r):=id rfl
theorem Zb (h):ko h [] = .nil:=id rfl
theorem Xr (h o r):ko h (o::r)=Tr.set depth (ko h r) o (h.get o):=id rfl
theorem Xg (h1 h):ql h1 [] h=h:=id rfl
theorem Qx (h1 o r h):ql h1 (o::r) h=Tr.set depth (ql h1 r h) o (h1.get o):=id rfl
theorem Z5 (t ts v vs):nm (t::ts) (v::vs)=(t,v)::nm ts vs:=id rfl
theorem Zj (P T f ps A B p Q L0 st0):arb P T f ps A B p Q L0 st0=(Nat.ble p 1000=true∧Nj P T ps A B p Q L0 st0 (yq (c0 L0 f))):=id rfl
theorem ahp (P T ps A B p Q L0 st0 g caps):Nj P T ps A B p Q L0 st0 (some (g,caps))=M7 P T ps A B p Q L0 st0 caps (sy P g):=id rfl
theorem af4 (P T ps A B p Q L0 st0 caps nt code):M7 P T ps A B p Q L0 st0 caps (some (nt,code))=(Nat.ble (caps.length+1) nt=true∧∀ l:Nat,n6 P T l (gi ps A B L0) p code (Yd Q L0) none (ca 0 (.sc (.func (.yield l) #[] #[])::caps)) st0):=id rfl
theorem Zu (g c):yq (.fn (.func g) [] c)=some (g,c):=id rfl
theorem Hd {P:Program} {T:ee} {l:Nat} {az:Nat} {L:SL} {st:St} {Q:QI} {ps:List Tmp} {ra rb:Code} {L0:SL} {α:Type} {b:Code} (keep:List Nat) (V : α→List AV) (O : α→List (Option bf)) (I : α→Prop) (μ : α→Nat) (x : α) (hx:I x)
 (hv:ki az keep L st=V x) (ho:gy az keep L st=O x)
 (step:∀ x,I x→n6 P T l (gi ps (fun p=>wl P T p ra) (fun p=>wl P T p rb) L0) az b (vk (yf az keep (fun vs os=>∃ y,I y ∧ μ y < μ x∧vs=V y∧os=O y) (fun _ _ _=>False)) Q) none (nm keep (V x)) (br (O x))):n6 P T l (gi ps (fun p=>wl P T p ra) (fun p=>wl P T p rb) L0) az (.loop b) Q none L st:=
 awm (keep:=keep) (V:=V) (O:=O) (I:=I) (μ:=μ) (x:=x) (hx:=hx) (hR:=H9 P T) (hv:=hv) (ho:=ho) (step:=step)
theorem jq {P:Program} {T:ee} {R:Js} {az:Nat} {L:SL} {st:St} {o:Oper} {K:Option Ex→SL→St→Prop} {args:Array Operand} (keep:List Nat) (h:j9 R (gy az keep L st).length args o.dst K (nm keep (ki az keep L st)) (br (gy az keep L st))):X8 P T R az o K none L st (some args):=⟨rfl,keep,h⟩
theorem Jw (P:Program):∀ s:Sem Value,ev P (do pure (Next.value (← s)))=(ev P s).map Next.value:=by
 intro s
 induction s with
 |pure b=>rfl
 |program k ih=>exact ih P
 |choose q k ih=>
  simp only [bind,Sem.bind,ev]
  split
  ·exact ih 0
  ·rfl
 |mark m k ih=>exact ih
 |_=>rfl
def ag1 (m:M AV):M AV:=m
def agb (a:AV) (m:M AV):M AV:=
 match a.bool with
 |some b=>M.pure (.sc (.bool (!b)))
 |none=>m
theorem as5 (b:Bool) (m:M AV):agb (.sc (.bool b)) m=M.pure (.sc (.bool (!b))):=id rfl
theorem ayx {a:AV} {b:Bool} (h:a.bool=some b):a = .sc (.bool b):=by
 unfold AV.bool AV.exact ox at h
 cases a with
 |sc v=>cases v<;>simp at h;rw [h]
 |_=>cases h
theorem Vh (P:Program) (ρ:Operand→AV) (d ty pos af gd) (t:TypeId) (x:Operand):iw P ρ ⟨d,.unOp .not t x,ty,pos,af,gd⟩ [x]=agb (ρ x) (ag1 (iw P ρ ⟨d,.unOp .not t x,ty,pos,af,gd⟩ [x])):=by
 unfold agb
 split
 ·rename_i b hb
  have hx:=ayx hb
  have h2:execOp (fun z=>((ρ z).ft).getD undef) ⟨d,.unOp .not t x,ty,pos,af,gd⟩=(do pure (Next.value (← Op.unary .not (.bool b)))):=by
   simp only [execOp,hx,AV.ft,Option.getD_some]
  unfold iw ku sd
  simp only [List.all_cons,List.all_nil,hx,AV.ft,Option.isSome_some,Bool.and_true,cond_true]
  rw [h2,Jw]
  rfl
 ·rfl
theorem aaa (P:Program) (T:ee) (ρ:Operand→AV) (d ty pos af gd) (t:TypeId) (x:Operand):fo P T ⟨d,.unOp .not t x,ty,pos,af,gd⟩ ρ=mono (agb (ρ x) (ag1 (iw P ρ ⟨d,.unOp .not t x,ty,pos,af,gd⟩ [x]))):=by
 exact congrArg mono (Vh ..)
theorem alf (P:Program) (T:ee) (L:SL) (st:St) (recs:List Rec) (K:List Rec→SL→St→Prop) (d ty pos af gd) (t x):gb P T ⟨d,.unOp .not t x,ty,pos,af,gd⟩ recs K L st=fi true (reach st.h ff (AV.names.go ([x].map (c0 L))) []) ⟨d,.unOp .not t x,ty,pos,af,gd⟩ recs K L st (mono (agb (c0 L x) (ag1 (iw P (cq ⟨d,.unOp .not t x,ty,pos,af,gd⟩ L) ⟨d,.unOp .not t x,ty,pos,af,gd⟩ [x])))):=by
 rw [atz]
 have h:=Vh P (cq ⟨d,.unOp .not t x,ty,pos,af,gd⟩ L) d ty pos af gd t x
 rw [eu (by simp [Op.operands])] at h
 rw [← h]
theorem S0 (l:List UInt8):bytesOf (l.map Bu)=some l:=by rw [Fe,yt]
theorem Qp (a b:ByteArray):Cx.fk [.sc (.string a),.sc (.string b)]=M.pure (.sc (goInt (Lib.compareBytes a.data.toList b.data.toList))):=by
 unfold Cx.fk cellsIn
 simp only [Nat.beq_refl,cond_true]
 unfold M.bind M.pure
 simp only [S0]
 rfl
theorem I5 {α:Type} (C:de α) (f:Bool) (h:C.sz=1) (ha:C.agg=false) (l:List α):(l.map (C.val f)).flatMap AV.cells=l.map (C.val f):=by
 induction l with
 |nil=>rfl
 |cons x l ih=>
  simp only [List.map_cons,List.flatMap_cons,ih]
  obtain ⟨c,h1,h2,_⟩:=C.one ha f x
  have:C.val f x=c:=by simp [de.val,ha,h1]
  rw [this,h2];rfl
theorem Qq (f g:Bool) (a b:List UInt8):Cx.fk [.vl f 1 (a.map (cy.val f)),.vl g 1 (b.map (cy.val g))]=M.pure (.sc (goInt (Lib.compareBytes a b))):=by
 unfold Cx.fk cellsIn
 simp only [Nat.beq_refl,cond_true,I5 cy _ rfl rfl]
 unfold M.bind M.pure
 simp only [yt]
 rfl
theorem Q9 {L:SL} {d ty pos af gd} {op t u x y}:cq ⟨d,.binOp op t x y u,ty,pos,af,gd⟩ L x=c0 L x:=eu (by simp [Op.operands])
theorem Ru {L:SL} {d ty pos af gd} {op t u x y}:cq ⟨d,.binOp op t x y u,ty,pos,af,gd⟩ L y=c0 L y:=eu (by simp [Op.operands])
theorem Wb {L:SL} {d ty pos af gd} {h l m t x}:cq ⟨d,.slice t x l h m,ty,pos,af,gd⟩ L x=c0 L x:=eu (by simp [Op.operands])
theorem Vj {L:SL} {d ty pos af gd} {h l m t x}:cq ⟨d,.slice t x l (some h) m,ty,pos,af,gd⟩ L h=c0 L h:=eu (by simp [Op.operands])
def zk (P:Program) (ρ:Operand→AV) (o:Oper) (l:List Operand):M AV:=iw P ρ o l
def af6 (u:Option TypeDesc) (a ix:AV) (m:M AV):M AV:=
 match u with
 |some .string=>
  match a with
  |.sc (.string s)=>
   match ix with
   |.sc (.int _ n)=>
    match (bif decide (0≤n) then s.data.toList[n.toNat]? else none) with
    |some b=>M.pure (.sc (.int .u8 b.toNat))
    |none=>m
   |_=>m
  |_=>m
 |_=>m
theorem adv (s:ByteArray) (k:IntKind) (n:Int) (m:M AV):af6 (some .string) (.sc (.string s)) (.sc (.int k n)) m=match (bif decide (0≤n) then s.data.toList[n.toNat]? else none) with|some b=>M.pure (.sc (.int .u8 b.toNat))|none=>m:=id rfl
theorem Oz (P:Program) (ρ:Operand→AV) (d ty pos af gd) (t:TypeId) (x i:Operand):iw P ρ ⟨d,.index t x i,ty,pos,af,gd⟩ [x,i]=af6 (P.underlying t) (ρ x) (ρ i) (zk P ρ ⟨d,.index t x i,ty,pos,af,gd⟩ [x,i]):=by
 unfold af6
 split
 ·rename_i hu
  split
  ·rename_i s hx
   split
   ·rename_i k n hi
    split
    ·rename_i b hb
     cases h0:decide (0≤n) with
     |false=>rw [h0] at hb;cases hb
     |true=>
     rw [h0,cond_true] at hb
     have h0 : 0≤n:=by simpa using h0
     have hb':s[n.toNat]? = some b:=by
      obtain ⟨h1,h2⟩:=List.getElem?_eq_some_iff.1 hb
      simp at h1
      rw [getElem?_pos s n.toNat (by simpa using h1)]
      rw [← h2];rfl
     have h2:execOp (fun z=>((ρ z).ft).getD undef) ⟨d,.index t x i,ty,pos,af,gd⟩=(do pure (Next.value (← Instr.index t (.string s) (.int k n)))):=by
      simp only [execOp,hx,hi,AV.ft,Option.getD_some]
     unfold iw ku sd
     simp only [List.all_cons,List.all_nil,hx,hi,AV.ft,Option.isSome_some,Bool.and_true,cond_true]
     rw [h2,Jw]
     have h3:ev P (Instr.index t (.string s) (.int k n))=some (.int .u8 b.toNat):=by
      simp [Instr.index,asIntOf,underlying,program,ev,hu,h0,hb',bind,Sem.bind,pure]
     rw [h3]
     rfl
    ·rfl
   ·rfl
  ·rfl
 ·rfl
theorem S2 (a n:Nat):(a:Int).fdiv (n:Int)=((a / n:Nat):Int):=by
 rw [Int.fdiv_eq_ediv_of_nonneg _ (by omega)];rfl
theorem agr (a:Nat):(a:Int).fdiv 256=((a / 256:Nat):Int):=S2 a 256
theorem Xf (a:Nat):(a:Int).fdiv 65536=((a / 65536:Nat):Int):=S2 a 65536
theorem L8 (a:Nat):(a:Int).fdiv 16777216=((a / 16777216:Nat):Int):=S2 a 16777216
theorem agx (f:Nat) (m) (T:ee):ee.find ((f,m)::T) f=some m:=by simp [ee.find]
theorem aai (f g:Nat) (m) (T:ee) (h:(f == g)=false):ee.find ((f,m)::T) g=ee.find T g:=by
 have e:f≠g:=by simpa using h
 simp [ee.find,ni e]
end
end Go.Vm
end
namespace Go.Vm
noncomputable section
def Bc (P:Program) (t:TypeId):Option (Nat × Nat × Nat):=
 match qa P t with
 |some e=>
  match di P e,kp P e,er P e with
  |some sz,some bytes,some z=>bif Nat.blt 0 sz && Nat.blt 0 bytes && Nat.beq z.cells.size sz then some (e,sz,bytes) else none
  |_,_,_=>none
 |none=>none
def age (q:Option (Nat × Nat × Nat)) (s x:AV):M AV:=
 match q with
 |some (e,sz,bytes)=>(cellsIn sz x).bind (pa e sz bytes s)
 |none=>M.fail
theorem as0 (e sz bytes s x):age (some (e,sz,bytes)) s x=(cellsIn sz x).bind (pa e sz bytes s):=id rfl
theorem W9 (P:Program) (t e:TypeId) (s x:AV):nw P (some t) (some (.slice e)) s x=age (Bc P t) s x:=by
 unfold nw age Bc
 simp only [Option.bind_some]
 cases qa P t with
 |none=>rfl
 |some e=>
  simp only
  cases di P e with
  |none=>rfl
  |some sz=>
   cases kp P e with
   |none=>rfl
   |some bytes=>
    cases er P e with
    |none=>rfl
    |some z=>
     simp only
     cases (Nat.blt 0 sz && Nat.blt 0 bytes && Nat.beq z.cells.size sz)<;>rfl
theorem Xs (P:Program) (t:TypeId) (s x:AV):nw P (some t) (some .string) s x=age (Bc P t) s x:=by
 unfold nw age Bc
 simp only [Option.bind_some]
 cases qa P t with
 |none=>rfl
 |some e=>
  simp only
  cases di P e with
  |none=>rfl
  |some sz=>
   cases kp P e with
   |none=>rfl
   |some bytes=>
    cases er P e with
    |none=>rfl
    |some z=>
     simp only
     cases (Nat.blt 0 sz && Nat.blt 0 bytes && Nat.beq z.cells.size sz)<;>rfl
theorem Sb (e sz bytes new):pa e sz bytes (.sc (.slice none 0 0)) new=bif new.isEmpty then M.pure (.sc (.slice none 0 0)) else bif Nat.ble (new.length * bytes) 140737488355328 then ln e sz (new.length / sz) new else M.fail:=id rfl
theorem T8 (e sz bytes o off len sz' new):pa e sz bytes (.sl o off len sz') new=bif Nat.beq sz sz' then (c8 o).bind (zy e sz bytes o off len new) else M.fail:=id rfl
theorem Qr (e sz bytes o off len new cells k st et):zy e sz bytes o off len new (.row cells k st et)=(bif Nat.beq et e && new.all AV.one && Nat.ble (off+len * sz) cells.length && Nat.ble ((len * sz+new.length) * bytes) 140737488355328 then
 bif Nat.ble k (off+len * sz) then
  (wv o).bind fun _=>(ja (.row ((cells.take (off+len * sz)).drop off++new) (k - off) (sf st) et)).bind fun id=>M.pure (.sl id 0 (len+new.length / sz) sz)
 else bif new.isEmpty then M.pure (.sl o off len sz)
 else M.fail
 else M.fail):=id rfl
theorem aw7:sf 0=0:=id rfl
def cellsOf {α:Type} (C:de α) (f:Bool) (xs:List α):List AV:=xs.flatMap (C.cells f)
theorem Q6 {α:Type} (C:de α) (f):cellsOf C f []=[]:=id rfl
theorem yn {α:Type} (C:de α) (f) (xs:List α):(cellsOf C f xs).length=xs.length * C.sz:=by
 induction xs with
 |nil=>simp [cellsOf]
 |cons x xs ih=>
  simp only [cellsOf] at ih
  simp [cellsOf,C.len,ih,Nat.succ_mul];omega
theorem C4 {α:Type} (C:de α) (f) (xs ys:List α):cellsOf C f (xs++ys)=cellsOf C f xs++cellsOf C f ys:=by simp [cellsOf]
theorem Rs {α:Type} (C:de α) (f) (x : α):cellsOf C f [x]=C.cells f x:=by simp [cellsOf]
theorem wq {α:Type} (C:de α) (f) (xs:List α):(cellsOf C f xs).all AV.one=true:=by
 rw [List.all_eq_true]
 intro c hc
 obtain ⟨x,_,hx⟩:=List.mem_flatMap.1 hc
 exact (C.pl f x c hx).one
theorem Lf {α:Type} (C:de α) (f) (xs:List α):AV.names.go (cellsOf C f xs)=[]:=H4 (fun c hc=>by
 obtain ⟨x,_,hx⟩:=List.mem_flatMap.1 hc
 exact (C.pl f x c hx).names)
theorem Sn {α:Type} (C:de α) (τ) (f) (xs:List α):(cellsOf C f xs).map (AV.dg τ)=cellsOf C f xs:=by
 rw [← kc]
 exact S1 (fun c hc=>by
  obtain ⟨x,_,hx⟩:=List.mem_flatMap.1 hc
  exact (C.pl f x c hx).dg τ)
theorem agz {α:Type} (C:de α) (f) (xs:List α) (i:Nat):(cellsOf C f xs).drop (i * C.sz)=cellsOf C f (xs.drop i):=by
 induction xs generalizing i with
 |nil=>simp [cellsOf]
 |cons x xs ih=>
  cases i with
  |zero=>simp
  |succ i=>
   have:(i+1) * C.sz=C.sz+i * C.sz:=by rw [Nat.succ_mul];omega
   rw [this,← List.drop_drop]
   have h1:(cellsOf C f (x::xs)).drop C.sz=cellsOf C f xs:=by
    have h2:cellsOf C f (x::xs)=C.cells f x++cellsOf C f xs:=by simp [cellsOf]
    rw [h2,← C.len f x,List.drop_left]
   rw [h1,ih,List.drop_succ_cons]
theorem ag2 {α:Type} (C:de α) (f) (xs:List α) (i:Nat):(cellsOf C f xs).take (i * C.sz)=cellsOf C f (xs.take i):=by
 induction xs generalizing i with
 |nil=>simp [cellsOf]
 |cons x xs ih=>
  cases i with
  |zero=>simp [cellsOf]
  |succ i=>
   have h2:cellsOf C f (x::xs)=C.cells f x++cellsOf C f xs:=by simp [cellsOf]
   have:(i+1) * C.sz=(C.cells f x).length+i * C.sz:=by rw [Nat.succ_mul,C.len];omega
   rw [h2,this,List.take_length_add_append,ih,List.take_succ_cons]
   simp [cellsOf]
theorem Ni {α:Type} (C:de α) (f) (x : α) (xs:List α):cellsOf C f (x::xs)=C.cells f x++cellsOf C f xs:=by simp [cellsOf]
theorem Jr {α:Type} {xs:List α} {i:Nat} {x : α} (h:xs[i]? = some x):xs.drop i=x::xs.drop (i+1):=by
 obtain ⟨h1,h2⟩:=List.getElem?_eq_some_iff.1 h
 rw [← h2];exact List.drop_eq_getElem_cons h1
theorem Fu {α:Type} (C:de α) (f) (xs:List α):(xs.map (C.val f)).flatMap AV.cells=cellsOf C f xs:=by
 rw [List.flatMap_map];congr 1;funext x;exact C.Gz f x
theorem A1 {α:Type} (C:de α) (fr:Bool) (h:Tr bf) (f:Bool) (xs:List α) (k st et) (n:Nat) (hn:n=xs.length) (hf:(f || !fr)=true):og C fr h 0 n (.row (cellsOf C f xs) k st et)=some xs:=by
 subst hn
 simp only [og,Nat.zero_add,yn,Nat.ble_self_eq_true,cond_true,List.drop_zero]
 have:(cellsOf C f xs).take (xs.length * C.sz)=cellsOf C f xs:=List.take_of_length_le (by rw [yn];exact Nat.le_refl _)
 rw [this]
 exact aam C fr h f (fun e=>by subst e;simpa using hf) xs
theorem T9 {α:Type} (C:de α) (fr h cells k st et):og C fr h 0 0 (.row cells k st et)=some []:=by
 have h:Nat.ble 0 cells.length=true:=Nat.ble_eq_true_of_le (Nat.zero_le _)
 simp [og,Ab,h]
def qv {α:Type} (C:de α) (fr:Bool) (h:Tr bf):List AV→Option (List α)
 | []=>some []
 |a::l=>match C.dec fr h [a],qv C fr h l with
  |some x,some xs=>some (x::xs)
  |_,_=>none
def aB4 {α:Type} (a b:Option (List α)):Option (List α):=match a,b with|some x,some y=>some (x++y)|_,_=>none
def axa {α:Type} (a:Option α) (b:Option (List α)):Option (List α):=match a,b with|some x,some y=>some (x::y)|_,_=>none
theorem as9 {α:Type} (a b:List α):aB4 (some a) (some b)=some (a++b):=id rfl
theorem aj3 {α:Type} (a : α) (b:List α):axa (some a) (some b)=some (a::b):=id rfl
theorem Ti {α:Type} (C:de α) (fr h):qv C fr h []=some []:=id rfl
theorem G5 {α:Type} (C:de α) (fr h a l):qv C fr h (a::l)=axa (C.dec fr h [a]) (qv C fr h l):=id rfl
theorem S3 {α:Type} (C:de α) (fr h):∀ a b,qv C fr h (a++b)=aB4 (qv C fr h a) (qv C fr h b)
 | [],b=>by
  simp only [List.nil_append,Ti]
  cases qv C fr h b<;>rfl
 |x::a,b=>by
  simp only [List.cons_append,G5,S3 C fr h a b]
  cases C.dec fr h [x]<;>cases qv C fr h a<;>cases qv C fr h b<;>rfl
theorem aem {α:Type} (C:de α) (hz:C.sz=1) (fr h):∀ cells:List AV,Ab C fr h cells.length cells=qv C fr h cells
 | []=>rfl
 |a::l=>by
  have h1:(a::l).take C.sz=[a]:=by rw [hz];rfl
  have h2:(a::l).drop C.sz=l:=by rw [hz];rfl
  simp only [List.length_cons,Ab,h1,h2,aem C hz fr h l]
  rfl
theorem yj {α:Type} (C:de α) (hz:C.sz=1) (fr h n cells k st et) (hn:n=cells.length):og C fr h 0 n (.row cells k st et)=qv C fr h cells:=by
 subst hn
 simp only [og,hz,Nat.mul_one,Nat.zero_add,Nat.ble_self_eq_true,cond_true,List.drop_zero,List.take_length]
 exact aem C hz fr h cells
theorem Cc {α:Type} (C:de α) (hz:C.sz=1) (ha:C.agg=false) (fr h f) (hf:fr=true→f=true):∀ l:List α,qv C fr h (l.map (C.val f))=some l
 | []=>rfl
 |x::l=>by
  obtain ⟨c,h1,_⟩:=C.one ha f x
  have hv:C.val f x=c:=by simp [de.val,ha,h1]
  have hd:=C.rt fr h f x hf
  rw [h1] at hd
  rw [List.map_cons,G5,Cc C hz ha fr h f hf l,hv,hd];rfl
theorem agq {α β:Type} (f : α → β) (l:List α) (n:Nat):(l.map f).take n=(l.take n).map f:=List.map_take.symm
theorem ags {α β:Type} (f : α → β) (l:List α) (n:Nat):(l.map f).drop n=(l.drop n).map f:=List.map_drop.symm
theorem Fb {α β:Type} (f : α → β) (l:List α):(l.map f).isEmpty=l.isEmpty:=by cases l<;>rfl
theorem Hn {α:Type} (l:List α) (x : α):(l++[x]).isEmpty=false:=by cases l<;>rfl
theorem Jt (a b:List AV):AV.names.go (a++b)=AV.names.go a++AV.names.go b:=by
 induction a with
 |nil=>rfl
 |cons x a ih=>simp only [List.cons_append,AV.names.go,ih,List.append_assoc]
theorem rtT {α:Type} (C:de α) (h:Tr bf) (x : α):C.fp true h (C.val true x)=some x:=C.Pj true h true x (fun _=>rfl)
theorem rtF {α:Type} (C:de α) (h:Tr bf) (l:Bool) (x : α):C.fp false h (C.val l x)=some x:=C.Pj false h l x (fun e=>by cases e)
theorem adi (s:ByteArray):s.data.toList.length=s.size:=by simp
theorem aks {α:Type} {l:List α} {n:Nat} (h:l.length≤n):l.take n=l:=List.take_of_length_le h
theorem aFo {α:Type} (C:de α) (fr:Bool) (h:Tr bf) (x : α):C.fp fr h (C.val fr x)=some x:=C.Pj fr h fr x (fun e=>e)
theorem b9 {a b:Nat} (h:a≤b):decide (a≤b)=true:=by simpa using h
theorem bu {a b:Nat} (h:a<b):decide (a<b)=true:=by simpa using h
theorem bw {a b:Int} (h:a≤b):decide (a≤b)=true:=by simpa using h
theorem bz {a b:Int} (h:a<b):decide (a<b)=true:=by simpa using h
theorem ah (x:Int) (h0 : -9223372036854775808≤x) (h1:x<9223372036854775808):IntKind.i64.wrap x=x:=by
 simp [IntKind.wrap,IntKind.bits,IntKind.signed];omega
theorem atp (n:Nat):IntKind.u8.wrap (n:Int)=((UInt8.ofNat n).toNat:Int):=by simp [IntKind.wrap,IntKind.bits,IntKind.signed]
theorem alq (n:Nat):IntKind.u32.wrap (n:Int)=((UInt32.ofNat n).toNat:Int):=by simp [IntKind.wrap,IntKind.bits,IntKind.signed]
theorem bj {p:Prop} [Decidable p] {X Y:SL→St→Prop} {L st}:xd (.sc (.bool (decide p))) X Y L st=((p→X L st)∧(¬ p→Y L st)):=by
 by_cases h:p<;>simp [h,Iu,Jo]
theorem cz {a b:Int} {X Y:SL→St→Prop} {L st}:xd (.sc (.bool (a == b))) X Y L st=(((a == b)=true∧a=b→X L st)∧((a == b)=false∧a≠b→Y L st)):=by
 by_cases h:a=b
 ·subst h;simp [Iu]
 ·have:(a == b)=false:=by simpa using h
  simp [h,this,Jo]
theorem je {a b:Int} {X Y:SL→St→Prop} {L st}:xd (.sc (.bool (a != b))) X Y L st=(((a != b)=true∧a≠b→X L st)∧((a != b)=false∧a=b→Y L st)):=by
 by_cases h:a=b
 ·subst h;simp [Jo]
 ·have:(a != b)=true:=by simpa using h
  simp [h,this,Iu]
theorem Zd (P:Program) (T:ee) (ρ:Operand→AV) (d ty pos af gd) (x ts):fo P T ⟨d,.call { callee:=.builtin .cap,args:=#[x],argTypes:=ts },ty,pos,af,gd⟩ ρ=mono (Co ((ts[0]?).bind P.underlying) (ρ x)):=id rfl
theorem Z1 (e a n c):Co (some (.slice e)) (.sc (.slice a n c))=M.pure (.sc (goInt c)):=id rfl
def avv (P:Program) (q:Option (Nat × Nat × Nat)) (s x:AV):M AV:=
 match q with
 |some (e,sz,bytes)=>
  match Et P e sz x with
  |some new=>pa e sz bytes s new
  |none=>M.fail
 |none=>M.fail
theorem ar4 (P:Program) (e sz bytes s x):avv P (some (e,sz,bytes)) s x=match Et P e sz x with|some new=>pa e sz bytes s new|none=>M.fail:=id rfl
theorem U2 (P:Program) (t:TypeId) (k:IntKind) (s x:AV):nw P (some t) (some (.int k)) s x=avv P (Bc P t) s x:=by
 unfold nw avv Bc
 simp only [Option.bind_some]
 cases qa P t with
 |none=>rfl
 |some e=>
  simp only
  cases di P e with
  |none=>rfl
  |some sz=>
   cases kp P e with
   |none=>rfl
   |some bytes=>
    cases er P e with
    |none=>rfl
    |some z=>
     simp only
     cases (Nat.blt 0 sz && Nat.blt 0 bytes && Nat.beq z.cells.size sz)<;>rfl
def ag9 (z:Option Value) (sz:Nat) (n:Int):Option (List AV):=
 match z with
 |some z=>bif decide (0≤n) && decide (n≤1073741824) && Nat.beq z.cells.size sz then some ((List.replicate n.toNat (z.cells.toList.map AV.sc)).flatten) else none
 |none=>none
theorem afj (z sz n):ag9 (some z) sz n=bif decide (0≤n) && decide (n≤1073741824) && Nat.beq z.cells.size sz then some ((List.replicate n.toNat (z.cells.toList.map AV.sc)).flatten) else none:=id rfl
theorem Zm (P:Program) (e sz:Nat) (k:IntKind) (n:Int):Et P e sz (.sc (.int k n))=ag9 (er P e) sz n:=by
 simp only [Et,ag9,yk,AV.int,AV.exact,Option.bind_some,intOf,Option.map_some]
 cases er P e<;>rfl
theorem aky {α:Type} (n:Nat) (x : α):(List.replicate n [x]).flatten=List.replicate n x:=by
 induction n with
 |zero=>rfl
 |succ n ih=>simp [List.replicate_succ,ih]
theorem Rp {α:Type} {n:Nat} {x : α} (h : 0<n):(List.replicate n x).isEmpty=false:=by
 cases n with
 |zero=>omega
 |succ n=>rfl
theorem nc0:((0:Nat):Int)=0:=id rfl
theorem nc1:((1:Nat):Int)=1:=id rfl
theorem arz (n:Nat):List.replicate n (AV.sc (.int .u8 0))=(List.replicate n (0:UInt8)).map (cy.val false):=by rw [List.map_replicate];rfl
def apb (P:Program) (u:Option TypeDesc) (x hi:AV) (m:M AV):M AV:=
 match u with
 |some (.slice e)=>
  match di P e with
  |some _=>
   match x with
   |.sc (.slice none 0 0)=>
    match hi with
    |.sc (.int .i64 0)=>M.pure (.sc (.slice none 0 0))
    |_=>m
   |_=>m
  |none=>m
 |_=>m
theorem aq0 (P:Program) (e m) (h:(di P e).isSome=true):apb P (some (.slice e)) (.sc (.slice none 0 0)) (.sc (.int .i64 0)) m=M.pure (.sc (.slice none 0 0)):=by
 obtain ⟨n,hn⟩:=Option.isSome_iff_exists.1 h
 simp only [apb,hn]
theorem Hm (P:Program) (ρ:Operand→AV) (d ty pos af gd) (t:TypeId) (x h:Operand):iw P ρ ⟨d,.slice t x none (some h) none,ty,pos,af,gd⟩ (.slice t x none (some h) none:Op).operands.toList=apb P (P.underlying t) (ρ x) (ρ h) (zk P ρ ⟨d,.slice t x none (some h) none,ty,pos,af,gd⟩ (.slice t x none (some h) none:Op).operands.toList):=by
 unfold apb
 split
 ·rename_i e hu
  split
  ·rename_i n hn
   split
   ·rename_i hx
    split
    ·rename_i hh
     have h2:execOp (fun z=>((ρ z).ft).getD undef) ⟨d,.slice t x none (some h) none,ty,pos,af,gd⟩=(do pure (Next.value (← Instr.sliceAt t (.slice none 0 0) none (some (.int .i64 0)) none))):=by
      simp only [execOp,hx,hh,AV.ft,Option.getD_some,Option.map_some,Option.map_none]
     have hi:∃ i,P.info? e=some i:=by
      unfold di at hn
      cases hq:P.info? e with
      |none=>rw [hq] at hn;cases hn
      |some i=>exact ⟨i,rfl⟩
     obtain ⟨i,hi⟩:=hi
     have h3:ev P (Instr.sliceAt t (.slice none 0 0) none (some (.int .i64 0)) none)=some (.slice none 0 0):=by
      simp [Instr.sliceAt,Instr.slice,Instr.sliceBounds,Instr.sliceBound,asIntOf,underlying,program,ev,hu,sizeOf,typeInfo,hi,bind,Sem.bind,pure]
     unfold iw ku sd
     simp only [Op.operands]
     simp [hx,hh,AV.ft]
     rw [h2,Jw,h3]
     rfl
    ·rfl
   ·rfl
  ·rfl
 ·rfl
def av9 {α:Type} (o sz:Nat) (l:List α):AV:=bif l.isEmpty then .sc (.slice none 0 0) else .sl o 0 l.length sz
def an8 (cells:List AV) (k st:Nat) (et:TypeId):List (Option bf):=bif cells.isEmpty then [] else [some (.row cells k st et)]
theorem ap6 {α:Type} {o sz} {l:List α} (h:l.isEmpty=false):av9 o sz l = .sl o 0 l.length sz:=by simp [av9,h]
theorem Zn {α:Type} (o sz) (l:List α) (c : α):av9 o sz (l++[c]) = .sl o 0 (l.length+1) sz:=by rw [ap6 (Hn l c)];simp
theorem ara {cells:List AV} {k st et} (h:cells.isEmpty=false):an8 cells k st et=[some (.row cells k st et)]:=by simp [an8,h]
theorem avb {α:Type} {f : α→AV} {l:List α} {k st et} (h:l.isEmpty=false):an8 (l.map f) k st et=[some (.row (l.map f) k st et)]:=ara (by rw [Fb,h])
theorem aba {α:Type} (f : α→AV) (l:List α) (c : α) (k st et):an8 ((l++[c]).map f) k st et=[some (.row (l.map f++[f c]) k st et)]:=by rw [avb (Hn l c)];simp
theorem dw {α:Type} {l:List α} {i:Nat} (h:decide ((i:Int)<(l.length:Int))=true):∃ c,l[i]? = some c∧l.drop i=c::l.drop (i+1)∧i<l.length:=by
 have h1:i<l.length:=by simp at h;omega
 exact ⟨l[i],List.getElem?_eq_getElem h1,List.drop_eq_getElem_cons h1,h1⟩
theorem dz {α:Type} {l:List α} {i:Nat} (h:decide ((i:Int)<(l.length:Int))=false):l.drop i=[]:=by
 have h1:¬ i<l.length:=by simp at h;omega
 exact List.drop_eq_nil_of_le (by omega)
def Ao (D:List Nat):Nat→List (Option bf)→List (Option bf)
 |_,[]=>[]
 |i,x::r=>(bif x8 i D then x else none)::Ao D (i+1) r
def Cm (D:List Nat):Nat→List (Option bf)→List (Option bf)
 |_,[]=>[]
 |i,x::r=>(bif x8 i D then none else x)::Cm D (i+1) r
theorem Zh (D):∀ (i:Nat) (os:List (Option bf)),(Ao D i os).length=os.length
 |_,[]=>rfl
 |i,x::r=>by simp [Ao,Zh D (i+1) r]
theorem Mw (D):∀ (i:Nat) (os:List (Option bf)),(Cm D i os).length=os.length
 |_,[]=>rfl
 |i,x::r=>by simp [Cm,Mw D (i+1) r]
theorem abd (D):∀ (os:List (Option bf)) (i j:Nat),((Ao D i os)[j]?).join=if (i+j) ∈ D then (os[j]?).join else none
 | [],i,j=>by simp [Ao]
 |x::r,i,0=>by
  simp only [Ao,List.getElem?_cons_zero,Option.join_some,Nat.add_zero]
  cases hb:x8 i D with
  |true=>rw [if_pos ((u7 i D).1 hb)];rfl
  |false=>rw [if_neg (fun h=>by rw [(u7 i D).2 h] at hb;cases hb)];rfl
 |x::r,i,j+1=>by
  simp only [Ao,List.getElem?_cons_succ]
  rw [abd D r (i+1) j,show i+1+j=i+(j+1) from by omega]
theorem aa2 (D):∀ (os:List (Option bf)) (i j:Nat),((Cm D i os)[j]?).join=if (i+j) ∈ D then none else (os[j]?).join
 | [],i,j=>by simp [Cm]
 |x::r,i,0=>by
  simp only [Cm,List.getElem?_cons_zero,Option.join_some,Nat.add_zero]
  cases hb:x8 i D with
  |true=>rw [if_pos ((u7 i D).1 hb)];rfl
  |false=>rw [if_neg (fun h=>by rw [(u7 i D).2 h] at hb;cases hb)];rfl
 |x::r,i,j+1=>by
  simp only [Cm,List.getElem?_cons_succ]
  rw [aa2 D r (i+1) j,show i+1+j=i+(j+1) from by omega]
theorem Yb (os:List (Option bf)) (h:os.length≤cx) (o:Nat):(br os).h.get o=(os[o]?).join:=by
 simp only [br]
 rw [um _ _ _ (by omega),if_pos (Nat.zero_le _),Nat.sub_zero]
inductive jk (h:Tr bf):AV→AV→Prop
 |same (a:AV):jk h a a
 |data {α:Type} (C:de α) (fr:Bool) (x : α) (a:AV) (hd:C.fp fr h a=some x):jk h a (C.val fr x)
 |bad (a:AV):jk h a .bad
 |nil (o off sz:Nat):jk h (.sc (.slice none 0 0)) (.sl o off 0 sz)
 |wu (loc:Bool) (sz:Nat):jk h (.sc (.slice none 0 0)) (.vl loc sz [])
inductive iu (h:Tr bf):List AV→List AV→Prop
 |nil:iu h [] []
 |cons {a b:AV} {l m:List AV} (h1:jk h a b) (h2:iu h l m):iu h (a::l) (b::m)
theorem iu.len {h l m} (hl:iu h l m):m.length=l.length:=by
 induction hl with
 |nil=>rfl
 |cons _ _ ih=>simp [ih]
theorem iu.refl (h):∀ l,iu h l l
 | []=>.nil
 |a::l=>.cons (.same a) (iu.refl h l)
theorem iu.get {h l m} (hl:iu h l m):∀ (i:Nat) b,m[i]? = some b→∃ a,l[i]? = some a∧jk h a b:=by
 induction hl with
 |nil=>intro i b hb;simp at hb
 |cons h1 h2 ih=>
  intro i b hb
  cases i with
  |zero=>simp at hb;subst hb;exact ⟨_,rfl,h1⟩
  |succ i=>exact ih i b (by simpa using hb)
inductive dq (h:Tr bf):List (Option bf)→List (Option bf)→Prop
 |nil:dq h [] []
 |ghost {st et m} (h2:dq h [] m):dq h [] (some (.row [] 0 st et)::m)
 |same {x l m} (h2:dq h l m):dq h (x::l) (x::m)
 |gone {x l m} (h2:dq h l m):dq h (x::l) (none::m)
 |row {cells cells' k st et l m} (h1:iu h cells cells') (h2:dq h l m):dq h (some (.row cells k st et)::l) (some (.row cells' k st et)::m)
theorem dq.refl (h):∀ l,dq h l l
 | []=>.nil
 |x::l=>.same (dq.refl h l)
theorem dq.len {h l m} (hl:dq h l m):l.length≤m.length:=by induction hl<;>simp_all
theorem dq.get {h l m} (hl:dq h l m):∀ (i:Nat) y,(m[i]?).join=some y→(l[i]?).join=some y∨(∃ cells cells' k st et,y = .row cells' k st et∧(l[i]?).join=some (.row cells k st et)∧iu h cells cells')∨(l.length≤i∧Bl y):=by
 induction hl with
 |nil=>intro i y hy;simp at hy
 | @ghost st et m h2 ih=>
  intro i y hy
  cases i with
  |zero=>simp at hy;subst hy;exact .inr (.inr ⟨Nat.le_refl _,st,et,rfl⟩)
  |succ i=>exact .inr (.inr ⟨Nat.zero_le _,(by
   rcases ih i y (by simpa using hy) with h|⟨_,_,_,_,_,_,h,_⟩|h
   ·simp at h
   ·simp at h
   ·exact h.2)⟩)
 |same h2 ih=>
  intro i y hy
  cases i with
  |zero=>exact .inl hy
  |succ i=>exact (ih i y (by simpa using hy)).imp id (Or.imp id (fun h=>⟨Nat.succ_le_succ h.1,h.2⟩))
 |gone h2 ih=>
  intro i y hy
  cases i with
  |zero=>simp at hy
  |succ i=>exact (ih i y (by simpa using hy)).imp id (Or.imp id (fun h=>⟨Nat.succ_le_succ h.1,h.2⟩))
 |row h1 h2 ih=>
  intro i y hy
  cases i with
  |zero=>simp at hy;subst hy;exact .inr (.inl ⟨_,_,_,_,_,rfl,rfl,h1⟩)
  |succ i=>exact (ih i y (by simpa using hy)).imp id (Or.imp id (fun h=>⟨Nat.succ_le_succ h.1,h.2⟩))
theorem me.lax {vs vs':List AV} {os os':List (Option bf)} {az:Nat} (D:List Nat) (hlen':os'.length≤cx) (hv:iu (br (Ao D 0 os)).h vs vs') (ho:dq (br (Ao D 0 os)).h (Cm D 0 os) os'):me az vs os vs' os':=by
 have holen:os.length≤os'.length:=by have:=ho.len;rw [Mw] at this;exact this
 have hlen:os.length≤cx:=Nat.le_trans holen hlen'
 refine ⟨hv.len,fun q=>Nat.le_trans q holen,fun g w us hok hfree hr=>?_⟩
 obtain ⟨hD,ehD⟩:∃ hD,(br (Ao D 0 os)).h=hD:=⟨_,rfl⟩
 rw [ehD] at hv ho
 have c8:∀ o,(br os).h.get o=(os[o]?).join:=Yb os hlen
 have hgetD:∀ o,hD.get o=if o ∈ D then (os[o]?).join else none:=fun o=>by
  rw [← ehD,Yb _ (by rw [Zh];exact hlen),abd,Nat.zero_add]
 have hget':∀ o y,(br os').h.get o=some y→(o ∉ D∧((br os).h.get o=some y∨∃ cells cells' k st et,y = .row cells' k st et∧(br os).h.get o=some (.row cells k st et)∧iu hD cells cells'))∨(os.length≤o∧Bl y):=fun o y hy=>by
  rw [Yb _ hlen'] at hy
  have hmid:∀ z,((Cm D 0 os)[o]?).join=some z→o ∉ D∧(os[o]?).join=some z:=fun z hz=>by
   rw [aa2,Nat.zero_add] at hz
   by_cases hd:o ∈ D
   ·rw [if_pos hd] at hz;cases hz
   ·rw [if_neg hd] at hz;exact ⟨hd,hz⟩
  rw [c8]
  rcases ho.get o y hy with h1|⟨cells,cells',k,st,et,h1,h2,h3⟩|h1
  ·exact .inl ⟨(hmid _ h1).1,.inl (hmid _ h1).2⟩
  ·exact .inl ⟨(hmid _ h2).1,.inr ⟨cells,cells',k,st,et,h1,(hmid _ h2).2,h3⟩⟩
  ·rw [Mw] at h1;exact .inr h1
 have hsub:∀ o x,hD.get o=some x→o ∈ D∧(br os).h.get o=some x:=fun o x hx=>by
  rw [hgetD] at hx
  by_cases hd:o ∈ D
  ·rw [if_pos hd] at hx;rw [c8];exact ⟨hd,hx⟩
  ·rw [if_neg hd] at hx;cases hx
 have hokD:Ok g hD w:=hok.part (fun o x hx=>(hsub o x hx).2)
 obtain ⟨K',eK⟩:∃ K':Nat→Nat→Prop,(fun b j=>g.K b j∨∃ o base cells k s e,hD.get o=some (.row cells k s e)∧g.inj o=some (b,base)∧∃ i,i<cells.length∧j=base+i)=K':=⟨_,rfl⟩
 have hK':∀ b j,K' b j↔(g.K b j∨∃ o base cells k s e,hD.get o=some (.row cells k s e)∧g.inj o=some (b,base)∧∃ i,i<cells.length∧j=base+i):=fun b j=>by rw [← eK]
 have hlend:sm g hD K':=⟨fun b j h=>(hK' b j).2 (.inl h),fun o cells k s e h b base hi j hj=>(hK' _ _).2 (.inr ⟨o,base,cells,k,s,e,h,hi,j,hj,rfl⟩)⟩
 have hlax:∀ {a b:AV} {v:Value},jk hD a b→Rel g w a v→Rel { g with K:=K' } w b v:=fun {a b v} hl hrel=>by
  have hup:Rel { g with K:=K' } w a v:=Rel.ext (g:=g) (w:=w) (g':={ g with K:=K' }) (w':=w) ⟨rfl,fun _ _ h=>h,fun b j h=>(hK' b j).2 (.inl h),fun _ _ _=>rfl,fun b cs e fr h=>⟨cs,fr,h,rfl⟩,fun b l h=>⟨l,h⟩⟩ hrel
  cases hl with
  |same=>exact hup
  |data C fr x a hd=>exact (C.Zv hokD hlend (fun _=>Nat.le_refl g.b0) hrel hd).lift (Nat.le_refl _) (fun _ _ h=>h)
  |bad=>exact .bad _
  |nil o off sz=>obtain rfl:=hup.exact rfl;exact .xq _ _ _
  |wu loc sz=>obtain rfl:=hup.exact rfl;exact .kn _ _
 refine ⟨{ g with K:=K' },⟨hok.size,fun o y hy=>?_,fun o o' x x' b base base' hne hx hx' hb hb'=>?_,fun b j hk=>?_⟩,⟨by rw [hv.len];exact hr.1,fun i b v hb hv'=>?_⟩,rfl,fun o q=>hfree o (Nat.le_trans holen q),fun _ _=>rfl,fun b j h=>(hK' b j).2 (.inl h),fun o b base ho' hi'=>?_,fun b j hk=>?_⟩
 ·rcases hget' o y hy with ⟨hnd,hy⟩|⟨hge,hgh⟩
  case inr=>exact .inl ⟨hfree o hge,hgh⟩
  have hKo:∀ b base,g.inj o=some (b,base)→((br os).h.get o).isSome=true→∀ j,K' b j→g.K b j:=fun b base hi hs j hk=>by
   rcases (hK' b j).1 hk with h|⟨o2,base2,cells,k,s,e,h1,h2,_⟩
   ·exact h
   ·exfalso
    obtain ⟨hd2,h1'⟩:=hsub o2 _ h1
    obtain ⟨x,hx⟩:=Option.isSome_iff_exists.1 hs
    exact hok.sep o o2 x _ b base base2 (fun e=>hnd (by rw [e];exact hd2)) hx h1' hi h2
  have hext:Ext g w { g with K:=K' } w:=⟨rfl,fun _ _ h=>h,fun b j h=>(hK' b j).2 (.inl h),fun _ _ _=>rfl,fun b cs e fr h=>⟨cs,fr,h,rfl⟩,fun b l h=>⟨l,h⟩⟩
  rcases hy with hy|⟨cells,cells',k,st,et,rfl,hy,hcl⟩
  ·refine (hok.nn o y hy).imp id ?_
   rintro ⟨b,base,h1,h2,h3⟩
   exact ⟨b,base,h1,h2,h3.ext hext rfl (fun j hj=>hKo b base h1 (by rw [hy];rfl) j hj)⟩
  ·refine (hok.nn o _ hy).imp (fun q=>⟨q.1,by
    obtain ⟨s0,e0,he⟩:=q.2
    simp only [bf.row.injEq] at he
    obtain ⟨rfl,rfl,rfl,rfl⟩:=he
    cases hcl
    exact ⟨_,_,rfl⟩⟩) ?_
   rintro ⟨b,base,h1,h2,cs,fr,r1,r2,r3,r4,r5,r6,r7⟩
   refine ⟨b,base,h1,h2,cs,fr,r1,by rw [hcl.len];exact r2,fun j c hc=>?_,r4,fun j hj=>r5 j (hKo b base h1 (by rw [hy];rfl) j hj),r6,fun e=>by rw [hcl.len];exact r7 e⟩
   obtain ⟨a,ha,hla⟩:=hcl.get j c hc
   obtain ⟨u,hu,hru⟩:=r3 j a ha
   exact ⟨u,hu,hlax hla hru⟩
 ·have q:∀ o y p,(br os').h.get o=some y→g.inj o=some p→∃ z,(br os).h.get o=some z:=fun o y p hy hp=>by
   rcases hget' o y hy with ⟨_,h|⟨_,_,_,_,_,_,h,_⟩⟩|⟨h,_⟩
   ·exact ⟨_,h⟩
   ·exact ⟨_,h⟩
   ·rw [hfree o h] at hp;cases hp
  obtain ⟨z,hz⟩:=q o x _ hx hb
  obtain ⟨z',hz'⟩:=q o' x' _ hx' hb'
  exact hok.sep o o' z z' b base base' hne hz hz' hb hb'
 ·rcases (hK' b j).1 hk with h|⟨o,base,cells,k,s,e,h1,h2,_⟩
  ·exact hok.K b j h
  ·obtain ⟨b',base',h3,_,h4⟩:=hokD.obj o _ h1
   rw [h2] at h3;cases h3
   exact h4.lt
 ·obtain ⟨a,ha,hla⟩:=hv.get i b hb
  exact hlax hla (hr.2 i a v ha hv')
 ·obtain ⟨y,hy⟩:=Option.isSome_iff_exists.1 ho'
  rcases hget' o y hy with ⟨_,h|⟨_,_,_,_,_,_,h,_⟩⟩|⟨h,_⟩
  ·exact ⟨o,base,by rw [h];rfl,hi'⟩
  ·exact ⟨o,base,by rw [h];rfl,hi'⟩
  ·have:g.inj o=some (b,base):=hi'
   rw [hfree o h] at this;cases this
 ·rcases (hK' b j).1 hk with h|⟨o,base,cells,k,s,e,h1,h2,_⟩
  ·exact .inl h
  ·exact .inr ⟨o,base,by rw [(hsub o _ h1).2];rfl,h2⟩
theorem asx {α:Type} {P:Program} {T:ee} {az:Nat} {b:Code} {Q:QL} {L:SL} {st:St} (keep:List Nat) (V : α→List AV) (O : α→List (Option bf)) (I : α→Prop) (μ : α→Nat) (x : α) (hx:I x)
 (hv:me az (ki az keep L st) (gy az keep L st) (V x) (O x))
 (step:∀ x,I x→wl P T az b (yf az keep (fun vs os=>∃ y,I y ∧ μ y < μ x∧me az vs os (V y) (O y)) Q) (nm keep (V x)) (br (O x))):sx az (wl P T az b) Q L st:=
 sx.aon keep V O I μ x hx hv (fun _ _ h=>Il b _ _ h) step
theorem ma {α:Type} {P:Program} {T:ee} {az:Nat} {b:Code} {Q:QL} {L:SL} {st:St} (keep:List Nat) (V : α→List AV) (O : α→List (Option bf)) (I : α→Prop) (μ : α→Nat) (x : α) (hx:I x)
 (hv:me az (ki az keep L st) (gy az keep L st) (V x) (O x))
 (step:∀ x,I x→wl P T az b (yf az keep (fun vs os=>∃ y,I y ∧ μ y < μ x∧vs=V y∧os=O y) Q) (nm keep (V x)) (br (O x))):sx az (wl P T az b) Q L st:=
 asx keep V O I μ x hx hv (fun x hi=>Il b _ _ (fun e L' st' hq=>by
  cases e with
  |normal=>
   obtain ⟨y,h1,h2,h3,h4⟩:=hq
   refine ⟨y,h1,h2,?_⟩
   rw [h3,h4];exact .refl _ _ _
  |exit id=>exact hq
  |ret=>exact hq) _ _ (step x hi))
theorem H3 (f) (l):(List.map (aq.val f) l).flatMap AV.cells=l.map (aq.val f):=I5 aq f rfl rfl l
theorem Wl (f) (l):(List.map (aq.val f) l).all AV.one=true:=by rw [← H3 f l,Fu];exact wq _ _ _
theorem Lt (fr h n cells k st et) (hn:n=cells.length):og aq fr h 0 n (.row cells k st et)=qv aq fr h cells:=yj aq rfl fr h n cells k st et hn
theorem Su (fr h f) (l):qv aq fr h (List.map (aq.val f) l)=some l:=by
 have e:List.map (aq.val f) l=List.map (aq.val true) l:=by cases f<;>rfl
 rw [e];exact Cc aq rfl rfl fr h true (fun _=>rfl) l
theorem Kz (f) (l):(List.map (cy.val f) l).flatMap AV.cells=l.map (cy.val f):=I5 cy f rfl rfl l
theorem Ze (f) (l):(List.map (cy.val f) l).all AV.one=true:=by rw [← Kz f l,Fu];exact wq _ _ _
theorem Mh (fr h n cells k st et) (hn:n=cells.length):og cy fr h 0 n (.row cells k st et)=qv cy fr h cells:=yj cy rfl fr h n cells k st et hn
theorem V5 (fr h f) (l):qv cy fr h (List.map (cy.val f) l)=some l:=by
 have e:List.map (cy.val f) l=List.map (cy.val true) l:=by cases f<;>rfl
 rw [e];exact Cc cy rfl rfl fr h true (fun _=>rfl) l
theorem Ib (f) (l):(List.map (bn.val f) l).flatMap AV.cells=l.map (bn.val f):=I5 bn f rfl rfl l
theorem Vg (f) (l):(List.map (bn.val f) l).all AV.one=true:=by rw [← Ib f l,Fu];exact wq _ _ _
theorem Lm (fr h n cells k st et) (hn:n=cells.length):og bn fr h 0 n (.row cells k st et)=qv bn fr h cells:=yj bn rfl fr h n cells k st et hn
theorem Ro (fr h f) (l):qv bn fr h (List.map (bn.val f) l)=some l:=by
 have e:List.map (bn.val f) l=List.map (bn.val true) l:=by cases f<;>rfl
 rw [e];exact Cc bn rfl rfl fr h true (fun _=>rfl) l
theorem Ft (f) (l):(List.map (ar.val f) l).flatMap AV.cells=l.map (ar.val f):=I5 ar f rfl rfl l
theorem Rm (f) (l):(List.map (ar.val f) l).all AV.one=true:=by rw [← Ft f l,Fu];exact wq _ _ _
theorem Jm (fr h n cells k st et) (hn:n=cells.length):og ar fr h 0 n (.row cells k st et)=qv ar fr h cells:=yj ar rfl fr h n cells k st et hn
theorem Pe (fr h f) (l) (hf:(f || !fr)=true):qv ar fr h (List.map (ar.val f) l)=some l:=Cc ar rfl rfl fr h f (fun e=>by subst e;simpa using hf) l
theorem N1 (fr h l n xs) (hn:n=1) (hl:(l || !fr)=true):ew aq fr h (.vl l n (xs.map (aq.val false)))=some xs:=by
 cases l with
 |true=>exact wa aq fr h true xs n hn hl
 |false=>exact wa aq fr h false xs n hn hl
theorem U5:aq.val true=aq.val false:=id rfl
theorem Si (fr h l n xs) (hn:n=1) (hl:(l || !fr)=true):ew cy fr h (.vl l n (xs.map (cy.val false)))=some xs:=by
 cases l with
 |true=>exact wa cy fr h true xs n hn hl
 |false=>exact wa cy fr h false xs n hn hl
theorem Zz:cy.val true=cy.val false:=id rfl
theorem Oe (fr h l n xs) (hn:n=1) (hl:(l || !fr)=true):ew bn fr h (.vl l n (xs.map (bn.val false)))=some xs:=by
 cases l with
 |true=>exact wa bn fr h true xs n hn hl
 |false=>exact wa bn fr h false xs n hn hl
theorem Uu:bn.val true=bn.val false:=id rfl
theorem Vy (fr h s):aq.dec fr h [.sc (.string s)]=some s:=id rfl
theorem abb (fr h) (c:UInt8):cy.dec fr h [.sc (.int .u8 c.toNat)]=some c:=cy.rt fr h true c (fun _=>rfl)
theorem T5 (fr h) (c:UInt16):cw.dec fr h [.sc (.int .u16 c.toNat)]=some c:=cw.rt fr h true c (fun _=>rfl)
theorem Wk (fr h) (c:UInt32):bn.dec fr h [.sc (.int .u32 c.toNat)]=some c:=bn.rt fr h true c (fun _=>rfl)
theorem Qu (fr h b):bp.dec fr h [.sc (.bool b)]=some b:=id rfl
theorem Qv (fr h a):ar.dec fr h [a]=ew aq fr h a:=id rfl
theorem Y6 (a b:List AV):AV.fresh.go (a++b)=(AV.fresh.go a && AV.fresh.go b):=by
 induction a with
 |nil=>rfl
 |cons x a ih=>simp only [List.cons_append,AV.fresh.go,ih,Bool.and_assoc]
theorem ae5 (f) (l:List UInt8):AV.fresh.go (l.map (cy.val f))=true:=by
 induction l with
 |nil=>rfl
 |cons x l ih=>simp only [List.map_cons,AV.fresh.go,ih];rfl
theorem Qs (f) (c:Name):(ar.val f c).one=true:=id rfl
theorem Li (f) (c:Name):(ar.val f c).cells=[ar.val f c]:=id rfl
theorem aau (fr h a):(cp cy).dec fr h [a]=ew cy fr h a:=id rfl
theorem Mm (fr h n cells k st et) (hn:n=cells.length):og (cp cy) fr h 0 n (.row cells k st et)=qv (cp cy) fr h cells:=yj (cp cy) rfl fr h n cells k st et hn
theorem Ux (k):(au k).val true=(au k).val false:=id rfl
end
end Go.Vm
section
set_option maxRecDepth 4000
namespace Go.Vm
theorem wR:type_of% @aj1∧type_of% @agf∧type_of% @Zp∧type_of% @apl∧type_of% @alu∧type_of% @ahv∧type_of% @alk∧type_of% @ahx∧type_of% @akj∧type_of% @arj∧type_of% @ar7∧type_of% @arx∧type_of% @apc∧type_of% @apg∧type_of% @arl∧type_of% @atc∧type_of% @ak1∧type_of% @ajz∧type_of% @alm∧type_of% @aql∧type_of% @apu∧type_of% @Z8∧type_of% @agh∧type_of% @Zt∧type_of% @Ul∧type_of% @V3∧type_of% @afr∧type_of% @aeg∧type_of% @agk∧type_of% @akf∧type_of% @aeq∧type_of% @aeh∧type_of% @aaj∧type_of% @adk∧type_of% @Zi∧type_of% @Z4∧type_of% @ahs∧type_of% @aah∧type_of% @Z2∧type_of% @arc∧type_of% @Iu∧type_of% @Jo∧type_of% @af8∧type_of% @adr∧type_of% @Va∧type_of% @aeu∧type_of% @aj8∧type_of% @aer∧type_of% @abc∧type_of% @aho∧type_of% @akn∧type_of% @atl∧type_of% @asu∧type_of% @as7∧type_of% @aps∧type_of% @aqn∧type_of% @arh∧type_of% @alv∧type_of% @aj2∧type_of% @aki∧type_of% @al0∧type_of% @al3∧type_of% @akb∧type_of% @aek∧type_of% @Y7∧type_of% @Vk∧type_of% @W8∧type_of% @ah2∧type_of% @ahb∧type_of% @aev∧type_of% @akz∧type_of% @ali∧type_of% @Wg∧type_of% @ar5∧type_of% @ato∧type_of% @agt∧type_of% @af1∧type_of% @ak8∧type_of% @Q4∧type_of% @Nk:=
 ⟨@aj1,@agf,@Zp,@apl,@alu,@ahv,@alk,@ahx,@akj,@arj,@ar7,@arx,@apc,@apg,@arl,@atc,@ak1,@ajz,@alm,@aql,@apu,@Z8,@agh,@Zt,@Ul,@V3,@afr,@aeg,@agk,@akf,@aeq,@aeh,@aaj,@adk,@Zi,@Z4,@ahs,@aah,@Z2,@arc,@Iu,@Jo,@af8,@adr,@Va,@aeu,@aj8,@aer,@abc,@aho,@akn,@atl,@asu,@as7,@aps,@aqn,@arh,@alv,@aj2,@aki,@al0,@al3,@akb,@aek,@Y7,@Vk,@W8,@ah2,@ahb,@aev,@akz,@ali,@Wg,@ar5,@ato,@agt,@af1,@ak8,@Q4,@Nk⟩
theorem R0:type_of% @ags∧type_of% @arz∧type_of% @List.length_take.{0}∧type_of% @nc0∧type_of% @nc1∧type_of% @Int.sub_zero∧type_of% @Int.sub_self∧type_of% @Int.add_zero∧type_of% @Int.zero_add∧type_of% @U2∧type_of% @ar4∧type_of% @Zm∧type_of% @afj∧type_of% @aky∧type_of% @Rp∧type_of% @List.length_replicate.{0}∧type_of% @Zd∧type_of% @Z1∧type_of% @aq0∧type_of% @Hm∧type_of% @Q5∧type_of% @Oz∧type_of% @adv∧type_of% @agr∧type_of% @Xf∧type_of% @L8∧type_of% @adi∧type_of% @aks∧type_of% @atp∧type_of% @alq∧type_of% @Ti∧type_of% @G5∧type_of% @S3∧type_of% @as9∧type_of% @aj3∧type_of% @Su∧type_of% @V5∧type_of% @Ro∧type_of% @Pe∧type_of% @Vy∧type_of% @abb∧type_of% @T5∧type_of% @Wk∧type_of% @Qu∧type_of% @Qv∧type_of% @List.length_append.{0}∧type_of% @rtT∧type_of% @rtF∧type_of% @Go.Vm.si.eq_1∧type_of% @Go.Vm.bounds.eq_1∧type_of% @Go.Vm.Fq.eq_1∧type_of% @Go.Vm.Fq.eq_2:=
 ⟨@ags,@arz,@List.length_take.{0},@nc0,@nc1,@Int.sub_zero,@Int.sub_self,@Int.add_zero,@Int.zero_add,@U2,@ar4,@Zm,@afj,@aky,@Rp,@List.length_replicate.{0},@Zd,@Z1,@aq0,@Hm,@Q5,@Oz,@adv,@agr,@Xf,@L8,@adi,@aks,@atp,@alq,@Ti,@G5,@S3,@as9,@aj3,@Su,@V5,@Ro,@Pe,@Vy,@abb,@T5,@Wk,@Qu,@Qv,@List.length_append.{0},@rtT,@rtF,@Go.Vm.si.eq_1,@Go.Vm.bounds.eq_1,@Go.Vm.Fq.eq_1,@Go.Vm.Fq.eq_2⟩
theorem R1:type_of% @Go.Vm.tq.eq_1∧type_of% @Go.Vm.tw.eq_def∧type_of% @Go.Vm.sb.eq_def∧type_of% @Jt∧type_of% @Lf∧type_of% @Sn∧type_of% @wq∧type_of% @T9∧type_of% @Nat.div_one∧type_of% @W9∧type_of% @Xs∧type_of% @as0∧type_of% @Sb∧type_of% @T8∧type_of% @Qr∧type_of% @aw7∧type_of% @H3∧type_of% @Kz∧type_of% @Ib∧type_of% @Ft∧type_of% @Wl∧type_of% @Ze∧type_of% @Vg∧type_of% @Rm∧type_of% @U5∧type_of% @Zz∧type_of% @Uu∧type_of% @Ux∧type_of% @akr∧type_of% @alc∧type_of% @Vz∧type_of% @als∧type_of% @Ip∧type_of% @Mr∧type_of% @Option.isNone_none.{0}∧type_of% @Option.isNone_some.{0}∧type_of% @alh:=
 ⟨@Go.Vm.tq.eq_1,@Go.Vm.tw.eq_def,@Go.Vm.sb.eq_def,@Jt,@Lf,@Sn,@wq,@T9,@Nat.div_one,@W9,@Xs,@as0,@Sb,@T8,@Qr,@aw7,@H3,@Kz,@Ib,@Ft,@Wl,@Ze,@Vg,@Rm,@U5,@Zz,@Uu,@Ux,@akr,@alc,@Vz,@als,@Ip,@Mr,@Option.isNone_none.{0},@Option.isNone_some.{0},@alh⟩
theorem R2:type_of% @Qs∧type_of% @Li∧type_of% @N1∧type_of% @Si∧type_of% @Oe∧type_of% @Y6∧type_of% @ae5∧type_of% @aau∧type_of% @Mm∧type_of% @Lt∧type_of% @Mh∧type_of% @Lm∧type_of% @Jm∧type_of% @agq∧type_of% @Fb∧type_of% @List.isEmpty_cons.{0}∧type_of% @List.isEmpty_nil.{0}∧type_of% @List.flatMap_nil.{0,0}∧type_of% @Q9∧type_of% @Ru∧type_of% @Wb∧type_of% @Vj∧type_of% @and_true∧type_of% @true_and∧type_of% @Qp∧type_of% @Qq∧type_of% @aaa∧type_of% @alf∧type_of% @as5∧type_of% @and_self∧type_of% @List.size_toArray.{0}∧type_of% @Z5∧type_of% @Zj∧type_of% @ahp∧type_of% @af4∧type_of% @Zu∧type_of% @afz∧type_of% @Wn∧type_of% @ahy∧type_of% @Lv∧type_of% @aat∧type_of% @ade∧type_of% @aa7∧type_of% @Se∧type_of% @Ly:=
 ⟨@Qs,@Li,@N1,@Si,@Oe,@Y6,@ae5,@aau,@Mm,@Lt,@Mh,@Lm,@Jm,@agq,@Fb,@List.isEmpty_cons.{0},@List.isEmpty_nil.{0},@List.flatMap_nil.{0,0},@Q9,@Ru,@Wb,@Vj,@and_true,@true_and,@Qp,@Qq,@aaa,@alf,@as5,@and_self,@List.size_toArray.{0},@Z5,@Zj,@ahp,@af4,@Zu,@afz,@Wn,@ahy,@Lv,@aat,@ade,@aa7,@Se,@Ly⟩
theorem R3:type_of% @Mt∧type_of% @aaz∧type_of% @aac∧type_of% @Jc∧type_of% @aal∧type_of% @akg∧type_of% @W4∧type_of% @ad7∧type_of% @aaq∧type_of% @T7∧type_of% @agp∧type_of% @aa6∧type_of% @Zb∧type_of% @Xr∧type_of% @Xg∧type_of% @Qx∧type_of% @awz∧type_of% @agx∧type_of% @aai∧type_of% @Sf∧type_of% @N5∧type_of% @Xi∧type_of% @Vx∧type_of% @yt∧type_of% @Go.Vm.cellsIn.eq_1∧type_of% @Go.Vm.cellsIn.eq_2∧type_of% @Go.Vm.cellsIn.eq_5∧type_of% @Go.Vm.cellsIn.eq_6∧type_of% @Go.Vm.zh.eq_1∧type_of% @Go.Vm.B2.eq_1∧type_of% @Fe∧type_of% @Nm∧type_of% @Ng∧type_of% @Pm∧type_of% @D1∧type_of% @Gt∧type_of% @Hi∧type_of% @F4∧type_of% @Mf∧type_of% @Jx∧type_of% @Nb∧type_of% @D3∧type_of% @Lw∧type_of% @Oo∧type_of% @Ls:=
 ⟨@Mt,@aaz,@aac,@Jc,@aal,@akg,@W4,@ad7,@aaq,@T7,@agp,@aa6,@Zb,@Xr,@Xg,@Qx,@awz,@agx,@aai,@Sf,@N5,@Xi,@Vx,@yt,@Go.Vm.cellsIn.eq_1,@Go.Vm.cellsIn.eq_2,@Go.Vm.cellsIn.eq_5,@Go.Vm.cellsIn.eq_6,@Go.Vm.zh.eq_1,@Go.Vm.B2.eq_1,@Fe,@Nm,@Ng,@Pm,@D1,@Gt,@Hi,@F4,@Mf,@Jx,@Nb,@D3,@Lw,@Oo,@Ls⟩
theorem R4:type_of% @Hs∧type_of% @D4∧type_of% @Lq∧type_of% @L4∧type_of% @Di∧type_of% @E9∧type_of% @Pn∧type_of% @Rg∧type_of% @Je∧type_of% @Mn∧type_of% @aa8∧type_of% @Y5∧type_of% @pg∧type_of% @Wf∧type_of% @Re∧type_of% @ah0∧type_of% @wa∧type_of% @aj4∧type_of% @Uy∧type_of% @W6∧type_of% @Hl∧type_of% @aa0∧type_of% @Us∧type_of% @Go.Vm.ln.eq_1∧type_of% @List.flatten_cons.{0}∧type_of% @List.flatten_nil.{0}∧type_of% @List.replicate_succ.{0}∧type_of% @List.replicate_zero.{0}∧type_of% @aad∧type_of% @Z6∧type_of% @as1∧type_of% @akw∧type_of% @aw0∧type_of% @axj∧type_of% @axp∧type_of% @J8∧type_of% @Fa∧type_of% @J7∧type_of% @A3∧type_of% @Sk:=
 ⟨@Hs,@D4,@Lq,@L4,@Di,@E9,@Pn,@Rg,@Je,@Mn,@aa8,@Y5,@pg,@Wf,@Re,@ah0,@wa,@aj4,@Uy,@W6,@Hl,@aa0,@Us,@Go.Vm.ln.eq_1,@List.flatten_cons.{0},@List.flatten_nil.{0},@List.replicate_succ.{0},@List.replicate_zero.{0},@aad,@Z6,@as1,@akw,@aw0,@axj,@axp,@J8,@Fa,@J7,@A3,@Sk⟩
theorem R5:type_of% @Kx∧type_of% @Ih∧type_of% @Dx∧type_of% @Ba∧type_of% @Ck∧type_of% @Q0∧type_of% @aar∧type_of% @Hw∧type_of% @y9∧type_of% @L5∧type_of% @Jh∧type_of% @Ln∧type_of% @Sl∧type_of% @Sa∧type_of% @Nq∧type_of% @Gr∧type_of% @N0∧type_of% @Fl∧type_of% @Uj∧type_of% @Nl∧type_of% @Lp∧type_of% @aqk∧type_of% @asb∧type_of% @aw6∧type_of% @Sw∧type_of% @Go.IntKind.bits.eq_6∧type_of% @Nat.min_def∧type_of% @aww∧type_of% @awv∧type_of% @axs∧type_of% @axt∧type_of% @ax0∧type_of% @axc∧type_of% @axb∧type_of% @aws∧type_of% @axi∧type_of% @ax1∧type_of% @aew∧type_of% @aej∧type_of% @aA3∧type_of% @az4∧type_of% @aoy∧type_of% @Go.Vm.y7.eq_1∧type_of% @Go.Vm.sj.eq_1∧type_of% @Go.Vm.qd.eq_def:=
 ⟨@Kx,@Ih,@Dx,@Ba,@Ck,@Q0,@aar,@Hw,@y9,@L5,@Jh,@Ln,@Sl,@Sa,@Nq,@Gr,@N0,@Fl,@Uj,@Nl,@Lp,@aqk,@asb,@aw6,@Sw,@Go.IntKind.bits.eq_6,@Nat.min_def,@aww,@awv,@axs,@axt,@ax0,@axc,@axb,@aws,@axi,@ax1,@aew,@aej,@aA3,@az4,@aoy,@Go.Vm.y7.eq_1,@Go.Vm.sj.eq_1,@Go.Vm.qd.eq_def⟩
theorem R6:type_of% @Go.Vm.zg.eq_1∧type_of% @Go.Vm.v8.eq_1∧type_of% @Go.Vm.om.eq_1∧type_of% @Go.Vm.kg.eq_1∧type_of% @Go.Vm.kg.eq_2∧type_of% @Go.Vm.AV.known.eq_2∧type_of% @Go.Value.oneCell'.eq_3∧type_of% @Go.Vm.AV.cells.eq_1∧type_of% @Go.Vm.AV.cells.eq_2∧type_of% @Go.Vm.AV.cells.eq_3∧type_of% @Go.Value.cells.eq_1∧type_of% @Go.Value.cells.eq_2∧type_of% @Go.Vm.AV.one.eq_4∧type_of% @Go.Vm.AV.one.eq_5∧type_of% @Go.Vm.ky.eq_1∧type_of% @Go.Vm.ju.eq_1∧type_of% @Go.Vm.ju.eq_2∧type_of% @Go.Vm.B0.eq_1∧type_of% @Go.Vm.sk.eq_1∧type_of% @Go.Vm.s5.eq_2∧type_of% @Go.Vm.s5.eq_6∧type_of% @Go.Vm.j3.eq_1∧type_of% @Go.Vm.j3.eq_3∧type_of% @Go.Vm.j3.eq_4∧type_of% @Go.Vm.yz.eq_1∧type_of% @Go.Vm.E3.eq_1∧type_of% @Go.Vm.Nn.eq_1∧type_of% @Go.Vm.oc.eq_1∧type_of% @Go.Vm.oc.eq_2∧type_of% @Go.Vm.oc.eq_3∧type_of% @Go.Vm.oc.eq_4∧type_of% @Go.Vm.oc.eq_5∧type_of% @Go.Vm.oc.eq_6∧type_of% @Go.Vm.oc.eq_7∧type_of% @Go.Vm.oc.eq_8∧type_of% @Go.Vm.oc.eq_9∧type_of% @Go.Vm.oc.eq_10:=
 ⟨@Go.Vm.zg.eq_1,@Go.Vm.v8.eq_1,@Go.Vm.om.eq_1,@Go.Vm.kg.eq_1,@Go.Vm.kg.eq_2,@Go.Vm.AV.known.eq_2,@Go.Value.oneCell'.eq_3,@Go.Vm.AV.cells.eq_1,@Go.Vm.AV.cells.eq_2,@Go.Vm.AV.cells.eq_3,@Go.Value.cells.eq_1,@Go.Value.cells.eq_2,@Go.Vm.AV.one.eq_4,@Go.Vm.AV.one.eq_5,@Go.Vm.ky.eq_1,@Go.Vm.ju.eq_1,@Go.Vm.ju.eq_2,@Go.Vm.B0.eq_1,@Go.Vm.sk.eq_1,@Go.Vm.s5.eq_2,@Go.Vm.s5.eq_6,@Go.Vm.j3.eq_1,@Go.Vm.j3.eq_3,@Go.Vm.j3.eq_4,@Go.Vm.yz.eq_1,@Go.Vm.E3.eq_1,@Go.Vm.Nn.eq_1,@Go.Vm.oc.eq_1,@Go.Vm.oc.eq_2,@Go.Vm.oc.eq_3,@Go.Vm.oc.eq_4,@Go.Vm.oc.eq_5,@Go.Vm.oc.eq_6,@Go.Vm.oc.eq_7,@Go.Vm.oc.eq_8,@Go.Vm.oc.eq_9,@Go.Vm.oc.eq_10⟩
theorem R7:type_of% @Go.Vm.AV.int.eq_1∧type_of% @Go.Vm.AV.bool.eq_1∧type_of% @Go.Vm.AV.exact.eq_1∧type_of% @Go.Vm.AV.exact.eq_2∧type_of% @Go.Vm.intOf.eq_1∧type_of% @Go.Vm.intOf.eq_2∧type_of% @Go.Vm.ox.eq_1∧type_of% @Go.Vm.kz.eq_1∧type_of% @Go.Vm.wc.eq_1∧type_of% @Go.Vm.wc.eq_2∧type_of% @Go.Vm.yk.eq_1∧type_of% @Go.Vm.Dg.eq_1∧type_of% @Go.Vm.qa.eq_1∧type_of% @Go.Vm.pq.eq_1∧type_of% @Go.Vm.pw.eq_1∧type_of% @Go.Vm.pw.eq_3∧type_of% @Go.Vm.pw.eq_9∧type_of% @Go.Vm.Fx.eq_1∧type_of% @Go.Vm.T0.eq_1∧type_of% @Go.Vm.Ix.eq_1∧type_of% @Go.Vm.isSlice.eq_4∧type_of% @Go.Vm.E4.eq_1∧type_of% @Go.goInt.eq_1∧type_of% @apx∧type_of% @aru∧type_of% @asj∧type_of% @Go.Vm.pack.eq_1∧type_of% @Go.Vm.pack.eq_2∧type_of% @Go.Vm.ca.eq_1∧type_of% @Go.Vm.ca.eq_2∧type_of% @Go.Vm.br.eq_1∧type_of% @Go.Vm.qp.eq_1∧type_of% @Go.Vm.qp.eq_2∧type_of% @Go.Vm.vi.eq_1∧type_of% @qe∧type_of% @wh∧type_of% @aae∧type_of% @afh∧type_of% @su∧type_of% @sv∧type_of% @G1:=
 ⟨@Go.Vm.AV.int.eq_1,@Go.Vm.AV.bool.eq_1,@Go.Vm.AV.exact.eq_1,@Go.Vm.AV.exact.eq_2,@Go.Vm.intOf.eq_1,@Go.Vm.intOf.eq_2,@Go.Vm.ox.eq_1,@Go.Vm.kz.eq_1,@Go.Vm.wc.eq_1,@Go.Vm.wc.eq_2,@Go.Vm.yk.eq_1,@Go.Vm.Dg.eq_1,@Go.Vm.qa.eq_1,@Go.Vm.pq.eq_1,@Go.Vm.pw.eq_1,@Go.Vm.pw.eq_3,@Go.Vm.pw.eq_9,@Go.Vm.Fx.eq_1,@Go.Vm.T0.eq_1,@Go.Vm.Ix.eq_1,@Go.Vm.isSlice.eq_4,@Go.Vm.E4.eq_1,@Go.goInt.eq_1,@apx,@aru,@asj,@Go.Vm.pack.eq_1,@Go.Vm.pack.eq_2,@Go.Vm.ca.eq_1,@Go.Vm.ca.eq_2,@Go.Vm.br.eq_1,@Go.Vm.qp.eq_1,@Go.Vm.qp.eq_2,@Go.Vm.vi.eq_1,@qe,@wh,@aae,@afh,@su,@sv,@G1⟩
theorem R8:type_of% @Uh∧type_of% @Xp∧type_of% @Ug∧type_of% @Sq∧type_of% @Vf∧type_of% @Go.Vm.ki.eq_1∧type_of% @Go.Vm.gy.eq_1∧type_of% @Go.Vm.ir.eq_1∧type_of% @Go.Vm.o8.eq_1∧type_of% @Go.Vm.o8.eq_2∧type_of% @Go.Vm.reach.eq_2∧type_of% @Go.Vm.reach.eq_3∧type_of% @Go.Vm.ff.eq_1∧type_of% @Go.Vm.dx.eq_1∧type_of% @Go.Vm.dx.eq_2∧type_of% @Go.Vm.AV.names.eq_1∧type_of% @Go.Vm.AV.names.eq_2∧type_of% @Go.Vm.AV.names.eq_3∧type_of% @Go.Vm.AV.names.eq_4∧type_of% @Go.Vm.AV.names.eq_5∧type_of% @Go.Vm.AV.names.eq_6∧type_of% @Go.Vm.AV.names.eq_9∧type_of% @Go.Vm.AV.names.go.eq_1∧type_of% @Go.Vm.AV.names.go.eq_2∧type_of% @Go.Vm.bf.names.eq_1∧type_of% @Go.Vm.bf.names.eq_2∧type_of% @Go.Vm.AV.dg.eq_1∧type_of% @Go.Vm.AV.dg.eq_2∧type_of% @Go.Vm.AV.dg.eq_3∧type_of% @Go.Vm.AV.dg.eq_4∧type_of% @Go.Vm.AV.dg.eq_5∧type_of% @Go.Vm.AV.dg.eq_6∧type_of% @Go.Vm.AV.dg.eq_7∧type_of% @Go.Vm.AV.dg.eq_8∧type_of% @Go.Vm.AV.dg.eq_11∧type_of% @Go.Vm.bf.dg.eq_1∧type_of% @Go.Vm.bf.dg.eq_2∧type_of% @Kf∧type_of% @aln∧type_of% @Go.Vm.i4.eq_1∧type_of% @Go.Vm.i4.eq_2∧type_of% @Go.Vm.nm.eq_2∧type_of% @kc∧type_of% @Option.bind_some.{0,0}∧type_of% @Option.bind_none.{0,0}∧type_of% @Option.map_some.{0,0}∧type_of% @Option.getD_some.{0}∧type_of% @Option.getD_none.{0}∧type_of% @Option.isSome_some.{0}:=
 ⟨@Uh,@Xp,@Ug,@Sq,@Vf,@Go.Vm.ki.eq_1,@Go.Vm.gy.eq_1,@Go.Vm.ir.eq_1,@Go.Vm.o8.eq_1,@Go.Vm.o8.eq_2,@Go.Vm.reach.eq_2,@Go.Vm.reach.eq_3,@Go.Vm.ff.eq_1,@Go.Vm.dx.eq_1,@Go.Vm.dx.eq_2,@Go.Vm.AV.names.eq_1,@Go.Vm.AV.names.eq_2,@Go.Vm.AV.names.eq_3,@Go.Vm.AV.names.eq_4,@Go.Vm.AV.names.eq_5,@Go.Vm.AV.names.eq_6,@Go.Vm.AV.names.eq_9,@Go.Vm.AV.names.go.eq_1,@Go.Vm.AV.names.go.eq_2,@Go.Vm.bf.names.eq_1,@Go.Vm.bf.names.eq_2,@Go.Vm.AV.dg.eq_1,@Go.Vm.AV.dg.eq_2,@Go.Vm.AV.dg.eq_3,@Go.Vm.AV.dg.eq_4,@Go.Vm.AV.dg.eq_5,@Go.Vm.AV.dg.eq_6,@Go.Vm.AV.dg.eq_7,@Go.Vm.AV.dg.eq_8,@Go.Vm.AV.dg.eq_11,@Go.Vm.bf.dg.eq_1,@Go.Vm.bf.dg.eq_2,@Kf,@aln,@Go.Vm.i4.eq_1,@Go.Vm.i4.eq_2,@Go.Vm.nm.eq_2,@kc,@Option.bind_some.{0,0},@Option.bind_none.{0,0},@Option.map_some.{0,0},@Option.getD_some.{0},@Option.getD_none.{0},@Option.isSome_some.{0}⟩
theorem R9:type_of% @List.getElem?_cons_zero.{0}∧type_of% @List.getElem?_toArray.{0}∧type_of% @Go.Vm.cx.eq_1∧type_of% @List.drop_zero.{0}∧type_of% @List.drop_succ_cons.{0}∧type_of% @List.drop_nil.{0}∧type_of% @List.take_succ_cons.{0}∧type_of% @List.take_zero.{0}∧type_of% @List.length_cons.{0}∧type_of% @List.length_nil.{0}∧type_of% @List.length_map.{0,0}∧type_of% @List.getElem?_cons_succ.{0}∧type_of% @List.getElem?_map.{0,0}∧type_of% @List.getElem?_drop.{0}∧type_of% @List.map_cons.{0,0}∧type_of% @List.map_nil.{0,0}∧type_of% @List.nil_append.{0}∧type_of% @List.cons_append.{0}∧type_of% @List.append_nil.{0}∧type_of% @List.all_cons.{0}∧type_of% @List.all_nil.{0}∧type_of% @cond_true.{1}∧type_of% @cond_false.{1}∧type_of% @decide_true∧type_of% @decide_false∧type_of% @Bool.and_true∧type_of% @Bool.true_and∧type_of% @Bool.and_self∧type_of% @Bool.not_true∧type_of% @Bool.not_false∧type_of% @BEq.rfl.{0}∧type_of% @Nat.zero_le∧type_of% @Nat.le_refl∧type_of% @Nat.add_zero∧type_of% @Nat.zero_add∧type_of% @Nat.mul_one∧type_of% @Int.toNat_natCast∧type_of% @Int.natCast_nonneg∧type_of% @Nat.sub_self∧type_of% @List.contains_nil.{0}∧type_of% @List.contains_cons.{0}∧type_of% @Bool.or_false∧type_of% @Bool.false_or∧type_of% @Bool.or_true∧type_of% @Bool.true_or∧type_of% @List.map_map.{0,0,0}∧type_of% @agv∧type_of% @P6∧type_of% @Nc∧type_of% @Om∧type_of% @Zx∧type_of% @xu:=
 ⟨@List.getElem?_cons_zero.{0},@List.getElem?_toArray.{0},@Go.Vm.cx.eq_1,@List.drop_zero.{0},@List.drop_succ_cons.{0},@List.drop_nil.{0},@List.take_succ_cons.{0},@List.take_zero.{0},@List.length_cons.{0},@List.length_nil.{0},@List.length_map.{0,0},@List.getElem?_cons_succ.{0},@List.getElem?_map.{0,0},@List.getElem?_drop.{0},@List.map_cons.{0,0},@List.map_nil.{0,0},@List.nil_append.{0},@List.cons_append.{0},@List.append_nil.{0},@List.all_cons.{0},@List.all_nil.{0},@cond_true.{1},@cond_false.{1},@decide_true,@decide_false,@Bool.and_true,@Bool.true_and,@Bool.and_self,@Bool.not_true,@Bool.not_false,@BEq.rfl.{0},@Nat.zero_le,@Nat.le_refl,@Nat.add_zero,@Nat.zero_add,@Nat.mul_one,@Int.toNat_natCast,@Int.natCast_nonneg,@Nat.sub_self,@List.contains_nil.{0},@List.contains_cons.{0},@Bool.or_false,@Bool.false_or,@Bool.or_true,@Bool.true_or,@List.map_map.{0,0,0},@agv,@P6,@Nc,@Om,@Zx,@xu⟩
theorem R10:type_of% @Xa∧type_of% @Ss∧type_of% @Wh∧type_of% @aA5∧type_of% @az5∧type_of% @aBe∧type_of% @aC1∧type_of% @aB1∧type_of% @az3∧type_of% @aC2∧type_of% @aCx∧type_of% @afe∧type_of% @af9∧type_of% @aao∧type_of% @Un∧type_of% @adz∧type_of% @Go.Vm.AV.fresh.eq_1∧type_of% @Go.Vm.AV.fresh.eq_3∧type_of% @Go.Vm.AV.fresh.eq_4∧type_of% @Go.Vm.AV.fresh.go.eq_1∧type_of% @Go.Vm.AV.fresh.go.eq_2∧type_of% @List.map_append.{0,0}:=
 ⟨@Xa,@Ss,@Wh,@aA5,@az5,@aBe,@aC1,@aB1,@az3,@aC2,@aCx,@afe,@af9,@aao,@Un,@adz,@Go.Vm.AV.fresh.eq_1,@Go.Vm.AV.fresh.eq_3,@Go.Vm.AV.fresh.eq_4,@Go.Vm.AV.fresh.go.eq_1,@Go.Vm.AV.fresh.go.eq_2,@List.map_append.{0,0}⟩
theorem RA:type_of% R0∧type_of% R1∧type_of% R2∧type_of% R3∧type_of% R4∧type_of% R5∧type_of% R6∧type_of% R7∧type_of% R8∧type_of% R9∧type_of% R10:=
 ⟨R0,R1,R2,R3,R4,R5,R6,R7,R8,R9,R10⟩
theorem FB:type_of% @List.cons.injEq.{0}∧type_of% @Zn∧type_of% @aba∧type_of% @List.length_append.{0}∧type_of% @List.length_cons.{0}∧type_of% @List.length_nil.{0}∧type_of% @List.map_append.{0,0}∧type_of% @List.map_cons.{0,0}∧type_of% @List.map_nil.{0,0}∧type_of% @and_true∧type_of% @true_and∧type_of% @and_self∧type_of% @AV.sc.injEq∧type_of% @AV.sl.injEq∧type_of% @bf.row.injEq∧type_of% @Option.some.injEq.{0}∧type_of% @Value.int.injEq∧type_of% @Nat.zero_add:=
 ⟨@List.cons.injEq.{0},@Zn,@aba,@List.length_append.{0},@List.length_cons.{0},@List.length_nil.{0},@List.map_append.{0,0},@List.map_cons.{0,0},@List.map_nil.{0,0},@and_true,@true_and,@and_self,@AV.sc.injEq,@AV.sl.injEq,@bf.row.injEq,@Option.some.injEq.{0},@Value.int.injEq,@Nat.zero_add⟩
end Go.Vm
end
section
namespace Go.Vm
noncomputable section
open Go.ChangeShapes Go.WideShapes Go.ChangeAt
mutual
def l0 {H:Type}:DataW H→Nat
 |.lit (.string bytes)=>bytes.length+1
 |.lit _=>1
 |.nil=>1
 |.ptr d=>l0 d+1
 |.slice elems spare=>nr elems+nr spare+1
 |.agg parts=>nr parts+1
 |.iface _ d=>l0 d+1
 |.map entries=>Vc entries+1
 |.held _=>1
def nr {H:Type}:List (DataW H)→Nat
 | []=>0
 |d::r=>l0 d+nr r
def Vc {H:Type}:List (Lit × DataW H)→Nat
 | []=>0
 |x::r=>aoj x+Vc r
def aoj {H:Type}:Lit × DataW H→Nat
 |(.string bytes,d)=>bytes.length+l0 d+1
 |(_,d)=>l0 d+1
end
def af7 (W:World):Nat→Nat→Prop:=fun b _=>b<W.heap.size
def Rd (P:Program) (t:TypeId) {α:Type} (C:de α) (μ : α→Nat):Prop:=
 ∀ {H:Type} (enc:TypeId × Value→H) (W:World) (b0 fuel:Nat) (cs:List Value) (x:DataW H × List MemPlace),DataW.trod enc P W 0 (fun _=>true) true fuel t cs=some x →
  ∃ y,bq (gK b0 (af7 W)) W (C.cells false y) cs ∧ μ y≤l0 x.1
theorem aDm {P:Program} {t:TypeId} (ht:P.underlying t=some (.int .u8)):Rd P t cy (fun _=>1):=by
 intro H enc W b0 fuel cs x h
 obtain ⟨n,rfl,rfl,hw⟩:=DataW.trod_int ht h
 have hx : 0≤n∧n≤255:=by simpa [Lit.wf,IntKind.min,IntKind.max,IntKind.signed,IntKind.bits] using hw
 refine ⟨UInt8.ofNat n.toNat,?_,by simp [l0]⟩
 have:n=((UInt8.ofNat n.toNat).toNat:Int):=by rw [UInt8.toNat_ofNat'];omega
 exact bq.one (by (conv=>rhs;rw [this]);exact .sc _)
theorem aqs {P:Program} {t:TypeId} (ht:P.underlying t=some (.int .u16)):Rd P t cw (fun _=>1):=by
 intro H enc W b0 fuel cs x h
 obtain ⟨n,rfl,rfl,hw⟩:=DataW.trod_int ht h
 have hx : 0≤n∧n≤65535:=by simpa [Lit.wf,IntKind.min,IntKind.max,IntKind.signed,IntKind.bits] using hw
 refine ⟨UInt16.ofNat n.toNat,?_,by simp [l0]⟩
 have:n=((UInt16.ofNat n.toNat).toNat:Int):=by rw [UInt16.toNat_ofNat'];omega
 exact bq.one (by (conv=>rhs;rw [this]);exact .sc _)
theorem asz {P:Program} {t:TypeId} (ht:P.underlying t=some (.int .u32)):Rd P t bn (fun _=>1):=by
 intro H enc W b0 fuel cs x h
 obtain ⟨n,rfl,rfl,hw⟩:=DataW.trod_int ht h
 have hx : 0≤n∧n≤4294967295:=Go.bounds_u32 hw
 refine ⟨UInt32.ofNat n.toNat,?_,by simp [l0]⟩
 have:n=((UInt32.ofNat n.toNat).toNat:Int):=by rw [UInt32.toNat_ofNat'];omega
 exact bq.one (by (conv=>rhs;rw [this]);exact .sc _)
theorem aC3 {P:Program} {t:TypeId} (ht:P.underlying t=some .string):Rd P t aq (fun s=>s.size+1):=by
 intro H enc W b0 fuel cs x h
 obtain ⟨s,rfl,rfl,_⟩:=DataW.trod_string ht h
 refine ⟨s,bq.one (.sc _),?_⟩
 show s.size+1≤l0 (DataW.lit (Lit.string s.data.toList))
 rw [l0,Array.length_toList]
 exact Nat.le_refl _
theorem ayb (ao k s v j:Nat) (h3:v=k * s) (hge:v≤j):ao+k * s+(j - v)=ao+j:=by rw [← h3];omega
def ua {α:Type} (μ : α→Nat):List α→Nat
 | []=>0
 |x::r=>μ x+ua μ r
theorem Rq {α:Type} (μ : α→Nat):∀ a b:List α,ua μ (a++b)=ua μ a+ua μ b
 | [],b=>by simp [ua]
 |x::a,b=>by simp [ua,Rq μ a b];omega
theorem N6 {H:Type}:∀ a b:List (DataW H),nr (a++b)=nr a+nr b
 | [],b=>by simp [nr]
 |x::a,b=>by simp [nr,N6 a b];omega
theorem az1 {P:Program} {t e:TypeId} {α:Type} {C:de α} {μ : α→Nat} (ht:P.underlying t=some (.slice e)) (hsz:P.cellsOf e=C.sz) (hpos : 0<C.sz) (he:Rd P e C μ):Rd P t (cp C) (fun l=>ua μ l+1):=by
 intro H enc W b0 fuel cs x h
 rcases Go.Deep.open_slice ht h with ⟨rfl,rfl⟩|⟨a,len,cap,m,n,D,Pl,rfl,_,hl,hm,hmm,rfl,hx⟩
 ·exact ⟨[],bq.one (.kn _ _),by simp [ua,l0]⟩
 ·simp only [if_true] at hmm
  subst hmm
  have spot : 0<m→a.spot=none∧a.block<W.heap.size:=by
   intro h0
   obtain ⟨cs',h1,_⟩:=hx 0 h0
   rw [hsz] at h1
   simp only [World.cells?,Nat.zero_le,if_true] at h1
   have h2:=mapM_some_get h1 0 0 (by simp [hpos])
   have hlen:=mapM_some_length h1
   have h3:∃ v,cs'[0]? = some v:=⟨cs'[0]'(by rw [hlen];simpa using hpos),by simp⟩
   obtain ⟨v,hv⟩:=h3
   rw [hv] at h2
   simp only [Nat.zero_mul,Addr.add,if_true] at h2
   simp only [World.cell?] at h2
   split at h2
   ·rename_i c _ _ hb
    cases hs:a.spot with
    |none=>exact ⟨rfl,ct hb⟩
    |some s=>simp [hs] at h2
   ·cases h2
  have build:∀ k,k≤len→∃ (xs:List α) (vs:List Value),xs.length=k∧bq (gK b0 (af7 W)) W (xs.flatMap (C.cells false)) vs∧vs.length=k * C.sz∧(∀ j v,vs[j]? = some v→W.cell? ⟨a.block,a.off+j,none⟩=some v) ∧
   ua μ xs≤nr ((List.range k).map D):=by
   intro k
   induction k with
   |zero=>intro _;exact ⟨[],[],rfl,bq.nil _ _,by simp,(fun j v hj=>by simp at hj),by simp [ua,nr]⟩
   |succ k ih=>
    intro hk
    obtain ⟨xs,vs,h1,h2,h3,h4,h5⟩:=ih (by omega)
    obtain ⟨cs',h6,h7⟩:=hx k (by omega)
    obtain ⟨y,h8,h9⟩:=he enc W b0 n cs' _ h7
    rw [hsz] at h6
    simp only [World.cells?,Nat.zero_le,if_true] at h6
    have hlen:=mapM_some_length h6
    simp only [List.length_range] at hlen
    refine ⟨xs++[y],vs++cs',by simp [h1],?_,by simp [h3,hlen,Nat.succ_mul],fun j v hj=>?_,?_⟩
    ·rw [List.flatMap_append];exact h2.append (by simpa using h8)
    ·by_cases hj1:j<vs.length
     ·rw [List.getElem?_append_left hj1] at hj;exact h4 j v hj
     ·rw [List.getElem?_append_right (by omega)] at hj
      have hj2:=(List.getElem?_eq_some_iff.1 hj).1
      have h10:=mapM_some_get h6 (j - vs.length) (j - vs.length) (List.getElem?_range (by rw [← hlen];exact hj2))
      rw [hj] at h10
      have hs:=(spot (by omega)).1
      have e:(a.add (k * C.sz)).add (j - vs.length)=⟨a.block,a.off+j,none⟩:=by
       obtain ⟨ab,ao,azs⟩:=a
       simp only at hs
       subst hs
       rw [Addr.ou,Addr.ou]
       have hge:vs.length≤j:=Nat.le_of_not_lt hj1
       rw [ayb ao k C.sz vs.length j h3 hge]
      rw [e] at h10
      exact h10
    ·rw [Rq,List.range_succ,List.map_append,N6]
     simp only [ua,List.map_cons,List.map_nil,nr]
     have : μ y≤l0 (D k):=h9
     omega
  obtain ⟨xs,vs,h1,h2,h3,h4,h5⟩:=build len (Nat.le_refl _)
  refine ⟨xs,bq.one ?_,by
   simp only [l0]
   have:ua μ xs≤nr ((List.range len).map D):=h5
   omega⟩
  by_cases h0 : 0<m
  ·obtain ⟨hs,hb⟩:=spot h0
   obtain ⟨ab,ao,azs⟩:=a
   simp only at hs hb h4
   subst hs
   rw [← h1]
   refine al8 C h2 (by omega) (fun e=>by cases e) (fun j v hj=>⟨hb,h4 j v hj⟩)
  ·have hl0:len=0:=by omega
   have hm0:m=0:=by omega
   subst hl0 hm0
   have:xs=[]:=List.eq_nil_of_length_eq_zero h1
   subst this
   exact .uq _ _ _
def RdF (P:Program) (fs:List Field) (off:Nat) {α:Type} (C:de α) (μ : α→Nat):Prop:=
 ∀ {H:Type} (enc:TypeId × Value→H) (W:World) (b0 n:Nat) (cs:List Value) (ys:List (DataW H × List MemPlace)),ys.length=fs.length →
  (∀ (i:Nat) f,fs[i]? = some f→DataW.trod enc P W 0 (fun _=>true) true n f.type ((cs.drop f.offset).take (P.cellsOf f.type))=ys[i]?) →
  ∃ y,bq (gK b0 (af7 W)) W (C.cells false y) ((cs.drop off).take C.sz) ∧ μ y≤nr (ys.map (·.1))
theorem ayj {P:Program} {f:Field} {off:Nat} {α:Type} {C:de α} {μ : α→Nat} (ho:f.offset=off) (hs:P.cellsOf f.type=C.sz) (h:Rd P f.type C μ):RdF P [f] off C μ:=by
 intro H enc W b0 n cs ys hl hf
 match ys,hl with
 | [y0],_=>
  have:=hf 0 f rfl
  obtain ⟨y,h1,h2⟩:=h enc W b0 n _ y0 this
  rw [ho,hs] at h1
  exact ⟨y,h1,by simp [nr];exact h2⟩
theorem aum {P:Program} {f:Field} {fs:List Field} {off:Nat} {α β:Type} {A:de α} {B:de β} {μ : α→Nat} {ν : β→Nat} (ho:f.offset=off) (hs:P.cellsOf f.type=A.sz) (h:Rd P f.type A μ) (hr:RdF P fs (off+A.sz) B ν) :
 RdF P (f::fs) off (i7 A B) (fun p=>μ p.1 + ν p.2):=by
 intro H enc W b0 n cs ys hl hf
 match ys,hl with
 |y0::ys,hl=>
  have h0:=hf 0 f rfl
  obtain ⟨y,h1,h2⟩:=h enc W b0 n _ y0 h0
  obtain ⟨z,h3,h4⟩:=hr enc W b0 n cs ys (by simpa using hl) (fun i g hg=>by have:=hf (i+1) g (by simpa using hg);simpa using this)
  rw [ho,hs] at h1
  refine ⟨(y,z),?_,by simp [nr];omega⟩
  have:=h1.append h3
  rwa [show (cs.drop off).take A.sz++(cs.drop (off+A.sz)).take B.sz=(cs.drop off).take (A.sz+B.sz) from by
   rw [List.take_add,List.drop_drop]] at this
theorem asd {P:Program} {t:TypeId} {fs:Array Field} {α:Type} {C:de α} {μ : α→Nat} (ht:P.underlying t=some (.struct fs)) (hc:P.cellsOf t=C.sz) (h:RdF P fs.toList 0 C μ):Rd P t C (fun x=>μ x+1):=by
 intro H enc W b0 fuel cs x hx
 obtain ⟨xs,n,_,rfl,hl,hlen,hf⟩:=DataW.trod_struct ht hx
 obtain ⟨y,h1,h2⟩:=h enc W b0 n cs xs (by simpa using hlen) (fun i f hi=>hf i f (by simpa using hi))
 refine ⟨y,?_,by simp [l0];exact h2⟩
 rwa [List.drop_zero,List.take_of_length_le (by omega)] at h1
theorem aB0 {P:Program} {t:TypeId} {α β:Type} {C:de α} {μ : α→Nat} {f : β → α} {i : α → β} {h1:∀ y,i (f y)=y} {h2:∀ x,f (i x)=x} (h:Rd P t C μ):Rd P t (vx C f i h1 h2) (fun y=>μ (f y)):=by
 intro H enc W b0 fuel cs x hx
 obtain ⟨y,h3,h4⟩:=h enc W b0 fuel cs x hx
 exact ⟨i y,by show bq _ _ (C.cells false (f (i y))) cs;rw [h2];exact h3,by show μ (f (i y))≤_;rw [h2];exact h4⟩
def RdA (P:Program) (ts:List TypeId) {α:Type} (A:AC α) (μ : α→Nat):Prop:=
 ∀ {H:Type} (enc:TypeId × Value→H) (W:World) (b0 b1:Nat) (vs:List Value) (ds:List (DataW H)) (ps:List MemPlace),(∀ (j:Nat) t v,ts[j]? = some t→vs[j]? = some v→Value.okWide P W .any b1 t v) →
  DataW.TrodAll enc P W 0 (fun _=>true) true ts vs ds ps→∃ y,bq (gK b0 (af7 W)) W (A.E y) vs ∧ μ y≤nr ds
theorem ayk (P:Program):RdA P [] a0 (fun _=>0):=by
 intro H enc W b0 b1 vs ds ps _ h
 obtain ⟨rfl,rfl,rfl⟩:=trodAll_nil h
 exact ⟨(),bq.nil _ _,Nat.zero_le _⟩
theorem al5 {P:Program} {W:World} {b:Nat} {t:TypeId} {v:Value} (h:j5 P t=some true) (ho:Value.okWide P W .any b t v):∃ cs,v = .agg cs:=by
 unfold j5 at h
 unfold Value.okWide at ho
 cases hu:P.underlying t with
 |none=>rw [hu] at h;cases h
 |some d=>
  rw [hu] at h ho
  cases d<;>simp_all<;>exact ⟨_,ho.choose_spec.1⟩
theorem Sz {P:Program} {t:TypeId} {ts:List TypeId} {α β:Type} {C:de α} {R:AC β} {μ : α→Nat} {ν : β→Nat} (ha:j5 P t=some C.agg) (h:Rd P t C μ) (hr:RdA P ts R ν):RdA P (t::ts) (aC C R) (fun p=>μ p.1 + ν p.2):=by
 intro H enc W b0 b1 vs ds ps hok hall
 obtain ⟨v,vs1,d,ds1,p,q,rfl,rfl,rfl,h0,h1⟩:=trodAll_cons hall
 obtain ⟨fuel,hf⟩:=h0
 obtain ⟨y,h2,h3⟩:=h enc W b0 fuel _ _ hf
 obtain ⟨z,h4,h5⟩:=hr enc W b0 b1 vs1 ds1 q (fun j t v ht hv=>hok (j+1) t v (by simpa using ht) (by simpa using hv)) h1
 have h3' : μ y≤l0 d:=h3
 refine ⟨(y,z),bq.cons ?_ h4,by simp only [nr];omega⟩
 have hv:=hok 0 t v rfl rfl
 show Rel _ _ (C.val false y) v
 unfold de.val
 cases hg:C.agg with
 |true=>
  obtain ⟨cs,rfl⟩:=al5 (by rw [ha,hg]) hv
  exact .agg _ cs (by simpa [Value.cells] using h2.1) (fun i a v ha hv=>h2.2 i a v ha (by simpa [Value.cells] using hv))
 |false=>
  obtain ⟨c,h6,h7,_⟩:=C.one hg false y
  rw [cond_false,h6]
  rw [h6] at h2
  have hcs:v.cells.toList=[v]:=by
   have hl:=h2.1
   simp only [List.length_singleton] at hl
   cases v with
   |agg cs=>
    exfalso
    unfold j5 at ha
    unfold Value.okWide at hv
    cases hu:P.underlying t with
    |none=>rw [hu] at ha;cases ha
    |some d=>
     rw [hu] at ha hv
     have hcell:Cell.okWide P W .any b1 t (.agg cs):=by
      cases d<;>simp_all
     rw [hg] at ha
     unfold Cell.okWide Cell.ok at hcell
     rw [hu] at hcell
     cases d<;>simp_all
   |_=>rfl
  rw [hcs] at h2
  exact h2.head
theorem acy {W W':World} (q:Aj W W') {p:MemPlace} (h:p.block<W.heap.size):W.sameAt W' p:=by
 cases p with
 |cell b off=>exact ur (q.heap b h)
 |map b=>exact q.heap b h
theorem again {H:Type} {enc:TypeId × Value→H} {P:Program} {W W':World} {sp:Nat→Bool} (K:Kids P (· < P.types.size)) (hz:∀ t e,t<P.types.size→P.underlying t=some (.slice e)→0<P.cellsOf e) (q:Aj W W') :
 ∀ {ts:List TypeId} {vs:List Value} {ds:List (DataW H)} {ps:List MemPlace},(∀ t ∈ ts,t<P.types.size)→DataW.TrodAll enc P W 0 (fun _=>true) true ts vs ds ps→(∀ p ∈ ps,sp p.block=true)→(∀ p ∈ ps,p.block<W.heap.size) →
  DataW.TrodAll enc P W' 0 sp true ts vs ds ps
 | [],[],[],_,_,h,_,_=>h
 |t::ts,v::vs,d::ds,ps,hT,⟨p,p',h1,h2,e⟩,hs,hl=>by
  obtain ⟨n,hn⟩:=h1
  subst e
  have h3:=DataW.trod_respare (spare':=sp) K hz n t _ _ (hT t (by simp)) hn (fun x hx=>hs x (by simp only [List.mem_append];exact .inl hx))
  have h4:=DataW.trod_carry (w':=W') n t _ _ h3 (fun x hx=>acy q (hl x (by simp only [List.mem_append];exact .inl hx)))
  exact ⟨p,p',⟨n,h4⟩,again K hz q (fun t ht=>hT t (by simp [ht])) h2 (fun x hx=>hs x (by simp [hx])) (fun x hx=>hl x (by simp [hx])),rfl⟩
theorem aom {W W':World} (q:Aj W W') (may:MemPlace→Prop):W.keptBut W' may:=by
 refine ⟨q.os,q.output,fun i hi=>?_⟩
 rw [q.heap i hi]
 split
 ·rename_i c t fr c' t' fr' h1 h2
  rw [h1] at h2
  cases h2
  exact ⟨rfl,rfl,rfl,fun _ _=>rfl⟩
 ·rename_i es cl es' cl' h1 h2
  rw [h1] at h2
  cases h2
  exact .inr ⟨rfl,rfl⟩
 ·rfl
def aob (P:Program):Bool:=(List.range P.types.size).all fun t=>match P.underlying t with|some (.slice e)=>Nat.blt 0 (P.cellsOf e)|_=>true
theorem abq {P:Program} (h:aob P=true) (t e:TypeId) (ht:t<P.types.size) (hu:P.underlying t=some (.slice e)) : 0<P.cellsOf e:=by
 have:=List.all_eq_true.1 h t (List.mem_range.2 ht)
 simp only [hu] at this
 exact Nat.le_of_ble_eq_true this
def ayp (P:Program) (l:List TypeId):Bool:=l.all fun t=>Nat.blt t P.types.size
theorem aoa {P:Program} {l:List TypeId} (h:ayp P l=true):∀ t ∈ l,t<P.types.size:=fun t ht=>Nat.le_of_ble_eq_true (List.all_eq_true.1 h t ht)
theorem att {P:Program} (hlaid:laidOutB P=true) (hmaps:mapsRowed P=true) (hz:∀ t e,t<P.types.size→P.underlying t=some (.slice e)→0<P.cellsOf e) {f:Nat} {fn:Func} {s:ChangeSpec} {tb:TypeId}
 (he:mc P f=true) (hvars:s.vars=[]) (hres:fn.resultTypes = #[tb]) (htb:P.underlying tb=some .bool) (hpar:∀ t ∈ fn.params.toList,t<P.types.size)
 (hfn:∀ (H:Type) (ds:List (DataW H)),ds.length=fn.params.toList.length→s.fn H ds = { results:=[.lit (.bool true)],args:=ds }) {α:Type} {A:AC α} {μ : α→Nat} (hA:RdA P fn.params.toList A μ) {N:Option Nat}
 (hcall:∀ x,(∀ n,N=some n → μ x≤n)→be P f (A.E x) (.sc (.bool true)))
 {H:Type} (enc:TypeId × Value→H) (W:World) (base:Nat) (args:Array Value) (ds gs:List (DataW H)) (before:List MemPlace) (hval:∀ (j:Nat) t v,fn.params[j]? = some t→args[j]? = some v→Value.okWide P W .any base t v)
 (hW:DataW.Whole enc P fn.params.toList s.vars false W args.toList ds gs before) (hN:∀ n,N=some n→nr (ds++gs)≤n) :
 Calls P f args W fun e W'=>∃ v,e = .returned v∧s.post enc P fn false true false false W args v W':=by
 have hW':=hW
 obtain ⟨p,q,hA0,hV,rfl,hfz,hnd⟩:=hW
 rw [hvars] at hV
 obtain ⟨rfl,rfl⟩:=trodVars_none hV
 obtain ⟨x,hx,hμ⟩:=hA enc W W.heap.size base args.toList ds p (fun j t v ht hv=>hval j t v (by simpa using ht) (by simpa using hv)) hA0
 have hp:=hcall x (fun n hn=>Nat.le_trans hμ (by have:=hN n hn;simpa using this)) (af7 W) W args.toList (fun _ _ h=>h) hx
 have hlen:ds.length=fn.params.toList.length:=by
  have:∀ {ts:List TypeId} {vs:List Value} {ds:List (DataW H)} {ps:List MemPlace},DataW.TrodAll enc P W 0 (fun _=>true) true ts vs ds ps→ds.length=ts.length:=by
   intro ts
   induction ts with
   |nil=>intro vs ds ps h;obtain ⟨_,rfl,_⟩:=trodAll_nil h;rfl
   |cons t ts ih=>intro vs ds ps h;obtain ⟨v,vs1,d,ds1,p,q,rfl,rfl,rfl,h0,h1⟩:=trodAll_cons h;simp [ih h1]
  exact this hA0
 have hlt:∀ y ∈ p++[],y.block<W.heap.size:=fun y hy=>hW'.lt y hy
 have hspec:=hfn H ds hlen
 rcases hp with ⟨v,hv,_⟩|⟨_,hc⟩
 ·rw [vd he] at hv;cases hv
 ·refine hc.mono ?_
  rintro e W' ⟨v,rfl,hq,hr⟩
  obtain rfl:=hr.exact rfl
  refine ⟨_,rfl,ds,[],p++[],[],p,[],hW',?_,?_,?_,aom hq _,fun e=>by cases e⟩
  ·rw [List.append_nil,hspec,hres]
   exact trodAll_cons_mk (Go.RowKit.shut_bool htb _) trodAll_mk0
  ·rw [List.append_nil,hspec]
   exact again (kids_rows hlaid hmaps) hz hq hpar hA0 (fun y hy=>by have:=hlt y (by simp [hy]);simpa using this) (fun y hy=>hlt y (by simp [hy]))
  ·rw [List.append_nil,hspec,hvars]
   rfl
end
end Go.Vm
end
section
namespace Go.Vm
open Go.Proofs
theorem aq1:(Tryz.prog.underlying 3=some (.int .i64)) ∧
 (Tryz.prog.underlying 4=some (.bool)) ∧
 (Tryz.prog.underlying 5=some (.int .u8)) ∧
 (Tryz.prog.underlying 9=some (.string)) ∧
 (Tryz.prog.underlying 22=some (.slice 9)) ∧
 (Tryz.prog.underlying 23=some (.slice 9)) ∧
 (Tryz.prog.underlying 24=some (.slice 40)) ∧
 (Tryz.prog.underlying 37=some (.int .u32)) ∧
 (Tryz.prog.underlying 38=some (.slice 77)) ∧
 (Tryz.prog.underlying 46=some (.slice 26)) ∧
 (Tryz.prog.underlying 47=some (.slice 80)):=
 ⟨by kernel_rfl,by kernel_rfl,by kernel_rfl,by kernel_rfl,by kernel_rfl,by kernel_rfl,by kernel_rfl,by kernel_rfl,by kernel_rfl,by kernel_rfl,by kernel_rfl⟩
theorem aq5:(Tryz.prog.underlying 48=some (.slice 37)) ∧
 (Tryz.prog.underlying 69=some (.slice 23)) ∧
 (Tryz.prog.underlying 70=some (.slice 3)) ∧
 (Tryz.prog.underlying 75=some (.slice 5)) ∧
 (Tryz.prog.underlying 102=some (.slice 101)) ∧
 (Tryz.prog.underlying 142=some (.map 37 4)) ∧
 (Tryz.prog.underlying 249=some (.slice 75)):=
 ⟨by kernel_rfl,by kernel_rfl,by kernel_rfl,by kernel_rfl,by kernel_rfl,by kernel_rfl,by kernel_rfl⟩
theorem art:(j5 Tryz.prog 3=some false) ∧
 (j5 Tryz.prog 4=some false) ∧
 (j5 Tryz.prog 5=some false) ∧
 (j5 Tryz.prog 9=some false) ∧
 (j5 Tryz.prog 22=some false) ∧
 (j5 Tryz.prog 23=some false) ∧
 (j5 Tryz.prog 24=some false) ∧
 (j5 Tryz.prog 26=some true):=
 ⟨by kernel_rfl,by kernel_rfl,by kernel_rfl,by kernel_rfl,by kernel_rfl,by kernel_rfl,by kernel_rfl,by kernel_rfl⟩
theorem arv:(j5 Tryz.prog 28=some false) ∧
 (j5 Tryz.prog 32=some true) ∧
 (j5 Tryz.prog 33=some false) ∧
 (j5 Tryz.prog 36=some false) ∧
 (j5 Tryz.prog 37=some false) ∧
 (j5 Tryz.prog 38=some false) ∧
 (j5 Tryz.prog 40=some true) ∧
 (j5 Tryz.prog 46=some false) ∧
 (j5 Tryz.prog 47=some false) ∧
 (j5 Tryz.prog 48=some false) ∧
 (j5 Tryz.prog 50=some true) ∧
 (j5 Tryz.prog 62=some false) ∧
 (j5 Tryz.prog 64=some true) ∧
 (j5 Tryz.prog 69=some false) ∧
 (j5 Tryz.prog 70=some false) ∧
 (j5 Tryz.prog 75=some false) ∧
 (j5 Tryz.prog 77=some true):=
 ⟨by kernel_rfl,by kernel_rfl,by kernel_rfl,by kernel_rfl,by kernel_rfl,by kernel_rfl,by kernel_rfl,by kernel_rfl,by kernel_rfl,by kernel_rfl,by kernel_rfl,by kernel_rfl,by kernel_rfl,by kernel_rfl,by kernel_rfl,by kernel_rfl,by kernel_rfl⟩
theorem ar3:(j5 Tryz.prog 80=some true) ∧
 (j5 Tryz.prog 88=some false) ∧
 (j5 Tryz.prog 90=some true) ∧
 (j5 Tryz.prog 100=some true) ∧
 (j5 Tryz.prog 178=some false):=
 ⟨by kernel_rfl,by kernel_rfl,by kernel_rfl,by kernel_rfl,by kernel_rfl⟩
theorem ash:(j5 Tryz.prog 214=some true):=by kernel_rfl
theorem al1:(di Tryz.prog 3=some 1) ∧
 (di Tryz.prog 4=some 1) ∧
 (di Tryz.prog 5=some 1) ∧
 (di Tryz.prog 9=some 1) ∧
 (di Tryz.prog 22=some 1) ∧
 (di Tryz.prog 23=some 1) ∧
 (di Tryz.prog 24=some 1) ∧
 (di Tryz.prog 26=some 2):=
 ⟨by kernel_rfl,by kernel_rfl,by kernel_rfl,by kernel_rfl,by kernel_rfl,by kernel_rfl,by kernel_rfl,by kernel_rfl⟩
theorem alr:(di Tryz.prog 28=some 1) ∧
 (di Tryz.prog 32=some 5) ∧
 (di Tryz.prog 33=some 1) ∧
 (di Tryz.prog 36=some 1) ∧
 (di Tryz.prog 37=some 1) ∧
 (di Tryz.prog 38=some 1) ∧
 (di Tryz.prog 40=some 5) ∧
 (di Tryz.prog 46=some 1) ∧
 (di Tryz.prog 47=some 1) ∧
 (di Tryz.prog 48=some 1) ∧
 (di Tryz.prog 50=some 3) ∧
 (di Tryz.prog 62=some 1) ∧
 (di Tryz.prog 64=some 3) ∧
 (di Tryz.prog 69=some 1) ∧
 (di Tryz.prog 70=some 1) ∧
 (di Tryz.prog 75=some 1) ∧
 (di Tryz.prog 77=some 4):=
 ⟨by kernel_rfl,by kernel_rfl,by kernel_rfl,by kernel_rfl,by kernel_rfl,by kernel_rfl,by kernel_rfl,by kernel_rfl,by kernel_rfl,by kernel_rfl,by kernel_rfl,by kernel_rfl,by kernel_rfl,by kernel_rfl,by kernel_rfl,by kernel_rfl,by kernel_rfl⟩
theorem akp:(di Tryz.prog 80=some 2) ∧
 (di Tryz.prog 88=some 1) ∧
 (di Tryz.prog 90=some 3) ∧
 (di Tryz.prog 100=some 3) ∧
 (di Tryz.prog 121=some 5) ∧
 (di Tryz.prog 178=some 1):=
 ⟨by kernel_rfl,by kernel_rfl,by kernel_rfl,by kernel_rfl,by kernel_rfl,by kernel_rfl⟩
theorem akv:(di Tryz.prog 214=some 5):=by kernel_rfl
theorem alg:(er Tryz.prog 3=some (.int .i64 0)) ∧
 (er Tryz.prog 4=some (.bool false)) ∧
 (er Tryz.prog 5=some (.int .u8 0)) ∧
 (er Tryz.prog 23=some (.slice none 0 0)) ∧
 (er Tryz.prog 26=some (.agg #[.slice none 0 0,.slice none 0 0])):=
 ⟨by kernel_rfl,by kernel_rfl,by kernel_rfl,by kernel_rfl,by kernel_rfl⟩
theorem aj6:(er Tryz.prog 32=some (.agg #[.int .i64 0,.bool false,.slice none 0 0,.slice none 0 0,.slice none 0 0])) ∧
 (er Tryz.prog 33=some (.int .i64 0)) ∧
 (er Tryz.prog 40=some (.agg #[.slice none 0 0,.int .u16 0,.int .u16 0,.int .u32 0,.slice none 0 0])) ∧
 (er Tryz.prog 64=some (.agg #[.int .u8 0,.slice none 0 0,.slice none 0 0])) ∧
 (er Tryz.prog 69=some (.slice none 0 0)) ∧
 (er Tryz.prog 70=some (.slice none 0 0)) ∧
 (er Tryz.prog 77=some (.agg #[.slice none 0 0,.slice none 0 0,.slice none 0 0,.slice none 0 0])):=
 ⟨by kernel_rfl,by kernel_rfl,by kernel_rfl,by kernel_rfl,by kernel_rfl,by kernel_rfl,by kernel_rfl⟩
theorem akt:(er Tryz.prog 80=some (.agg #[.int .u32 0,.slice none 0 0])) ∧
 (er Tryz.prog 90=some (.agg #[.int .u8 0,.slice none 0 0,.slice none 0 0])) ∧
 (er Tryz.prog 100=some (.agg #[.slice none 0 0,.slice none 0 0,.slice none 0 0])) ∧
 (er Tryz.prog 121=some (.agg #[.slice none 0 0,.int .i64 0,.int .u8 0,.slice none 0 0,.slice none 0 0])):=
 ⟨by kernel_rfl,by kernel_rfl,by kernel_rfl,by kernel_rfl⟩
theorem akd:(er Tryz.prog 214=some (.agg #[.int .i64 0,.int .i64 0,.int .i64 0,.int .i64 0,.int .i64 0])):=by kernel_rfl
theorem asr:(Bw Tryz.prog 22=some (9,1,[.sc (.string .empty)])) ∧
 (Bw Tryz.prog 23=some (9,1,[.sc (.string .empty)])) ∧
 (Bw Tryz.prog 24=some (40,5,[.sc (.slice none 0 0),.sc (.int .u16 0),.sc (.int .u16 0),.sc (.int .u32 0),.sc (.slice none 0 0)])) ∧
 (Bw Tryz.prog 38=some (77,4,[.sc (.slice none 0 0),.sc (.slice none 0 0),.sc (.slice none 0 0),.sc (.slice none 0 0)])) ∧
 (Bw Tryz.prog 48=some (37,1,[.sc (.int .u32 0)])) ∧
 (Bw Tryz.prog 69=some (23,1,[.sc (.slice none 0 0)])) ∧
 (Bw Tryz.prog 70=some (3,1,[.sc (.int .i64 0)])) ∧
 (Bw Tryz.prog 75=some (5,1,[.sc (.int .u8 0)])) ∧
 (Bw Tryz.prog 249=some (75,1,[.sc (.slice none 0 0)])):=
 ⟨by kernel_rfl,by kernel_rfl,by kernel_rfl,by kernel_rfl,by kernel_rfl,by kernel_rfl,by kernel_rfl,by kernel_rfl,by kernel_rfl⟩
theorem ad6:(vn Tryz.prog 32=some ([.sc (.int .i64 0),.sc (.bool false),.sc (.slice none 0 0),.sc (.slice none 0 0),.sc (.slice none 0 0)],[(0,1),(1,1),(2,1),(3,1),(4,1)])) ∧
 (vn Tryz.prog 40=some ([.sc (.slice none 0 0),.sc (.int .u16 0),.sc (.int .u16 0),.sc (.int .u32 0),.sc (.slice none 0 0)],[(0,1),(1,1),(2,1),(3,1),(4,1)])) ∧
 (vn Tryz.prog 64=some ([.sc (.int .u8 0),.sc (.slice none 0 0),.sc (.slice none 0 0)],[(0,1),(1,1),(2,1)])) ∧
 (vn Tryz.prog 77=some ([.sc (.slice none 0 0),.sc (.slice none 0 0),.sc (.slice none 0 0),.sc (.slice none 0 0)],[(0,1),(1,1),(2,1),(3,1)])) ∧
 (vn Tryz.prog 90=some ([.sc (.int .u8 0),.sc (.slice none 0 0),.sc (.slice none 0 0)],[(0,1),(1,1),(2,1)])):=
 ⟨by kernel_rfl,by kernel_rfl,by kernel_rfl,by kernel_rfl,by kernel_rfl⟩
theorem agl:(vn Tryz.prog 100=some ([.sc (.slice none 0 0),.sc (.slice none 0 0),.sc (.slice none 0 0)],[(0,3)])) ∧
 (vn Tryz.prog 121=some ([.sc (.slice none 0 0),.sc (.int .i64 0),.sc (.int .u8 0),.sc (.slice none 0 0),.sc (.slice none 0 0)],[(0,1),(1,1),(2,3)])) ∧
 (vn Tryz.prog 180=some ([.sc (.slice none 0 0),.sc (.slice none 0 0),.sc (.int .i64 0)],[(0,2),(2,1)])) ∧
 (vn Tryz.prog 214=some ([.sc (.int .i64 0),.sc (.int .i64 0),.sc (.int .i64 0),.sc (.int .i64 0),.sc (.int .i64 0)],[(0,1),(1,1),(2,1),(3,1),(4,1)])):=
 ⟨by kernel_rfl,by kernel_rfl,by kernel_rfl,by kernel_rfl⟩
theorem adt:(eh Tryz.prog 26 0=some ⟨"Origin",23,0,false, "", "",0⟩) ∧
 (eh Tryz.prog 26 1=some ⟨"Sets",24,1,false, "", "",24⟩) ∧
 (eh Tryz.prog 32 0=some ⟨"Rcode",3,0,false, "", "",0⟩):=
 ⟨by kernel_rfl,by kernel_rfl,by kernel_rfl⟩
theorem agj:(eh Tryz.prog 32 1=some ⟨"AA",4,1,false, "", "",8⟩) ∧
 (eh Tryz.prog 32 2=some ⟨"Answer",24,2,false, "", "",16⟩) ∧
 (eh Tryz.prog 32 3=some ⟨"Authority",24,3,false, "", "",40⟩) ∧
 (eh Tryz.prog 32 4=some ⟨"Additional",24,4,false, "", "",64⟩) ∧
 (eh Tryz.prog 40 0=some ⟨"Owner",23,0,false, "", "",0⟩) ∧
 (eh Tryz.prog 40 1=some ⟨"Type",28,1,false, "", "",24⟩) ∧
 (eh Tryz.prog 40 2=some ⟨"Class",36,2,false, "", "",26⟩) ∧
 (eh Tryz.prog 40 3=some ⟨"TTL",37,3,false, "", "",28⟩) ∧
 (eh Tryz.prog 40 4=some ⟨"Data",38,4,false, "", "",32⟩) ∧
 (eh Tryz.prog 50 0=some ⟨"Zones",46,0,false, "", "",0⟩) ∧
 (eh Tryz.prog 50 1=some ⟨"Hosts",47,1,false, "", "",24⟩) ∧
 (eh Tryz.prog 50 2=some ⟨"Hints",48,2,false, "", "",48⟩) ∧
 (eh Tryz.prog 64 0=some ⟨"Turn",62,0,false, "", "",0⟩):=
 ⟨by kernel_rfl,by kernel_rfl,by kernel_rfl,by kernel_rfl,by kernel_rfl,by kernel_rfl,by kernel_rfl,by kernel_rfl,by kernel_rfl,by kernel_rfl,by kernel_rfl,by kernel_rfl,by kernel_rfl⟩
theorem afv:(eh Tryz.prog 64 1=some ⟨"Sets",24,1,false, "", "",8⟩) ∧
 (eh Tryz.prog 64 2=some ⟨"To",23,2,false, "", "",32⟩) ∧
 (eh Tryz.prog 77 0=some ⟨"Names",69,0,false, "", "",0⟩) ∧
 (eh Tryz.prog 77 1=some ⟨"Nums",48,1,false, "", "",24⟩) ∧
 (eh Tryz.prog 77 2=some ⟨"Texts",22,2,false, "", "",48⟩) ∧
 (eh Tryz.prog 77 3=some ⟨"Raw",75,3,false, "", "",72⟩) ∧
 (eh Tryz.prog 80 0=some ⟨"Addr",37,0,false, "", "",0⟩) ∧
 (eh Tryz.prog 80 1=some ⟨"Zones",70,1,false, "", "",8⟩) ∧
 (eh Tryz.prog 90 0=some ⟨"Kind",88,0,false, "", "",0⟩) ∧
 (eh Tryz.prog 90 1=some ⟨"Node",23,1,false, "", "",8⟩):=
 ⟨by kernel_rfl,by kernel_rfl,by kernel_rfl,by kernel_rfl,by kernel_rfl,by kernel_rfl,by kernel_rfl,by kernel_rfl,by kernel_rfl,by kernel_rfl⟩
theorem agc:(eh Tryz.prog 100 0=some ⟨"w",50,0,false, "", "nomenclator/world",0⟩) ∧
 (eh Tryz.prog 121 0=some ⟨"n",23,0,false, "", "nomenclator/lookup",0⟩) ∧
 (eh Tryz.prog 121 1=some ⟨"zone",3,1,false, "", "nomenclator/lookup",24⟩) ∧
 (eh Tryz.prog 121 2=some ⟨"step",64,2,false, "", "nomenclator/lookup",32⟩) ∧
 (eh Tryz.prog 180 0=some ⟨"z",26,0,false, "", "nomenclator/zone",0⟩) ∧
 (eh Tryz.prog 180 1=some ⟨"e",33,2,false, "", "nomenclator/zone",48⟩):=
 ⟨by kernel_rfl,by kernel_rfl,by kernel_rfl,by kernel_rfl,by kernel_rfl,by kernel_rfl⟩
theorem agw:(eh Tryz.prog 214 0=some ⟨"names",3,0,false, "", "nomenclator/rdata",0⟩) ∧
 (eh Tryz.prog 214 1=some ⟨"nums",3,1,false, "", "nomenclator/rdata",8⟩) ∧
 (eh Tryz.prog 214 2=some ⟨"size",3,2,false, "", "nomenclator/rdata",16⟩) ∧
 (eh Tryz.prog 214 3=some ⟨"texts",3,3,false, "", "nomenclator/rdata",24⟩) ∧
 (eh Tryz.prog 214 4=some ⟨"raw",3,4,false, "", "nomenclator/rdata",32⟩):=
 ⟨by kernel_rfl,by kernel_rfl,by kernel_rfl,by kernel_rfl,by kernel_rfl⟩
theorem asf:(Bc Tryz.prog 22=some (9,1,16)) ∧
 (Bc Tryz.prog 23=some (9,1,16)) ∧
 (Bc Tryz.prog 24=some (40,5,56)) ∧
 (Bc Tryz.prog 38=some (77,4,96)) ∧
 (Bc Tryz.prog 48=some (37,1,4)) ∧
 (Bc Tryz.prog 69=some (23,1,24)) ∧
 (Bc Tryz.prog 70=some (3,1,8)) ∧
 (Bc Tryz.prog 75=some (5,1,1)):=
 ⟨by kernel_rfl,by kernel_rfl,by kernel_rfl,by kernel_rfl,by kernel_rfl,by kernel_rfl,by kernel_rfl,by kernel_rfl⟩
theorem TF:type_of% aq1∧type_of% aq5∧type_of% art∧type_of% arv∧type_of% ar3∧type_of% ash∧type_of% al1∧type_of% alr∧type_of% akp∧type_of% akv∧type_of% alg∧type_of% aj6∧type_of% akt∧type_of% akd∧type_of% asr∧type_of% ad6∧type_of% agl∧type_of% adt∧type_of% agj∧type_of% afv∧type_of% agc∧type_of% agw∧type_of% asf:=
 ⟨aq1,aq5,art,arv,ar3,ash,al1,alr,akp,akv,alg,aj6,akt,akd,asr,ad6,agl,adt,agj,afv,agc,agw,asf⟩
end Go.Vm
end
section
namespace Go.Proofs.YtajammoepjpiiaaGreat
open Go.Vm
noncomputable abbrev PP:=Tryz.prog
theorem mixed:PP.follows .mixedOrders=true:=by kernel_rfl
theorem bb {T:ee} (hT:ak PP T) {f:Nat} {fn:Func} (hf:PP.funcs[f]? = some fn) (hb:fn.body.isSome=true) (he:mc PP f=true) (hs:ec fn.ntmps (fn.body.getD .skip)=true)
 {args:List AV} (hl:args.length≤fn.ntmps) {ρ:Type} (R:RC ρ) (fr:Bool) (x : ρ)
 (h:wl PP T 0 (fn.body.getD .skip) (dp PP fn.results.toList (fun r st=>R.get fr st.h r=some x)) (ca 0 args) (br [])):be PP f args (R.E fr x):=
 Yu (body:=fn.body.getD .skip) hT mixed hf (by cases hq:fn.body with|none=>rw [hq] at hb;cases hb|some b=>rfl) he hs hl R fr x h
def m6 (s:ByteArray):Int:=if s.size<1∨63<s.size then 4 else 0
theorem ab3 (s:ByteArray):wl PP [] 0 (Tryz.f50.body.getD .skip) (dp PP Tryz.f50.results.toList (fun r st=>(r1 (au .i64)).get true st.h r=some (m6 s))) (ca 0 [aq.val false s]) (br []):=by
 unfold Tryz.f50
 simp only [↓wR,RA,simprocAttr,TF]
 rw [bm]
 refine ⟨fun h=>?_,fun h=>?_⟩
 ·have h1:s.size<1:=by simp at h;omega
  simp only [↓wR,RA,simprocAttr,TF,m6,h,h1,true_or]
 ·have h1:¬ s.size<1:=by simp at h;omega
  simp only [↓wR,RA,simprocAttr,TF,h]
  rw [bm]
  refine ⟨fun h=>?_,fun h=>?_⟩
  ·have h2 : 63<s.size:=by simp at h;omega
   simp only [↓wR,RA,simprocAttr,TF,m6,h2,or_true]
  ·have h2:¬ 63<s.size:=by simp at h;omega
   simp only [↓wR,RA,simprocAttr,TF,m6,h1,h2,or_self]
noncomputable def Ik (x:ByteArray × Unit):Option AV:=some ((r1 (au .i64)).E true (m6 x.1))
set_option maxRecDepth 2000000 in
theorem Wi (x:ByteArray × Unit) (r:AV) (h:Ik x=some r):be PP 50 ((aC aq a0).E x) r:=by
 cases h
 exact bb (ak.nil PP) Tryz.func50 (by kernel_rfl) (by kernel_rfl) (by kernel_rfl) (Nat.le_of_ble_eq_true (by kernel_rfl)) (r1 (au .i64)) true (m6 x.1) (ab3 x.1)
noncomputable abbrev amy:Nat × Bool × (List AV→M AV):=(50,true,dc (aC aq a0) Ik)
def bt (n:Name):Nat:=n.foldl (fun k s=>k+(s.size+1)) 1
theorem ab4 (l:Name) (c:ByteArray):bt (l++[c])=bt l+(c.size+1):=by simp [bt]
theorem aby (n:Name) (i:Nat) (c:ByteArray) (h:n[i]? = some c):bt (n.take (i+1))=bt (n.take i)+(c.size+1):=by
 obtain ⟨hk,rfl⟩:=List.getElem?_eq_some_iff.1 h
 rw [List.take_succ_eq_append_getElem hk,ab4]
theorem D2 (l:Name):∀ k,l.foldl (fun k s=>k+(s.size+1)) k=k+l.foldl (fun k s=>k+(s.size+1)) 0:=by
 induction l with
 |nil=>intro k;simp
 |cons a l ih=>intro k;simp only [List.foldl_cons];rw [ih,ih (0+_)];omega
theorem kh (a b:Name):bt (a++b)+1=bt a+bt b:=by
 simp only [bt,List.foldl_append]
 rw [D2 b,D2 b 1];omega
theorem ph (n:Name) (i:Nat):bt (n.take i)≤bt n∧n.length<bt n:=by
 constructor
 ·have:=kh (n.take i) (n.drop i)
  rw [List.take_append_drop] at this
  have h1 : 1≤bt (n.drop i):=by simp only [bt];rw [D2];omega
  omega
 ·induction n with
  |nil=>simp [bt]
  |cons a l ih=>
   have:=kh [a] l
   simp only [List.singleton_append] at this
   have h1:bt [a]=a.size+2:=by simp [bt];omega
   simp only [List.length_cons]
   omega
theorem wrap_i64 (x:Int) (h0 : -9223372036854775808≤x) (h1:x<9223372036854775808):IntKind.i64.wrap x=x:=by
 simp [IntKind.wrap,IntKind.bits,IntKind.signed];omega
theorem aid (n:Name) (hn:bt n<17592186044416):wl PP [] 0 (Tryz.f51.body.getD .skip) (dp PP Tryz.f51.results.toList (fun r st=>(r1 (au .i64)).get true st.h r=some (bt n:Int))) (ca 0 [ar.val false n]) (br []):=by
 unfold Tryz.f51
 rw [dm]
 simp only [↓wR,RA,simprocAttr,TF]
 refine dh [3,6,7,8] (fun (x:Nat)=>[.sc (.int .i64 (bt (n.take x))),.vl false 1 (n.map (aq.val false)),.sc (.int .i64 n.length),.sc (.int .i64 x)]) (fun _=>[]) (fun x=>x≤n.length) (fun x=>n.length - x) 0 (Nat.zero_le _) ?_ ?_ ?_
 ·simp only [↓wR,RA,simprocAttr,TF]<;>rfl
 ·simp only [↓wR,RA,simprocAttr,TF]
 ·intro i hi
  have h1:=ph n i
  simp only [↓wR,RA,simprocAttr,TF]
  rw [bm]
  refine ⟨fun h=>?_,fun h=>?_⟩
  ·have h4:i<n.length:=by simp at h;omega
   obtain ⟨c,hc⟩:∃ c,n[i]? = some c:=⟨n[i],by simp [h4]⟩
   have h2:=aby n i c hc
   have h3:=(ph n (i+1)).1
   simp only [↓wR,RA,simprocAttr,TF,hc]
   refine ⟨i+1,by omega,by omega,?_⟩
   rw [h2]
   simp only [List.cons.injEq,and_true,true_and,AV.sc.injEq,Value.int.injEq]
   refine ⟨?_,?_⟩
   ·rw [wrap_i64 ((c.size:Int)+1) (by omega) (by omega),wrap_i64 _ (by omega) (by omega)];omega
   ·rw [wrap_i64 _ (by omega) (by omega)];omega
  ·have h4:i=n.length:=by simp at h;omega
   subst h4
   simp only [↓wR,RA,simprocAttr,TF,List.take_length]
noncomputable def Az (x:Name × Unit):Option AV:=if bt x.1<17592186044416 then some ((r1 (au .i64)).E true ((bt x.1:Int))) else none
set_option maxRecDepth 2000000 in
theorem Ye (x:Name × Unit) (r:AV) (h:Az x=some r):be PP 51 ((aC ar a0).E x) r:=by
 by_cases hc:bt x.1<17592186044416
 case neg=>simp only [Az,if_neg hc] at h;cases h
 simp only [Az,if_pos hc] at h
 cases h
 exact bb (ak.nil PP) Tryz.func51 (by kernel_rfl) (by kernel_rfl) (by kernel_rfl) (Nat.le_of_ble_eq_true (by kernel_rfl)) (r1 (au .i64)) true ((bt x.1:Int)) (aid x.1 hc)
noncomputable abbrev atn:Nat × Bool × (List AV→M AV):=(51,true,dc (aC ar a0) Az)
def zx (n:Name):Bool:=n.any fun s=>decide (m6 s≠0)
def cg (n:Name):Int:=if zx n then 4 else if 255<bt n then 5 else 0
theorem af2 (n:Name) (i:Nat) (c:ByteArray) (h:n[i]? = some c):zx (n.take (i+1))=(zx (n.take i) || decide (m6 c≠0)):=by
 obtain ⟨hk,rfl⟩:=List.getElem?_eq_some_iff.1 h
 rw [List.take_succ_eq_append_getElem hk]
 simp only [zx,List.any_append,List.any_cons,List.any_nil,Bool.or_false]
theorem ad8 (n:Name) (i:Nat) (c:ByteArray) (h:n[i]? = some c) (hc:m6 c≠0):zx n=true:=by
 simp only [zx,List.any_eq_true]
 exact ⟨c,List.mem_of_getElem? h,by simp [hc]⟩
theorem ae2 (s:ByteArray):m6 s=0∨m6 s=4:=by unfold m6;split<;>simp
theorem afs (n:Name) (hn:bt n<17592186044416):wl PP [amy,atn] 0 (Tryz.f17.body.getD .skip) (dp PP Tryz.f17.results.toList (fun r st=>(r1 (au .i64)).get true st.h r=some (cg n))) (ca 0 [ar.val false n]) (br []):=by
 unfold Tryz.f17
 rw [dm]
 simp only [↓wR,RA,simprocAttr,TF]
 refine dh [0,6,7,8] (fun (x:Nat)=>[.vl false 1 (n.map (aq.val false)),.vl false 1 (n.map (aq.val false)),.sc (.int .i64 n.length),.sc (.int .i64 x)]) (fun _=>[]) (fun x=>x≤n.length∧zx (n.take x)=false) (fun x=>n.length - x) 0 ⟨Nat.zero_le _,by simp [zx]⟩ ?_ ?_ ?_
 ·simp only [↓wR,RA,simprocAttr,TF]<;>rfl
 ·simp only [↓wR,RA,simprocAttr,TF]
 ·rintro i ⟨hi,hb⟩
  have h1:=ph n i
  simp only [↓wR,RA,simprocAttr,TF]
  rw [bm]
  refine ⟨fun h=>?_,fun h=>?_⟩
  ·have h4:i<n.length:=by simp at h;omega
   obtain ⟨c,hc⟩:∃ c,n[i]? = some c:=⟨n[i],by simp [h4]⟩
   simp only [↓wR,RA,simprocAttr,TF,hc,Ik]
   rw [bm]
   refine ⟨fun h=>?_,fun h=>?_⟩
   ·have h5:m6 c≠0:=by simpa using h
    have h6:m6 c=4:=(ae2 c).resolve_left h5
    simp only [↓wR,RA,simprocAttr,TF,cg,ad8 n i c hc h5,h6]
   ·have h5:m6 c=0:=by simpa using h
    simp only [↓wR,RA,simprocAttr,TF]
    refine ⟨i+1,⟨by omega,by rw [af2 n i c hc,hb];simp [h5]⟩,by omega,?_⟩
    simp only [List.cons.injEq,and_true,true_and,AV.sc.injEq,Value.int.injEq]
    rw [wrap_i64 _ (by omega) (by omega)];omega
  ·have h4:i=n.length:=by simp at h;omega
   subst h4
   rw [List.take_length] at hb
   simp only [↓wR,RA,simprocAttr,TF,Az,hn]
   rw [bm]
   refine ⟨fun h=>?_,fun h=>?_⟩
   ·have h5 : 255<bt n:=by simp at h;omega
    simp only [↓wR,RA,simprocAttr,TF,cg,hb,h5]
   ·have h5:¬ 255<bt n:=by simp at h;omega
    simp only [↓wR,RA,simprocAttr,TF,cg,hb,h5]
noncomputable def mw (x:Name × Unit):Option AV:=if bt x.1<17592186044416 then some ((r1 (au .i64)).E true (cg x.1)) else none
set_option maxRecDepth 2000000 in
theorem ld (x:Name × Unit) (r:AV) (h:mw x=some r):be PP 17 ((aC ar a0).E x) r:=by
 by_cases hc:bt x.1<17592186044416
 case neg=>simp only [mw,if_neg hc] at h;cases h
 simp only [mw,if_pos hc] at h
 cases h
 exact bb (ak.cons (ai Wi) (ak.cons (ai Ye) (ak.nil PP))) Tryz.func17 (by kernel_rfl) (by kernel_rfl) (by kernel_rfl) (Nat.le_of_ble_eq_true (by kernel_rfl)) (r1 (au .i64)) true (cg x.1) (afs x.1 hc)
noncomputable abbrev ek:Nat × Bool × (List AV→M AV):=(17,true,dc (aC ar a0) mw)
def low (c:UInt8):UInt8:=if 65≤c∧c≤90 then c+32 else c
def fold (s:ByteArray):ByteArray:=⟨(s.data.toList.map low).toArray⟩
def oo (l:List UInt8) (i:Nat):List UInt8:=(l.take i).map low++l.drop i
theorem ape (l:List UInt8) (i:Nat):(oo l i).length=l.length:=by simp [oo];omega
theorem aax (l:List UInt8) (i:Nat) (h:i<l.length):(oo l i)[i]? = l[i]? := by
 simp [oo,List.getElem?_append,Nat.min_eq_left (Nat.le_of_lt h)]
theorem Y4 (l:List UInt8) (i:Nat) (h:i<l.length):(oo l i).take i++[low l[i]]++(oo l i).drop (i+1)=oo l (i+1):=by
 have h1:((l.take i).map low).length=i:=by simp;omega
 have h2:(oo l i).take i=(l.take i).map low:=by rw [oo,List.take_append_of_le_length (by omega),List.take_of_length_le (by omega)]
 have h3:(oo l i).drop (i+1)=l.drop (i+1):=by
  rw [oo,List.drop_append,List.drop_eq_nil_of_le (by omega),h1]
  simp
 rw [h2,h3,oo,List.take_succ_eq_append_getElem h,List.map_append]
 rfl
theorem Vl (l:List UInt8) (i:Nat) (h:i<l.length) (hk:low l[i]=l[i]):oo l i=oo l (i+1):=by
 rw [← Y4 l i h,hk]
 have:(oo l i)[i]? = some l[i]:=by rw [aax l i h];simp [h]
 obtain ⟨hlt,e⟩:=List.getElem?_eq_some_iff.1 this
 rw [← e,← List.take_succ_eq_append_getElem hlt,List.take_append_drop]
set_option maxRecDepth 20000 in
theorem afg (s:ByteArray) (hs:s.size≤16777216):wl PP [] 0 (Tryz.f133.body.getD .skip) (dp PP Tryz.f133.results.toList (fun r st=>(r1 aq).get true st.h r=some (fold s))) (ca 0 [aq.val false s]) (br []):=by
 unfold Tryz.f133
 have hl:s.data.toList.length=s.size:=by simp
 simp only [↓wR,RA,simprocAttr,TF,hs]
 refine dh [3,8,9,10] (fun (x:Nat)=>[.sl 0 0 s.size 1,.sl 0 0 s.size 1,.sc (.int .i64 s.size),.sc (.int .i64 x)]) (fun x=>[some (.row ((oo s.data.toList x).map (cy.val false)) 0 1 5)]) (fun x=>x≤s.size) (fun x=>s.size - x) 0 (Nat.zero_le _) ?_ ?_ ?_
 ·simp only [↓wR,RA,simprocAttr,TF]<;>rfl
 ·simp only [↓wR,RA,simprocAttr,TF]<;>rfl
 ·intro i hi
  simp only [↓wR,RA,simprocAttr,TF]
  rw [bm]
  refine ⟨fun h=>?_,fun h=>?_⟩
  ·have h4:i<s.size:=by simp at h;omega
   have h6:i<s.data.toList.length:=by omega
   have h5:(oo s.data.toList i)[i]? = some s.data.toList[i]:=by rw [aax s.data.toList i h6];simp [h6]
   obtain ⟨c,hc⟩:∃ c,s.data.toList[i]=c:=⟨_,rfl⟩
   have hcl:=c.toNat_lt
   rw [hc] at h5
   simp only [↓wR,RA,simprocAttr,TF,h4,h5]
   rw [bm]
   refine ⟨fun h1=>?_,fun h1=>?_⟩
   ·simp only [↓wR,RA,simprocAttr,TF,h1]
    rw [bm]
    refine ⟨fun h2=>?_,fun h2=>?_⟩
    ·have h7:i+1≤s.size:=by omega
     have hlow:low c=c+32:=by
      simp at h1 h2
      have a1 : 65≤c:=by rw [UInt8.le_iff_toNat_le];simp;omega
      have a2:c≤90:=by rw [UInt8.le_iff_toNat_le];simp;omega
      simp [low,a1,a2]
     have hw:IntKind.u8.wrap (IntKind.u8.wrap ((c.toNat:Int)+97) - 65)=((low c).toNat:Int):=by
      simp at h1 h2
      rw [hlow]
      simp [IntKind.wrap,IntKind.bits,IntKind.signed,UInt8.toNat_add]
      omega
     have hst:List.map (cy.val false) (List.take i (oo s.data.toList i))++[AV.sc (Value.int IntKind.u8 ((low c).toNat:Int))]++List.map (cy.val false) (List.drop (i+1) (oo s.data.toList i))=List.map (cy.val false) (oo s.data.toList (i+1)):=by
      rw [← Y4 s.data.toList i h6,hc,List.map_append,List.map_append];rfl
     simp only [↓wR,RA,simprocAttr,TF,h4,h7,ape,hl,hw,hst]
     refine ⟨i+1,h7,by omega,?_,rfl⟩
     rw [wrap_i64 _ (by omega) (by omega)];rfl
    ·simp only [↓wR,RA,simprocAttr,TF]
     have hk:low c=c:=by
      simp at h2
      have a2:¬ c≤90:=by rw [UInt8.le_iff_toNat_le];simp;omega
      simp [low,a2]
     refine ⟨i+1,by omega,by omega,?_,?_⟩
     ·rw [wrap_i64 _ (by omega) (by omega)];rfl
     ·rw [Vl s.data.toList i h6 (by rw [hc];exact hk)]
   ·simp only [↓wR,RA,simprocAttr,TF,h1]
    have hk:low c=c:=by
     simp at h1
     have a2:¬ 65≤c:=by rw [UInt8.le_iff_toNat_le];simp;omega
     simp [low,a2]
    refine ⟨i+1,by omega,by omega,?_,?_⟩
    ·rw [wrap_i64 _ (by omega) (by omega)];rfl
    ·rw [Vl s.data.toList i h6 (by rw [hc];exact hk)]
  ·have h4:i=s.size:=by simp at h;omega
   subst h4
   have:∃ m,List.map low s.data.toList=m:=⟨_,rfl⟩
   obtain ⟨m,hm⟩:=this
   have h5:oo s.data.toList s.size=m:=by rw [oo,List.take_of_length_le (Nat.le_of_eq hl),List.drop_eq_nil_of_le (Nat.le_of_eq hl),List.append_nil,hm]
   have hlm:m.length=s.size:=by rw [← hm,List.length_map,hl]
   have h6:List.take s.size (List.map (cy.val false) m)=List.map (cy.val false) m:=List.take_of_length_le (by rw [List.length_map,hlm];exact Nat.le_refl _)
   have hf:fold s=⟨m.toArray⟩:=by rw [fold,hm]
   rw [h5,hf]
   simp only [↓wR,RA,simprocAttr,TF,hlm,h6]
noncomputable def vc (x:ByteArray × Unit):Option AV:=if x.1.size≤16777216 then some ((r1 aq).E true (fold x.1)) else none
set_option maxRecDepth 2000000 in
theorem Bq (x:ByteArray × Unit) (r:AV) (h:vc x=some r):be PP 133 ((aC aq a0).E x) r:=by
 by_cases hc:x.1.size≤16777216
 case neg=>simp only [vc,if_neg hc] at h;cases h
 simp only [vc,if_pos hc] at h
 cases h
 exact bb (ak.nil PP) Tryz.func133 (by kernel_rfl) (by kernel_rfl) (by kernel_rfl) (Nat.le_of_ble_eq_true (by kernel_rfl)) (r1 aq) true (fold x.1) (afg x.1 hc)
noncomputable abbrev Mp:Nat × Bool × (List AV→M AV):=(133,true,dc (aC aq a0) vc)
theorem aex (a b:ByteArray) (ha:a.size≤16777216) (hb:b.size≤16777216):wl PP [Mp] 0 (Tryz.f91.body.getD .skip) (dp PP Tryz.f91.results.toList (fun r st=>(r1 bp).get true st.h r=some (decide (fold a=fold b)))) (ca 0 [aq.val false a,aq.val false b]) (br []):=by
 unfold Tryz.f91
 simp only [↓wR,RA,simprocAttr,TF,vc,ha,hb]
noncomputable def Aa (x:ByteArray × ByteArray × Unit):Option AV:=if x.1.size≤16777216∧x.2.1.size≤16777216 then some ((r1 bp).E true (decide (fold x.1=fold x.2.1))) else none
set_option maxRecDepth 2000000 in
theorem Xv (x:ByteArray × ByteArray × Unit) (r:AV) (h:Aa x=some r):be PP 91 ((aC aq (aC aq a0)).E x) r:=by
 by_cases hc:x.1.size≤16777216∧x.2.1.size≤16777216
 case neg=>simp only [Aa,if_neg hc] at h;cases h
 simp only [Aa,if_pos hc] at h
 cases h
 exact bb (ak.cons (ai Bq) (ak.nil PP)) Tryz.func91 (by kernel_rfl) (by kernel_rfl) (by kernel_rfl) (Nat.le_of_ble_eq_true (by kernel_rfl)) (r1 bp) true (decide (fold x.1=fold x.2.1)) (aex x.1 x.2.1 hc.1 hc.2)
noncomputable abbrev aqy:Nat × Bool × (List AV→M AV):=(91,true,dc (aC aq (aC aq a0)) Aa)
def k9:List ByteArray→List ByteArray→Nat
 |a::r,b::q=>if fold a=fold b then k9 r q+1 else 0
 |_,_=>0
theorem ajq (l:List ByteArray):k9 l []=0:=by cases l<;>rfl
def common (a b:Name):Nat:=k9 a.reverse b.reverse
theorem aea {l:List ByteArray} {x:Nat} {c:ByteArray} (h:x<l.length) (hc:l[l.length - 1 - x]? = some c):l.reverse.drop x=c::l.reverse.drop (x+1):=by
 have h1:l.reverse[x]? = some c:=by rw [List.getElem?_reverse h];exact hc
 obtain ⟨h2,h3⟩:=List.getElem?_eq_some_iff.1 h1
 rw [← h3];exact List.drop_eq_getElem_cons h2
set_option maxRecDepth 20000 in
theorem abz (a b:Name) (ha:∀ s ∈ a,s.size≤16777216) (hb:∀ s ∈ b,s.size≤16777216) (hla:a.length<17592186044416) (hlb:b.length<17592186044416):wl PP [aqy] 0 (Tryz.f53.body.getD .skip) (dp PP Tryz.f53.results.toList (fun r st=>(r1 (au .i64)).get true st.h r=some (common a b:Int))) (ca 0 [ar.val false a,ar.val false b]) (br []):=by
 unfold Tryz.f53
 simp only [dm]
 simp only [↓wR,RA,simprocAttr,TF]
 refine bo (T:=[]) (ak.nil PP) mixed Tryz.func90 rfl (by kernel_rfl) (by kernel_rfl) (by kernel_rfl) (by kernel_rfl) ?_;unfold Tryz.f90
 simp only [↓wR,RA,simprocAttr,TF]
 refine ⟨[2,3,4,5,10],?_⟩
 have hib:sy PP 132=some (Tryz.f132.ntmps,Tryz.f132.body.getD .skip):=by kernel_rfl
 simp only [↓wR,RA,simprocAttr,TF,hib]
 refine ⟨by kernel_rfl,fun l=>?_⟩
 unfold Tryz.f132
 simp only [↓wR,RA,simprocAttr,TF]
 refine Hd [0,1,3] (fun (x:Nat)=>[.sc (.func (.yield l) #[] #[]),.ptr 4 0,.sc (.int .i64 ((a.length:Int) - 1 - x))]) (fun x=>[some (.row [.vl false 1 (a.map (aq.val false))] 0 2 23),some (.row [.vl false 1 (b.map (aq.val false))] 0 2 23),some (.row [.sc (.int .i64 0)] 0 2 3),some (.row [.sc (.int .i64 x)] 0 2 3),some (.row [.vl false 1 (a.map (aq.val false))] 0 2 23)]) (fun x=>x≤a.length∧common a b=x+k9 (a.reverse.drop x) (b.reverse.drop x)) (fun x=>a.length - x) 0 ⟨Nat.zero_le _,by simp [common]⟩ ?_ ?_ ?_
 ·simp only [↓wR,RA,simprocAttr,TF];simp;rw [wrap_i64 _ (by omega) (by omega)]
 ·simp only [↓wR,RA,simprocAttr,TF]<;>rfl
 rintro x ⟨hx,hR⟩
 simp only [↓wR,RA,simprocAttr,TF]
 rw [tv];refine ⟨fun h=>?_,fun h=>?_⟩
 ·have hx':x<a.length:=by simp at h;omega
  obtain ⟨c,hc⟩:∃ c,a[a.length - 1 - x]? = some c:=⟨_,List.getElem?_eq_getElem (by omega)⟩
  have e:((a.length:Int) - 1 - x).toNat=a.length - 1 - x:=by omega
  have e2:(0:Int)≤(a.length:Int) - 1 - x:=by omega
  simp only [↓wR,RA,simprocAttr,TF,e,hc,e2]
  refine jq [0,1,3,12,16] ?_
  simp only [↓wR,RA,simprocAttr,TF,j9,gi,hc]
  simp (disch:=omega) only [ah,b9,bu,bw,bz]
  rw [bm];refine ⟨fun h1=>?_,fun h1=>?_⟩
  ·have hb0:b.length≤x:=by simp at h1;omega
   have hb1:b.reverse.drop x=[]:=List.drop_eq_nil_of_le (by simpa using hb0)
   rw [hb1,ajq] at hR
   simp only [↓wR,RA,simprocAttr,TF,h1]
   rw [hR,Nat.add_zero]
  ·have hb0:x<b.length:=by simp at h1;omega
   obtain ⟨d,hd⟩:∃ d,b[b.length - 1 - x]? = some d:=⟨_,List.getElem?_eq_getElem (by omega)⟩
   have e4:((b.length:Int) - ((a.length:Int) - ((a.length:Int) - 1 - x))).toNat=b.length - 1 - x:=by omega
   have e5:(0:Int)≤(b.length:Int) - ((a.length:Int) - ((a.length:Int) - 1 - x)):=by omega
   simp only [↓wR,RA,simprocAttr,TF,h1,hd,e4,e5,Aa,ha c (List.mem_of_getElem? hc),hb d (List.mem_of_getElem? hd)]
   rw [aea hx' hc,aea hb0 hd,k9] at hR
   rw [bm];refine ⟨fun h2=>?_,fun h2=>?_⟩
   ·have h3:¬ fold c=fold d:=by simpa using h2
    rw [if_neg h3] at hR
    simp only [↓wR,RA,simprocAttr,TF,h2]
    rw [hR,Nat.add_zero]
   ·have h3:fold c=fold d:=by simpa using h2
    rw [if_pos h3] at hR
    simp only [↓wR,RA,simprocAttr,TF,h2]
    refine ⟨x+1,⟨by omega,by omega⟩,by omega,?_,?_⟩
    ·simp only [List.cons.injEq,and_true,true_and,AV.sc.injEq,Value.int.injEq]
     simp (disch:=omega) only [ah,b9,bu,bw,bz]
     omega
    ·simp (disch:=omega) only [ah,b9,bu,bw,bz]
     rfl
 ·have h4:x=a.length:=by simp at h;omega
  have h5:a.reverse.drop x=[]:=List.drop_eq_nil_of_le (by simp;omega)
  rw [h5,k9] at hR
  simp only [↓wR,RA,simprocAttr,TF,h]
  rw [hR,Nat.add_zero]
  all_goals simp
theorem aiw (args:List AV):Cw PP 204 args (Cx.fk args):=
 Cx.i6 (fn:=(PP.funcs[204]?).getD default) (by kernel_rfl) (by kernel_rfl) (by kernel_rfl) (by kernel_rfl) (by kernel_rfl) args
noncomputable abbrev apy:Nat × Bool × (List AV→M AV):=(204,true,Cx.fk)
theorem aqh:ak PP [apy]:=ak.cons aiw (ak.nil PP)
noncomputable def M0 (a b:ByteArray):Int:=Lib.compareBytes a.data.toList b.data.toList
theorem Qm (a b:ByteArray):wl PP [] 0 (Tryz.f197.body.getD .skip) (dp PP Tryz.f197.results.toList (fun r st=>(r1 (au .i64)).get true st.h r=some (M0 a b))) (ca 0 [aq.val false a,aq.val false b]) (br []):=by
 unfold Tryz.f197
 simp only [↓wR,RA,simprocAttr,TF]
 refine bo (T:=[apy]) aqh mixed Tryz.func201 rfl (by kernel_rfl) (by kernel_rfl) (by kernel_rfl) (by kernel_rfl) ?_;unfold Tryz.f201
 simp only [↓wR,RA,simprocAttr,TF,M0]
noncomputable def Ay (x:ByteArray × ByteArray × Unit):Option AV:=some ((r1 (au .i64)).E true (M0 x.1 x.2.1))
set_option maxRecDepth 2000000 in
theorem L9 (x:ByteArray × ByteArray × Unit) (r:AV) (h:Ay x=some r):be PP 197 ((aC aq (aC aq a0)).E x) r:=by
 cases h
 exact bb (ak.nil PP) Tryz.func197 (by kernel_rfl) (by kernel_rfl) (by kernel_rfl) (Nat.le_of_ble_eq_true (by kernel_rfl)) (r1 (au .i64)) true (M0 x.1 x.2.1) (Qm x.1 x.2.1)
noncomputable abbrev X9:Nat × Bool × (List AV→M AV):=(197,true,dc (aC aq (aC aq a0)) Ay)
theorem Ua (a b:ByteArray) (ha:a.size≤16777216) (hb:b.size≤16777216):wl PP [Mp,X9] 0 (Tryz.f187.body.getD .skip) (dp PP Tryz.f187.results.toList (fun r st=>(r1 (au .i64)).get true st.h r=some (M0 (fold a) (fold b)))) (ca 0 [aq.val false a,aq.val false b]) (br []):=by
 unfold Tryz.f187
 simp only [↓wR,RA,simprocAttr,TF,vc,Ay,ha,hb]
noncomputable def v5 (x:ByteArray × ByteArray × Unit):Option AV:=if x.1.size≤16777216∧x.2.1.size≤16777216 then some ((r1 (au .i64)).E true (M0 (fold x.1) (fold x.2.1))) else none
set_option maxRecDepth 2000000 in
theorem Qo (x:ByteArray × ByteArray × Unit) (r:AV) (h:v5 x=some r):be PP 187 ((aC aq (aC aq a0)).E x) r:=by
 by_cases hc:x.1.size≤16777216∧x.2.1.size≤16777216
 case neg=>simp only [v5,if_neg hc] at h;cases h
 simp only [v5,if_pos hc] at h
 cases h
 exact bb (ak.cons (ai Bq) (ak.cons (ai L9) (ak.nil PP))) Tryz.func187 (by kernel_rfl) (by kernel_rfl) (by kernel_rfl) (Nat.le_of_ble_eq_true (by kernel_rfl)) (r1 (au .i64)) true (M0 (fold x.1) (fold x.2.1)) (Ua x.1 x.2.1 hc.1 hc.2)
noncomputable abbrev adh:Nat × Bool × (List AV→M AV):=(187,true,dc (aC aq (aC aq a0)) v5)
def g8 (n:Name):List ByteArray:=n.map fold
def bc (n:Name):Prop:=bt n≤16777216
instance (n:Name):Decidable (bc n):=inferInstanceAs (Decidable (_≤_))
theorem ahe {n:Name} {s:ByteArray} (h:s ∈ n):s.size<bt n:=by
 obtain ⟨a,b,rfl⟩:=List.append_of_mem h
 have h1:=kh a ([s]++b)
 have h2:=kh [s] b
 have h3:bt [s]=s.size+2:=by simp [bt];omega
 have h4:∀ l:Name,1≤bt l:=fun l=>by have:=(ph l 0).2;omega
 have:=h4 a;have:=h4 b
 simp only [List.singleton_append] at h1 h2
 omega
theorem bc.label {n:Name} (h:bc n):∀ s ∈ n,s.size≤16777216:=fun s hs=>by have:=ahe hs;unfold bc at h;omega
theorem bc.len {n:Name} (h:bc n):n.length<17592186044416:=by have:=(ph n 0).2;unfold bc at h;omega
theorem Xn:∀ r q:List ByteArray,k9 r q≤q.length
 | [],q=>by simp [k9]
 |a::r,[]=>by simp [k9]
 |a::r,b::q=>by
  have:=Xn r q
  simp only [k9,List.length_cons]
  split<;>omega
theorem Mx:∀ r q:List ByteArray,k9 r q≤r.length
 | [],q=>by simp [k9]
 |a::r,[]=>by simp [k9]
 |a::r,b::q=>by
  have:=Mx r q
  simp only [k9,List.length_cons]
  split<;>omega
theorem Rb:∀ r q:List ByteArray,k9 r q=q.length↔q.map fold <+: r.map fold
 | [],[]=>by simp [k9]
 |a::r,[]=>by simp [k9]
 | [],b::q=>by simp [k9]
 |a::r,b::q=>by
  have:=Rb r q
  simp only [k9,List.length_cons,List.map_cons,List.cons_prefix_cons]
  by_cases h:fold a=fold b
  ·rw [if_pos h]
   constructor
   ·intro h1;exact ⟨h.symm,this.1 (by omega)⟩
   ·intro h1;have:=this.2 h1.2;omega
  ·rw [if_neg h]
   constructor
   ·intro h1;omega
   ·intro h1;exact (h h1.1.symm).elim
theorem F6 (n top:Name):common n top=top.length↔g8 top <:+ g8 n:=by
 unfold common g8
 rw [← List.length_reverse,Rb,List.map_reverse,List.map_reverse,List.reverse_prefix]
theorem Rz (a b:Name):(a.length=b.length∧common a b=a.length)↔g8 a=g8 b:=by
 constructor
 ·rintro ⟨h1,h2⟩
  rw [h1] at h2
  have:=(F6 a b).1 h2
  exact (this.eq_of_length (by simp [g8,h1])).symm
 ·intro h
  have hl:a.length=b.length:=by have:=congrArg List.length h;simpa [g8] using this
  refine ⟨hl,?_⟩
  rw [hl]
  exact (F6 a b).2 (by rw [h];exact List.suffix_refl _)
def ef (a b:Name):Bool:=decide (g8 a=g8 b)
def dj (n top:Name):Bool:=decide (g8 top <:+ g8 n)
noncomputable def qz (x:Name × Name × Unit):Option AV:=if bc x.1∧bc x.2.1 then some ((r1 (au .i64)).E true ((common x.1 x.2.1:Int))) else none
set_option maxRecDepth 2000000 in
theorem z9 (x:Name × Name × Unit) (r:AV) (h:qz x=some r):be PP 53 ((aC ar (aC ar a0)).E x) r:=by
 by_cases hc:bc x.1∧bc x.2.1
 case neg=>simp only [qz,if_neg hc] at h;cases h
 simp only [qz,if_pos hc] at h
 cases h
 exact bb (ak.cons (ai Xv) (ak.nil PP)) Tryz.func53 (by kernel_rfl) (by kernel_rfl) (by kernel_rfl) (Nat.le_of_ble_eq_true (by kernel_rfl)) (r1 (au .i64)) true ((common x.1 x.2.1:Int)) (abz x.1 x.2.1 hc.1.label hc.2.label hc.1.len hc.2.len)
noncomputable abbrev J2:Nat × Bool × (List AV→M AV):=(53,true,dc (aC ar (aC ar a0)) qz)
theorem ahg (n top:Name) (hn:bc n) (ht:bc top):wl PP [J2] 0 (Tryz.f19.body.getD .skip) (dp PP Tryz.f19.results.toList (fun r st=>(r1 bp).get true st.h r=some (dj n top))) (ca 0 [ar.val false n,ar.val false top]) (br []):=by
 unfold Tryz.f19
 simp only [dm]
 simp only [↓wR,RA,simprocAttr,TF,qz,hn,ht]
 congr 1
 unfold dj
 have:=F6 n top
 rw [Bool.eq_iff_iff];simp [← this];omega
noncomputable def mo (x:Name × Name × Unit):Option AV:=if bc x.1∧bc x.2.1 then some ((r1 bp).E true (dj x.1 x.2.1)) else none
set_option maxRecDepth 2000000 in
theorem nh (x:Name × Name × Unit) (r:AV) (h:mo x=some r):be PP 19 ((aC ar (aC ar a0)).E x) r:=by
 by_cases hc:bc x.1∧bc x.2.1
 case neg=>simp only [mo,if_neg hc] at h;cases h
 simp only [mo,if_pos hc] at h
 cases h
 exact bb (ak.cons (ai z9) (ak.nil PP)) Tryz.func19 (by kernel_rfl) (by kernel_rfl) (by kernel_rfl) (Nat.le_of_ble_eq_true (by kernel_rfl)) (r1 bp) true (dj x.1 x.2.1) (ahg x.1 x.2.1 hc.1 hc.2)
noncomputable abbrev ug:Nat × Bool × (List AV→M AV):=(19,true,dc (aC ar (aC ar a0)) mo)
theorem ai4 (n top:Name) (hn:bc n) (ht:bc top):wl PP [J2] 0 (Tryz.f24.body.getD .skip) (dp PP Tryz.f24.results.toList (fun r st=>(r1 bp).get true st.h r=some (ef n top))) (ca 0 [ar.val false n,ar.val false top]) (br []):=by
 unfold Tryz.f24
 simp only [dm]
 simp only [↓wR,RA,simprocAttr,TF,qz,hn,ht]
 rw [bm];refine ⟨fun h=>?_,fun h=>?_⟩
 ·have hl:n.length=top.length:=by simp at h;omega
  simp only [↓wR,RA,simprocAttr,TF,h,qz,hn,ht]
  congr 1
  unfold ef
  have:=Rz n top
  rw [Bool.eq_iff_iff];simp [← this,hl];omega
 ·have hl:¬ n.length=top.length:=by simp at h;omega
  simp only [↓wR,RA,simprocAttr,TF,h]
  have:=Rz n top
  simp [ef,← this,hl]
noncomputable def fm (x:Name × Name × Unit):Option AV:=if bc x.1∧bc x.2.1 then some ((r1 bp).E true (ef x.1 x.2.1)) else none
set_option maxRecDepth 2000000 in
theorem fg (x:Name × Name × Unit) (r:AV) (h:fm x=some r):be PP 24 ((aC ar (aC ar a0)).E x) r:=by
 by_cases hc:bc x.1∧bc x.2.1
 case neg=>simp only [fm,if_neg hc] at h;cases h
 simp only [fm,if_pos hc] at h
 cases h
 exact bb (ak.cons (ai z9) (ak.nil PP)) Tryz.func24 (by kernel_rfl) (by kernel_rfl) (by kernel_rfl) (Nat.le_of_ble_eq_true (by kernel_rfl)) (r1 bp) true (ef x.1 x.2.1) (ai4 x.1 x.2.1 hc.1 hc.2)
noncomputable abbrev dv:Nat × Bool × (List AV→M AV):=(24,true,dc (aC ar (aC ar a0)) fm)
noncomputable def axk (a b:Name) (k:Nat):Int:=
 match a[a.length - 1 - k]?,b[b.length - 1 - k]? with
 |some x,some y=>M0 (fold x) (fold y)
 |_,_=>0
noncomputable def ahf (a b:Name):Int:=
 if common a b=a.length∧common a b=b.length then 0 else if common a b=a.length then -1 else if common a b=b.length then 1 else axk a b (common a b)
theorem Yh (a b:Name) (ha:bc a) (hb:bc b):wl PP [J2,adh] 0 (Tryz.f169.body.getD .skip) (dp PP Tryz.f169.results.toList (fun r st=>(r1 (au .i64)).get true st.h r=some (ahf a b))) (ca 0 [ar.val false a,ar.val false b]) (br []):=by
 unfold Tryz.f169
 simp only [dm]
 simp only [↓wR,RA,simprocAttr,TF,qz,ha,hb]
 have h1:=Mx a.reverse b.reverse
 have h2:=Xn a.reverse b.reverse
 rw [List.length_reverse] at h1 h2
 change common a b≤a.length at h1
 change common a b≤b.length at h2
 obtain ⟨k,hk⟩:∃ k,common a b=k:=⟨_,rfl⟩
 rw [hk] at h1 h2
 unfold ahf
 rw [hk]
 rw [bm];refine ⟨fun h=>?_,fun h=>?_⟩
 ·simp only [↓wR,RA,simprocAttr,TF,h]
  have hka:k=a.length:=by simp at h;omega
  rw [bm];refine ⟨fun h3=>?_,fun h3=>?_⟩
  ·have hkb:k=b.length:=by simp at h3;omega
   simp only [↓wR,RA,simprocAttr,TF,h3]
   rw [if_pos ⟨hka,hkb⟩]
  ·have hkb:¬ k=b.length:=by simp at h3;omega
   simp only [↓wR,RA,simprocAttr,TF,h3,h]
   rw [if_neg (fun e=>hkb e.2),if_pos hka]
 ·simp only [↓wR,RA,simprocAttr,TF,h]
  have hka:¬ k=a.length:=by simp at h;omega
  rw [bm];refine ⟨fun h3=>?_,fun h3=>?_⟩
  ·have hkb:k=b.length:=by simp at h3;omega
   simp only [↓wR,RA,simprocAttr,TF,h3]
   rw [if_neg (fun e=>hka e.1),if_neg hka,if_pos hkb]
  ·have hkb:¬ k=b.length:=by simp at h3;omega
   rw [if_neg (fun e=>hka e.1),if_neg hka,if_neg hkb]
   obtain ⟨x,hx⟩:∃ x,a[a.length - 1 - k]? = some x:=⟨_,List.getElem?_eq_getElem (by omega)⟩
   obtain ⟨y,hy⟩:∃ y,b[b.length - 1 - k]? = some y:=⟨_,List.getElem?_eq_getElem (by omega)⟩
   simp only [↓wR,RA,simprocAttr,TF,h3]
   refine ⟨by kernel_rfl,.inl ?_⟩
   have la:=ha.len
   have lb:=hb.len
   simp (disch:=omega) only [ah,b9,bu,bw,bz]
   have e1:(((a.length:Int) - 1) - k).toNat=a.length - 1 - k:=by omega
   have e2:(0:Int)≤((a.length:Int) - 1) - k:=by omega
   have e3:(((b.length:Int) - 1) - k).toNat=b.length - 1 - k:=by omega
   have e4:(0:Int)≤((b.length:Int) - 1) - k:=by omega
   simp only [↓wR,RA,simprocAttr,TF,hx,e1,e2]
   simp (disch:=omega) only [ah,b9,bu,bw,bz]
   simp only [↓wR,RA,simprocAttr,TF,hy,e3,e4,v5,ha.label x (List.mem_of_getElem? hx),hb.label y (List.mem_of_getElem? hy)]
   exact ⟨by kernel_rfl,by simp [axk,hx,hy]⟩
noncomputable def xn (x:Name × Name × Unit):Option AV:=if bc x.1∧bc x.2.1 then some ((r1 (au .i64)).E true (ahf x.1 x.2.1)) else none
set_option maxRecDepth 2000000 in
theorem Tv (x:Name × Name × Unit) (r:AV) (h:xn x=some r):be PP 169 ((aC ar (aC ar a0)).E x) r:=by
 by_cases hc:bc x.1∧bc x.2.1
 case neg=>simp only [xn,if_neg hc] at h;cases h
 simp only [xn,if_pos hc] at h
 cases h
 exact bb (ak.cons (ai z9) (ak.cons (ai Qo) (ak.nil PP))) Tryz.func169 (by kernel_rfl) (by kernel_rfl) (by kernel_rfl) (Nat.le_of_ble_eq_true (by kernel_rfl)) (r1 (au .i64)) true (ahf x.1 x.2.1) (Yh x.1 x.2.1 hc.1 hc.2)
noncomputable abbrev ail:Nat × Bool × (List AV→M AV):=(169,true,dc (aC ar (aC ar a0)) xn)
theorem bc.lt {n:Name} (h:bc n):n.length<16777216:=by have:=(ph n 0).2;unfold bc at h;omega
theorem ai9 (n:Name) (hn:bc n):wl PP [] 0 (Tryz.f65.body.getD .skip) (dp PP Tryz.f65.results.toList (fun r st=>(r1 ar).get true st.h r=some n)) (ca 0 [ar.val false n]) (br []):=by
 unfold Tryz.f65
 simp only [dm]
 have hlim:n.length * 16≤140737488355328:=by have:=hn.lt;omega
 simp only [↓wR,RA,simprocAttr,TF,hlim]
noncomputable def gu (x:Name × Unit):Option AV:=if bc x.1 then some ((r1 ar).E true (x.1)) else none
set_option maxRecDepth 2000000 in
theorem j8 (x:Name × Unit) (r:AV) (h:gu x=some r):be PP 65 ((aC ar a0).E x) r:=by
 by_cases hc:bc x.1
 case neg=>simp only [gu,if_neg hc] at h;cases h
 simp only [gu,if_pos hc] at h
 cases h
 exact bb (ak.nil PP) Tryz.func65 (by kernel_rfl) (by kernel_rfl) (by kernel_rfl) (Nat.le_of_ble_eq_true (by kernel_rfl)) (r1 ar) true (x.1) (ai9 x.1 hc)
noncomputable abbrev o9:Nat × Bool × (List AV→M AV):=(65,true,dc (aC ar a0) gu)
theorem au5 {n:Name} {i:Nat} {c:ByteArray} (hc:n[i]? = some c):g8 (n.drop i)=fold c::g8 (n.drop (i+1)):=by rw [Jr hc];rfl
theorem aib (n:Name) (hn:bc n):wl PP [Mp] 0 (Tryz.f162.body.getD .skip) (dp PP Tryz.f162.results.toList (fun r st=>(r1 ar).get true st.h r=some (g8 n))) (ca 0 [ar.val false n]) (br []):=by
 unfold Tryz.f162
 simp only [dm]
 have hln:=hn.lt
 simp only [↓wR,RA,simprocAttr,TF]
 refine ma [6,7,8,3] (fun (x:List ByteArray)=>[.vl false 1 (n.map (aq.val false)),.sc (.int .i64 n.length),.sc (.int .i64 x.length),.sl 0 0 x.length 1]) (fun x=>[some (.row (x.map (aq.val false)) 0 0 9)]) (fun x=>x++g8 (n.drop x.length)=g8 n∧x.length≤n.length) (fun x=>n.length - x.length) [] ⟨rfl,Nat.zero_le _⟩ (by simp only [↓wR,RA,simprocAttr,TF];(refine me.lax [] (by first|exact Nat.le_of_ble_eq_true rfl|(simp [cx];omega)) ?_ ?_<;>repeat' first|exact iu.nil|exact dq.nil|exact jk.same _|exact jk.nil _ _ _|exact jk.wu _ _|exact dq.refl _ _|apply iu.cons|apply dq.ghost|apply dq.same|apply dq.row)) ?_
 rintro x ⟨hR,hx⟩
 simp only [↓wR,RA,simprocAttr,TF]
 rw [bm];refine ⟨fun h=>?_,fun h=>?_⟩
 ·obtain ⟨c,hc,hd,hlt⟩:=dw h
  have hlim:(x.length+1) * 16≤140737488355328:=by omega
  simp only [↓wR,RA,simprocAttr,TF,hc,vc,hn.label c (List.mem_of_getElem? hc),hlim]
  refine ⟨x++[fold c],⟨?_,by simp;omega⟩,by simp;omega,by (first|rfl|trivial|omega|((try (simp (disch:=omega) only [ah]));(try (simp only [FB]));first|done|rfl|omega)),by (first|rfl|trivial|omega|((try (simp (disch:=omega) only [ah]));(try (simp only [FB]));first|done|rfl|omega))⟩
  rw [← hR,au5 hc];simp
 ·rw [dz h] at hR
  simp only [↓wR,RA,simprocAttr,TF,h]
  simpa [g8] using hR
noncomputable def C8 (x:Name × Unit):Option AV:=if bc x.1 then some ((r1 ar).E true (g8 x.1)) else none
set_option maxRecDepth 2000000 in
theorem abr (x:Name × Unit) (r:AV) (h:C8 x=some r):be PP 162 ((aC ar a0).E x) r:=by
 by_cases hc:bc x.1
 case neg=>simp only [C8,if_neg hc] at h;cases h
 simp only [C8,if_pos hc] at h
 cases h
 exact bb (ak.cons (ai Bq) (ak.nil PP)) Tryz.func162 (by kernel_rfl) (by kernel_rfl) (by kernel_rfl) (Nat.le_of_ble_eq_true (by kernel_rfl)) (r1 ar) true (g8 x.1) (aib x.1 hc)
noncomputable abbrev avk:Nat × Bool × (List AV→M AV):=(162,true,dc (aC ar a0) C8)
theorem ig {n:Name} (h:cg n=0):bt n≤255:=by
 unfold cg at h
 split at h
 ·cases h
 ·split at h
  ·cases h
  ·omega
theorem bc.fit {n:Name} (h:bc n):bt n<17592186044416:=by unfold bc at h;omega
theorem bc.drop {n:Name} (h:bc n) (i:Nat):bc (n.drop i):=by
 unfold bc at *
 have:=kh (n.take i) (n.drop i)
 rw [List.take_append_drop] at this
 have h1:=(ph (n.take i) 0).2
 omega
def np (n:Name):Name × Int:=if cg n≠0 then ([],cg n) else if n=[] then ([],9) else (n.tail,0)
theorem abx (n:Name) (hn:bc n):wl PP [ek,o9] 0 (Tryz.f54.body.getD .skip) (dp PP Tryz.f54.results.toList (fun r st=>(r2 ar (au .i64)).get true st.h r=some (np n))) (ca 0 [ar.val false n]) (br []):=by
 unfold Tryz.f54
 simp only [dm]
 simp only [↓wR,RA,simprocAttr,TF,mw,hn.fit]
 unfold np
 rw [bm];refine ⟨fun h=>?_,fun h=>?_⟩
 ·have he:cg n≠0:=by simpa using h
  simp only [↓wR,RA,simprocAttr,TF]
  rw [if_pos he]
 ·have he:cg n=0:=by simpa using h
  rw [if_neg (by omega)]
  simp only [↓wR,RA,simprocAttr,TF]
  rw [bm];refine ⟨fun h2=>?_,fun h2=>?_⟩
  ·have hn0:n=[]:=by simpa using h2
   simp only [↓wR,RA,simprocAttr,TF]
   rw [if_pos hn0]
  ·have hn0:n≠[]:=by simpa using h2
   obtain ⟨a,m,rfl⟩:=List.exists_cons_of_ne_nil hn0
   rw [if_neg hn0]
   simp only [↓wR,RA,simprocAttr,TF]
   simp only [↓wR,RA,simprocAttr,TF,gu,show bc m from hn.drop 1]
   rfl
noncomputable def yp (x:Name × Unit):Option AV:=if bc x.1 then some ((r2 ar (au .i64)).E true (np x.1)) else none
set_option maxRecDepth 2000000 in
theorem Uc (x:Name × Unit) (r:AV) (h:yp x=some r):be PP 54 ((aC ar a0).E x) r:=by
 by_cases hc:bc x.1
 case neg=>simp only [yp,if_neg hc] at h;cases h
 simp only [yp,if_pos hc] at h
 cases h
 exact bb (ak.cons (ai ld) (ak.cons (ai j8) (ak.nil PP))) Tryz.func54 (by kernel_rfl) (by kernel_rfl) (by kernel_rfl) (Nat.le_of_ble_eq_true (by kernel_rfl)) (r2 ar (au .i64)) true (np x.1) (abx x.1 hc)
noncomputable abbrev al7:Nat × Bool × (List AV→M AV):=(54,true,dc (aC ar a0) yp)
def qq:ByteArray:=⟨#[42]⟩
def n9 (s:ByteArray):List UInt8:=UInt8.ofNat s.size::s.data.toList
def nameBytes (n:Name):List UInt8:=n.flatMap n9++[0]
def y5 (n:Name):List UInt8:=if cg n≠0 then [] else nameBytes n
theorem Jn (s):(n9 s).length=s.size+1:=by simp [n9]
theorem Lj (n:Name):(n.flatMap n9).length+1=bt n:=by
 induction n with
 |nil=>rfl
 |cons a l ih=>
  have:=kh [a] l
  have h3:bt [a]=a.size+2:=by simp [bt];omega
  simp only [List.singleton_append] at this
  simp only [List.flatMap_cons,List.length_append,Jn]
  omega
theorem aed (n:Name) (hn:bc n):wl PP [ek] 0 (Tryz.f183.body.getD .skip) (dp PP Tryz.f183.results.toList (fun r st=>(r2 (cp cy) (au .i64)).get true st.h r=some (y5 n,cg n))) (ca 0 [ar.val false n]) (br []):=by
 unfold Tryz.f183
 simp only [dm]
 have hln:=hn.lt
 simp only [↓wR,RA,simprocAttr,TF,mw,hn.fit]
 rw [bm];refine ⟨fun h=>?_,fun h=>?_⟩
 ·have he:cg n≠0:=by simpa using h
  have hb:y5 n=[]:=if_pos he
  simp only [↓wR,RA,simprocAttr,TF,hb]
 have he:cg n=0:=by simpa using h
 have hb:y5 n=nameBytes n:=if_neg (by omega)
 rw [hb,he]
 simp only [↓wR,RA,simprocAttr,TF]
 refine ma [13,14,15,5] (fun (x:Nat × List UInt8)=>[.vl false 1 (n.map (aq.val false)),.sc (.int .i64 n.length),.sc (.int .i64 x.1),.sl 0 0 x.2.length 1]) (fun x=>[some (.row (x.2.map (cy.val false)) 0 0 5)]) (fun x=>x.2++(n.drop x.1).flatMap n9=n.flatMap n9∧x.1≤n.length) (fun x=>n.length - x.1) (0,[]) ⟨rfl,Nat.zero_le _⟩ (by simp only [↓wR,RA,simprocAttr,TF];(refine me.lax [] (by first|exact Nat.le_of_ble_eq_true rfl|(simp [cx];omega)) ?_ ?_<;>repeat' first|exact iu.nil|exact dq.nil|exact jk.same _|exact jk.nil _ _ _|exact jk.wu _ _|exact dq.refl _ _|apply iu.cons|apply dq.ghost|apply dq.same|apply dq.row)) ?_
 rintro ⟨i,x⟩ ⟨hR,hx⟩
 simp only at hR hx
 have hnb:=Lj n
 have hsm:=ig he
 simp only [↓wR,RA,simprocAttr,TF]
 rw [bm];refine ⟨fun h2=>?_,fun h2=>?_⟩
 ·obtain ⟨c,hc,hd,hlt⟩:=dw h2
  rw [hd,List.flatMap_cons] at hR
  have hl:x.length+(n9 c).length≤(n.flatMap n9).length:=by rw [← hR];simp
  rw [Jn] at hl
  simp only [↓wR,RA,simprocAttr,TF,hc];repeat (simp (disch:=omega) only [ah,b9,bu,bw,bz];try simp only [↓wR,RA,simprocAttr,TF,hc])
  refine ⟨(i+1,x++n9 c),⟨by rw [← hR];simp,hlt⟩,by simp;omega,?_,by simp only [n9,List.map_append,List.map_cons,List.append_assoc,List.singleton_append,G1]⟩
  simp only [List.cons.injEq,and_true,true_and,AV.sc.injEq,Value.int.injEq,AV.sl.injEq,n9,List.length_append,List.length_cons]
  refine ⟨by (try simp (disch:=omega) only [ah,b9,bu,bw,bz]);simp,by simp;omega⟩
 ·rw [dz h2] at hR
  have hl:x.length<bt n:=by rw [← hnb,← hR];simp
  simp only [↓wR,RA,simprocAttr,TF,h2];repeat (simp (disch:=omega) only [ah,b9,bu,bw,bz];try simp only [↓wR,RA,simprocAttr,TF,h2])
  simp only [nameBytes,← hR];simp
noncomputable def wk (x:Name × Unit):Option AV:=if bc x.1 then some ((r2 (cp cy) (au .i64)).E true ((y5 x.1,cg x.1))) else none
set_option maxRecDepth 2000000 in
theorem Vt (x:Name × Unit) (r:AV) (h:wk x=some r):be PP 183 ((aC ar a0).E x) r:=by
 by_cases hc:bc x.1
 case neg=>simp only [wk,if_neg hc] at h;cases h
 simp only [wk,if_pos hc] at h
 cases h
 exact bb (ak.cons (ai ld) (ak.nil PP)) Tryz.func183 (by kernel_rfl) (by kernel_rfl) (by kernel_rfl) (Nat.le_of_ble_eq_true (by kernel_rfl)) (r2 (cp cy) (au .i64)) true ((y5 x.1,cg x.1)) (aed x.1 hc)
noncomputable abbrev ams:Nat × Bool × (List AV→M AV):=(183,true,dc (aC ar a0) wk)
end Go.Proofs.YtajammoepjpiiaaGreat
end
section
namespace Go.Proofs.YtajammoepjpiiaaGreat
open Go.Vm
set_option maxRecDepth 2000000
theorem J3 {α:Type} {f : α→AV} {xs:List α} (h:xs≠[]) (op l sz p q):E8 op (.vl l sz (xs.map f)) (.sc (.slice none p q))=pj op false:=by
 cases xs with
 |nil=>exact (h rfl).elim
 |cons x xs=>rfl
def N9 (v:Value):Prop:=v = .slice none 0 0∨∃ a c,v = .slice (some a) 0 c
theorem B5 {f:Nat} {r:AV} {sz:Nat} (h:∀ v,N9 v→be PP f [.sc v] r):be PP f [.vl false sz []] r:=by
 intro K w vs hK hrel
 obtain ⟨v,rfl,hv⟩:=Cg hrel
 have hE:N9 v:=by
  cases hv with
  |vl=>exact .inr ⟨_,_,rfl⟩
  |kn=>exact .inl rfl
  |uq=>exact .inr ⟨_,_,rfl⟩
 exact h v hE K w [v] hK (bq.cons (.sc v) (bq.nil _ _))
theorem ai2 (l:List UInt32) (hne:l≠[]) (hl:l.length≤16777216):wl PP [] 0 (Tryz.f115.body.getD .skip) (dp PP Tryz.f115.results.toList (fun r st=>(r1 (cp bn)).get true st.h r=some l)) (ca 0 [(cp bn).val false l]) (br []):=by
 unfold Tryz.f115
 rw [qe]
 have hb:l.length * 4≤140737488355328:=by omega
 simp only [↓wR,RA,simprocAttr,TF,J3 hne,hb]
theorem afq (v:Value) (hv:N9 v):wl PP [] 0 (Tryz.f115.body.getD .skip) (dp PP Tryz.f115.results.toList (fun r st=>(r1 (cp bn)).get true st.h r=some [])) (ca 0 [.sc v]) (br []):=by
 unfold Tryz.f115
 rcases hv with rfl|⟨a,c,rfl⟩
 ·simp only [↓wR,RA,simprocAttr,TF]
 ·simp only [↓wR,RA,simprocAttr,TF]
noncomputable def zt (x:List UInt32 × Unit):Option AV:=if x.1.length≤16777216 then some ((r1 (cp bn)).E true x.1) else none
theorem Ll (x:List UInt32 × Unit) (r:AV) (h:zt x=some r):be PP 115 ((aC (cp bn) a0).E x) r:=by
 by_cases hc:x.1.length≤16777216
 case neg=>simp only [zt,if_neg hc] at h;cases h
 simp only [zt,if_pos hc] at h
 cases h
 obtain ⟨l,⟨⟩⟩:=x
 by_cases hn:l=[]
 ·subst hn
  exact B5 (sz:=1) fun v hv=>bb (ak.nil PP) Tryz.func115 (by kernel_rfl) (by kernel_rfl) (by kernel_rfl) (Nat.le_of_ble_eq_true (by kernel_rfl)) (r1 (cp bn)) true [] (afq v hv)
 ·exact bb (ak.nil PP) Tryz.func115 (by kernel_rfl) (by kernel_rfl) (by kernel_rfl) (Nat.le_of_ble_eq_true (by kernel_rfl)) (r1 (cp bn)) true l (ai2 l hn hc)
noncomputable abbrev ahh:Nat × Bool × (List AV→M AV):=(115,true,dc (aC (cp bn) a0) zt)
theorem ajr (l:List ByteArray) (hne:l≠[]) (hl:l.length≤16777216):wl PP [] 0 (Tryz.f116.body.getD .skip) (dp PP Tryz.f116.results.toList (fun r st=>(r1 (cp aq)).get true st.h r=some l)) (ca 0 [(cp aq).val false l]) (br []):=by
 unfold Tryz.f116
 rw [qe]
 have hb:l.length * 16≤140737488355328:=by omega
 simp only [↓wR,RA,simprocAttr,TF,J3 hne,hb]
theorem ad9 (v:Value) (hv:N9 v):wl PP [] 0 (Tryz.f116.body.getD .skip) (dp PP Tryz.f116.results.toList (fun r st=>(r1 (cp aq)).get true st.h r=some [])) (ca 0 [.sc v]) (br []):=by
 unfold Tryz.f116
 rcases hv with rfl|⟨a,c,rfl⟩
 ·simp only [↓wR,RA,simprocAttr,TF]
 ·simp only [↓wR,RA,simprocAttr,TF]
noncomputable def zw (x:List ByteArray × Unit):Option AV:=if x.1.length≤16777216 then some ((r1 (cp aq)).E true x.1) else none
theorem Lu (x:List ByteArray × Unit) (r:AV) (h:zw x=some r):be PP 116 ((aC (cp aq) a0).E x) r:=by
 by_cases hc:x.1.length≤16777216
 case neg=>simp only [zw,if_neg hc] at h;cases h
 simp only [zw,if_pos hc] at h
 cases h
 obtain ⟨l,⟨⟩⟩:=x
 by_cases hn:l=[]
 ·subst hn
  exact B5 (sz:=1) fun v hv=>bb (ak.nil PP) Tryz.func116 (by kernel_rfl) (by kernel_rfl) (by kernel_rfl) (Nat.le_of_ble_eq_true (by kernel_rfl)) (r1 (cp aq)) true [] (ad9 v hv)
 ·exact bb (ak.nil PP) Tryz.func116 (by kernel_rfl) (by kernel_rfl) (by kernel_rfl) (Nat.le_of_ble_eq_true (by kernel_rfl)) (r1 (cp aq)) true l (ajr l hn hc)
noncomputable abbrev ah6:Nat × Bool × (List AV→M AV):=(116,true,dc (aC (cp aq) a0) zw)
theorem anz (l:List UInt8) (hne:l≠[]) (hl:l.length≤16777216):wl PP [] 0 (Tryz.f117.body.getD .skip) (dp PP Tryz.f117.results.toList (fun r st=>(r1 (cp cy)).get true st.h r=some l)) (ca 0 [(cp cy).val false l]) (br []):=by
 unfold Tryz.f117
 rw [qe]
 have hb:l.length≤140737488355328:=by omega
 simp only [↓wR,RA,simprocAttr,TF,J3 hne,hb]
theorem ajl (v:Value) (hv:N9 v):wl PP [] 0 (Tryz.f117.body.getD .skip) (dp PP Tryz.f117.results.toList (fun r st=>(r1 (cp cy)).get true st.h r=some [])) (ca 0 [.sc v]) (br []):=by
 unfold Tryz.f117
 rcases hv with rfl|⟨a,c,rfl⟩
 ·simp only [↓wR,RA,simprocAttr,TF]
 ·simp only [↓wR,RA,simprocAttr,TF]
noncomputable def B6 (x:List UInt8 × Unit):Option AV:=if x.1.length≤16777216 then some ((r1 (cp cy)).E true x.1) else none
theorem Ol (x:List UInt8 × Unit) (r:AV) (h:B6 x=some r):be PP 117 ((aC (cp cy) a0).E x) r:=by
 by_cases hc:x.1.length≤16777216
 case neg=>simp only [B6,if_neg hc] at h;cases h
 simp only [B6,if_pos hc] at h
 cases h
 obtain ⟨l,⟨⟩⟩:=x
 by_cases hn:l=[]
 ·subst hn
  exact B5 (sz:=1) fun v hv=>bb (ak.nil PP) Tryz.func117 (by kernel_rfl) (by kernel_rfl) (by kernel_rfl) (Nat.le_of_ble_eq_true (by kernel_rfl)) (r1 (cp cy)) true [] (ajl v hv)
 ·exact bb (ak.nil PP) Tryz.func117 (by kernel_rfl) (by kernel_rfl) (by kernel_rfl) (Nat.le_of_ble_eq_true (by kernel_rfl)) (r1 (cp cy)) true l (anz l hn hc)
noncomputable abbrev ak2:Nat × Bool × (List AV→M AV):=(117,true,dc (aC (cp cy) a0) B6)
structure Shape where
 names:Int
 nums:Int
 size:Int
 texts:Int
 raw:Int
noncomputable def u6:de Shape:=vx (i7 (au .i64) (i7 (au .i64) (i7 (au .i64) (i7 (au .i64) (au .i64))))) (fun s=>(s.names,s.nums,s.size,s.texts,s.raw)) (fun p=>⟨p.1,p.2.1,p.2.2.1,p.2.2.2.1,p.2.2.2.2⟩) (fun _=>rfl) (fun _=>rfl)
theorem Gl (l:Bool) (s:Shape):u6.val l s = .agg [.sc (.int .i64 s.names),.sc (.int .i64 s.nums),.sc (.int .i64 s.size),.sc (.int .i64 s.texts),.sc (.int .i64 s.raw)]:=id rfl
theorem kx (fr h) (a b c d e:Int):u6.fp fr h (.agg [.sc (.int .i64 a),.sc (.int .i64 b),.sc (.int .i64 c),.sc (.int .i64 d),.sc (.int .i64 e)])=some ⟨a,b,c,d,e⟩:=aFo u6 fr h ⟨a,b,c,d,e⟩
def jn (t:UInt16):Shape:=
 if (t.toNat:Int)=1 then ⟨0,0,0,0,4⟩ else if (t.toNat:Int)=28 then ⟨0,0,0,0,16⟩ else if (t.toNat:Int)=2 then ⟨1,0,0,0,0⟩ else if (t.toNat:Int)=5 then ⟨1,0,0,0,0⟩ else if (t.toNat:Int)=12 then ⟨1,0,0,0,0⟩
 else if (t.toNat:Int)=6 then ⟨2,5,4,0,0⟩ else if (t.toNat:Int)=15 then ⟨1,1,2,0,0⟩ else if (t.toNat:Int)=33 then ⟨1,3,2,0,0⟩ else if (t.toNat:Int)=16 then ⟨0,0,0,-1,0⟩ else if (t.toNat:Int)=257 then ⟨0,1,1,2,0⟩ else ⟨0,0,0,0,-1⟩
theorem atb (t:UInt16):wl PP [] 0 (Tryz.f159.body.getD .skip) (dp PP Tryz.f159.results.toList (fun r st=>(r1 u6).get true st.h r=some (jn t))) (ca 0 [cw.val false t]) (br []):=by
 unfold Tryz.f159
 unfold jn
 simp only [↓wR,RA,simprocAttr,TF]
 rw [cz];refine ⟨fun ⟨h0,e0⟩=>?_,fun ⟨h0,e0⟩=>?_⟩
 ·simp only [↓wR,RA,simprocAttr,TF,h0]
  rw [if_pos e0]
  exact kx ..
 rw [if_neg e0]
 simp only [↓wR,RA,simprocAttr,TF,h0]
 rw [cz];refine ⟨fun ⟨h1,e1⟩=>?_,fun ⟨h1,e1⟩=>?_⟩
 ·simp only [↓wR,RA,simprocAttr,TF,h1]
  rw [if_pos e1]
  exact kx ..
 rw [if_neg e1]
 simp only [↓wR,RA,simprocAttr,TF,h1]
 rw [cz];refine ⟨fun ⟨h2,e2⟩=>?_,fun ⟨h2,e2⟩=>?_⟩
 ·simp only [↓wR,RA,simprocAttr,TF,h2]
  rw [if_pos e2]
  exact kx ..
 rw [if_neg e2]
 simp only [↓wR,RA,simprocAttr,TF,h2]
 rw [cz];refine ⟨fun ⟨h3,e3⟩=>?_,fun ⟨h3,e3⟩=>?_⟩
 ·simp only [↓wR,RA,simprocAttr,TF,h3]
  rw [if_pos e3]
  exact kx ..
 rw [if_neg e3]
 simp only [↓wR,RA,simprocAttr,TF,h3]
 rw [cz];refine ⟨fun ⟨h4,e4⟩=>?_,fun ⟨h4,e4⟩=>?_⟩
 ·simp only [↓wR,RA,simprocAttr,TF,h4]
  rw [if_pos e4]
  exact kx ..
 rw [if_neg e4]
 simp only [↓wR,RA,simprocAttr,TF,h4]
 rw [cz];refine ⟨fun ⟨h5,e5⟩=>?_,fun ⟨h5,e5⟩=>?_⟩
 ·simp only [↓wR,RA,simprocAttr,TF,h5]
  rw [if_pos e5]
  exact kx ..
 rw [if_neg e5]
 simp only [↓wR,RA,simprocAttr,TF,h5]
 rw [cz];refine ⟨fun ⟨h6,e6⟩=>?_,fun ⟨h6,e6⟩=>?_⟩
 ·simp only [↓wR,RA,simprocAttr,TF,h6]
  rw [if_pos e6]
  exact kx ..
 rw [if_neg e6]
 simp only [↓wR,RA,simprocAttr,TF,h6]
 rw [cz];refine ⟨fun ⟨h7,e7⟩=>?_,fun ⟨h7,e7⟩=>?_⟩
 ·simp only [↓wR,RA,simprocAttr,TF,h7]
  rw [if_pos e7]
  exact kx ..
 rw [if_neg e7]
 simp only [↓wR,RA,simprocAttr,TF,h7]
 rw [cz];refine ⟨fun ⟨h8,e8⟩=>?_,fun ⟨h8,e8⟩=>?_⟩
 ·simp only [↓wR,RA,simprocAttr,TF,h8]
  rw [if_pos e8]
  exact kx ..
 rw [if_neg e8]
 simp only [↓wR,RA,simprocAttr,TF,h8]
 rw [cz];refine ⟨fun ⟨h9,e9⟩=>?_,fun ⟨h9,e9⟩=>?_⟩
 ·simp only [↓wR,RA,simprocAttr,TF,h9]
  rw [if_pos e9]
  exact kx ..
 rw [if_neg e9]
 simp only [↓wR,RA,simprocAttr,TF,h9]
 exact kx ..
noncomputable def Gf (x:UInt16 × Unit):Option AV:=some ((r1 u6).E true (jn x.1))
set_option maxRecDepth 2000000 in
theorem F2 (x:UInt16 × Unit) (r:AV) (h:Gf x=some r):be PP 159 ((aC cw a0).E x) r:=by
 cases h
 exact bb (ak.nil PP) Tryz.func159 (by kernel_rfl) (by kernel_rfl) (by kernel_rfl) (Nat.le_of_ble_eq_true (by kernel_rfl)) (r1 u6) true (jn x.1) (atb x.1)
noncomputable abbrev X6:Nat × Bool × (List AV→M AV):=(159,true,dc (aC cw a0) Gf)
def I8 (t:UInt16):Bool:=(t.toNat:Int) == 0 || (decide ((128:Int)≤(t.toNat:Int)) && decide ((t.toNat:Int)≤255))
theorem ap3 (t:UInt16):wl PP [] 0 (Tryz.f158.body.getD .skip) (dp PP Tryz.f158.results.toList (fun r st=>(r1 bp).get true st.h r=some (I8 t))) (ca 0 [cw.val false t]) (br []):=by
 unfold Tryz.f158
 unfold I8
 simp only [↓wR,RA,simprocAttr,TF]
 rw [cz];refine ⟨fun ⟨h,e⟩=>?_,fun ⟨h,e⟩=>?_⟩
 ·simp only [↓wR,RA,simprocAttr,TF,h]
 ·simp only [↓wR,RA,simprocAttr,TF,h]
  rw [bj];refine ⟨fun h2=>?_,fun h2=>?_⟩
  ·simp only [↓wR,RA,simprocAttr,TF,h2]
  ·simp only [↓wR,RA,simprocAttr,TF,h2]
   rfl
noncomputable def Xy (x:UInt16 × Unit):Option AV:=some ((r1 bp).E true (I8 x.1))
set_option maxRecDepth 2000000 in
theorem ah7 (x:UInt16 × Unit) (r:AV) (h:Xy x=some r):be PP 158 ((aC cw a0).E x) r:=by
 cases h
 exact bb (ak.nil PP) Tryz.func158 (by kernel_rfl) (by kernel_rfl) (by kernel_rfl) (Nat.le_of_ble_eq_true (by kernel_rfl)) (r1 bp) true (I8 x.1) (ap3 x.1)
noncomputable abbrev aAb:Nat × Bool × (List AV→M AV):=(158,true,dc (aC cw a0) Xy)
noncomputable def Gv (n:UInt32):List UInt8:=[UInt8.ofNat (n.toNat / 16777216),UInt8.ofNat (n.toNat / 65536),UInt8.ofNat (n.toNat / 256),UInt8.ofNat n.toNat]
theorem at7 (n:UInt32):wl PP [] 0 (Tryz.f182.body.getD .skip) (dp PP Tryz.f182.results.toList (fun r st=>(r1 (cp cy)).get true st.h r=some (Gv n))) (ca 0 [bn.val false n]) (br []):=by
 unfold Tryz.f182
 simp only [↓wR,RA,simprocAttr,TF]
 rfl
noncomputable def Pp (x:UInt32 × Unit):Option AV:=some ((r1 (cp cy)).E true (Gv x.1))
set_option maxRecDepth 2000000 in
theorem ajh (x:UInt32 × Unit) (r:AV) (h:Pp x=some r):be PP 182 ((aC bn a0).E x) r:=by
 cases h
 exact bb (ak.nil PP) Tryz.func182 (by kernel_rfl) (by kernel_rfl) (by kernel_rfl) (Nat.le_of_ble_eq_true (by kernel_rfl)) (r1 (cp cy)) true (Gv x.1) (at7 x.1)
noncomputable abbrev aBj:Nat × Bool × (List AV→M AV):=(182,true,dc (aC bn a0) Pp)
def Tw (c:UInt8):Bool:=decide (97≤c.toNat∧c.toNat≤122∨65≤c.toNat∧c.toNat≤90∨48≤c.toNat∧c.toNat≤57)
def Oj (s:ByteArray):Bool:=s.data.toList.all Tw && decide (1≤s.size∧s.size≤15)
theorem aA7 (s:ByteArray) (hs:s.size≤16777216):wl PP [] 0 (Tryz.f179.body.getD .skip) (dp PP Tryz.f179.results.toList (fun r st=>(r1 bp).get true st.h r=some (Oj s))) (ca 0 [aq.val false s]) (br []):=by
 unfold Tryz.f179
 simp only [↓wR,RA,simprocAttr,TF]
 refine dh [0,6,7] (fun (i:Nat)=>[.sc (.string s),.sc (.int .i64 s.size),.sc (.int .i64 i)]) (fun _=>[]) (fun i=>i≤s.size∧s.data.toList.all Tw=(s.data.toList.drop i).all Tw) (fun i=>s.size - i) 0 ⟨Nat.zero_le _,rfl⟩ ?_ ?_ ?_
 ·simp only [↓wR,RA,simprocAttr,TF]<;>rfl
 ·simp only [↓wR,RA,simprocAttr,TF]
 rintro i ⟨hi,hR⟩
 simp only [↓wR,RA,simprocAttr,TF]
 rw [bj];refine ⟨fun h=>?_,fun h=>?_⟩
 ·obtain ⟨c,hc⟩:∃ c,s.data.toList[i]? = some c:=⟨_,List.getElem?_eq_getElem (by simp;omega)⟩
  have hd:=Jr hc
  rw [hd,List.all_cons] at hR
  simp only [↓wR,RA,simprocAttr,TF,h,hc];repeat (simp (disch:=omega) only [ah,b9,bu,bw,bz];try simp only [↓wR,RA,simprocAttr,TF,h,hc])
  repeat' (rw [bj];refine ⟨fun h=>?_,fun h=>?_⟩<;>simp only [↓wR,RA,simprocAttr,TF,h,hc])
  all_goals first
   |(
    have ht:Tw c=false:=by (unfold Tw;rw [decide_eq_false_iff_not];omega)
    rw [Oj,hR,ht];rfl)
   |(
    have ht:Tw c=true:=by (unfold Tw;rw [decide_eq_true_eq];omega)
    refine ⟨i+1,⟨by omega,by rw [hR,ht];simp⟩,by omega,by (first|rfl|trivial|omega|((try (simp (disch:=omega) only [ah]));(try (simp only [FB]));first|done|rfl|omega))⟩)
 ·have hdn:s.data.toList.drop i=[]:=List.drop_eq_nil_of_le (by simp;omega)
  rw [hdn,List.all_nil] at hR
  simp only [↓wR,RA,simprocAttr,TF,h]
  unfold Oj
  rw [hR]
  rw [bj];refine ⟨fun h1=>?_,fun h1=>?_⟩
  ·simp only [↓wR,RA,simprocAttr,TF,h1]
   congr 1
   rw [Bool.eq_iff_iff];simp;omega
  ·simp only [↓wR,RA,simprocAttr,TF,h1]
   congr 1
   rw [Bool.eq_iff_iff];simp;omega
noncomputable def Xh (x:ByteArray × Unit):Option AV:=if x.1.size≤16777216 then some ((r1 bp).E true (Oj x.1)) else none
set_option maxRecDepth 2000000 in
theorem aq4 (x:ByteArray × Unit) (r:AV) (h:Xh x=some r):be PP 179 ((aC aq a0).E x) r:=by
 by_cases hc:x.1.size≤16777216
 case neg=>simp only [Xh,if_neg hc] at h;cases h
 simp only [Xh,if_pos hc] at h
 cases h
 exact bb (ak.nil PP) Tryz.func179 (by kernel_rfl) (by kernel_rfl) (by kernel_rfl) (Nat.le_of_ble_eq_true (by kernel_rfl)) (r1 bp) true (Oj x.1) (aA7 x.1 hc)
noncomputable abbrev aF1:Nat × Bool × (List AV→M AV):=(179,true,dc (aC aq a0) Xh)
end Go.Proofs.YtajammoepjpiiaaGreat
end
