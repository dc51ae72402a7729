/- A piece of the proof. Proved: where the arguments are together of bulk at most 1048576, the law LookupHosts returns true (what is true hangs on zones alone), and what it was given reads afterwards as it did before. No other conditions. -/
import Derived.WalkKit
import Derived.CallsIn
import Derived.RangeFuncIn
import Derived.RangeFuncLeaves
import Derived.Orders
import Derived.OrdersIn
import Derived.Scope
import Derived.RangeFuncOwn
import Derived.Stop.SameAnswer
import Derived.Laws.Externs
import Derived.Lib.Bytealg
import Derived.ProofKit
import Derived.OpenShut
import Derived.ReadAgain
import Derived.Deep.Slices
import Derived.ChangeSame
import Derived.Test.YtajammoepjpiiaaGreatProg
import Derived.KernelRfl
import Derived.Test.YtajammoepjpiiaaGreatRows
import Derived.Maps.RangeRun
import Derived.JoinedCond
import Derived.Test.YtajammoepjpiiaaGreatH1
set_option linter.unusedSimpArgs false
set_option linter.unusedVariables false
namespace Go.Vm
noncomputable section
structure Ap (w w':World):Prop where
 size:w.heap.size≤w'.heap.size
 heap:∀ b,b<w.heap.size→w'.heap[b]? = w.heap[b]?
 os:w'.os=w.os
 tape:w'.tape=w.tape
 output:w'.output=w.output
def ae6 (K:Nat→Nat→Prop) (w w':World):Nat→Nat→Prop:=fun b j=>K b j∨(w.heap.size≤b∧b<w'.heap.size)
def alj (P:Program) (f:Nat) (vs:List Value) (w:World) (X:Value→World→Prop):Prop:=
 (∃ v,(callFunc f vs.toArray).run P w = .ok (.value v) w∧X v w) ∨
 ((callFunc f vs.toArray).run P w = .ok (.enter f vs.toArray) w∧Calls P f vs.toArray w (fun e w'=>∃ v,e = .returned v∧X v w'))
def bc (P:Program) (f:Nat) (args:List AV) (r:AV):Prop:=
 ∀ (K:Nat→Nat→Prop) (w:World) (vs:List Value),(∀ b j,K b j→b<w.heap.size)→bu (gK w.heap.size K) w args vs →
  alj P f vs w (fun v w'=>Ap w w'∧Rel (gK w.heap.size (ae6 K w w')) w' r v)
theorem Y3 {P:Program} {g w nt} {L:SL} {tmps:Array Value} {st:St} (hok:Ok g st.h w) (hs:eh g w nt L tmps):∀ (rs:List ResultVar) (l:List AV),r8 P L st rs=some l →
 ∃ vs,(rs.mapM (xw tmps)).run P w = .ok vs w∧bu g w l vs:=by
 intro rs
 induction rs with
 |nil=>intro l h;simp [r8] at h;subst h;exact ⟨[],by simp,bu.nil _ _⟩
 |cons r rs ih=>
  intro l h
  cases r with
  |tmp t=>
   simp only [r8,Option.map_eq_some_iff] at h
   obtain ⟨l',h1,rfl⟩:=h
   obtain ⟨vs,h2,h3⟩:=ih l' h1
   refine ⟨tmps.getD t undef::vs,?_,bu.cons (hs.2 t) h3⟩
   simp only [List.mapM_cons,Sem.run_bind,xw,Sem.run_pure,Result.andThen_ok,h2]
  |cell c t=>
   simp only [r8] at h
   split at h
   ·rename_i v st' hl
    rw [Option.map_eq_some_iff] at h
    obtain ⟨l',h1,rfl⟩:=h
    obtain ⟨vs,h2,h3⟩:=ih l' h1
    have hrel:=hs.2 c
    have hptr:∃ ad,tmps.getD c undef = .pointer (some ad):=by
     generalize lk L c=x at hrel hl
     generalize tmps.getD c undef=v at hrel
     cases hrel<;>first|exact ⟨_,rfl⟩|cases hl
    obtain ⟨ad,had⟩:=hptr
    obtain ⟨u,h4,h5⟩:=ao3 (P:=P) hok hrel hl had
    refine ⟨u::vs,?_,bu.cons h5 h3⟩
    have h6:(xw tmps (.cell c t)).run P w = .ok u w:=by simp [xw,had,asAddr,h4]
    simp only [List.mapM_cons,Sem.run_bind,h6,Result.andThen_ok,h2]
    rfl
   ·cases h
theorem Yf {P:Program} {g w} {fn:Func} {tmps:Array Value} {l:List AV} {vs:List Value} (h:(fn.results.toList.mapM (xw tmps)).run P w = .ok vs w) (q4:bu g w l vs) :
 ∃ v,(results fn tmps).run P w = .ok v w∧Rel g w (pack l) v:=by
 have hmap:(fn.results.mapM (xw tmps)).run P w = .ok vs.toArray w:=by
  rw [Array.mapM_eq_mapM_toList]
  simp [h]
 rw [apj]
 simp only [Sem.run_bind,hmap,Result.andThen_ok,Sem.run_pure]
 refine ⟨_,rfl,?_⟩
 match l,vs,q4 with
 | [a1],[v1],q4=>simpa [pack] using q4.head
 | [],[],q4=>simp [pack];exact .gb _ _ rfl (fun i a v h _=>by simp at h)
 |a1::a2::l,v1::v2::vs,q4=>
  simp [pack]
  exact .gb _ _ (by have:=q4.1;simp at this ⊢;omega) (fun i a v h1 h2=>q4.2 i a v h1 (by simpa using h2))
 | [],v::vs,q4=>have:=q4.1;simp at this
 |a::l,[],q4=>have:=q4.1;simp at this
 | [a1],v1::v2::vs,q4=>have:=q4.1;simp at this
 |a1::a2::l,[v1],q4=>have:=q4.1;simp at this
theorem Yx {P:Program} {T:eg} (hT:aj P T) (hm:P.follows .mixedOrders=true) {f:Nat} {fn:Func} {body:Code} (hf:P.funcs[f]? = some fn) (hb:fn.body=some body) (he:mc P f=true) (hs:ee fn.ntmps body=true)
 {args:List AV} (hl:args.length≤fn.ntmps) {ρ:Type} (R:RC ρ) (fr:Bool) (x : ρ)
 (h:wl P T 0 body (dj P fn.results.toList (fun r st=>R.get fr st.h r=some x)) (b9 0 args) (bq [])):bc P f args (R.E fr x):=by
 intro K w vs hK hrel
 refine .inr ⟨vn he _ _,zh (ro:=none) (n:=0) (callsIn_of_wp_marks hf hb trivial ?_)⟩
 let B:gv:={ b0:=w.heap.size,w,K,O:=fun _=>False,bd:=0,pb:=fun _=>none,n0:=w.heap.size }
 have hcur:ga B (gK w.heap.size K) (bq []) w:=by
  refine ⟨⟨Nat.le_refl _,fun o x hx=>?_,fun o o' x x' b base base' _ hx=>?_,hK⟩,fun o _ _=>rfl,⟨rfl,(fun o ho=>(by rcases ho with ho|ho;cases ho;exact ho.elim)),fun _ _ h=>h,fun _ _ _=>rfl,Nat.le_refl _,rfl,rfl,rfl,fun _ _ _=>rfl,fun o b base ho=>?_,fun _ _ h=>.inl h,fun b cs e fr h=>⟨cs,fr,h,rfl⟩,fun b l h=>⟨l,h⟩⟩,Nat.zero_le _⟩
  ·simp [bq,qv,Tr.get_nil] at hx
  ·simp [bq,qv,Tr.get_nil] at hx
  ·simp [bq,qv,Tr.get_nil] at ho
 refine wpIn_mono (ax7 hT hm (N:=0) (B:=B) (nt:=fn.ntmps) (fun _ h=>h) (by show (0:Nat)≤1000;omega) (Nat.le_refl _) body hs _ _ _ (gK w.heap.size K) w _ h hcur (Al hrel hl) (Marks.nil _ _ _ _)) ?_
 rintro ex a w' ⟨e,L,st,g,rfl,hq,hc,hr,hd⟩
 have fin:Pu (r8 P L st fn.results.toList) (fun r st=>R.get fr st.h r=some x) st→bodyPostM (gq none) 0 P fn (fun e w'=>∃ v,e = .returned v∧Ap w w'∧Rel (gK w.heap.size (ae6 K w w')) w' (R.E fr x) v) .ret a w':=by
  intro hq
  show LeavesInM (gq none) 0 P fn a.tmps _ a.defers .returning w'
  unfold Pu at hq
  cases hres:r8 P L st fn.results.toList with
  |none=>rw [hres] at hq;exact hq.elim
  |some l=>
   rw [hres] at hq
   have hbs:=hc.base
   obtain ⟨bs,e1,e2,e3⟩:=hd
   rw [e1]
   refine Iv (Good:=fun u=>Ok g st.h u∧Ap w u∧(∀ a v,Rel g w' a v→Rel g u a v)∧u.heap.size=w'.heap.size) (S:=fun b=>w.heap.size≤b∧fv g st.h b) ?_ ?_ bs w'
    ⟨hc.ok,⟨hbs.size,fun b hlt=>hbs.frame b hlt (fun h=>h),hbs.os,hbs.tape,hbs.output⟩,fun _ _ h=>h,rfl⟩ e2 (fun b hb=>⟨⟨(e3 b hb).1,(e3 b hb).2.2⟩,(e3 b hb).2.1⟩)
   ·rintro u b ⟨g1,g2,g3,g4⟩ ⟨hb1,hb2⟩ hb3
    have hput:=Ok.Ib (ds':=none) g1 hb3 hb2
    exact ⟨hput.1,⟨by rw [pr];exact g2.size,fun c hc=>(gk u _ (by omega)).trans (g2.heap c hc),g2.os,g2.tape,g2.output⟩,fun a v h=>hput.2 a v (g3 a v h),by rw [pr];exact g4⟩
   ·rintro u ⟨g1,g2,g3,g4⟩
    obtain ⟨us,h1,h2⟩:=Y3 (P:=P) g1 ⟨hr.1,fun t=>g3 _ _ (hr.2 t)⟩ fn.results.toList l hres
    obtain ⟨v,h3,h4⟩:=Yf h1 h2
    refine ⟨v,h3,v,rfl,g2,?_⟩
    refine R.ok g1 ⟨fun b j hk=>?_,fun o cells k s e ho b base hi j hj=>?_⟩ (fun _=>?_) h4 hq
    ·rcases hbs.pw b j hk with h5|h5|h5
     ·exact .inl h5
     ·exact .inr ⟨h5,g1.K b j hk⟩
     ·exact h5.elim
    ·obtain ⟨b',base',h5,_,h6⟩:=g1.obj o _ ho
     rw [hi] at h5;cases h5
     rcases hbs.own o b base (by rw [ho];rfl) hi with h7|h7
     ·exact .inr ⟨h7,h6.lt⟩
     ·exact h7.elim
    ·rw [hbs.b0];exact Nat.le_refl _
 cases e with
 |normal=>exact fin hq
 |ret=>exact fin hq
 |exit id=>exact hq.elim
theorem Rel.lift {b0 K g w a v} (h:Rel (gK b0 K) w a v) (hb:g.b0≤b0) (hK:∀ b j,K b j→g.K b j):Rel g w a v:=by
 have hno:∀ o p,(gK b0 K).inj o≠some p:=fun o p e=>by cases e
 generalize hg:gK b0 K=g0 at h hno
 have hK':∀ b j,g0.K b j→g.K b j:=by subst hg;exact hK
 have hb':g.b0≤g0.b0:=by subst hg;exact hb
 clear hg
 induction h with
 |sc x=>exact .sc x
 |agg l vs hs _ ih=>exact .agg l vs hs ih
 |gb l vs hs _ ih=>exact .gb l vs hs ih
 |vl loc sz es b off cap c hsz hl hcap h _ ih=>exact .vl loc sz es b off cap c hsz (fun e=>Nat.le_trans hb' (hl e)) hcap (fun j a hj=>⟨hK' _ _ (h j a hj).1,(h j a hj).2⟩) ih
 |kj loc sz=>exact .kj loc sz
 |uy loc sz a=>exact .uy loc sz a
 |sl o off len sz b base cap hi hc hm hr=>exact (hno _ _ hi).elim
 |w6 o off sz a=>exact .w6 o off sz a
 |xg o off sz=>exact .xg o off sz
 |ez a=>exact .ez a
 |ptr o off b base hi=>exact (hno _ _ hi).elim
 |gn l b off c h _ ih=>exact .gn l b off c (fun j a hj=>⟨hK' _ _ (h j a hj).1,(h j a hj).2⟩) ih
 |fn f first captured va vb hs _ hs' _ ih ih'=>exact .fn f first captured va vb hs ih hs' ih'
 |mp o b base hi=>exact (hno _ _ hi).elim
 |tm t a v _ ih=>exact .tm t a v ih
 |yl o b base hi=>exact (hno _ _ hi).elim
 |bad v=>exact .bad v
theorem E3 {l:List AV} (h:AV.fresh.go l=true):∀ a ∈ l,a.fresh=true:=by
 induction l with
 |nil=>intro a ha;cases ha
 |cons x l ih=>
  simp only [AV.fresh.go,Bool.and_eq_true] at h
  intro a ha
  rcases List.mem_cons.1 ha with rfl|ha
  ·exact h.1
  ·exact ih h.2 a ha
theorem ak4 {a:AV} (h:a.fresh=true):∀ c ∈ a.cells,c.fresh=true:=by
 cases a with
 |agg l=>exact E3 h
 |sc v=>intro c hc;simp only [AV.cells,List.mem_map] at hc;obtain ⟨x,_,rfl⟩:=hc;rfl
 |_=>intro c hc;simp only [AV.cells,List.mem_singleton] at hc;subst hc;exact h
theorem Rel.fresh {b0 K g w a v} (h:Rel (gK b0 K) w a v) (hf:a.fresh=true) (hb:g.b0≤b0) (hK:∀ b j,K b j→b0≤b→g.K b j):Rel g w a v:=by
 generalize hg:gK b0 K=g0 at h
 have hK':∀ b j,g0.K b j→g0.b0≤b→g.K b j:=by subst hg;exact hK
 have hb':g.b0≤g0.b0:=by subst hg;exact hb
 clear hg hb hK
 induction h with
 |sc x=>exact .sc x
 |agg l vs hs _ ih=>exact .agg l vs hs (fun i a v ha hv=>ih i a v ha hv (E3 hf a (List.mem_of_getElem? ha)))
 |gb l vs hs _ ih=>exact .gb l vs hs (fun i a v ha hv=>ih i a v ha hv (E3 hf a (List.mem_of_getElem? ha)))
 |vl loc sz es b off cap c hsz hl hcap h _ ih=>
  simp only [AV.fresh,Bool.and_eq_true] at hf
  have hbb:=hl hf.1
  refine .vl loc sz es b off cap c hsz (fun e=>Nat.le_trans hb' hbb) hcap (fun j a hj=>⟨hK' _ _ (h j a hj).1 hbb,(h j a hj).2⟩) (fun j a hj=>ih j a hj ?_)
  obtain ⟨e,he,hc⟩:=List.mem_flatMap.1 (List.mem_of_getElem? hj)
  exact ak4 (E3 hf.2 e he) a hc
 |kj loc sz=>exact .kj loc sz
 |uy loc sz a=>exact .uy loc sz a
 |sl o off len sz b base cap hi hc hm hr=>cases hf
 |w6 o off sz a=>cases hf
 |xg o off sz=>cases hf
 |ez a=>exact .ez a
 |ptr o off b base hi=>cases hf
 |gn l b off c h _ ih=>cases hf
 |fn f first captured va vb hs _ hs' _ ih ih'=>
  simp only [AV.fresh,Bool.and_eq_true] at hf
  exact .fn f first captured va vb hs (fun i a v ha hv=>ih i a v ha hv (E3 hf.1 a (List.mem_of_getElem? ha))) hs' (fun i a v ha hv=>ih' i a v ha hv (E3 hf.2 a (List.mem_of_getElem? ha)))
 |mp o b base hi=>cases hf
 |tm t a v _ ih=>exact .tm t a v (ih hf)
 |yl o b base hi=>cases hf
 |bad v=>cases hf
def Gh.more (g:Gh) (w w':World):Gh:={ g with K:=ae6 g.K w w' }
theorem Ee {g h w w'} {lo hi:Nat} (hok:Ok g h w) (q:Ap w w'):Step g h w lo hi (g.more w w') h w'∧Ok (g.more w w') h w':=by
 have hext:Ext g w (g.more w w') w':=by
  refine ⟨rfl,fun _ _ h=>h,fun _ _ h=>.inl h,fun b j hj=>uw (q.heap b (hok.K b j hj)),fun b cs e fr hb=>⟨cs,fr,(q.heap b (cz hb)).trans hb,rfl⟩,fun b l hb=>⟨l,(q.heap b (cz hb)).trans hb⟩⟩
 refine ⟨⟨hext,q.size,q.os,q.tape,q.output,fun b hb _=>q.heap b hb,fun _ h _=>h,fun o b base ho hi=>.inr ⟨o,base,ho,hi⟩,fun b j hk=>?_⟩,⟨Nat.le_trans hok.size q.size,fun o x hx=>?_,hok.sep,fun b j hk=>?_⟩⟩
 ·rcases hk with hk|hk
  ·exact .inl hk
  ·exact .inr (.inl hk.1)
 ·refine (hok.nn o x hx).imp id ?_
  rintro ⟨b,base,h1,h2,h3⟩
  refine ⟨b,base,h1,h2,h3.ext hext (q.heap b h3.lt) (fun j hk=>?_)⟩
  rcases hk with hk|hk
  ·exact hk
  ·have:=h3.lt;omega
 ·rcases hk with hk|hk
  ·exact Nat.lt_of_lt_of_le (hok.K b j hk) q.size
  ·exact hk.2
noncomputable def cx {α:Type} (A:AC α) (F : α→Option AV) (args:List AV):M AV:=fun st=>
 match A.get .nil args with
 |some x=>(F x).map fun r=>(r,st)
 |none=>
  match A.get st.h args with
  |some x=>
   match F x with
   |some r=>bif r.fresh then some (r,st) else none
   |none=>none
  |none=>none
theorem ai {P:Program} {f:Nat} {α:Type} {A:AC α} {F : α→Option AV} (h:∀ x r,F x=some r→bc P f (A.E x) r) (args:List AV):C3 P f args (cx A F args):=by
 intro g st w vs r st' hok hfree hrel hm
 have go:∀ (X:Value→World→Prop),alj P f vs w X→(∀ v w',X v w'→Ap w w'∧Rel (g.more w w') w' r v)→st'=st →
  (∃ v w' g',(callFunc f vs.toArray).run P w = .ok (.value v) w'∧Step g st.h w st.nx st'.nx g' st'.h w'∧Ok g' st'.h w'∧Rel g' w' r v) ∨
  ((callFunc f vs.toArray).run P w = .ok (.enter f vs.toArray) w∧Calls P f vs.toArray w (fun e w'=>∃ v g',e = .returned v∧Step g st.h w st.nx st'.nx g' st'.h w'∧Ok g' st'.h w'∧Rel g' w' r v)):=by
  intro X hx hX e
  subst e
  rcases hx with ⟨v,h1,h2⟩|⟨h1,h2⟩
  ·obtain ⟨q,hr⟩:=hX v w h2
   have:=Ee (lo:=st'.nx) (hi:=st'.nx) hok q
   exact .inl ⟨v,w,_,h1,this.1,this.2,hr⟩
  ·refine .inr ⟨h1,h2.mono ?_⟩
   rintro e w' ⟨v,rfl,h3⟩
   obtain ⟨q,hr⟩:=hX v w' h3
   have:=Ee (lo:=st'.nx) (hi:=st'.nx) hok q
   exact ⟨v,_,rfl,this.1,this.2,hr⟩
 unfold cx at hm
 cases h1:A.get .nil args with
 |some x=>
  rw [h1] at hm
  simp only [Option.map_eq_some_iff] at hm
  obtain ⟨r',h2,h3⟩:=hm
  cases h3
  have hargs:=A.ok (b0:=w.heap.size) (hok.part (hm:=.nil) (fun o x hx=>by rw [Tr.get_nil] at hx;cases hx)) (s6.nil g g.K (fun _ _ h=>h)) hrel h1
  refine go _ (h x r h2 g.K w vs hok.K hargs) (fun v w' hv=>⟨hv.1,hv.2.lift hok.size (fun b j hk=>hk)⟩) rfl
 |none=>
  rw [h1] at hm
  simp only at hm
  cases h2:A.get st.h args with
  |none=>rw [h2] at hm;cases hm
  |some x=>
   rw [h2] at hm
   simp only at hm
   cases h3:F x with
   |none=>rw [h3] at hm;cases hm
   |some r'=>
    rw [h3] at hm
    simp only at hm
    cases h4:r'.fresh with
    |false=>rw [h4] at hm;cases hm
    |true=>
     rw [h4] at hm
     cases hm
     have hargs:=A.ok (b0:=w.heap.size) (K:=fun b _=>b<w.heap.size) hok ⟨fun b j hk=>hok.K b j hk,fun o cells k s e ho b base hi j hj=>by
      obtain ⟨b',base',h5,_,h6⟩:=hok.obj o _ ho
      rw [hi] at h5;cases h5
      exact h6.lt⟩ hrel h2
     refine go _ (h x r h3 (fun b _=>b<w.heap.size) w vs (fun _ _ h=>h) hargs) (fun v w' hv=>⟨hv.1,hv.2.fresh h4 hok.size (fun b j hk hle=>?_)⟩) rfl
     rcases hk with hk|hk
     ·omega
     ·exact .inr hk
theorem aj.nil (P:Program):aj P []:=fun f b m h=>by cases h
theorem aj.cons {P:Program} {f:Nat} {b:Bool} {m:List AV→M AV} {T:eg} (h:∀ args,C3 P f args (m args)) (hT:aj P T):aj P ((f,b,m)::T):=by
 intro f' b' m' hf args
 simp only [eg.find] at hf
 by_cases e:f=f'
 ·subst e
  simp only [Nat.beq_refl,cond_true,Option.some.injEq] at hf
  cases hf
  exact h args
 ·rw [nk e,cond_false] at hf
  exact hT f' b' m' hf args
def aod (g:Gh) (st:St) (w:World):gv:={ iw g st.h w st.nx (fun _=>False) with n0:=w.heap.size }
theorem ga.ofC {g st w} (hok:Ok g st.h w) (hfr:∀ o,st.nx≤o→g.inj o=none):ga (aod g st w) g st w:=
 ⟨hok,fun o h1 _=>hfr o h1,⟨rfl,fun _o _ho=>rfl,fun _ _ h=>h,fun _ _ _=>rfl,Nat.le_refl _,rfl,rfl,rfl,fun _ _ _=>rfl,fun o _b base ho hi=>.inr (.inr ⟨o,base,ho,hi⟩),fun _ _ h=>.inl h,
  fun _b cs _e fr h=>⟨cs,fr,h,rfl⟩,fun _b l h=>⟨l,h⟩⟩,Nat.le_refl _⟩
theorem ga.aFh {g st w g' st' w'} (h:ga (aod g st w) g' st' w') (hfr:∀ o,st.nx≤o→g.inj o=none):Step g st.h w st.nx st'.nx g' st'.h w':=by
 have b:=h.base
 have pins:∀ o,o<st.nx→g'.inj o=g.inj o:=fun o ho=>b.pins o (.inl ho)
 refine ⟨⟨b.b0,fun o p hp=>?_,b.K,b.cell,b.Bl,b.lp⟩,b.size,b.os,b.tape,b.output,fun c hc hn=>b.frame c hc (fun hO=>?_),fun o ho hr=>?_,fun o c base ho hi=>?_,fun c j hk=>?_⟩
 ·by_cases h1:st.nx≤o
  ·rw [hfr o h1] at hp;cases hp
  ·rw [pins o (by omega)];exact hp
 ·rcases hO with hO|⟨o,base,h1,h2⟩
  ·exact hO
  ·exact hn o base h1 h2
 ·by_cases h1:o<st.nx
  ·rw [pins o h1];exact ho
  ·exact h.fresh o (by omega) (fun hf=>hf)
 ·rcases b.own o c base ho hi with h1|h1|h1
  ·exact .inl h1
  ·exact h1.elim
  ·exact .inr h1
 ·rcases b.pw c j hk with h1|h1|h1|h1
  ·exact .inl h1
  ·exact .inr (.inl h1)
  ·exact h1.elim
  ·exact .inr (.inr h1)
theorem bt {P:Program} {T:eg} (hT:aj P T) (hm:P.follows .mixedOrders=true) {f:Nat} {fn:Func} {body:Code} (hf:P.funcs[f]? = some fn) (hb:fn.body=some body) (he:mc P f=true) (hs:ee fn.ntmps body=true)
 {args:List AV} (hl:Nat.ble args.length fn.ntmps=true) {st:St} (hp:Nat.ble st.nx 1000=true) {R:AV→St→Prop}
 (h:wl P T st.nx body (dj P fn.results.toList R) (b9 0 args) st):ql P f args st R:=by
 intro g w vs hok hfr hrel
 refine .inr ⟨vn he _ _,zh (ro:=none) (n:=0) (callsIn_of_wp_marks hf hb trivial ?_)⟩
 have hcur:=ga.ofC (w:=w) hok hfr
 refine wpIn_mono (ax7 hT hm (N:=0) (B:=aod g st w) (nt:=fn.ntmps) (fun _ h=>h) (Nat.le_of_ble_eq_true hp) (Nat.le_refl _) body hs _ _ _ g w _ h hcur (Al hrel (Nat.le_of_ble_eq_true hl)) (Marks.nil _ _ _ _)) ?_
 rintro ex a w' ⟨e,L,st',g',rfl,hq,hc,hr,hd⟩
 have fin:Pu (r8 P L st' fn.results.toList) R st'→bodyPostM (gq none) 0 P fn (fun e w'=>∃ v g' r st',e = .returned v∧R r st'∧st.nx≤st'.nx∧Step g st.h w st.nx st'.nx g' st'.h w'∧Ok g' st'.h w'∧Rel g' w' r v) .ret a w':=by
  intro hq
  show LeavesInM (gq none) 0 P fn a.tmps _ a.defers .returning w'
  unfold Pu at hq
  cases hres:r8 P L st' fn.results.toList with
  |none=>rw [hres] at hq;exact hq.elim
  |some l=>
   rw [hres] at hq
   obtain ⟨bs,e1,e2,e3⟩:=hd
   rw [e1]
   refine Iv (Good:=fun u=>Ok g' st'.h u∧Step g st.h w st.nx st'.nx g' st'.h u∧(∀ a v,Rel g' w' a v→Rel g' u a v)) (S:=fun b=>w.heap.size≤b∧fv g' st'.h b) ?_ ?_ bs w'
    ⟨hc.ok,hc.aFh hfr,fun _ _ h=>h⟩ e2 (fun b hb=>⟨⟨(e3 b hb).1,(e3 b hb).2.2⟩,(e3 b hb).2.1⟩)
   ·rintro u b ⟨g1,g2,g3⟩ ⟨hb1,hb2⟩ hb3
    have hput:=Ok.Ib (ds':=none) g1 hb3 hb2
    exact ⟨hput.1,Step.afu (ds':=none) hok g2 hb1,fun a v h=>hput.2 a v (g3 a v h)⟩
   ·rintro u ⟨g1,g2,g3⟩
    obtain ⟨us,h1,h2⟩:=Y3 (P:=P) g1 ⟨hr.1,fun t=>g3 _ _ (hr.2 t)⟩ fn.results.toList l hres
    obtain ⟨v,h3,h4⟩:=Yf h1 h2
    exact ⟨v,h3,v,g',_,st',rfl,hq,hc.bd,g2,g1,h4⟩
 cases e with
 |normal=>exact fin hq
 |ret=>exact fin hq
 |exit id=>exact hq.elim
end
end Go.Vm
namespace Go.Vm
noncomputable section
section code
variable (P : Program) (T : eg) (bd : Nat) (Q : QL) (L : SL) (st : St)
theorem ank:wl P T bd .skip Q L st=Q .normal L st:=id rfl
theorem agd (l):wl P T bd (.label l) Q L st=Q .normal L st:=id rfl
theorem Z3 (i ops d):wl P T bd (.region i ops d) Q L st=Bq P T ops d (Q .normal) L st:=id rfl
theorem aut (a b):wl P T bd (.seq a b) Q L st=wl P T bd a (ahn (wl P T bd b) Q) L st:=id rfl
theorem alq (c a b):wl P T bd (.cond c a b) Q L st=xb (db L c) (wl P T bd a Q) (wl P T bd b Q) L st:=id rfl
theorem ahg (i b):wl P T bd (.block i b) Q L st=wl P T bd b (Tf i Q) L st:=id rfl
theorem am2 (b):wl P T bd (.loop b) Q L st=sx bd (wl P T bd b) Q L st:=id rfl
theorem aew (b):wl P T bd (.scope b) Q L st=wl P T bd b Q L st:=id rfl
theorem aml (i):wl P T bd (.exit i) Q L st=Q (.exit i) L st:=id rfl
theorem at5:wl P T bd .ret Q L st=Q .ret L st:=id rfl
theorem aq5 (W):ahn W Q .normal L st=W Q L st:=id rfl
theorem aq0 (W i):ahn W Q (.exit i) L st=Q (.exit i) L st:=id rfl
theorem asv (W):ahn W Q .ret L st=Q .ret L st:=id rfl
theorem auf (i):Tf i Q .normal L st=Q .normal L st:=id rfl
theorem asn (i):Tf i Q .ret L st=Q .ret L st:=id rfl
theorem ast (i j):Tf i Q (.exit j) L st=bif Nat.beq j i then Q .normal L st else Q (.exit j) L st:=id rfl
theorem alh (keep X):ya bd keep X Q .normal L st=X (kc bd keep L st) (gw bd keep L st):=id rfl
theorem als (keep X i):ya bd keep X Q (.exit i) L st=Q (.exit i) L st:=id rfl
theorem alv (keep X):ya bd keep X Q .ret L st=Q .ret L st:=id rfl
theorem auv (rs R):dj P rs R .normal L st=Pu (r8 P L st rs) R st:=id rfl
theorem at0 (rs R):dj P rs R .ret L st=Pu (r8 P L st rs) R st:=id rfl
theorem aaf (ops K):Bq P T ops false K L st=opsL P T ops ops.toList K L st:=id rfl
theorem ai5 (ops K):opsL P T ops [] K L st=K L st:=id rfl
theorem abk (ops o r K):opsL P T ops (o::r) K L st=zg ops o.guard (aia P T o (opsL P T ops r K)) (Jh o.dst (opsL P T ops r K)) L st:=id rfl
theorem ad5 (ops K recs):Fv P T ops [] K recs L st=(ea (Region.before ops) 0 recs=true∧K L st):=id rfl
theorem aaj (ops o r K recs):Fv P T ops (o::r) K recs L st=zg ops o.guard (fy P T o recs (Fv P T ops r K)) (Jh o.dst (Fv P T ops r K (recs++[⟨[],[]⟩]))) L st:=id rfl
theorem Wj (ops X Y):zg ops none X Y L st=X L st:=id rfl
theorem Ul (ops j c X Y):zg ops (some (j,c)) X Y L st=Gu (lk L (u9 ops j)) c X Y L st:=id rfl
theorem agn (b:Bool) (X Y:SL→St→Prop):Gu (.sc (.bool b)) true X Y L st=xb (.sc (.bool b)) X Y L st:=by cases b<;>simp [Gu,x7,y5,Cv,xb,qo,AV.bool,AV.exact,o0]
theorem ah6 (b:Bool) (X Y:SL→St→Prop):Gu (.sc (.bool b)) false X Y L st=xb (.sc (.bool b)) Y X L st:=by cases b<;>simp [Gu,x7,y5,Cv,xb,qo,AV.bool,AV.exact,o0]
theorem afw (c:Bool) (X Y:SL→St→Prop):Gu (.sc undef) c X Y L st=Y L st:=by simp [Gu,x7,y5,Cv,AV.exact,undef]
theorem amz (o K):aia P T o K L st=Nb (fo P T o (db L) st) P o L st K:=id rfl
theorem agh (v o K st'):Nb (some (v,st')) P o L st K=K (ia o.dst v L) st':=id rfl
theorem aje (K d r):g8 K d L r st=K (ia d r L) st:=id rfl
theorem ahh (ro F o recs K v bp):F9 ro F o recs K L st (some (v,bp))=((G5 st.nx F=true∧Nat.ble bp.nx cw=true)∧same (ki st.h F) bp.h (bif ro then F else []) ∧
 K (recs++[⟨F,(bif ro then [] else F)++dw st.nx (bp.nx - st.nx)⟩]) (ia o.dst v L) { h:=qm bp.h (F++dw st.nx (bp.nx - st.nx)) st.h,nx:=bp.nx,rl:=[],wl:=[] }):=id rfl
theorem aag (d K):Jh d K L st=K (ia d (.sc undef) L) st:=id rfl
theorem br (b X Y):xb (.sc (.bool b)) X Y L st=((b=true→X L st)∧(b=false→Y L st)):=id rfl
theorem Kb (X Y):xb (.sc (.bool true)) X Y L st=X L st:=by simp [xb,qo,AV.bool,AV.exact,o0]
theorem I6 (X Y):xb (.sc (.bool false)) X Y L st=Y L st:=by simp [xb,qo,AV.bool,AV.exact,o0]
theorem aas (v d K):J6 (some (v,st)) d L K=K (ia d v L) st:=id rfl
theorem aak (d v):ia (some d) v L=(d,v)::L:=id rfl
theorem abo (v):ia none v L=L:=id rfl
theorem aq2 (l R):Pu (some l) R st=R (pack l) st:=id rfl
theorem as7 (d v):lk ((d,v)::L) d=v:=by simp [lk]
theorem al7 (d t v) (h:(d == t)=false):lk ((d,v)::L) t=lk L t:=by
 have e:d≠t:=by simpa using h
 rw [om,if_neg e]
theorem ayg (t):db L (.tmp t)=lk L t:=id rfl
theorem aye (v):db L (.const v) = .sc v:=id rfl
theorem ayi (f):db L (.func f) = .sc (.func (.func f) #[] #[]):=id rfl
theorem ar6:r8 P L st []=some []:=id rfl
theorem arq (t r):r8 P L st (.tmp t::r)=(r8 P L st r).map (lk L t :: ·):=id rfl
theorem ar3 (a t r):r8 P L st (.cell a t::r)=match jr P t (lk L a) st with|some (v,_)=>(r8 P L st r).map (v :: ·)|none=>none:=id rfl
end code
section ops
variable (P : Program) (T : eg) (ρ : Operand → AV) (d : Option Tmp) (ty : TypeId) (pos : String) (af : Array Edge) (gd : Option (Nat × Bool))
theorem K6 (x):fo P T ⟨d,.move x,ty,pos,af,gd⟩ ρ=mono (M.pure (ρ x)):=id rfl
theorem F8 (x):fo P T ⟨d,.assign x,ty,pos,af,gd⟩ ρ=mono (M.pure (ρ x)):=id rfl
theorem Lo (t a):fo P T ⟨d,.load t a,ty,pos,af,gd⟩ ρ=mono (jr P t (ρ a)):=id rfl
theorem A7 (s x f):fo P T ⟨d,.fieldAddr s x f,ty,pos,af,gd⟩ ρ=mono (kr P s (ρ x) f):=id rfl
theorem Re (op t x y u):fo P T ⟨d,.binOp op t x y u,ty,pos,af,gd⟩ ρ=mono (y6 P ρ ⟨d,.binOp op t x y u,ty,pos,af,gd⟩ op t x y):=id rfl
theorem Lh (c a b):fo P T ⟨d,.pick c a b,ty,pos,af,gd⟩ ρ=mono (vt (ρ c) (ρ a) (ρ b)):=id rfl
theorem If (t a x):fo P T ⟨d,.store t a x,ty,pos,af,gd⟩ ρ=mono (qe P t (ρ a) (ρ x)):=id rfl
theorem D8 (t i):fo P T ⟨d,.extract t i,ty,pos,af,gd⟩ ρ=mono (oq (ρ t) i):=id rfl
theorem Aq (t x i):fo P T ⟨d,.indexAddr t x i,ty,pos,af,gd⟩ ρ=mono (kx P t (ρ x) (ρ i)):=id rfl
theorem By (x):fo P T ⟨d,.nilCheck x,ty,pos,af,gd⟩ ρ=mono (ka (ρ x)):=id rfl
theorem Sw (t):fo P T ⟨d,.alloc t,ty,pos,af,gd⟩ ρ=mono (sj P t):=id rfl
theorem abg (t x):fo P T ⟨d,.box t x,ty,pos,af,gd⟩ ρ=mono (y7 t (ρ x)):=id rfl
theorem Iw (t ps):fo P T ⟨d,.build t ps,ty,pos,af,gd⟩ ρ=mono (ry P t (ps.toList.map fun p=>(p.1,ρ p.2))):=id rfl
theorem zb (t n ps):fo P T ⟨d,.buildSlice t n ps,ty,pos,af,gd⟩ ρ=mono (js P t n (ps.toList.map fun p=>(p.1,ρ p.2))):=id rfl
theorem L4 (t r):fo P T ⟨d,.makeMap t r,ty,pos,af,gd⟩ ρ=mono (s5 r):=id rfl
theorem Ji (f a b):fo P T ⟨d,.makeFunc f a b,ty,pos,af,gd⟩ ρ=mono (M.pure (.fn f (a.toList.map ρ) (b.toList.map ρ))):=id rfl
theorem L8 (s u x):fo P T ⟨d,.convert s u x,ty,pos,af,gd⟩ ρ=mono (px P ρ ⟨d,.convert s u x,ty,pos,af,gd⟩ s u (ρ x)):=id rfl
theorem Q9 (s x f):fo P T ⟨d,.field s x f,ty,pos,af,gd⟩ ρ=mono (uo P s (ρ x) f):=id rfl
theorem Rw (t x i):fo P T ⟨d,.index t x i,ty,pos,af,gd⟩ ρ=mono (ua P ρ ⟨d,.index t x i,ty,pos,af,gd⟩ t x i):=id rfl
theorem Q6 (t x l h m):fo P T ⟨d,.slice t x l h m,ty,pos,af,gd⟩ ρ=mono (sr P ρ ⟨d,.slice t x l h m,ty,pos,af,gd⟩ t x l h m):=id rfl
theorem M6 (t x i ok):fo P T ⟨d,.lookup t x i ok,ty,pos,af,gd⟩ ρ=mono (sa P t (ρ x) (ρ i) ok):=id rfl
theorem H0 (t m k x):fo P T ⟨d,.mapUpdate t m k x,ty,pos,af,gd⟩ ρ=mono (m6 P t (ρ m) (ρ k) (ρ x)):=id rfl
theorem M3 (x ts):fo P T ⟨d,.call { callee:=.builtin .len,args:=#[x],argTypes:=ts },ty,pos,af,gd⟩ ρ=mono (s7 ((ts[0]?).bind P.underlying) (ρ x)):=id rfl
theorem Gt (s x ts):fo P T ⟨d,.call { callee:=.builtin .append,args:=#[s,x],argTypes:=ts },ty,pos,af,gd⟩ ρ=mono (nv P ts[0]? ((ts[1]?).bind P.underlying) (ρ s) (ρ x)):=id rfl
theorem U7 (f args ts):fo P T ⟨d,.call { callee:=.value f,args,argTypes:=ts },ty,pos,af,gd⟩ ρ=u4 T (ρ f) (args.toList.map ρ):=id rfl
end ops
section monad
variable {α β : Type} (s : St)
theorem ayk (m:M α):mono m s=match m s with|none=>none|some (a,s')=>bif decide (s.nx≤s'.nx) then some (a,s') else none:=by
 have:∀ a b,Nat.ble a b=decide (a≤b):=fun a b=>by rw [Bool.eq_iff_iff];simp
 unfold mono
 cases m s with
 |none=>rfl
 |some p=>simp only [this]
theorem azf (m:M α) (f : α→M β):(m.bind f) s=match m s with|none=>none|some (a,s')=>f a s':=id rfl
theorem ay3 (a : α):(M.pure a) s=some (a,s):=id rfl
theorem ay8:(M.fail:M α) s=none:=id rfl
theorem azh (a : α):(M.of (some a)) s=some (a,s):=id rfl
theorem ax5 (b:Bool) (m m':M α):(bif b then m else m') s=bif b then m s else m' s:=by cases b<;>rfl
theorem ayt (o:Nat):de o s=match s.h.get o with|some x=>some (x,{ s with rl:=o::s.rl })|none=>none:=id rfl
theorem ayw (x:bh):i9 x s=bif decide (s.nx≤cw) then some (s.nx,{ s with h:=s.h.set depth s.nx (some x),nx:=s.nx+1,wl:=s.nx::s.wl }) else none:=by
 have:Nat.ble s.nx cw=decide (s.nx≤cw):=by rw [Bool.eq_iff_iff];simp
 unfold i9;rw [this]
theorem ays (o:Nat) (x:bh):jd o x s=match s.h.get o with|some _=>bif decide (o≤cw) then some ((),{ s with h:=s.h.set depth o (some x),wl:=o::s.wl }) else none|none=>none:=by
 have:Nat.ble o cw=decide (o≤cw):=by rw [Bool.eq_iff_iff];simp
 unfold jd;rw [this];rfl
theorem ayf (o:Nat):wy o s=match s.h.get o with|some _=>bif decide (o≤cw) then some ((),{ s with h:=s.h.set depth o none,wl:=o::s.wl }) else none|none=>none:=by
 have:Nat.ble o cw=decide (o≤cw):=by rw [Bool.eq_iff_iff];simp
 unfold wy;rw [this];rfl
theorem aeo (t:Tr bh) (n m:Nat) (x:Option bh) (h:n≤16777214):(Tr.set depth t n x).get m=if m=n then x else t.get m:=fj t n m x h
theorem ajd (n:Nat):(Tr.nil:Tr bh).get n=none:=id rfl
theorem aDg (a b:Nat):Nat.ble a b=decide (a≤b):=by rw [Bool.eq_iff_iff];simp
theorem aDu (a b:Nat):Nat.blt a b=decide (a<b):=by rw [Bool.eq_iff_iff];simp
theorem aor (a b:Nat):Nat.beq a b=decide (a=b):=by rw [Bool.eq_iff_iff];simp
end monad
theorem Rj {a:AV} {x y x' y':Prop} (h1:x→x') (h2:y→y') (h:qo a x y):qo a x' y':=by
 unfold qo at *
 split at h
 ·exact ⟨fun e=>h1 (h.1 e),fun e=>h2 (h.2 e)⟩
 ·exact h.elim
theorem A1 {ops L gd} {x y x' y':Prop} (h1:x→x') (h2:y→y') (h:guarded ops L gd x y):guarded ops L gd x' y':=by
 unfold guarded at *
 split at h
 ·exact h1 h
 ·unfold x7 at *
  split at h
  ·exact ⟨fun e=>h1 (h.1 e),fun e=>h2 (h.2 e)⟩
  ·exact h.elim
theorem ql.mono {P f args st} {R R':AV→St→Prop} (h:∀ r st,R r st→R' r st) (hc:ql P f args st R):ql P f args st R':=by
 intro g w vs h1 h2 h3
 rcases hc g w vs h1 h2 h3 with ⟨v,w',g',r,st',q1,q2,q3⟩|⟨q1,q2⟩
 ·exact .inl ⟨v,w',g',r,st',q1,h _ _ q2,q3⟩
 ·refine .inr ⟨q1,q2.mono ?_⟩
  rintro e w' ⟨v,g',r,st',p1,p2,p3⟩
  exact ⟨v,g',r,st',p1,h _ _ p2,p3⟩
theorem aoq {P o L st} {K K':SL→St→Prop} (h:∀ L st,K L st→K' L st) (hc:P2 P o L st K):P2 P o L st K':=by
 unfold P2 aqp at *
 split at hc
 ·split at hc
  ·exact ql.mono (fun r st hk=>h _ _ hk) hc
  ·exact hc.elim
 ·exact hc.elim
theorem Hy {P T ops} {K K':SL→St→Prop} (h:∀ L st,K L st→K' L st):∀ (l:List Oper) (L:SL) (st:St),opsL P T ops l K L st→opsL P T ops l K' L st
 | [],L,st,hh=>h L st hh
 |o::r,L,st,hh=>A1 (fun q=>by
  unfold aia Nb at *
  split at q
  ·exact Hy h r _ _ q
  ·exact aoq (fun L st=>Hy h r L st) q) (fun q=>Hy h r _ _ q) hh
theorem Ha {P T ops} {K K':SL→St→Prop} (h:∀ L st,K L st→K' L st):∀ (l:List Oper) (recs:List Rec) (L:SL) (st:St),Fv P T ops l K recs L st→Fv P T ops l K' recs L st
 | [],recs,L,st,hh=>⟨hh.1,h L st hh.2⟩
 |o::r,recs,L,st,hh=>A1 (fun q=>by
  unfold fy kp F9 at *
  split at q
  ·exact ⟨q.1,q.2.1,Ha h r _ _ _ q.2.2⟩
  ·exact q.elim) (fun q=>Ha h r _ _ _ q) hh
theorem G9 {P T ops} {K K':SL→St→Prop} (h:∀ L st,K L st→K' L st):∀ (l:List Oper) (recs:List Rec) (L:SL) (st:St),Nd P T ops l K recs L st→Nd P T ops l K' recs L st
 | [],recs,L,st,hh=>⟨hh.1,h L st hh.2⟩
 |o::r,recs,L,st,hh=>A1 (fun q=>V5 (fun _ _ _ k=>G9 h r _ _ _ k) q) (fun q=>G9 h r _ _ _ q) hh
theorem z2 {P T l bd ops} {R:I0} (hR:∀ p args (X X':Ex→St→Prop) st,(∀ e st,X e st→X' e st)→R p args X st→R p args X' st) {K K':Option Ex→SL→St→Prop} (h:∀ pe L st,K pe L st→K' pe L st) :
 ∀ (ls:List Oper) (pe:Option Ex) (L:SL) (st:St),F0 P T l R bd ops ls K pe L st→F0 P T l R bd ops ls K' pe L st
 | [],pe,L,st,hh=>h pe L st hh
 |o::r,pe,L,st,hh=>A1 (fun q=>by
  unfold opI Y5 at *
  split at q
  ·unfold J6 at *
   split at q
   ·exact z2 hR h r _ _ _ q
   ·exact q.elim
  ·obtain ⟨h0,keep,q⟩:=q
   refine ⟨h0,keep,hR _ _ _ _ _ (fun e st q=>?_) q⟩
   cases e with
   |normal=>exact z2 hR h r _ _ _ q
   |ret=>exact z2 hR h r _ _ _ q
   |exit id=>exact z2 hR h r _ _ _ q) (fun q=>z2 hR h r _ _ _ q) hh
theorem Kv {P:Program} {T:eg} {l bd:Nat} {R:I0} (hR:∀ p args (X X':Ex→St→Prop) st,(∀ e st,X e st→X' e st)→R p args X st→R p args X' st) :
 ∀ (c:Code) (Q Q':QI),(∀ e pe L st,Q e pe L st→Q' e pe L st)→∀ pe L st,nw P T l R bd c Q pe L st→nw P T l R bd c Q' pe L st:=by
 intro c
 induction c with
 |skip=>intro Q Q' h pe L st hh;exact h _ _ _ _ hh
 |label l=>intro Q Q' h pe L st hh;exact h _ _ _ _ hh
 |exit i=>intro Q Q' h pe L st hh;exact h _ _ _ _ hh
 |ret=>intro Q Q' h pe L st hh;exact h _ _ _ _ hh
 |region i ops draw=>
  intro Q Q' h pe L st hh
  cases draw with
  |false=>exact z2 hR (h _) _ _ _ _ hh
  |true=>exact ⟨hh.1,hh.2.imp (Ha (h _ _) _ _ _ _) (G9 (h _ _) _ _ _ _)⟩
 |seq a b iha ihb=>
  intro Q Q' h pe L st hh
  refine iha _ _ ?_ pe L st hh
  intro e pe L st q
  cases e with
  |normal=>exact ihb _ _ h pe L st q
  |_=>exact h _ _ _ _ q
 |cond c a b iha ihb=>intro Q Q' h pe L st hh;exact Rj (iha _ _ h pe L st) (ihb _ _ h pe L st) hh
 |block i b ih=>
  intro Q Q' h pe L st hh
  refine ih _ _ ?_ pe L st hh
  intro e pe L st q
  cases e with
  |exit j=>
   simp only [Tx] at *
   cases hb:Nat.beq j i with
   |true=>rw [hb] at q;exact h _ _ _ _ q
   |false=>rw [hb] at q;exact h _ _ _ _ q
  |_=>exact h _ _ _ _ q
 |loop b ih=>
  intro Q Q' h pe L st hh
  obtain ⟨h0,keep,hh⟩:=hh
  refine ⟨h0,keep,fun X hX=>hh X fun vs os q=>hX vs os (ih _ _ ?_ _ _ _ q)⟩
  intro e pe L st q
  cases e with
  |normal=>exact q
  |_=>exact h _ _ _ _ q
 |scope b ih=>intro _ _ _ _ _ _ hh;exact hh.elim
 |rangeFunc=>intro _ _ _ _ _ _ hh;exact hh.elim
 |goto=>intro _ _ _ _ _ _ hh;exact hh.elim
 |refuse=>intro _ _ _ _ _ _ hh;exact hh.elim
theorem awx {P:Program} {T:eg}:∀ (c:Code) (bd:Nat) (Q Q':QL),(∀ e L st,Q e L st→Q' e L st)→∀ L st,wl P T bd c Q L st→wl P T bd c Q' L st:=by
 intro c
 induction c with
 |skip=>intro bd Q Q' h L st hh;exact h _ _ _ hh
 |label l=>intro bd Q Q' h L st hh;exact h _ _ _ hh
 |exit i=>intro bd Q Q' h L st hh;exact h _ _ _ hh
 |ret=>intro bd Q Q' h L st hh;exact h _ _ _ hh
 |region i ops draw=>
  intro bd Q Q' h L st hh
  cases draw with
  |false=>exact Hy (h _) _ _ _ hh
  |true=>exact ⟨hh.1,hh.2.imp (Ha (h _) _ _ _ _) (G9 (h _) _ _ _ _)⟩
 |seq a b iha ihb=>
  intro bd Q Q' h L st hh
  refine iha _ _ _ ?_ L st hh
  intro e L st q
  cases e with
  |normal=>exact ihb _ _ _ h L st q
  |_=>exact h _ _ _ q
 |cond c a b iha ihb=>intro bd Q Q' h L st hh;exact Rj (iha _ _ _ h L st) (ihb _ _ _ h L st) hh
 |block i b ih=>
  intro bd Q Q' h L st hh
  refine ih _ _ _ ?_ L st hh
  intro e L st q
  cases e with
  |exit j=>
   simp only [Tf] at *
   cases hb:Nat.beq j i with
   |true=>rw [hb] at q;exact h _ _ _ q
   |false=>rw [hb] at q;exact h _ _ _ q
  |_=>exact h _ _ _ q
 |loop b ih=>
  intro bd Q Q' h L st hh
  obtain ⟨keep,hh⟩:=hh
  refine ⟨keep,fun X hX=>hh X fun vs os q=>hX vs os (ih _ _ _ ?_ _ _ q)⟩
  intro e L st q
  cases e with
  |normal=>exact q
  |_=>exact h _ _ _ q
 |scope b ih=>intro bd Q Q' h L st hh;exact ih _ _ _ h L st hh
 |rangeFunc f ps a b iha ihb=>
  intro bd Q Q' h L st hh
  obtain ⟨keep,h0,hh⟩:=hh
  refine ⟨keep,h0,?_⟩
  unfold O3 at *
  split at hh
  ·unfold Nm at *
   split at hh
   ·refine ⟨hh.1,fun l=>Kv (fun p args X X' st hX hr=>⟨hr.1,hr.2.1,iha _ _ _ (fun e L st q=>(by
     cases e with
     |normal=>exact ihb _ _ _ (fun e _ st q=>hX e st q) _ _ q
     |_=>exact q.elim)) _ _ hr.2.2⟩) _ _ _ (fun e pe L st q=>(by
     cases e with
     |exit id=>exact q.elim
     |normal=>
      cases pe with
      |none=>exact h _ _ _ q
      |some e=>exact h _ _ _ q
     |ret=>
      cases pe with
      |none=>exact h _ _ _ q
      |some e=>exact h _ _ _ q)) _ _ _ (hh.2 l)⟩
   ·exact hh.elim
  ·exact hh.elim
 |goto=>intro _ _ _ _ _ _ hh;exact hh.elim
 |refuse=>intro _ _ _ _ _ _ hh;exact hh.elim
theorem J5 {P:Program} {T:eg} {bd:Nat} (c:Code) (Q Q':QL) (h:∀ e L st,Q e L st→Q' e L st) (L:SL) (st:St) (hh:wl P T bd c Q L st):wl P T bd c Q' L st:=awx c bd Q Q' h L st hh
theorem di {α:Type} {P:Program} {T:eg} {bd:Nat} {b:Code} {Q:QL} {L:SL} {st:St} (keep:List Nat) (V : α→List AV) (O : α→List (Option bh)) (I : α→Prop) (μ : α→Nat) (x : α) (hx:I x)
 (hv:kc bd keep L st=V x) (ho:gw bd keep L st=O x)
 (step:∀ x,I x→wl P T bd b (ya bd keep (fun vs os=>∃ y,I y ∧ μ y < μ x∧vs=V y∧os=O y) Q) (nq keep (V x)) (bq (O x))):sx bd (wl P T bd b) Q L st:=
 sx.of keep V O I μ x hx hv ho (fun _ _ h=>J5 b _ _ h) step
section cods
theorem lu {α:Type} (C:dn α) (l:Bool) (xs:List α):(ca C).val l xs = .vl l C.sz (xs.map (C.val l)):=id rfl
theorem ug {α:Type} (C:dn α):(ca C).sz=1:=id rfl
theorem aar:aq.sz=1:=id rfl
theorem aep:cj.sz=1:=id rfl
theorem ur:da.sz=1:=id rfl
theorem ri:bg.sz=1:=id rfl
theorem re (k:IntKind):(ay k).sz=1:=id rfl
theorem ta:bn.sz=1:=id rfl
theorem Hr (l:Bool) (x:UInt8):cj.val l x = .sc (.int .u8 x.toNat):=id rfl
theorem Xf (l:Bool) (x:UInt16):da.val l x = .sc (.int .u16 x.toNat):=id rfl
theorem Vt (l:Bool) (x:UInt32):bg.val l x = .sc (.int .u32 x.toNat):=id rfl
theorem Uu (k:IntKind) (l:Bool) (x:Int):(ay k).val l x = .sc (.int k x):=id rfl
theorem Ro (l:Bool) (x:Bool):bn.val l x = .sc (.bool x):=id rfl
theorem amr (o i:Nat):idx [] o i=none:=id rfl
theorem agc {α:Type} (C:dn α) (τ:Nat→Option Nat) (l:Bool):AV.dk τ ∘ C.val l=C.val l:=by funext x;exact P3 C τ l x
theorem Uk (l:Bool) (x:ByteArray):aq.val l x = .sc (.string x):=id rfl
theorem qg {α:Type} (C:dn α) (fr:Bool) (h:Tr bh) (a:AV) (h1:a.known=true) (h2:a.isAgg=C.agg):C.fw fr h a=C.dec fr h a.cells:=by
 unfold dn.fw;rw [h1,h2];simp
theorem W2 (fr:Bool) (h:Tr bh) (n:Int) (h0 : 0≤n) (h1:n<4294967296):bg.fw fr h (.sc (.int .u32 n))=some (UInt32.ofNat n.toNat):=by
 rw [qg _ _ _ _ rfl rfl];show ae1 (.int .u32 n)=_;simp [ae1,h0,h1]
theorem abb (fr:Bool) (h:Tr bh) (n:UInt32):bg.fw fr h (.sc (.int .u32 n.toNat))=some n:=bg.Ox fr h true n (fun _=>rfl)
theorem xk (fr:Bool) (h:Tr bh) (n:UInt16):da.fw fr h (.sc (.int .u16 n.toNat))=some n:=da.Ox fr h true n (fun _=>rfl)
theorem Vs (k:IntKind) (fr:Bool) (h:Tr bh) (n:Int):(ay k).fw fr h (.sc (.int k n))=some n:=(ay k).Ox fr h true n (fun _=>rfl)
theorem Qz (fr:Bool) (h:Tr bh) (b:Bool):bn.fw fr h (.sc (.bool b))=some b:=bn.Ox fr h true b (fun _=>rfl)
theorem Vq (fr:Bool) (h:Tr bh) (s:ByteArray):aq.fw fr h (.sc (.string s))=some s:=aq.Ox fr h true s (fun _=>rfl)
theorem B3 {α:Type} (C:dn α) (fr:Bool) (h:Tr bh) (a:AV) (h1:a.known=true) (h2:a.isAgg=false) (h3:a.cells=[a]):(ca C).fw fr h a=ek C fr h a:=by
 rw [qg _ _ _ _ h1 h2,h3];rfl
theorem aBg {α:Type} (C:dn α) (fr:Bool) (h:Tr bh) (l:Bool) (xs:List α) (hl:(l || !fr)=true):(ca C).fw fr h (.vl l C.sz (xs.map (C.val l)))=some xs:=by
 refine (ca C).Ox fr h l xs ?_
 cases fr<;>simp_all
theorem aft {α:Type} (C:dn α) (fr:Bool) (h:Tr bh):ek C fr h (.sc (.slice none 0 0))=some []:=id rfl
theorem wg {α:Type} (C:dn α) (fr:Bool) (h:Tr bh) (l:Bool) (xs:List α) (n:Nat) (hn:n=C.sz) (hl:(l || !fr)=true):ek C fr h (.vl l n (xs.map (C.val l)))=some xs:=by
 subst hn
 have:(ca C).fw fr h (.vl l C.sz (xs.map (C.val l)))=some xs:=aBg C fr h l xs hl
 rwa [B3 C fr h _ rfl rfl rfl] at this
theorem al8 {α:Type} (C:dn α) (fr:Bool) (h:Tr bh) (o off len n:Nat):ek C fr h (.sl o off len n)=bif decide (n=C.sz) then (h.get o).bind (mf C fr h off len) else none:=by
 show (bif Nat.beq n C.sz then _ else _)=_
 rw [aor]
theorem aH0 {α:Type} (C:dn α) (fr:Bool) (h:Tr bh) (n:Nat) (l:List AV):sb C fr h (n+1) l=match C.dec fr h (l.take C.sz),sb C fr h n (l.drop C.sz) with|some x,some xs=>some (x::xs)|_,_=>none:=id rfl
theorem V7 (fr:Bool) (h:Tr bh) (n:Int) (h0 : 0≤n) (h1:n<256):cj.dec fr h [.sc (.int .u8 n)]=some (UInt8.ofNat n.toNat):=by
 show u8V (.int .u8 n)=_;simp [u8V,h0,h1]
theorem aDa {α β:Type} (A:dn α) (B:dn β) (l:Bool) (p : α × β):(r2 A B).E l p = .gb [A.val l p.1,B.val l p.2]:=id rfl
theorem aBu {α:Type} (A:dn α) (l:Bool) (x : α):(r1 A).E l x=A.val l x:=id rfl
theorem ahy (T:eg) (g:Nat) (a b:Array Value) (args:List AV):u4 T (.sc (.func (.func g) a b)) args=tp T g (a.toList.map .sc++args++b.toList.map .sc):=id rfl
theorem af7 (T:eg) (g:Nat) (a b:List AV) (args:List AV):u4 T (.fn (.func g) a b) args=tp T g (a++args++b):=id rfl
theorem aal (f:Nat) (b:Bool) (m:List AV→M AV) (T:eg) (args:List AV):tp ((f,b,m)::T) f args=mono (m args):=by simp [tp,eg.find]
theorem Wt (f g:Nat) (b:Bool) (m:List AV→M AV) (T:eg) (args:List AV) (h:(f == g)=false):tp ((f,b,m)::T) g args=tp T g args:=by
 have:f≠g:=by simpa using h
 simp [tp,eg.find,nk this]
theorem afp {α:Type} (A:AC α) (F : α→Option AV) (args:List AV) (st:St):cx A F args st=match A.get .nil args with|some x=>(F x).map fun r=>(r,st)|none=>match A.get st.h args with|some x=>(match F x with|some r=>bif r.fresh then some (r,st) else none|none=>none)|none=>none:=id rfl
theorem aBv {α β:Type} (A:dn α) (B:dn β) (fr:Bool) (h:Tr bh) (a b:AV):(r2 A B).get fr h (.gb [a,b])=match A.fw fr h a,B.fw fr h b with|some x,some y=>some (x,y)|_,_=>none:=id rfl
theorem aC2 (h:Tr bh):a0.get h []=some ():=id rfl
theorem aEa {α β:Type} (C:dn α) (R:AC β) (h:Tr bh) (a:AV) (r:List AV):(aC C R).get h (a::r)=match C.fw false h a,R.get h r with|some x,some y=>some (x,y)|_,_=>none:=id rfl
theorem aB3 {α:Type} (A:dn α) (fr:Bool) (h:Tr bh) (a:AV):(r1 A).get fr h a=A.fw fr h a:=id rfl
end cods
section
variable (P : Program)
theorem ab3 (pl:Nat→Option (Nat × Nat)) (cells:List AV):w8 pl cells []=some cells:=id rfl
theorem W9 (pl:Nat→Option (Nat × Nat)) (cells:List AV) (i:Nat) (v:AV) (rest:List (Nat × AV)):w8 pl cells ((i,v)::rest)=match pl i with
 |none=>none
 |some (off,size)=>bif !v.known || !(Nat.beq v.cells.length size) || !(Nat.ble (off+size) cells.length) then none else w8 pl (cells.take off++v.cells++cells.drop (off+size)) rest:=id rfl
def r9 (t:TypeId):Option (List AV × List (Nat × Nat)):=
 match ew P t,P.underlying t with
 |some z,some (.struct fields)=>(J2 P fields).map fun pl=>(z.cells.toList.map .sc,pl)
 |_,_=>none
theorem Wy (t:TypeId) (ps:List (Nat × AV)):ry P t ps=match r9 P t with
 |some (z,pl)=>.of ((w8 (fun i=>pl[i]?) z ps).map .agg)
 |none=>ry P t ps:=by
 cases hb:r9 P t with
 |none=>rfl
 |some q=>
  obtain ⟨z,pl⟩:=q
  simp only [r9] at hb
  split at hb
  ·rename_i z' fs hz hu
   cases hp:J2 P fs with
   |none=>simp [hp] at hb
   |some pl'=>
    simp [hp] at hb
    obtain ⟨rfl,rfl⟩:=hb
    simp [ry,hz,hu,hp]
  ·cases hb
def zi (t:TypeId):Option (TypeId × Nat × List AV):=
 match qc P t with
 |none=>none
 |some e=>
  match dp P e,ew P e with
  |some sz,some z=>bif Nat.beq z.cells.size sz then some (e,sz,z.cells.toList.map .sc) else none
  |_,_=>none
theorem Hs (t:TypeId) (len:Nat) (ps:List (Nat × AV)):js P t len ps=match zi P t with
 |some (e,sz,z)=>
  match w8 (fun i=>some (i * sz,sz)) (List.replicate len z).flatten ps with
  |some cells=>bif Nat.ble (len * sz) 16777216 && Nat.ble len 16777216 then lr e sz len cells else .fail
  |none=>.fail
 |none=>js P t len ps:=by
 cases hb:zi P t with
 |none=>rfl
 |some q=>
  obtain ⟨e,sz,z⟩:=q
  simp only [zi] at hb
  split at hb
  ·cases hb
  ·rename_i e' he
   split at hb
   ·rename_i sz' z' hs hz
    cases hq:Nat.beq z'.cells.size sz' with
    |false=>simp [hq] at hb
    |true=>
     simp [hq] at hb
     obtain ⟨rfl,rfl,rfl⟩:=hb
     simp only [js,he,hs,hz,hq,Bool.and_true]
     rfl
   ·cases hb
end
section ranges
variable (P : Program) (T : eg) (l bd : Nat) (R : I0) (Q : QI) (pe : Option Ex) (L : SL) (st : St)
theorem aeu (f:Operand) (ps:Array Tmp) (a b:Code) (Q:QL):wl P T bd (.rangeFunc f ps a b) Q L st=atd P T f ps.toList (fun p=>wl P T p a) (fun p=>wl P T p b) bd Q L st:=id rfl
theorem aen:nw P T l R bd .skip Q pe L st=Q .normal pe L st:=id rfl
theorem W0 (i:Nat) (ops:Array Oper):nw P T l R bd (.region i ops false) Q pe L st=F0 P T l R bd ops ops.toList (Q .normal) pe L st:=id rfl
theorem aif (i:Nat) (ops:Array Oper):nw P T l R bd (.region i ops true) Q pe L st=Bq P T ops true (Q .normal pe) L st:=id rfl
theorem am4 (a b:Code):nw P T l R bd (.seq a b) Q pe L st=nw P T l R bd a (aip (nw P T l R bd b) Q) pe L st:=id rfl
theorem aef (c:Operand) (a b:Code):nw P T l R bd (.cond c a b) Q pe L st=y9 (db L c) (nw P T l R bd a Q) (nw P T l R bd b Q) pe L st:=id rfl
theorem aa8 (i:Nat) (a:Code):nw P T l R bd (.block i a) Q pe L st=nw P T l R bd a (Tx i Q) pe L st:=id rfl
theorem afe (i:Nat):nw P T l R bd (.exit i) Q pe L st=Q (.exit i) pe L st:=id rfl
theorem amu:nw P T l R bd .ret Q pe L st=Q .ret pe L st:=id rfl
theorem at1 (W:QI→Option Ex→SL→St→Prop):aip W Q .normal pe L st=W Q pe L st:=id rfl
theorem asr (W:QI→Option Ex→SL→St→Prop) (i:Nat):aip W Q (.exit i) pe L st=Q (.exit i) pe L st:=id rfl
theorem arz (W:QI→Option Ex→SL→St→Prop):aip W Q .ret pe L st=Q .ret pe L st:=id rfl
theorem as9 (i:Nat):Tx i Q .normal pe L st=Q .normal pe L st:=id rfl
theorem aqy (i:Nat):Tx i Q .ret pe L st=Q .ret pe L st:=id rfl
theorem art (i j:Nat):Tx i Q (.exit j) pe L st=if j=i then Q .normal pe L st else Q (.exit j) pe L st:=by
 show (bif Nat.beq j i then _ else _)=_
 rw [aor];by_cases h:j=i<;>simp [h]
theorem ali (Q':QL):vd Q' Q .normal pe L st=(pe=none∧Q' .normal L st):=id rfl
theorem amc (Q':QL) (i:Nat):vd Q' Q (.exit i) pe L st=Q (.exit i) pe L st:=id rfl
theorem al3 (Q':QL):vd Q' Q .ret pe L st=Q .ret pe L st:=id rfl
theorem amw (Q:QL) (L0:SL):Yo Q L0 .normal none L st=Q .normal L0 st:=id rfl
theorem am0 (Q:QL) (L0:SL):Yo Q L0 .ret none L st=Q .normal L0 st:=id rfl
theorem am1 (Q:QL) (L0:SL) (e:Ex):Yo Q L0 .ret (some e) L st=Q e L0 st:=id rfl
theorem aez (ops:Array Oper) (K:Option Ex→SL→St→Prop):F0 P T l R bd ops [] K pe L st=K pe L st:=id rfl
theorem abp (ops:Array Oper) (o:Oper) (r:List Oper) (K:Option Ex→SL→St→Prop):F0 P T l R bd ops (o::r) K pe L st=Kq ops o.guard (opI P T l R bd o (F0 P T l R bd ops r K)) (X6 o.dst (F0 P T l R bd ops r K)) pe L st:=id rfl
theorem Vn (ops:Array Oper) (X Y:Option Ex→SL→St→Prop):Kq ops none X Y pe L st=X pe L st:=id rfl
theorem Wg (ops:Array Oper) (j:Nat) (c:Bool) (X Y:Option Ex→SL→St→Prop):Kq ops (some (j,c)) X Y pe L st=Fu (lk L (u9 ops j)) c X Y pe L st:=id rfl
theorem agt (b:Bool) (X Y:Option Ex→SL→St→Prop):Fu (.sc (.bool b)) true X Y pe L st=y9 (.sc (.bool b)) X Y pe L st:=by cases b<;>simp [Fu,x7,y5,Cv,y9,qo,AV.bool,AV.exact,o0]
theorem ajc (b:Bool) (X Y:Option Ex→SL→St→Prop):Fu (.sc (.bool b)) false X Y pe L st=y9 (.sc (.bool b)) Y X pe L st:=by cases b<;>simp [Fu,x7,y5,Cv,y9,qo,AV.bool,AV.exact,o0]
theorem ahd (c:Bool) (X Y:Option Ex→SL→St→Prop):Fu (.sc undef) c X Y pe L st=Y pe L st:=by simp [Fu,x7,y5,Cv,AV.exact,undef]
theorem al1 (X Y:Option Ex→SL→St→Prop):y9 (.sc (.bool true)) X Y pe L st=X pe L st:=by simp [y9,qo,AV.bool,AV.exact,o0]
theorem amy (X Y:Option Ex→SL→St→Prop):y9 (.sc (.bool false)) X Y pe L st=Y pe L st:=by simp [y9,qo,AV.bool,AV.exact,o0]
theorem ub (b:Bool) (X Y:Option Ex→SL→St→Prop):y9 (.sc (.bool b)) X Y pe L st=((b=true→X pe L st)∧(b=false→Y pe L st)):=by simp [y9,qo,AV.bool,AV.exact,o0]
theorem Uq (d:Option Tmp) (K:Option Ex→SL→St→Prop):X6 d K pe L st=K pe (ia d (.sc undef) L) st:=id rfl
theorem asb (o:Oper) (K:Option Ex→SL→St→Prop):opI P T l R bd o K pe L st=Y5 P T R bd o K pe L st (yieldOf l o L):=id rfl
theorem au2 (o:Oper) (K:Option Ex→SL→St→Prop):Y5 P T R bd o K pe L st none=J6 (fo P T o (db L) st) o.dst L (K pe):=id rfl
theorem af4 (d:Option Tmp) (K:Option Ex→SL→St→Prop):afi d L K .normal st=K none (ia d (.sc (.bool true)) L) st:=id rfl
theorem ago (d:Option Tmp) (K:Option Ex→SL→St→Prop):afi d L K .ret st=K (some .ret) (ia d (.sc (.bool false)) L) st:=id rfl
theorem am6 (B:QL→SL→St→Prop) (X:Ex→St→Prop):azi B X .normal L st=B (fun e _ st=>X e st) L st:=id rfl
theorem abh (k:Nat) (va vb:Array Value):z5 l (.sc (.func (.yield k) va vb))=(Nat.beq k l && Nat.beq va.size 0 && Nat.beq vb.size 0):=id rfl
theorem abw (k:Nat) (va vb:Array Value):z5 l (.sc (.func (.func k) va vb))=false:=id rfl
theorem Rp:zq [] [] L=L:=id rfl
theorem Nu (t:Nat) (ts:List Nat) (v:AV) (vs:List AV):zq (t::ts) (v::vs) L=zq ts vs ((t,v)::L):=id rfl
theorem awr {α:Type} {b:Code} (keep:List Nat) (V : α→List AV) (O : α→List (Option bh)) (I : α→Prop) (μ : α→Nat) (x : α) (hx:I x) (hR:∀ p args (X X':Ex→St→Prop) st,(∀ e st,X e st→X' e st)→R p args X st→R p args X' st)
 (hv:kc bd keep L st=V x) (ho:gw bd keep L st=O x)
 (step:∀ x,I x→nw P T l R bd b (vd (ya bd keep (fun vs os=>∃ y,I y ∧ μ y < μ x∧vs=V y∧os=O y) (fun _ _ _=>False)) Q) none (nq keep (V x)) (bq (O x))):nw P T l R bd (.loop b) Q none L st:=
 ⟨rfl,sx.of (B:=fun Q' L st=>nw P T l R bd b (vd Q' Q) none L st) keep V O I μ x hx hv ho (fun Q1 Q2 h L st hh=>Kv hR b _ _ (fun e pe L st q=>by
  cases e with
  |normal=>exact ⟨q.1,h _ _ _ q.2⟩
  |ret=>exact q
  |exit i=>exact q) none L st hh) step⟩
theorem Iu {ps:List Tmp} {a b:Code} {L0:SL}:∀ p args (X X':Ex→St→Prop) st,(∀ e st,X e st→X' e st)→je ps (fun p=>wl P T p a) (fun p=>wl P T p b) L0 p args X st→je ps (fun p=>wl P T p a) (fun p=>wl P T p b) L0 p args X' st:=
 fun p args X X' st hX hr=>⟨hr.1,hr.2.1,J5 _ _ _ (fun e L st q=>by
  cases e with
  |normal=>exact J5 _ _ _ (fun e _ st q=>hX e st q) _ _ q
  |_=>exact q.elim) _ _ hr.2.2⟩
end ranges
section yields
variable {lp : Nat} {L : SL} {d : Option Tmp} {ty : TypeId} {pos : String} {af : Array Edge} {gd : Option (Nat × Bool)}
theorem Pf (x):yieldOf lp ⟨d,.move x,ty,pos,af,gd⟩ L=none:=id rfl
theorem Jl (x):yieldOf lp ⟨d,.assign x,ty,pos,af,gd⟩ L=none:=id rfl
theorem Oh (t a):yieldOf lp ⟨d,.load t a,ty,pos,af,gd⟩ L=none:=id rfl
theorem Ec (s x f):yieldOf lp ⟨d,.fieldAddr s x f,ty,pos,af,gd⟩ L=none:=id rfl
theorem L5 (op t x y u):yieldOf lp ⟨d,.binOp op t x y u,ty,pos,af,gd⟩ L=none:=id rfl
theorem Ou (c a b):yieldOf lp ⟨d,.pick c a b,ty,pos,af,gd⟩ L=none:=id rfl
theorem L9 (t a x):yieldOf lp ⟨d,.store t a x,ty,pos,af,gd⟩ L=none:=id rfl
theorem Hd (t i):yieldOf lp ⟨d,.extract t i,ty,pos,af,gd⟩ L=none:=id rfl
theorem Ed (t x i):yieldOf lp ⟨d,.indexAddr t x i,ty,pos,af,gd⟩ L=none:=id rfl
theorem Mh (t):yieldOf lp ⟨d,.alloc t,ty,pos,af,gd⟩ L=none:=id rfl
theorem Lw (t ps):yieldOf lp ⟨d,.build t ps,ty,pos,af,gd⟩ L=none:=id rfl
theorem Dg (t n ps):yieldOf lp ⟨d,.buildSlice t n ps,ty,pos,af,gd⟩ L=none:=id rfl
theorem G0 (f a b):yieldOf lp ⟨d,.makeFunc f a b,ty,pos,af,gd⟩ L=none:=id rfl
theorem Nj (op t x):yieldOf lp ⟨d,.unOp op t x,ty,pos,af,gd⟩ L=none:=id rfl
theorem S5 (x ts):yieldOf lp ⟨d,.call { callee:=.builtin .len,args:=#[x],argTypes:=ts },ty,pos,af,gd⟩ L=none:=id rfl
theorem Ke (s x ts):yieldOf lp ⟨d,.call { callee:=.builtin .append,args:=#[s,x],argTypes:=ts },ty,pos,af,gd⟩ L=none:=id rfl
theorem O6 (f:Operand) (args:Array Operand) (ts:Array TypeId):yieldOf lp ⟨d,.call { callee:=.value f,args:=args,argTypes:=ts },ty,pos,af,gd⟩ L=bif z5 lp (db L f) then some args else none:=id rfl
end yields
end
end Go.Vm
namespace Go.Vm
noncomputable section
section
variable (P : Program) (ρ : Operand → AV) (d : Option Tmp) (ty : TypeId) (pos : String) (af : Array Edge) (gd : Option (Nat × Bool)) (t u : TypeId) (x y : Operand)
theorem Pb (op:BinOp) (k k':IntKind) (a b:Int) (hx : ρ x = .sc (.int k a)) (hy : ρ y = .sc (.int k' b)) :
 me P ρ ⟨d,.binOp op t x y u,ty,pos,af,gd⟩ op t (.sc (.int k a)) (.sc (.int k' b))=M.of ((ev P (binOp op t (.int k a) (.int k' b))).map .sc):=by
 have h1:∀ s:Sem Value,ev P (do pure (Next.value (← s)))=(ev P s).map Next.value:=by
  intro s
  induction s with
  |pure b=>rfl
  |program k ih=>exact ih P
  |choose q k ih=>
   simp only [bind,Sem.bind,ev]
   split
   ·exact ih 0
   ·rfl
  |mark m k ih=>exact ih
  |_=>rfl
 have h2:execOp (fun z=>((ρ z).ft).getD undef) ⟨d,.binOp op t x y u,ty,pos,af,gd⟩=(do pure (Next.value (← (do eqGuard op t x y (.int k a) (.int k' b);binOp op t (.int k a) (.int k' b))))):=by
  simp only [execOp,hx,hy,AV.ft,Option.getD_some]
 have h3:ev P (do eqGuard op t x y (.int k a) (.int k' b);binOp op t (.int k a) (.int k' b))=ev P (binOp op t (.int k a) (.int k' b)):=by
  cases op<;>rfl
 unfold me si
 simp only [AV.ft,Option.isSome_some,Bool.and_self,cond_true]
 rw [h2,h1,h3]
 cases ev P (binOp op t (.int k a) (.int k' b))<;>rfl
theorem arv (k k':IntKind) (a b:Int) (h : 0≤b):ev P (binOp .shl t (.int k a) (.int k' b))=some (.int k (k.wrap (a * 2 ^ (min b.toNat k.bits)))):=by
 have:¬ b<0:=by omega
 simp [binOp,Op.shift,this,uc]
theorem atk (k k':IntKind) (a b:Int) (h : 0≤b):ev P (binOp .shr t (.int k a) (.int k' b))=some (.int k (a.fdiv (2 ^ (min b.toNat k.bits)))):=by
 have:¬ b<0:=by omega
 simp [binOp,Op.shift,this,uc]
theorem ayv (k:IntKind) (a b:Int):ev P (binOp .or t (.int k a) (.int k b))=some (.int k (k.wrap (((a % 2 ^ k.bits).toNat ||| (b % 2 ^ k.bits).toNat:Nat):Int))):=by
 simp [binOp,Op.intBits,uc]
theorem aDq (k:IntKind) (a b:Int) (h:b≠0):ev P (binOp .rem t (.int k a) (.int k b))=some (.int k (a.tmod b)):=by
 simp [binOp,Op.intDiv,uc,h]
theorem L6 (op:BinOp) (a b:Bool) (hx : ρ x = .sc (.bool a)) (hy : ρ y = .sc (.bool b)) :
 me P ρ ⟨d,.binOp op t x y u,ty,pos,af,gd⟩ op t (.sc (.bool a)) (.sc (.bool b))=M.of ((ev P (binOp op t (.bool a) (.bool b))).map .sc):=by
 have h1:∀ s:Sem Value,ev P (do pure (Next.value (← s)))=(ev P s).map Next.value:=by
  intro s
  induction s with
  |pure b=>rfl
  |program k ih=>exact ih P
  |choose q k ih=>
   simp only [bind,Sem.bind,ev]
   split
   ·exact ih 0
   ·rfl
  |mark m k ih=>exact ih
  |_=>rfl
 have h2:execOp (fun z=>((ρ z).ft).getD undef) ⟨d,.binOp op t x y u,ty,pos,af,gd⟩=(do pure (Next.value (← (do eqGuard op t x y (.bool a) (.bool b);binOp op t (.bool a) (.bool b))))):=by
  simp only [execOp,hx,hy,AV.ft,Option.getD_some]
 have h3:ev P (do eqGuard op t x y (.bool a) (.bool b);binOp op t (.bool a) (.bool b))=ev P (binOp op t (.bool a) (.bool b)):=by
  cases op<;>rfl
 unfold me si
 simp only [AV.ft,Option.isSome_some,Bool.and_self,cond_true]
 rw [h2,h1,h3]
 cases ev P (binOp op t (.bool a) (.bool b))<;>rfl
theorem ahx {d:TypeDesc} (h:P.underlying t=some d):ev P (underlying t)=some d:=by
 rw [underlying]
 show ev P (match P.underlying t with|some d=>pure d|none=>_)=_
 rw [h];rfl
theorem aeb (n:Nat) (a b:Bool) (h:P.underlying t=some .bool):ev P (Op.equalIn (n+1) t (.bool a) (.bool b))=some (a == b):=by
 simp only [Op.equalIn]
 rw [ny,ahx P t h]
 rfl
theorem Rn (a b:Bool) (h:P.underlying t=some .bool):ev P (binOp .eql t (.bool a) (.bool b))=some (.bool (a == b)):=by
 show ev P (do pure (Value.bool (← Op.equalIn (9999+1) t (.bool a) (.bool b))))=_
 rw [ny,aeb P t 9999 a b h]
 rfl
theorem Oq (op:BinOp) (a b:ByteArray) (hx : ρ x = .sc (.string a)) (hy : ρ y = .sc (.string b)) :
 me P ρ ⟨d,.binOp op t x y u,ty,pos,af,gd⟩ op t (.sc (.string a)) (.sc (.string b))=M.of ((ev P (binOp op t (.string a) (.string b))).map .sc):=by
 have h1:∀ s:Sem Value,ev P (do pure (Next.value (← s)))=(ev P s).map Next.value:=by
  intro s
  induction s with
  |pure b=>rfl
  |program k ih=>exact ih P
  |choose q k ih=>
   simp only [bind,Sem.bind,ev]
   split
   ·exact ih 0
   ·rfl
  |mark m k ih=>exact ih
  |_=>rfl
 have h2:execOp (fun z=>((ρ z).ft).getD undef) ⟨d,.binOp op t x y u,ty,pos,af,gd⟩=(do pure (Next.value (← (do eqGuard op t x y (.string a) (.string b);binOp op t (.string a) (.string b))))):=by
  simp only [execOp,hx,hy,AV.ft,Option.getD_some]
 have h3:ev P (do eqGuard op t x y (.string a) (.string b);binOp op t (.string a) (.string b))=ev P (binOp op t (.string a) (.string b)):=by
  cases op<;>rfl
 unfold me si
 simp only [AV.ft,Option.isSome_some,Bool.and_self,cond_true]
 rw [h2,h1,h3]
 cases ev P (binOp op t (.string a) (.string b))<;>rfl
theorem str_eq (a b:ByteArray):(a.toList == b.toList)=decide (a=b):=by
 rw [ByteArray.toList_eq,ByteArray.toList_eq,Bool.eq_iff_iff]
 simp only [beq_iff_eq,decide_eq_true_eq]
 constructor
 ·intro h
  cases a;cases b
  congr 1
  exact Array.ext' h
 ·intro h;rw [h]
theorem Uh (a b:ByteArray):ev P (binOp .eql t (.string a) (.string b))=some (.bool (decide (a=b))):=by
 rw [← str_eq];rfl
theorem Xc (a b:ByteArray):ev P (binOp .neq t (.string a) (.string b))=some (.bool (!decide (a=b))):=by
 rw [← str_eq];rfl
end
def Py (u:Option TypeDesc):Bool:=match u with|some (.slice _)=>true|_=>false
theorem ang (e):Py (some (.slice e))=true:=id rfl
theorem amp {u} (h:Py u=true):∃ e,u=some (.slice e):=by
 unfold Py at h;split at h
 ·exact ⟨_,rfl⟩
 ·cases h
theorem am8 {P:Program} {t op x y} (h:Py (P.underlying t)=true):Hz P t op x y=Fe op x y:=by
 obtain ⟨e,he⟩:=amp h
 unfold Hz;rw [he]
theorem Ws (P:Program) (ρ o op t l sz es b):me P ρ o op t (.vl l sz es) b=Hz P t op (.vl l sz es) b:=id rfl
theorem alm (b):pf .eql b=M.pure (.sc (.bool b)):=id rfl
theorem J1 (P:Program) (ρ:Operand→AV) (d ty pos af gd) (t u:TypeId) (x y:Operand) (op:BinOp) (a b:Option Addr) (n c m k:Nat) (hx : ρ x = .sc (.slice a n c)) (hy : ρ y = .sc (.slice b m k)) :
 me P ρ ⟨d,.binOp op t x y u,ty,pos,af,gd⟩ op t (.sc (.slice a n c)) (.sc (.slice b m k))=M.of ((ev P (binOp op t (.slice a n c) (.slice b m k))).map .sc):=by
 have h1:∀ s:Sem Value,ev P (do pure (Next.value (← s)))=(ev P s).map Next.value:=by
  intro s
  induction s with
  |pure b=>rfl
  |program k ih=>exact ih P
  |choose q k ih=>
   simp only [bind,Sem.bind,ev]
   split
   ·exact ih 0
   ·rfl
  |mark m k ih=>exact ih
  |_=>rfl
 have h2:execOp (fun z=>((ρ z).ft).getD undef) ⟨d,.binOp op t x y u,ty,pos,af,gd⟩=(do pure (Next.value (← (do eqGuard op t x y (.slice a n c) (.slice b m k);binOp op t (.slice a n c) (.slice b m k))))):=by
  simp only [execOp,hx,hy,AV.ft,Option.getD_some]
 have h3:ev P (do eqGuard op t x y (.slice a n c) (.slice b m k);binOp op t (.slice a n c) (.slice b m k))=ev P (binOp op t (.slice a n c) (.slice b m k)):=by
  cases op<;>rfl
 unfold me si
 simp only [AV.ft,Option.isSome_some,Bool.and_self,cond_true]
 rw [h2,h1,h3]
 cases ev P (binOp op t (.slice a n c) (.slice b m k))<;>rfl
theorem ac4 {P:Program} {t:TypeId} {a:Option Addr} {n c m k:Nat} (d:Nat) (h:Py (P.underlying t)=true):ev P (Op.equalIn (d+1) t (.slice a n c) (.slice none m k))=some a.isNone:=by
 obtain ⟨e,he⟩:=amp h
 simp only [Op.equalIn]
 rw [ny,ahx P t he]
 cases a<;>rfl
theorem Ng {P:Program} {t:TypeId} {a:Option Addr} {n c m k:Nat} (h:Py (P.underlying t)=true):ev P (binOp .eql t (.slice a n c) (.slice none m k))=some (.bool a.isNone):=by
 show ev P (do pure (Value.bool (← Op.equalIn (9999+1) t (.slice a n c) (.slice none m k))))=_
 rw [ny,ac4 9999 h]
 rfl
end
end Go.Vm
namespace Go.Vm
noncomputable section
abbrev Name:=List ByteArray
structure c0 where
 names:List Name
 nums:List UInt32
 texts:List ByteArray
 raw:List UInt8
def mkD (a:List Name) (b:List UInt32) (c:List ByteArray) (e:List UInt8):c0:=⟨a,b,c,e⟩
theorem alx (d:c0):mkD d.names d.nums d.texts d.raw=d:=id rfl
noncomputable def aw:dn Name:=ca aq
noncomputable def bz:dn c0:=vv (iz (ca aw) (iz (ca bg) (iz aw (ca cj)))) (fun d=>(d.names,d.nums,d.texts,d.raw)) (fun p=>⟨p.1,p.2.1,p.2.2.1,p.2.2.2⟩) (fun _=>rfl) (fun _=>rfl)
theorem dm (l:Bool) (n:Name):aw.val l n = .vl l 1 (n.map (aq.val l)):=id rfl
theorem n6:aw.sz=1:=id rfl
theorem Xy:bz.sz=4:=id rfl
theorem ku (l:Bool) (d:c0):bz.val l d = .agg [.vl l 1 (d.names.map (aw.val l)),.vl l 1 (d.nums.map (bg.val l)),.vl l 1 (d.texts.map (aq.val l)),.vl l 1 (d.raw.map (cj.val l))]:=id rfl
theorem Sr (fr:Bool) (h:Tr bh) (x1 x2 x3 x4:AV) :
 bz.fw fr h (.agg [x1,x2,x3,x4])=match ek aw fr h x1,ek bg fr h x2,ek aq fr h x3,ek cj fr h x4 with
  |some a,some b,some c,some e=>some (mkD a b c e)
  |_,_,_,_=>none:=by
 rw [qg _ _ _ _ rfl rfl]
 have h1:bz.dec fr h (AV.agg [x1,x2,x3,x4]).cells=Option.map (fun p=>(⟨p.1,p.2.1,p.2.2.1,p.2.2.2⟩:c0)) ((iz (ca aw) (iz (ca bg) (iz aw (ca cj)))).dec fr h [x1,x2,x3,x4]):=rfl
 have d2:∀ {α β:Type} (A:dn α) (B:dn β) (l:List AV),(iz A B).dec fr h l=match A.dec fr h (l.take A.sz),B.dec fr h (l.drop A.sz) with|some x,some y=>some (x,y)|_,_=>none:=fun _ _ _=>rfl
 have l1:∀ {α:Type} (C:dn α) (x:AV),(ca C).dec fr h [x]=ek C fr h x:=fun _ _=>rfl
 have n1:∀ x,aw.dec fr h [x]=ek aq fr h x:=fun _=>rfl
 rw [h1]
 simp only [d2,ug,n6,List.take_succ_cons,List.take_zero,List.drop_succ_cons,List.drop_zero,l1,n1]
 cases ek aw fr h x1<;>cases ek bg fr h x2<;>cases ek aq fr h x3<;>cases ek cj fr h x4<;>rfl
theorem Nz {α:Type} (C:dn α) (fr:Bool) (h:Tr bh) (l:Bool) (n:Nat) (es:List AV):(ca C).fw fr h (.vl l n es)=ek C fr h (.vl l n es):=B3 C fr h _ rfl rfl rfl
theorem M1 {α:Type} (C:dn α) (fr:Bool) (h:Tr bh) (o off len n:Nat):(ca C).fw fr h (.sl o off len n)=ek C fr h (.sl o off len n):=B3 C fr h _ rfl rfl rfl
theorem D9 {α:Type} (C:dn α) (fr:Bool) (h:Tr bh):(ca C).fw fr h (.sc (.slice none 0 0))=some []:=by
 rw [B3 C fr h _ rfl rfl rfl];rfl
theorem Ho (fr:Bool) (h:Tr bh) (l:Bool) (n:Nat) (es:List AV):aw.fw fr h (.vl l n es)=ek aq fr h (.vl l n es):=B3 aq fr h _ rfl rfl rfl
theorem Hp (fr:Bool) (h:Tr bh) (o off len n:Nat):aw.fw fr h (.sl o off len n)=ek aq fr h (.sl o off len n):=B3 aq fr h _ rfl rfl rfl
theorem Gj (fr:Bool) (h:Tr bh):aw.fw fr h (.sc (.slice none 0 0))=some []:=D9 aq fr h
theorem G1 (l:List UInt8):l.map B9=l.map (cj.val false):=id rfl
theorem Mo {α:Type} (C:dn α) (b:Bool) (l:List α):AV.names.go (l.map (C.val b))=[]:=Ij (fun c hc=>by
 obtain ⟨x,_,rfl⟩:=List.mem_map.1 hc
 exact O9 C b x)
theorem yy:∀ (l:List UInt8) (b:Bool),bytesOf (l.map (cj.val b))=some l
 | [],_=>rfl
 |c::l,b=>by
  rw [List.map_cons,Hr,bytesOf,yy l b]
  simp
end
end Go.Vm
section
namespace Go.Vm.Cx
open Go.Vm
noncomputable section
theorem Dt {P:Program} (w:World):∀ (ns:List Int) (a:Addr) (i:Nat) (acc:ByteArray),(∀ (j:Nat) x,ns[j]? = some x→(load (a.add (i+j))).run P w = .ok (.int .u8 x) w) →
 (Extern.Bytes.loadBytes (a.add i) ns.length acc).run P w = .ok ⟨acc.data++(ns.map fun n=>UInt8.ofNat n.toNat).toArray⟩ w
 | [],a,i,acc,_=>by simp [Extern.Bytes.loadBytes]
 |x::l,a,i,acc,h=>by
  have h0:=h 0 x rfl
  rw [Nat.add_zero] at h0
  have e:(a.add i).add 1=a.add (i+1):=by
   unfold Addr.add
   by_cases hj:i=0
   ·subst hj;simp
   ·simp [hj];omega
  have ih:=Dt (P:=P) w l a (i+1) (acc.push x.toNat.toUInt8) (fun j y hy=>by
   have:=h (j+1) y (by simpa using hy)
   rw [show i+1+j=i+(j+1) from by omega];exact this)
  simp only [List.length_cons,Extern.Bytes.loadBytes,Sem.run_bind,h0,Result.andThen]
  rw [e,ih]
  congr 1
  apply ByteArray.ext
  simp [ByteArray.push,Nat.toUInt8]
theorem Ym {l:List Int} {l':List Value} (h:l'=l.map (Value.int .u8)) (j:Nat) (x:Int) (hx:l[j]? = some x):l'[j]? = some (.int .u8 x):=by rw [h,List.getElem?_map,hx];rfl
theorem Dk {P:Program} {g st bp w} {a:AV} {v:Value} {l:List AV} {bs:List UInt8} (hok:Ok g st.h w) (hr:Rel g w a v) (h:cellsIn 1 a st=some (l,bp)) (hb:bytesOf l=some bs) :
 (Extern.Bytes.bytesOf v).run P w = .ok ⟨bs.toArray⟩ w:=by
 obtain ⟨_,_,n,news,hsrc,hrl⟩:=x8 (P:=P) hok hr h
 obtain ⟨ns,e1,e2⟩:=Ef _ _ _ hrl hb
 obtain ⟨r1,r2⟩:=hsrc.run w rfl
 cases v with
 |slice p len cap=>
  have hn:n=len:=by simp [Builtin.lenOf] at r1;exact r1.symm
  subst hn
  cases p with
  |none=>
   have:news=[]:=by simpa [Builtin.firstCells] using r2
   subst this
   have:ns=[]:=by simpa using e1.symm
   subst this
   subst e2
   rfl
  |some a=>
   simp only [Builtin.firstCells,Nat.mul_one] at r2
   unfold loadCells at r2
   obtain ⟨l',q1,q2,q3⟩:=loadCellsFrom_ok a n 0 #[] _ _ r2
   have hl':l'=news:=by simpa using q2.symm
   subst hl'
   have hlen:ns.length=n:=by rw [← q1,e1,List.length_map]
   have:=Dt (P:=P) w ns a 0 .empty (fun j x hx=>by
    exact q3 j _ (Ym e1 j x hx))
   rw [hlen] at this
   have e0:a.add 0=a:=by simp [Addr.add]
   rw [e0] at this
   show (Extern.Bytes.loadBytes a n .empty).run P w=_
   rw [this,e2]
   congr 2
   simp [ByteArray.empty,ByteArray.emptyWithCapacity]
   rfl
 |string s=>
  have hn:n=s.size:=by simp [Builtin.lenOf] at r1;exact r1.symm
  subst hn
  simp only [Builtin.firstCells,Sem.run_pure,Result.ok.injEq,and_true] at r2
  have h1:=congrArg Array.toList r2
  rw [e1] at h1
  show Result.ok s w=_
  congr 1
  apply ByteArray.ext
  apply Array.ext'
  rw [e2]
  have h2:=congrArg (List.map fun v:Value=>match v with|.int _ n=>UInt8.ofNat n.toNat|_=>0) h1
  simp only [List.map_map,Array.toList_map] at h2
  have h3:(s.extract 0 s.size).data.toList=s.data.toList:=by simp
  rw [h3] at h2
  have h4:(List.map ((fun v:Value=>match v with|.int _ n=>UInt8.ofNat n.toNat|_=>0) ∘ fun b:UInt8=>Value.int .u8 (b.toNat:Int)) s.data.toList)=s.data.toList:=by
   rw [show ((fun v:Value=>match v with|.int _ n=>UInt8.ofNat n.toNat|_=>0) ∘ fun b:UInt8=>Value.int .u8 (b.toNat:Int))=id from by funext b;simp]
   simp
  rw [h4] at h2
  rw [h2]
  simp
 |_=>simp [Builtin.lenOf,stuck] at r1
def q9 (args:List AV):M AV:=
 match args with
 | [a]=>.pure a
 |_=>.fail
def fm (args:List AV):M AV:=
 match args with
 | [a,b]=>(cellsIn 1 a).bind fun x=>(cellsIn 1 b).bind fun y=>
  match bytesOf x with
  |some x=>
   match bytesOf y with
   |some y=>.pure (.sc (goInt (Lib.compareBytes x y)))
   |none=>.fail
  |none=>.fail
 |_=>.fail
def ef {α:Type} (m:M α):Prop:=∀ st v bp,m st=some (v,bp)→bp.h=st.h∧bp.nx=st.nx
theorem ef.pure {α:Type} (a : α):ef (M.pure a):=fun st v bp h=>by cases h;exact ⟨rfl,rfl⟩
theorem ef.fail {α:Type}:ef (M.fail:M α):=fun st v bp h=>by cases h
theorem ef.bind {α β:Type} {m:M α} {f : α→M β} (hm:ef m) (h:∀ x,ef (f x)):ef (m.bind f):=fun st v bp hb=>by
 obtain ⟨x,s1,h1,h2⟩:=bind_some hb
 have h3:=hm _ _ _ h1
 have h4:=h x _ _ _ h2
 exact ⟨h4.1.trans h3.1,h4.2.trans h3.2⟩
theorem ef.de (id:Nat):ef (Vm.de id):=fun _st _v _st1 h=>(gh h).2
theorem ef.cond {α:Type} {b:Bool} {x y:M α} (hx:ef x) (hy:ef y):ef (bif b then x else y):=by cases b<;>assumption
theorem ef.cellsIn (sz:Nat) (v:AV):ef (Vm.cellsIn sz v):=by
 unfold Vm.cellsIn ze
 repeat' (first|exact ef.pure _|exact ef.fail|apply ef.cond|(refine ef.bind (ef.de _) fun x=>?_)|split)
theorem Cd (args:List AV):ef (fm args):=by
 unfold fm;split
 ·exact ef.bind (ef.cellsIn _ _) fun x=>ef.bind (ef.cellsIn _ _) fun y=>by
   split
   ·split
    ·exact ef.pure _
    ·exact ef.fail
   ·exact ef.fail
 ·exact ef.fail
theorem nh {P:Program} {f:Nat} {fn:Func} (hf:P.funcs[f]? = some fn) (h1:(fn.name == "runtime.NumGoroutine")=false) (h2:fn.body.isNone=true) (h3:Extern.findNext fn=none) (h4:Extern.find fn=some Extern.AbiNoEscape.same) (args:List AV) :
 C3 P f args (q9 args):=by
 intro g st w vs r st' hok hfree hrel hm
 refine .inl ?_
 unfold q9 at hm
 split at hm
 ·rename_i a
  cases hm
  obtain ⟨v,rfl,hv⟩:=B2 hrel
  refine ⟨v,w,g,?_,.refl _ _ _ _ _,hok,hv⟩
  rw [run_callFunc_extern hf h1 h2 h3 h4]
  rfl
 ·cases hm
theorem i6 {P:Program} {f:Nat} {fn:Func} (hf:P.funcs[f]? = some fn) (h1:(fn.name == "runtime.NumGoroutine")=false) (h2:fn.body.isNone=true) (h3:Extern.findNext fn=none) (h4:Extern.find fn=some Extern.BytealgCompare.compare) (args:List AV) :
 C3 P f args (fm args):=by
 intro g st w vs r st' hok hfree hrel hm
 refine .inl ?_
 have hst:=Cd _ _ _ _ hm
 unfold fm at hm
 split at hm
 ·rename_i a c
  obtain ⟨x,s1,e1,hm⟩:=bind_some hm
  obtain ⟨y,s2,e2,hm⟩:=bind_some hm
  cases hx:bytesOf x with
  |none=>rw [hx] at hm;cases hm
  |some bx=>
  cases hy:bytesOf y with
  |none=>rw [hx,hy] at hm;cases hm
  |some yb=>
  rw [hx,hy] at hm
  cases hm
  have hh:=ef.cellsIn _ _ _ _ _ e1
  match vs,hrel with
  | [v,u],hrel=>
   have r1:=Dk (P:=P) hok hrel.head e1 hx
   have r2:=Dk (P:=P) (st:=s1) (by rw [hh.1];exact hok) hrel.tail.head e2 hy
   refine ⟨goInt (Lib.compareBytes bx yb),w,g,?_,?_,?_,.sc _⟩
   ·rw [run_callFunc_extern hf h1 h2 h3 h4]
    have:(Extern.BytealgCompare.compare #[v,u]).run P w = .ok (goInt (Lib.compareBytes bx yb)) w:=by
     change Sem.run P (do pure (goInt (Extern.BytealgCompare.cmp (← Extern.Bytes.bytesOf v) (← Extern.Bytes.bytesOf u)))) w=_
     simp only [Sem.run_bind,r1,r2,Result.andThen,Sem.run_pure]
     rw [Lib.cmp_eq]
    show ((Extern.BytealgCompare.compare #[v,u]).run P w).andThen _=_
    rw [this]
    rfl
   ·rw [hst.1,hst.2];exact .refl _ _ _ _ _
   ·rw [hst.1];exact hok
  | [],hrel=>have:=hrel.1;simp at this
  | [v],hrel=>have:=hrel.1;simp at this
  |_::_::_::_,hrel=>have:=hrel.1;simp at this
 ·cases hm
end
end Go.Vm.Cx
end
section
set_option linter.unnecessarySimpa false
namespace Go.Vm
noncomputable section
def roT (o:Option (Bool × (List AV→M AV))):Bool:=match o with|some (b,_)=>b|none=>false
theorem ayd (b m):roT (some (b,m))=b:=id rfl
theorem ey {o:Oper} {L:SL} {x:Operand} (h:x ∈ o.op.operands):ct o L x=db L x:=by
 cases x with
 |tmp t=>
  show (bif o.op.operands.any (fun x=>match x with|.tmp u=>Nat.beq u t|_=>false) then lk L t else .bad)=lk L t
  have:o.op.operands.any (fun x=>match x with|.tmp u=>Nat.beq u t|_=>false)=true:=by
   rw [Array.any_eq_true']
   exact ⟨_,h,by simp⟩
  rw [this];rfl
 |const v=>rfl
 |global g=>rfl
 |func f=>rfl
theorem ib {o:Oper} {L:SL} {l:List Operand} (h:∀ x ∈ l,x ∈ o.op.operands):l.map (ct o L)=l.map (db L):=List.map_congr_left fun x hx=>ey (h x hx)
theorem Su {o:Oper} {L:SL} {l:List (Nat × Operand)} (h:∀ x ∈ l,x.2 ∈ o.op.operands):l.map (fun p=>(p.1,ct o L p.2))=l.map (fun p=>(p.1,db L p.2)):=List.map_congr_left fun x hx=>by rw [ey (h x hx)]
def fl (ro:Bool) (F:List Nat) (o:Oper) (recs:List Rec) (K:List Rec→SL→St→Prop) (L:SL) (st:St) (m:M AV):Prop:=F9 ro F o recs K L st (m { h:=ki st.h F,nx:=st.nx,rl:=[],wl:=[] })
theorem Z2 (ro F o recs K L st m):fl ro F o recs K L st m=F9 ro F o recs K L st (m { h:=ki st.h F,nx:=st.nx,rl:=[],wl:=[] }):=id rfl
section ops
variable (P : Program) (T : eg) (L : SL) (st : St) (recs : List Rec) (K : List Rec → SL → St → Prop) (d : Option Tmp) (ty : TypeId) (pos : String) (af : Array Edge) (gd : Option (Nat × Bool))
theorem aib (x):fy P T ⟨d,.move x,ty,pos,af,gd⟩ recs K L st=fl (true) ([]) ⟨d,.move x,ty,pos,af,gd⟩ recs K L st (mono (M.pure (db L x))):=by
 unfold fy kp mj fl
 simp only [jk,cond_true]
 have hm:∀ y,y ∈ ([x]:List Operand)→ct ⟨d,.move x,ty,pos,af,gd⟩ L y=db L y:=fun y hy=>ey (by simpa [Op.operands,Call.operands] using hy)
 have hmap:([x]:List Operand).map (ct ⟨d,.move x,ty,pos,af,gd⟩ L)=([x]:List Operand).map (db L):=ib (fun y hy=>by simpa [Op.operands,Call.operands] using hy)
 have ho:(⟨d,.move x,ty,pos,af,gd⟩:Oper).op.operands.toList=[x]:=by simp [Op.operands,Call.operands]
 rw [K6,hm x (by simp)]
 rfl
theorem Wv (x):fy P T ⟨d,.assign x,ty,pos,af,gd⟩ recs K L st=fl (true) ([]) ⟨d,.assign x,ty,pos,af,gd⟩ recs K L st (mono (M.pure (db L x))):=by
 unfold fy kp mj fl
 simp only [jk,cond_true]
 have hm:∀ y,y ∈ ([x]:List Operand)→ct ⟨d,.assign x,ty,pos,af,gd⟩ L y=db L y:=fun y hy=>ey (by simpa [Op.operands,Call.operands] using hy)
 have hmap:([x]:List Operand).map (ct ⟨d,.assign x,ty,pos,af,gd⟩ L)=([x]:List Operand).map (db L):=ib (fun y hy=>by simpa [Op.operands,Call.operands] using hy)
 have ho:(⟨d,.assign x,ty,pos,af,gd⟩:Oper).op.operands.toList=[x]:=by simp [Op.operands,Call.operands]
 rw [F8,hm x (by simp)]
 rfl
theorem agx (t a):fy P T ⟨d,.load t a,ty,pos,af,gd⟩ recs K L st=fl (true) ((db L a).names) ⟨d,.load t a,ty,pos,af,gd⟩ recs K L st (mono (jr P t (db L a))):=by
 unfold fy kp mj fl
 simp only [jk,cond_false]
 have hm:∀ y,y ∈ ([a]:List Operand)→ct ⟨d,.load t a,ty,pos,af,gd⟩ L y=db L y:=fun y hy=>ey (by simpa [Op.operands,Call.operands] using hy)
 have hmap:([a]:List Operand).map (ct ⟨d,.load t a,ty,pos,af,gd⟩ L)=([a]:List Operand).map (db L):=ib (fun y hy=>by simpa [Op.operands,Call.operands] using hy)
 have ho:(⟨d,.load t a,ty,pos,af,gd⟩:Oper).op.operands.toList=[a]:=by simp [Op.operands,Call.operands]
 rw [Lo,hm a (by simp)]
 rfl
theorem Lq (s x f):fy P T ⟨d,.fieldAddr s x f,ty,pos,af,gd⟩ recs K L st=fl (true) ([]) ⟨d,.fieldAddr s x f,ty,pos,af,gd⟩ recs K L st (mono (kr P s (db L x) f)):=by
 unfold fy kp mj fl
 simp only [jk,cond_true]
 have hm:∀ y,y ∈ ([x]:List Operand)→ct ⟨d,.fieldAddr s x f,ty,pos,af,gd⟩ L y=db L y:=fun y hy=>ey (by simpa [Op.operands,Call.operands] using hy)
 have hmap:([x]:List Operand).map (ct ⟨d,.fieldAddr s x f,ty,pos,af,gd⟩ L)=([x]:List Operand).map (db L):=ib (fun y hy=>by simpa [Op.operands,Call.operands] using hy)
 have ho:(⟨d,.fieldAddr s x f,ty,pos,af,gd⟩:Oper).op.operands.toList=[x]:=by simp [Op.operands,Call.operands]
 rw [A7,hm x (by simp)]
 rfl
theorem Zv (op t x y u):fy P T ⟨d,.binOp op t x y u,ty,pos,af,gd⟩ recs K L st=fl (true) ([]) ⟨d,.binOp op t x y u,ty,pos,af,gd⟩ recs K L st (mono (y6 P (ct ⟨d,.binOp op t x y u,ty,pos,af,gd⟩ L) ⟨d,.binOp op t x y u,ty,pos,af,gd⟩ op t x y)):=by
 unfold fy kp mj fl
 simp only [jk,cond_true]
 have hm:∀ y,y ∈ ([x,y]:List Operand)→ct ⟨d,.binOp op t x y u,ty,pos,af,gd⟩ L y=db L y:=fun y hy=>ey (by simpa [Op.operands,Call.operands] using hy)
 have hmap:([x,y]:List Operand).map (ct ⟨d,.binOp op t x y u,ty,pos,af,gd⟩ L)=([x,y]:List Operand).map (db L):=ib (fun y hy=>by simpa [Op.operands,Call.operands] using hy)
 have ho:(⟨d,.binOp op t x y u,ty,pos,af,gd⟩:Oper).op.operands.toList=[x,y]:=by simp [Op.operands,Call.operands]
 rfl
theorem af6 (c a b):fy P T ⟨d,.pick c a b,ty,pos,af,gd⟩ recs K L st=fl (true) ([]) ⟨d,.pick c a b,ty,pos,af,gd⟩ recs K L st (mono (vt (db L c) (db L a) (db L b))):=by
 unfold fy kp mj fl
 simp only [jk,cond_true]
 have hm:∀ y,y ∈ ([c,a,b]:List Operand)→ct ⟨d,.pick c a b,ty,pos,af,gd⟩ L y=db L y:=fun y hy=>ey (by simpa [Op.operands,Call.operands] using hy)
 have hmap:([c,a,b]:List Operand).map (ct ⟨d,.pick c a b,ty,pos,af,gd⟩ L)=([c,a,b]:List Operand).map (db L):=ib (fun y hy=>by simpa [Op.operands,Call.operands] using hy)
 have ho:(⟨d,.pick c a b,ty,pos,af,gd⟩:Oper).op.operands.toList=[c,a,b]:=by simp [Op.operands,Call.operands]
 rw [Lh,hm c (by simp),hm a (by simp),hm b (by simp)]
 rfl
theorem aaq (t a x):fy P T ⟨d,.store t a x,ty,pos,af,gd⟩ recs K L st=fl (false) ((db L a).names) ⟨d,.store t a x,ty,pos,af,gd⟩ recs K L st (mono (qe P t (db L a) (db L x))):=by
 unfold fy kp mj fl
 simp only [jk,cond_false]
 have hm:∀ y,y ∈ ([a,x]:List Operand)→ct ⟨d,.store t a x,ty,pos,af,gd⟩ L y=db L y:=fun y hy=>ey (by simpa [Op.operands,Call.operands] using hy)
 have hmap:([a,x]:List Operand).map (ct ⟨d,.store t a x,ty,pos,af,gd⟩ L)=([a,x]:List Operand).map (db L):=ib (fun y hy=>by simpa [Op.operands,Call.operands] using hy)
 have ho:(⟨d,.store t a x,ty,pos,af,gd⟩:Oper).op.operands.toList=[a,x]:=by simp [Op.operands,Call.operands]
 rw [If,hm a (by simp),hm x (by simp)]
 rfl
theorem Rc (t i):fy P T ⟨d,.extract t i,ty,pos,af,gd⟩ recs K L st=fl (true) ([]) ⟨d,.extract t i,ty,pos,af,gd⟩ recs K L st (mono (oq (db L t) i)):=by
 unfold fy kp mj fl
 simp only [jk,cond_true]
 have hm:∀ y,y ∈ ([t]:List Operand)→ct ⟨d,.extract t i,ty,pos,af,gd⟩ L y=db L y:=fun y hy=>ey (by simpa [Op.operands,Call.operands] using hy)
 have hmap:([t]:List Operand).map (ct ⟨d,.extract t i,ty,pos,af,gd⟩ L)=([t]:List Operand).map (db L):=ib (fun y hy=>by simpa [Op.operands,Call.operands] using hy)
 have ho:(⟨d,.extract t i,ty,pos,af,gd⟩:Oper).op.operands.toList=[t]:=by simp [Op.operands,Call.operands]
 rw [D8,hm t (by simp)]
 rfl
theorem Lu (t x i):fy P T ⟨d,.indexAddr t x i,ty,pos,af,gd⟩ recs K L st=fl (true) ([]) ⟨d,.indexAddr t x i,ty,pos,af,gd⟩ recs K L st (mono (kx P t (db L x) (db L i))):=by
 unfold fy kp mj fl
 simp only [jk,cond_true]
 have hm:∀ y,y ∈ ([x,i]:List Operand)→ct ⟨d,.indexAddr t x i,ty,pos,af,gd⟩ L y=db L y:=fun y hy=>ey (by simpa [Op.operands,Call.operands] using hy)
 have hmap:([x,i]:List Operand).map (ct ⟨d,.indexAddr t x i,ty,pos,af,gd⟩ L)=([x,i]:List Operand).map (db L):=ib (fun y hy=>by simpa [Op.operands,Call.operands] using hy)
 have ho:(⟨d,.indexAddr t x i,ty,pos,af,gd⟩:Oper).op.operands.toList=[x,i]:=by simp [Op.operands,Call.operands]
 rw [Aq,hm x (by simp),hm i (by simp)]
 rfl
theorem Pt (x):fy P T ⟨d,.nilCheck x,ty,pos,af,gd⟩ recs K L st=fl (true) ([]) ⟨d,.nilCheck x,ty,pos,af,gd⟩ recs K L st (mono (ka (db L x))):=by
 unfold fy kp mj fl
 simp only [jk,cond_true]
 have hm:∀ y,y ∈ ([x]:List Operand)→ct ⟨d,.nilCheck x,ty,pos,af,gd⟩ L y=db L y:=fun y hy=>ey (by simpa [Op.operands,Call.operands] using hy)
 have hmap:([x]:List Operand).map (ct ⟨d,.nilCheck x,ty,pos,af,gd⟩ L)=([x]:List Operand).map (db L):=ib (fun y hy=>by simpa [Op.operands,Call.operands] using hy)
 have ho:(⟨d,.nilCheck x,ty,pos,af,gd⟩:Oper).op.operands.toList=[x]:=by simp [Op.operands,Call.operands]
 rw [By,hm x (by simp)]
 rfl
theorem Zs (t):fy P T ⟨d,.alloc t,ty,pos,af,gd⟩ recs K L st=fl (true) (reach st.h fh [] []) ⟨d,.alloc t,ty,pos,af,gd⟩ recs K L st (mono (sj P t)):=by
 unfold fy kp mj fl
 simp only [jk,cond_false]
 have hm:∀ y,y ∈ ([]:List Operand)→ct ⟨d,.alloc t,ty,pos,af,gd⟩ L y=db L y:=fun y hy=>ey (by simpa [Op.operands,Call.operands] using hy)
 have hmap:([]:List Operand).map (ct ⟨d,.alloc t,ty,pos,af,gd⟩ L)=([]:List Operand).map (db L):=ib (fun y hy=>by simpa [Op.operands,Call.operands] using hy)
 have ho:(⟨d,.alloc t,ty,pos,af,gd⟩:Oper).op.operands.toList=[]:=by simp [Op.operands,Call.operands]
 rw [ho,hmap]
 rfl
theorem abv (t ps):fy P T ⟨d,.build t ps,ty,pos,af,gd⟩ recs K L st=fl (true) (reach st.h fh (AV.names.go ((ps.toList.map (·.2)).map (db L))) []) ⟨d,.build t ps,ty,pos,af,gd⟩ recs K L st (mono (ry P t (ps.toList.map fun p=>(p.1,db L p.2)))):=by
 unfold fy kp mj fl
 simp only [jk,cond_false]
 have hm:∀ y,y ∈ ((ps.toList.map (·.2)):List Operand)→ct ⟨d,.build t ps,ty,pos,af,gd⟩ L y=db L y:=fun y hy=>ey (by simpa [Op.operands,Call.operands] using hy)
 have hmap:((ps.toList.map (·.2)):List Operand).map (ct ⟨d,.build t ps,ty,pos,af,gd⟩ L)=((ps.toList.map (·.2)):List Operand).map (db L):=ib (fun y hy=>by simpa [Op.operands,Call.operands] using hy)
 have ho:(⟨d,.build t ps,ty,pos,af,gd⟩:Oper).op.operands.toList=(ps.toList.map (·.2)):=by simp [Op.operands,Call.operands]
 rw [ho,hmap]
 rw [Iw,Su (fun x hx=>by simp [Op.operands];exact ⟨_,by simpa using hx⟩)]
 rfl
theorem J7 (t n ps):fy P T ⟨d,.buildSlice t n ps,ty,pos,af,gd⟩ recs K L st=fl (true) (reach st.h fh (AV.names.go ((ps.toList.map (·.2)).map (db L))) []) ⟨d,.buildSlice t n ps,ty,pos,af,gd⟩ recs K L st (mono (js P t n (ps.toList.map fun p=>(p.1,db L p.2)))):=by
 unfold fy kp mj fl
 simp only [jk,cond_false]
 have hm:∀ y,y ∈ ((ps.toList.map (·.2)):List Operand)→ct ⟨d,.buildSlice t n ps,ty,pos,af,gd⟩ L y=db L y:=fun y hy=>ey (by simpa [Op.operands,Call.operands] using hy)
 have hmap:((ps.toList.map (·.2)):List Operand).map (ct ⟨d,.buildSlice t n ps,ty,pos,af,gd⟩ L)=((ps.toList.map (·.2)):List Operand).map (db L):=ib (fun y hy=>by simpa [Op.operands,Call.operands] using hy)
 have ho:(⟨d,.buildSlice t n ps,ty,pos,af,gd⟩:Oper).op.operands.toList=(ps.toList.map (·.2)):=by simp [Op.operands,Call.operands]
 rw [ho,hmap]
 rw [zb,Su (fun x hx=>by simp [Op.operands];exact ⟨_,by simpa using hx⟩)]
 rfl
theorem ab2 (t x l h m):fy P T ⟨d,.slice t x l h m,ty,pos,af,gd⟩ recs K L st=fl (true) (reach st.h fh (AV.names.go ((#[x]++l.toArray++h.toArray++m.toArray).toList.map (db L))) []) ⟨d,.slice t x l h m,ty,pos,af,gd⟩ recs K L st (mono (sr P (ct ⟨d,.slice t x l h m,ty,pos,af,gd⟩ L) ⟨d,.slice t x l h m,ty,pos,af,gd⟩ t x l h m)):=by
 unfold fy kp mj fl
 simp only [jk,cond_false]
 have hm:∀ y,y ∈ ((#[x]++l.toArray++h.toArray++m.toArray).toList:List Operand)→ct ⟨d,.slice t x l h m,ty,pos,af,gd⟩ L y=db L y:=fun y hy=>ey (by simpa [Op.operands,Call.operands] using hy)
 have hmap:((#[x]++l.toArray++h.toArray++m.toArray).toList:List Operand).map (ct ⟨d,.slice t x l h m,ty,pos,af,gd⟩ L)=((#[x]++l.toArray++h.toArray++m.toArray).toList:List Operand).map (db L):=ib (fun y hy=>by simpa [Op.operands,Call.operands] using hy)
 have ho:(⟨d,.slice t x l h m,ty,pos,af,gd⟩:Oper).op.operands.toList=(#[x]++l.toArray++h.toArray++m.toArray).toList:=by simp [Op.operands,Call.operands]
 rw [ho,hmap]
 rfl
theorem avd (op t x):fy P T ⟨d,.unOp op t x,ty,pos,af,gd⟩ recs K L st=fl (true) (reach st.h fh (AV.names.go ([x].map (db L))) []) ⟨d,.unOp op t x,ty,pos,af,gd⟩ recs K L st (mono (il P (ct ⟨d,.unOp op t x,ty,pos,af,gd⟩ L) ⟨d,.unOp op t x,ty,pos,af,gd⟩ [x])):=by
 unfold fy kp mj fl
 simp only [jk,cond_false]
 have hm:∀ y,y ∈ ([x]:List Operand)→ct ⟨d,.unOp op t x,ty,pos,af,gd⟩ L y=db L y:=fun y hy=>ey (by simpa [Op.operands,Call.operands] using hy)
 have hmap:([x]:List Operand).map (ct ⟨d,.unOp op t x,ty,pos,af,gd⟩ L)=([x]:List Operand).map (db L):=ib (fun y hy=>by simpa [Op.operands,Call.operands] using hy)
 have ho:(⟨d,.unOp op t x,ty,pos,af,gd⟩:Oper).op.operands.toList=[x]:=by simp [Op.operands,Call.operands]
 rw [ho,hmap]
 rfl
theorem am3 (x ts):fy P T ⟨d,.call { callee:=.builtin .len,args:=#[x],argTypes:=ts },ty,pos,af,gd⟩ recs K L st=fl (true) ([]) ⟨d,.call { callee:=.builtin .len,args:=#[x],argTypes:=ts },ty,pos,af,gd⟩ recs K L st (mono (s7 ((ts[0]?).bind P.underlying) (db L x))):=by
 unfold fy kp mj fl
 simp only [jk,cond_true]
 have hm:∀ y,y ∈ ([x]:List Operand)→ct ⟨d,.call { callee:=.builtin .len,args:=#[x],argTypes:=ts },ty,pos,af,gd⟩ L y=db L y:=fun y hy=>ey (by simpa [Op.operands,Call.operands] using hy)
 have hmap:([x]:List Operand).map (ct ⟨d,.call { callee:=.builtin .len,args:=#[x],argTypes:=ts },ty,pos,af,gd⟩ L)=([x]:List Operand).map (db L):=ib (fun y hy=>by simpa [Op.operands,Call.operands] using hy)
 have ho:(⟨d,.call { callee:=.builtin .len,args:=#[x],argTypes:=ts },ty,pos,af,gd⟩:Oper).op.operands.toList=[x]:=by simp [Op.operands,Call.operands]
 rw [M3,hm x (by simp)]
 rfl
theorem W4 (s x ts):fy P T ⟨d,.call { callee:=.builtin .append,args:=#[s,x],argTypes:=ts },ty,pos,af,gd⟩ recs K L st=fl (false) (reach st.h fh (AV.names.go ([s,x].map (db L))) []) ⟨d,.call { callee:=.builtin .append,args:=#[s,x],argTypes:=ts },ty,pos,af,gd⟩ recs K L st (mono (nv P ts[0]? ((ts[1]?).bind P.underlying) (db L s) (db L x))):=by
 unfold fy kp mj fl
 simp only [jk,cond_false]
 have hm:∀ y,y ∈ ([s,x]:List Operand)→ct ⟨d,.call { callee:=.builtin .append,args:=#[s,x],argTypes:=ts },ty,pos,af,gd⟩ L y=db L y:=fun y hy=>ey (by simpa [Op.operands,Call.operands] using hy)
 have hmap:([s,x]:List Operand).map (ct ⟨d,.call { callee:=.builtin .append,args:=#[s,x],argTypes:=ts },ty,pos,af,gd⟩ L)=([s,x]:List Operand).map (db L):=ib (fun y hy=>by simpa [Op.operands,Call.operands] using hy)
 have ho:(⟨d,.call { callee:=.builtin .append,args:=#[s,x],argTypes:=ts },ty,pos,af,gd⟩:Oper).op.operands.toList=[s,x]:=by simp [Op.operands,Call.operands]
 rw [ho,hmap]
 rw [Gt,hm s (by simp),hm x (by simp)]
 rfl
theorem ai8 (f args ts):fy P T ⟨d,.call { callee:=.value f,args,argTypes:=ts },ty,pos,af,gd⟩ recs K L st=fl (s8 T (db L) ⟨d,.call { callee:=.value f,args,argTypes:=ts },ty,pos,af,gd⟩) (reach st.h fh (AV.names.go ((f::args.toList).map (db L))) []) ⟨d,.call { callee:=.value f,args,argTypes:=ts },ty,pos,af,gd⟩ recs K L st (u4 T (db L f) (args.toList.map (db L))):=by
 unfold fy kp mj fl
 simp only [jk,cond_false]
 have h1:⟨d,.call { callee:=.value f,args,argTypes:=ts },ty,pos,af,gd⟩=(⟨d,.call { callee:=.value f,args,argTypes:=ts },ty,pos,af,gd⟩:Oper):=rfl
 have hf:ct ⟨d,.call { callee:=.value f,args,argTypes:=ts },ty,pos,af,gd⟩ L f=db L f:=ey (by simp [Op.operands,Call.operands])
 have ha:args.toList.map (ct ⟨d,.call { callee:=.value f,args,argTypes:=ts },ty,pos,af,gd⟩ L)=args.toList.map (db L):=ib (fun x hx=>by simp [Op.operands,Call.operands];exact .inr (by simpa using hx))
 have hr:s8 T (ct ⟨d,.call { callee:=.value f,args,argTypes:=ts },ty,pos,af,gd⟩ L) ⟨d,.call { callee:=.value f,args,argTypes:=ts },ty,pos,af,gd⟩=s8 T (db L) ⟨d,.call { callee:=.value f,args,argTypes:=ts },ty,pos,af,gd⟩:=by simp only [s8,hf]
 have ho:(⟨d,.call { callee:=.value f,args,argTypes:=ts },ty,pos,af,gd⟩:Oper).op.operands.toList.map (ct ⟨d,.call { callee:=.value f,args,argTypes:=ts },ty,pos,af,gd⟩ L)=(f::args.toList).map (db L):=by
  show ((#[f]++args).toList).map _=_
  simp only [Array.toList_append,List.map_append,ha,List.map_cons,hf]
  rfl
 rw [hr,ho]
 show F9 _ _ _ _ _ _ _ (u4 T (ct _ L f) (args.toList.map (ct _ L)) _)=_
 rw [hf,ha]
theorem Rh (n args ts):s8 T (db L) ⟨d,.call { callee:=.value (.func n),args,argTypes:=ts },ty,pos,af,gd⟩=roT (T.find n):=by simp only [s8,db];rfl
end ops
theorem abe (P T ops K L st):Bq P T ops true K L st=(nl ops=true∧(Fv P T ops ops.toList K [] L st∨Nd P T ops ops.toList K [] L st)):=id rfl
theorem Zq (n):G5 n []=true:=id rfl
theorem U0 (n o r):G5 n (o::r)=(Nat.blt o n && G5 n r):=id rfl
theorem aix (h h'):same h h' []=True:=id rfl
theorem Zp (h h' o r):same h h' (o::r)=(h.get o=h'.get o∧same h h' r):=id rfl
theorem aam (h):ki h [] = .nil:=id rfl
theorem Vi (h o r):ki h (o::r)=Tr.set depth (ki h r) o (h.get o):=id rfl
theorem Xd (h1 h):qm h1 [] h=h:=id rfl
theorem S1 (h1 o r h):qm h1 (o::r) h=Tr.set depth (qm h1 r h) o (h1.get o):=id rfl
theorem aau (t ts v vs):nq (t::ts) (v::vs)=(t,v)::nq ts vs:=id rfl
theorem Z4 (P T f ps A B p Q L0 st0):ar9 P T f ps A B p Q L0 st0=(Nat.ble p 1000=true∧O3 P T ps A B p Q L0 st0 (yt (db L0 f))):=id rfl
theorem aht (P T ps A B p Q L0 st0 g caps):O3 P T ps A B p Q L0 st0 (some (g,caps))=Nm P T ps A B p Q L0 st0 caps (tq P g):=id rfl
theorem afk (P T ps A B p Q L0 st0 caps nt code):Nm P T ps A B p Q L0 st0 caps (some (nt,code))=(Nat.ble (caps.length+1) nt=true∧∀ l:Nat,nw P T l (je ps A B L0) p code (Yo Q L0) none (b9 0 (.sc (.func (.yield l) #[] #[])::caps)) st0):=id rfl
theorem aa3 (g c):yt (.fn (.func g) [] c)=some (g,c):=id rfl
theorem Hl {P:Program} {T:eg} {l:Nat} {bd:Nat} {L:SL} {st:St} {Q:QI} {ps:List Tmp} {ra rb:Code} {L0:SL} {α:Type} {b:Code} (keep:List Nat) (V : α→List AV) (O : α→List (Option bh)) (I : α→Prop) (μ : α→Nat) (x : α) (hx:I x)
 (hv:kc bd keep L st=V x) (ho:gw bd keep L st=O x)
 (step:∀ x,I x→nw P T l (je ps (fun p=>wl P T p ra) (fun p=>wl P T p rb) L0) bd b (vd (ya bd keep (fun vs os=>∃ y,I y ∧ μ y < μ x∧vs=V y∧os=O y) (fun _ _ _=>False)) Q) none (nq keep (V x)) (bq (O x))):nw P T l (je ps (fun p=>wl P T p ra) (fun p=>wl P T p rb) L0) bd (.loop b) Q none L st:=
 awr (keep:=keep) (V:=V) (O:=O) (I:=I) (μ:=μ) (x:=x) (hx:=hx) (hR:=Iu P T) (hv:=hv) (ho:=ho) (step:=step)
theorem my {P:Program} {T:eg} {R:I0} {bd:Nat} {L:SL} {st:St} {o:Oper} {K:Option Ex→SL→St→Prop} {args:Array Operand} (keep:List Nat) (h:py R (gw bd keep L st).length args o.dst K (nq keep (kc bd keep L st)) (bq (gw bd keep L st))):Y5 P T R bd o K none L st (some args):=⟨rfl,keep,h⟩
theorem Js (P:Program):∀ s:Sem Value,ev P (do pure (Next.value (← s)))=(ev P s).map Next.value:=by
 intro s
 induction s with
 |pure b=>rfl
 |program k ih=>exact ih P
 |choose q k ih=>
  simp only [bind,Sem.bind,ev]
  split
  ·exact ih 0
  ·rfl
 |mark m k ih=>exact ih
 |_=>rfl
def ahe (m:M AV):M AV:=m
def ail (a:AV) (m:M AV):M AV:=
 match a.bool with
 |some b=>M.pure (.sc (.bool (!b)))
 |none=>m
theorem asp (b:Bool) (m:M AV):ail (.sc (.bool b)) m=M.pure (.sc (.bool (!b))):=id rfl
theorem aBf {a:AV} {b:Bool} (h:a.bool=some b):a = .sc (.bool b):=by
 unfold AV.bool AV.exact o0 at h
 cases a with
 |sc v=>cases v<;>simp at h;rw [h]
 |_=>cases h
theorem Uy (P:Program) (ρ:Operand→AV) (d ty pos af gd) (t:TypeId) (x:Operand):il P ρ ⟨d,.unOp .not t x,ty,pos,af,gd⟩ [x]=ail (ρ x) (ahe (il P ρ ⟨d,.unOp .not t x,ty,pos,af,gd⟩ [x])):=by
 unfold ail
 split
 ·rename_i b hb
  have hx:=aBf hb
  have h2:execOp (fun z=>((ρ z).ft).getD undef) ⟨d,.unOp .not t x,ty,pos,af,gd⟩=(do pure (Next.value (← Op.unary .not (.bool b)))):=by
   simp only [execOp,hx,AV.ft,Option.getD_some]
  unfold il ko si
  simp only [List.all_cons,List.all_nil,hx,AV.ft,Option.isSome_some,Bool.and_true,cond_true]
  rw [h2,Js]
  rfl
 ·rfl
theorem aap (P:Program) (T:eg) (ρ:Operand→AV) (d ty pos af gd) (t:TypeId) (x:Operand):fo P T ⟨d,.unOp .not t x,ty,pos,af,gd⟩ ρ=mono (ail (ρ x) (ahe (il P ρ ⟨d,.unOp .not t x,ty,pos,af,gd⟩ [x]))):=by
 exact congrArg mono (Uy ..)
theorem al4 (P:Program) (T:eg) (L:SL) (st:St) (recs:List Rec) (K:List Rec→SL→St→Prop) (d ty pos af gd) (t x):fy P T ⟨d,.unOp .not t x,ty,pos,af,gd⟩ recs K L st=fl true (reach st.h fh (AV.names.go ([x].map (db L))) []) ⟨d,.unOp .not t x,ty,pos,af,gd⟩ recs K L st (mono (ail (db L x) (ahe (il P (ct ⟨d,.unOp .not t x,ty,pos,af,gd⟩ L) ⟨d,.unOp .not t x,ty,pos,af,gd⟩ [x])))):=by
 rw [avd]
 have h:=Uy P (ct ⟨d,.unOp .not t x,ty,pos,af,gd⟩ L) d ty pos af gd t x
 rw [ey (by simp [Op.operands])] at h
 rw [← h]
theorem Tz (l:List UInt8):bytesOf (l.map B9)=some l:=by rw [G1,yy]
theorem Sj (a b:ByteArray):Cx.fm [.sc (.string a),.sc (.string b)]=M.pure (.sc (goInt (Lib.compareBytes a.data.toList b.data.toList))):=by
 unfold Cx.fm cellsIn
 simp only [Nat.beq_refl,cond_true]
 unfold M.bind M.pure
 simp only [Tz]
 rfl
theorem Fb {α:Type} (C:dn α) (f:Bool) (h:C.sz=1) (ha:C.agg=false) (l:List α):(l.map (C.val f)).flatMap AV.cells=l.map (C.val f):=by
 induction l with
 |nil=>rfl
 |cons x l ih=>
  simp only [List.map_cons,List.flatMap_cons,ih]
  obtain ⟨c,h1,h2,_⟩:=C.one ha f x
  have:C.val f x=c:=by simp [dn.val,ha,h1]
  rw [this,h2];rfl
theorem Ss (f g:Bool) (a b:List UInt8):Cx.fm [.vl f 1 (a.map (cj.val f)),.vl g 1 (b.map (cj.val g))]=M.pure (.sc (goInt (Lib.compareBytes a b))):=by
 unfold Cx.fm cellsIn
 simp only [Nat.beq_refl,cond_true,Fb cj _ rfl rfl]
 unfold M.bind M.pure
 simp only [yy]
 rfl
theorem S7 {L:SL} {d ty pos af gd} {op t u x y}:ct ⟨d,.binOp op t x y u,ty,pos,af,gd⟩ L x=db L x:=ey (by simp [Op.operands])
theorem Sp {L:SL} {d ty pos af gd} {op t u x y}:ct ⟨d,.binOp op t x y u,ty,pos,af,gd⟩ L y=db L y:=ey (by simp [Op.operands])
theorem Un {L:SL} {d ty pos af gd} {h l m t x}:ct ⟨d,.slice t x l h m,ty,pos,af,gd⟩ L x=db L x:=ey (by simp [Op.operands])
theorem Xi {L:SL} {d ty pos af gd} {h l m t x}:ct ⟨d,.slice t x l (some h) m,ty,pos,af,gd⟩ L h=db L h:=ey (by simp [Op.operands])
def zn (P:Program) (ρ:Operand→AV) (o:Oper) (l:List Operand):M AV:=il P ρ o l
def afd (u:Option TypeDesc) (a ix:AV) (m:M AV):M AV:=
 match u with
 |some .string=>
  match a with
  |.sc (.string s)=>
   match ix with
   |.sc (.int _ n)=>
    match (bif decide (0≤n) then s.data.toList[n.toNat]? else none) with
    |some b=>M.pure (.sc (.int .u8 b.toNat))
    |none=>m
   |_=>m
  |_=>m
 |_=>m
theorem ag4 (s:ByteArray) (k:IntKind) (n:Int) (m:M AV):afd (some .string) (.sc (.string s)) (.sc (.int k n)) m=match (bif decide (0≤n) then s.data.toList[n.toNat]? else none) with|some b=>M.pure (.sc (.int .u8 b.toNat))|none=>m:=id rfl
theorem N1 (P:Program) (ρ:Operand→AV) (d ty pos af gd) (t:TypeId) (x i:Operand):il P ρ ⟨d,.index t x i,ty,pos,af,gd⟩ [x,i]=afd (P.underlying t) (ρ x) (ρ i) (zn P ρ ⟨d,.index t x i,ty,pos,af,gd⟩ [x,i]):=by
 unfold afd
 split
 ·rename_i hu
  split
  ·rename_i s hx
   split
   ·rename_i k n hi
    split
    ·rename_i b hb
     cases h0:decide (0≤n) with
     |false=>rw [h0] at hb;cases hb
     |true=>
     rw [h0,cond_true] at hb
     have h0 : 0≤n:=by simpa using h0
     have hb':s[n.toNat]? = some b:=by
      obtain ⟨h1,h2⟩:=List.getElem?_eq_some_iff.1 hb
      simp at h1
      rw [getElem?_pos s n.toNat (by simpa using h1)]
      rw [← h2];rfl
     have h2:execOp (fun z=>((ρ z).ft).getD undef) ⟨d,.index t x i,ty,pos,af,gd⟩=(do pure (Next.value (← Instr.index t (.string s) (.int k n)))):=by
      simp only [execOp,hx,hi,AV.ft,Option.getD_some]
     unfold il ko si
     simp only [List.all_cons,List.all_nil,hx,hi,AV.ft,Option.isSome_some,Bool.and_true,cond_true]
     rw [h2,Js]
     have h3:ev P (Instr.index t (.string s) (.int k n))=some (.int .u8 b.toNat):=by
      simp [Instr.index,asIntOf,underlying,program,ev,hu,h0,hb',bind,Sem.bind,pure]
     rw [h3]
     rfl
    ·rfl
   ·rfl
  ·rfl
 ·rfl
theorem Ta (a n:Nat):(a:Int).fdiv (n:Int)=((a / n:Nat):Int):=by
 rw [Int.fdiv_eq_ediv_of_nonneg _ (by omega)];rfl
theorem agm (a:Nat):(a:Int).fdiv 256=((a / 256:Nat):Int):=Ta a 256
theorem Wm (a:Nat):(a:Int).fdiv 65536=((a / 65536:Nat):Int):=Ta a 65536
theorem Mg (a:Nat):(a:Int).fdiv 16777216=((a / 16777216:Nat):Int):=Ta a 16777216
theorem aji (f:Nat) (m) (T:eg):eg.find ((f,m)::T) f=some m:=by simp [eg.find]
theorem Z0 (f g:Nat) (m) (T:eg) (h:(f == g)=false):eg.find ((f,m)::T) g=eg.find T g:=by
 have e:f≠g:=by simpa using h
 simp [eg.find,nk e]
end
end Go.Vm
end
namespace Go.Vm
noncomputable section
def yj (P:Program) (t:TypeId):Option (Nat × Nat × Nat):=
 match qc P t with
 |some e=>
  match dp P e,kq P e,ew P e with
  |some sz,some bytes,some z=>bif Nat.blt 0 sz && Nat.blt 0 bytes && Nat.beq z.cells.size sz then some (e,sz,bytes) else none
  |_,_,_=>none
 |none=>none
def ait (q:Option (Nat × Nat × Nat)) (s x:AV):M AV:=
 match q with
 |some (e,sz,bytes)=>(cellsIn sz x).bind (o8 e sz bytes s)
 |none=>M.fail
theorem arc (e sz bytes s x):ait (some (e,sz,bytes)) s x=(cellsIn sz x).bind (o8 e sz bytes s):=id rfl
theorem Ut (P:Program) (t e:TypeId) (s x:AV):nv P (some t) (some (.slice e)) s x=ait (yj P t) s x:=by
 unfold nv ait yj
 simp only [Option.bind_some]
 cases qc P t with
 |none=>rfl
 |some e=>
  simp only
  cases dp P e with
  |none=>rfl
  |some sz=>
   cases kq P e with
   |none=>rfl
   |some bytes=>
    cases ew P e with
    |none=>rfl
    |some z=>
     simp only
     cases (Nat.blt 0 sz && Nat.blt 0 bytes && Nat.beq z.cells.size sz)<;>rfl
theorem Uw (P:Program) (t:TypeId) (s x:AV):nv P (some t) (some .string) s x=ait (yj P t) s x:=by
 unfold nv ait yj
 simp only [Option.bind_some]
 cases qc P t with
 |none=>rfl
 |some e=>
  simp only
  cases dp P e with
  |none=>rfl
  |some sz=>
   cases kq P e with
   |none=>rfl
   |some bytes=>
    cases ew P e with
    |none=>rfl
    |some z=>
     simp only
     cases (Nat.blt 0 sz && Nat.blt 0 bytes && Nat.beq z.cells.size sz)<;>rfl
theorem Rr (e sz bytes new):o8 e sz bytes (.sc (.slice none 0 0)) new=bif new.isEmpty then M.pure (.sc (.slice none 0 0)) else bif Nat.ble (new.length * bytes) 140737488355328 then lr e sz (new.length / sz) new else M.fail:=id rfl
theorem Wo (e sz bytes o off len sz' new):o8 e sz bytes (.sl o off len sz') new=bif Nat.beq sz sz' then (de o).bind (zv e sz bytes o off len new) else M.fail:=id rfl
theorem Sd (e sz bytes o off len new cells k st et):zv e sz bytes o off len new (.row cells k st et)=(bif Nat.beq et e && new.all AV.one && Nat.ble (off+len * sz) cells.length && Nat.ble ((len * sz+new.length) * bytes) 140737488355328 then
 bif Nat.ble k (off+len * sz) then
  (wy o).bind fun _=>(i9 (.row ((cells.take (off+len * sz)).drop off++new) (k - off) (sh st) et)).bind fun id=>M.pure (.sl id 0 (len+new.length / sz) sz)
 else bif new.isEmpty then M.pure (.sl o off len sz)
 else M.fail
 else M.fail):=id rfl
theorem ayc:sh 0=0:=id rfl
def cellsOf {α:Type} (C:dn α) (f:Bool) (xs:List α):List AV:=xs.flatMap (C.cells f)
theorem Q7 {α:Type} (C:dn α) (f):cellsOf C f []=[]:=id rfl
theorem wq {α:Type} (C:dn α) (f) (xs:List α):(cellsOf C f xs).length=xs.length * C.sz:=by
 induction xs with
 |nil=>simp [cellsOf]
 |cons x xs ih=>
  simp only [cellsOf] at ih
  simp [cellsOf,C.len,ih,Nat.succ_mul];omega
theorem wk {α:Type} (C:dn α) (f) (xs ys:List α):cellsOf C f (xs++ys)=cellsOf C f xs++cellsOf C f ys:=by simp [cellsOf]
theorem Cu {α:Type} (C:dn α) (f) (x : α):cellsOf C f [x]=C.cells f x:=by simp [cellsOf]
theorem wi {α:Type} (C:dn α) (f) (xs:List α):(cellsOf C f xs).all AV.one=true:=by
 rw [List.all_eq_true]
 intro c hc
 obtain ⟨x,_,hx⟩:=List.mem_flatMap.1 hc
 exact (C.pl f x c hx).one
theorem Ls {α:Type} (C:dn α) (f) (xs:List α):AV.names.go (cellsOf C f xs)=[]:=Ij (fun c hc=>by
 obtain ⟨x,_,hx⟩:=List.mem_flatMap.1 hc
 exact (C.pl f x c hx).names)
theorem Q8 {α:Type} (C:dn α) (τ) (f) (xs:List α):(cellsOf C f xs).map (AV.dk τ)=cellsOf C f xs:=by
 rw [← j9]
 exact S8 (fun c hc=>by
  obtain ⟨x,_,hx⟩:=List.mem_flatMap.1 hc
  exact (C.pl f x c hx).dk τ)
theorem ah2 {α:Type} (C:dn α) (f) (xs:List α) (i:Nat):(cellsOf C f xs).drop (i * C.sz)=cellsOf C f (xs.drop i):=by
 induction xs generalizing i with
 |nil=>simp [cellsOf]
 |cons x xs ih=>
  cases i with
  |zero=>simp
  |succ i=>
   have:(i+1) * C.sz=C.sz+i * C.sz:=by rw [Nat.succ_mul];omega
   rw [this,← List.drop_drop]
   have h1:(cellsOf C f (x::xs)).drop C.sz=cellsOf C f xs:=by
    have h2:cellsOf C f (x::xs)=C.cells f x++cellsOf C f xs:=by simp [cellsOf]
    rw [h2,← C.len f x,List.drop_left]
   rw [h1,ih,List.drop_succ_cons]
theorem agr {α:Type} (C:dn α) (f) (xs:List α) (i:Nat):(cellsOf C f xs).take (i * C.sz)=cellsOf C f (xs.take i):=by
 induction xs generalizing i with
 |nil=>simp [cellsOf]
 |cons x xs ih=>
  cases i with
  |zero=>simp [cellsOf]
  |succ i=>
   have h2:cellsOf C f (x::xs)=C.cells f x++cellsOf C f xs:=by simp [cellsOf]
   have:(i+1) * C.sz=(C.cells f x).length+i * C.sz:=by rw [Nat.succ_mul,C.len];omega
   rw [h2,this,List.take_length_add_append,ih,List.take_succ_cons]
   simp [cellsOf]
theorem F7 {α:Type} (C:dn α) (f) (x : α) (xs:List α):cellsOf C f (x::xs)=C.cells f x++cellsOf C f xs:=by simp [cellsOf]
theorem Kd {α:Type} {xs:List α} {i:Nat} {x : α} (h:xs[i]? = some x):xs.drop i=x::xs.drop (i+1):=by
 obtain ⟨h1,h2⟩:=List.getElem?_eq_some_iff.1 h
 rw [← h2];exact List.drop_eq_getElem_cons h1
theorem Gq {α:Type} (C:dn α) (f) (xs:List α):(xs.map (C.val f)).flatMap AV.cells=cellsOf C f xs:=by
 rw [List.flatMap_map];congr 1;funext x;exact C.Hn f x
theorem Av {α:Type} (C:dn α) (fr:Bool) (h:Tr bh) (f:Bool) (xs:List α) (k st et) (n:Nat) (hn:n=xs.length) (hf:(f || !fr)=true):mf C fr h 0 n (.row (cellsOf C f xs) k st et)=some xs:=by
 subst hn
 simp only [mf,Nat.zero_add,wq,Nat.ble_self_eq_true,cond_true,List.drop_zero]
 have:(cellsOf C f xs).take (xs.length * C.sz)=cellsOf C f xs:=List.take_of_length_le (by rw [wq];exact Nat.le_refl _)
 rw [this]
 exact aac C fr h f (fun e=>by subst e;simpa using hf) xs
theorem Wb {α:Type} (C:dn α) (fr h cells k st et):mf C fr h 0 0 (.row cells k st et)=some []:=by
 have h:Nat.ble 0 cells.length=true:=Nat.ble_eq_true_of_le (Nat.zero_le _)
 simp [mf,sb,h]
def q8 {α:Type} (C:dn α) (fr:Bool) (h:Tr bh):List AV→Option (List α)
 | []=>some []
 |a::l=>match C.dec fr h [a],q8 C fr h l with
  |some x,some xs=>some (x::xs)
  |_,_=>none
def aCl {α:Type} (a b:Option (List α)):Option (List α):=match a,b with|some x,some y=>some (x++y)|_,_=>none
def ayo {α:Type} (a:Option α) (b:Option (List α)):Option (List α):=match a,b with|some x,some y=>some (x::y)|_,_=>none
theorem at6 {α:Type} (a b:List α):aCl (some a) (some b)=some (a++b):=id rfl
theorem anj {α:Type} (a : α) (b:List α):ayo (some a) (some b)=some (a::b):=id rfl
theorem Tw {α:Type} (C:dn α) (fr h):q8 C fr h []=some []:=id rfl
theorem H3 {α:Type} (C:dn α) (fr h a l):q8 C fr h (a::l)=ayo (C.dec fr h [a]) (q8 C fr h l):=id rfl
theorem Ts {α:Type} (C:dn α) (fr h):∀ a b,q8 C fr h (a++b)=aCl (q8 C fr h a) (q8 C fr h b)
 | [],b=>by
  simp only [List.nil_append,Tw]
  cases q8 C fr h b<;>rfl
 |x::a,b=>by
  simp only [List.cons_append,H3,Ts C fr h a b]
  cases C.dec fr h [x]<;>cases q8 C fr h a<;>cases q8 C fr h b<;>rfl
theorem ahr {α:Type} (C:dn α) (hz:C.sz=1) (fr h):∀ cells:List AV,sb C fr h cells.length cells=q8 C fr h cells
 | []=>rfl
 |a::l=>by
  have h1:(a::l).take C.sz=[a]:=by rw [hz];rfl
  have h2:(a::l).drop C.sz=l:=by rw [hz];rfl
  simp only [List.length_cons,sb,h1,h2,ahr C hz fr h l]
  rfl
theorem x0 {α:Type} (C:dn α) (hz:C.sz=1) (fr h n cells k st et) (hn:n=cells.length):mf C fr h 0 n (.row cells k st et)=q8 C fr h cells:=by
 subst hn
 simp only [mf,hz,Nat.mul_one,Nat.zero_add,Nat.ble_self_eq_true,cond_true,List.drop_zero,List.take_length]
 exact ahr C hz fr h cells
theorem B4 {α:Type} (C:dn α) (hz:C.sz=1) (ha:C.agg=false) (fr h f) (hf:fr=true→f=true):∀ l:List α,q8 C fr h (l.map (C.val f))=some l
 | []=>rfl
 |x::l=>by
  obtain ⟨c,h1,_⟩:=C.one ha f x
  have hv:C.val f x=c:=by simp [dn.val,ha,h1]
  have hd:=C.rt fr h f x hf
  rw [h1] at hd
  rw [List.map_cons,H3,B4 C hz ha fr h f hf l,hv,hd];rfl
theorem aio {α β:Type} (f : α → β) (l:List α) (n:Nat):(l.map f).take n=(l.take n).map f:=List.map_take.symm
theorem ahk {α β:Type} (f : α → β) (l:List α) (n:Nat):(l.map f).drop n=(l.drop n).map f:=List.map_drop.symm
theorem Gd {α β:Type} (f : α → β) (l:List α):(l.map f).isEmpty=l.isEmpty:=by cases l<;>rfl
theorem G7 {α:Type} (l:List α) (x : α):(l++[x]).isEmpty=false:=by cases l<;>rfl
theorem J3 (a b:List AV):AV.names.go (a++b)=AV.names.go a++AV.names.go b:=by
 induction a with
 |nil=>rfl
 |cons x a ih=>simp only [List.cons_append,AV.names.go,ih,List.append_assoc]
theorem rtT {α:Type} (C:dn α) (h:Tr bh) (x : α):C.fw true h (C.val true x)=some x:=C.Ox true h true x (fun _=>rfl)
theorem rtF {α:Type} (C:dn α) (h:Tr bh) (l:Bool) (x : α):C.fw false h (C.val l x)=some x:=C.Ox false h l x (fun e=>by cases e)
theorem ai3 (s:ByteArray):s.data.toList.length=s.size:=by simp
theorem alz {α:Type} {l:List α} {n:Nat} (h:l.length≤n):l.take n=l:=List.take_of_length_le h
theorem aGy {α:Type} (C:dn α) (fr:Bool) (h:Tr bh) (x : α):C.fw fr h (C.val fr x)=some x:=C.Ox fr h fr x (fun e=>e)
theorem cb {a b:Nat} (h:a≤b):decide (a≤b)=true:=by simpa using h
theorem cd {a b:Nat} (h:a<b):decide (a<b)=true:=by simpa using h
theorem cg {a b:Int} (h:a≤b):decide (a≤b)=true:=by simpa using h
theorem cf {a b:Int} (h:a<b):decide (a<b)=true:=by simpa using h
theorem ah (x:Int) (h0 : -9223372036854775808≤x) (h1:x<9223372036854775808):IntKind.i64.wrap x=x:=by
 simp [IntKind.wrap,IntKind.bits,IntKind.signed];omega
theorem aq3 (n:Nat):IntKind.u8.wrap (n:Int)=((UInt8.ofNat n).toNat:Int):=by simp [IntKind.wrap,IntKind.bits,IntKind.signed]
theorem amm (n:Nat):IntKind.u32.wrap (n:Int)=((UInt32.ofNat n).toNat:Int):=by simp [IntKind.wrap,IntKind.bits,IntKind.signed]
theorem bm {p:Prop} [Decidable p] {X Y:SL→St→Prop} {L st}:xb (.sc (.bool (decide p))) X Y L st=((p→X L st)∧(¬ p→Y L st)):=by
 by_cases h:p<;>simp [h,Kb,I6]
theorem c9 {a b:Int} {X Y:SL→St→Prop} {L st}:xb (.sc (.bool (a == b))) X Y L st=(((a == b)=true∧a=b→X L st)∧((a == b)=false∧a≠b→Y L st)):=by
 by_cases h:a=b
 ·subst h;simp [Kb]
 ·have:(a == b)=false:=by simpa using h
  simp [h,this,I6]
theorem fg {a b:Int} {X Y:SL→St→Prop} {L st}:xb (.sc (.bool (a != b))) X Y L st=(((a != b)=true∧a≠b→X L st)∧((a != b)=false∧a=b→Y L st)):=by
 by_cases h:a=b
 ·subst h;simp [I6]
 ·have:(a != b)=true:=by simpa using h
  simp [h,this,Kb]
theorem Z1 (P:Program) (T:eg) (ρ:Operand→AV) (d ty pos af gd) (x ts):fo P T ⟨d,.call { callee:=.builtin .cap,args:=#[x],argTypes:=ts },ty,pos,af,gd⟩ ρ=mono (C0 ((ts[0]?).bind P.underlying) (ρ x)):=id rfl
theorem aab (e a n c):C0 (some (.slice e)) (.sc (.slice a n c))=M.pure (.sc (goInt c)):=id rfl
def axi (P:Program) (q:Option (Nat × Nat × Nat)) (s x:AV):M AV:=
 match q with
 |some (e,sz,bytes)=>
  match E5 P e sz x with
  |some new=>o8 e sz bytes s new
  |none=>M.fail
 |none=>M.fail
theorem ar4 (P:Program) (e sz bytes s x):axi P (some (e,sz,bytes)) s x=match E5 P e sz x with|some new=>o8 e sz bytes s new|none=>M.fail:=id rfl
theorem Vk (P:Program) (t:TypeId) (k:IntKind) (s x:AV):nv P (some t) (some (.int k)) s x=axi P (yj P t) s x:=by
 unfold nv axi yj
 simp only [Option.bind_some]
 cases qc P t with
 |none=>rfl
 |some e=>
  simp only
  cases dp P e with
  |none=>rfl
  |some sz=>
   cases kq P e with
   |none=>rfl
   |some bytes=>
    cases ew P e with
    |none=>rfl
    |some z=>
     simp only
     cases (Nat.blt 0 sz && Nat.blt 0 bytes && Nat.beq z.cells.size sz)<;>rfl
def ae0 (z:Option Value) (sz:Nat) (n:Int):Option (List AV):=
 match z with
 |some z=>bif decide (0≤n) && decide (n≤1073741824) && Nat.beq z.cells.size sz then some ((List.replicate n.toNat (z.cells.toList.map AV.sc)).flatten) else none
 |none=>none
theorem ahq (z sz n):ae0 (some z) sz n=bif decide (0≤n) && decide (n≤1073741824) && Nat.beq z.cells.size sz then some ((List.replicate n.toNat (z.cells.toList.map AV.sc)).flatten) else none:=id rfl
theorem aaw (P:Program) (e sz:Nat) (k:IntKind) (n:Int):E5 P e sz (.sc (.int k n))=ae0 (ew P e) sz n:=by
 simp only [E5,ae0,yi,AV.int,AV.exact,Option.bind_some,intOf,Option.map_some]
 cases ew P e<;>rfl
theorem alw {α:Type} (n:Nat) (x : α):(List.replicate n [x]).flatten=List.replicate n x:=by
 induction n with
 |zero=>rfl
 |succ n ih=>simp [List.replicate_succ,ih]
theorem Rt {α:Type} {n:Nat} {x : α} (h : 0<n):(List.replicate n x).isEmpty=false:=by
 cases n with
 |zero=>omega
 |succ n=>rfl
theorem nc0:((0:Nat):Int)=0:=id rfl
theorem nc1:((1:Nat):Int)=1:=id rfl
theorem at8 (n:Nat):List.replicate n (AV.sc (.int .u8 0))=(List.replicate n (0:UInt8)).map (cj.val false):=by rw [List.map_replicate];rfl
def aql (P:Program) (u:Option TypeDesc) (x hi:AV) (m:M AV):M AV:=
 match u with
 |some (.slice e)=>
  match dp P e with
  |some _=>
   match x with
   |.sc (.slice none 0 0)=>
    match hi with
    |.sc (.int .i64 0)=>M.pure (.sc (.slice none 0 0))
    |_=>m
   |_=>m
  |none=>m
 |_=>m
theorem ard (P:Program) (e m) (h:(dp P e).isSome=true):aql P (some (.slice e)) (.sc (.slice none 0 0)) (.sc (.int .i64 0)) m=M.pure (.sc (.slice none 0 0)):=by
 obtain ⟨n,hn⟩:=Option.isSome_iff_exists.1 h
 simp only [aql,hn]
theorem Hi (P:Program) (ρ:Operand→AV) (d ty pos af gd) (t:TypeId) (x h:Operand):il P ρ ⟨d,.slice t x none (some h) none,ty,pos,af,gd⟩ (.slice t x none (some h) none:Op).operands.toList=aql P (P.underlying t) (ρ x) (ρ h) (zn P ρ ⟨d,.slice t x none (some h) none,ty,pos,af,gd⟩ (.slice t x none (some h) none:Op).operands.toList):=by
 unfold aql
 split
 ·rename_i e hu
  split
  ·rename_i n hn
   split
   ·rename_i hx
    split
    ·rename_i hh
     have h2:execOp (fun z=>((ρ z).ft).getD undef) ⟨d,.slice t x none (some h) none,ty,pos,af,gd⟩=(do pure (Next.value (← Instr.sliceAt t (.slice none 0 0) none (some (.int .i64 0)) none))):=by
      simp only [execOp,hx,hh,AV.ft,Option.getD_some,Option.map_some,Option.map_none]
     have hi:∃ i,P.info? e=some i:=by
      unfold dp at hn
      cases hq:P.info? e with
      |none=>rw [hq] at hn;cases hn
      |some i=>exact ⟨i,rfl⟩
     obtain ⟨i,hi⟩:=hi
     have h3:ev P (Instr.sliceAt t (.slice none 0 0) none (some (.int .i64 0)) none)=some (.slice none 0 0):=by
      simp [Instr.sliceAt,Instr.slice,Instr.sliceBounds,Instr.sliceBound,asIntOf,underlying,program,ev,hu,sizeOf,typeInfo,hi,bind,Sem.bind,pure]
     unfold il ko si
     simp only [Op.operands]
     simp [hx,hh,AV.ft]
     rw [h2,Js,h3]
     rfl
    ·rfl
   ·rfl
  ·rfl
 ·rfl
def axa {α:Type} (o sz:Nat) (l:List α):AV:=bif l.isEmpty then .sc (.slice none 0 0) else .sl o 0 l.length sz
def ape (cells:List AV) (k st:Nat) (et:TypeId):List (Option bh):=bif cells.isEmpty then [] else [some (.row cells k st et)]
theorem asj {α:Type} {o sz} {l:List α} (h:l.isEmpty=false):axa o sz l = .sl o 0 l.length sz:=by simp [axa,h]
theorem Zn {α:Type} (o sz) (l:List α) (c : α):axa o sz (l++[c]) = .sl o 0 (l.length+1) sz:=by rw [asj (G7 l c)];simp
theorem aur {cells:List AV} {k st et} (h:cells.isEmpty=false):ape cells k st et=[some (.row cells k st et)]:=by simp [ape,h]
theorem awh {α:Type} {f : α→AV} {l:List α} {k st et} (h:l.isEmpty=false):ape (l.map f) k st et=[some (.row (l.map f) k st et)]:=aur (by rw [Gd,h])
theorem abl {α:Type} (f : α→AV) (l:List α) (c : α) (k st et):ape ((l++[c]).map f) k st et=[some (.row (l.map f++[f c]) k st et)]:=by rw [awh (G7 l c)];simp
theorem dv {α:Type} {l:List α} {i:Nat} (h:decide ((i:Int)<(l.length:Int))=true):∃ c,l[i]? = some c∧l.drop i=c::l.drop (i+1)∧i<l.length:=by
 have h1:i<l.length:=by simp at h;omega
 exact ⟨l[i],List.getElem?_eq_getElem h1,List.drop_eq_getElem_cons h1,h1⟩
theorem dz {α:Type} {l:List α} {i:Nat} (h:decide ((i:Int)<(l.length:Int))=false):l.drop i=[]:=by
 have h1:¬ i<l.length:=by simp at h;omega
 exact List.drop_eq_nil_of_le (by omega)
def vo (D:List Nat):Nat→List (Option bh)→List (Option bh)
 |_,[]=>[]
 |i,x::r=>(bif ti i D then x else none)::vo D (i+1) r
def w7 (D:List Nat):Nat→List (Option bh)→List (Option bh)
 |_,[]=>[]
 |i,x::r=>(bif ti i D then none else x)::w7 D (i+1) r
theorem abd (D):∀ (i:Nat) (os:List (Option bh)),(vo D i os).length=os.length
 |_,[]=>rfl
 |i,x::r=>by simp [vo,abd D (i+1) r]
theorem Pq (D):∀ (i:Nat) (os:List (Option bh)),(w7 D i os).length=os.length
 |_,[]=>rfl
 |i,x::r=>by simp [w7,Pq D (i+1) r]
theorem abz (D):∀ (os:List (Option bh)) (i j:Nat),((vo D i os)[j]?).join=if (i+j) ∈ D then (os[j]?).join else none
 | [],i,j=>by simp [vo]
 |x::r,i,0=>by
  simp only [vo,List.getElem?_cons_zero,Option.join_some,Nat.add_zero]
  cases hb:ti i D with
  |true=>rw [if_pos ((u3 i D).1 hb)];rfl
  |false=>rw [if_neg (fun h=>by rw [(u3 i D).2 h] at hb;cases hb)];rfl
 |x::r,i,j+1=>by
  simp only [vo,List.getElem?_cons_succ]
  rw [abz D r (i+1) j,show i+1+j=i+(j+1) from by omega]
theorem aad (D):∀ (os:List (Option bh)) (i j:Nat),((w7 D i os)[j]?).join=if (i+j) ∈ D then none else (os[j]?).join
 | [],i,j=>by simp [w7]
 |x::r,i,0=>by
  simp only [w7,List.getElem?_cons_zero,Option.join_some,Nat.add_zero]
  cases hb:ti i D with
  |true=>rw [if_pos ((u3 i D).1 hb)];rfl
  |false=>rw [if_neg (fun h=>by rw [(u3 i D).2 h] at hb;cases hb)];rfl
 |x::r,i,j+1=>by
  simp only [w7,List.getElem?_cons_succ]
  rw [aad D r (i+1) j,show i+1+j=i+(j+1) from by omega]
theorem Zg (os:List (Option bh)) (h:os.length≤cw) (o:Nat):(bq os).h.get o=(os[o]?).join:=by
 simp only [bq]
 rw [uu _ _ _ (by omega),if_pos (Nat.zero_le _),Nat.sub_zero]
inductive gu (h:Tr bh):AV→AV→Prop
 |same (a:AV):gu h a a
 |data {α:Type} (C:dn α) (fr:Bool) (x : α) (a:AV) (hd:C.fw fr h a=some x):gu h a (C.val fr x)
 |bad (a:AV):gu h a .bad
 |nil (o off sz:Nat):gu h (.sc (.slice none 0 0)) (.sl o off 0 sz)
 |se (loc:Bool) (sz:Nat):gu h (.sc (.slice none 0 0)) (.vl loc sz [])
inductive fc (h:Tr bh):List AV→List AV→Prop
 |nil:fc h [] []
 |cons {a b:AV} {l m:List AV} (h1:gu h a b) (h2:fc h l m):fc h (a::l) (b::m)
theorem fc.len {h l m} (hl:fc h l m):m.length=l.length:=by
 induction hl with
 |nil=>rfl
 |cons _ _ ih=>simp [ih]
theorem fc.refl (h):∀ l,fc h l l
 | []=>.nil
 |a::l=>.cons (.same a) (fc.refl h l)
theorem fc.get {h l m} (hl:fc h l m):∀ (i:Nat) b,m[i]? = some b→∃ a,l[i]? = some a∧gu h a b:=by
 induction hl with
 |nil=>intro i b hb;simp at hb
 |cons h1 h2 ih=>
  intro i b hb
  cases i with
  |zero=>simp at hb;subst hb;exact ⟨_,rfl,h1⟩
  |succ i=>exact ih i b (by simpa using hb)
inductive c7 (h:Tr bh):List (Option bh)→List (Option bh)→Prop
 |nil:c7 h [] []
 |ghost {st et m} (h2:c7 h [] m):c7 h [] (some (.row [] 0 st et)::m)
 |same {x l m} (h2:c7 h l m):c7 h (x::l) (x::m)
 |gone {x l m} (h2:c7 h l m):c7 h (x::l) (none::m)
 |row {cells cells' k st et l m} (h1:fc h cells cells') (h2:c7 h l m):c7 h (some (.row cells k st et)::l) (some (.row cells' k st et)::m)
theorem c7.refl (h):∀ l,c7 h l l
 | []=>.nil
 |x::l=>.same (c7.refl h l)
theorem c7.len {h l m} (hl:c7 h l m):l.length≤m.length:=by induction hl<;>simp_all
theorem c7.get {h l m} (hl:c7 h l m):∀ (i:Nat) y,(m[i]?).join=some y→(l[i]?).join=some y∨(∃ cells cells' k st et,y = .row cells' k st et∧(l[i]?).join=some (.row cells k st et)∧fc h cells cells')∨(l.length≤i∧Ck y):=by
 induction hl with
 |nil=>intro i y hy;simp at hy
 | @ghost st et m h2 ih=>
  intro i y hy
  cases i with
  |zero=>simp at hy;subst hy;exact .inr (.inr ⟨Nat.le_refl _,st,et,rfl⟩)
  |succ i=>exact .inr (.inr ⟨Nat.zero_le _,(by
   rcases ih i y (by simpa using hy) with h|⟨_,_,_,_,_,_,h,_⟩|h
   ·simp at h
   ·simp at h
   ·exact h.2)⟩)
 |same h2 ih=>
  intro i y hy
  cases i with
  |zero=>exact .inl hy
  |succ i=>exact (ih i y (by simpa using hy)).imp id (Or.imp id (fun h=>⟨Nat.succ_le_succ h.1,h.2⟩))
 |gone h2 ih=>
  intro i y hy
  cases i with
  |zero=>simp at hy
  |succ i=>exact (ih i y (by simpa using hy)).imp id (Or.imp id (fun h=>⟨Nat.succ_le_succ h.1,h.2⟩))
 |row h1 h2 ih=>
  intro i y hy
  cases i with
  |zero=>simp at hy;subst hy;exact .inr (.inl ⟨_,_,_,_,_,rfl,rfl,h1⟩)
  |succ i=>exact (ih i y (by simpa using hy)).imp id (Or.imp id (fun h=>⟨Nat.succ_le_succ h.1,h.2⟩))
theorem jt.lax {vs vs':List AV} {os os':List (Option bh)} {bd:Nat} (D:List Nat) (hlen':os'.length≤cw) (hv:fc (bq (vo D 0 os)).h vs vs') (ho:c7 (bq (vo D 0 os)).h (w7 D 0 os) os'):jt bd vs os vs' os':=by
 have holen:os.length≤os'.length:=by have:=ho.len;rw [Pq] at this;exact this
 have hlen:os.length≤cw:=Nat.le_trans holen hlen'
 refine ⟨hv.len,fun q=>Nat.le_trans q holen,fun g w us hok hfree hr=>?_⟩
 obtain ⟨hD,ehD⟩:∃ hD,(bq (vo D 0 os)).h=hD:=⟨_,rfl⟩
 rw [ehD] at hv ho
 have de:∀ o,(bq os).h.get o=(os[o]?).join:=Zg os hlen
 have hgetD:∀ o,hD.get o=if o ∈ D then (os[o]?).join else none:=fun o=>by
  rw [← ehD,Zg _ (by rw [abd];exact hlen),abz,Nat.zero_add]
 have hget':∀ o y,(bq os').h.get o=some y→(o ∉ D∧((bq os).h.get o=some y∨∃ cells cells' k st et,y = .row cells' k st et∧(bq os).h.get o=some (.row cells k st et)∧fc hD cells cells'))∨(os.length≤o∧Ck y):=fun o y hy=>by
  rw [Zg _ hlen'] at hy
  have hmid:∀ z,((w7 D 0 os)[o]?).join=some z→o ∉ D∧(os[o]?).join=some z:=fun z hz=>by
   rw [aad,Nat.zero_add] at hz
   by_cases hd:o ∈ D
   ·rw [if_pos hd] at hz;cases hz
   ·rw [if_neg hd] at hz;exact ⟨hd,hz⟩
  rw [de]
  rcases ho.get o y hy with h1|⟨cells,cells',k,st,et,h1,h2,h3⟩|h1
  ·exact .inl ⟨(hmid _ h1).1,.inl (hmid _ h1).2⟩
  ·exact .inl ⟨(hmid _ h2).1,.inr ⟨cells,cells',k,st,et,h1,(hmid _ h2).2,h3⟩⟩
  ·rw [Pq] at h1;exact .inr h1
 have hsub:∀ o x,hD.get o=some x→o ∈ D∧(bq os).h.get o=some x:=fun o x hx=>by
  rw [hgetD] at hx
  by_cases hd:o ∈ D
  ·rw [if_pos hd] at hx;rw [de];exact ⟨hd,hx⟩
  ·rw [if_neg hd] at hx;cases hx
 have hokD:Ok g hD w:=hok.part (fun o x hx=>(hsub o x hx).2)
 obtain ⟨K',eK⟩:∃ K':Nat→Nat→Prop,(fun b j=>g.K b j∨∃ o base cells k s e,hD.get o=some (.row cells k s e)∧g.inj o=some (b,base)∧∃ i,i<cells.length∧j=base+i)=K':=⟨_,rfl⟩
 have hK':∀ b j,K' b j↔(g.K b j∨∃ o base cells k s e,hD.get o=some (.row cells k s e)∧g.inj o=some (b,base)∧∃ i,i<cells.length∧j=base+i):=fun b j=>by rw [← eK]
 have hlend:s6 g hD K':=⟨fun b j h=>(hK' b j).2 (.inl h),fun o cells k s e h b base hi j hj=>(hK' _ _).2 (.inr ⟨o,base,cells,k,s,e,h,hi,j,hj,rfl⟩)⟩
 have hlax:∀ {a b:AV} {v:Value},gu hD a b→Rel g w a v→Rel { g with K:=K' } w b v:=fun {a b v} hl hrel=>by
  have hup:Rel { g with K:=K' } w a v:=Rel.ext (g:=g) (w:=w) (g':={ g with K:=K' }) (w':=w) ⟨rfl,fun _ _ h=>h,fun b j h=>(hK' b j).2 (.inl h),fun _ _ _=>rfl,fun b cs e fr h=>⟨cs,fr,h,rfl⟩,fun b l h=>⟨l,h⟩⟩ hrel
  cases hl with
  |same=>exact hup
  |data C fr x a hd=>exact (C.okV hokD hlend (fun _=>Nat.le_refl g.b0) hrel hd).lift (Nat.le_refl _) (fun _ _ h=>h)
  |bad=>exact .bad _
  |nil o off sz=>obtain rfl:=hup.exact rfl;exact .xg _ _ _
  |se loc sz=>obtain rfl:=hup.exact rfl;exact .kj _ _
 refine ⟨{ g with K:=K' },⟨hok.size,fun o y hy=>?_,fun o o' x x' b base base' hne hx hx' hb hb'=>?_,fun b j hk=>?_⟩,⟨by rw [hv.len];exact hr.1,fun i b v hb hv'=>?_⟩,rfl,fun o q=>hfree o (Nat.le_trans holen q),fun _ _=>rfl,fun b j h=>(hK' b j).2 (.inl h),fun o b base ho' hi'=>?_,fun b j hk=>?_⟩
 ·rcases hget' o y hy with ⟨hnd,hy⟩|⟨hge,hgh⟩
  case inr=>exact .inl ⟨hfree o hge,hgh⟩
  have hKo:∀ b base,g.inj o=some (b,base)→((bq os).h.get o).isSome=true→∀ j,K' b j→g.K b j:=fun b base hi hs j hk=>by
   rcases (hK' b j).1 hk with h|⟨o2,base2,cells,k,s,e,h1,h2,_⟩
   ·exact h
   ·exfalso
    obtain ⟨hd2,h1'⟩:=hsub o2 _ h1
    obtain ⟨x,hx⟩:=Option.isSome_iff_exists.1 hs
    exact hok.sep o o2 x _ b base base2 (fun e=>hnd (by rw [e];exact hd2)) hx h1' hi h2
  have hext:Ext g w { g with K:=K' } w:=⟨rfl,fun _ _ h=>h,fun b j h=>(hK' b j).2 (.inl h),fun _ _ _=>rfl,fun b cs e fr h=>⟨cs,fr,h,rfl⟩,fun b l h=>⟨l,h⟩⟩
  rcases hy with hy|⟨cells,cells',k,st,et,rfl,hy,hcl⟩
  ·refine (hok.nn o y hy).imp id ?_
   rintro ⟨b,base,h1,h2,h3⟩
   exact ⟨b,base,h1,h2,h3.ext hext rfl (fun j hj=>hKo b base h1 (by rw [hy];rfl) j hj)⟩
  ·refine (hok.nn o _ hy).imp (fun q=>⟨q.1,by
    obtain ⟨s0,e0,he⟩:=q.2
    simp only [bh.row.injEq] at he
    obtain ⟨rfl,rfl,rfl,rfl⟩:=he
    cases hcl
    exact ⟨_,_,rfl⟩⟩) ?_
   rintro ⟨b,base,h1,h2,cs,fr,r1,r2,r3,r4,r5,r6,r7⟩
   refine ⟨b,base,h1,h2,cs,fr,r1,by rw [hcl.len];exact r2,fun j c hc=>?_,r4,fun j hj=>r5 j (hKo b base h1 (by rw [hy];rfl) j hj),r6,fun e=>by rw [hcl.len];exact r7 e⟩
   obtain ⟨a,ha,hla⟩:=hcl.get j c hc
   obtain ⟨u,hu,hru⟩:=r3 j a ha
   exact ⟨u,hu,hlax hla hru⟩
 ·have q:∀ o y p,(bq os').h.get o=some y→g.inj o=some p→∃ z,(bq os).h.get o=some z:=fun o y p hy hp=>by
   rcases hget' o y hy with ⟨_,h|⟨_,_,_,_,_,_,h,_⟩⟩|⟨h,_⟩
   ·exact ⟨_,h⟩
   ·exact ⟨_,h⟩
   ·rw [hfree o h] at hp;cases hp
  obtain ⟨z,hz⟩:=q o x _ hx hb
  obtain ⟨z',hz'⟩:=q o' x' _ hx' hb'
  exact hok.sep o o' z z' b base base' hne hz hz' hb hb'
 ·rcases (hK' b j).1 hk with h|⟨o,base,cells,k,s,e,h1,h2,_⟩
  ·exact hok.K b j h
  ·obtain ⟨b',base',h3,_,h4⟩:=hokD.obj o _ h1
   rw [h2] at h3;cases h3
   exact h4.lt
 ·obtain ⟨a,ha,hla⟩:=hv.get i b hb
  exact hlax hla (hr.2 i a v ha hv')
 ·obtain ⟨y,hy⟩:=Option.isSome_iff_exists.1 ho'
  rcases hget' o y hy with ⟨_,h|⟨_,_,_,_,_,_,h,_⟩⟩|⟨h,_⟩
  ·exact ⟨o,base,by rw [h];rfl,hi'⟩
  ·exact ⟨o,base,by rw [h];rfl,hi'⟩
  ·have:g.inj o=some (b,base):=hi'
   rw [hfree o h] at this;cases this
 ·rcases (hK' b j).1 hk with h|⟨o,base,cells,k,s,e,h1,h2,_⟩
  ·exact .inl h
  ·exact .inr ⟨o,base,by rw [(hsub o _ h1).2];rfl,h2⟩
theorem Zm {α:Type} {P:Program} {T:eg} {bd:Nat} {b:Code} {Q:QL} {L:SL} {st:St} (keep:List Nat) (V : α→List AV) (O : α→List (Option bh)) (I : α→Prop) (μ : α→Nat) (x : α) (hx:I x)
 (hv:jt bd (kc bd keep L st) (gw bd keep L st) (V x) (O x))
 (step:∀ x,I x→wl P T bd b (ya bd keep (fun vs os=>∃ y,I y ∧ μ y < μ x∧jt bd vs os (V y) (O y)) Q) (nq keep (V x)) (bq (O x))):sx bd (wl P T bd b) Q L st:=
 sx.aqr keep V O I μ x hx hv (fun _ _ h=>J5 b _ _ h) step
theorem ji {α:Type} {P:Program} {T:eg} {bd:Nat} {b:Code} {Q:QL} {L:SL} {st:St} (keep:List Nat) (V : α→List AV) (O : α→List (Option bh)) (I : α→Prop) (μ : α→Nat) (x : α) (hx:I x)
 (hv:jt bd (kc bd keep L st) (gw bd keep L st) (V x) (O x))
 (step:∀ x,I x→wl P T bd b (ya bd keep (fun vs os=>∃ y,I y ∧ μ y < μ x∧vs=V y∧os=O y) Q) (nq keep (V x)) (bq (O x))):sx bd (wl P T bd b) Q L st:=
 Zm keep V O I μ x hx hv (fun x hi=>J5 b _ _ (fun e L' st' hq=>by
  cases e with
  |normal=>
   obtain ⟨y,h1,h2,h3,h4⟩:=hq
   refine ⟨y,h1,h2,?_⟩
   rw [h3,h4];exact .refl _ _ _
  |exit id=>exact hq
  |ret=>exact hq) _ _ (step x hi))
theorem Ig (f) (l):(List.map (aq.val f) l).flatMap AV.cells=l.map (aq.val f):=Fb aq f rfl rfl l
theorem Ww (f) (l):(List.map (aq.val f) l).all AV.one=true:=by rw [← Ig f l,Gq];exact wi _ _ _
theorem Ly (fr h n cells k st et) (hn:n=cells.length):mf aq fr h 0 n (.row cells k st et)=q8 aq fr h cells:=x0 aq rfl fr h n cells k st et hn
theorem Sv (fr h f) (l):q8 aq fr h (List.map (aq.val f) l)=some l:=by
 have e:List.map (aq.val f) l=List.map (aq.val true) l:=by cases f<;>rfl
 rw [e];exact B4 aq rfl rfl fr h true (fun _=>rfl) l
theorem Lg (f) (l):(List.map (cj.val f) l).flatMap AV.cells=l.map (cj.val f):=Fb cj f rfl rfl l
theorem aby (f) (l):(List.map (cj.val f) l).all AV.one=true:=by rw [← Lg f l,Gq];exact wi _ _ _
theorem Ov (fr h n cells k st et) (hn:n=cells.length):mf cj fr h 0 n (.row cells k st et)=q8 cj fr h cells:=x0 cj rfl fr h n cells k st et hn
theorem Ve (fr h f) (l):q8 cj fr h (List.map (cj.val f) l)=some l:=by
 have e:List.map (cj.val f) l=List.map (cj.val true) l:=by cases f<;>rfl
 rw [e];exact B4 cj rfl rfl fr h true (fun _=>rfl) l
theorem Ir (f) (l):(List.map (bg.val f) l).flatMap AV.cells=l.map (bg.val f):=Fb bg f rfl rfl l
theorem Ug (f) (l):(List.map (bg.val f) l).all AV.one=true:=by rw [← Ir f l,Gq];exact wi _ _ _
theorem L7 (fr h n cells k st et) (hn:n=cells.length):mf bg fr h 0 n (.row cells k st et)=q8 bg fr h cells:=x0 bg rfl fr h n cells k st et hn
theorem Rm (fr h f) (l):q8 bg fr h (List.map (bg.val f) l)=some l:=by
 have e:List.map (bg.val f) l=List.map (bg.val true) l:=by cases f<;>rfl
 rw [e];exact B4 bg rfl rfl fr h true (fun _=>rfl) l
theorem F5 (f) (l):(List.map (aw.val f) l).flatMap AV.cells=l.map (aw.val f):=Fb aw f rfl rfl l
theorem Sh (f) (l):(List.map (aw.val f) l).all AV.one=true:=by rw [← F5 f l,Gq];exact wi _ _ _
theorem Jb (fr h n cells k st et) (hn:n=cells.length):mf aw fr h 0 n (.row cells k st et)=q8 aw fr h cells:=x0 aw rfl fr h n cells k st et hn
theorem Nk (fr h f) (l) (hf:(f || !fr)=true):q8 aw fr h (List.map (aw.val f) l)=some l:=B4 aw rfl rfl fr h f (fun e=>by subst e;simpa using hf) l
theorem Ns (fr h l n xs) (hn:n=1) (hl:(l || !fr)=true):ek aq fr h (.vl l n (xs.map (aq.val false)))=some xs:=by
 cases l with
 |true=>exact wg aq fr h true xs n hn hl
 |false=>exact wg aq fr h false xs n hn hl
theorem V8:aq.val true=aq.val false:=id rfl
theorem Si (fr h l n xs) (hn:n=1) (hl:(l || !fr)=true):ek cj fr h (.vl l n (xs.map (cj.val false)))=some xs:=by
 cases l with
 |true=>exact wg cj fr h true xs n hn hl
 |false=>exact wg cj fr h false xs n hn hl
theorem aa5:cj.val true=cj.val false:=id rfl
theorem M4 (fr h l n xs) (hn:n=1) (hl:(l || !fr)=true):ek bg fr h (.vl l n (xs.map (bg.val false)))=some xs:=by
 cases l with
 |true=>exact wg bg fr h true xs n hn hl
 |false=>exact wg bg fr h false xs n hn hl
theorem Xh:bg.val true=bg.val false:=id rfl
theorem Wf (fr h s):aq.dec fr h [.sc (.string s)]=some s:=id rfl
theorem Z5 (fr h) (c:UInt8):cj.dec fr h [.sc (.int .u8 c.toNat)]=some c:=cj.rt fr h true c (fun _=>rfl)
theorem X5 (fr h) (c:UInt16):da.dec fr h [.sc (.int .u16 c.toNat)]=some c:=da.rt fr h true c (fun _=>rfl)
theorem V9 (fr h) (c:UInt32):bg.dec fr h [.sc (.int .u32 c.toNat)]=some c:=bg.rt fr h true c (fun _=>rfl)
theorem Rv (fr h b):bn.dec fr h [.sc (.bool b)]=some b:=id rfl
theorem Sq (fr h a):aw.dec fr h [a]=ek aq fr h a:=id rfl
theorem aa6 (a b:List AV):AV.fresh.go (a++b)=(AV.fresh.go a && AV.fresh.go b):=by
 induction a with
 |nil=>rfl
 |cons x a ih=>simp only [List.cons_append,AV.fresh.go,ih,Bool.and_assoc]
theorem af3 (f) (l:List UInt8):AV.fresh.go (l.map (cj.val f))=true:=by
 induction l with
 |nil=>rfl
 |cons x l ih=>simp only [List.map_cons,AV.fresh.go,ih];rfl
theorem Sf (f) (c:Name):(aw.val f c).one=true:=id rfl
theorem Lv (f) (c:Name):(aw.val f c).cells=[aw.val f c]:=id rfl
theorem aa0 (fr h a):(ca cj).dec fr h [a]=ek cj fr h a:=id rfl
theorem N7 (fr h n cells k st et) (hn:n=cells.length):mf (ca cj) fr h 0 n (.row cells k st et)=q8 (ca cj) fr h cells:=x0 (ca cj) rfl fr h n cells k st et hn
theorem Q3 (k f) (l:List Int):(List.map ((ay k).val f) l).flatMap AV.cells=l.map ((ay k).val f):=Fb (ay k) f rfl rfl l
theorem Xt (k):(ay k).val true=(ay k).val false:=id rfl
end
end Go.Vm
section
set_option maxRecDepth 4000
namespace Go.Vm
theorem wR:type_of% @ank∧type_of% @agd∧type_of% @Z3∧type_of% @aut∧type_of% @alq∧type_of% @ahg∧type_of% @am2∧type_of% @aew∧type_of% @aml∧type_of% @at5∧type_of% @aq5∧type_of% @aq0∧type_of% @asv∧type_of% @auf∧type_of% @asn∧type_of% @ast∧type_of% @alh∧type_of% @als∧type_of% @alv∧type_of% @auv∧type_of% @at0∧type_of% @aaf∧type_of% @ai5∧type_of% @abk∧type_of% @Wj∧type_of% @Ul∧type_of% @agn∧type_of% @ah6∧type_of% @afw∧type_of% @amz∧type_of% @agh∧type_of% @aje∧type_of% @abe∧type_of% @ad5∧type_of% @aaj∧type_of% @Z2∧type_of% @ahh∧type_of% @aag∧type_of% @aas∧type_of% @aq2∧type_of% @Kb∧type_of% @I6∧type_of% @aeu∧type_of% @aen∧type_of% @W0∧type_of% @aif∧type_of% @am4∧type_of% @aef∧type_of% @aa8∧type_of% @afe∧type_of% @amu∧type_of% @at1∧type_of% @asr∧type_of% @arz∧type_of% @as9∧type_of% @aqy∧type_of% @art∧type_of% @ali∧type_of% @amc∧type_of% @al3∧type_of% @amw∧type_of% @am0∧type_of% @am1∧type_of% @aez∧type_of% @abp∧type_of% @Vn∧type_of% @Wg∧type_of% @agt∧type_of% @ajc∧type_of% @ahd∧type_of% @al1∧type_of% @amy∧type_of% @Uq∧type_of% @asb∧type_of% @au2∧type_of% @af4∧type_of% @ago∧type_of% @am6∧type_of% @Rp∧type_of% @Nu:=
 ⟨@ank,@agd,@Z3,@aut,@alq,@ahg,@am2,@aew,@aml,@at5,@aq5,@aq0,@asv,@auf,@asn,@ast,@alh,@als,@alv,@auv,@at0,@aaf,@ai5,@abk,@Wj,@Ul,@agn,@ah6,@afw,@amz,@agh,@aje,@abe,@ad5,@aaj,@Z2,@ahh,@aag,@aas,@aq2,@Kb,@I6,@aeu,@aen,@W0,@aif,@am4,@aef,@aa8,@afe,@amu,@at1,@asr,@arz,@as9,@aqy,@art,@ali,@amc,@al3,@amw,@am0,@am1,@aez,@abp,@Vn,@Wg,@agt,@ajc,@ahd,@al1,@amy,@Uq,@asb,@au2,@af4,@ago,@am6,@Rp,@Nu⟩
theorem R0:type_of% @ahk∧type_of% @at8∧type_of% @List.length_take.{0}∧type_of% @nc0∧type_of% @nc1∧type_of% @Int.sub_zero∧type_of% @Int.sub_self∧type_of% @Int.zero_add∧type_of% @Vk∧type_of% @ar4∧type_of% @aaw∧type_of% @ahq∧type_of% @alw∧type_of% @Rt∧type_of% @List.length_replicate.{0}∧type_of% @Z1∧type_of% @aab∧type_of% @ard∧type_of% @Hi∧type_of% @Rw∧type_of% @N1∧type_of% @ag4∧type_of% @agm∧type_of% @Wm∧type_of% @Mg∧type_of% @ai3∧type_of% @alz∧type_of% @aq3∧type_of% @amm∧type_of% @Tw∧type_of% @H3∧type_of% @Ts∧type_of% @at6∧type_of% @anj∧type_of% @Sv∧type_of% @Ve∧type_of% @Rm∧type_of% @Nk∧type_of% @Wf∧type_of% @Z5∧type_of% @X5∧type_of% @V9∧type_of% @Rv∧type_of% @Sq∧type_of% @List.length_append.{0}∧type_of% @rtT∧type_of% @rtF∧type_of% @Go.Vm.sr.eq_1∧type_of% @Go.Vm.bounds.eq_1∧type_of% @Go.Vm.Gm.eq_1∧type_of% @Go.Vm.Gm.eq_2:=
 ⟨@ahk,@at8,@List.length_take.{0},@nc0,@nc1,@Int.sub_zero,@Int.sub_self,@Int.zero_add,@Vk,@ar4,@aaw,@ahq,@alw,@Rt,@List.length_replicate.{0},@Z1,@aab,@ard,@Hi,@Rw,@N1,@ag4,@agm,@Wm,@Mg,@ai3,@alz,@aq3,@amm,@Tw,@H3,@Ts,@at6,@anj,@Sv,@Ve,@Rm,@Nk,@Wf,@Z5,@X5,@V9,@Rv,@Sq,@List.length_append.{0},@rtT,@rtF,@Go.Vm.sr.eq_1,@Go.Vm.bounds.eq_1,@Go.Vm.Gm.eq_1,@Go.Vm.Gm.eq_2⟩
theorem R1:type_of% @Go.Vm.ua.eq_1∧type_of% @Go.Vm.uo.eq_def∧type_of% @Go.Vm.sa.eq_def∧type_of% @J3∧type_of% @Ls∧type_of% @Q8∧type_of% @wi∧type_of% @Wb∧type_of% @Nat.div_one∧type_of% @Ut∧type_of% @Uw∧type_of% @arc∧type_of% @Rr∧type_of% @Wo∧type_of% @Sd∧type_of% @ayc∧type_of% @Ig∧type_of% @Lg∧type_of% @Ir∧type_of% @F5∧type_of% @Q3∧type_of% @Ww∧type_of% @aby∧type_of% @Ug∧type_of% @Sh∧type_of% @V8∧type_of% @aa5∧type_of% @Xh∧type_of% @Xt∧type_of% @ang∧type_of% @am8∧type_of% @Ws∧type_of% @alm∧type_of% @J1∧type_of% @Ng∧type_of% @Option.isNone_none.{0}∧type_of% @Option.isNone_some.{0}∧type_of% @alx:=
 ⟨@Go.Vm.ua.eq_1,@Go.Vm.uo.eq_def,@Go.Vm.sa.eq_def,@J3,@Ls,@Q8,@wi,@Wb,@Nat.div_one,@Ut,@Uw,@arc,@Rr,@Wo,@Sd,@ayc,@Ig,@Lg,@Ir,@F5,@Q3,@Ww,@aby,@Ug,@Sh,@V8,@aa5,@Xh,@Xt,@ang,@am8,@Ws,@alm,@J1,@Ng,@Option.isNone_none.{0},@Option.isNone_some.{0},@alx⟩
theorem R2:type_of% @Sf∧type_of% @Lv∧type_of% @Ns∧type_of% @Si∧type_of% @M4∧type_of% @aa6∧type_of% @af3∧type_of% @aa0∧type_of% @N7∧type_of% @Ly∧type_of% @Ov∧type_of% @L7∧type_of% @Jb∧type_of% @aio∧type_of% @Gd∧type_of% @List.isEmpty_cons.{0}∧type_of% @List.isEmpty_nil.{0}∧type_of% @List.flatMap_nil.{0,0}∧type_of% @S7∧type_of% @Sp∧type_of% @Un∧type_of% @Xi∧type_of% @and_true∧type_of% @true_and∧type_of% @Sj∧type_of% @Ss∧type_of% @aap∧type_of% @al4∧type_of% @asp∧type_of% @and_self∧type_of% @List.size_toArray.{0}∧type_of% @aau∧type_of% @Z4∧type_of% @aht∧type_of% @afk∧type_of% @aa3∧type_of% @aib∧type_of% @Wv∧type_of% @agx∧type_of% @Lq∧type_of% @Zv∧type_of% @af6∧type_of% @aaq∧type_of% @Rc∧type_of% @Lu:=
 ⟨@Sf,@Lv,@Ns,@Si,@M4,@aa6,@af3,@aa0,@N7,@Ly,@Ov,@L7,@Jb,@aio,@Gd,@List.isEmpty_cons.{0},@List.isEmpty_nil.{0},@List.flatMap_nil.{0,0},@S7,@Sp,@Un,@Xi,@and_true,@true_and,@Sj,@Ss,@aap,@al4,@asp,@and_self,@List.size_toArray.{0},@aau,@Z4,@aht,@afk,@aa3,@aib,@Wv,@agx,@Lq,@Zv,@af6,@aaq,@Rc,@Lu⟩
theorem R3:type_of% @Pt∧type_of% @Zs∧type_of% @abv∧type_of% @J7∧type_of% @ab2∧type_of% @am3∧type_of% @W4∧type_of% @ai8∧type_of% @Zq∧type_of% @U0∧type_of% @aix∧type_of% @Zp∧type_of% @aam∧type_of% @Vi∧type_of% @Xd∧type_of% @S1∧type_of% @ayd∧type_of% @aji∧type_of% @Z0∧type_of% @Rh∧type_of% @Oq∧type_of% @Uh∧type_of% @Xc∧type_of% @yy∧type_of% @Go.Vm.cellsIn.eq_1∧type_of% @Go.Vm.cellsIn.eq_2∧type_of% @Go.Vm.cellsIn.eq_5∧type_of% @Go.Vm.cellsIn.eq_6∧type_of% @Go.Vm.ze.eq_1∧type_of% @Go.Vm.Bs.eq_1∧type_of% @G1∧type_of% @Mo∧type_of% @Nz∧type_of% @M1∧type_of% @D9∧type_of% @Ho∧type_of% @Hp∧type_of% @Gj∧type_of% @Pf∧type_of% @Jl∧type_of% @Oh∧type_of% @Ec∧type_of% @L5∧type_of% @Ou∧type_of% @L9:=
 ⟨@Pt,@Zs,@abv,@J7,@ab2,@am3,@W4,@ai8,@Zq,@U0,@aix,@Zp,@aam,@Vi,@Xd,@S1,@ayd,@aji,@Z0,@Rh,@Oq,@Uh,@Xc,@yy,@Go.Vm.cellsIn.eq_1,@Go.Vm.cellsIn.eq_2,@Go.Vm.cellsIn.eq_5,@Go.Vm.cellsIn.eq_6,@Go.Vm.ze.eq_1,@Go.Vm.Bs.eq_1,@G1,@Mo,@Nz,@M1,@D9,@Ho,@Hp,@Gj,@Pf,@Jl,@Oh,@Ec,@L5,@Ou,@L9⟩
theorem R4:type_of% @Hd∧type_of% @Ed∧type_of% @Mh∧type_of% @Lw∧type_of% @Dg∧type_of% @G0∧type_of% @Nj∧type_of% @S5∧type_of% @Ke∧type_of% @O6∧type_of% @abh∧type_of% @abw∧type_of% @n6∧type_of% @Xy∧type_of% @Sr∧type_of% @aft∧type_of% @wg∧type_of% @al8∧type_of% @V7∧type_of% @Wy∧type_of% @Hs∧type_of% @ab3∧type_of% @W9∧type_of% @Go.Vm.lr.eq_1∧type_of% @List.flatten_cons.{0}∧type_of% @List.flatten_nil.{0}∧type_of% @List.replicate_succ.{0}∧type_of% @List.replicate_zero.{0}∧type_of% @aak∧type_of% @abo∧type_of% @as7∧type_of% @al7∧type_of% @ayg∧type_of% @aye∧type_of% @ayi∧type_of% @K6∧type_of% @F8∧type_of% @Lo∧type_of% @A7∧type_of% @Re:=
 ⟨@Hd,@Ed,@Mh,@Lw,@Dg,@G0,@Nj,@S5,@Ke,@O6,@abh,@abw,@n6,@Xy,@Sr,@aft,@wg,@al8,@V7,@Wy,@Hs,@ab3,@W9,@Go.Vm.lr.eq_1,@List.flatten_cons.{0},@List.flatten_nil.{0},@List.replicate_succ.{0},@List.replicate_zero.{0},@aak,@abo,@as7,@al7,@ayg,@aye,@ayi,@K6,@F8,@Lo,@A7,@Re⟩
theorem R5:type_of% @Lh∧type_of% @If∧type_of% @D8∧type_of% @Aq∧type_of% @By∧type_of% @Sw∧type_of% @abg∧type_of% @Iw∧type_of% @zb∧type_of% @L4∧type_of% @Ji∧type_of% @L8∧type_of% @Q9∧type_of% @Q6∧type_of% @M6∧type_of% @H0∧type_of% @M3∧type_of% @Gt∧type_of% @U7∧type_of% @Pb∧type_of% @L6∧type_of% @arv∧type_of% @atk∧type_of% @ayv∧type_of% @Rn∧type_of% @Go.IntKind.bits.eq_6∧type_of% @Nat.min_def∧type_of% @ayk∧type_of% @azf∧type_of% @ay3∧type_of% @ay8∧type_of% @azh∧type_of% @ax5∧type_of% @ayt∧type_of% @ayw∧type_of% @ays∧type_of% @ayf∧type_of% @aeo∧type_of% @ajd∧type_of% @aDg∧type_of% @aDu∧type_of% @aor∧type_of% @Go.Vm.y7.eq_1∧type_of% @Go.Vm.sj.eq_1∧type_of% @Go.Vm.qe.eq_def:=
 ⟨@Lh,@If,@D8,@Aq,@By,@Sw,@abg,@Iw,@zb,@L4,@Ji,@L8,@Q9,@Q6,@M6,@H0,@M3,@Gt,@U7,@Pb,@L6,@arv,@atk,@ayv,@Rn,@Go.IntKind.bits.eq_6,@Nat.min_def,@ayk,@azf,@ay3,@ay8,@azh,@ax5,@ayt,@ayw,@ays,@ayf,@aeo,@ajd,@aDg,@aDu,@aor,@Go.Vm.y7.eq_1,@Go.Vm.sj.eq_1,@Go.Vm.qe.eq_def⟩
theorem R6:type_of% @Go.Vm.zc.eq_1∧type_of% @Go.Vm.vt.eq_1∧type_of% @Go.Vm.oq.eq_1∧type_of% @Go.Vm.ka.eq_1∧type_of% @Go.Vm.ka.eq_2∧type_of% @Go.Vm.AV.known.eq_2∧type_of% @Go.Value.oneCell'.eq_3∧type_of% @Go.Vm.AV.cells.eq_1∧type_of% @Go.Vm.AV.cells.eq_2∧type_of% @Go.Vm.AV.cells.eq_3∧type_of% @Go.Value.cells.eq_1∧type_of% @Go.Value.cells.eq_2∧type_of% @Go.Vm.AV.one.eq_4∧type_of% @Go.Vm.AV.one.eq_5∧type_of% @Go.Vm.kr.eq_1∧type_of% @Go.Vm.jr.eq_1∧type_of% @Go.Vm.jr.eq_2∧type_of% @Go.Vm.Bn.eq_1∧type_of% @Go.Vm.sk.eq_1∧type_of% @Go.Vm.s7.eq_2∧type_of% @Go.Vm.s7.eq_6∧type_of% @Go.Vm.j0.eq_1∧type_of% @Go.Vm.j0.eq_3∧type_of% @Go.Vm.j0.eq_4∧type_of% @Go.Vm.y6.eq_1∧type_of% @Go.Vm.Ff.eq_1∧type_of% @Go.Vm.Nh.eq_1∧type_of% @Go.Vm.n9.eq_1∧type_of% @Go.Vm.n9.eq_2∧type_of% @Go.Vm.n9.eq_3∧type_of% @Go.Vm.n9.eq_4∧type_of% @Go.Vm.n9.eq_5∧type_of% @Go.Vm.n9.eq_6∧type_of% @Go.Vm.n9.eq_7∧type_of% @Go.Vm.n9.eq_8∧type_of% @Go.Vm.n9.eq_9∧type_of% @Go.Vm.n9.eq_10:=
 ⟨@Go.Vm.zc.eq_1,@Go.Vm.vt.eq_1,@Go.Vm.oq.eq_1,@Go.Vm.ka.eq_1,@Go.Vm.ka.eq_2,@Go.Vm.AV.known.eq_2,@Go.Value.oneCell'.eq_3,@Go.Vm.AV.cells.eq_1,@Go.Vm.AV.cells.eq_2,@Go.Vm.AV.cells.eq_3,@Go.Value.cells.eq_1,@Go.Value.cells.eq_2,@Go.Vm.AV.one.eq_4,@Go.Vm.AV.one.eq_5,@Go.Vm.kr.eq_1,@Go.Vm.jr.eq_1,@Go.Vm.jr.eq_2,@Go.Vm.Bn.eq_1,@Go.Vm.sk.eq_1,@Go.Vm.s7.eq_2,@Go.Vm.s7.eq_6,@Go.Vm.j0.eq_1,@Go.Vm.j0.eq_3,@Go.Vm.j0.eq_4,@Go.Vm.y6.eq_1,@Go.Vm.Ff.eq_1,@Go.Vm.Nh.eq_1,@Go.Vm.n9.eq_1,@Go.Vm.n9.eq_2,@Go.Vm.n9.eq_3,@Go.Vm.n9.eq_4,@Go.Vm.n9.eq_5,@Go.Vm.n9.eq_6,@Go.Vm.n9.eq_7,@Go.Vm.n9.eq_8,@Go.Vm.n9.eq_9,@Go.Vm.n9.eq_10⟩
theorem R7:type_of% @Go.Vm.AV.int.eq_1∧type_of% @Go.Vm.AV.bool.eq_1∧type_of% @Go.Vm.AV.exact.eq_1∧type_of% @Go.Vm.AV.exact.eq_2∧type_of% @Go.Vm.intOf.eq_1∧type_of% @Go.Vm.intOf.eq_2∧type_of% @Go.Vm.o0.eq_1∧type_of% @Go.Vm.kx.eq_1∧type_of% @Go.Vm.wc.eq_1∧type_of% @Go.Vm.wc.eq_2∧type_of% @Go.Vm.yi.eq_1∧type_of% @Go.Vm.Dr.eq_1∧type_of% @Go.Vm.qc.eq_1∧type_of% @Go.Vm.px.eq_1∧type_of% @Go.Vm.pv.eq_1∧type_of% @Go.Vm.pv.eq_3∧type_of% @Go.Vm.pv.eq_9∧type_of% @Go.Vm.Gr.eq_1∧type_of% @Go.Vm.T5.eq_1∧type_of% @Go.Vm.I5.eq_1∧type_of% @Go.Vm.isSlice.eq_3∧type_of% @Go.Vm.isSlice.eq_4∧type_of% @Go.Vm.E1.eq_1∧type_of% @Go.goInt.eq_1∧type_of% @ar6∧type_of% @arq∧type_of% @ar3∧type_of% @Go.Vm.pack.eq_1∧type_of% @Go.Vm.pack.eq_2∧type_of% @Go.Vm.b9.eq_1∧type_of% @Go.Vm.b9.eq_2∧type_of% @Go.Vm.bq.eq_1∧type_of% @Go.Vm.qv.eq_1∧type_of% @Go.Vm.qv.eq_2∧type_of% @Go.Vm.u9.eq_1∧type_of% @lu∧type_of% @ug∧type_of% @aar∧type_of% @aep∧type_of% @ri∧type_of% @re∧type_of% @Hr:=
 ⟨@Go.Vm.AV.int.eq_1,@Go.Vm.AV.bool.eq_1,@Go.Vm.AV.exact.eq_1,@Go.Vm.AV.exact.eq_2,@Go.Vm.intOf.eq_1,@Go.Vm.intOf.eq_2,@Go.Vm.o0.eq_1,@Go.Vm.kx.eq_1,@Go.Vm.wc.eq_1,@Go.Vm.wc.eq_2,@Go.Vm.yi.eq_1,@Go.Vm.Dr.eq_1,@Go.Vm.qc.eq_1,@Go.Vm.px.eq_1,@Go.Vm.pv.eq_1,@Go.Vm.pv.eq_3,@Go.Vm.pv.eq_9,@Go.Vm.Gr.eq_1,@Go.Vm.T5.eq_1,@Go.Vm.I5.eq_1,@Go.Vm.isSlice.eq_3,@Go.Vm.isSlice.eq_4,@Go.Vm.E1.eq_1,@Go.goInt.eq_1,@ar6,@arq,@ar3,@Go.Vm.pack.eq_1,@Go.Vm.pack.eq_2,@Go.Vm.b9.eq_1,@Go.Vm.b9.eq_2,@Go.Vm.bq.eq_1,@Go.Vm.qv.eq_1,@Go.Vm.qv.eq_2,@Go.Vm.u9.eq_1,@lu,@ug,@aar,@aep,@ri,@re,@Hr⟩
theorem R8:type_of% @Xf∧type_of% @Vt∧type_of% @Uu∧type_of% @Ro∧type_of% @Uk∧type_of% @Go.Vm.kc.eq_1∧type_of% @Go.Vm.gw.eq_1∧type_of% @Go.Vm.ik.eq_1∧type_of% @Go.Vm.pa.eq_1∧type_of% @Go.Vm.pa.eq_2∧type_of% @Go.Vm.reach.eq_2∧type_of% @Go.Vm.reach.eq_3∧type_of% @Go.Vm.fh.eq_1∧type_of% @Go.Vm.dw.eq_1∧type_of% @Go.Vm.dw.eq_2∧type_of% @Go.Vm.AV.names.eq_1∧type_of% @Go.Vm.AV.names.eq_2∧type_of% @Go.Vm.AV.names.eq_3∧type_of% @Go.Vm.AV.names.eq_4∧type_of% @Go.Vm.AV.names.eq_5∧type_of% @Go.Vm.AV.names.eq_6∧type_of% @Go.Vm.AV.names.eq_9∧type_of% @Go.Vm.AV.names.go.eq_1∧type_of% @Go.Vm.AV.names.go.eq_2∧type_of% @Go.Vm.bh.names.eq_1∧type_of% @Go.Vm.bh.names.eq_2∧type_of% @Go.Vm.AV.dk.eq_1∧type_of% @Go.Vm.AV.dk.eq_2∧type_of% @Go.Vm.AV.dk.eq_3∧type_of% @Go.Vm.AV.dk.eq_4∧type_of% @Go.Vm.AV.dk.eq_5∧type_of% @Go.Vm.AV.dk.eq_6∧type_of% @Go.Vm.AV.dk.eq_7∧type_of% @Go.Vm.AV.dk.eq_8∧type_of% @Go.Vm.AV.dk.eq_11∧type_of% @Go.Vm.bh.dk.eq_1∧type_of% @Go.Vm.bh.dk.eq_2∧type_of% @K3∧type_of% @amr∧type_of% @Go.Vm.iy.eq_1∧type_of% @Go.Vm.iy.eq_2∧type_of% @Go.Vm.nq.eq_2∧type_of% @j9∧type_of% @Option.bind_some.{0,0}∧type_of% @Option.bind_none.{0,0}∧type_of% @Option.map_some.{0,0}∧type_of% @Option.getD_some.{0}∧type_of% @Option.getD_none.{0}∧type_of% @Option.isSome_some.{0}:=
 ⟨@Xf,@Vt,@Uu,@Ro,@Uk,@Go.Vm.kc.eq_1,@Go.Vm.gw.eq_1,@Go.Vm.ik.eq_1,@Go.Vm.pa.eq_1,@Go.Vm.pa.eq_2,@Go.Vm.reach.eq_2,@Go.Vm.reach.eq_3,@Go.Vm.fh.eq_1,@Go.Vm.dw.eq_1,@Go.Vm.dw.eq_2,@Go.Vm.AV.names.eq_1,@Go.Vm.AV.names.eq_2,@Go.Vm.AV.names.eq_3,@Go.Vm.AV.names.eq_4,@Go.Vm.AV.names.eq_5,@Go.Vm.AV.names.eq_6,@Go.Vm.AV.names.eq_9,@Go.Vm.AV.names.go.eq_1,@Go.Vm.AV.names.go.eq_2,@Go.Vm.bh.names.eq_1,@Go.Vm.bh.names.eq_2,@Go.Vm.AV.dk.eq_1,@Go.Vm.AV.dk.eq_2,@Go.Vm.AV.dk.eq_3,@Go.Vm.AV.dk.eq_4,@Go.Vm.AV.dk.eq_5,@Go.Vm.AV.dk.eq_6,@Go.Vm.AV.dk.eq_7,@Go.Vm.AV.dk.eq_8,@Go.Vm.AV.dk.eq_11,@Go.Vm.bh.dk.eq_1,@Go.Vm.bh.dk.eq_2,@K3,@amr,@Go.Vm.iy.eq_1,@Go.Vm.iy.eq_2,@Go.Vm.nq.eq_2,@j9,@Option.bind_some.{0,0},@Option.bind_none.{0,0},@Option.map_some.{0,0},@Option.getD_some.{0},@Option.getD_none.{0},@Option.isSome_some.{0}⟩
theorem R9:type_of% @List.getElem?_cons_zero.{0}∧type_of% @List.getElem?_toArray.{0}∧type_of% @Go.Vm.cw.eq_1∧type_of% @List.drop_zero.{0}∧type_of% @List.drop_succ_cons.{0}∧type_of% @List.drop_nil.{0}∧type_of% @List.take_succ_cons.{0}∧type_of% @List.take_zero.{0}∧type_of% @List.length_cons.{0}∧type_of% @List.length_nil.{0}∧type_of% @List.length_map.{0,0}∧type_of% @List.getElem?_cons_succ.{0}∧type_of% @List.getElem?_nil.{0}∧type_of% @List.getElem?_map.{0,0}∧type_of% @List.getElem?_drop.{0}∧type_of% @List.map_cons.{0,0}∧type_of% @List.map_nil.{0,0}∧type_of% @List.nil_append.{0}∧type_of% @List.cons_append.{0}∧type_of% @List.append_nil.{0}∧type_of% @List.all_cons.{0}∧type_of% @List.all_nil.{0}∧type_of% @cond_true.{1}∧type_of% @cond_false.{1}∧type_of% @decide_true∧type_of% @decide_false∧type_of% @Bool.and_true∧type_of% @Bool.true_and∧type_of% @Bool.and_self∧type_of% @Bool.not_true∧type_of% @Bool.not_false∧type_of% @BEq.rfl.{0}∧type_of% @Nat.zero_le∧type_of% @Nat.le_refl∧type_of% @Nat.add_zero∧type_of% @Nat.zero_add∧type_of% @Nat.mul_one∧type_of% @Int.toNat_natCast∧type_of% @Int.natCast_nonneg∧type_of% @Nat.sub_self∧type_of% @List.contains_nil.{0}∧type_of% @List.contains_cons.{0}∧type_of% @Bool.or_false∧type_of% @Bool.false_or∧type_of% @Bool.or_true∧type_of% @Bool.true_or∧type_of% @List.map_map.{0,0,0}∧type_of% @agc∧type_of% @P3∧type_of% @O9∧type_of% @Pv∧type_of% @abb∧type_of% @xk:=
 ⟨@List.getElem?_cons_zero.{0},@List.getElem?_toArray.{0},@Go.Vm.cw.eq_1,@List.drop_zero.{0},@List.drop_succ_cons.{0},@List.drop_nil.{0},@List.take_succ_cons.{0},@List.take_zero.{0},@List.length_cons.{0},@List.length_nil.{0},@List.length_map.{0,0},@List.getElem?_cons_succ.{0},@List.getElem?_nil.{0},@List.getElem?_map.{0,0},@List.getElem?_drop.{0},@List.map_cons.{0,0},@List.map_nil.{0,0},@List.nil_append.{0},@List.cons_append.{0},@List.append_nil.{0},@List.all_cons.{0},@List.all_nil.{0},@cond_true.{1},@cond_false.{1},@decide_true,@decide_false,@Bool.and_true,@Bool.true_and,@Bool.and_self,@Bool.not_true,@Bool.not_false,@BEq.rfl.{0},@Nat.zero_le,@Nat.le_refl,@Nat.add_zero,@Nat.zero_add,@Nat.mul_one,@Int.toNat_natCast,@Int.natCast_nonneg,@Nat.sub_self,@List.contains_nil.{0},@List.contains_cons.{0},@Bool.or_false,@Bool.false_or,@Bool.or_true,@Bool.true_or,@List.map_map.{0,0,0},@agc,@P3,@O9,@Pv,@abb,@xk⟩
theorem R10:type_of% @Vs∧type_of% @Qz∧type_of% @Vq∧type_of% @aB3∧type_of% @aBv∧type_of% @aC2∧type_of% @aEa∧type_of% @aBu∧type_of% @aDa∧type_of% @ahy∧type_of% @af7∧type_of% @aal∧type_of% @Wt∧type_of% @afp∧type_of% @Go.Vm.AV.fresh.eq_1∧type_of% @Go.Vm.AV.fresh.eq_2∧type_of% @Go.Vm.AV.fresh.eq_3∧type_of% @Go.Vm.AV.fresh.eq_4∧type_of% @Go.Vm.AV.fresh.go.eq_1∧type_of% @Go.Vm.AV.fresh.go.eq_2∧type_of% @List.map_append.{0,0}:=
 ⟨@Vs,@Qz,@Vq,@aB3,@aBv,@aC2,@aEa,@aBu,@aDa,@ahy,@af7,@aal,@Wt,@afp,@Go.Vm.AV.fresh.eq_1,@Go.Vm.AV.fresh.eq_2,@Go.Vm.AV.fresh.eq_3,@Go.Vm.AV.fresh.eq_4,@Go.Vm.AV.fresh.go.eq_1,@Go.Vm.AV.fresh.go.eq_2,@List.map_append.{0,0}⟩
theorem RA:type_of% R0∧type_of% R1∧type_of% R2∧type_of% R3∧type_of% R4∧type_of% R5∧type_of% R6∧type_of% R7∧type_of% R8∧type_of% R9∧type_of% R10:=
 ⟨R0,R1,R2,R3,R4,R5,R6,R7,R8,R9,R10⟩
theorem FB:type_of% @List.cons.injEq.{0}∧type_of% @Zn∧type_of% @abl∧type_of% @List.length_append.{0}∧type_of% @List.length_cons.{0}∧type_of% @List.length_nil.{0}∧type_of% @List.map_append.{0,0}∧type_of% @List.map_cons.{0,0}∧type_of% @List.map_nil.{0,0}∧type_of% @and_true∧type_of% @true_and∧type_of% @and_self∧type_of% @AV.sc.injEq∧type_of% @AV.sl.injEq∧type_of% @bh.row.injEq∧type_of% @Option.some.injEq.{0}∧type_of% @Value.int.injEq∧type_of% @Nat.zero_add:=
 ⟨@List.cons.injEq.{0},@Zn,@abl,@List.length_append.{0},@List.length_cons.{0},@List.length_nil.{0},@List.map_append.{0,0},@List.map_cons.{0,0},@List.map_nil.{0,0},@and_true,@true_and,@and_self,@AV.sc.injEq,@AV.sl.injEq,@bh.row.injEq,@Option.some.injEq.{0},@Value.int.injEq,@Nat.zero_add⟩
end Go.Vm
end
section
namespace Go.Vm
noncomputable section
open Go.ChangeShapes Go.WideShapes Go.ChangeAt
mutual
def lz {H:Type}:DataW H→Nat
 |.lit (.string bytes)=>bytes.length+1
 |.lit _=>1
 |.nil=>1
 |.ptr d=>lz d+1
 |.slice elems spare=>oh elems+oh spare+1
 |.agg parts=>oh parts+1
 |.iface _ d=>lz d+1
 |.map entries=>U5 entries+1
 |.held _=>1
def oh {H:Type}:List (DataW H)→Nat
 | []=>0
 |d::r=>lz d+oh r
def U5 {H:Type}:List (Lit × DataW H)→Nat
 | []=>0
 |x::r=>ao0 x+U5 r
def ao0 {H:Type}:Lit × DataW H→Nat
 |(.string bytes,d)=>bytes.length+lz d+1
 |(_,d)=>lz d+1
end
def aem (W:World):Nat→Nat→Prop:=fun b _=>b<W.heap.size
def Rd (P:Program) (t:TypeId) {α:Type} (C:dn α) (μ : α→Nat):Prop:=
 ∀ {H:Type} (enc:TypeId × Value→H) (W:World) (b0 fuel:Nat) (cs:List Value) (x:DataW H × List MemPlace),DataW.trod enc P W 0 (fun _=>true) true fuel t cs=some x →
  ∃ y,bu (gK b0 (aem W)) W (C.cells false y) cs ∧ μ y≤lz x.1
theorem aEx {P:Program} {t:TypeId} (ht:P.underlying t=some (.int .u8)):Rd P t cj (fun _=>1):=by
 intro H enc W b0 fuel cs x h
 obtain ⟨n,rfl,rfl,hw⟩:=DataW.trod_int ht h
 have hx : 0≤n∧n≤255:=by simpa [Lit.wf,IntKind.min,IntKind.max,IntKind.signed,IntKind.bits] using hw
 refine ⟨UInt8.ofNat n.toNat,?_,by simp [lz]⟩
 have:n=((UInt8.ofNat n.toNat).toNat:Int):=by rw [UInt8.toNat_ofNat'];omega
 exact bu.one (by (conv=>rhs;rw [this]);exact .sc _)
theorem atq {P:Program} {t:TypeId} (ht:P.underlying t=some (.int .u16)):Rd P t da (fun _=>1):=by
 intro H enc W b0 fuel cs x h
 obtain ⟨n,rfl,rfl,hw⟩:=DataW.trod_int ht h
 have hx : 0≤n∧n≤65535:=by simpa [Lit.wf,IntKind.min,IntKind.max,IntKind.signed,IntKind.bits] using hw
 refine ⟨UInt16.ofNat n.toNat,?_,by simp [lz]⟩
 have:n=((UInt16.ofNat n.toNat).toNat:Int):=by rw [UInt16.toNat_ofNat'];omega
 exact bu.one (by (conv=>rhs;rw [this]);exact .sc _)
theorem aul {P:Program} {t:TypeId} (ht:P.underlying t=some (.int .u32)):Rd P t bg (fun _=>1):=by
 intro H enc W b0 fuel cs x h
 obtain ⟨n,rfl,rfl,hw⟩:=DataW.trod_int ht h
 have hx : 0≤n∧n≤4294967295:=Go.bounds_u32 hw
 refine ⟨UInt32.ofNat n.toNat,?_,by simp [lz]⟩
 have:n=((UInt32.ofNat n.toNat).toNat:Int):=by rw [UInt32.toNat_ofNat'];omega
 exact bu.one (by (conv=>rhs;rw [this]);exact .sc _)
theorem aD5 {P:Program} {t:TypeId} (ht:P.underlying t=some .string):Rd P t aq (fun s=>s.size+1):=by
 intro H enc W b0 fuel cs x h
 obtain ⟨s,rfl,rfl,_⟩:=DataW.trod_string ht h
 refine ⟨s,bu.one (.sc _),?_⟩
 show s.size+1≤lz (DataW.lit (Lit.string s.data.toList))
 rw [lz,Array.length_toList]
 exact Nat.le_refl _
theorem aA5 (ao k s v j:Nat) (h3:v=k * s) (hge:v≤j):ao+k * s+(j - v)=ao+j:=by rw [← h3];omega
def tg {α:Type} (μ : α→Nat):List α→Nat
 | []=>0
 |x::r=>μ x+tg μ r
theorem Rz {α:Type} (μ : α→Nat):∀ a b:List α,tg μ (a++b)=tg μ a+tg μ b
 | [],b=>by simp [tg]
 |x::a,b=>by simp [tg,Rz μ a b];omega
theorem Mw {H:Type}:∀ a b:List (DataW H),oh (a++b)=oh a+oh b
 | [],b=>by simp [oh]
 |x::a,b=>by simp [oh,Mw a b];omega
theorem aAl {P:Program} {t e:TypeId} {α:Type} {C:dn α} {μ : α→Nat} (ht:P.underlying t=some (.slice e)) (hsz:P.cellsOf e=C.sz) (hpos : 0<C.sz) (he:Rd P e C μ):Rd P t (ca C) (fun l=>tg μ l+1):=by
 intro H enc W b0 fuel cs x h
 rcases Go.Deep.open_slice ht h with ⟨rfl,rfl⟩|⟨a,len,cap,m,n,D,Pl,rfl,_,hl,hm,hmm,rfl,hx⟩
 ·exact ⟨[],bu.one (.kj _ _),by simp [tg,lz]⟩
 ·simp only [if_true] at hmm
  subst hmm
  have spot : 0<m→a.spot=none∧a.block<W.heap.size:=by
   intro h0
   obtain ⟨cs',h1,_⟩:=hx 0 h0
   rw [hsz] at h1
   simp only [World.cells?,Nat.zero_le,if_true] at h1
   have h2:=mapM_some_get h1 0 0 (by simp [hpos])
   have hlen:=mapM_some_length h1
   have h3:∃ v,cs'[0]? = some v:=⟨cs'[0]'(by rw [hlen];simpa using hpos),by simp⟩
   obtain ⟨v,hv⟩:=h3
   rw [hv] at h2
   simp only [Nat.zero_mul,Addr.add,if_true] at h2
   simp only [World.cell?] at h2
   split at h2
   ·rename_i c _ _ hb
    cases hs:a.spot with
    |none=>exact ⟨rfl,cz hb⟩
    |some s=>simp [hs] at h2
   ·cases h2
  have build:∀ k,k≤len→∃ (xs:List α) (vs:List Value),xs.length=k∧bu (gK b0 (aem W)) W (xs.flatMap (C.cells false)) vs∧vs.length=k * C.sz∧(∀ j v,vs[j]? = some v→W.cell? ⟨a.block,a.off+j,none⟩=some v) ∧
   tg μ xs≤oh ((List.range k).map D):=by
   intro k
   induction k with
   |zero=>intro _;exact ⟨[],[],rfl,bu.nil _ _,by simp,(fun j v hj=>by simp at hj),by simp [tg,oh]⟩
   |succ k ih=>
    intro hk
    obtain ⟨xs,vs,h1,h2,h3,h4,h5⟩:=ih (by omega)
    obtain ⟨cs',h6,h7⟩:=hx k (by omega)
    obtain ⟨y,h8,h9⟩:=he enc W b0 n cs' _ h7
    rw [hsz] at h6
    simp only [World.cells?,Nat.zero_le,if_true] at h6
    have hlen:=mapM_some_length h6
    simp only [List.length_range] at hlen
    refine ⟨xs++[y],vs++cs',by simp [h1],?_,by simp [h3,hlen,Nat.succ_mul],fun j v hj=>?_,?_⟩
    ·rw [List.flatMap_append];exact h2.append (by simpa using h8)
    ·by_cases hj1:j<vs.length
     ·rw [List.getElem?_append_left hj1] at hj;exact h4 j v hj
     ·rw [List.getElem?_append_right (by omega)] at hj
      have hj2:=(List.getElem?_eq_some_iff.1 hj).1
      have h10:=mapM_some_get h6 (j - vs.length) (j - vs.length) (List.getElem?_range (by rw [← hlen];exact hj2))
      rw [hj] at h10
      have hs:=(spot (by omega)).1
      have e:(a.add (k * C.sz)).add (j - vs.length)=⟨a.block,a.off+j,none⟩:=by
       obtain ⟨ab,ao,azs⟩:=a
       simp only at hs
       subst hs
       rw [Addr.oy,Addr.oy]
       have hge:vs.length≤j:=Nat.le_of_not_lt hj1
       rw [aA5 ao k C.sz vs.length j h3 hge]
      rw [e] at h10
      exact h10
    ·rw [Rz,List.range_succ,List.map_append,Mw]
     simp only [tg,List.map_cons,List.map_nil,oh]
     have : μ y≤lz (D k):=h9
     omega
  obtain ⟨xs,vs,h1,h2,h3,h4,h5⟩:=build len (Nat.le_refl _)
  refine ⟨xs,bu.one ?_,by
   simp only [lz]
   have:tg μ xs≤oh ((List.range len).map D):=h5
   omega⟩
  by_cases h0 : 0<m
  ·obtain ⟨hs,hb⟩:=spot h0
   obtain ⟨ab,ao,azs⟩:=a
   simp only at hs hb h4
   subst hs
   rw [← h1]
   refine apf C h2 (by omega) (fun e=>by cases e) (fun j v hj=>⟨hb,h4 j v hj⟩)
  ·have hl0:len=0:=by omega
   have hm0:m=0:=by omega
   subst hl0 hm0
   have:xs=[]:=List.eq_nil_of_length_eq_zero h1
   subst this
   exact .uy _ _ _
def RdF (P:Program) (fs:List Field) (off:Nat) {α:Type} (C:dn α) (μ : α→Nat):Prop:=
 ∀ {H:Type} (enc:TypeId × Value→H) (W:World) (b0 n:Nat) (cs:List Value) (ys:List (DataW H × List MemPlace)),ys.length=fs.length →
  (∀ (i:Nat) f,fs[i]? = some f→DataW.trod enc P W 0 (fun _=>true) true n f.type ((cs.drop f.offset).take (P.cellsOf f.type))=ys[i]?) →
  ∃ y,bu (gK b0 (aem W)) W (C.cells false y) ((cs.drop off).take C.sz) ∧ μ y≤oh (ys.map (·.1))
theorem azy {P:Program} {f:Field} {off:Nat} {α:Type} {C:dn α} {μ : α→Nat} (ho:f.offset=off) (hs:P.cellsOf f.type=C.sz) (h:Rd P f.type C μ):RdF P [f] off C μ:=by
 intro H enc W b0 n cs ys hl hf
 match ys,hl with
 | [y0],_=>
  have:=hf 0 f rfl
  obtain ⟨y,h1,h2⟩:=h enc W b0 n _ y0 this
  rw [ho,hs] at h1
  exact ⟨y,h1,by simp [oh];exact h2⟩
theorem avp {P:Program} {f:Field} {fs:List Field} {off:Nat} {α β:Type} {A:dn α} {B:dn β} {μ : α→Nat} {ν : β→Nat} (ho:f.offset=off) (hs:P.cellsOf f.type=A.sz) (h:Rd P f.type A μ) (hr:RdF P fs (off+A.sz) B ν) :
 RdF P (f::fs) off (iz A B) (fun p=>μ p.1 + ν p.2):=by
 intro H enc W b0 n cs ys hl hf
 match ys,hl with
 |y0::ys,hl=>
  have h0:=hf 0 f rfl
  obtain ⟨y,h1,h2⟩:=h enc W b0 n _ y0 h0
  obtain ⟨z,h3,h4⟩:=hr enc W b0 n cs ys (by simpa using hl) (fun i g hg=>by have:=hf (i+1) g (by simpa using hg);simpa using this)
  rw [ho,hs] at h1
  refine ⟨(y,z),?_,by simp [oh];omega⟩
  have:=h1.append h3
  rwa [show (cs.drop off).take A.sz++(cs.drop (off+A.sz)).take B.sz=(cs.drop off).take (A.sz+B.sz) from by
   rw [List.take_add,List.drop_drop]] at this
theorem ati {P:Program} {t:TypeId} {fs:Array Field} {α:Type} {C:dn α} {μ : α→Nat} (ht:P.underlying t=some (.struct fs)) (hc:P.cellsOf t=C.sz) (h:RdF P fs.toList 0 C μ):Rd P t C (fun x=>μ x+1):=by
 intro H enc W b0 fuel cs x hx
 obtain ⟨xs,n,_,rfl,hl,hlen,hf⟩:=DataW.trod_struct ht hx
 obtain ⟨y,h1,h2⟩:=h enc W b0 n cs xs (by simpa using hlen) (fun i f hi=>hf i f (by simpa using hi))
 refine ⟨y,?_,by simp [lz];exact h2⟩
 rwa [List.drop_zero,List.take_of_length_le (by omega)] at h1
theorem aDl {P:Program} {t:TypeId} {α β:Type} {C:dn α} {μ : α→Nat} {f : β → α} {i : α → β} {h1:∀ y,i (f y)=y} {h2:∀ x,f (i x)=x} (h:Rd P t C μ):Rd P t (vv C f i h1 h2) (fun y=>μ (f y)):=by
 intro H enc W b0 fuel cs x hx
 obtain ⟨y,h3,h4⟩:=h enc W b0 fuel cs x hx
 exact ⟨i y,by show bu _ _ (C.cells false (f (i y))) cs;rw [h2];exact h3,by show μ (f (i y))≤_;rw [h2];exact h4⟩
def RdA (P:Program) (ts:List TypeId) {α:Type} (A:AC α) (μ : α→Nat):Prop:=
 ∀ {H:Type} (enc:TypeId × Value→H) (W:World) (b0 b1:Nat) (vs:List Value) (ds:List (DataW H)) (ps:List MemPlace),(∀ (j:Nat) t v,ts[j]? = some t→vs[j]? = some v→Value.okWide P W .any b1 t v) →
  DataW.TrodAll enc P W 0 (fun _=>true) true ts vs ds ps→∃ y,bu (gK b0 (aem W)) W (A.E y) vs ∧ μ y≤oh ds
theorem azm (P:Program):RdA P [] a0 (fun _=>0):=by
 intro H enc W b0 b1 vs ds ps _ h
 obtain ⟨rfl,rfl,rfl⟩:=trodAll_nil h
 exact ⟨(),bu.nil _ _,Nat.zero_le _⟩
theorem ap2 {P:Program} {W:World} {b:Nat} {t:TypeId} {v:Value} (h:j3 P t=some true) (ho:Value.okWide P W .any b t v):∃ cs,v = .agg cs:=by
 unfold j3 at h
 unfold Value.okWide at ho
 cases hu:P.underlying t with
 |none=>rw [hu] at h;cases h
 |some d=>
  rw [hu] at h ho
  cases d<;>simp_all<;>exact ⟨_,ho.choose_spec.1⟩
theorem Lk {P:Program} {t:TypeId} {ts:List TypeId} {α β:Type} {C:dn α} {R:AC β} {μ : α→Nat} {ν : β→Nat} (ha:j3 P t=some C.agg) (h:Rd P t C μ) (hr:RdA P ts R ν):RdA P (t::ts) (aC C R) (fun p=>μ p.1 + ν p.2):=by
 intro H enc W b0 b1 vs ds ps hok hall
 obtain ⟨v,vs1,d,ds1,p,q,rfl,rfl,rfl,h0,h1⟩:=trodAll_cons hall
 obtain ⟨fuel,hf⟩:=h0
 obtain ⟨y,h2,h3⟩:=h enc W b0 fuel _ _ hf
 obtain ⟨z,h4,h5⟩:=hr enc W b0 b1 vs1 ds1 q (fun j t v ht hv=>hok (j+1) t v (by simpa using ht) (by simpa using hv)) h1
 have h3' : μ y≤lz d:=h3
 refine ⟨(y,z),bu.cons ?_ h4,by simp only [oh];omega⟩
 have hv:=hok 0 t v rfl rfl
 show Rel _ _ (C.val false y) v
 unfold dn.val
 cases hg:C.agg with
 |true=>
  obtain ⟨cs,rfl⟩:=ap2 (by rw [ha,hg]) hv
  exact .agg _ cs (by simpa [Value.cells] using h2.1) (fun i a v ha hv=>h2.2 i a v ha (by simpa [Value.cells] using hv))
 |false=>
  obtain ⟨c,h6,h7,_⟩:=C.one hg false y
  rw [cond_false,h6]
  rw [h6] at h2
  have hcs:v.cells.toList=[v]:=by
   have hl:=h2.1
   simp only [List.length_singleton] at hl
   cases v with
   |agg cs=>
    exfalso
    unfold j3 at ha
    unfold Value.okWide at hv
    cases hu:P.underlying t with
    |none=>rw [hu] at ha;cases ha
    |some d=>
     rw [hu] at ha hv
     have hcell:Cell.okWide P W .any b1 t (.agg cs):=by
      cases d<;>simp_all
     rw [hg] at ha
     unfold Cell.okWide Cell.ok at hcell
     rw [hu] at hcell
     cases d<;>simp_all
   |_=>rfl
  rw [hcs] at h2
  exact h2.head
theorem ahi {W W':World} (q:Ap W W') {p:MemPlace} (h:p.block<W.heap.size):W.sameAt W' p:=by
 cases p with
 |cell b off=>exact uw (q.heap b h)
 |map b=>exact q.heap b h
theorem again {H:Type} {enc:TypeId × Value→H} {P:Program} {W W':World} {sp:Nat→Bool} (K:Kids P (· < P.types.size)) (hz:∀ t e,t<P.types.size→P.underlying t=some (.slice e)→0<P.cellsOf e) (q:Ap W W') :
 ∀ {ts:List TypeId} {vs:List Value} {ds:List (DataW H)} {ps:List MemPlace},(∀ t ∈ ts,t<P.types.size)→DataW.TrodAll enc P W 0 (fun _=>true) true ts vs ds ps→(∀ p ∈ ps,sp p.block=true)→(∀ p ∈ ps,p.block<W.heap.size) →
  DataW.TrodAll enc P W' 0 sp true ts vs ds ps
 | [],[],[],_,_,h,_,_=>h
 |t::ts,v::vs,d::ds,ps,hT,⟨p,p',h1,h2,e⟩,hs,hl=>by
  obtain ⟨n,hn⟩:=h1
  subst e
  have h3:=DataW.trod_respare (spare':=sp) K hz n t _ _ (hT t (by simp)) hn (fun x hx=>hs x (by simp only [List.mem_append];exact .inl hx))
  have h4:=DataW.trod_carry (w':=W') n t _ _ h3 (fun x hx=>ahi q (hl x (by simp only [List.mem_append];exact .inl hx)))
  exact ⟨p,p',⟨n,h4⟩,again K hz q (fun t ht=>hT t (by simp [ht])) h2 (fun x hx=>hs x (by simp [hx])) (fun x hx=>hl x (by simp [hx])),rfl⟩
theorem aqb {W W':World} (q:Ap W W') (may:MemPlace→Prop):W.keptBut W' may:=by
 refine ⟨q.os,q.output,fun i hi=>?_⟩
 rw [q.heap i hi]
 split
 ·rename_i c t fr c' t' fr' h1 h2
  rw [h1] at h2
  cases h2
  exact ⟨rfl,rfl,rfl,fun _ _=>rfl⟩
 ·rename_i es cl es' cl' h1 h2
  rw [h1] at h2
  cases h2
  exact .inr ⟨rfl,rfl⟩
 ·rfl
def apr (P:Program):Bool:=(List.range P.types.size).all fun t=>match P.underlying t with|some (.slice e)=>Nat.blt 0 (P.cellsOf e)|_=>true
theorem ab8 {P:Program} (h:apr P=true) (t e:TypeId) (ht:t<P.types.size) (hu:P.underlying t=some (.slice e)) : 0<P.cellsOf e:=by
 have:=List.all_eq_true.1 h t (List.mem_range.2 ht)
 simp only [hu] at this
 exact Nat.le_of_ble_eq_true this
def aBk (P:Program) (l:List TypeId):Bool:=l.all fun t=>Nat.blt t P.types.size
theorem apl {P:Program} {l:List TypeId} (h:aBk P l=true):∀ t ∈ l,t<P.types.size:=fun t ht=>Nat.le_of_ble_eq_true (List.all_eq_true.1 h t ht)
theorem awt {P:Program} (hlaid:laidOutB P=true) (hmaps:mapsRowed P=true) (hz:∀ t e,t<P.types.size→P.underlying t=some (.slice e)→0<P.cellsOf e) {f:Nat} {fn:Func} {s:ChangeSpec} {tb:TypeId}
 (he:mc P f=true) (hvars:s.vars=[]) (hres:fn.resultTypes = #[tb]) (htb:P.underlying tb=some .bool) (hpar:∀ t ∈ fn.params.toList,t<P.types.size)
 (hfn:∀ (H:Type) (ds:List (DataW H)),ds.length=fn.params.toList.length→s.fn H ds = { results:=[.lit (.bool true)],args:=ds }) {α:Type} {A:AC α} {μ : α→Nat} (hA:RdA P fn.params.toList A μ) {N:Option Nat}
 (hcall:∀ x,(∀ n,N=some n → μ x≤n)→bc P f (A.E x) (.sc (.bool true)))
 {H:Type} (enc:TypeId × Value→H) (W:World) (base:Nat) (args:Array Value) (ds gs:List (DataW H)) (before:List MemPlace) (hval:∀ (j:Nat) t v,fn.params[j]? = some t→args[j]? = some v→Value.okWide P W .any base t v)
 (hW:DataW.Whole enc P fn.params.toList s.vars false W args.toList ds gs before) (hN:∀ n,N=some n→oh (ds++gs)≤n) :
 Calls P f args W fun e W'=>∃ v,e = .returned v∧s.post enc P fn false true false false W args v W':=by
 have hW':=hW
 obtain ⟨p,q,hA0,hV,rfl,hfz,hnd⟩:=hW
 rw [hvars] at hV
 obtain ⟨rfl,rfl⟩:=trodVars_none hV
 obtain ⟨x,hx,hμ⟩:=hA enc W W.heap.size base args.toList ds p (fun j t v ht hv=>hval j t v (by simpa using ht) (by simpa using hv)) hA0
 have hp:=hcall x (fun n hn=>Nat.le_trans hμ (by have:=hN n hn;simpa using this)) (aem W) W args.toList (fun _ _ h=>h) hx
 have hlen:ds.length=fn.params.toList.length:=by
  have:∀ {ts:List TypeId} {vs:List Value} {ds:List (DataW H)} {ps:List MemPlace},DataW.TrodAll enc P W 0 (fun _=>true) true ts vs ds ps→ds.length=ts.length:=by
   intro ts
   induction ts with
   |nil=>intro vs ds ps h;obtain ⟨_,rfl,_⟩:=trodAll_nil h;rfl
   |cons t ts ih=>intro vs ds ps h;obtain ⟨v,vs1,d,ds1,p,q,rfl,rfl,rfl,h0,h1⟩:=trodAll_cons h;simp [ih h1]
  exact this hA0
 have hlt:∀ y ∈ p++[],y.block<W.heap.size:=fun y hy=>hW'.lt y hy
 have hspec:=hfn H ds hlen
 rcases hp with ⟨v,hv,_⟩|⟨_,hc⟩
 ·rw [vn he] at hv;cases hv
 ·refine hc.mono ?_
  rintro e W' ⟨v,rfl,hq,hr⟩
  obtain rfl:=hr.exact rfl
  refine ⟨_,rfl,ds,[],p++[],[],p,[],hW',?_,?_,?_,aqb hq _,fun e=>by cases e⟩
  ·rw [List.append_nil,hspec,hres]
   exact trodAll_cons_mk (Go.RowKit.shut_bool htb _) trodAll_mk0
  ·rw [List.append_nil,hspec]
   exact again (kids_rows hlaid hmaps) hz hq hpar hA0 (fun y hy=>by have:=hlt y (by simp [hy]);simpa using this) (fun y hy=>hlt y (by simp [hy]))
  ·rw [List.append_nil,hspec,hvars]
   rfl
end
end Go.Vm
end
section
namespace Go.Vm
open Go.Proofs
theorem as6:(Tryz.prog.underlying 3=some (.int .i64)) ∧
 (Tryz.prog.underlying 4=some (.bool)) ∧
 (Tryz.prog.underlying 5=some (.int .u8)) ∧
 (Tryz.prog.underlying 9=some (.string)) ∧
 (Tryz.prog.underlying 22=some (.slice 9)) ∧
 (Tryz.prog.underlying 23=some (.slice 9)) ∧
 (Tryz.prog.underlying 24=some (.slice 40)) ∧
 (Tryz.prog.underlying 37=some (.int .u32)) ∧
 (Tryz.prog.underlying 38=some (.slice 77)) ∧
 (Tryz.prog.underlying 46=some (.slice 26)) ∧
 (Tryz.prog.underlying 47=some (.slice 80)):=
 ⟨by kernel_rfl,by kernel_rfl,by kernel_rfl,by kernel_rfl,by kernel_rfl,by kernel_rfl,by kernel_rfl,by kernel_rfl,by kernel_rfl,by kernel_rfl,by kernel_rfl⟩
theorem atp:(Tryz.prog.underlying 48=some (.slice 37)) ∧
 (Tryz.prog.underlying 69=some (.slice 23)) ∧
 (Tryz.prog.underlying 70=some (.slice 3)) ∧
 (Tryz.prog.underlying 75=some (.slice 5)) ∧
 (Tryz.prog.underlying 102=some (.slice 101)) ∧
 (Tryz.prog.underlying 142=some (.map 37 4)) ∧
 (Tryz.prog.underlying 249=some (.slice 75)):=
 ⟨by kernel_rfl,by kernel_rfl,by kernel_rfl,by kernel_rfl,by kernel_rfl,by kernel_rfl,by kernel_rfl⟩
theorem atn:(j3 Tryz.prog 3=some false) ∧
 (j3 Tryz.prog 4=some false) ∧
 (j3 Tryz.prog 5=some false) ∧
 (j3 Tryz.prog 9=some false) ∧
 (j3 Tryz.prog 22=some false) ∧
 (j3 Tryz.prog 23=some false) ∧
 (j3 Tryz.prog 24=some false) ∧
 (j3 Tryz.prog 26=some true):=
 ⟨by kernel_rfl,by kernel_rfl,by kernel_rfl,by kernel_rfl,by kernel_rfl,by kernel_rfl,by kernel_rfl,by kernel_rfl⟩
theorem aua:(j3 Tryz.prog 28=some false) ∧
 (j3 Tryz.prog 32=some true) ∧
 (j3 Tryz.prog 33=some false) ∧
 (j3 Tryz.prog 36=some false) ∧
 (j3 Tryz.prog 37=some false) ∧
 (j3 Tryz.prog 38=some false) ∧
 (j3 Tryz.prog 40=some true) ∧
 (j3 Tryz.prog 46=some false) ∧
 (j3 Tryz.prog 47=some false) ∧
 (j3 Tryz.prog 48=some false) ∧
 (j3 Tryz.prog 50=some true) ∧
 (j3 Tryz.prog 62=some false) ∧
 (j3 Tryz.prog 64=some true) ∧
 (j3 Tryz.prog 69=some false) ∧
 (j3 Tryz.prog 70=some false) ∧
 (j3 Tryz.prog 75=some false) ∧
 (j3 Tryz.prog 77=some true):=
 ⟨by kernel_rfl,by kernel_rfl,by kernel_rfl,by kernel_rfl,by kernel_rfl,by kernel_rfl,by kernel_rfl,by kernel_rfl,by kernel_rfl,by kernel_rfl,by kernel_rfl,by kernel_rfl,by kernel_rfl,by kernel_rfl,by kernel_rfl,by kernel_rfl,by kernel_rfl⟩
theorem arl:(j3 Tryz.prog 80=some true) ∧
 (j3 Tryz.prog 88=some false) ∧
 (j3 Tryz.prog 90=some true) ∧
 (j3 Tryz.prog 100=some true) ∧
 (j3 Tryz.prog 178=some false):=
 ⟨by kernel_rfl,by kernel_rfl,by kernel_rfl,by kernel_rfl,by kernel_rfl⟩
theorem auk:(j3 Tryz.prog 214=some true):=by kernel_rfl
theorem alp:(dp Tryz.prog 3=some 1) ∧
 (dp Tryz.prog 4=some 1) ∧
 (dp Tryz.prog 5=some 1) ∧
 (dp Tryz.prog 9=some 1) ∧
 (dp Tryz.prog 22=some 1) ∧
 (dp Tryz.prog 23=some 1) ∧
 (dp Tryz.prog 24=some 1) ∧
 (dp Tryz.prog 26=some 2):=
 ⟨by kernel_rfl,by kernel_rfl,by kernel_rfl,by kernel_rfl,by kernel_rfl,by kernel_rfl,by kernel_rfl,by kernel_rfl⟩
theorem ane:(dp Tryz.prog 28=some 1) ∧
 (dp Tryz.prog 32=some 5) ∧
 (dp Tryz.prog 33=some 1) ∧
 (dp Tryz.prog 36=some 1) ∧
 (dp Tryz.prog 37=some 1) ∧
 (dp Tryz.prog 38=some 1) ∧
 (dp Tryz.prog 40=some 5) ∧
 (dp Tryz.prog 46=some 1) ∧
 (dp Tryz.prog 47=some 1) ∧
 (dp Tryz.prog 48=some 1) ∧
 (dp Tryz.prog 50=some 3) ∧
 (dp Tryz.prog 62=some 1) ∧
 (dp Tryz.prog 64=some 3) ∧
 (dp Tryz.prog 69=some 1) ∧
 (dp Tryz.prog 70=some 1) ∧
 (dp Tryz.prog 75=some 1) ∧
 (dp Tryz.prog 77=some 4):=
 ⟨by kernel_rfl,by kernel_rfl,by kernel_rfl,by kernel_rfl,by kernel_rfl,by kernel_rfl,by kernel_rfl,by kernel_rfl,by kernel_rfl,by kernel_rfl,by kernel_rfl,by kernel_rfl,by kernel_rfl,by kernel_rfl,by kernel_rfl,by kernel_rfl,by kernel_rfl⟩
theorem amg:(dp Tryz.prog 80=some 2) ∧
 (dp Tryz.prog 88=some 1) ∧
 (dp Tryz.prog 90=some 3) ∧
 (dp Tryz.prog 100=some 3) ∧
 (dp Tryz.prog 121=some 5) ∧
 (dp Tryz.prog 178=some 1):=
 ⟨by kernel_rfl,by kernel_rfl,by kernel_rfl,by kernel_rfl,by kernel_rfl,by kernel_rfl⟩
theorem amq:(dp Tryz.prog 214=some 5):=by kernel_rfl
theorem anh:(ew Tryz.prog 3=some (.int .i64 0)) ∧
 (ew Tryz.prog 4=some (.bool false)) ∧
 (ew Tryz.prog 5=some (.int .u8 0)) ∧
 (ew Tryz.prog 23=some (.slice none 0 0)) ∧
 (ew Tryz.prog 26=some (.agg #[.slice none 0 0,.slice none 0 0])):=
 ⟨by kernel_rfl,by kernel_rfl,by kernel_rfl,by kernel_rfl,by kernel_rfl⟩
theorem amn:(ew Tryz.prog 32=some (.agg #[.int .i64 0,.bool false,.slice none 0 0,.slice none 0 0,.slice none 0 0])) ∧
 (ew Tryz.prog 33=some (.int .i64 0)) ∧
 (ew Tryz.prog 40=some (.agg #[.slice none 0 0,.int .u16 0,.int .u16 0,.int .u32 0,.slice none 0 0])) ∧
 (ew Tryz.prog 50=some (.agg #[.slice none 0 0,.slice none 0 0,.slice none 0 0])) ∧
 (ew Tryz.prog 64=some (.agg #[.int .u8 0,.slice none 0 0,.slice none 0 0])) ∧
 (ew Tryz.prog 69=some (.slice none 0 0)) ∧
 (ew Tryz.prog 77=some (.agg #[.slice none 0 0,.slice none 0 0,.slice none 0 0,.slice none 0 0])):=
 ⟨by kernel_rfl,by kernel_rfl,by kernel_rfl,by kernel_rfl,by kernel_rfl,by kernel_rfl,by kernel_rfl⟩
theorem ani:(ew Tryz.prog 80=some (.agg #[.int .u32 0,.slice none 0 0])) ∧
 (ew Tryz.prog 90=some (.agg #[.int .u8 0,.slice none 0 0,.slice none 0 0])) ∧
 (ew Tryz.prog 100=some (.agg #[.slice none 0 0,.slice none 0 0,.slice none 0 0])) ∧
 (ew Tryz.prog 121=some (.agg #[.slice none 0 0,.int .i64 0,.int .u8 0,.slice none 0 0,.slice none 0 0])):=
 ⟨by kernel_rfl,by kernel_rfl,by kernel_rfl,by kernel_rfl⟩
theorem alo:(ew Tryz.prog 214=some (.agg #[.int .i64 0,.int .i64 0,.int .i64 0,.int .i64 0,.int .i64 0])):=by kernel_rfl
theorem ara:(zi Tryz.prog 22=some (9,1,[.sc (.string .empty)])) ∧
 (zi Tryz.prog 23=some (9,1,[.sc (.string .empty)])) ∧
 (zi Tryz.prog 24=some (40,5,[.sc (.slice none 0 0),.sc (.int .u16 0),.sc (.int .u16 0),.sc (.int .u32 0),.sc (.slice none 0 0)])) ∧
 (zi Tryz.prog 38=some (77,4,[.sc (.slice none 0 0),.sc (.slice none 0 0),.sc (.slice none 0 0),.sc (.slice none 0 0)])) ∧
 (zi Tryz.prog 46=some (26,2,[.sc (.slice none 0 0),.sc (.slice none 0 0)])) ∧
 (zi Tryz.prog 47=some (80,2,[.sc (.int .u32 0),.sc (.slice none 0 0)])) ∧
 (zi Tryz.prog 48=some (37,1,[.sc (.int .u32 0)])) ∧
 (zi Tryz.prog 69=some (23,1,[.sc (.slice none 0 0)])) ∧
 (zi Tryz.prog 70=some (3,1,[.sc (.int .i64 0)])) ∧
 (zi Tryz.prog 75=some (5,1,[.sc (.int .u8 0)])) ∧
 (zi Tryz.prog 249=some (75,1,[.sc (.slice none 0 0)])):=
 ⟨by kernel_rfl,by kernel_rfl,by kernel_rfl,by kernel_rfl,by kernel_rfl,by kernel_rfl,by kernel_rfl,by kernel_rfl,by kernel_rfl,by kernel_rfl,by kernel_rfl⟩
theorem adq:(r9 Tryz.prog 26=some ([.sc (.slice none 0 0),.sc (.slice none 0 0)],[(0,1),(1,1)])) ∧
 (r9 Tryz.prog 32=some ([.sc (.int .i64 0),.sc (.bool false),.sc (.slice none 0 0),.sc (.slice none 0 0),.sc (.slice none 0 0)],[(0,1),(1,1),(2,1),(3,1),(4,1)])) ∧
 (r9 Tryz.prog 40=some ([.sc (.slice none 0 0),.sc (.int .u16 0),.sc (.int .u16 0),.sc (.int .u32 0),.sc (.slice none 0 0)],[(0,1),(1,1),(2,1),(3,1),(4,1)])) ∧
 (r9 Tryz.prog 50=some ([.sc (.slice none 0 0),.sc (.slice none 0 0),.sc (.slice none 0 0)],[(0,1),(1,1),(2,1)])) ∧
 (r9 Tryz.prog 64=some ([.sc (.int .u8 0),.sc (.slice none 0 0),.sc (.slice none 0 0)],[(0,1),(1,1),(2,1)])) ∧
 (r9 Tryz.prog 77=some ([.sc (.slice none 0 0),.sc (.slice none 0 0),.sc (.slice none 0 0),.sc (.slice none 0 0)],[(0,1),(1,1),(2,1),(3,1)])) ∧
 (r9 Tryz.prog 80=some ([.sc (.int .u32 0),.sc (.slice none 0 0)],[(0,1),(1,1)])) ∧
 (r9 Tryz.prog 90=some ([.sc (.int .u8 0),.sc (.slice none 0 0),.sc (.slice none 0 0)],[(0,1),(1,1),(2,1)])):=
 ⟨by kernel_rfl,by kernel_rfl,by kernel_rfl,by kernel_rfl,by kernel_rfl,by kernel_rfl,by kernel_rfl,by kernel_rfl⟩
theorem ai4:(r9 Tryz.prog 100=some ([.sc (.slice none 0 0),.sc (.slice none 0 0),.sc (.slice none 0 0)],[(0,3)])) ∧
 (r9 Tryz.prog 121=some ([.sc (.slice none 0 0),.sc (.int .i64 0),.sc (.int .u8 0),.sc (.slice none 0 0),.sc (.slice none 0 0)],[(0,1),(1,1),(2,3)])) ∧
 (r9 Tryz.prog 180=some ([.sc (.slice none 0 0),.sc (.slice none 0 0),.sc (.int .i64 0)],[(0,2),(2,1)])) ∧
 (r9 Tryz.prog 214=some ([.sc (.int .i64 0),.sc (.int .i64 0),.sc (.int .i64 0),.sc (.int .i64 0),.sc (.int .i64 0)],[(0,1),(1,1),(2,1),(3,1),(4,1)])):=
 ⟨by kernel_rfl,by kernel_rfl,by kernel_rfl,by kernel_rfl⟩
theorem aja:(eu Tryz.prog 26 0=some ⟨"Origin",23,0,false, "", "",0⟩) ∧
 (eu Tryz.prog 26 1=some ⟨"Sets",24,1,false, "", "",24⟩) ∧
 (eu Tryz.prog 32 0=some ⟨"Rcode",3,0,false, "", "",0⟩):=
 ⟨by kernel_rfl,by kernel_rfl,by kernel_rfl⟩
theorem aet:(eu Tryz.prog 32 1=some ⟨"AA",4,1,false, "", "",8⟩) ∧
 (eu Tryz.prog 32 2=some ⟨"Answer",24,2,false, "", "",16⟩) ∧
 (eu Tryz.prog 32 3=some ⟨"Authority",24,3,false, "", "",40⟩) ∧
 (eu Tryz.prog 32 4=some ⟨"Additional",24,4,false, "", "",64⟩) ∧
 (eu Tryz.prog 40 0=some ⟨"Owner",23,0,false, "", "",0⟩) ∧
 (eu Tryz.prog 40 1=some ⟨"Type",28,1,false, "", "",24⟩) ∧
 (eu Tryz.prog 40 2=some ⟨"Class",36,2,false, "", "",26⟩) ∧
 (eu Tryz.prog 40 3=some ⟨"TTL",37,3,false, "", "",28⟩) ∧
 (eu Tryz.prog 40 4=some ⟨"Data",38,4,false, "", "",32⟩) ∧
 (eu Tryz.prog 50 0=some ⟨"Zones",46,0,false, "", "",0⟩) ∧
 (eu Tryz.prog 50 1=some ⟨"Hosts",47,1,false, "", "",24⟩) ∧
 (eu Tryz.prog 50 2=some ⟨"Hints",48,2,false, "", "",48⟩) ∧
 (eu Tryz.prog 64 0=some ⟨"Turn",62,0,false, "", "",0⟩):=
 ⟨by kernel_rfl,by kernel_rfl,by kernel_rfl,by kernel_rfl,by kernel_rfl,by kernel_rfl,by kernel_rfl,by kernel_rfl,by kernel_rfl,by kernel_rfl,by kernel_rfl,by kernel_rfl,by kernel_rfl⟩
theorem ad7:(eu Tryz.prog 64 1=some ⟨"Sets",24,1,false, "", "",8⟩) ∧
 (eu Tryz.prog 64 2=some ⟨"To",23,2,false, "", "",32⟩) ∧
 (eu Tryz.prog 77 0=some ⟨"Names",69,0,false, "", "",0⟩) ∧
 (eu Tryz.prog 77 1=some ⟨"Nums",48,1,false, "", "",24⟩) ∧
 (eu Tryz.prog 77 2=some ⟨"Texts",22,2,false, "", "",48⟩) ∧
 (eu Tryz.prog 77 3=some ⟨"Raw",75,3,false, "", "",72⟩) ∧
 (eu Tryz.prog 80 0=some ⟨"Addr",37,0,false, "", "",0⟩) ∧
 (eu Tryz.prog 80 1=some ⟨"Zones",70,1,false, "", "",8⟩) ∧
 (eu Tryz.prog 90 0=some ⟨"Kind",88,0,false, "", "",0⟩) ∧
 (eu Tryz.prog 90 1=some ⟨"Node",23,1,false, "", "",8⟩):=
 ⟨by kernel_rfl,by kernel_rfl,by kernel_rfl,by kernel_rfl,by kernel_rfl,by kernel_rfl,by kernel_rfl,by kernel_rfl,by kernel_rfl,by kernel_rfl⟩
theorem aee:(eu Tryz.prog 100 0=some ⟨"w",50,0,false, "", "nomenclator/world",0⟩) ∧
 (eu Tryz.prog 121 1=some ⟨"zone",3,1,false, "", "nomenclator/lookup",24⟩) ∧
 (eu Tryz.prog 121 2=some ⟨"step",64,2,false, "", "nomenclator/lookup",32⟩) ∧
 (eu Tryz.prog 180 0=some ⟨"z",26,0,false, "", "nomenclator/zone",0⟩) ∧
 (eu Tryz.prog 180 1=some ⟨"e",33,2,false, "", "nomenclator/zone",48⟩):=
 ⟨by kernel_rfl,by kernel_rfl,by kernel_rfl,by kernel_rfl,by kernel_rfl⟩
theorem ah3:(eu Tryz.prog 214 0=some ⟨"names",3,0,false, "", "nomenclator/rdata",0⟩) ∧
 (eu Tryz.prog 214 1=some ⟨"nums",3,1,false, "", "nomenclator/rdata",8⟩) ∧
 (eu Tryz.prog 214 2=some ⟨"size",3,2,false, "", "nomenclator/rdata",16⟩) ∧
 (eu Tryz.prog 214 3=some ⟨"texts",3,3,false, "", "nomenclator/rdata",24⟩) ∧
 (eu Tryz.prog 214 4=some ⟨"raw",3,4,false, "", "nomenclator/rdata",32⟩):=
 ⟨by kernel_rfl,by kernel_rfl,by kernel_rfl,by kernel_rfl,by kernel_rfl⟩
theorem atl:(yj Tryz.prog 22=some (9,1,16)) ∧
 (yj Tryz.prog 23=some (9,1,16)) ∧
 (yj Tryz.prog 24=some (40,5,56)) ∧
 (yj Tryz.prog 38=some (77,4,96)) ∧
 (yj Tryz.prog 46=some (26,2,48)) ∧
 (yj Tryz.prog 47=some (80,2,32)) ∧
 (yj Tryz.prog 48=some (37,1,4)) ∧
 (yj Tryz.prog 69=some (23,1,24)) ∧
 (yj Tryz.prog 70=some (3,1,8)) ∧
 (yj Tryz.prog 75=some (5,1,1)):=
 ⟨by kernel_rfl,by kernel_rfl,by kernel_rfl,by kernel_rfl,by kernel_rfl,by kernel_rfl,by kernel_rfl,by kernel_rfl,by kernel_rfl,by kernel_rfl⟩
theorem TF:type_of% as6∧type_of% atp∧type_of% atn∧type_of% aua∧type_of% arl∧type_of% auk∧type_of% alp∧type_of% ane∧type_of% amg∧type_of% amq∧type_of% anh∧type_of% amn∧type_of% ani∧type_of% alo∧type_of% ara∧type_of% adq∧type_of% ai4∧type_of% aja∧type_of% aet∧type_of% ad7∧type_of% aee∧type_of% ah3∧type_of% atl:=
 ⟨as6,atp,atn,aua,arl,auk,alp,ane,amg,amq,anh,amn,ani,alo,ara,adq,ai4,aja,aet,ad7,aee,ah3,atl⟩
end Go.Vm
end
section
namespace Go.Proofs.YtajammoepjpiiaaGreat
open Go.Vm
noncomputable abbrev PP:=Tryz.prog
theorem mixed:PP.follows .mixedOrders=true:=by kernel_rfl
theorem ba {T:eg} (hT:aj PP T) {f:Nat} {fn:Func} (hf:PP.funcs[f]? = some fn) (hb:fn.body.isSome=true) (he:mc PP f=true) (hs:ee fn.ntmps (fn.body.getD .skip)=true)
 {args:List AV} (hl:args.length≤fn.ntmps) {ρ:Type} (R:RC ρ) (fr:Bool) (x : ρ)
 (h:wl PP T 0 (fn.body.getD .skip) (dj PP fn.results.toList (fun r st=>R.get fr st.h r=some x)) (b9 0 args) (bq [])):bc PP f args (R.E fr x):=
 Yx (body:=fn.body.getD .skip) hT mixed hf (by cases hq:fn.body with|none=>rw [hq] at hb;cases hb|some b=>rfl) he hs hl R fr x h
def m8 (s:ByteArray):Int:=if s.size<1∨63<s.size then 4 else 0
theorem aci (s:ByteArray):wl PP [] 0 (Tryz.f50.body.getD .skip) (dj PP Tryz.f50.results.toList (fun r st=>(r1 (ay .i64)).get true st.h r=some (m8 s))) (b9 0 [aq.val false s]) (bq []):=by
 unfold Tryz.f50
 simp only [↓wR,RA,simprocAttr,TF]
 rw [br]
 refine ⟨fun h=>?_,fun h=>?_⟩
 ·have h1:s.size<1:=by simp at h;omega
  simp only [↓wR,RA,simprocAttr,TF,m8,h,h1,true_or]
 ·have h1:¬ s.size<1:=by simp at h;omega
  simp only [↓wR,RA,simprocAttr,TF,h]
  rw [br]
  refine ⟨fun h=>?_,fun h=>?_⟩
  ·have h2 : 63<s.size:=by simp at h;omega
   simp only [↓wR,RA,simprocAttr,TF,m8,h2,or_true]
  ·have h2:¬ 63<s.size:=by simp at h;omega
   simp only [↓wR,RA,simprocAttr,TF,m8,h1,h2,or_self]
noncomputable def It (x:ByteArray × Unit):Option AV:=some ((r1 (ay .i64)).E true (m8 x.1))
set_option maxRecDepth 2000000 in
theorem Xs (x:ByteArray × Unit) (r:AV) (h:It x=some r):bc PP 50 ((aC aq a0).E x) r:=by
 cases h
 exact ba (aj.nil PP) Tryz.func50 (by kernel_rfl) (by kernel_rfl) (by kernel_rfl) (Nat.le_of_ble_eq_true (by kernel_rfl)) (r1 (ay .i64)) true (m8 x.1) (aci x.1)
noncomputable abbrev ano:Nat × Bool × (List AV→M AV):=(50,true,cx (aC aq a0) It)
def bw (n:Name):Nat:=n.foldl (fun k s=>k+(s.size+1)) 1
theorem ac7 (l:Name) (c:ByteArray):bw (l++[c])=bw l+(c.size+1):=by simp [bw]
theorem ab5 (n:Name) (i:Nat) (c:ByteArray) (h:n[i]? = some c):bw (n.take (i+1))=bw (n.take i)+(c.size+1):=by
 obtain ⟨hk,rfl⟩:=List.getElem?_eq_some_iff.1 h
 rw [List.take_succ_eq_append_getElem hk,ac7]
theorem D5 (l:Name):∀ k,l.foldl (fun k s=>k+(s.size+1)) k=k+l.foldl (fun k s=>k+(s.size+1)) 0:=by
 induction l with
 |nil=>intro k;simp
 |cons a l ih=>intro k;simp only [List.foldl_cons];rw [ih,ih (0+_)];omega
theorem kb (a b:Name):bw (a++b)+1=bw a+bw b:=by
 simp only [bw,List.foldl_append]
 rw [D5 b,D5 b 1];omega
theorem j7 (n:Name) (i:Nat):bw (n.take i)≤bw n∧n.length<bw n:=by
 constructor
 ·have:=kb (n.take i) (n.drop i)
  rw [List.take_append_drop] at this
  have h1 : 1≤bw (n.drop i):=by simp only [bw];rw [D5];omega
  omega
 ·induction n with
  |nil=>simp [bw]
  |cons a l ih=>
   have:=kb [a] l
   simp only [List.singleton_append] at this
   have h1:bw [a]=a.size+2:=by simp [bw];omega
   simp only [List.length_cons]
   omega
theorem wrap_i64 (x:Int) (h0 : -9223372036854775808≤x) (h1:x<9223372036854775808):IntKind.i64.wrap x=x:=by
 simp [IntKind.wrap,IntKind.bits,IntKind.signed];omega
theorem akv (n:Name) (hn:bw n<17592186044416):wl PP [] 0 (Tryz.f51.body.getD .skip) (dj PP Tryz.f51.results.toList (fun r st=>(r1 (ay .i64)).get true st.h r=some (bw n:Int))) (b9 0 [aw.val false n]) (bq []):=by
 unfold Tryz.f51
 rw [dm]
 simp only [↓wR,RA,simprocAttr,TF]
 refine di [3,6,7,8] (fun (x:Nat)=>[.sc (.int .i64 (bw (n.take x))),.vl false 1 (n.map (aq.val false)),.sc (.int .i64 n.length),.sc (.int .i64 x)]) (fun _=>[]) (fun x=>x≤n.length) (fun x=>n.length - x) 0 (Nat.zero_le _) ?_ ?_ ?_
 ·simp only [↓wR,RA,simprocAttr,TF]<;>rfl
 ·simp only [↓wR,RA,simprocAttr,TF]
 ·intro i hi
  have h1:=j7 n i
  simp only [↓wR,RA,simprocAttr,TF]
  rw [br]
  refine ⟨fun h=>?_,fun h=>?_⟩
  ·have h4:i<n.length:=by simp at h;omega
   obtain ⟨c,hc⟩:∃ c,n[i]? = some c:=⟨n[i],by simp [h4]⟩
   have h2:=ab5 n i c hc
   have h3:=(j7 n (i+1)).1
   simp only [↓wR,RA,simprocAttr,TF,hc]
   refine ⟨i+1,by omega,by omega,?_⟩
   rw [h2]
   simp only [List.cons.injEq,and_true,true_and,AV.sc.injEq,Value.int.injEq]
   refine ⟨?_,?_⟩
   ·rw [wrap_i64 ((c.size:Int)+1) (by omega) (by omega),wrap_i64 _ (by omega) (by omega)];omega
   ·rw [wrap_i64 _ (by omega) (by omega)];omega
  ·have h4:i=n.length:=by simp at h;omega
   subst h4
   simp only [↓wR,RA,simprocAttr,TF,List.take_length]
noncomputable def Ao (x:Name × Unit):Option AV:=if bw x.1<17592186044416 then some ((r1 (ay .i64)).E true ((bw x.1:Int))) else none
set_option maxRecDepth 2000000 in
theorem Yj (x:Name × Unit) (r:AV) (h:Ao x=some r):bc PP 51 ((aC aw a0).E x) r:=by
 by_cases hc:bw x.1<17592186044416
 case neg=>simp only [Ao,if_neg hc] at h;cases h
 simp only [Ao,if_pos hc] at h
 cases h
 exact ba (aj.nil PP) Tryz.func51 (by kernel_rfl) (by kernel_rfl) (by kernel_rfl) (Nat.le_of_ble_eq_true (by kernel_rfl)) (r1 (ay .i64)) true ((bw x.1:Int)) (akv x.1 hc)
noncomputable abbrev aq1:Nat × Bool × (List AV→M AV):=(51,true,cx (aC aw a0) Ao)
def z7 (n:Name):Bool:=n.any fun s=>decide (m8 s≠0)
def dt (n:Name):Int:=if z7 n then 4 else if 255<bw n then 5 else 0
theorem aiw (n:Name) (i:Nat) (c:ByteArray) (h:n[i]? = some c):z7 (n.take (i+1))=(z7 (n.take i) || decide (m8 c≠0)):=by
 obtain ⟨hk,rfl⟩:=List.getElem?_eq_some_iff.1 h
 rw [List.take_succ_eq_append_getElem hk]
 simp only [z7,List.any_append,List.any_cons,List.any_nil,Bool.or_false]
theorem ag7 (n:Name) (i:Nat) (c:ByteArray) (h:n[i]? = some c) (hc:m8 c≠0):z7 n=true:=by
 simp only [z7,List.any_eq_true]
 exact ⟨c,List.mem_of_getElem? h,by simp [hc]⟩
theorem aij (s:ByteArray):m8 s=0∨m8 s=4:=by unfold m8;split<;>simp
theorem afr (n:Name) (hn:bw n<17592186044416):wl PP [ano,aq1] 0 (Tryz.f17.body.getD .skip) (dj PP Tryz.f17.results.toList (fun r st=>(r1 (ay .i64)).get true st.h r=some (dt n))) (b9 0 [aw.val false n]) (bq []):=by
 unfold Tryz.f17
 rw [dm]
 simp only [↓wR,RA,simprocAttr,TF]
 refine di [0,6,7,8] (fun (x:Nat)=>[.vl false 1 (n.map (aq.val false)),.vl false 1 (n.map (aq.val false)),.sc (.int .i64 n.length),.sc (.int .i64 x)]) (fun _=>[]) (fun x=>x≤n.length∧z7 (n.take x)=false) (fun x=>n.length - x) 0 ⟨Nat.zero_le _,by simp [z7]⟩ ?_ ?_ ?_
 ·simp only [↓wR,RA,simprocAttr,TF]<;>rfl
 ·simp only [↓wR,RA,simprocAttr,TF]
 ·rintro i ⟨hi,hb⟩
  have h1:=j7 n i
  simp only [↓wR,RA,simprocAttr,TF]
  rw [br]
  refine ⟨fun h=>?_,fun h=>?_⟩
  ·have h4:i<n.length:=by simp at h;omega
   obtain ⟨c,hc⟩:∃ c,n[i]? = some c:=⟨n[i],by simp [h4]⟩
   simp only [↓wR,RA,simprocAttr,TF,hc,It]
   rw [br]
   refine ⟨fun h=>?_,fun h=>?_⟩
   ·have h5:m8 c≠0:=by simpa using h
    have h6:m8 c=4:=(aij c).resolve_left h5
    simp only [↓wR,RA,simprocAttr,TF,dt,ag7 n i c hc h5,h6]
   ·have h5:m8 c=0:=by simpa using h
    simp only [↓wR,RA,simprocAttr,TF]
    refine ⟨i+1,⟨by omega,by rw [aiw n i c hc,hb];simp [h5]⟩,by omega,?_⟩
    simp only [List.cons.injEq,and_true,true_and,AV.sc.injEq,Value.int.injEq]
    rw [wrap_i64 _ (by omega) (by omega)];omega
  ·have h4:i=n.length:=by simp at h;omega
   subst h4
   rw [List.take_length] at hb
   simp only [↓wR,RA,simprocAttr,TF,Ao,hn]
   rw [br]
   refine ⟨fun h=>?_,fun h=>?_⟩
   ·have h5 : 255<bw n:=by simp at h;omega
    simp only [↓wR,RA,simprocAttr,TF,dt,hb,h5]
   ·have h5:¬ 255<bw n:=by simp at h;omega
    simp only [↓wR,RA,simprocAttr,TF,dt,hb,h5]
noncomputable def mz (x:Name × Unit):Option AV:=if bw x.1<17592186044416 then some ((r1 (ay .i64)).E true (dt x.1)) else none
set_option maxRecDepth 2000000 in
theorem ld (x:Name × Unit) (r:AV) (h:mz x=some r):bc PP 17 ((aC aw a0).E x) r:=by
 by_cases hc:bw x.1<17592186044416
 case neg=>simp only [mz,if_neg hc] at h;cases h
 simp only [mz,if_pos hc] at h
 cases h
 exact ba (aj.cons (ai Xs) (aj.cons (ai Yj) (aj.nil PP))) Tryz.func17 (by kernel_rfl) (by kernel_rfl) (by kernel_rfl) (Nat.le_of_ble_eq_true (by kernel_rfl)) (r1 (ay .i64)) true (dt x.1) (afr x.1 hc)
noncomputable abbrev en:Nat × Bool × (List AV→M AV):=(17,true,cx (aC aw a0) mz)
def low (c:UInt8):UInt8:=if 65≤c∧c≤90 then c+32 else c
def fold (s:ByteArray):ByteArray:=⟨(s.data.toList.map low).toArray⟩
def ov (l:List UInt8) (i:Nat):List UInt8:=(l.take i).map low++l.drop i
theorem asz (l:List UInt8) (i:Nat):(ov l i).length=l.length:=by simp [ov];omega
theorem abj (l:List UInt8) (i:Nat) (h:i<l.length):(ov l i)[i]? = l[i]? := by
 simp [ov,List.getElem?_append,Nat.min_eq_left (Nat.le_of_lt h)]
theorem Zu (l:List UInt8) (i:Nat) (h:i<l.length):(ov l i).take i++[low l[i]]++(ov l i).drop (i+1)=ov l (i+1):=by
 have h1:((l.take i).map low).length=i:=by simp;omega
 have h2:(ov l i).take i=(l.take i).map low:=by rw [ov,List.take_append_of_le_length (by omega),List.take_of_length_le (by omega)]
 have h3:(ov l i).drop (i+1)=l.drop (i+1):=by
  rw [ov,List.drop_append,List.drop_eq_nil_of_le (by omega),h1]
  simp
 rw [h2,h3,ov,List.take_succ_eq_append_getElem h,List.map_append]
 rfl
theorem X3 (l:List UInt8) (i:Nat) (h:i<l.length) (hk:low l[i]=l[i]):ov l i=ov l (i+1):=by
 rw [← Zu l i h,hk]
 have:(ov l i)[i]? = some l[i]:=by rw [abj l i h];simp [h]
 obtain ⟨hlt,e⟩:=List.getElem?_eq_some_iff.1 this
 rw [← e,← List.take_succ_eq_append_getElem hlt,List.take_append_drop]
set_option maxRecDepth 20000 in
theorem ain (s:ByteArray) (hs:s.size≤16777216):wl PP [] 0 (Tryz.f133.body.getD .skip) (dj PP Tryz.f133.results.toList (fun r st=>(r1 aq).get true st.h r=some (fold s))) (b9 0 [aq.val false s]) (bq []):=by
 unfold Tryz.f133
 have hl:s.data.toList.length=s.size:=by simp
 simp only [↓wR,RA,simprocAttr,TF,hs]
 refine di [3,8,9,10] (fun (x:Nat)=>[.sl 0 0 s.size 1,.sl 0 0 s.size 1,.sc (.int .i64 s.size),.sc (.int .i64 x)]) (fun x=>[some (.row ((ov s.data.toList x).map (cj.val false)) 0 1 5)]) (fun x=>x≤s.size) (fun x=>s.size - x) 0 (Nat.zero_le _) ?_ ?_ ?_
 ·simp only [↓wR,RA,simprocAttr,TF]<;>rfl
 ·simp only [↓wR,RA,simprocAttr,TF]<;>rfl
 ·intro i hi
  simp only [↓wR,RA,simprocAttr,TF]
  rw [br]
  refine ⟨fun h=>?_,fun h=>?_⟩
  ·have h4:i<s.size:=by simp at h;omega
   have h6:i<s.data.toList.length:=by omega
   have h5:(ov s.data.toList i)[i]? = some s.data.toList[i]:=by rw [abj s.data.toList i h6];simp [h6]
   obtain ⟨c,hc⟩:∃ c,s.data.toList[i]=c:=⟨_,rfl⟩
   have hcl:=c.toNat_lt
   rw [hc] at h5
   simp only [↓wR,RA,simprocAttr,TF,h4,h5]
   rw [br]
   refine ⟨fun h1=>?_,fun h1=>?_⟩
   ·simp only [↓wR,RA,simprocAttr,TF,h1]
    rw [br]
    refine ⟨fun h2=>?_,fun h2=>?_⟩
    ·have h7:i+1≤s.size:=by omega
     have hlow:low c=c+32:=by
      simp at h1 h2
      have a1 : 65≤c:=by rw [UInt8.le_iff_toNat_le];simp;omega
      have a2:c≤90:=by rw [UInt8.le_iff_toNat_le];simp;omega
      simp [low,a1,a2]
     have hw:IntKind.u8.wrap (IntKind.u8.wrap ((c.toNat:Int)+97) - 65)=((low c).toNat:Int):=by
      simp at h1 h2
      rw [hlow]
      simp [IntKind.wrap,IntKind.bits,IntKind.signed,UInt8.toNat_add]
      omega
     have hst:List.map (cj.val false) (List.take i (ov s.data.toList i))++[AV.sc (Value.int IntKind.u8 ((low c).toNat:Int))]++List.map (cj.val false) (List.drop (i+1) (ov s.data.toList i))=List.map (cj.val false) (ov s.data.toList (i+1)):=by
      rw [← Zu s.data.toList i h6,hc,List.map_append,List.map_append];rfl
     simp only [↓wR,RA,simprocAttr,TF,h4,h7,asz,hl,hw,hst]
     refine ⟨i+1,h7,by omega,?_,rfl⟩
     rw [wrap_i64 _ (by omega) (by omega)];rfl
    ·simp only [↓wR,RA,simprocAttr,TF]
     have hk:low c=c:=by
      simp at h2
      have a2:¬ c≤90:=by rw [UInt8.le_iff_toNat_le];simp;omega
      simp [low,a2]
     refine ⟨i+1,by omega,by omega,?_,?_⟩
     ·rw [wrap_i64 _ (by omega) (by omega)];rfl
     ·rw [X3 s.data.toList i h6 (by rw [hc];exact hk)]
   ·simp only [↓wR,RA,simprocAttr,TF,h1]
    have hk:low c=c:=by
     simp at h1
     have a2:¬ 65≤c:=by rw [UInt8.le_iff_toNat_le];simp;omega
     simp [low,a2]
    refine ⟨i+1,by omega,by omega,?_,?_⟩
    ·rw [wrap_i64 _ (by omega) (by omega)];rfl
    ·rw [X3 s.data.toList i h6 (by rw [hc];exact hk)]
  ·have h4:i=s.size:=by simp at h;omega
   subst h4
   have:∃ m,List.map low s.data.toList=m:=⟨_,rfl⟩
   obtain ⟨m,hm⟩:=this
   have h5:ov s.data.toList s.size=m:=by rw [ov,List.take_of_length_le (Nat.le_of_eq hl),List.drop_eq_nil_of_le (Nat.le_of_eq hl),List.append_nil,hm]
   have hlm:m.length=s.size:=by rw [← hm,List.length_map,hl]
   have h6:List.take s.size (List.map (cj.val false) m)=List.map (cj.val false) m:=List.take_of_length_le (by rw [List.length_map,hlm];exact Nat.le_refl _)
   have hf:fold s=⟨m.toArray⟩:=by rw [fold,hm]
   rw [h5,hf]
   simp only [↓wR,RA,simprocAttr,TF,hlm,h6]
noncomputable def vp (x:ByteArray × Unit):Option AV:=if x.1.size≤16777216 then some ((r1 aq).E true (fold x.1)) else none
set_option maxRecDepth 2000000 in
theorem Ca (x:ByteArray × Unit) (r:AV) (h:vp x=some r):bc PP 133 ((aC aq a0).E x) r:=by
 by_cases hc:x.1.size≤16777216
 case neg=>simp only [vp,if_neg hc] at h;cases h
 simp only [vp,if_pos hc] at h
 cases h
 exact ba (aj.nil PP) Tryz.func133 (by kernel_rfl) (by kernel_rfl) (by kernel_rfl) (Nat.le_of_ble_eq_true (by kernel_rfl)) (r1 aq) true (fold x.1) (ain x.1 hc)
noncomputable abbrev Nt:Nat × Bool × (List AV→M AV):=(133,true,cx (aC aq a0) vp)
theorem afo (a b:ByteArray) (ha:a.size≤16777216) (hb:b.size≤16777216):wl PP [Nt] 0 (Tryz.f91.body.getD .skip) (dj PP Tryz.f91.results.toList (fun r st=>(r1 bn).get true st.h r=some (decide (fold a=fold b)))) (b9 0 [aq.val false a,aq.val false b]) (bq []):=by
 unfold Tryz.f91
 simp only [↓wR,RA,simprocAttr,TF,vp,ha,hb]
noncomputable def Aw (x:ByteArray × ByteArray × Unit):Option AV:=if x.1.size≤16777216∧x.2.1.size≤16777216 then some ((r1 bn).E true (decide (fold x.1=fold x.2.1))) else none
set_option maxRecDepth 2000000 in
theorem Yw (x:ByteArray × ByteArray × Unit) (r:AV) (h:Aw x=some r):bc PP 91 ((aC aq (aC aq a0)).E x) r:=by
 by_cases hc:x.1.size≤16777216∧x.2.1.size≤16777216
 case neg=>simp only [Aw,if_neg hc] at h;cases h
 simp only [Aw,if_pos hc] at h
 cases h
 exact ba (aj.cons (ai Ca) (aj.nil PP)) Tryz.func91 (by kernel_rfl) (by kernel_rfl) (by kernel_rfl) (Nat.le_of_ble_eq_true (by kernel_rfl)) (r1 bn) true (decide (fold x.1=fold x.2.1)) (afo x.1 x.2.1 hc.1 hc.2)
noncomputable abbrev aub:Nat × Bool × (List AV→M AV):=(91,true,cx (aC aq (aC aq a0)) Aw)
def kz:List ByteArray→List ByteArray→Nat
 |a::r,b::q=>if fold a=fold b then kz r q+1 else 0
 |_,_=>0
theorem akm (l:List ByteArray):kz l []=0:=by cases l<;>rfl
def common (a b:Name):Nat:=kz a.reverse b.reverse
theorem afx {l:List ByteArray} {x:Nat} {c:ByteArray} (h:x<l.length) (hc:l[l.length - 1 - x]? = some c):l.reverse.drop x=c::l.reverse.drop (x+1):=by
 have h1:l.reverse[x]? = some c:=by rw [List.getElem?_reverse h];exact hc
 obtain ⟨h2,h3⟩:=List.getElem?_eq_some_iff.1 h1
 rw [← h3];exact List.drop_eq_getElem_cons h2
set_option maxRecDepth 20000 in
theorem ac0 (a b:Name) (ha:∀ s ∈ a,s.size≤16777216) (hb:∀ s ∈ b,s.size≤16777216) (hla:a.length<17592186044416) (hlb:b.length<17592186044416):wl PP [aub] 0 (Tryz.f53.body.getD .skip) (dj PP Tryz.f53.results.toList (fun r st=>(r1 (ay .i64)).get true st.h r=some (common a b:Int))) (b9 0 [aw.val false a,aw.val false b]) (bq []):=by
 unfold Tryz.f53
 simp only [dm]
 simp only [↓wR,RA,simprocAttr,TF]
 refine bt (T:=[]) (aj.nil PP) mixed Tryz.func90 rfl (by kernel_rfl) (by kernel_rfl) (by kernel_rfl) (by kernel_rfl) ?_;unfold Tryz.f90
 simp only [↓wR,RA,simprocAttr,TF]
 refine ⟨[2,3,4,5,10],?_⟩
 have hib:tq PP 132=some (Tryz.f132.ntmps,Tryz.f132.body.getD .skip):=by kernel_rfl
 simp only [↓wR,RA,simprocAttr,TF,hib]
 refine ⟨by kernel_rfl,fun l=>?_⟩
 unfold Tryz.f132
 simp only [↓wR,RA,simprocAttr,TF]
 refine Hl [0,1,3] (fun (x:Nat)=>[.sc (.func (.yield l) #[] #[]),.ptr 4 0,.sc (.int .i64 ((a.length:Int) - 1 - x))]) (fun x=>[some (.row [.vl false 1 (a.map (aq.val false))] 0 2 23),some (.row [.vl false 1 (b.map (aq.val false))] 0 2 23),some (.row [.sc (.int .i64 0)] 0 2 3),some (.row [.sc (.int .i64 x)] 0 2 3),some (.row [.vl false 1 (a.map (aq.val false))] 0 2 23)]) (fun x=>x≤a.length∧common a b=x+kz (a.reverse.drop x) (b.reverse.drop x)) (fun x=>a.length - x) 0 ⟨Nat.zero_le _,by simp [common]⟩ ?_ ?_ ?_
 ·simp only [↓wR,RA,simprocAttr,TF];simp;rw [wrap_i64 _ (by omega) (by omega)]
 ·simp only [↓wR,RA,simprocAttr,TF]<;>rfl
 rintro x ⟨hx,hR⟩
 simp only [↓wR,RA,simprocAttr,TF]
 rw [ub];refine ⟨fun h=>?_,fun h=>?_⟩
 ·have hx':x<a.length:=by simp at h;omega
  obtain ⟨c,hc⟩:∃ c,a[a.length - 1 - x]? = some c:=⟨_,List.getElem?_eq_getElem (by omega)⟩
  have e:((a.length:Int) - 1 - x).toNat=a.length - 1 - x:=by omega
  have e2:(0:Int)≤(a.length:Int) - 1 - x:=by omega
  simp only [↓wR,RA,simprocAttr,TF,e,hc,e2]
  refine my [0,1,3,12,16] ?_
  simp only [↓wR,RA,simprocAttr,TF,py,je,hc]
  simp (disch:=omega) only [ah,cb,cd,cg,cf]
  rw [br];refine ⟨fun h1=>?_,fun h1=>?_⟩
  ·have hb0:b.length≤x:=by simp at h1;omega
   have hb1:b.reverse.drop x=[]:=List.drop_eq_nil_of_le (by simpa using hb0)
   rw [hb1,akm] at hR
   simp only [↓wR,RA,simprocAttr,TF,h1]
   rw [hR,Nat.add_zero]
  ·have hb0:x<b.length:=by simp at h1;omega
   obtain ⟨d,hd⟩:∃ d,b[b.length - 1 - x]? = some d:=⟨_,List.getElem?_eq_getElem (by omega)⟩
   have e4:((b.length:Int) - ((a.length:Int) - ((a.length:Int) - 1 - x))).toNat=b.length - 1 - x:=by omega
   have e5:(0:Int)≤(b.length:Int) - ((a.length:Int) - ((a.length:Int) - 1 - x)):=by omega
   simp only [↓wR,RA,simprocAttr,TF,h1,hd,e4,e5,Aw,ha c (List.mem_of_getElem? hc),hb d (List.mem_of_getElem? hd)]
   rw [afx hx' hc,afx hb0 hd,kz] at hR
   rw [br];refine ⟨fun h2=>?_,fun h2=>?_⟩
   ·have h3:¬ fold c=fold d:=by simpa using h2
    rw [if_neg h3] at hR
    simp only [↓wR,RA,simprocAttr,TF,h2]
    rw [hR,Nat.add_zero]
   ·have h3:fold c=fold d:=by simpa using h2
    rw [if_pos h3] at hR
    simp only [↓wR,RA,simprocAttr,TF,h2]
    refine ⟨x+1,⟨by omega,by omega⟩,by omega,?_,?_⟩
    ·simp only [List.cons.injEq,and_true,true_and,AV.sc.injEq,Value.int.injEq]
     simp (disch:=omega) only [ah,cb,cd,cg,cf]
     omega
    ·simp (disch:=omega) only [ah,cb,cd,cg,cf]
     rfl
 ·have h4:x=a.length:=by simp at h;omega
  have h5:a.reverse.drop x=[]:=List.drop_eq_nil_of_le (by simp;omega)
  rw [h5,kz] at hR
  simp only [↓wR,RA,simprocAttr,TF,h]
  rw [hR,Nat.add_zero]
  all_goals simp
theorem aj1 (args:List AV):C3 PP 204 args (Cx.fm args):=
 Cx.i6 (fn:=(PP.funcs[204]?).getD default) (by kernel_rfl) (by kernel_rfl) (by kernel_rfl) (by kernel_rfl) (by kernel_rfl) args
noncomputable abbrev as5:Nat × Bool × (List AV→M AV):=(204,true,Cx.fm)
theorem asm:aj PP [as5]:=aj.cons aj1 (aj.nil PP)
noncomputable def Pg (a b:ByteArray):Int:=Lib.compareBytes a.data.toList b.data.toList
theorem Qr (a b:ByteArray):wl PP [] 0 (Tryz.f197.body.getD .skip) (dj PP Tryz.f197.results.toList (fun r st=>(r1 (ay .i64)).get true st.h r=some (Pg a b))) (b9 0 [aq.val false a,aq.val false b]) (bq []):=by
 unfold Tryz.f197
 simp only [↓wR,RA,simprocAttr,TF]
 refine bt (T:=[as5]) asm mixed Tryz.func201 rfl (by kernel_rfl) (by kernel_rfl) (by kernel_rfl) (by kernel_rfl) ?_;unfold Tryz.f201
 simp only [↓wR,RA,simprocAttr,TF,Pg]
noncomputable def Bf (x:ByteArray × ByteArray × Unit):Option AV:=some ((r1 (ay .i64)).E true (Pg x.1 x.2.1))
set_option maxRecDepth 2000000 in
theorem Mm (x:ByteArray × ByteArray × Unit) (r:AV) (h:Bf x=some r):bc PP 197 ((aC aq (aC aq a0)).E x) r:=by
 cases h
 exact ba (aj.nil PP) Tryz.func197 (by kernel_rfl) (by kernel_rfl) (by kernel_rfl) (Nat.le_of_ble_eq_true (by kernel_rfl)) (r1 (ay .i64)) true (Pg x.1 x.2.1) (Qr x.1 x.2.1)
noncomputable abbrev Y6:Nat × Bool × (List AV→M AV):=(197,true,cx (aC aq (aC aq a0)) Bf)
theorem Vw (a b:ByteArray) (ha:a.size≤16777216) (hb:b.size≤16777216):wl PP [Nt,Y6] 0 (Tryz.f187.body.getD .skip) (dj PP Tryz.f187.results.toList (fun r st=>(r1 (ay .i64)).get true st.h r=some (Pg (fold a) (fold b)))) (b9 0 [aq.val false a,aq.val false b]) (bq []):=by
 unfold Tryz.f187
 simp only [↓wR,RA,simprocAttr,TF,vp,Bf,ha,hb]
noncomputable def vz (x:ByteArray × ByteArray × Unit):Option AV:=if x.1.size≤16777216∧x.2.1.size≤16777216 then some ((r1 (ay .i64)).E true (Pg (fold x.1) (fold x.2.1))) else none
set_option maxRecDepth 2000000 in
theorem Qu (x:ByteArray × ByteArray × Unit) (r:AV) (h:vz x=some r):bc PP 187 ((aC aq (aC aq a0)).E x) r:=by
 by_cases hc:x.1.size≤16777216∧x.2.1.size≤16777216
 case neg=>simp only [vz,if_neg hc] at h;cases h
 simp only [vz,if_pos hc] at h
 cases h
 exact ba (aj.cons (ai Ca) (aj.cons (ai Mm) (aj.nil PP))) Tryz.func187 (by kernel_rfl) (by kernel_rfl) (by kernel_rfl) (Nat.le_of_ble_eq_true (by kernel_rfl)) (r1 (ay .i64)) true (Pg (fold x.1) (fold x.2.1)) (Vw x.1 x.2.1 hc.1 hc.2)
noncomputable abbrev agv:Nat × Bool × (List AV→M AV):=(187,true,cx (aC aq (aC aq a0)) vz)
def g9 (n:Name):List ByteArray:=n.map fold
def bj (n:Name):Prop:=bw n≤16777216
instance (n:Name):Decidable (bj n):=inferInstanceAs (Decidable (_≤_))
theorem aiu {n:Name} {s:ByteArray} (h:s ∈ n):s.size<bw n:=by
 obtain ⟨a,b,rfl⟩:=List.append_of_mem h
 have h1:=kb a ([s]++b)
 have h2:=kb [s] b
 have h3:bw [s]=s.size+2:=by simp [bw];omega
 have h4:∀ l:Name,1≤bw l:=fun l=>by have:=(j7 l 0).2;omega
 have:=h4 a;have:=h4 b
 simp only [List.singleton_append] at h1 h2
 omega
theorem bj.label {n:Name} (h:bj n):∀ s ∈ n,s.size≤16777216:=fun s hs=>by have:=aiu hs;unfold bj at h;omega
theorem bj.len {n:Name} (h:bj n):n.length<17592186044416:=by have:=(j7 n 0).2;unfold bj at h;omega
theorem Wp:∀ r q:List ByteArray,kz r q≤q.length
 | [],q=>by simp [kz]
 |a::r,[]=>by simp [kz]
 |a::r,b::q=>by
  have:=Wp r q
  simp only [kz,List.length_cons]
  split<;>omega
theorem Pr:∀ r q:List ByteArray,kz r q≤r.length
 | [],q=>by simp [kz]
 |a::r,[]=>by simp [kz]
 |a::r,b::q=>by
  have:=Pr r q
  simp only [kz,List.length_cons]
  split<;>omega
theorem S0:∀ r q:List ByteArray,kz r q=q.length↔q.map fold <+: r.map fold
 | [],[]=>by simp [kz]
 |a::r,[]=>by simp [kz]
 | [],b::q=>by simp [kz]
 |a::r,b::q=>by
  have:=S0 r q
  simp only [kz,List.length_cons,List.map_cons,List.cons_prefix_cons]
  by_cases h:fold a=fold b
  ·rw [if_pos h]
   constructor
   ·intro h1;exact ⟨h.symm,this.1 (by omega)⟩
   ·intro h1;have:=this.2 h1.2;omega
  ·rw [if_neg h]
   constructor
   ·intro h1;omega
   ·intro h1;exact (h h1.1.symm).elim
theorem Fy (n top:Name):common n top=top.length↔g9 top <:+ g9 n:=by
 unfold common g9
 rw [← List.length_reverse,S0,List.map_reverse,List.map_reverse,List.reverse_prefix]
theorem Rs (a b:Name):(a.length=b.length∧common a b=a.length)↔g9 a=g9 b:=by
 constructor
 ·rintro ⟨h1,h2⟩
  rw [h1] at h2
  have:=(Fy a b).1 h2
  exact (this.eq_of_length (by simp [g9,h1])).symm
 ·intro h
  have hl:a.length=b.length:=by have:=congrArg List.length h;simpa [g9] using this
  refine ⟨hl,?_⟩
  rw [hl]
  exact (Fy a b).2 (by rw [h];exact List.suffix_refl _)
def fi (a b:Name):Bool:=decide (g9 a=g9 b)
def dr (n top:Name):Bool:=decide (g9 top <:+ g9 n)
noncomputable def rh (x:Name × Name × Unit):Option AV:=if bj x.1∧bj x.2.1 then some ((r1 (ay .i64)).E true ((common x.1 x.2.1:Int))) else none
set_option maxRecDepth 2000000 in
theorem A2 (x:Name × Name × Unit) (r:AV) (h:rh x=some r):bc PP 53 ((aC aw (aC aw a0)).E x) r:=by
 by_cases hc:bj x.1∧bj x.2.1
 case neg=>simp only [rh,if_neg hc] at h;cases h
 simp only [rh,if_pos hc] at h
 cases h
 exact ba (aj.cons (ai Yw) (aj.nil PP)) Tryz.func53 (by kernel_rfl) (by kernel_rfl) (by kernel_rfl) (Nat.le_of_ble_eq_true (by kernel_rfl)) (r1 (ay .i64)) true ((common x.1 x.2.1:Int)) (ac0 x.1 x.2.1 hc.1.label hc.2.label hc.1.len hc.2.len)
noncomputable abbrev Kh:Nat × Bool × (List AV→M AV):=(53,true,cx (aC aw (aC aw a0)) rh)
theorem agf (n top:Name) (hn:bj n) (ht:bj top):wl PP [Kh] 0 (Tryz.f19.body.getD .skip) (dj PP Tryz.f19.results.toList (fun r st=>(r1 bn).get true st.h r=some (dr n top))) (b9 0 [aw.val false n,aw.val false top]) (bq []):=by
 unfold Tryz.f19
 simp only [dm]
 simp only [↓wR,RA,simprocAttr,TF,rh,hn,ht]
 congr 1
 unfold dr
 have:=Fy n top
 rw [Bool.eq_iff_iff];simp [← this];omega
noncomputable def mn (x:Name × Name × Unit):Option AV:=if bj x.1∧bj x.2.1 then some ((r1 bn).E true (dr x.1 x.2.1)) else none
set_option maxRecDepth 2000000 in
theorem nj (x:Name × Name × Unit) (r:AV) (h:mn x=some r):bc PP 19 ((aC aw (aC aw a0)).E x) r:=by
 by_cases hc:bj x.1∧bj x.2.1
 case neg=>simp only [mn,if_neg hc] at h;cases h
 simp only [mn,if_pos hc] at h
 cases h
 exact ba (aj.cons (ai A2) (aj.nil PP)) Tryz.func19 (by kernel_rfl) (by kernel_rfl) (by kernel_rfl) (Nat.le_of_ble_eq_true (by kernel_rfl)) (r1 bn) true (dr x.1 x.2.1) (agf x.1 x.2.1 hc.1 hc.2)
noncomputable abbrev uv:Nat × Bool × (List AV→M AV):=(19,true,cx (aC aw (aC aw a0)) mn)
theorem akn (n top:Name) (hn:bj n) (ht:bj top):wl PP [Kh] 0 (Tryz.f24.body.getD .skip) (dj PP Tryz.f24.results.toList (fun r st=>(r1 bn).get true st.h r=some (fi n top))) (b9 0 [aw.val false n,aw.val false top]) (bq []):=by
 unfold Tryz.f24
 simp only [dm]
 simp only [↓wR,RA,simprocAttr,TF,rh,hn,ht]
 rw [br];refine ⟨fun h=>?_,fun h=>?_⟩
 ·have hl:n.length=top.length:=by simp at h;omega
  simp only [↓wR,RA,simprocAttr,TF,h,rh,hn,ht]
  congr 1
  unfold fi
  have:=Rs n top
  rw [Bool.eq_iff_iff];simp [← this,hl];omega
 ·have hl:¬ n.length=top.length:=by simp at h;omega
  simp only [↓wR,RA,simprocAttr,TF,h]
  have:=Rs n top
  simp [fi,← this,hl]
noncomputable def jc (x:Name × Name × Unit):Option AV:=if bj x.1∧bj x.2.1 then some ((r1 bn).E true (fi x.1 x.2.1)) else none
set_option maxRecDepth 2000000 in
theorem gi (x:Name × Name × Unit) (r:AV) (h:jc x=some r):bc PP 24 ((aC aw (aC aw a0)).E x) r:=by
 by_cases hc:bj x.1∧bj x.2.1
 case neg=>simp only [jc,if_neg hc] at h;cases h
 simp only [jc,if_pos hc] at h
 cases h
 exact ba (aj.cons (ai A2) (aj.nil PP)) Tryz.func24 (by kernel_rfl) (by kernel_rfl) (by kernel_rfl) (Nat.le_of_ble_eq_true (by kernel_rfl)) (r1 bn) true (fi x.1 x.2.1) (akn x.1 x.2.1 hc.1 hc.2)
noncomputable abbrev dx:Nat × Bool × (List AV→M AV):=(24,true,cx (aC aw (aC aw a0)) jc)
noncomputable def azg (a b:Name) (k:Nat):Int:=
 match a[a.length - 1 - k]?,b[b.length - 1 - k]? with
 |some x,some y=>Pg (fold x) (fold y)
 |_,_=>0
noncomputable def afz (a b:Name):Int:=
 if common a b=a.length∧common a b=b.length then 0 else if common a b=a.length then -1 else if common a b=b.length then 1 else azg a b (common a b)
theorem Zh (a b:Name) (ha:bj a) (hb:bj b):wl PP [Kh,agv] 0 (Tryz.f169.body.getD .skip) (dj PP Tryz.f169.results.toList (fun r st=>(r1 (ay .i64)).get true st.h r=some (afz a b))) (b9 0 [aw.val false a,aw.val false b]) (bq []):=by
 unfold Tryz.f169
 simp only [dm]
 simp only [↓wR,RA,simprocAttr,TF,rh,ha,hb]
 have h1:=Pr a.reverse b.reverse
 have h2:=Wp a.reverse b.reverse
 rw [List.length_reverse] at h1 h2
 change common a b≤a.length at h1
 change common a b≤b.length at h2
 obtain ⟨k,hk⟩:∃ k,common a b=k:=⟨_,rfl⟩
 rw [hk] at h1 h2
 unfold afz
 rw [hk]
 rw [br];refine ⟨fun h=>?_,fun h=>?_⟩
 ·simp only [↓wR,RA,simprocAttr,TF,h]
  have hka:k=a.length:=by simp at h;omega
  rw [br];refine ⟨fun h3=>?_,fun h3=>?_⟩
  ·have hkb:k=b.length:=by simp at h3;omega
   simp only [↓wR,RA,simprocAttr,TF,h3]
   rw [if_pos ⟨hka,hkb⟩]
  ·have hkb:¬ k=b.length:=by simp at h3;omega
   simp only [↓wR,RA,simprocAttr,TF,h3,h]
   rw [if_neg (fun e=>hkb e.2),if_pos hka]
 ·simp only [↓wR,RA,simprocAttr,TF,h]
  have hka:¬ k=a.length:=by simp at h;omega
  rw [br];refine ⟨fun h3=>?_,fun h3=>?_⟩
  ·have hkb:k=b.length:=by simp at h3;omega
   simp only [↓wR,RA,simprocAttr,TF,h3]
   rw [if_neg (fun e=>hka e.1),if_neg hka,if_pos hkb]
  ·have hkb:¬ k=b.length:=by simp at h3;omega
   rw [if_neg (fun e=>hka e.1),if_neg hka,if_neg hkb]
   obtain ⟨x,hx⟩:∃ x,a[a.length - 1 - k]? = some x:=⟨_,List.getElem?_eq_getElem (by omega)⟩
   obtain ⟨y,hy⟩:∃ y,b[b.length - 1 - k]? = some y:=⟨_,List.getElem?_eq_getElem (by omega)⟩
   simp only [↓wR,RA,simprocAttr,TF,h3]
   refine ⟨by kernel_rfl,.inl ?_⟩
   have la:=ha.len
   have lb:=hb.len
   simp (disch:=omega) only [ah,cb,cd,cg,cf]
   have e1:(((a.length:Int) - 1) - k).toNat=a.length - 1 - k:=by omega
   have e2:(0:Int)≤((a.length:Int) - 1) - k:=by omega
   have e3:(((b.length:Int) - 1) - k).toNat=b.length - 1 - k:=by omega
   have e4:(0:Int)≤((b.length:Int) - 1) - k:=by omega
   simp only [↓wR,RA,simprocAttr,TF,hx,e1,e2]
   simp (disch:=omega) only [ah,cb,cd,cg,cf]
   simp only [↓wR,RA,simprocAttr,TF,hy,e3,e4,vz,ha.label x (List.mem_of_getElem? hx),hb.label y (List.mem_of_getElem? hy)]
   exact ⟨by kernel_rfl,by simp [azg,hx,hy]⟩
noncomputable def xe (x:Name × Name × Unit):Option AV:=if bj x.1∧bj x.2.1 then some ((r1 (ay .i64)).E true (afz x.1 x.2.1)) else none
set_option maxRecDepth 2000000 in
theorem Th (x:Name × Name × Unit) (r:AV) (h:xe x=some r):bc PP 169 ((aC aw (aC aw a0)).E x) r:=by
 by_cases hc:bj x.1∧bj x.2.1
 case neg=>simp only [xe,if_neg hc] at h;cases h
 simp only [xe,if_pos hc] at h
 cases h
 exact ba (aj.cons (ai A2) (aj.cons (ai Qu) (aj.nil PP))) Tryz.func169 (by kernel_rfl) (by kernel_rfl) (by kernel_rfl) (Nat.le_of_ble_eq_true (by kernel_rfl)) (r1 (ay .i64)) true (afz x.1 x.2.1) (Zh x.1 x.2.1 hc.1 hc.2)
noncomputable abbrev alf:Nat × Bool × (List AV→M AV):=(169,true,cx (aC aw (aC aw a0)) xe)
theorem bj.lt {n:Name} (h:bj n):n.length<16777216:=by have:=(j7 n 0).2;unfold bj at h;omega
theorem alc (n:Name) (hn:bj n):wl PP [] 0 (Tryz.f65.body.getD .skip) (dj PP Tryz.f65.results.toList (fun r st=>(r1 aw).get true st.h r=some n)) (b9 0 [aw.val false n]) (bq []):=by
 unfold Tryz.f65
 simp only [dm]
 have hlim:n.length * 16≤140737488355328:=by have:=hn.lt;omega
 simp only [↓wR,RA,simprocAttr,TF,hlim]
noncomputable def j8 (x:Name × Unit):Option AV:=if bj x.1 then some ((r1 aw).E true (x.1)) else none
set_option maxRecDepth 2000000 in
theorem ky (x:Name × Unit) (r:AV) (h:j8 x=some r):bc PP 65 ((aC aw a0).E x) r:=by
 by_cases hc:bj x.1
 case neg=>simp only [j8,if_neg hc] at h;cases h
 simp only [j8,if_pos hc] at h
 cases h
 exact ba (aj.nil PP) Tryz.func65 (by kernel_rfl) (by kernel_rfl) (by kernel_rfl) (Nat.le_of_ble_eq_true (by kernel_rfl)) (r1 aw) true (x.1) (alc x.1 hc)
noncomputable abbrev qf:Nat × Bool × (List AV→M AV):=(65,true,cx (aC aw a0) j8)
theorem aw0 {n:Name} {i:Nat} {c:ByteArray} (hc:n[i]? = some c):g9 (n.drop i)=fold c::g9 (n.drop (i+1)):=by rw [Kd hc];rfl
theorem akz (n:Name) (hn:bj n):wl PP [Nt] 0 (Tryz.f162.body.getD .skip) (dj PP Tryz.f162.results.toList (fun r st=>(r1 aw).get true st.h r=some (g9 n))) (b9 0 [aw.val false n]) (bq []):=by
 unfold Tryz.f162
 simp only [dm]
 have hln:=hn.lt
 simp only [↓wR,RA,simprocAttr,TF]
 refine ji [6,7,8,3] (fun (x:List ByteArray)=>[.vl false 1 (n.map (aq.val false)),.sc (.int .i64 n.length),.sc (.int .i64 x.length),.sl 0 0 x.length 1]) (fun x=>[some (.row (x.map (aq.val false)) 0 0 9)]) (fun x=>x++g9 (n.drop x.length)=g9 n∧x.length≤n.length) (fun x=>n.length - x.length) [] ⟨rfl,Nat.zero_le _⟩ (by simp only [↓wR,RA,simprocAttr,TF];(refine jt.lax [] (by first|exact Nat.le_of_ble_eq_true rfl|(simp [cw];omega)) ?_ ?_<;>repeat' first|exact fc.nil|exact c7.nil|exact gu.same _|exact gu.nil _ _ _|exact gu.se _ _|exact c7.refl _ _|apply fc.cons|apply c7.ghost|apply c7.same|apply c7.row)) ?_
 rintro x ⟨hR,hx⟩
 simp only [↓wR,RA,simprocAttr,TF]
 rw [br];refine ⟨fun h=>?_,fun h=>?_⟩
 ·obtain ⟨c,hc,hd,hlt⟩:=dv h
  have hlim:(x.length+1) * 16≤140737488355328:=by omega
  simp only [↓wR,RA,simprocAttr,TF,hc,vp,hn.label c (List.mem_of_getElem? hc),hlim]
  refine ⟨x++[fold c],⟨?_,by simp;omega⟩,by simp;omega,by (first|rfl|trivial|omega|((try (simp (disch:=omega) only [ah]));(try (simp only [FB]));first|done|rfl|omega)),by (first|rfl|trivial|omega|((try (simp (disch:=omega) only [ah]));(try (simp only [FB]));first|done|rfl|omega))⟩
  rw [← hR,aw0 hc];simp
 ·rw [dz h] at hR
  simp only [↓wR,RA,simprocAttr,TF,h]
  simpa [g9] using hR
noncomputable def Da (x:Name × Unit):Option AV:=if bj x.1 then some ((r1 aw).E true (g9 x.1)) else none
set_option maxRecDepth 2000000 in
theorem acp (x:Name × Unit) (r:AV) (h:Da x=some r):bc PP 162 ((aC aw a0).E x) r:=by
 by_cases hc:bj x.1
 case neg=>simp only [Da,if_neg hc] at h;cases h
 simp only [Da,if_pos hc] at h
 cases h
 exact ba (aj.cons (ai Ca) (aj.nil PP)) Tryz.func162 (by kernel_rfl) (by kernel_rfl) (by kernel_rfl) (Nat.le_of_ble_eq_true (by kernel_rfl)) (r1 aw) true (g9 x.1) (akz x.1 hc)
noncomputable abbrev avq:Nat × Bool × (List AV→M AV):=(162,true,cx (aC aw a0) Da)
theorem so {n:Name} (h:dt n=0):bw n≤255:=by
 unfold dt at h
 split at h
 ·cases h
 ·split at h
  ·cases h
  ·omega
theorem bj.fit {n:Name} (h:bj n):bw n<17592186044416:=by unfold bj at h;omega
theorem bj.drop {n:Name} (h:bj n) (i:Nat):bj (n.drop i):=by
 unfold bj at *
 have:=kb (n.take i) (n.drop i)
 rw [List.take_append_drop] at this
 have h1:=(j7 (n.take i) 0).2
 omega
def nr (n:Name):Name × Int:=if dt n≠0 then ([],dt n) else if n=[] then ([],9) else (n.tail,0)
theorem ac6 (n:Name) (hn:bj n):wl PP [en,qf] 0 (Tryz.f54.body.getD .skip) (dj PP Tryz.f54.results.toList (fun r st=>(r2 aw (ay .i64)).get true st.h r=some (nr n))) (b9 0 [aw.val false n]) (bq []):=by
 unfold Tryz.f54
 simp only [dm]
 simp only [↓wR,RA,simprocAttr,TF,mz,hn.fit]
 unfold nr
 rw [br];refine ⟨fun h=>?_,fun h=>?_⟩
 ·have he:dt n≠0:=by simpa using h
  simp only [↓wR,RA,simprocAttr,TF]
  rw [if_pos he]
 ·have he:dt n=0:=by simpa using h
  rw [if_neg (by omega)]
  simp only [↓wR,RA,simprocAttr,TF]
  rw [br];refine ⟨fun h2=>?_,fun h2=>?_⟩
  ·have hn0:n=[]:=by simpa using h2
   simp only [↓wR,RA,simprocAttr,TF]
   rw [if_pos hn0]
  ·have hn0:n≠[]:=by simpa using h2
   obtain ⟨a,m,rfl⟩:=List.exists_cons_of_ne_nil hn0
   rw [if_neg hn0]
   simp only [↓wR,RA,simprocAttr,TF]
   simp only [↓wR,RA,simprocAttr,TF,j8,show bj m from hn.drop 1]
   rfl
noncomputable def yn (x:Name × Unit):Option AV:=if bj x.1 then some ((r2 aw (ay .i64)).E true (nr x.1)) else none
set_option maxRecDepth 2000000 in
theorem Wz (x:Name × Unit) (r:AV) (h:yn x=some r):bc PP 54 ((aC aw a0).E x) r:=by
 by_cases hc:bj x.1
 case neg=>simp only [yn,if_neg hc] at h;cases h
 simp only [yn,if_pos hc] at h
 cases h
 exact ba (aj.cons (ai ld) (aj.cons (ai ky) (aj.nil PP))) Tryz.func54 (by kernel_rfl) (by kernel_rfl) (by kernel_rfl) (Nat.le_of_ble_eq_true (by kernel_rfl)) (r2 aw (ay .i64)) true (nr x.1) (ac6 x.1 hc)
noncomputable abbrev an0:Nat × Bool × (List AV→M AV):=(54,true,cx (aC aw a0) yn)
def vk:ByteArray:=⟨#[42]⟩
def n8 (s:ByteArray):List UInt8:=UInt8.ofNat s.size::s.data.toList
def nameBytes (n:Name):List UInt8:=n.flatMap n8++[0]
def yz (n:Name):List UInt8:=if dt n≠0 then [] else nameBytes n
theorem I8 (s):(n8 s).length=s.size+1:=by simp [n8]
theorem Mb (n:Name):(n.flatMap n8).length+1=bw n:=by
 induction n with
 |nil=>rfl
 |cons a l ih=>
  have:=kb [a] l
  have h3:bw [a]=a.size+2:=by simp [bw];omega
  simp only [List.singleton_append] at this
  simp only [List.flatMap_cons,List.length_append,I8]
  omega
theorem aeh (n:Name) (hn:bj n):wl PP [en] 0 (Tryz.f183.body.getD .skip) (dj PP Tryz.f183.results.toList (fun r st=>(r2 (ca cj) (ay .i64)).get true st.h r=some (yz n,dt n))) (b9 0 [aw.val false n]) (bq []):=by
 unfold Tryz.f183
 simp only [dm]
 have hln:=hn.lt
 simp only [↓wR,RA,simprocAttr,TF,mz,hn.fit]
 rw [br];refine ⟨fun h=>?_,fun h=>?_⟩
 ·have he:dt n≠0:=by simpa using h
  have hb:yz n=[]:=if_pos he
  simp only [↓wR,RA,simprocAttr,TF,hb]
 have he:dt n=0:=by simpa using h
 have hb:yz n=nameBytes n:=if_neg (by omega)
 rw [hb,he]
 simp only [↓wR,RA,simprocAttr,TF]
 refine ji [13,14,15,5] (fun (x:Nat × List UInt8)=>[.vl false 1 (n.map (aq.val false)),.sc (.int .i64 n.length),.sc (.int .i64 x.1),.sl 0 0 x.2.length 1]) (fun x=>[some (.row (x.2.map (cj.val false)) 0 0 5)]) (fun x=>x.2++(n.drop x.1).flatMap n8=n.flatMap n8∧x.1≤n.length) (fun x=>n.length - x.1) (0,[]) ⟨rfl,Nat.zero_le _⟩ (by simp only [↓wR,RA,simprocAttr,TF];(refine jt.lax [] (by first|exact Nat.le_of_ble_eq_true rfl|(simp [cw];omega)) ?_ ?_<;>repeat' first|exact fc.nil|exact c7.nil|exact gu.same _|exact gu.nil _ _ _|exact gu.se _ _|exact c7.refl _ _|apply fc.cons|apply c7.ghost|apply c7.same|apply c7.row)) ?_
 rintro ⟨i,x⟩ ⟨hR,hx⟩
 simp only at hR hx
 have hnb:=Mb n
 have hsm:=so he
 simp only [↓wR,RA,simprocAttr,TF]
 rw [br];refine ⟨fun h2=>?_,fun h2=>?_⟩
 ·obtain ⟨c,hc,hd,hlt⟩:=dv h2
  rw [hd,List.flatMap_cons] at hR
  have hl:x.length+(n8 c).length≤(n.flatMap n8).length:=by rw [← hR];simp
  rw [I8] at hl
  simp only [↓wR,RA,simprocAttr,TF,hc];repeat (simp (disch:=omega) only [ah,cb,cd,cg,cf];try simp only [↓wR,RA,simprocAttr,TF,hc])
  refine ⟨(i+1,x++n8 c),⟨by rw [← hR];simp,hlt⟩,by simp;omega,?_,by simp only [n8,List.map_append,List.map_cons,List.append_assoc,List.singleton_append,Hr]⟩
  simp only [List.cons.injEq,and_true,true_and,AV.sc.injEq,Value.int.injEq,AV.sl.injEq,n8,List.length_append,List.length_cons]
  refine ⟨by (try simp (disch:=omega) only [ah,cb,cd,cg,cf]);simp,by simp;omega⟩
 ·rw [dz h2] at hR
  have hl:x.length<bw n:=by rw [← hnb,← hR];simp
  simp only [↓wR,RA,simprocAttr,TF,h2];repeat (simp (disch:=omega) only [ah,cb,cd,cg,cf];try simp only [↓wR,RA,simprocAttr,TF,h2])
  simp only [nameBytes,← hR];simp
noncomputable def wm (x:Name × Unit):Option AV:=if bj x.1 then some ((r2 (ca cj) (ay .i64)).E true ((yz x.1,dt x.1))) else none
set_option maxRecDepth 2000000 in
theorem X4 (x:Name × Unit) (r:AV) (h:wm x=some r):bc PP 183 ((aC aw a0).E x) r:=by
 by_cases hc:bj x.1
 case neg=>simp only [wm,if_neg hc] at h;cases h
 simp only [wm,if_pos hc] at h
 cases h
 exact ba (aj.cons (ai ld) (aj.nil PP)) Tryz.func183 (by kernel_rfl) (by kernel_rfl) (by kernel_rfl) (Nat.le_of_ble_eq_true (by kernel_rfl)) (r2 (ca cj) (ay .i64)) true ((yz x.1,dt x.1)) (aeh x.1 hc)
noncomputable abbrev anw:Nat × Bool × (List AV→M AV):=(183,true,cx (aC aw a0) wm)
end Go.Proofs.YtajammoepjpiiaaGreat
end
section
namespace Go.Proofs.YtajammoepjpiiaaGreat
open Go.Vm
set_option maxRecDepth 2000000
theorem Kl {α:Type} {f : α→AV} {xs:List α} (h:xs≠[]) (op l sz p q):Fe op (.vl l sz (xs.map f)) (.sc (.slice none p q))=pf op false:=by
 cases xs with
 |nil=>exact (h rfl).elim
 |cons x xs=>rfl
def Oo (v:Value):Prop:=v = .slice none 0 0∨∃ a c,v = .slice (some a) 0 c
theorem Cl {f:Nat} {r:AV} {sz:Nat} (h:∀ v,Oo v→bc PP f [.sc v] r):bc PP f [.vl false sz []] r:=by
 intro K w vs hK hrel
 obtain ⟨v,rfl,hv⟩:=B2 hrel
 have hE:Oo v:=by
  cases hv with
  |vl=>exact .inr ⟨_,_,rfl⟩
  |kj=>exact .inl rfl
  |uy=>exact .inr ⟨_,_,rfl⟩
 exact h v hE K w [v] hK (bu.cons (.sc v) (bu.nil _ _))
theorem ak2 (l:List UInt32) (hne:l≠[]) (hl:l.length≤16777216):wl PP [] 0 (Tryz.f115.body.getD .skip) (dj PP Tryz.f115.results.toList (fun r st=>(r1 (ca bg)).get true st.h r=some l)) (b9 0 [(ca bg).val false l]) (bq []):=by
 unfold Tryz.f115
 rw [lu]
 have hb:l.length * 4≤140737488355328:=by omega
 simp only [↓wR,RA,simprocAttr,TF,Kl hne,hb]
theorem ah4 (v:Value) (hv:Oo v):wl PP [] 0 (Tryz.f115.body.getD .skip) (dj PP Tryz.f115.results.toList (fun r st=>(r1 (ca bg)).get true st.h r=some [])) (b9 0 [.sc v]) (bq []):=by
 unfold Tryz.f115
 rcases hv with rfl|⟨a,c,rfl⟩
 ·simp only [↓wR,RA,simprocAttr,TF]
 ·simp only [↓wR,RA,simprocAttr,TF]
noncomputable def z3 (x:List UInt32 × Unit):Option AV:=if x.1.length≤16777216 then some ((r1 (ca bg)).E true x.1) else none
theorem Mj (x:List UInt32 × Unit) (r:AV) (h:z3 x=some r):bc PP 115 ((aC (ca bg) a0).E x) r:=by
 by_cases hc:x.1.length≤16777216
 case neg=>simp only [z3,if_neg hc] at h;cases h
 simp only [z3,if_pos hc] at h
 cases h
 obtain ⟨l,⟨⟩⟩:=x
 by_cases hn:l=[]
 ·subst hn
  exact Cl (sz:=1) fun v hv=>ba (aj.nil PP) Tryz.func115 (by kernel_rfl) (by kernel_rfl) (by kernel_rfl) (Nat.le_of_ble_eq_true (by kernel_rfl)) (r1 (ca bg)) true [] (ah4 v hv)
 ·exact ba (aj.nil PP) Tryz.func115 (by kernel_rfl) (by kernel_rfl) (by kernel_rfl) (Nat.le_of_ble_eq_true (by kernel_rfl)) (r1 (ca bg)) true l (ak2 l hn hc)
noncomputable abbrev ajh:Nat × Bool × (List AV→M AV):=(115,true,cx (aC (ca bg) a0) z3)
theorem aj0 (l:List ByteArray) (hne:l≠[]) (hl:l.length≤16777216):wl PP [] 0 (Tryz.f116.body.getD .skip) (dj PP Tryz.f116.results.toList (fun r st=>(r1 (ca aq)).get true st.h r=some l)) (b9 0 [(ca aq).val false l]) (bq []):=by
 unfold Tryz.f116
 rw [lu]
 have hb:l.length * 16≤140737488355328:=by omega
 simp only [↓wR,RA,simprocAttr,TF,Kl hne,hb]
theorem ag2 (v:Value) (hv:Oo v):wl PP [] 0 (Tryz.f116.body.getD .skip) (dj PP Tryz.f116.results.toList (fun r st=>(r1 (ca aq)).get true st.h r=some [])) (b9 0 [.sc v]) (bq []):=by
 unfold Tryz.f116
 rcases hv with rfl|⟨a,c,rfl⟩
 ·simp only [↓wR,RA,simprocAttr,TF]
 ·simp only [↓wR,RA,simprocAttr,TF]
noncomputable def zx (x:List ByteArray × Unit):Option AV:=if x.1.length≤16777216 then some ((r1 (ca aq)).E true x.1) else none
theorem Me (x:List ByteArray × Unit) (r:AV) (h:zx x=some r):bc PP 116 ((aC (ca aq) a0).E x) r:=by
 by_cases hc:x.1.length≤16777216
 case neg=>simp only [zx,if_neg hc] at h;cases h
 simp only [zx,if_pos hc] at h
 cases h
 obtain ⟨l,⟨⟩⟩:=x
 by_cases hn:l=[]
 ·subst hn
  exact Cl (sz:=1) fun v hv=>ba (aj.nil PP) Tryz.func116 (by kernel_rfl) (by kernel_rfl) (by kernel_rfl) (Nat.le_of_ble_eq_true (by kernel_rfl)) (r1 (ca aq)) true [] (ag2 v hv)
 ·exact ba (aj.nil PP) Tryz.func116 (by kernel_rfl) (by kernel_rfl) (by kernel_rfl) (Nat.le_of_ble_eq_true (by kernel_rfl)) (r1 (ca aq)) true l (aj0 l hn hc)
noncomputable abbrev ai7:Nat × Bool × (List AV→M AV):=(116,true,cx (aC (ca aq) a0) zx)
theorem aok (l:List UInt8) (hne:l≠[]) (hl:l.length≤16777216):wl PP [] 0 (Tryz.f117.body.getD .skip) (dj PP Tryz.f117.results.toList (fun r st=>(r1 (ca cj)).get true st.h r=some l)) (b9 0 [(ca cj).val false l]) (bq []):=by
 unfold Tryz.f117
 rw [lu]
 have hb:l.length≤140737488355328:=by omega
 simp only [↓wR,RA,simprocAttr,TF,Kl hne,hb]
theorem ak1 (v:Value) (hv:Oo v):wl PP [] 0 (Tryz.f117.body.getD .skip) (dj PP Tryz.f117.results.toList (fun r st=>(r1 (ca cj)).get true st.h r=some [])) (b9 0 [.sc v]) (bq []):=by
 unfold Tryz.f117
 rcases hv with rfl|⟨a,c,rfl⟩
 ·simp only [↓wR,RA,simprocAttr,TF]
 ·simp only [↓wR,RA,simprocAttr,TF]
noncomputable def Bo (x:List UInt8 × Unit):Option AV:=if x.1.length≤16777216 then some ((r1 (ca cj)).E true x.1) else none
theorem Nr (x:List UInt8 × Unit) (r:AV) (h:Bo x=some r):bc PP 117 ((aC (ca cj) a0).E x) r:=by
 by_cases hc:x.1.length≤16777216
 case neg=>simp only [Bo,if_neg hc] at h;cases h
 simp only [Bo,if_pos hc] at h
 cases h
 obtain ⟨l,⟨⟩⟩:=x
 by_cases hn:l=[]
 ·subst hn
  exact Cl (sz:=1) fun v hv=>ba (aj.nil PP) Tryz.func117 (by kernel_rfl) (by kernel_rfl) (by kernel_rfl) (Nat.le_of_ble_eq_true (by kernel_rfl)) (r1 (ca cj)) true [] (ak1 v hv)
 ·exact ba (aj.nil PP) Tryz.func117 (by kernel_rfl) (by kernel_rfl) (by kernel_rfl) (Nat.le_of_ble_eq_true (by kernel_rfl)) (r1 (ca cj)) true l (aok l hn hc)
noncomputable abbrev alk:Nat × Bool × (List AV→M AV):=(117,true,cx (aC (ca cj) a0) Bo)
structure Shape where
 names:Int
 nums:Int
 size:Int
 texts:Int
 raw:Int
noncomputable def u7:dn Shape:=vv (iz (ay .i64) (iz (ay .i64) (iz (ay .i64) (iz (ay .i64) (ay .i64))))) (fun s=>(s.names,s.nums,s.size,s.texts,s.raw)) (fun p=>⟨p.1,p.2.1,p.2.2.1,p.2.2.2.1,p.2.2.2.2⟩) (fun _=>rfl) (fun _=>rfl)
theorem Fs (l:Bool) (s:Shape):u7.val l s = .agg [.sc (.int .i64 s.names),.sc (.int .i64 s.nums),.sc (.int .i64 s.size),.sc (.int .i64 s.texts),.sc (.int .i64 s.raw)]:=id rfl
theorem kn (fr h) (a b c d e:Int):u7.fw fr h (.agg [.sc (.int .i64 a),.sc (.int .i64 b),.sc (.int .i64 c),.sc (.int .i64 d),.sc (.int .i64 e)])=some ⟨a,b,c,d,e⟩:=aGy u7 fr h ⟨a,b,c,d,e⟩
def jm (t:UInt16):Shape:=
 if (t.toNat:Int)=1 then ⟨0,0,0,0,4⟩ else if (t.toNat:Int)=28 then ⟨0,0,0,0,16⟩ else if (t.toNat:Int)=2 then ⟨1,0,0,0,0⟩ else if (t.toNat:Int)=5 then ⟨1,0,0,0,0⟩ else if (t.toNat:Int)=12 then ⟨1,0,0,0,0⟩
 else if (t.toNat:Int)=6 then ⟨2,5,4,0,0⟩ else if (t.toNat:Int)=15 then ⟨1,1,2,0,0⟩ else if (t.toNat:Int)=33 then ⟨1,3,2,0,0⟩ else if (t.toNat:Int)=16 then ⟨0,0,0,-1,0⟩ else if (t.toNat:Int)=257 then ⟨0,1,1,2,0⟩ else ⟨0,0,0,0,-1⟩
theorem asf (t:UInt16):wl PP [] 0 (Tryz.f159.body.getD .skip) (dj PP Tryz.f159.results.toList (fun r st=>(r1 u7).get true st.h r=some (jm t))) (b9 0 [da.val false t]) (bq []):=by
 unfold Tryz.f159
 unfold jm
 simp only [↓wR,RA,simprocAttr,TF]
 rw [c9];refine ⟨fun ⟨h0,e0⟩=>?_,fun ⟨h0,e0⟩=>?_⟩
 ·simp only [↓wR,RA,simprocAttr,TF,h0]
  rw [if_pos e0]
  exact kn ..
 rw [if_neg e0]
 simp only [↓wR,RA,simprocAttr,TF,h0]
 rw [c9];refine ⟨fun ⟨h1,e1⟩=>?_,fun ⟨h1,e1⟩=>?_⟩
 ·simp only [↓wR,RA,simprocAttr,TF,h1]
  rw [if_pos e1]
  exact kn ..
 rw [if_neg e1]
 simp only [↓wR,RA,simprocAttr,TF,h1]
 rw [c9];refine ⟨fun ⟨h2,e2⟩=>?_,fun ⟨h2,e2⟩=>?_⟩
 ·simp only [↓wR,RA,simprocAttr,TF,h2]
  rw [if_pos e2]
  exact kn ..
 rw [if_neg e2]
 simp only [↓wR,RA,simprocAttr,TF,h2]
 rw [c9];refine ⟨fun ⟨h3,e3⟩=>?_,fun ⟨h3,e3⟩=>?_⟩
 ·simp only [↓wR,RA,simprocAttr,TF,h3]
  rw [if_pos e3]
  exact kn ..
 rw [if_neg e3]
 simp only [↓wR,RA,simprocAttr,TF,h3]
 rw [c9];refine ⟨fun ⟨h4,e4⟩=>?_,fun ⟨h4,e4⟩=>?_⟩
 ·simp only [↓wR,RA,simprocAttr,TF,h4]
  rw [if_pos e4]
  exact kn ..
 rw [if_neg e4]
 simp only [↓wR,RA,simprocAttr,TF,h4]
 rw [c9];refine ⟨fun ⟨h5,e5⟩=>?_,fun ⟨h5,e5⟩=>?_⟩
 ·simp only [↓wR,RA,simprocAttr,TF,h5]
  rw [if_pos e5]
  exact kn ..
 rw [if_neg e5]
 simp only [↓wR,RA,simprocAttr,TF,h5]
 rw [c9];refine ⟨fun ⟨h6,e6⟩=>?_,fun ⟨h6,e6⟩=>?_⟩
 ·simp only [↓wR,RA,simprocAttr,TF,h6]
  rw [if_pos e6]
  exact kn ..
 rw [if_neg e6]
 simp only [↓wR,RA,simprocAttr,TF,h6]
 rw [c9];refine ⟨fun ⟨h7,e7⟩=>?_,fun ⟨h7,e7⟩=>?_⟩
 ·simp only [↓wR,RA,simprocAttr,TF,h7]
  rw [if_pos e7]
  exact kn ..
 rw [if_neg e7]
 simp only [↓wR,RA,simprocAttr,TF,h7]
 rw [c9];refine ⟨fun ⟨h8,e8⟩=>?_,fun ⟨h8,e8⟩=>?_⟩
 ·simp only [↓wR,RA,simprocAttr,TF,h8]
  rw [if_pos e8]
  exact kn ..
 rw [if_neg e8]
 simp only [↓wR,RA,simprocAttr,TF,h8]
 rw [c9];refine ⟨fun ⟨h9,e9⟩=>?_,fun ⟨h9,e9⟩=>?_⟩
 ·simp only [↓wR,RA,simprocAttr,TF,h9]
  rw [if_pos e9]
  exact kn ..
 rw [if_neg e9]
 simp only [↓wR,RA,simprocAttr,TF,h9]
 exact kn ..
noncomputable def Fo (x:UInt16 × Unit):Option AV:=some ((r1 u7).E true (jm x.1))
set_option maxRecDepth 2000000 in
theorem Gf (x:UInt16 × Unit) (r:AV) (h:Fo x=some r):bc PP 159 ((aC da a0).E x) r:=by
 cases h
 exact ba (aj.nil PP) Tryz.func159 (by kernel_rfl) (by kernel_rfl) (by kernel_rfl) (Nat.le_of_ble_eq_true (by kernel_rfl)) (r1 u7) true (jm x.1) (asf x.1)
noncomputable abbrev Yz:Nat × Bool × (List AV→M AV):=(159,true,cx (aC da a0) Fo)
def I3 (t:UInt16):Bool:=(t.toNat:Int) == 0 || (decide ((128:Int)≤(t.toNat:Int)) && decide ((t.toNat:Int)≤255))
theorem ats (t:UInt16):wl PP [] 0 (Tryz.f158.body.getD .skip) (dj PP Tryz.f158.results.toList (fun r st=>(r1 bn).get true st.h r=some (I3 t))) (b9 0 [da.val false t]) (bq []):=by
 unfold Tryz.f158
 unfold I3
 simp only [↓wR,RA,simprocAttr,TF]
 rw [c9];refine ⟨fun ⟨h,e⟩=>?_,fun ⟨h,e⟩=>?_⟩
 ·simp only [↓wR,RA,simprocAttr,TF,h]
 ·simp only [↓wR,RA,simprocAttr,TF,h]
  rw [bm];refine ⟨fun h2=>?_,fun h2=>?_⟩
  ·simp only [↓wR,RA,simprocAttr,TF,h2]
  ·simp only [↓wR,RA,simprocAttr,TF,h2]
   rfl
noncomputable def Yr (x:UInt16 × Unit):Option AV:=some ((r1 bn).E true (I3 x.1))
set_option maxRecDepth 2000000 in
theorem alb (x:UInt16 × Unit) (r:AV) (h:Yr x=some r):bc PP 158 ((aC da a0).E x) r:=by
 cases h
 exact ba (aj.nil PP) Tryz.func158 (by kernel_rfl) (by kernel_rfl) (by kernel_rfl) (Nat.le_of_ble_eq_true (by kernel_rfl)) (r1 bn) true (I3 x.1) (ats x.1)
noncomputable abbrev aDm:Nat × Bool × (List AV→M AV):=(158,true,cx (aC da a0) Yr)
noncomputable def Hh (n:UInt32):List UInt8:=[UInt8.ofNat (n.toNat / 16777216),UInt8.ofNat (n.toNat / 65536),UInt8.ofNat (n.toNat / 256),UInt8.ofNat n.toNat]
theorem avu (n:UInt32):wl PP [] 0 (Tryz.f182.body.getD .skip) (dj PP Tryz.f182.results.toList (fun r st=>(r1 (ca cj)).get true st.h r=some (Hh n))) (b9 0 [bg.val false n]) (bq []):=by
 unfold Tryz.f182
 simp only [↓wR,RA,simprocAttr,TF]
 rfl
noncomputable def Qq (x:UInt32 × Unit):Option AV:=some ((r1 (ca cj)).E true (Hh x.1))
set_option maxRecDepth 2000000 in
theorem aj7 (x:UInt32 × Unit) (r:AV) (h:Qq x=some r):bc PP 182 ((aC bg a0).E x) r:=by
 cases h
 exact ba (aj.nil PP) Tryz.func182 (by kernel_rfl) (by kernel_rfl) (by kernel_rfl) (Nat.le_of_ble_eq_true (by kernel_rfl)) (r1 (ca cj)) true (Hh x.1) (avu x.1)
noncomputable abbrev aD9:Nat × Bool × (List AV→M AV):=(182,true,cx (aC bg a0) Qq)
def Tv (c:UInt8):Bool:=decide (97≤c.toNat∧c.toNat≤122∨65≤c.toNat∧c.toNat≤90∨48≤c.toNat∧c.toNat≤57)
def On (s:ByteArray):Bool:=s.data.toList.all Tv && decide (1≤s.size∧s.size≤15)
theorem aCj (s:ByteArray) (hs:s.size≤16777216):wl PP [] 0 (Tryz.f179.body.getD .skip) (dj PP Tryz.f179.results.toList (fun r st=>(r1 bn).get true st.h r=some (On s))) (b9 0 [aq.val false s]) (bq []):=by
 unfold Tryz.f179
 simp only [↓wR,RA,simprocAttr,TF]
 refine di [0,6,7] (fun (i:Nat)=>[.sc (.string s),.sc (.int .i64 s.size),.sc (.int .i64 i)]) (fun _=>[]) (fun i=>i≤s.size∧s.data.toList.all Tv=(s.data.toList.drop i).all Tv) (fun i=>s.size - i) 0 ⟨Nat.zero_le _,rfl⟩ ?_ ?_ ?_
 ·simp only [↓wR,RA,simprocAttr,TF]<;>rfl
 ·simp only [↓wR,RA,simprocAttr,TF]
 rintro i ⟨hi,hR⟩
 simp only [↓wR,RA,simprocAttr,TF]
 rw [bm];refine ⟨fun h=>?_,fun h=>?_⟩
 ·obtain ⟨c,hc⟩:∃ c,s.data.toList[i]? = some c:=⟨_,List.getElem?_eq_getElem (by simp;omega)⟩
  have hd:=Kd hc
  rw [hd,List.all_cons] at hR
  simp only [↓wR,RA,simprocAttr,TF,h,hc];repeat (simp (disch:=omega) only [ah,cb,cd,cg,cf];try simp only [↓wR,RA,simprocAttr,TF,h,hc])
  repeat' (rw [bm];refine ⟨fun h=>?_,fun h=>?_⟩<;>simp only [↓wR,RA,simprocAttr,TF,h,hc])
  all_goals first
   |(
    have ht:Tv c=false:=by (unfold Tv;rw [decide_eq_false_iff_not];omega)
    rw [On,hR,ht];rfl)
   |(
    have ht:Tv c=true:=by (unfold Tv;rw [decide_eq_true_eq];omega)
    refine ⟨i+1,⟨by omega,by rw [hR,ht];simp⟩,by omega,by (first|rfl|trivial|omega|((try (simp (disch:=omega) only [ah]));(try (simp only [FB]));first|done|rfl|omega))⟩)
 ·have hdn:s.data.toList.drop i=[]:=List.drop_eq_nil_of_le (by simp;omega)
  rw [hdn,List.all_nil] at hR
  simp only [↓wR,RA,simprocAttr,TF,h]
  unfold On
  rw [hR]
  rw [bm];refine ⟨fun h1=>?_,fun h1=>?_⟩
  ·simp only [↓wR,RA,simprocAttr,TF,h1]
   congr 1
   rw [Bool.eq_iff_iff];simp;omega
  ·simp only [↓wR,RA,simprocAttr,TF,h1]
   congr 1
   rw [Bool.eq_iff_iff];simp;omega
noncomputable def V1 (x:ByteArray × Unit):Option AV:=if x.1.size≤16777216 then some ((r1 bn).E true (On x.1)) else none
set_option maxRecDepth 2000000 in
theorem asd (x:ByteArray × Unit) (r:AV) (h:V1 x=some r):bc PP 179 ((aC aq a0).E x) r:=by
 by_cases hc:x.1.size≤16777216
 case neg=>simp only [V1,if_neg hc] at h;cases h
 simp only [V1,if_pos hc] at h
 cases h
 exact ba (aj.nil PP) Tryz.func179 (by kernel_rfl) (by kernel_rfl) (by kernel_rfl) (Nat.le_of_ble_eq_true (by kernel_rfl)) (r1 bn) true (On x.1) (aCj x.1 hc)
noncomputable abbrev aG8:Nat × Bool × (List AV→M AV):=(179,true,cx (aC aq a0) V1)
end Go.Proofs.YtajammoepjpiiaaGreat
end
