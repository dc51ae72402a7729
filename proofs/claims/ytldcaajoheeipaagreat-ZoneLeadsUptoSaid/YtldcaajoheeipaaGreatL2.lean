/- A piece of the proof. Proved: where the arguments are together of bulk at most 1048576, the law ZoneLeads returns true (a set put in and taken out), and what it was given reads afterwards as it did before. No other conditions. -/
import Derived.WalkKit
import Derived.CallsIn
import Derived.RangeFuncIn
import Derived.RangeFuncLeaves
import Derived.Orders
import Derived.OrdersIn
import Derived.Scope
import Derived.RangeFuncOwn
import Derived.Stop.SameAnswer
import Derived.Laws.Externs
import Derived.Lib.Bytealg
import Derived.ProofKit
import Derived.OpenShut
import Derived.ReadAgain
import Derived.Deep.Slices
import Derived.ChangeSame
import Derived.Test.YtldcaajoheeipaaGreatProg
import Derived.KernelRfl
import Derived.Test.YtldcaajoheeipaaGreatRows
import Derived.Maps.RangeRun
import Derived.JoinedCond
import Derived.Test.YtldcaajoheeipaaGreatL1
set_option linter.unusedSimpArgs false
set_option linter.unusedVariables false
namespace Go.Vm
noncomputable section
structure Bw (w w':World):Prop where
 size:w.heap.size≤w'.heap.size
 heap:∀ b,b<w.heap.size→w'.heap[b]? = w.heap[b]?
 os:w'.os=w.os
 tape:w'.tape=w.tape
 output:w'.output=w.output
def ah0 (K:Nat→Nat→Prop) (w w':World):Nat→Nat→Prop:=fun b j=>K b j∨(w.heap.size≤b∧b<w'.heap.size)
def ael (P:Program) (f:Nat) (vs:List Value) (w:World) (X:Value→World→Prop):Prop:=
 (∃ v,(callFunc f vs.toArray).run P w = .ok (.value v) w∧X v w) ∨
 ((callFunc f vs.toArray).run P w = .ok (.enter f vs.toArray) w∧Calls P f vs.toArray w (fun e w'=>∃ v,e = .returned v∧X v w'))
def br (P:Program) (f:Nat) (args:List AV) (r:AV):Prop:=
 ∀ (K:Nat→Nat→Prop) (w:World) (vs:List Value),(∀ b j,K b j→b<w.heap.size)→bm (gK w.heap.size K) w args vs →
  ael P f vs w (fun v w'=>Bw w w'∧Rel (gK w.heap.size (ah0 K w w')) w' r v)
theorem Tz {P:Program} {g w nt} {L:SL} {tmps:Array Value} {st:St} (hok:Ok g st.h w) (hs:dw g w nt L tmps):∀ (rs:List ResultVar) (l:List AV),qb P L st rs=some l →
 ∃ vs,(rs.mapM (uw tmps)).run P w = .ok vs w∧bm g w l vs:=by
 intro rs
 induction rs with
 |nil=>intro l h;simp [qb] at h;subst h;exact ⟨[],by simp,bm.nil _ _⟩
 |cons r rs ih=>
  intro l h
  cases r with
  |tmp t=>
   simp only [qb,Option.map_eq_some_iff] at h
   obtain ⟨l',h1,rfl⟩:=h
   obtain ⟨vs,h2,h3⟩:=ih l' h1
   refine ⟨tmps.getD t undef::vs,?_,bm.cons (hs.2 t) h3⟩
   simp only [List.mapM_cons,Sem.run_bind,uw,Sem.run_pure,Result.andThen_ok,h2]
  |cell c t=>
   simp only [qb] at h
   split at h
   ·rename_i v st' hl
    rw [Option.map_eq_some_iff] at h
    obtain ⟨l',h1,rfl⟩:=h
    obtain ⟨vs,h2,h3⟩:=ih l' h1
    have hrel:=hs.2 c
    have hptr:∃ ad,tmps.getD c undef = .pointer (some ad):=by
     generalize lk L c=x at hrel hl
     generalize tmps.getD c undef=v at hrel
     cases hrel<;>first|exact ⟨_,rfl⟩|cases hl
    obtain ⟨ad,had⟩:=hptr
    obtain ⟨u,h4,h5⟩:=aid (P:=P) hok hrel hl had
    refine ⟨u::vs,?_,bm.cons h5 h3⟩
    have h6:(uw tmps (.cell c t)).run P w = .ok u w:=by simp [uw,had,asAddr,h4]
    simp only [List.mapM_cons,Sem.run_bind,h6,Result.andThen_ok,h2]
    rfl
   ·cases h
theorem Tt {P:Program} {g w} {fn:Func} {tmps:Array Value} {l:List AV} {vs:List Value} (h:(fn.results.toList.mapM (uw tmps)).run P w = .ok vs w) (q4:bm g w l vs) :
 ∃ v,(results fn tmps).run P w = .ok v w∧Rel g w (pack l) v:=by
 have hmap:(fn.results.mapM (uw tmps)).run P w = .ok vs.toArray w:=by
  rw [Array.mapM_eq_mapM_toList]
  simp [h]
 rw [aiy]
 simp only [Sem.run_bind,hmap,Result.andThen_ok,Sem.run_pure]
 refine ⟨_,rfl,?_⟩
 match l,vs,q4 with
 | [a1],[v1],q4=>simpa [pack] using q4.head
 | [],[],q4=>simp [pack];exact .ea _ _ rfl (fun i a v h _=>by simp at h)
 |a1::a2::l,v1::v2::vs,q4=>
  simp [pack]
  exact .ea _ _ (by have:=q4.1;simp at this ⊢;omega) (fun i a v h1 h2=>q4.2 i a v h1 (by simpa using h2))
 | [],v::vs,q4=>have:=q4.1;simp at this
 |a::l,[],q4=>have:=q4.1;simp at this
 | [a1],v1::v2::vs,q4=>have:=q4.1;simp at this
 |a1::a2::l,[v1],q4=>have:=q4.1;simp at this
theorem Tv {P:Program} {T:dx} (hT:an P T) (hm:P.follows .mixedOrders=true) {f:Nat} {fn:Func} {body:Code} (hf:P.funcs[f]? = some fn) (hb:fn.body=some body) (he:lx P f=true) (hs:dt fn.ntmps body=true)
 {args:List AV} (hl:args.length≤fn.ntmps) {ρ:Type} (R:RC ρ) (fr:Bool) (x : ρ)
 (h:wl P T 0 body (dv P fn.results.toList (fun r st=>R.get fr st.h r=some x)) (b9 0 args) (bj [])):br P f args (R.E fr x):=by
 intro K w vs hK hrel
 refine .inr ⟨sw he _ _,wu (ro:=none) (n:=0) (callsIn_of_wp_marks hf hb trivial ?_)⟩
 let B:fo:={ b0:=w.heap.size,w,K,O:=fun _=>False,ay:=0,pb:=fun _=>none,n0:=w.heap.size }
 have hcur:fg B (gK w.heap.size K) (bj []) w:=by
  refine ⟨⟨Nat.le_refl _,fun o x hx=>?_,fun o o' x x' b base base' _ hx=>?_,hK⟩,fun o _ _=>rfl,⟨rfl,(fun o ho=>(by rcases ho with ho|ho;cases ho;exact ho.elim)),fun _ _ h=>h,fun _ _ _=>rfl,Nat.le_refl _,rfl,rfl,rfl,fun _ _ _=>rfl,fun o b base ho=>?_,fun _ _ h=>.inl h,fun b cs e fr h=>⟨cs,fr,h,rfl⟩,fun b l h=>⟨l,h⟩⟩,Nat.zero_le _⟩
  ·simp [bj,qf,Tr.get_nil] at hx
  ·simp [bj,qf,Tr.get_nil] at hx
  ·simp [bj,qf,Tr.get_nil] at ho
 refine wpIn_mono (ao0 hT hm (N:=0) (B:=B) (nt:=fn.ntmps) (fun _ h=>h) (by show (0:Nat)≤1000;omega) (Nat.le_refl _) body hs _ _ _ (gK w.heap.size K) w _ h hcur (x9 hrel hl) (Marks.nil _ _ _ _)) ?_
 rintro ex a w' ⟨e,L,st,g,rfl,hq,hc,hr,hd⟩
 have fin:Jx (qb P L st fn.results.toList) (fun r st=>R.get fr st.h r=some x) st→bodyPostM (fl none) 0 P fn (fun e w'=>∃ v,e = .returned v∧Bw w w'∧Rel (gK w.heap.size (ah0 K w w')) w' (R.E fr x) v) .ret a w':=by
  intro hq
  show LeavesInM (fl none) 0 P fn a.tmps _ a.defers .returning w'
  unfold Jx at hq
  cases hres:qb P L st fn.results.toList with
  |none=>rw [hres] at hq;exact hq.elim
  |some l=>
   rw [hres] at hq
   have hbs:=hc.base
   obtain ⟨bs,e1,e2,e3⟩:=hd
   rw [e1]
   refine Em (Good:=fun u=>Ok g st.h u∧Bw w u∧(∀ a v,Rel g w' a v→Rel g u a v)∧u.heap.size=w'.heap.size) (S:=fun b=>w.heap.size≤b∧ey g st.h b) ?_ ?_ bs w'
    ⟨hc.ok,⟨hbs.size,fun b hlt=>hbs.frame b hlt (fun h=>h),hbs.os,hbs.tape,hbs.output⟩,fun _ _ h=>h,rfl⟩ e2 (fun b hb=>⟨⟨(e3 b hb).1,(e3 b hb).2.2⟩,(e3 b hb).2.1⟩)
   ·rintro u b ⟨g1,g2,g3,g4⟩ ⟨hb1,hb2⟩ hb3
    have hput:=Ok.E3 (ds':=none) g1 hb3 hb2
    exact ⟨hput.1,⟨by rw [n9];exact g2.size,fun c hc=>(fi u _ (by omega)).trans (g2.heap c hc),g2.os,g2.tape,g2.output⟩,fun a v h=>hput.2 a v (g3 a v h),by rw [n9];exact g4⟩
   ·rintro u ⟨g1,g2,g3,g4⟩
    obtain ⟨us,h1,h2⟩:=Tz (P:=P) g1 ⟨hr.1,fun t=>g3 _ _ (hr.2 t)⟩ fn.results.toList l hres
    obtain ⟨v,h3,h4⟩:=Tt h1 h2
    refine ⟨v,h3,v,rfl,g2,?_⟩
    refine R.ok g1 ⟨fun b j hk=>?_,fun o cells k s e ho b base hi j hj=>?_⟩ (fun _=>?_) h4 hq
    ·rcases hbs.oh b j hk with h5|h5|h5
     ·exact .inl h5
     ·exact .inr ⟨h5,g1.K b j hk⟩
     ·exact h5.elim
    ·obtain ⟨b',base',h5,_,h6⟩:=g1.obj o _ ho
     rw [hi] at h5;cases h5
     rcases hbs.own o b base (by rw [ho];rfl) hi with h7|h7
     ·exact .inr ⟨h7,h6.lt⟩
     ·exact h7.elim
    ·rw [hbs.b0];exact Nat.le_refl _
 cases e with
 |normal=>exact fin hq
 |ret=>exact fin hq
 |exit id=>exact hq.elim
theorem Rel.lift {b0 K g w a v} (h:Rel (gK b0 K) w a v) (hb:g.b0≤b0) (hK:∀ b j,K b j→g.K b j):Rel g w a v:=by
 have hno:∀ o p,(gK b0 K).inj o≠some p:=fun o p e=>by cases e
 generalize hg:gK b0 K=g0 at h hno
 have hK':∀ b j,g0.K b j→g.K b j:=by subst hg;exact hK
 have hb':g.b0≤g0.b0:=by subst hg;exact hb
 clear hg
 induction h with
 |sc x=>exact .sc x
 |agg l vs hs _ ih=>exact .agg l vs hs ih
 |ea l vs hs _ ih=>exact .ea l vs hs ih
 |vl loc sz es b off cap c hsz hl hcap h _ ih=>exact .vl loc sz es b off cap c hsz (fun e=>Nat.le_trans hb' (hl e)) hcap (fun j a hj=>⟨hK' _ _ (h j a hj).1,(h j a hj).2⟩) ih
 |lf loc sz=>exact .lf loc sz
 |uu loc sz a=>exact .uu loc sz a
 |sl o off len sz b base cap hi hc hm hr=>exact (hno _ _ hi).elim
 |uq o off sz a=>exact .uq o off sz a
 |vq o off sz=>exact .vq o off sz
 |ez a=>exact .ez a
 |ptr o off b base hi=>exact (hno _ _ hi).elim
 |gn l b off c h _ ih=>exact .gn l b off c (fun j a hj=>⟨hK' _ _ (h j a hj).1,(h j a hj).2⟩) ih
 |fn f first captured va vb hs _ hs' _ ih ih'=>exact .fn f first captured va vb hs ih hs' ih'
 |mp o b base hi=>exact (hno _ _ hi).elim
 |qw t a v _ ih=>exact .qw t a v ih
 |yl o b base hi=>exact (hno _ _ hi).elim
 |bad v=>exact .bad v
theorem Cb {l:List AV} (h:AV.fresh.go l=true):∀ a ∈ l,a.fresh=true:=by
 induction l with
 |nil=>intro a ha;cases ha
 |cons x l ih=>
  simp only [AV.fresh.go,Bool.and_eq_true] at h
  intro a ha
  rcases List.mem_cons.1 ha with rfl|ha
  ·exact h.1
  ·exact ih h.2 a ha
theorem ad8 {a:AV} (h:a.fresh=true):∀ c ∈ a.cells,c.fresh=true:=by
 cases a with
 |agg l=>exact Cb h
 |sc v=>intro c hc;simp only [AV.cells,List.mem_map] at hc;obtain ⟨x,_,rfl⟩:=hc;rfl
 |_=>intro c hc;simp only [AV.cells,List.mem_singleton] at hc;subst hc;exact h
theorem Rel.fresh {b0 K g w a v} (h:Rel (gK b0 K) w a v) (hf:a.fresh=true) (hb:g.b0≤b0) (hK:∀ b j,K b j→b0≤b→g.K b j):Rel g w a v:=by
 generalize hg:gK b0 K=g0 at h
 have hK':∀ b j,g0.K b j→g0.b0≤b→g.K b j:=by subst hg;exact hK
 have hb':g.b0≤g0.b0:=by subst hg;exact hb
 clear hg hb hK
 induction h with
 |sc x=>exact .sc x
 |agg l vs hs _ ih=>exact .agg l vs hs (fun i a v ha hv=>ih i a v ha hv (Cb hf a (List.mem_of_getElem? ha)))
 |ea l vs hs _ ih=>exact .ea l vs hs (fun i a v ha hv=>ih i a v ha hv (Cb hf a (List.mem_of_getElem? ha)))
 |vl loc sz es b off cap c hsz hl hcap h _ ih=>
  simp only [AV.fresh,Bool.and_eq_true] at hf
  have hbb:=hl hf.1
  refine .vl loc sz es b off cap c hsz (fun e=>Nat.le_trans hb' hbb) hcap (fun j a hj=>⟨hK' _ _ (h j a hj).1 hbb,(h j a hj).2⟩) (fun j a hj=>ih j a hj ?_)
  obtain ⟨e,he,hc⟩:=List.mem_flatMap.1 (List.mem_of_getElem? hj)
  exact ad8 (Cb hf.2 e he) a hc
 |lf loc sz=>exact .lf loc sz
 |uu loc sz a=>exact .uu loc sz a
 |sl o off len sz b base cap hi hc hm hr=>cases hf
 |uq o off sz a=>cases hf
 |vq o off sz=>cases hf
 |ez a=>exact .ez a
 |ptr o off b base hi=>cases hf
 |gn l b off c h _ ih=>cases hf
 |fn f first captured va vb hs _ hs' _ ih ih'=>
  simp only [AV.fresh,Bool.and_eq_true] at hf
  exact .fn f first captured va vb hs (fun i a v ha hv=>ih i a v ha hv (Cb hf.1 a (List.mem_of_getElem? ha))) hs' (fun i a v ha hv=>ih' i a v ha hv (Cb hf.2 a (List.mem_of_getElem? ha)))
 |mp o b base hi=>cases hf
 |qw t a v _ ih=>exact .qw t a v (ih hf)
 |yl o b base hi=>cases hf
 |bad v=>cases hf
def Gh.more (g:Gh) (w w':World):Gh:={ g with K:=ah0 g.K w w' }
theorem Sf {g h w w'} {lo hi:Nat} (hok:Ok g h w) (q:Bw w w'):Step g h w lo hi (g.more w w') h w'∧Ok (g.more w w') h w':=by
 have hext:Ext g w (g.more w w') w':=by
  refine ⟨rfl,fun _ _ h=>h,fun _ _ h=>.inl h,fun b j hj=>sh (q.heap b (hok.K b j hj)),fun b cs e fr hb=>⟨cs,fr,(q.heap b (bw hb)).trans hb,rfl⟩,fun b l hb=>⟨l,(q.heap b (bw hb)).trans hb⟩⟩
 refine ⟨⟨hext,q.size,q.os,q.tape,q.output,fun b hb _=>q.heap b hb,fun _ h _=>h,fun o b base ho hi=>.inr ⟨o,base,ho,hi⟩,fun b j hk=>?_⟩,⟨Nat.le_trans hok.size q.size,fun o x hx=>?_,hok.sep,fun b j hk=>?_⟩⟩
 ·rcases hk with hk|hk
  ·exact .inl hk
  ·exact .inr (.inl hk.1)
 ·refine (hok.mh o x hx).imp id ?_
  rintro ⟨b,base,h1,h2,h3⟩
  refine ⟨b,base,h1,h2,h3.ext hext (q.heap b h3.lt) (fun j hk=>?_)⟩
  rcases hk with hk|hk
  ·exact hk
  ·have:=h3.lt;omega
 ·rcases hk with hk|hk
  ·exact Nat.lt_of_lt_of_le (hok.K b j hk) q.size
  ·exact hk.2
noncomputable def dh {α:Type} (A:AC α) (F : α→Option AV) (args:List AV):M AV:=fun st=>
 match A.get .nil args with
 |some x=>(F x).map fun r=>(r,st)
 |none=>
  match A.get st.h args with
  |some x=>
   match F x with
   |some r=>bif r.fresh then some (r,st) else none
   |none=>none
  |none=>none
theorem ar {P:Program} {f:Nat} {α:Type} {A:AC α} {F : α→Option AV} (h:∀ x r,F x=some r→br P f (A.E x) r) (args:List AV):Aa P f args (dh A F args):=by
 intro g st w vs r st' hok hfree hrel hm
 have go:∀ (X:Value→World→Prop),ael P f vs w X→(∀ v w',X v w'→Bw w w'∧Rel (g.more w w') w' r v)→st'=st →
  (∃ v w' g',(callFunc f vs.toArray).run P w = .ok (.value v) w'∧Step g st.h w st.nx st'.nx g' st'.h w'∧Ok g' st'.h w'∧Rel g' w' r v) ∨
  ((callFunc f vs.toArray).run P w = .ok (.enter f vs.toArray) w∧Calls P f vs.toArray w (fun e w'=>∃ v g',e = .returned v∧Step g st.h w st.nx st'.nx g' st'.h w'∧Ok g' st'.h w'∧Rel g' w' r v)):=by
  intro X hx hX e
  subst e
  rcases hx with ⟨v,h1,h2⟩|⟨h1,h2⟩
  ·obtain ⟨q,hr⟩:=hX v w h2
   have:=Sf (lo:=st'.nx) (hi:=st'.nx) hok q
   exact .inl ⟨v,w,_,h1,this.1,this.2,hr⟩
  ·refine .inr ⟨h1,h2.mono ?_⟩
   rintro e w' ⟨v,rfl,h3⟩
   obtain ⟨q,hr⟩:=hX v w' h3
   have:=Sf (lo:=st'.nx) (hi:=st'.nx) hok q
   exact ⟨v,_,rfl,this.1,this.2,hr⟩
 unfold dh at hm
 cases h1:A.get .nil args with
 |some x=>
  rw [h1] at hm
  simp only [Option.map_eq_some_iff] at hm
  obtain ⟨r',h2,h3⟩:=hm
  cases h3
  have hargs:=A.ok (b0:=w.heap.size) (hok.part (hm:=.nil) (fun o x hx=>by rw [Tr.get_nil] at hx;cases hx)) (wj.nil g g.K (fun _ _ h=>h)) hrel h1
  refine go _ (h x r h2 g.K w vs hok.K hargs) (fun v w' hv=>⟨hv.1,hv.2.lift hok.size (fun b j hk=>hk)⟩) rfl
 |none=>
  rw [h1] at hm
  simp only at hm
  cases h2:A.get st.h args with
  |none=>rw [h2] at hm;cases hm
  |some x=>
   rw [h2] at hm
   simp only at hm
   cases h3:F x with
   |none=>rw [h3] at hm;cases hm
   |some r'=>
    rw [h3] at hm
    simp only at hm
    cases h4:r'.fresh with
    |false=>rw [h4] at hm;cases hm
    |true=>
     rw [h4] at hm
     cases hm
     have hargs:=A.ok (b0:=w.heap.size) (K:=fun b _=>b<w.heap.size) hok ⟨fun b j hk=>hok.K b j hk,fun o cells k s e ho b base hi j hj=>by
      obtain ⟨b',base',h5,_,h6⟩:=hok.obj o _ ho
      rw [hi] at h5;cases h5
      exact h6.lt⟩ hrel h2
     refine go _ (h x r h3 (fun b _=>b<w.heap.size) w vs (fun _ _ h=>h) hargs) (fun v w' hv=>⟨hv.1,hv.2.fresh h4 hok.size (fun b j hk hle=>?_)⟩) rfl
     rcases hk with hk|hk
     ·omega
     ·exact .inr hk
theorem an.nil (P:Program):an P []:=fun f b m h=>by cases h
theorem an.cons {P:Program} {f:Nat} {b:Bool} {m:List AV→M AV} {T:dx} (h:∀ args,Aa P f args (m args)) (hT:an P T):an P ((f,b,m)::T):=by
 intro f' b' m' hf args
 simp only [dx.find] at hf
 by_cases e:f=f'
 ·subst e
  simp only [Nat.beq_refl,cond_true,Option.some.injEq] at hf
  cases hf
  exact h args
 ·rw [ll e,cond_false] at hf
  exact hT f' b' m' hf args
def ahg (g:Gh) (st:St) (w:World):fo:={ g7 g st.h w st.nx (fun _=>False) with n0:=w.heap.size }
theorem fg.ofC {g st w} (hok:Ok g st.h w) (hfr:∀ o,st.nx≤o→g.inj o=none):fg (ahg g st w) g st w:=
 ⟨hok,fun o h1 _=>hfr o h1,⟨rfl,fun _o _ho=>rfl,fun _ _ h=>h,fun _ _ _=>rfl,Nat.le_refl _,rfl,rfl,rfl,fun _ _ _=>rfl,fun o _b base ho hi=>.inr (.inr ⟨o,base,ho,hi⟩),fun _ _ h=>.inl h,
  fun _b cs _e fr h=>⟨cs,fr,h,rfl⟩,fun _b l h=>⟨l,h⟩⟩,Nat.le_refl _⟩
theorem fg.atg {g st w g' st' w'} (h:fg (ahg g st w) g' st' w') (hfr:∀ o,st.nx≤o→g.inj o=none):Step g st.h w st.nx st'.nx g' st'.h w':=by
 have b:=h.base
 have pins:∀ o,o<st.nx→g'.inj o=g.inj o:=fun o ho=>b.pins o (.inl ho)
 refine ⟨⟨b.b0,fun o p hp=>?_,b.K,b.cell,b.iw,b.lp⟩,b.size,b.os,b.tape,b.output,fun c hc hn=>b.frame c hc (fun hO=>?_),fun o ho hr=>?_,fun o c base ho hi=>?_,fun c j hk=>?_⟩
 ·by_cases h1:st.nx≤o
  ·rw [hfr o h1] at hp;cases hp
  ·rw [pins o (by omega)];exact hp
 ·rcases hO with hO|⟨o,base,h1,h2⟩
  ·exact hO
  ·exact hn o base h1 h2
 ·by_cases h1:o<st.nx
  ·rw [pins o h1];exact ho
  ·exact h.fresh o (by omega) (fun hf=>hf)
 ·rcases b.own o c base ho hi with h1|h1|h1
  ·exact .inl h1
  ·exact h1.elim
  ·exact .inr h1
 ·rcases b.oh c j hk with h1|h1|h1|h1
  ·exact .inl h1
  ·exact .inr (.inl h1)
  ·exact h1.elim
  ·exact .inr (.inr h1)
theorem bn {P:Program} {T:dx} (hT:an P T) (hm:P.follows .mixedOrders=true) {f:Nat} {fn:Func} {body:Code} (hf:P.funcs[f]? = some fn) (hb:fn.body=some body) (he:lx P f=true) (hs:dt fn.ntmps body=true)
 {args:List AV} (hl:Nat.ble args.length fn.ntmps=true) {st:St} (hp:Nat.ble st.nx 1000=true) {R:AV→St→Prop}
 (h:wl P T st.nx body (dv P fn.results.toList R) (b9 0 args) st):gp P f args st R:=by
 intro g w vs hok hfr hrel
 refine .inr ⟨sw he _ _,wu (ro:=none) (n:=0) (callsIn_of_wp_marks hf hb trivial ?_)⟩
 have hcur:=fg.ofC (w:=w) hok hfr
 refine wpIn_mono (ao0 hT hm (N:=0) (B:=ahg g st w) (nt:=fn.ntmps) (fun _ h=>h) (Nat.le_of_ble_eq_true hp) (Nat.le_refl _) body hs _ _ _ g w _ h hcur (x9 hrel (Nat.le_of_ble_eq_true hl)) (Marks.nil _ _ _ _)) ?_
 rintro ex a w' ⟨e,L,st',g',rfl,hq,hc,hr,hd⟩
 have fin:Jx (qb P L st' fn.results.toList) R st'→bodyPostM (fl none) 0 P fn (fun e w'=>∃ v g' r st',e = .returned v∧R r st'∧st.nx≤st'.nx∧Step g st.h w st.nx st'.nx g' st'.h w'∧Ok g' st'.h w'∧Rel g' w' r v) .ret a w':=by
  intro hq
  show LeavesInM (fl none) 0 P fn a.tmps _ a.defers .returning w'
  unfold Jx at hq
  cases hres:qb P L st' fn.results.toList with
  |none=>rw [hres] at hq;exact hq.elim
  |some l=>
   rw [hres] at hq
   obtain ⟨bs,e1,e2,e3⟩:=hd
   rw [e1]
   refine Em (Good:=fun u=>Ok g' st'.h u∧Step g st.h w st.nx st'.nx g' st'.h u∧(∀ a v,Rel g' w' a v→Rel g' u a v)) (S:=fun b=>w.heap.size≤b∧ey g' st'.h b) ?_ ?_ bs w'
    ⟨hc.ok,hc.atg hfr,fun _ _ h=>h⟩ e2 (fun b hb=>⟨⟨(e3 b hb).1,(e3 b hb).2.2⟩,(e3 b hb).2.1⟩)
   ·rintro u b ⟨g1,g2,g3⟩ ⟨hb1,hb2⟩ hb3
    have hput:=Ok.E3 (ds':=none) g1 hb3 hb2
    exact ⟨hput.1,Step.aaz (ds':=none) hok g2 hb1,fun a v h=>hput.2 a v (g3 a v h)⟩
   ·rintro u ⟨g1,g2,g3⟩
    obtain ⟨us,h1,h2⟩:=Tz (P:=P) g1 ⟨hr.1,fun t=>g3 _ _ (hr.2 t)⟩ fn.results.toList l hres
    obtain ⟨v,h3,h4⟩:=Tt h1 h2
    exact ⟨v,h3,v,g',_,st',rfl,hq,hc.ay,g2,g1,h4⟩
 cases e with
 |normal=>exact fin hq
 |ret=>exact fin hq
 |exit id=>exact hq.elim
end
end Go.Vm
namespace Go.Vm
noncomputable section
section code
variable (P : Program) (T : dx) (ay : Nat) (Q : QL) (L : SL) (st : St)
theorem aen:wl P T ay .skip Q L st=Q .normal L st:=id rfl
theorem Wc (i ops d):wl P T ay (.region i ops d) Q L st=B8 P T ops d (Q .normal) L st:=id rfl
theorem ak7 (a b):wl P T ay (.seq a b) Q L st=wl P T ay a (Y8 (wl P T ay b) Q) L st:=id rfl
theorem afb (c a b):wl P T ay (.cond c a b) Q L st=ue (cd L c) (wl P T ay a Q) (wl P T ay b Q) L st:=id rfl
theorem Yh (i b):wl P T ay (.block i b) Q L st=wl P T ay b (Ol i Q) L st:=id rfl
theorem afe (b):wl P T ay (.loop b) Q L st=qz ay (wl P T ay b) Q L st:=id rfl
theorem afa (i):wl P T ay (.exit i) Q L st=Q (.exit i) L st:=id rfl
theorem akz:wl P T ay .ret Q L st=Q .ret L st:=id rfl
theorem amj (W):Y8 W Q .normal L st=W Q L st:=id rfl
theorem al1 (W i):Y8 W Q (.exit i) L st=Q (.exit i) L st:=id rfl
theorem ai9 (W):Y8 W Q .ret L st=Q .ret L st:=id rfl
theorem aj9 (i):Ol i Q .normal L st=Q .normal L st:=id rfl
theorem ajh (i):Ol i Q .ret L st=Q .ret L st:=id rfl
theorem alj (i j):Ol i Q (.exit j) L st=bif Nat.beq j i then Q .normal L st else Q (.exit j) L st:=id rfl
theorem ae5 (keep X):wo ay keep X Q .normal L st=X (cy ay keep L st) (fy ay keep L st):=id rfl
theorem aeo (keep X i):wo ay keep X Q (.exit i) L st=Q (.exit i) L st:=id rfl
theorem aej (keep X):wo ay keep X Q .ret L st=Q .ret L st:=id rfl
theorem akg (rs R):dv P rs R .normal L st=Jx (qb P L st rs) R st:=id rfl
theorem ak1 (rs R):dv P rs R .ret L st=Jx (qb P L st rs) R st:=id rfl
theorem Uh (ops K):B8 P T ops false K L st=opsL P T ops ops.toList K L st:=id rfl
theorem ace (ops K):opsL P T ops [] K L st=K L st:=id rfl
theorem Vv (ops o r K):opsL P T ops (o::r) K L st=w6 ops o.guard (Y1 P T o (opsL P T ops r K)) (F9 o.dst (opsL P T ops r K)) L st:=id rfl
theorem abv (ops K recs):Dd P T ops [] K recs L st=(dj (Region.before ops) 0 recs=true∧K L st):=id rfl
theorem U3 (ops o r K recs):Dd P T ops (o::r) K recs L st=w6 ops o.guard (gj P T o recs (Dd P T ops r K)) (F9 o.dst (Dd P T ops r K (recs++[⟨[],[]⟩]))) L st:=id rfl
theorem So (ops X Y):w6 ops none X Y L st=X L st:=id rfl
theorem Sq (ops j c X Y):w6 ops (some (j,c)) X Y L st=Cn (lk L (sk ops j)) c X Y L st:=id rfl
theorem Zc (b:Bool) (X Y:SL→St→Prop):Cn (.sc (.bool b)) true X Y L st=ue (.sc (.bool b)) X Y L st:=by cases b<;>simp [Cn,yh,Ad,Eb,ue,p0,AV.bool,AV.exact,od]
theorem Ye (b:Bool) (X Y:SL→St→Prop):Cn (.sc (.bool b)) false X Y L st=ue (.sc (.bool b)) Y X L st:=by cases b<;>simp [Cn,yh,Ad,Eb,ue,p0,AV.bool,AV.exact,od]
theorem abh (c:Bool) (X Y:SL→St→Prop):Cn (.sc undef) c X Y L st=Y L st:=by simp [Cn,yh,Ad,Eb,AV.exact,undef]
theorem ae8 (o K):Y1 P T o K L st=Kq (fm P T o (cd L) st) P o L st K:=id rfl
theorem aao (v o K st'):Kq (some (v,st')) P o L st K=K (gm o.dst v L) st':=id rfl
theorem aco (K d r):da K d L r st=K (gm d r L) st:=id rfl
theorem abb (ro F o recs K v bh):Da ro F o recs K L st (some (v,bh))=((Ef st.nx F=true∧Nat.ble bh.nx b8=true)∧same (jw st.h F) bh.h (bif ro then F else []) ∧
 K (recs++[⟨F,(bif ro then [] else F)++dm st.nx (bh.nx - st.nx)⟩]) (gm o.dst v L) { h:=ow bh.h (F++dm st.nx (bh.nx - st.nx)) st.h,nx:=bh.nx,rl:=[],wl:=[] }):=id rfl
theorem Wr (d K):F9 d K L st=K (gm d (.sc undef) L) st:=id rfl
theorem dc (b X Y):ue (.sc (.bool b)) X Y L st=((b=true→X L st)∧(b=false→Y L st)):=id rfl
theorem F7 (X Y):ue (.sc (.bool true)) X Y L st=X L st:=by simp [ue,p0,AV.bool,AV.exact,od]
theorem E9 (X Y):ue (.sc (.bool false)) X Y L st=Y L st:=by simp [ue,p0,AV.bool,AV.exact,od]
theorem Wq (v d K):Ft (some (v,st)) d L K=K (gm d v L) st:=id rfl
theorem Wj (d v):gm (some d) v L=(d,v)::L:=id rfl
theorem Up (v):gm none v L=L:=id rfl
theorem aj1 (l R):Jx (some l) R st=R (pack l) st:=id rfl
theorem ajk (d v):lk ((d,v)::L) d=v:=by simp [lk]
theorem afq (d t v) (h:(d == t)=false):lk ((d,v)::L) t=lk L t:=by
 have e:d≠t:=by simpa using h
 rw [mr,if_neg e]
theorem aoz (t):cd L (.tmp t)=lk L t:=id rfl
theorem apr (v):cd L (.const v) = .sc v:=id rfl
theorem ao2 (f):cd L (.func f) = .sc (.func (.func f) #[] #[]):=id rfl
theorem ajf:qb P L st []=some []:=id rfl
theorem aku (t r):qb P L st (.tmp t::r)=(qb P L st r).map (lk L t :: ·):=id rfl
theorem amc (a t r):qb P L st (.cell a t::r)=match i9 P t (lk L a) st with|some (v,_)=>(qb P L st r).map (v :: ·)|none=>none:=id rfl
end code
section ops
variable (P : Program) (T : dx) (ρ : Operand → AV) (d : Option Tmp) (ty : TypeId) (pos : String) (af : Array Edge) (gd : Option (Nat × Bool))
theorem Gs (x):fm P T ⟨d,.move x,ty,pos,af,gd⟩ ρ=mono (M.pure (ρ x)):=id rfl
theorem Dh (x):fm P T ⟨d,.assign x,ty,pos,af,gd⟩ ρ=mono (M.pure (ρ x)):=id rfl
theorem G9 (t a):fm P T ⟨d,.load t a,ty,pos,af,gd⟩ ρ=mono (i9 P t (ρ a)):=id rfl
theorem yq (s x f):fm P T ⟨d,.fieldAddr s x f,ty,pos,af,gd⟩ ρ=mono (j3 P s (ρ x) f):=id rfl
theorem Ms (op t x y u):fm P T ⟨d,.binOp op t x y u,ty,pos,af,gd⟩ ρ=mono (wk P ρ ⟨d,.binOp op t x y u,ty,pos,af,gd⟩ op t x y):=id rfl
theorem Gr (c a b):fm P T ⟨d,.pick c a b,ty,pos,af,gd⟩ ρ=mono (tl (ρ c) (ρ a) (ρ b)):=id rfl
theorem Ep (t a x):fm P T ⟨d,.store t a x,ty,pos,af,gd⟩ ρ=mono (om P t (ρ a) (ρ x)):=id rfl
theorem Bk (t i):fm P T ⟨d,.extract t i,ty,pos,af,gd⟩ ρ=mono (mz (ρ t) i):=id rfl
theorem x6 (t x i):fm P T ⟨d,.indexAddr t x i,ty,pos,af,gd⟩ ρ=mono (j5 P t (ρ x) (ρ i)):=id rfl
theorem zd (x):fm P T ⟨d,.nilCheck x,ty,pos,af,gd⟩ ρ=mono (jr (ρ x)):=id rfl
theorem Mp (t):fm P T ⟨d,.alloc t,ty,pos,af,gd⟩ ρ=mono (qj P t):=id rfl
theorem Us (t x):fm P T ⟨d,.box t x,ty,pos,af,gd⟩ ρ=mono (wi t (ρ x)):=id rfl
theorem Ez (t ps):fm P T ⟨d,.build t ps,ty,pos,af,gd⟩ ρ=mono (pw P t (ps.toList.map fun p=>(p.1,ρ p.2))):=id rfl
theorem w4 (t n ps):fm P T ⟨d,.buildSlice t n ps,ty,pos,af,gd⟩ ρ=mono (i7 P t n (ps.toList.map fun p=>(p.1,ρ p.2))):=id rfl
theorem E6 (f a b):fm P T ⟨d,.makeFunc f a b,ty,pos,af,gd⟩ ρ=mono (M.pure (.fn f (a.toList.map ρ) (b.toList.map ρ))):=id rfl
theorem Ia (s u x):fm P T ⟨d,.convert s u x,ty,pos,af,gd⟩ ρ=mono (nw P ρ ⟨d,.convert s u x,ty,pos,af,gd⟩ s u (ρ x)):=id rfl
theorem Ly (s x f):fm P T ⟨d,.field s x f,ty,pos,af,gd⟩ ρ=mono (rz P s (ρ x) f):=id rfl
theorem Mf (t x i):fm P T ⟨d,.index t x i,ty,pos,af,gd⟩ ρ=mono (q9 P ρ ⟨d,.index t x i,ty,pos,af,gd⟩ t x i):=id rfl
theorem Mo (t x l h m):fm P T ⟨d,.slice t x l h m,ty,pos,af,gd⟩ ρ=mono (qg P ρ ⟨d,.slice t x l h m,ty,pos,af,gd⟩ t x l h m):=id rfl
theorem J8 (x ts):fm P T ⟨d,.call { callee:=.builtin .len,args:=#[x],argTypes:=ts },ty,pos,af,gd⟩ ρ=mono (qp ((ts[0]?).bind P.underlying) (ρ x)):=id rfl
theorem C5 (s x ts):fm P T ⟨d,.call { callee:=.builtin .append,args:=#[s,x],argTypes:=ts },ty,pos,af,gd⟩ ρ=mono (mc P ts[0]? ((ts[1]?).bind P.underlying) (ρ s) (ρ x)):=id rfl
theorem O4 (f args ts):fm P T ⟨d,.call { callee:=.value f,args,argTypes:=ts },ty,pos,af,gd⟩ ρ=s6 T (ρ f) (args.toList.map ρ):=id rfl
end ops
section monad
variable {α β : Type} (s : St)
theorem aoq (m:M α):mono m s=match m s with|none=>none|some (a,s')=>bif decide (s.nx≤s'.nx) then some (a,s') else none:=by
 have:∀ a b,Nat.ble a b=decide (a≤b):=fun a b=>by rw [Bool.eq_iff_iff];simp
 unfold mono
 cases m s with
 |none=>rfl
 |some p=>simp only [this]
theorem ape (m:M α) (f : α→M β):(m.bind f) s=match m s with|none=>none|some (a,s')=>f a s':=id rfl
theorem ao5 (a : α):(M.pure a) s=some (a,s):=id rfl
theorem apg:(M.fail:M α) s=none:=id rfl
theorem aow (a : α):(M.of (some a)) s=some (a,s):=id rfl
theorem apd (b:Bool) (m m':M α):(bif b then m else m') s=bif b then m s else m' s:=by cases b<;>rfl
theorem apl (o:Nat):cg o s=match s.h.get o with|some x=>some (x,{ s with rl:=o::s.rl })|none=>none:=id rfl
theorem aos (x:az):ew x s=bif decide (s.nx≤b8) then some (s.nx,{ s with h:=s.h.set depth s.nx (some x),nx:=s.nx+1,wl:=s.nx::s.wl }) else none:=by
 have:Nat.ble s.nx b8=decide (s.nx≤b8):=by rw [Bool.eq_iff_iff];simp
 unfold ew;rw [this]
theorem aor (o:Nat) (x:az):ia o x s=match s.h.get o with|some _=>bif decide (o≤b8) then some ((),{ s with h:=s.h.set depth o (some x),wl:=o::s.wl }) else none|none=>none:=by
 have:Nat.ble o b8=decide (o≤b8):=by rw [Bool.eq_iff_iff];simp
 unfold ia;rw [this];rfl
theorem aou (o:Nat):tv o s=match s.h.get o with|some _=>bif decide (o≤b8) then some ((),{ s with h:=s.h.set depth o none,wl:=o::s.wl }) else none|none=>none:=by
 have:Nat.ble o b8=decide (o≤b8):=by rw [Bool.eq_iff_iff];simp
 unfold tv;rw [this];rfl
theorem Yo (t:Tr az) (n m:Nat) (x:Option az) (h:n≤16777214):(Tr.set depth t n x).get m=if m=n then x else t.get m:=eg t n m x h
theorem Yf (n:Nat):(Tr.nil:Tr az).get n=none:=id rfl
theorem asb (a b:Nat):Nat.ble a b=decide (a≤b):=by rw [Bool.eq_iff_iff];simp
theorem ar9 (a b:Nat):Nat.blt a b=decide (a<b):=by rw [Bool.eq_iff_iff];simp
theorem aia (a b:Nat):Nat.beq a b=decide (a=b):=by rw [Bool.eq_iff_iff];simp
end monad
theorem Nc {a:AV} {x y x' y':Prop} (h1:x→x') (h2:y→y') (h:p0 a x y):p0 a x' y':=by
 unfold p0 at *
 split at h
 ·exact ⟨fun e=>h1 (h.1 e),fun e=>h2 (h.2 e)⟩
 ·exact h.elim
theorem y7 {ops L gd} {x y x' y':Prop} (h1:x→x') (h2:y→y') (h:guarded ops L gd x y):guarded ops L gd x' y':=by
 unfold guarded at *
 split at h
 ·exact h1 h
 ·unfold yh at *
  split at h
  ·exact ⟨fun e=>h1 (h.1 e),fun e=>h2 (h.2 e)⟩
  ·exact h.elim
theorem gp.mono {P f args st} {R R':AV→St→Prop} (h:∀ r st,R r st→R' r st) (hc:gp P f args st R):gp P f args st R':=by
 intro g w vs h1 h2 h3
 rcases hc g w vs h1 h2 h3 with ⟨v,w',g',r,st',q1,q2,q3⟩|⟨q1,q2⟩
 ·exact .inl ⟨v,w',g',r,st',q1,h _ _ q2,q3⟩
 ·refine .inr ⟨q1,q2.mono ?_⟩
  rintro e w' ⟨v,g',r,st',p1,p2,p3⟩
  exact ⟨v,g',r,st',p1,h _ _ p2,p3⟩
theorem aho {P o L st} {K K':SL→St→Prop} (h:∀ L st,K L st→K' L st) (hc:Kz P o L st K):Kz P o L st K':=by
 unfold Kz agj at *
 split at hc
 ·split at hc
  ·exact gp.mono (fun r st hk=>h _ _ hk) hc
  ·exact hc.elim
 ·exact hc.elim
theorem D3 {P T ops} {K K':SL→St→Prop} (h:∀ L st,K L st→K' L st):∀ (l:List Oper) (L:SL) (st:St),opsL P T ops l K L st→opsL P T ops l K' L st
 | [],L,st,hh=>h L st hh
 |o::r,L,st,hh=>y7 (fun q=>by
  unfold Y1 Kq at *
  split at q
  ·exact D3 h r _ _ q
  ·exact aho (fun L st=>D3 h r L st) q) (fun q=>D3 h r _ _ q) hh
theorem Dv {P T ops} {K K':SL→St→Prop} (h:∀ L st,K L st→K' L st):∀ (l:List Oper) (recs:List Rec) (L:SL) (st:St),Dd P T ops l K recs L st→Dd P T ops l K' recs L st
 | [],recs,L,st,hh=>⟨hh.1,h L st hh.2⟩
 |o::r,recs,L,st,hh=>y7 (fun q=>by
  unfold gj ku Da at *
  split at q
  ·exact ⟨q.1,q.2.1,Dv h r _ _ _ q.2.2⟩
  ·exact q.elim) (fun q=>Dv h r _ _ _ q) hh
theorem Du {P T ops} {K K':SL→St→Prop} (h:∀ L st,K L st→K' L st):∀ (l:List Oper) (recs:List Rec) (L:SL) (st:St),J6 P T ops l K recs L st→J6 P T ops l K' recs L st
 | [],recs,L,st,hh=>⟨hh.1,h L st hh.2⟩
 |o::r,recs,L,st,hh=>y7 (fun q=>Pu (fun _ _ _ k=>Du h r _ _ _ k) q) (fun q=>Du h r _ _ _ q) hh
theorem xb {P T l ay ops} {R:Ff} (hR:∀ p args (X X':Ex→St→Prop) st,(∀ e st,X e st→X' e st)→R p args X st→R p args X' st) {K K':Option Ex→SL→St→Prop} (h:∀ pe L st,K pe L st→K' pe L st) :
 ∀ (ls:List Oper) (pe:Option Ex) (L:SL) (st:St),C8 P T l R ay ops ls K pe L st→C8 P T l R ay ops ls K' pe L st
 | [],pe,L,st,hh=>h pe L st hh
 |o::r,pe,L,st,hh=>y7 (fun q=>by
  unfold opI Tq at *
  split at q
  ·unfold Ft at *
   split at q
   ·exact xb hR h r _ _ _ q
   ·exact q.elim
  ·obtain ⟨h0,keep,q⟩:=q
   refine ⟨h0,keep,hR _ _ _ _ _ (fun e st q=>?_) q⟩
   cases e with
   |normal=>exact xb hR h r _ _ _ q
   |ret=>exact xb hR h r _ _ _ q
   |exit id=>exact xb hR h r _ _ _ q) (fun q=>xb hR h r _ _ _ q) hh
theorem N9 {P:Program} {T:dx} {l ay:Nat} {R:Ff} (hR:∀ p args (X X':Ex→St→Prop) st,(∀ e st,X e st→X' e st)→R p args X st→R p args X' st) :
 ∀ (c:Code) (Q Q':QI),(∀ e pe L st,Q e pe L st→Q' e pe L st)→∀ pe L st,oy P T l R ay c Q pe L st→oy P T l R ay c Q' pe L st:=by
 intro c
 induction c with
 |skip=>intro Q Q' h pe L st hh;exact h _ _ _ _ hh
 |label l=>intro Q Q' h pe L st hh;exact h _ _ _ _ hh
 |exit i=>intro Q Q' h pe L st hh;exact h _ _ _ _ hh
 |ret=>intro Q Q' h pe L st hh;exact h _ _ _ _ hh
 |region i ops draw=>
  intro Q Q' h pe L st hh
  cases draw with
  |false=>exact xb hR (h _) _ _ _ _ hh
  |true=>exact ⟨hh.1,hh.2.imp (Dv (h _ _) _ _ _ _) (Du (h _ _) _ _ _ _)⟩
 |seq a b iha ihb=>
  intro Q Q' h pe L st hh
  refine iha _ _ ?_ pe L st hh
  intro e pe L st q
  cases e with
  |normal=>exact ihb _ _ h pe L st q
  |_=>exact h _ _ _ _ q
 |cond c a b iha ihb=>intro Q Q' h pe L st hh;exact Nc (iha _ _ h pe L st) (ihb _ _ h pe L st) hh
 |block i b ih=>
  intro Q Q' h pe L st hh
  refine ih _ _ ?_ pe L st hh
  intro e pe L st q
  cases e with
  |exit j=>
   simp only [Oc] at *
   cases hb:Nat.beq j i with
   |true=>rw [hb] at q;exact h _ _ _ _ q
   |false=>rw [hb] at q;exact h _ _ _ _ q
  |_=>exact h _ _ _ _ q
 |loop b ih=>
  intro Q Q' h pe L st hh
  obtain ⟨h0,keep,hh⟩:=hh
  refine ⟨h0,keep,fun X hX=>hh X fun vs os q=>hX vs os (ih _ _ ?_ _ _ _ q)⟩
  intro e pe L st q
  cases e with
  |normal=>exact q
  |_=>exact h _ _ _ _ q
 |scope b ih=>intro _ _ _ _ _ _ hh;exact hh.elim
 |rangeFunc=>intro _ _ _ _ _ _ hh;exact hh.elim
 |goto=>intro _ _ _ _ _ _ hh;exact hh.elim
 |refuse=>intro _ _ _ _ _ _ hh;exact hh.elim
theorem aon {P:Program} {T:dx}:∀ (c:Code) (ay:Nat) (Q Q':QL),(∀ e L st,Q e L st→Q' e L st)→∀ L st,wl P T ay c Q L st→wl P T ay c Q' L st:=by
 intro c
 induction c with
 |skip=>intro ay Q Q' h L st hh;exact h _ _ _ hh
 |label l=>intro ay Q Q' h L st hh;exact h _ _ _ hh
 |exit i=>intro ay Q Q' h L st hh;exact h _ _ _ hh
 |ret=>intro ay Q Q' h L st hh;exact h _ _ _ hh
 |region i ops draw=>
  intro ay Q Q' h L st hh
  cases draw with
  |false=>exact D3 (h _) _ _ _ hh
  |true=>exact ⟨hh.1,hh.2.imp (Dv (h _) _ _ _ _) (Du (h _) _ _ _ _)⟩
 |seq a b iha ihb=>
  intro ay Q Q' h L st hh
  refine iha _ _ _ ?_ L st hh
  intro e L st q
  cases e with
  |normal=>exact ihb _ _ _ h L st q
  |_=>exact h _ _ _ q
 |cond c a b iha ihb=>intro ay Q Q' h L st hh;exact Nc (iha _ _ _ h L st) (ihb _ _ _ h L st) hh
 |block i b ih=>
  intro ay Q Q' h L st hh
  refine ih _ _ _ ?_ L st hh
  intro e L st q
  cases e with
  |exit j=>
   simp only [Ol] at *
   cases hb:Nat.beq j i with
   |true=>rw [hb] at q;exact h _ _ _ q
   |false=>rw [hb] at q;exact h _ _ _ q
  |_=>exact h _ _ _ q
 |loop b ih=>
  intro ay Q Q' h L st hh
  obtain ⟨keep,hh⟩:=hh
  refine ⟨keep,fun X hX=>hh X fun vs os q=>hX vs os (ih _ _ _ ?_ _ _ q)⟩
  intro e L st q
  cases e with
  |normal=>exact q
  |_=>exact h _ _ _ q
 |scope b ih=>intro ay Q Q' h L st hh;exact ih _ _ _ h L st hh
 |rangeFunc f ps a b iha ihb=>
  intro ay Q Q' h L st hh
  obtain ⟨keep,h0,hh⟩:=hh
  refine ⟨keep,h0,?_⟩
  unfold Kh at *
  split at hh
  ·unfold Iz at *
   split at hh
   ·refine ⟨hh.1,fun l=>N9 (fun p args X X' st hX hr=>⟨hr.1,hr.2.1,iha _ _ _ (fun e L st q=>(by
     cases e with
     |normal=>exact ihb _ _ _ (fun e _ st q=>hX e st q) _ _ q
     |_=>exact q.elim)) _ _ hr.2.2⟩) _ _ _ (fun e pe L st q=>(by
     cases e with
     |exit id=>exact q.elim
     |normal=>
      cases pe with
      |none=>exact h _ _ _ q
      |some e=>exact h _ _ _ q
     |ret=>
      cases pe with
      |none=>exact h _ _ _ q
      |some e=>exact h _ _ _ q)) _ _ _ (hh.2 l)⟩
   ·exact hh.elim
  ·exact hh.elim
 |goto=>intro _ _ _ _ _ _ hh;exact hh.elim
 |refuse=>intro _ _ _ _ _ _ hh;exact hh.elim
theorem F5 {P:Program} {T:dx} {ay:Nat} (c:Code) (Q Q':QL) (h:∀ e L st,Q e L st→Q' e L st) (L:SL) (st:St) (hh:wl P T ay c Q L st):wl P T ay c Q' L st:=aon c ay Q Q' h L st hh
theorem cq {α:Type} {P:Program} {T:dx} {ay:Nat} {b:Code} {Q:QL} {L:SL} {st:St} (keep:List Nat) (V : α→List AV) (O : α→List (Option az)) (I : α→Prop) (μ : α→Nat) (x : α) (hx:I x)
 (hv:cy ay keep L st=V x) (ho:fy ay keep L st=O x)
 (step:∀ x,I x→wl P T ay b (wo ay keep (fun vs os=>∃ y,I y ∧ μ y < μ x∧vs=V y∧os=O y) Q) (l8 keep (V x)) (bj (O x))):qz ay (wl P T ay b) Q L st:=
 qz.of keep V O I μ x hx hv ho (fun _ _ h=>F5 b _ _ h) step
section cods
theorem pz {α:Type} (C:cr α) (l:Bool) (xs:List α):(cj C).val l xs = .vl l C.sz (xs.map (C.val l)):=id rfl
theorem B9 {α:Type} (C:cr α):(cj C).sz=1:=id rfl
theorem U6:ak.sz=1:=id rfl
theorem Zq:bu.sz=1:=id rfl
theorem Kg:cw.sz=1:=id rfl
theorem A4:c0.sz=1:=id rfl
theorem A9 (k:IntKind):(bk k).sz=1:=id rfl
theorem Gc:bo.sz=1:=id rfl
theorem Dy (l:Bool) (x:UInt8):bu.val l x = .sc (.int .u8 x.toNat):=id rfl
theorem Qr (l:Bool) (x:UInt16):cw.val l x = .sc (.int .u16 x.toNat):=id rfl
theorem Pp (l:Bool) (x:UInt32):c0.val l x = .sc (.int .u32 x.toNat):=id rfl
theorem O6 (k:IntKind) (l:Bool) (x:Int):(bk k).val l x = .sc (.int k x):=id rfl
theorem Mu (l:Bool) (x:Bool):bo.val l x = .sc (.bool x):=id rfl
theorem aft (o i:Nat):idx [] o i=none:=id rfl
theorem Yp {α:Type} (C:cr α) (τ:Nat→Option Nat) (l:Bool):AV.cx τ ∘ C.val l=C.val l:=by funext x;exact Lk C τ l x
theorem Sp (l:Bool) (x:ByteArray):ak.val l x = .sc (.string x):=id rfl
theorem zp {α:Type} (C:cr α) (fr:Bool) (h:Tr az) (a:AV) (h1:a.known=true) (h2:a.isAgg=C.agg):C.il fr h a=C.dec fr h a.cells:=by
 unfold cr.il;rw [h1,h2];simp
theorem Ug (fr:Bool) (h:Tr az) (n:UInt32):c0.il fr h (.sc (.int .u32 n.toNat))=some n:=c0.J4 fr h true n (fun _=>rfl)
theorem Wg (fr:Bool) (h:Tr az) (n:UInt16):cw.il fr h (.sc (.int .u16 n.toNat))=some n:=cw.J4 fr h true n (fun _=>rfl)
theorem O2 (k:IntKind) (fr:Bool) (h:Tr az) (n:Int):(bk k).il fr h (.sc (.int k n))=some n:=(bk k).J4 fr h true n (fun _=>rfl)
theorem Nn (fr:Bool) (h:Tr az) (b:Bool):bo.il fr h (.sc (.bool b))=some b:=bo.J4 fr h true b (fun _=>rfl)
theorem Rk (fr:Bool) (h:Tr az) (s:ByteArray):ak.il fr h (.sc (.string s))=some s:=ak.J4 fr h true s (fun _=>rfl)
theorem zu {α:Type} (C:cr α) (fr:Bool) (h:Tr az) (a:AV) (h1:a.known=true) (h2:a.isAgg=false) (h3:a.cells=[a]):(cj C).il fr h a=g9 C fr h a:=by
 rw [zp _ _ _ _ h1 h2,h3];rfl
theorem aqr {α:Type} (C:cr α) (fr:Bool) (h:Tr az) (l:Bool) (xs:List α) (hl:(l || !fr)=true):(cj C).il fr h (.vl l C.sz (xs.map (C.val l)))=some xs:=by
 refine (cj C).J4 fr h l xs ?_
 cases fr<;>simp_all
theorem Zl {α:Type} (C:cr α) (fr:Bool) (h:Tr az):g9 C fr h (.sc (.slice none 0 0))=some []:=id rfl
theorem ve {α:Type} (C:cr α) (fr:Bool) (h:Tr az) (l:Bool) (xs:List α) (n:Nat) (hn:n=C.sz) (hl:(l || !fr)=true):g9 C fr h (.vl l n (xs.map (C.val l)))=some xs:=by
 subst hn
 have:(cj C).il fr h (.vl l C.sz (xs.map (C.val l)))=some xs:=aqr C fr h l xs hl
 rwa [zu C fr h _ rfl rfl rfl] at this
theorem afg {α:Type} (C:cr α) (fr:Bool) (h:Tr az) (o off len n:Nat):g9 C fr h (.sl o off len n)=bif decide (n=C.sz) then (h.get o).bind (mn C fr h off len) else none:=by
 show (bif Nat.beq n C.sz then _ else _)=_
 rw [aia]
theorem aut {α:Type} (C:cr α) (fr:Bool) (h:Tr az) (n:Nat) (l:List AV):x0 C fr h (n+1) l=match C.dec fr h (l.take C.sz),x0 C fr h n (l.drop C.sz) with|some x,some xs=>some (x::xs)|_,_=>none:=id rfl
theorem Rw (fr:Bool) (h:Tr az) (n:Int) (h0 : 0≤n) (h1:n<256):bu.dec fr h [.sc (.int .u8 n)]=some (UInt8.ofNat n.toNat):=by
 show u8V (.int .u8 n)=_;simp [u8V,h0,h1]
theorem ari {α β:Type} (A:cr α) (B:cr β) (l:Bool) (p : α × β):(r2 A B).E l p = .ea [A.val l p.1,B.val l p.2]:=id rfl
theorem asm {α:Type} (A:cr α) (l:Bool) (x : α):(r1 A).E l x=A.val l x:=id rfl
theorem Z2 (T:dx) (g:Nat) (a b:Array Value) (args:List AV):s6 T (.sc (.func (.func g) a b)) args=q8 T g (a.toList.map .sc++args++b.toList.map .sc):=id rfl
theorem X4 (T:dx) (g:Nat) (a b:List AV) (args:List AV):s6 T (.fn (.func g) a b) args=q8 T g (a++args++b):=id rfl
theorem Ux (f:Nat) (b:Bool) (m:List AV→M AV) (T:dx) (args:List AV):q8 ((f,b,m)::T) f args=mono (m args):=by simp [q8,dx.find]
theorem Q7 (f g:Nat) (b:Bool) (m:List AV→M AV) (T:dx) (args:List AV) (h:(f == g)=false):q8 ((f,b,m)::T) g args=q8 T g args:=by
 have:f≠g:=by simpa using h
 simp [q8,dx.find,ll this]
theorem aa1 {α:Type} (A:AC α) (F : α→Option AV) (args:List AV) (st:St):dh A F args st=match A.get .nil args with|some x=>(F x).map fun r=>(r,st)|none=>match A.get st.h args with|some x=>(match F x with|some r=>bif r.fresh then some (r,st) else none|none=>none)|none=>none:=id rfl
theorem ar0 {α β:Type} (A:cr α) (B:cr β) (fr:Bool) (h:Tr az) (a b:AV):(r2 A B).get fr h (.ea [a,b])=match A.il fr h a,B.il fr h b with|some x,some y=>some (x,y)|_,_=>none:=id rfl
theorem arz (h:Tr az):a0.get h []=some ():=id rfl
theorem ars {α β:Type} (C:cr α) (R:AC β) (h:Tr az) (a:AV) (r:List AV):(aC C R).get h (a::r)=match C.il false h a,R.get h r with|some x,some y=>some (x,y)|_,_=>none:=id rfl
theorem asz {α:Type} (A:cr α) (fr:Bool) (h:Tr az) (a:AV):(r1 A).get fr h a=A.il fr h a:=id rfl
end cods
section
variable (P : Program)
theorem Vw (pl:Nat→Option (Nat × Nat)) (cells:List AV):ub pl cells []=some cells:=id rfl
theorem P7 (pl:Nat→Option (Nat × Nat)) (cells:List AV) (i:Nat) (v:AV) (rest:List (Nat × AV)):ub pl cells ((i,v)::rest)=match pl i with
 |none=>none
 |some (off,size)=>bif !v.known || !(Nat.beq v.cells.length size) || !(Nat.ble (off+size) cells.length) then none else ub pl (cells.take off++v.cells++cells.drop (off+size)) rest:=id rfl
def Cj (t:TypeId):Option (List AV × List (Nat × Nat)):=
 match fc P t,P.underlying t with
 |some z,some (.struct fields)=>(F2 P fields).map fun pl=>(z.cells.toList.map .sc,pl)
 |_,_=>none
theorem Ry (t:TypeId) (ps:List (Nat × AV)):pw P t ps=match Cj P t with
 |some (z,pl)=>.of ((ub (fun i=>pl[i]?) z ps).map .agg)
 |none=>pw P t ps:=by
 cases hb:Cj P t with
 |none=>rfl
 |some q=>
  obtain ⟨z,pl⟩:=q
  simp only [Cj] at hb
  split at hb
  ·rename_i z' fs hz hu
   cases hp:F2 P fs with
   |none=>simp [hp] at hb
   |some pl'=>
    simp [hp] at hb
    obtain ⟨rfl,rfl⟩:=hb
    simp [pw,hz,hu,hp]
  ·cases hb
def Bd (t:TypeId):Option (TypeId × Nat × List AV):=
 match oi P t with
 |none=>none
 |some e=>
  match c9 P e,fc P e with
  |some sz,some z=>bif Nat.beq z.cells.size sz then some (e,sz,z.cells.toList.map .sc) else none
  |_,_=>none
theorem Dn (t:TypeId) (len:Nat) (ps:List (Nat × AV)):i7 P t len ps=match Bd P t with
 |some (e,sz,z)=>
  match ub (fun i=>some (i * sz,sz)) (List.replicate len z).flatten ps with
  |some cells=>bif Nat.ble (len * sz) 16777216 && Nat.ble len 16777216 then ka e sz len cells else .fail
  |none=>.fail
 |none=>i7 P t len ps:=by
 cases hb:Bd P t with
 |none=>rfl
 |some q=>
  obtain ⟨e,sz,z⟩:=q
  simp only [Bd] at hb
  split at hb
  ·cases hb
  ·rename_i e' he
   split at hb
   ·rename_i sz' z' hs hz
    cases hq:Nat.beq z'.cells.size sz' with
    |false=>simp [hq] at hb
    |true=>
     simp [hq] at hb
     obtain ⟨rfl,rfl,rfl⟩:=hb
     simp only [i7,he,hs,hz,hq,Bool.and_true]
     rfl
   ·cases hb
end
section ranges
variable (P : Program) (T : dx) (l ay : Nat) (R : Ff) (Q : QI) (pe : Option Ex) (L : SL) (st : St)
theorem Yz (f:Operand) (ps:Array Tmp) (a b:Code) (Q:QL):wl P T ay (.rangeFunc f ps a b) Q L st=akw P T f ps.toList (fun p=>wl P T p a) (fun p=>wl P T p b) ay Q L st:=id rfl
theorem Zo:oy P T l R ay .skip Q pe L st=Q .normal pe L st:=id rfl
theorem Sx (i:Nat) (ops:Array Oper):oy P T l R ay (.region i ops false) Q pe L st=C8 P T l R ay ops ops.toList (Q .normal) pe L st:=id rfl
theorem aep (a b:Code):oy P T l R ay (.seq a b) Q pe L st=oy P T l R ay a (Z3 (oy P T l R ay b) Q) pe L st:=id rfl
theorem X8 (c:Operand) (a b:Code):oy P T l R ay (.cond c a b) Q pe L st=Ag (cd L c) (oy P T l R ay a Q) (oy P T l R ay b Q) pe L st:=id rfl
theorem Ws (i:Nat) (a:Code):oy P T l R ay (.block i a) Q pe L st=oy P T l R ay a (Oc i Q) pe L st:=id rfl
theorem Zz (i:Nat):oy P T l R ay (.exit i) Q pe L st=Q (.exit i) pe L st:=id rfl
theorem ae1:oy P T l R ay .ret Q pe L st=Q .ret pe L st:=id rfl
theorem alg (W:QI→Option Ex→SL→St→Prop):Z3 W Q .normal pe L st=W Q pe L st:=id rfl
theorem al4 (W:QI→Option Ex→SL→St→Prop) (i:Nat):Z3 W Q (.exit i) pe L st=Q (.exit i) pe L st:=id rfl
theorem ak9 (W:QI→Option Ex→SL→St→Prop):Z3 W Q .ret pe L st=Q .ret pe L st:=id rfl
theorem amh (i:Nat):Oc i Q .normal pe L st=Q .normal pe L st:=id rfl
theorem ajp (i:Nat):Oc i Q .ret pe L st=Q .ret pe L st:=id rfl
theorem ald (i j:Nat):Oc i Q (.exit j) pe L st=if j=i then Q .normal pe L st else Q (.exit j) pe L st:=by
 show (bif Nat.beq j i then _ else _)=_
 rw [aia];by_cases h:j=i<;>simp [h]
theorem aem (Q':QL):xu Q' Q .normal pe L st=(pe=none∧Q' .normal L st):=id rfl
theorem aes (Q':QL) (i:Nat):xu Q' Q (.exit i) pe L st=Q (.exit i) pe L st:=id rfl
theorem afm (Q':QL):xu Q' Q .ret pe L st=Q .ret pe L st:=id rfl
theorem aer (Q:QL) (L0:SL):acd Q L0 .normal none L st=Q .normal L0 st:=id rfl
theorem afx (Q:QL) (L0:SL) (e:Ex):acd Q L0 .ret (some e) L st=Q e L0 st:=id rfl
theorem aae (ops:Array Oper) (K:Option Ex→SL→St→Prop):C8 P T l R ay ops [] K pe L st=K pe L st:=id rfl
theorem Vy (ops:Array Oper) (o:Oper) (r:List Oper) (K:Option Ex→SL→St→Prop):C8 P T l R ay ops (o::r) K pe L st=G5 ops o.guard (opI P T l R ay o (C8 P T l R ay ops r K)) (Tg o.dst (C8 P T l R ay ops r K)) pe L st:=id rfl
theorem Pa (ops:Array Oper) (X Y:Option Ex→SL→St→Prop):G5 ops none X Y pe L st=X pe L st:=id rfl
theorem Rp (ops:Array Oper) (j:Nat) (c:Bool) (X Y:Option Ex→SL→St→Prop):G5 ops (some (j,c)) X Y pe L st=aa2 (lk L (sk ops j)) c X Y pe L st:=id rfl
theorem ack (b:Bool) (X Y:Option Ex→SL→St→Prop):aa2 (.sc (.bool b)) true X Y pe L st=Ag (.sc (.bool b)) X Y pe L st:=by cases b<;>simp [aa2,yh,Ad,Eb,Ag,p0,AV.bool,AV.exact,od]
theorem afl (X Y:Option Ex→SL→St→Prop):Ag (.sc (.bool true)) X Y pe L st=X pe L st:=by simp [Ag,p0,AV.bool,AV.exact,od]
theorem af4 (X Y:Option Ex→SL→St→Prop):Ag (.sc (.bool false)) X Y pe L st=Y pe L st:=by simp [Ag,p0,AV.bool,AV.exact,od]
theorem vd (b:Bool) (X Y:Option Ex→SL→St→Prop):Ag (.sc (.bool b)) X Y pe L st=((b=true→X pe L st)∧(b=false→Y pe L st)):=by simp [Ag,p0,AV.bool,AV.exact,od]
theorem Sd (d:Option Tmp) (K:Option Ex→SL→St→Prop):Tg d K pe L st=K pe (gm d (.sc undef) L) st:=id rfl
theorem ame (o:Oper) (K:Option Ex→SL→St→Prop):opI P T l R ay o K pe L st=Tq P T R ay o K pe L st (yieldOf l o L):=id rfl
theorem aje (o:Oper) (K:Option Ex→SL→St→Prop):Tq P T R ay o K pe L st none=Ft (fm P T o (cd L) st) o.dst L (K pe):=id rfl
theorem ac0 (d:Option Tmp) (K:Option Ex→SL→St→Prop):Yv d L K .normal st=K none (gm d (.sc (.bool true)) L) st:=id rfl
theorem aba (d:Option Tmp) (K:Option Ex→SL→St→Prop):Yv d L K .ret st=K (some .ret) (gm d (.sc (.bool false)) L) st:=id rfl
theorem ae9 (B:QL→SL→St→Prop) (X:Ex→St→Prop):apm B X .normal L st=B (fun e _ st=>X e st) L st:=id rfl
theorem Vl (k:Nat) (va vb:Array Value):zt l (.sc (.func (.yield k) va vb))=(Nat.beq k l && Nat.beq va.size 0 && Nat.beq vb.size 0):=id rfl
theorem Nf:w8 [] [] L=L:=id rfl
theorem Kc (t:Nat) (ts:List Nat) (v:AV) (vs:List AV):w8 (t::ts) (v::vs) L=w8 ts vs ((t,v)::L):=id rfl
theorem aoj {α:Type} {b:Code} (keep:List Nat) (V : α→List AV) (O : α→List (Option az)) (I : α→Prop) (μ : α→Nat) (x : α) (hx:I x) (hR:∀ p args (X X':Ex→St→Prop) st,(∀ e st,X e st→X' e st)→R p args X st→R p args X' st)
 (hv:cy ay keep L st=V x) (ho:fy ay keep L st=O x)
 (step:∀ x,I x→oy P T l R ay b (xu (wo ay keep (fun vs os=>∃ y,I y ∧ μ y < μ x∧vs=V y∧os=O y) (fun _ _ _=>False)) Q) none (l8 keep (V x)) (bj (O x))):oy P T l R ay (.loop b) Q none L st:=
 ⟨rfl,qz.of (B:=fun Q' L st=>oy P T l R ay b (xu Q' Q) none L st) keep V O I μ x hx hv ho (fun Q1 Q2 h L st hh=>N9 hR b _ _ (fun e pe L st q=>by
  cases e with
  |normal=>exact ⟨q.1,h _ _ _ q.2⟩
  |ret=>exact q
  |exit i=>exact q) none L st hh) step⟩
theorem M6 {ps:List Tmp} {a b:Code} {L0:SL}:∀ p args (X X':Ex→St→Prop) st,(∀ e st,X e st→X' e st)→nf ps (fun p=>wl P T p a) (fun p=>wl P T p b) L0 p args X st→nf ps (fun p=>wl P T p a) (fun p=>wl P T p b) L0 p args X' st:=
 fun p args X X' st hX hr=>⟨hr.1,hr.2.1,F5 _ _ _ (fun e L st q=>by
  cases e with
  |normal=>exact F5 _ _ _ (fun e _ st q=>hX e st q) _ _ q
  |_=>exact q.elim) _ _ hr.2.2⟩
end ranges
section yields
variable {lp : Nat} {L : SL} {d : Option Tmp} {ty : TypeId} {pos : String} {af : Array Edge} {gd : Option (Nat × Bool)}
theorem Jo (x):yieldOf lp ⟨d,.move x,ty,pos,af,gd⟩ L=none:=id rfl
theorem Ga (x):yieldOf lp ⟨d,.assign x,ty,pos,af,gd⟩ L=none:=id rfl
theorem I3 (t a):yieldOf lp ⟨d,.load t a,ty,pos,af,gd⟩ L=none:=id rfl
theorem Bm (s x f):yieldOf lp ⟨d,.fieldAddr s x f,ty,pos,af,gd⟩ L=none:=id rfl
theorem H5 (op t x y u):yieldOf lp ⟨d,.binOp op t x y u,ty,pos,af,gd⟩ L=none:=id rfl
theorem Jm (c a b):yieldOf lp ⟨d,.pick c a b,ty,pos,af,gd⟩ L=none:=id rfl
theorem Hu (t a x):yieldOf lp ⟨d,.store t a x,ty,pos,af,gd⟩ L=none:=id rfl
theorem Bo (t x i):yieldOf lp ⟨d,.indexAddr t x i,ty,pos,af,gd⟩ L=none:=id rfl
theorem Ht (t):yieldOf lp ⟨d,.alloc t,ty,pos,af,gd⟩ L=none:=id rfl
theorem Ke (op t x):yieldOf lp ⟨d,.unOp op t x,ty,pos,af,gd⟩ L=none:=id rfl
theorem Me (x ts):yieldOf lp ⟨d,.call { callee:=.builtin .len,args:=#[x],argTypes:=ts },ty,pos,af,gd⟩ L=none:=id rfl
theorem Jj (f:Operand) (args:Array Operand) (ts:Array TypeId):yieldOf lp ⟨d,.call { callee:=.value f,args:=args,argTypes:=ts },ty,pos,af,gd⟩ L=bif zt lp (cd L f) then some args else none:=id rfl
end yields
end
end Go.Vm
namespace Go.Vm
noncomputable section
section
variable (P : Program) (ρ : Operand → AV) (d : Option Tmp) (ty : TypeId) (pos : String) (af : Array Edge) (gd : Option (Nat × Bool)) (t u : TypeId) (x y : Operand)
theorem Ij (op:BinOp) (k k':IntKind) (a b:Int) (hx : ρ x = .sc (.int k a)) (hy : ρ y = .sc (.int k' b)) :
 mo P ρ ⟨d,.binOp op t x y u,ty,pos,af,gd⟩ op t (.sc (.int k a)) (.sc (.int k' b))=M.of ((ev P (binOp op t (.int k a) (.int k' b))).map .sc):=by
 have h1:∀ s:Sem Value,ev P (do pure (Next.value (← s)))=(ev P s).map Next.value:=by
  intro s
  induction s with
  |pure b=>rfl
  |program k ih=>exact ih P
  |choose q k ih=>
   simp only [bind,Sem.bind,ev]
   split
   ·exact ih 0
   ·rfl
  |mark m k ih=>exact ih
  |_=>rfl
 have h2:execOp (fun z=>((ρ z).gk).getD undef) ⟨d,.binOp op t x y u,ty,pos,af,gd⟩=(do pure (Next.value (← (do eqGuard op t x y (.int k a) (.int k' b);binOp op t (.int k a) (.int k' b))))):=by
  simp only [execOp,hx,hy,AV.gk,Option.getD_some]
 have h3:ev P (do eqGuard op t x y (.int k a) (.int k' b);binOp op t (.int k a) (.int k' b))=ev P (binOp op t (.int k a) (.int k' b)):=by
  cases op<;>rfl
 unfold mo s7
 simp only [AV.gk,Option.isSome_some,Bool.and_self,cond_true]
 rw [h2,h1,h3]
 cases ev P (binOp op t (.int k a) (.int k' b))<;>rfl
theorem ak2 (k k':IntKind) (a b:Int) (h : 0≤b):ev P (binOp .shl t (.int k a) (.int k' b))=some (.int k (k.wrap (a * 2 ^ (min b.toNat k.bits)))):=by
 have:¬ b<0:=by omega
 simp [binOp,Op.shift,this,zb]
theorem aka (k k':IntKind) (a b:Int) (h : 0≤b):ev P (binOp .shr t (.int k a) (.int k' b))=some (.int k (a.fdiv (2 ^ (min b.toNat k.bits)))):=by
 have:¬ b<0:=by omega
 simp [binOp,Op.shift,this,zb]
theorem anj {d:TypeDesc} (h:P.underlying t=some d):ev P (underlying t)=some d:=by
 rw [underlying]
 show ev P (match P.underlying t with|some d=>pure d|none=>_)=_
 rw [h];rfl
theorem Jr (op:BinOp) (a b:ByteArray) (hx : ρ x = .sc (.string a)) (hy : ρ y = .sc (.string b)) :
 mo P ρ ⟨d,.binOp op t x y u,ty,pos,af,gd⟩ op t (.sc (.string a)) (.sc (.string b))=M.of ((ev P (binOp op t (.string a) (.string b))).map .sc):=by
 have h1:∀ s:Sem Value,ev P (do pure (Next.value (← s)))=(ev P s).map Next.value:=by
  intro s
  induction s with
  |pure b=>rfl
  |program k ih=>exact ih P
  |choose q k ih=>
   simp only [bind,Sem.bind,ev]
   split
   ·exact ih 0
   ·rfl
  |mark m k ih=>exact ih
  |_=>rfl
 have h2:execOp (fun z=>((ρ z).gk).getD undef) ⟨d,.binOp op t x y u,ty,pos,af,gd⟩=(do pure (Next.value (← (do eqGuard op t x y (.string a) (.string b);binOp op t (.string a) (.string b))))):=by
  simp only [execOp,hx,hy,AV.gk,Option.getD_some]
 have h3:ev P (do eqGuard op t x y (.string a) (.string b);binOp op t (.string a) (.string b))=ev P (binOp op t (.string a) (.string b)):=by
  cases op<;>rfl
 unfold mo s7
 simp only [AV.gk,Option.isSome_some,Bool.and_self,cond_true]
 rw [h2,h1,h3]
 cases ev P (binOp op t (.string a) (.string b))<;>rfl
theorem str_eq (a b:ByteArray):(a.toList == b.toList)=decide (a=b):=by
 rw [ByteArray.toList_eq,ByteArray.toList_eq,Bool.eq_iff_iff]
 simp only [beq_iff_eq,decide_eq_true_eq]
 constructor
 ·intro h
  cases a;cases b
  congr 1
  exact Array.ext' h
 ·intro h;rw [h]
theorem Rm (a b:ByteArray):ev P (binOp .eql t (.string a) (.string b))=some (.bool (decide (a=b))):=by
 rw [← str_eq];rfl
theorem O5 (a b:ByteArray):ev P (binOp .neq t (.string a) (.string b))=some (.bool (!decide (a=b))):=by
 rw [← str_eq];rfl
end
def La (u:Option TypeDesc):Bool:=match u with|some (.slice _)=>true|_=>false
theorem aey (e):La (some (.slice e))=true:=id rfl
theorem agi {u} (h:La u=true):∃ e,u=some (.slice e):=by
 unfold La at h;split at h
 ·exact ⟨_,rfl⟩
 ·cases h
theorem aff {P:Program} {t op x y} (h:La (P.underlying t)=true):Ei P t op x y=B4 op x y:=by
 obtain ⟨e,he⟩:=agi h
 unfold Ei;rw [he]
theorem Pz (P:Program) (ρ o op t l sz es b):mo P ρ o op t (.vl l sz es) b=Ei P t op (.vl l sz es) b:=id rfl
theorem afd (b):nv .eql b=M.pure (.sc (.bool b)):=id rfl
theorem Fe (P:Program) (ρ:Operand→AV) (d ty pos af gd) (t u:TypeId) (x y:Operand) (op:BinOp) (a b:Option Addr) (n c m k:Nat) (hx : ρ x = .sc (.slice a n c)) (hy : ρ y = .sc (.slice b m k)) :
 mo P ρ ⟨d,.binOp op t x y u,ty,pos,af,gd⟩ op t (.sc (.slice a n c)) (.sc (.slice b m k))=M.of ((ev P (binOp op t (.slice a n c) (.slice b m k))).map .sc):=by
 have h1:∀ s:Sem Value,ev P (do pure (Next.value (← s)))=(ev P s).map Next.value:=by
  intro s
  induction s with
  |pure b=>rfl
  |program k ih=>exact ih P
  |choose q k ih=>
   simp only [bind,Sem.bind,ev]
   split
   ·exact ih 0
   ·rfl
  |mark m k ih=>exact ih
  |_=>rfl
 have h2:execOp (fun z=>((ρ z).gk).getD undef) ⟨d,.binOp op t x y u,ty,pos,af,gd⟩=(do pure (Next.value (← (do eqGuard op t x y (.slice a n c) (.slice b m k);binOp op t (.slice a n c) (.slice b m k))))):=by
  simp only [execOp,hx,hy,AV.gk,Option.getD_some]
 have h3:ev P (do eqGuard op t x y (.slice a n c) (.slice b m k);binOp op t (.slice a n c) (.slice b m k))=ev P (binOp op t (.slice a n c) (.slice b m k)):=by
  cases op<;>rfl
 unfold mo s7
 simp only [AV.gk,Option.isSome_some,Bool.and_self,cond_true]
 rw [h2,h1,h3]
 cases ev P (binOp op t (.slice a n c) (.slice b m k))<;>rfl
theorem Xi {P:Program} {t:TypeId} {a:Option Addr} {n c m k:Nat} (d:Nat) (h:La (P.underlying t)=true):ev P (Op.equalIn (d+1) t (.slice a n c) (.slice none m k))=some a.isNone:=by
 obtain ⟨e,he⟩:=agi h
 simp only [Op.equalIn]
 rw [u1,anj P t he]
 cases a<;>rfl
theorem Kx {P:Program} {t:TypeId} {a:Option Addr} {n c m k:Nat} (h:La (P.underlying t)=true):ev P (binOp .eql t (.slice a n c) (.slice none m k))=some (.bool a.isNone):=by
 show ev P (do pure (Value.bool (← Op.equalIn (9999+1) t (.slice a n c) (.slice none m k))))=_
 rw [u1,Xi 9999 h]
 rfl
end
end Go.Vm
namespace Go.Vm
noncomputable section
abbrev Name:=List ByteArray
structure bq where
 names:List Name
 nums:List UInt32
 texts:List ByteArray
 raw:List UInt8
def mkD (a:List Name) (b:List UInt32) (c:List ByteArray) (e:List UInt8):bq:=⟨a,b,c,e⟩
theorem afi (d:bq):mkD d.names d.nums d.texts d.raw=d:=id rfl
noncomputable def aw:cr Name:=cj ak
noncomputable def aq:cr bq:=Dj (oe (cj aw) (oe (cj c0) (oe aw (cj bu)))) (fun d=>(d.names,d.nums,d.texts,d.raw)) (fun p=>⟨p.1,p.2.1,p.2.2.1,p.2.2.2⟩) (fun _=>rfl) (fun _=>rfl)
theorem dy (l:Bool) (n:Name):aw.val l n = .vl l 1 (n.map (ak.val l)):=id rfl
theorem vo:aw.sz=1:=id rfl
theorem Qa:aq.sz=4:=id rfl
theorem ky (l:Bool) (d:bq):aq.val l d = .agg [.vl l 1 (d.names.map (aw.val l)),.vl l 1 (d.nums.map (c0.val l)),.vl l 1 (d.texts.map (ak.val l)),.vl l 1 (d.raw.map (bu.val l))]:=id rfl
theorem My (fr:Bool) (h:Tr az) (x1 x2 x3 x4:AV) :
 aq.il fr h (.agg [x1,x2,x3,x4])=match g9 aw fr h x1,g9 c0 fr h x2,g9 ak fr h x3,g9 bu fr h x4 with
  |some a,some b,some c,some e=>some (mkD a b c e)
  |_,_,_,_=>none:=by
 rw [zp _ _ _ _ rfl rfl]
 have h1:aq.dec fr h (AV.agg [x1,x2,x3,x4]).cells=Option.map (fun p=>(⟨p.1,p.2.1,p.2.2.1,p.2.2.2⟩:bq)) ((oe (cj aw) (oe (cj c0) (oe aw (cj bu)))).dec fr h [x1,x2,x3,x4]):=rfl
 have d2:∀ {α β:Type} (A:cr α) (B:cr β) (l:List AV),(oe A B).dec fr h l=match A.dec fr h (l.take A.sz),B.dec fr h (l.drop A.sz) with|some x,some y=>some (x,y)|_,_=>none:=fun _ _ _=>rfl
 have l1:∀ {α:Type} (C:cr α) (x:AV),(cj C).dec fr h [x]=g9 C fr h x:=fun _ _=>rfl
 have n1:∀ x,aw.dec fr h [x]=g9 ak fr h x:=fun _=>rfl
 rw [h1]
 simp only [d2,B9,vo,List.take_succ_cons,List.take_zero,List.drop_succ_cons,List.drop_zero,l1,n1]
 cases g9 aw fr h x1<;>cases g9 c0 fr h x2<;>cases g9 ak fr h x3<;>cases g9 bu fr h x4<;>rfl
theorem J7 {α:Type} (C:cr α) (fr:Bool) (h:Tr az) (l:Bool) (n:Nat) (es:List AV):(cj C).il fr h (.vl l n es)=g9 C fr h (.vl l n es):=zu C fr h _ rfl rfl rfl
theorem Kw {α:Type} (C:cr α) (fr:Bool) (h:Tr az) (o off len n:Nat):(cj C).il fr h (.sl o off len n)=g9 C fr h (.sl o off len n):=zu C fr h _ rfl rfl rfl
theorem Bc {α:Type} (C:cr α) (fr:Bool) (h:Tr az):(cj C).il fr h (.sc (.slice none 0 0))=some []:=by
 rw [zu C fr h _ rfl rfl rfl];rfl
theorem Ej (fr:Bool) (h:Tr az) (l:Bool) (n:Nat) (es:List AV):aw.il fr h (.vl l n es)=g9 ak fr h (.vl l n es):=zu ak fr h _ rfl rfl rfl
theorem Dm (fr:Bool) (h:Tr az) (o off len n:Nat):aw.il fr h (.sl o off len n)=g9 ak fr h (.sl o off len n):=zu ak fr h _ rfl rfl rfl
theorem C1 (fr:Bool) (h:Tr az):aw.il fr h (.sc (.slice none 0 0))=some []:=Bc ak fr h
theorem Cp (l:List UInt8):l.map ze=l.map (bu.val false):=id rfl
theorem Jn {α:Type} (C:cr α) (b:Bool) (l:List α):AV.names.go (l.map (C.val b))=[]:=Et (fun c hc=>by
 obtain ⟨x,_,rfl⟩:=List.mem_map.1 hc
 exact J2 C b x)
theorem v7:∀ (l:List UInt8) (b:Bool),bytesOf (l.map (bu.val b))=some l
 | [],_=>rfl
 |c::l,b=>by
  rw [List.map_cons,Dy,bytesOf,v7 l b]
  simp
end
end Go.Vm
section
namespace Go.Vm.Cx
open Go.Vm
noncomputable section
theorem A2 {P:Program} (w:World):∀ (ns:List Int) (a:Addr) (i:Nat) (acc:ByteArray),(∀ (j:Nat) x,ns[j]? = some x→(load (a.add (i+j))).run P w = .ok (.int .u8 x) w) →
 (Extern.Bytes.loadBytes (a.add i) ns.length acc).run P w = .ok ⟨acc.data++(ns.map fun n=>UInt8.ofNat n.toNat).toArray⟩ w
 | [],a,i,acc,_=>by simp [Extern.Bytes.loadBytes]
 |x::l,a,i,acc,h=>by
  have h0:=h 0 x rfl
  rw [Nat.add_zero] at h0
  have e:(a.add i).add 1=a.add (i+1):=by
   unfold Addr.add
   by_cases hj:i=0
   ·subst hj;simp
   ·simp [hj];omega
  have ih:=A2 (P:=P) w l a (i+1) (acc.push x.toNat.toUInt8) (fun j y hy=>by
   have:=h (j+1) y (by simpa using hy)
   rw [show i+1+j=i+(j+1) from by omega];exact this)
  simp only [List.length_cons,Extern.Bytes.loadBytes,Sem.run_bind,h0,Result.andThen]
  rw [e,ih]
  congr 1
  apply ByteArray.ext
  simp [ByteArray.push,Nat.toUInt8]
theorem T9 {l:List Int} {l':List Value} (h:l'=l.map (Value.int .u8)) (j:Nat) (x:Int) (hx:l[j]? = some x):l'[j]? = some (.int .u8 x):=by rw [h,List.getElem?_map,hx];rfl
theorem Ao {P:Program} {g st bh w} {a:AV} {v:Value} {l:List AV} {bs:List UInt8} (hok:Ok g st.h w) (hr:Rel g w a v) (h:cellsIn 1 a st=some (l,bh)) (hb:bytesOf l=some bs) :
 (Extern.Bytes.bytesOf v).run P w = .ok ⟨bs.toArray⟩ w:=by
 obtain ⟨_,_,n,news,hsrc,hrl⟩:=u7 (P:=P) hok hr h
 obtain ⟨ns,e1,e2⟩:=Bp _ _ _ hrl hb
 obtain ⟨r1,r2⟩:=hsrc.run w rfl
 cases v with
 |slice p len cap=>
  have hn:n=len:=by simp [Builtin.lenOf] at r1;exact r1.symm
  subst hn
  cases p with
  |none=>
   have:news=[]:=by simpa [Builtin.firstCells] using r2
   subst this
   have:ns=[]:=by simpa using e1.symm
   subst this
   subst e2
   rfl
  |some a=>
   simp only [Builtin.firstCells,Nat.mul_one] at r2
   unfold loadCells at r2
   obtain ⟨l',q1,q2,q3⟩:=loadCellsFrom_ok a n 0 #[] _ _ r2
   have hl':l'=news:=by simpa using q2.symm
   subst hl'
   have hlen:ns.length=n:=by rw [← q1,e1,List.length_map]
   have:=A2 (P:=P) w ns a 0 .empty (fun j x hx=>by
    exact q3 j _ (T9 e1 j x hx))
   rw [hlen] at this
   have e0:a.add 0=a:=by simp [Addr.add]
   rw [e0] at this
   show (Extern.Bytes.loadBytes a n .empty).run P w=_
   rw [this,e2]
   congr 2
   simp [ByteArray.empty,ByteArray.emptyWithCapacity]
   rfl
 |string s=>
  have hn:n=s.size:=by simp [Builtin.lenOf] at r1;exact r1.symm
  subst hn
  simp only [Builtin.firstCells,Sem.run_pure,Result.ok.injEq,and_true] at r2
  have h1:=congrArg Array.toList r2
  rw [e1] at h1
  show Result.ok s w=_
  congr 1
  apply ByteArray.ext
  apply Array.ext'
  rw [e2]
  have h2:=congrArg (List.map fun v:Value=>match v with|.int _ n=>UInt8.ofNat n.toNat|_=>0) h1
  simp only [List.map_map,Array.toList_map] at h2
  have h3:(s.extract 0 s.size).data.toList=s.data.toList:=by simp
  rw [h3] at h2
  have h4:(List.map ((fun v:Value=>match v with|.int _ n=>UInt8.ofNat n.toNat|_=>0) ∘ fun b:UInt8=>Value.int .u8 (b.toNat:Int)) s.data.toList)=s.data.toList:=by
   rw [show ((fun v:Value=>match v with|.int _ n=>UInt8.ofNat n.toNat|_=>0) ∘ fun b:UInt8=>Value.int .u8 (b.toNat:Int))=id from by funext b;simp]
   simp
  rw [h4] at h2
  rw [h2]
  simp
 |_=>simp [Builtin.lenOf,stuck] at r1
def El (args:List AV):M AV:=
 match args with
 | [a]=>.pure a
 |_=>.fail
def i6 (args:List AV):M AV:=
 match args with
 | [a,b]=>(cellsIn 1 a).bind fun x=>(cellsIn 1 b).bind fun y=>
  match bytesOf x with
  |some x=>
   match bytesOf y with
   |some y=>.pure (.sc (goInt (Lib.compareBytes x y)))
   |none=>.fail
  |none=>.fail
 |_=>.fail
def du {α:Type} (m:M α):Prop:=∀ st v bh,m st=some (v,bh)→bh.h=st.h∧bh.nx=st.nx
theorem du.pure {α:Type} (a : α):du (M.pure a):=fun st v bh h=>by cases h;exact ⟨rfl,rfl⟩
theorem du.fail {α:Type}:du (M.fail:M α):=fun st v bh h=>by cases h
theorem du.bind {α β:Type} {m:M α} {f : α→M β} (hm:du m) (h:∀ x,du (f x)):du (m.bind f):=fun st v bh hb=>by
 obtain ⟨x,s1,h1,h2⟩:=bind_some hb
 have h3:=hm _ _ _ h1
 have h4:=h x _ _ _ h2
 exact ⟨h4.1.trans h3.1,h4.2.trans h3.2⟩
theorem du.cg (id:Nat):du (Vm.cg id):=fun _st _v _st1 h=>(fp h).2
theorem du.cond {α:Type} {b:Bool} {x y:M α} (hx:du x) (hy:du y):du (bif b then x else y):=by cases b<;>assumption
theorem du.cellsIn (sz:Nat) (v:AV):du (Vm.cellsIn sz v):=by
 unfold Vm.cellsIn wx
 repeat' (first|exact du.pure _|exact du.fail|apply du.cond|(refine du.bind (du.cg _) fun x=>?_)|split)
theorem z5 (args:List AV):du (i6 args):=by
 unfold i6;split
 ·exact du.bind (du.cellsIn _ _) fun x=>du.bind (du.cellsIn _ _) fun y=>by
   split
   ·split
    ·exact du.pure _
    ·exact du.fail
   ·exact du.fail
 ·exact du.fail
theorem Vz {P:Program} {f:Nat} {fn:Func} (hf:P.funcs[f]? = some fn) (h1:(fn.name == "runtime.NumGoroutine")=false) (h2:fn.body.isNone=true) (h3:Extern.findNext fn=none) (h4:Extern.find fn=some Extern.AbiNoEscape.same) (args:List AV) :
 Aa P f args (El args):=by
 intro g st w vs r st' hok hfree hrel hm
 refine .inl ?_
 unfold El at hm
 split at hm
 ·rename_i a
  cases hm
  obtain ⟨v,rfl,hv⟩:=De hrel
  refine ⟨v,w,g,?_,.refl _ _ _ _ _,hok,hv⟩
  rw [run_callFunc_extern hf h1 h2 h3 h4]
  rfl
 ·cases hm
theorem ya {P:Program} {f:Nat} {fn:Func} (hf:P.funcs[f]? = some fn) (h1:(fn.name == "runtime.NumGoroutine")=false) (h2:fn.body.isNone=true) (h3:Extern.findNext fn=none) (h4:Extern.find fn=some Extern.BytealgCompare.compare) (args:List AV) :
 Aa P f args (i6 args):=by
 intro g st w vs r st' hok hfree hrel hm
 refine .inl ?_
 have hst:=z5 _ _ _ _ hm
 unfold i6 at hm
 split at hm
 ·rename_i a c
  obtain ⟨x,s1,e1,hm⟩:=bind_some hm
  obtain ⟨y,s2,e2,hm⟩:=bind_some hm
  cases hx:bytesOf x with
  |none=>rw [hx] at hm;cases hm
  |some bx=>
  cases hy:bytesOf y with
  |none=>rw [hx,hy] at hm;cases hm
  |some yb=>
  rw [hx,hy] at hm
  cases hm
  have hh:=du.cellsIn _ _ _ _ _ e1
  match vs,hrel with
  | [v,u],hrel=>
   have r1:=Ao (P:=P) hok hrel.head e1 hx
   have r2:=Ao (P:=P) (st:=s1) (by rw [hh.1];exact hok) hrel.tail.head e2 hy
   refine ⟨goInt (Lib.compareBytes bx yb),w,g,?_,?_,?_,.sc _⟩
   ·rw [run_callFunc_extern hf h1 h2 h3 h4]
    have:(Extern.BytealgCompare.compare #[v,u]).run P w = .ok (goInt (Lib.compareBytes bx yb)) w:=by
     change Sem.run P (do pure (goInt (Extern.BytealgCompare.cmp (← Extern.Bytes.bytesOf v) (← Extern.Bytes.bytesOf u)))) w=_
     simp only [Sem.run_bind,r1,r2,Result.andThen,Sem.run_pure]
     rw [Lib.cmp_eq]
    show ((Extern.BytealgCompare.compare #[v,u]).run P w).andThen _=_
    rw [this]
    rfl
   ·rw [hst.1,hst.2];exact .refl _ _ _ _ _
   ·rw [hst.1];exact hok
  | [],hrel=>have:=hrel.1;simp at this
  | [v],hrel=>have:=hrel.1;simp at this
  |_::_::_::_,hrel=>have:=hrel.1;simp at this
 ·cases hm
end
end Go.Vm.Cx
end
section
set_option linter.unnecessarySimpa false
namespace Go.Vm
noncomputable section
def roT (o:Option (Bool × (List AV→M AV))):Bool:=match o with|some (b,_)=>b|none=>false
theorem apf (b m):roT (some (b,m))=b:=id rfl
theorem ee {o:Oper} {L:SL} {x:Operand} (h:x ∈ o.op.operands):bz o L x=cd L x:=by
 cases x with
 |tmp t=>
  show (bif o.op.operands.any (fun x=>match x with|.tmp u=>Nat.beq u t|_=>false) then lk L t else .bad)=lk L t
  have:o.op.operands.any (fun x=>match x with|.tmp u=>Nat.beq u t|_=>false)=true:=by
   rw [Array.any_eq_true']
   exact ⟨_,h,by simp⟩
  rw [this];rfl
 |const v=>rfl
 |global g=>rfl
 |func f=>rfl
theorem ic {o:Oper} {L:SL} {l:List Operand} (h:∀ x ∈ l,x ∈ o.op.operands):l.map (bz o L)=l.map (cd L):=List.map_congr_left fun x hx=>ee (h x hx)
theorem Mn {o:Oper} {L:SL} {l:List (Nat × Operand)} (h:∀ x ∈ l,x.2 ∈ o.op.operands):l.map (fun p=>(p.1,bz o L p.2))=l.map (fun p=>(p.1,cd L p.2)):=List.map_congr_left fun x hx=>by rw [ee (h x hx)]
def fe (ro:Bool) (F:List Nat) (o:Oper) (recs:List Rec) (K:List Rec→SL→St→Prop) (L:SL) (st:St) (m:M AV):Prop:=Da ro F o recs K L st (m { h:=jw st.h F,nx:=st.nx,rl:=[],wl:=[] })
theorem Vq (ro F o recs K L st m):fe ro F o recs K L st m=Da ro F o recs K L st (m { h:=jw st.h F,nx:=st.nx,rl:=[],wl:=[] }):=id rfl
section ops
variable (P : Program) (T : dx) (L : SL) (st : St) (recs : List Rec) (K : List Rec → SL → St → Prop) (d : Option Tmp) (ty : TypeId) (pos : String) (af : Array Edge) (gd : Option (Nat × Bool))
theorem aan (x):gj P T ⟨d,.move x,ty,pos,af,gd⟩ recs K L st=fe (true) ([]) ⟨d,.move x,ty,pos,af,gd⟩ recs K L st (mono (M.pure (cd L x))):=by
 unfold gj ku ml fe
 simp only [jk,cond_true]
 have hm:∀ y,y ∈ ([x]:List Operand)→bz ⟨d,.move x,ty,pos,af,gd⟩ L y=cd L y:=fun y hy=>ee (by simpa [Op.operands,Call.operands] using hy)
 have hmap:([x]:List Operand).map (bz ⟨d,.move x,ty,pos,af,gd⟩ L)=([x]:List Operand).map (cd L):=ic (fun y hy=>by simpa [Op.operands,Call.operands] using hy)
 have ho:(⟨d,.move x,ty,pos,af,gd⟩:Oper).op.operands.toList=[x]:=by simp [Op.operands,Call.operands]
 rw [Gs,hm x (by simp)]
 rfl
theorem Sh (x):gj P T ⟨d,.assign x,ty,pos,af,gd⟩ recs K L st=fe (true) ([]) ⟨d,.assign x,ty,pos,af,gd⟩ recs K L st (mono (M.pure (cd L x))):=by
 unfold gj ku ml fe
 simp only [jk,cond_true]
 have hm:∀ y,y ∈ ([x]:List Operand)→bz ⟨d,.assign x,ty,pos,af,gd⟩ L y=cd L y:=fun y hy=>ee (by simpa [Op.operands,Call.operands] using hy)
 have hmap:([x]:List Operand).map (bz ⟨d,.assign x,ty,pos,af,gd⟩ L)=([x]:List Operand).map (cd L):=ic (fun y hy=>by simpa [Op.operands,Call.operands] using hy)
 have ho:(⟨d,.assign x,ty,pos,af,gd⟩:Oper).op.operands.toList=[x]:=by simp [Op.operands,Call.operands]
 rw [Dh,hm x (by simp)]
 rfl
theorem aar (t a):gj P T ⟨d,.load t a,ty,pos,af,gd⟩ recs K L st=fe (true) ((cd L a).names) ⟨d,.load t a,ty,pos,af,gd⟩ recs K L st (mono (i9 P t (cd L a))):=by
 unfold gj ku ml fe
 simp only [jk,cond_false]
 have hm:∀ y,y ∈ ([a]:List Operand)→bz ⟨d,.load t a,ty,pos,af,gd⟩ L y=cd L y:=fun y hy=>ee (by simpa [Op.operands,Call.operands] using hy)
 have hmap:([a]:List Operand).map (bz ⟨d,.load t a,ty,pos,af,gd⟩ L)=([a]:List Operand).map (cd L):=ic (fun y hy=>by simpa [Op.operands,Call.operands] using hy)
 have ho:(⟨d,.load t a,ty,pos,af,gd⟩:Oper).op.operands.toList=[a]:=by simp [Op.operands,Call.operands]
 rw [G9,hm a (by simp)]
 rfl
theorem H6 (s x f):gj P T ⟨d,.fieldAddr s x f,ty,pos,af,gd⟩ recs K L st=fe (true) ([]) ⟨d,.fieldAddr s x f,ty,pos,af,gd⟩ recs K L st (mono (j3 P s (cd L x) f)):=by
 unfold gj ku ml fe
 simp only [jk,cond_true]
 have hm:∀ y,y ∈ ([x]:List Operand)→bz ⟨d,.fieldAddr s x f,ty,pos,af,gd⟩ L y=cd L y:=fun y hy=>ee (by simpa [Op.operands,Call.operands] using hy)
 have hmap:([x]:List Operand).map (bz ⟨d,.fieldAddr s x f,ty,pos,af,gd⟩ L)=([x]:List Operand).map (cd L):=ic (fun y hy=>by simpa [Op.operands,Call.operands] using hy)
 have ho:(⟨d,.fieldAddr s x f,ty,pos,af,gd⟩:Oper).op.operands.toList=[x]:=by simp [Op.operands,Call.operands]
 rw [yq,hm x (by simp)]
 rfl
theorem Uf (op t x y u):gj P T ⟨d,.binOp op t x y u,ty,pos,af,gd⟩ recs K L st=fe (true) ([]) ⟨d,.binOp op t x y u,ty,pos,af,gd⟩ recs K L st (mono (wk P (bz ⟨d,.binOp op t x y u,ty,pos,af,gd⟩ L) ⟨d,.binOp op t x y u,ty,pos,af,gd⟩ op t x y)):=by
 unfold gj ku ml fe
 simp only [jk,cond_true]
 have hm:∀ y,y ∈ ([x,y]:List Operand)→bz ⟨d,.binOp op t x y u,ty,pos,af,gd⟩ L y=cd L y:=fun y hy=>ee (by simpa [Op.operands,Call.operands] using hy)
 have hmap:([x,y]:List Operand).map (bz ⟨d,.binOp op t x y u,ty,pos,af,gd⟩ L)=([x,y]:List Operand).map (cd L):=ic (fun y hy=>by simpa [Op.operands,Call.operands] using hy)
 have ho:(⟨d,.binOp op t x y u,ty,pos,af,gd⟩:Oper).op.operands.toList=[x,y]:=by simp [Op.operands,Call.operands]
 rfl
theorem abj (c a b):gj P T ⟨d,.pick c a b,ty,pos,af,gd⟩ recs K L st=fe (true) ([]) ⟨d,.pick c a b,ty,pos,af,gd⟩ recs K L st (mono (tl (cd L c) (cd L a) (cd L b))):=by
 unfold gj ku ml fe
 simp only [jk,cond_true]
 have hm:∀ y,y ∈ ([c,a,b]:List Operand)→bz ⟨d,.pick c a b,ty,pos,af,gd⟩ L y=cd L y:=fun y hy=>ee (by simpa [Op.operands,Call.operands] using hy)
 have hmap:([c,a,b]:List Operand).map (bz ⟨d,.pick c a b,ty,pos,af,gd⟩ L)=([c,a,b]:List Operand).map (cd L):=ic (fun y hy=>by simpa [Op.operands,Call.operands] using hy)
 have ho:(⟨d,.pick c a b,ty,pos,af,gd⟩:Oper).op.operands.toList=[c,a,b]:=by simp [Op.operands,Call.operands]
 rw [Gr,hm c (by simp),hm a (by simp),hm b (by simp)]
 rfl
theorem Vi (t a x):gj P T ⟨d,.store t a x,ty,pos,af,gd⟩ recs K L st=fe (false) ((cd L a).names) ⟨d,.store t a x,ty,pos,af,gd⟩ recs K L st (mono (om P t (cd L a) (cd L x))):=by
 unfold gj ku ml fe
 simp only [jk,cond_false]
 have hm:∀ y,y ∈ ([a,x]:List Operand)→bz ⟨d,.store t a x,ty,pos,af,gd⟩ L y=cd L y:=fun y hy=>ee (by simpa [Op.operands,Call.operands] using hy)
 have hmap:([a,x]:List Operand).map (bz ⟨d,.store t a x,ty,pos,af,gd⟩ L)=([a,x]:List Operand).map (cd L):=ic (fun y hy=>by simpa [Op.operands,Call.operands] using hy)
 have ho:(⟨d,.store t a x,ty,pos,af,gd⟩:Oper).op.operands.toList=[a,x]:=by simp [Op.operands,Call.operands]
 rw [Ep,hm a (by simp),hm x (by simp)]
 rfl
theorem L8 (t i):gj P T ⟨d,.extract t i,ty,pos,af,gd⟩ recs K L st=fe (true) ([]) ⟨d,.extract t i,ty,pos,af,gd⟩ recs K L st (mono (mz (cd L t) i)):=by
 unfold gj ku ml fe
 simp only [jk,cond_true]
 have hm:∀ y,y ∈ ([t]:List Operand)→bz ⟨d,.extract t i,ty,pos,af,gd⟩ L y=cd L y:=fun y hy=>ee (by simpa [Op.operands,Call.operands] using hy)
 have hmap:([t]:List Operand).map (bz ⟨d,.extract t i,ty,pos,af,gd⟩ L)=([t]:List Operand).map (cd L):=ic (fun y hy=>by simpa [Op.operands,Call.operands] using hy)
 have ho:(⟨d,.extract t i,ty,pos,af,gd⟩:Oper).op.operands.toList=[t]:=by simp [Op.operands,Call.operands]
 rw [Bk,hm t (by simp)]
 rfl
theorem H7 (t x i):gj P T ⟨d,.indexAddr t x i,ty,pos,af,gd⟩ recs K L st=fe (true) ([]) ⟨d,.indexAddr t x i,ty,pos,af,gd⟩ recs K L st (mono (j5 P t (cd L x) (cd L i))):=by
 unfold gj ku ml fe
 simp only [jk,cond_true]
 have hm:∀ y,y ∈ ([x,i]:List Operand)→bz ⟨d,.indexAddr t x i,ty,pos,af,gd⟩ L y=cd L y:=fun y hy=>ee (by simpa [Op.operands,Call.operands] using hy)
 have hmap:([x,i]:List Operand).map (bz ⟨d,.indexAddr t x i,ty,pos,af,gd⟩ L)=([x,i]:List Operand).map (cd L):=ic (fun y hy=>by simpa [Op.operands,Call.operands] using hy)
 have ho:(⟨d,.indexAddr t x i,ty,pos,af,gd⟩:Oper).op.operands.toList=[x,i]:=by simp [Op.operands,Call.operands]
 rw [x6,hm x (by simp),hm i (by simp)]
 rfl
theorem Kj (x):gj P T ⟨d,.nilCheck x,ty,pos,af,gd⟩ recs K L st=fe (true) ([]) ⟨d,.nilCheck x,ty,pos,af,gd⟩ recs K L st (mono (jr (cd L x))):=by
 unfold gj ku ml fe
 simp only [jk,cond_true]
 have hm:∀ y,y ∈ ([x]:List Operand)→bz ⟨d,.nilCheck x,ty,pos,af,gd⟩ L y=cd L y:=fun y hy=>ee (by simpa [Op.operands,Call.operands] using hy)
 have hmap:([x]:List Operand).map (bz ⟨d,.nilCheck x,ty,pos,af,gd⟩ L)=([x]:List Operand).map (cd L):=ic (fun y hy=>by simpa [Op.operands,Call.operands] using hy)
 have ho:(⟨d,.nilCheck x,ty,pos,af,gd⟩:Oper).op.operands.toList=[x]:=by simp [Op.operands,Call.operands]
 rw [zd,hm x (by simp)]
 rfl
theorem Uu (t):gj P T ⟨d,.alloc t,ty,pos,af,gd⟩ recs K L st=fe (true) (reach st.h gh [] []) ⟨d,.alloc t,ty,pos,af,gd⟩ recs K L st (mono (qj P t)):=by
 unfold gj ku ml fe
 simp only [jk,cond_false]
 have hm:∀ y,y ∈ ([]:List Operand)→bz ⟨d,.alloc t,ty,pos,af,gd⟩ L y=cd L y:=fun y hy=>ee (by simpa [Op.operands,Call.operands] using hy)
 have hmap:([]:List Operand).map (bz ⟨d,.alloc t,ty,pos,af,gd⟩ L)=([]:List Operand).map (cd L):=ic (fun y hy=>by simpa [Op.operands,Call.operands] using hy)
 have ho:(⟨d,.alloc t,ty,pos,af,gd⟩:Oper).op.operands.toList=[]:=by simp [Op.operands,Call.operands]
 rw [ho,hmap]
 rfl
theorem Vn (t ps):gj P T ⟨d,.build t ps,ty,pos,af,gd⟩ recs K L st=fe (true) (reach st.h gh (AV.names.go ((ps.toList.map (·.2)).map (cd L))) []) ⟨d,.build t ps,ty,pos,af,gd⟩ recs K L st (mono (pw P t (ps.toList.map fun p=>(p.1,cd L p.2)))):=by
 unfold gj ku ml fe
 simp only [jk,cond_false]
 have hm:∀ y,y ∈ ((ps.toList.map (·.2)):List Operand)→bz ⟨d,.build t ps,ty,pos,af,gd⟩ L y=cd L y:=fun y hy=>ee (by simpa [Op.operands,Call.operands] using hy)
 have hmap:((ps.toList.map (·.2)):List Operand).map (bz ⟨d,.build t ps,ty,pos,af,gd⟩ L)=((ps.toList.map (·.2)):List Operand).map (cd L):=ic (fun y hy=>by simpa [Op.operands,Call.operands] using hy)
 have ho:(⟨d,.build t ps,ty,pos,af,gd⟩:Oper).op.operands.toList=(ps.toList.map (·.2)):=by simp [Op.operands,Call.operands]
 rw [ho,hmap]
 rw [Ez,Mn (fun x hx=>by simp [Op.operands];exact ⟨_,by simpa using hx⟩)]
 rfl
theorem F6 (t n ps):gj P T ⟨d,.buildSlice t n ps,ty,pos,af,gd⟩ recs K L st=fe (true) (reach st.h gh (AV.names.go ((ps.toList.map (·.2)).map (cd L))) []) ⟨d,.buildSlice t n ps,ty,pos,af,gd⟩ recs K L st (mono (i7 P t n (ps.toList.map fun p=>(p.1,cd L p.2)))):=by
 unfold gj ku ml fe
 simp only [jk,cond_false]
 have hm:∀ y,y ∈ ((ps.toList.map (·.2)):List Operand)→bz ⟨d,.buildSlice t n ps,ty,pos,af,gd⟩ L y=cd L y:=fun y hy=>ee (by simpa [Op.operands,Call.operands] using hy)
 have hmap:((ps.toList.map (·.2)):List Operand).map (bz ⟨d,.buildSlice t n ps,ty,pos,af,gd⟩ L)=((ps.toList.map (·.2)):List Operand).map (cd L):=ic (fun y hy=>by simpa [Op.operands,Call.operands] using hy)
 have ho:(⟨d,.buildSlice t n ps,ty,pos,af,gd⟩:Oper).op.operands.toList=(ps.toList.map (·.2)):=by simp [Op.operands,Call.operands]
 rw [ho,hmap]
 rw [w4,Mn (fun x hx=>by simp [Op.operands];exact ⟨_,by simpa using hx⟩)]
 rfl
theorem Uj (t x l h m):gj P T ⟨d,.slice t x l h m,ty,pos,af,gd⟩ recs K L st=fe (true) (reach st.h gh (AV.names.go ((#[x]++l.toArray++h.toArray++m.toArray).toList.map (cd L))) []) ⟨d,.slice t x l h m,ty,pos,af,gd⟩ recs K L st (mono (qg P (bz ⟨d,.slice t x l h m,ty,pos,af,gd⟩ L) ⟨d,.slice t x l h m,ty,pos,af,gd⟩ t x l h m)):=by
 unfold gj ku ml fe
 simp only [jk,cond_false]
 have hm:∀ y,y ∈ ((#[x]++l.toArray++h.toArray++m.toArray).toList:List Operand)→bz ⟨d,.slice t x l h m,ty,pos,af,gd⟩ L y=cd L y:=fun y hy=>ee (by simpa [Op.operands,Call.operands] using hy)
 have hmap:((#[x]++l.toArray++h.toArray++m.toArray).toList:List Operand).map (bz ⟨d,.slice t x l h m,ty,pos,af,gd⟩ L)=((#[x]++l.toArray++h.toArray++m.toArray).toList:List Operand).map (cd L):=ic (fun y hy=>by simpa [Op.operands,Call.operands] using hy)
 have ho:(⟨d,.slice t x l h m,ty,pos,af,gd⟩:Oper).op.operands.toList=(#[x]++l.toArray++h.toArray++m.toArray).toList:=by simp [Op.operands,Call.operands]
 rw [ho,hmap]
 rfl
theorem amq (op t x):gj P T ⟨d,.unOp op t x,ty,pos,af,gd⟩ recs K L st=fe (true) (reach st.h gh (AV.names.go ([x].map (cd L))) []) ⟨d,.unOp op t x,ty,pos,af,gd⟩ recs K L st (mono (iu P (bz ⟨d,.unOp op t x,ty,pos,af,gd⟩ L) ⟨d,.unOp op t x,ty,pos,af,gd⟩ [x])):=by
 unfold gj ku ml fe
 simp only [jk,cond_false]
 have hm:∀ y,y ∈ ([x]:List Operand)→bz ⟨d,.unOp op t x,ty,pos,af,gd⟩ L y=cd L y:=fun y hy=>ee (by simpa [Op.operands,Call.operands] using hy)
 have hmap:([x]:List Operand).map (bz ⟨d,.unOp op t x,ty,pos,af,gd⟩ L)=([x]:List Operand).map (cd L):=ic (fun y hy=>by simpa [Op.operands,Call.operands] using hy)
 have ho:(⟨d,.unOp op t x,ty,pos,af,gd⟩:Oper).op.operands.toList=[x]:=by simp [Op.operands,Call.operands]
 rw [ho,hmap]
 rfl
theorem afp (x ts):gj P T ⟨d,.call { callee:=.builtin .len,args:=#[x],argTypes:=ts },ty,pos,af,gd⟩ recs K L st=fe (true) ([]) ⟨d,.call { callee:=.builtin .len,args:=#[x],argTypes:=ts },ty,pos,af,gd⟩ recs K L st (mono (qp ((ts[0]?).bind P.underlying) (cd L x))):=by
 unfold gj ku ml fe
 simp only [jk,cond_true]
 have hm:∀ y,y ∈ ([x]:List Operand)→bz ⟨d,.call { callee:=.builtin .len,args:=#[x],argTypes:=ts },ty,pos,af,gd⟩ L y=cd L y:=fun y hy=>ee (by simpa [Op.operands,Call.operands] using hy)
 have hmap:([x]:List Operand).map (bz ⟨d,.call { callee:=.builtin .len,args:=#[x],argTypes:=ts },ty,pos,af,gd⟩ L)=([x]:List Operand).map (cd L):=ic (fun y hy=>by simpa [Op.operands,Call.operands] using hy)
 have ho:(⟨d,.call { callee:=.builtin .len,args:=#[x],argTypes:=ts },ty,pos,af,gd⟩:Oper).op.operands.toList=[x]:=by simp [Op.operands,Call.operands]
 rw [J8,hm x (by simp)]
 rfl
theorem Sb (s x ts):gj P T ⟨d,.call { callee:=.builtin .append,args:=#[s,x],argTypes:=ts },ty,pos,af,gd⟩ recs K L st=fe (false) (reach st.h gh (AV.names.go ([s,x].map (cd L))) []) ⟨d,.call { callee:=.builtin .append,args:=#[s,x],argTypes:=ts },ty,pos,af,gd⟩ recs K L st (mono (mc P ts[0]? ((ts[1]?).bind P.underlying) (cd L s) (cd L x))):=by
 unfold gj ku ml fe
 simp only [jk,cond_false]
 have hm:∀ y,y ∈ ([s,x]:List Operand)→bz ⟨d,.call { callee:=.builtin .append,args:=#[s,x],argTypes:=ts },ty,pos,af,gd⟩ L y=cd L y:=fun y hy=>ee (by simpa [Op.operands,Call.operands] using hy)
 have hmap:([s,x]:List Operand).map (bz ⟨d,.call { callee:=.builtin .append,args:=#[s,x],argTypes:=ts },ty,pos,af,gd⟩ L)=([s,x]:List Operand).map (cd L):=ic (fun y hy=>by simpa [Op.operands,Call.operands] using hy)
 have ho:(⟨d,.call { callee:=.builtin .append,args:=#[s,x],argTypes:=ts },ty,pos,af,gd⟩:Oper).op.operands.toList=[s,x]:=by simp [Op.operands,Call.operands]
 rw [ho,hmap]
 rw [C5,hm s (by simp),hm x (by simp)]
 rfl
theorem abl (f args ts):gj P T ⟨d,.call { callee:=.value f,args,argTypes:=ts },ty,pos,af,gd⟩ recs K L st=fe (ny T (cd L) ⟨d,.call { callee:=.value f,args,argTypes:=ts },ty,pos,af,gd⟩) (reach st.h gh (AV.names.go ((f::args.toList).map (cd L))) []) ⟨d,.call { callee:=.value f,args,argTypes:=ts },ty,pos,af,gd⟩ recs K L st (s6 T (cd L f) (args.toList.map (cd L))):=by
 unfold gj ku ml fe
 simp only [jk,cond_false]
 have h1:⟨d,.call { callee:=.value f,args,argTypes:=ts },ty,pos,af,gd⟩=(⟨d,.call { callee:=.value f,args,argTypes:=ts },ty,pos,af,gd⟩:Oper):=rfl
 have hf:bz ⟨d,.call { callee:=.value f,args,argTypes:=ts },ty,pos,af,gd⟩ L f=cd L f:=ee (by simp [Op.operands,Call.operands])
 have ha:args.toList.map (bz ⟨d,.call { callee:=.value f,args,argTypes:=ts },ty,pos,af,gd⟩ L)=args.toList.map (cd L):=ic (fun x hx=>by simp [Op.operands,Call.operands];exact .inr (by simpa using hx))
 have hr:ny T (bz ⟨d,.call { callee:=.value f,args,argTypes:=ts },ty,pos,af,gd⟩ L) ⟨d,.call { callee:=.value f,args,argTypes:=ts },ty,pos,af,gd⟩=ny T (cd L) ⟨d,.call { callee:=.value f,args,argTypes:=ts },ty,pos,af,gd⟩:=by simp only [ny,hf]
 have ho:(⟨d,.call { callee:=.value f,args,argTypes:=ts },ty,pos,af,gd⟩:Oper).op.operands.toList.map (bz ⟨d,.call { callee:=.value f,args,argTypes:=ts },ty,pos,af,gd⟩ L)=(f::args.toList).map (cd L):=by
  show ((#[f]++args).toList).map _=_
  simp only [Array.toList_append,List.map_append,ha,List.map_cons,hf]
  rfl
 rw [hr,ho]
 show Da _ _ _ _ _ _ _ (s6 T (bz _ L f) (args.toList.map (bz _ L)) _)=_
 rw [hf,ha]
theorem u6 (f args ts g a b) (h:cd L f = .fn (.func g) a b):ny T (cd L) ⟨d,.call { callee:=.value f,args,argTypes:=ts },ty,pos,af,gd⟩=roT (T.find g):=by simp only [ny,h];rfl
theorem Np (n args ts):ny T (cd L) ⟨d,.call { callee:=.value (.func n),args,argTypes:=ts },ty,pos,af,gd⟩=roT (T.find n):=by simp only [ny,cd];rfl
end ops
theorem Wm (P T ops K L st):B8 P T ops true K L st=(lu ops=true∧(Dd P T ops ops.toList K [] L st∨J6 P T ops ops.toList K [] L st)):=id rfl
theorem Wi (n):Ef n []=true:=id rfl
theorem Ru (n o r):Ef n (o::r)=(Nat.blt o n && Ef n r):=id rfl
theorem Yq (h h'):same h h' []=True:=id rfl
theorem V6 (h h' o r):same h h' (o::r)=(h.get o=h'.get o∧same h h' r):=id rfl
theorem Vh (h):jw h [] = .nil:=id rfl
theorem O3 (h o r):jw h (o::r)=Tr.set depth (jw h r) o (h.get o):=id rfl
theorem Q9 (h1 h):ow h1 [] h=h:=id rfl
theorem L4 (h1 o r h):ow h1 (o::r) h=Tr.set depth (ow h1 r h) o (h1.get o):=id rfl
theorem V3 (t ts v vs):l8 (t::ts) (v::vs)=(t,v)::l8 ts vs:=id rfl
theorem Ut (P T f ps A B p Q L0 st0):ajm P T f ps A B p Q L0 st0=(Nat.ble p 1000=true∧Kh P T ps A B p Q L0 st0 (v9 (cd L0 f))):=id rfl
theorem Zv (P T ps A B p Q L0 st0 g caps):Kh P T ps A B p Q L0 st0 (some (g,caps))=Iz P T ps A B p Q L0 st0 caps (uc P g):=id rfl
theorem Yy (P T ps A B p Q L0 st0 caps nt code):Iz P T ps A B p Q L0 st0 caps (some (nt,code))=(Nat.ble (caps.length+1) nt=true∧∀ l:Nat,oy P T l (nf ps A B L0) p code (acd Q L0) none (b9 0 (.sc (.func (.yield l) #[] #[])::caps)) st0):=id rfl
theorem Vs (g c):v9 (.fn (.func g) [] c)=some (g,c):=id rfl
theorem Dt {P:Program} {T:dx} {l:Nat} {ay:Nat} {L:SL} {st:St} {Q:QI} {ps:List Tmp} {ra rb:Code} {L0:SL} {α:Type} {b:Code} (keep:List Nat) (V : α→List AV) (O : α→List (Option az)) (I : α→Prop) (μ : α→Nat) (x : α) (hx:I x)
 (hv:cy ay keep L st=V x) (ho:fy ay keep L st=O x)
 (step:∀ x,I x→oy P T l (nf ps (fun p=>wl P T p ra) (fun p=>wl P T p rb) L0) ay b (xu (wo ay keep (fun vs os=>∃ y,I y ∧ μ y < μ x∧vs=V y∧os=O y) (fun _ _ _=>False)) Q) none (l8 keep (V x)) (bj (O x))):oy P T l (nf ps (fun p=>wl P T p ra) (fun p=>wl P T p rb) L0) ay (.loop b) Q none L st:=
 aoj (keep:=keep) (V:=V) (O:=O) (I:=I) (μ:=μ) (x:=x) (hx:=hx) (hR:=M6 P T) (hv:=hv) (ho:=ho) (step:=step)
theorem xt {P:Program} {T:dx} {R:Ff} {ay:Nat} {L:SL} {st:St} {o:Oper} {K:Option Ex→SL→St→Prop} {args:Array Operand} (keep:List Nat) (h:y6 R (fy ay keep L st).length args o.dst K (l8 keep (cy ay keep L st)) (bj (fy ay keep L st))):Tq P T R ay o K none L st (some args):=⟨rfl,keep,h⟩
theorem T1 (P:Program):∀ s:Sem Value,ev P (do pure (Next.value (← s)))=(ev P s).map Next.value:=by
 intro s
 induction s with
 |pure b=>rfl
 |program k ih=>exact ih P
 |choose q k ih=>
  simp only [bind,Sem.bind,ev]
  split
  ·exact ih 0
  ·rfl
 |mark m k ih=>exact ih
 |_=>rfl
def abo (m:M AV):M AV:=m
def aac (a:AV) (m:M AV):M AV:=
 match a.bool with
 |some b=>M.pure (.sc (.bool (!b)))
 |none=>m
theorem ai8 (b:Bool) (m:M AV):aac (.sc (.bool b)) m=M.pure (.sc (.bool (!b))):=id rfl
theorem aqs {a:AV} {b:Bool} (h:a.bool=some b):a = .sc (.bool b):=by
 unfold AV.bool AV.exact od at h
 cases a with
 |sc v=>cases v<;>simp at h;rw [h]
 |_=>cases h
theorem Sc (P:Program) (ρ:Operand→AV) (d ty pos af gd) (t:TypeId) (x:Operand):iu P ρ ⟨d,.unOp .not t x,ty,pos,af,gd⟩ [x]=aac (ρ x) (abo (iu P ρ ⟨d,.unOp .not t x,ty,pos,af,gd⟩ [x])):=by
 unfold aac
 split
 ·rename_i b hb
  have hx:=aqs hb
  have h2:execOp (fun z=>((ρ z).gk).getD undef) ⟨d,.unOp .not t x,ty,pos,af,gd⟩=(do pure (Next.value (← Op.unary .not (.bool b)))):=by
   simp only [execOp,hx,AV.gk,Option.getD_some]
  unfold iu lg s7
  simp only [List.all_cons,List.all_nil,hx,AV.gk,Option.isSome_some,Bool.and_true,cond_true]
  rw [h2,T1]
  rfl
 ·rfl
theorem V7 (P:Program) (T:dx) (ρ:Operand→AV) (d ty pos af gd) (t:TypeId) (x:Operand):fm P T ⟨d,.unOp .not t x,ty,pos,af,gd⟩ ρ=mono (aac (ρ x) (abo (iu P ρ ⟨d,.unOp .not t x,ty,pos,af,gd⟩ [x]))):=by
 exact congrArg mono (Sc ..)
theorem af0 (P:Program) (T:dx) (L:SL) (st:St) (recs:List Rec) (K:List Rec→SL→St→Prop) (d ty pos af gd) (t x):gj P T ⟨d,.unOp .not t x,ty,pos,af,gd⟩ recs K L st=fe true (reach st.h gh (AV.names.go ([x].map (cd L))) []) ⟨d,.unOp .not t x,ty,pos,af,gd⟩ recs K L st (mono (aac (cd L x) (abo (iu P (bz ⟨d,.unOp .not t x,ty,pos,af,gd⟩ L) ⟨d,.unOp .not t x,ty,pos,af,gd⟩ [x])))):=by
 rw [amq]
 have h:=Sc P (bz ⟨d,.unOp .not t x,ty,pos,af,gd⟩ L) d ty pos af gd t x
 rw [ee (by simp [Op.operands])] at h
 rw [← h]
theorem N8 (l:List UInt8):bytesOf (l.map ze)=some l:=by rw [Cp,v7]
theorem Mw (a b:ByteArray):Cx.i6 [.sc (.string a),.sc (.string b)]=M.pure (.sc (goInt (Lib.compareBytes a.data.toList b.data.toList))):=by
 unfold Cx.i6 cellsIn
 simp only [Nat.beq_refl,cond_true]
 unfold M.bind M.pure
 simp only [N8]
 rfl
theorem Lj {α:Type} (C:cr α) (f:Bool) (h:C.sz=1) (ha:C.agg=false) (l:List α):(l.map (C.val f)).flatMap AV.cells=l.map (C.val f):=by
 induction l with
 |nil=>rfl
 |cons x l ih=>
  simp only [List.map_cons,List.flatMap_cons,ih]
  obtain ⟨c,h1,h2,_⟩:=C.one ha f x
  have:C.val f x=c:=by simp [cr.val,ha,h1]
  rw [this,h2];rfl
theorem M2 (f g:Bool) (a b:List UInt8):Cx.i6 [.vl f 1 (a.map (bu.val f)),.vl g 1 (b.map (bu.val g))]=M.pure (.sc (goInt (Lib.compareBytes a b))):=by
 unfold Cx.i6 cellsIn
 simp only [Nat.beq_refl,cond_true,Lj bu _ rfl rfl]
 unfold M.bind M.pure
 simp only [v7]
 rfl
theorem Nb {L:SL} {d ty pos af gd} {op t u x y}:bz ⟨d,.binOp op t x y u,ty,pos,af,gd⟩ L x=cd L x:=ee (by simp [Op.operands])
theorem L7 {L:SL} {d ty pos af gd} {op t u x y}:bz ⟨d,.binOp op t x y u,ty,pos,af,gd⟩ L y=cd L y:=ee (by simp [Op.operands])
theorem Q6 {L:SL} {d ty pos af gd} {h l m t x}:bz ⟨d,.slice t x l h m,ty,pos,af,gd⟩ L x=cd L x:=ee (by simp [Op.operands])
theorem P4 {L:SL} {d ty pos af gd} {h l m t x}:bz ⟨d,.slice t x l (some h) m,ty,pos,af,gd⟩ L h=cd L h:=ee (by simp [Op.operands])
def aev (P:Program) (ρ:Operand→AV) (o:Oper) (l:List Operand):M AV:=iu P ρ o l
def Z6 (u:Option TypeDesc) (a ix:AV) (m:M AV):M AV:=
 match u with
 |some .string=>
  match a with
  |.sc (.string s)=>
   match ix with
   |.sc (.int _ n)=>
    match (bif decide (0≤n) then s.data.toList[n.toNat]? else none) with
    |some b=>M.pure (.sc (.int .u8 b.toNat))
    |none=>m
   |_=>m
  |_=>m
 |_=>m
theorem aau (s:ByteArray) (k:IntKind) (n:Int) (m:M AV):Z6 (some .string) (.sc (.string s)) (.sc (.int k n)) m=match (bif decide (0≤n) then s.data.toList[n.toNat]? else none) with|some b=>M.pure (.sc (.int .u8 b.toNat))|none=>m:=id rfl
theorem Jp (P:Program) (ρ:Operand→AV) (d ty pos af gd) (t:TypeId) (x i:Operand):iu P ρ ⟨d,.index t x i,ty,pos,af,gd⟩ [x,i]=Z6 (P.underlying t) (ρ x) (ρ i) (aev P ρ ⟨d,.index t x i,ty,pos,af,gd⟩ [x,i]):=by
 unfold Z6
 split
 ·rename_i hu
  split
  ·rename_i s hx
   split
   ·rename_i k n hi
    split
    ·rename_i b hb
     cases h0:decide (0≤n) with
     |false=>rw [h0] at hb;cases hb
     |true=>
     rw [h0,cond_true] at hb
     have h0 : 0≤n:=by simpa using h0
     have hb':s[n.toNat]? = some b:=by
      obtain ⟨h1,h2⟩:=List.getElem?_eq_some_iff.1 hb
      simp at h1
      rw [getElem?_pos s n.toNat (by simpa using h1)]
      rw [← h2];rfl
     have h2:execOp (fun z=>((ρ z).gk).getD undef) ⟨d,.index t x i,ty,pos,af,gd⟩=(do pure (Next.value (← Instr.index t (.string s) (.int k n)))):=by
      simp only [execOp,hx,hi,AV.gk,Option.getD_some]
     unfold iu lg s7
     simp only [List.all_cons,List.all_nil,hx,hi,AV.gk,Option.isSome_some,Bool.and_true,cond_true]
     rw [h2,T1]
     have h3:ev P (Instr.index t (.string s) (.int k n))=some (.int .u8 b.toNat):=by
      simp [Instr.index,asIntOf,underlying,program,ev,hu,h0,hb',bind,Sem.bind,pure]
     rw [h3]
     rfl
    ·rfl
   ·rfl
  ·rfl
 ·rfl
theorem Gy (a n:Nat):(a:Int).fdiv (n:Int)=((a / n:Nat):Int):=by
 rw [Int.fdiv_eq_ediv_of_nonneg _ (by omega)];rfl
theorem arf (a:Nat):(a:Int).fdiv 2=((a / 2:Nat):Int):=Gy a 2
theorem aad (a:Nat):(a:Int).fdiv 256=((a / 256:Nat):Int):=Gy a 256
theorem P6 (a:Nat):(a:Int).fdiv 65536=((a / 65536:Nat):Int):=Gy a 65536
theorem Hl (a:Nat):(a:Int).fdiv 16777216=((a / 16777216:Nat):Int):=Gy a 16777216
theorem aa7 (f:Nat) (m) (T:dx):dx.find ((f,m)::T) f=some m:=by simp [dx.find]
theorem Wl (f g:Nat) (m) (T:dx) (h:(f == g)=false):dx.find ((f,m)::T) g=dx.find T g:=by
 have e:f≠g:=by simpa using h
 simp [dx.find,ll e]
end
end Go.Vm
end
namespace Go.Vm
noncomputable section
def zm (P:Program) (t:TypeId):Option (Nat × Nat × Nat):=
 match oi P t with
 |some e=>
  match c9 P e,jy P e,fc P e with
  |some sz,some bytes,some z=>bif Nat.blt 0 sz && Nat.blt 0 bytes && Nat.beq z.cells.size sz then some (e,sz,bytes) else none
  |_,_,_=>none
 |none=>none
def aa6 (q:Option (Nat × Nat × Nat)) (s x:AV):M AV:=
 match q with
 |some (e,sz,bytes)=>(cellsIn sz x).bind (nk e sz bytes s)
 |none=>M.fail
theorem aj2 (e sz bytes s x):aa6 (some (e,sz,bytes)) s x=(cellsIn sz x).bind (nk e sz bytes s):=id rfl
theorem Qp (P:Program) (t e:TypeId) (s x:AV):mc P (some t) (some (.slice e)) s x=aa6 (zm P t) s x:=by
 unfold mc aa6 zm
 simp only [Option.bind_some]
 cases oi P t with
 |none=>rfl
 |some e=>
  simp only
  cases c9 P e with
  |none=>rfl
  |some sz=>
   cases jy P e with
   |none=>rfl
   |some bytes=>
    cases fc P e with
    |none=>rfl
    |some z=>
     simp only
     cases (Nat.blt 0 sz && Nat.blt 0 bytes && Nat.beq z.cells.size sz)<;>rfl
theorem Rf (P:Program) (t:TypeId) (s x:AV):mc P (some t) (some .string) s x=aa6 (zm P t) s x:=by
 unfold mc aa6 zm
 simp only [Option.bind_some]
 cases oi P t with
 |none=>rfl
 |some e=>
  simp only
  cases c9 P e with
  |none=>rfl
  |some sz=>
   cases jy P e with
   |none=>rfl
   |some bytes=>
    cases fc P e with
    |none=>rfl
    |some z=>
     simp only
     cases (Nat.blt 0 sz && Nat.blt 0 bytes && Nat.beq z.cells.size sz)<;>rfl
theorem Nl (e sz bytes new):nk e sz bytes (.sc (.slice none 0 0)) new=bif new.isEmpty then M.pure (.sc (.slice none 0 0)) else bif Nat.ble (new.length * bytes) 140737488355328 then ka e sz (new.length / sz) new else M.fail:=id rfl
theorem Pd (e sz bytes o off len sz' new):nk e sz bytes (.sl o off len sz') new=bif Nat.beq sz sz' then (cg o).bind (xd e sz bytes o off len new) else M.fail:=id rfl
theorem Ni (e sz bytes o off len new cells k st et):xd e sz bytes o off len new (.row cells k st et)=(bif Nat.beq et e && new.all AV.one && Nat.ble (off+len * sz) cells.length && Nat.ble ((len * sz+new.length) * bytes) 140737488355328 then
 bif Nat.ble k (off+len * sz) then
  (tv o).bind fun _=>(ew (.row ((cells.take (off+len * sz)).drop off++new) (k - off) (qd st) et)).bind fun id=>M.pure (.sl id 0 (len+new.length / sz) sz)
 else bif new.isEmpty then M.pure (.sl o off len sz)
 else M.fail
 else M.fail):=id rfl
theorem apc:qd 0=0:=id rfl
def cellsOf {α:Type} (C:cr α) (f:Bool) (xs:List α):List AV:=xs.flatMap (C.cells f)
theorem Nk {α:Type} (C:cr α) (f):cellsOf C f []=[]:=id rfl
theorem vw {α:Type} (C:cr α) (f) (xs:List α):(cellsOf C f xs).length=xs.length * C.sz:=by
 induction xs with
 |nil=>simp [cellsOf]
 |cons x xs ih=>
  simp only [cellsOf] at ih
  simp [cellsOf,C.len,ih,Nat.succ_mul];omega
theorem Ew {α:Type} (C:cr α) (f) (xs ys:List α):cellsOf C f (xs++ys)=cellsOf C f xs++cellsOf C f ys:=by simp [cellsOf]
theorem Ma {α:Type} (C:cr α) (f) (x : α):cellsOf C f [x]=C.cells f x:=by simp [cellsOf]
theorem Er {α:Type} (C:cr α) (f) (xs:List α):(cellsOf C f xs).all AV.one=true:=by
 rw [List.all_eq_true]
 intro c hc
 obtain ⟨x,_,hx⟩:=List.mem_flatMap.1 hc
 exact (C.pl f x c hx).one
theorem H9 {α:Type} (C:cr α) (f) (xs:List α):AV.names.go (cellsOf C f xs)=[]:=Et (fun c hc=>by
 obtain ⟨x,_,hx⟩:=List.mem_flatMap.1 hc
 exact (C.pl f x c hx).names)
theorem M5 {α:Type} (C:cr α) (τ) (f) (xs:List α):(cellsOf C f xs).map (AV.cx τ)=cellsOf C f xs:=by
 rw [← kn]
 exact Oh (fun c hc=>by
  obtain ⟨x,_,hx⟩:=List.mem_flatMap.1 hc
  exact (C.pl f x c hx).cx τ)
theorem Kr {α:Type} (C:cr α) (f) (xs:List α) (i:Nat):(cellsOf C f xs).drop (i * C.sz)=cellsOf C f (xs.drop i):=by
 induction xs generalizing i with
 |nil=>simp [cellsOf]
 |cons x xs ih=>
  cases i with
  |zero=>simp
  |succ i=>
   have:(i+1) * C.sz=C.sz+i * C.sz:=by rw [Nat.succ_mul];omega
   rw [this,← List.drop_drop]
   have h1:(cellsOf C f (x::xs)).drop C.sz=cellsOf C f xs:=by
    have h2:cellsOf C f (x::xs)=C.cells f x++cellsOf C f xs:=by simp [cellsOf]
    rw [h2,← C.len f x,List.drop_left]
   rw [h1,ih,List.drop_succ_cons]
theorem aax {α:Type} (C:cr α) (f) (xs:List α) (i:Nat):(cellsOf C f xs).take (i * C.sz)=cellsOf C f (xs.take i):=by
 induction xs generalizing i with
 |nil=>simp [cellsOf]
 |cons x xs ih=>
  cases i with
  |zero=>simp [cellsOf]
  |succ i=>
   have h2:cellsOf C f (x::xs)=C.cells f x++cellsOf C f xs:=by simp [cellsOf]
   have:(i+1) * C.sz=(C.cells f x).length+i * C.sz:=by rw [Nat.succ_mul,C.len];omega
   rw [h2,this,List.take_length_add_append,ih,List.take_succ_cons]
   simp [cellsOf]
theorem Is {α:Type} (C:cr α) (f) (x : α) (xs:List α):cellsOf C f (x::xs)=C.cells f x++cellsOf C f xs:=by simp [cellsOf]
theorem Fc {α:Type} {xs:List α} {i:Nat} {x : α} (h:xs[i]? = some x):xs.drop i=x::xs.drop (i+1):=by
 obtain ⟨h1,h2⟩:=List.getElem?_eq_some_iff.1 h
 rw [← h2];exact List.drop_eq_getElem_cons h1
theorem Nw {α:Type} (C:cr α) (f) (xs:List α):(xs.map (C.val f)).flatMap AV.cells=cellsOf C f xs:=by
 rw [List.flatMap_map];congr 1;funext x;exact C.Ee f x
theorem rp {α:Type} (C:cr α) (fr:Bool) (h:Tr az) (f:Bool) (xs:List α) (k st et) (n:Nat) (hn:n=xs.length) (hf:(f || !fr)=true):mn C fr h 0 n (.row (cellsOf C f xs) k st et)=some xs:=by
 subst hn
 simp only [mn,Nat.zero_add,vw,Nat.ble_self_eq_true,cond_true,List.drop_zero]
 have:(cellsOf C f xs).take (xs.length * C.sz)=cellsOf C f xs:=List.take_of_length_le (by rw [vw];exact Nat.le_refl _)
 rw [this]
 exact Un C fr h f (fun e=>by subst e;simpa using hf) xs
theorem Rc {α:Type} (C:cr α) (fr h cells k st et):mn C fr h 0 0 (.row cells k st et)=some []:=by
 have h:Nat.ble 0 cells.length=true:=Nat.ble_eq_true_of_le (Nat.zero_le _)
 simp [mn,x0,h]
def qa {α:Type} (C:cr α) (fr:Bool) (h:Tr az):List AV→Option (List α)
 | []=>some []
 |a::l=>match C.dec fr h [a],qa C fr h l with
  |some x,some xs=>some (x::xs)
  |_,_=>none
def ar2 {α:Type} (a b:Option (List α)):Option (List α):=match a,b with|some x,some y=>some (x++y)|_,_=>none
def ao7 {α:Type} (a:Option α) (b:Option (List α)):Option (List α):=match a,b with|some x,some y=>some (x::y)|_,_=>none
theorem akk {α:Type} (a b:List α):ar2 (some a) (some b)=some (a++b):=id rfl
theorem agh {α:Type} (a : α) (b:List α):ao7 (some a) (some b)=some (a::b):=id rfl
theorem Oi {α:Type} (C:cr α) (fr h):qa C fr h []=some []:=id rfl
theorem Ed {α:Type} (C:cr α) (fr h a l):qa C fr h (a::l)=ao7 (C.dec fr h [a]) (qa C fr h l):=id rfl
theorem N3 {α:Type} (C:cr α) (fr h):∀ a b,qa C fr h (a++b)=ar2 (qa C fr h a) (qa C fr h b)
 | [],b=>by
  simp only [List.nil_append,Oi]
  cases qa C fr h b<;>rfl
 |x::a,b=>by
  simp only [List.cons_append,Ed,N3 C fr h a b]
  cases C.dec fr h [x]<;>cases qa C fr h a<;>cases qa C fr h b<;>rfl
theorem Zs {α:Type} (C:cr α) (hz:C.sz=1) (fr h):∀ cells:List AV,x0 C fr h cells.length cells=qa C fr h cells
 | []=>rfl
 |a::l=>by
  have h1:(a::l).take C.sz=[a]:=by rw [hz];rfl
  have h2:(a::l).drop C.sz=l:=by rw [hz];rfl
  simp only [List.length_cons,x0,h1,h2,Zs C hz fr h l]
  rfl
theorem vj {α:Type} (C:cr α) (hz:C.sz=1) (fr h n cells k st et) (hn:n=cells.length):mn C fr h 0 n (.row cells k st et)=qa C fr h cells:=by
 subst hn
 simp only [mn,hz,Nat.mul_one,Nat.zero_add,Nat.ble_self_eq_true,cond_true,List.drop_zero,List.take_length]
 exact Zs C hz fr h cells
theorem Cy {α:Type} (C:cr α) (hz:C.sz=1) (ha:C.agg=false) (fr h f) (hf:fr=true→f=true):∀ l:List α,qa C fr h (l.map (C.val f))=some l
 | []=>rfl
 |x::l=>by
  obtain ⟨c,h1,_⟩:=C.one ha f x
  have hv:C.val f x=c:=by simp [cr.val,ha,h1]
  have hd:=C.rt fr h f x hf
  rw [h1] at hd
  rw [List.map_cons,Ed,Cy C hz ha fr h f hf l,hv,hd];rfl
theorem Xz {α β:Type} (f : α → β) (l:List α) (n:Nat):(l.map f).take n=(l.take n).map f:=List.map_take.symm
theorem acu {α β:Type} (f : α → β) (l:List α) (n:Nat):(l.map f).drop n=(l.drop n).map f:=List.map_drop.symm
theorem Cq {α β:Type} (f : α → β) (l:List α):(l.map f).isEmpty=l.isEmpty:=by cases l<;>rfl
theorem Ek {α:Type} (l:List α) (x : α):(l++[x]).isEmpty=false:=by cases l<;>rfl
theorem Fz (a b:List AV):AV.names.go (a++b)=AV.names.go a++AV.names.go b:=by
 induction a with
 |nil=>rfl
 |cons x a ih=>simp only [List.cons_append,AV.names.go,ih,List.append_assoc]
theorem rtT {α:Type} (C:cr α) (h:Tr az) (x : α):C.il true h (C.val true x)=some x:=C.J4 true h true x (fun _=>rfl)
theorem rtF {α:Type} (C:cr α) (h:Tr az) (l:Bool) (x : α):C.il false h (C.val l x)=some x:=C.J4 false h l x (fun e=>by cases e)
theorem X7 (s:ByteArray):s.data.toList.length=s.size:=by simp
theorem afh {α:Type} {l:List α} {n:Nat} (h:l.length≤n):l.take n=l:=List.take_of_length_le h
theorem aub {α:Type} (C:cr α) (fr:Bool) (h:Tr az) (x : α):C.il fr h (C.val fr x)=some x:=C.J4 fr h fr x (fun e=>e)
theorem be {a b:Nat} (h:a≤b):decide (a≤b)=true:=by simpa using h
theorem bf {a b:Nat} (h:a<b):decide (a<b)=true:=by simpa using h
theorem bd {a b:Int} (h:a≤b):decide (a≤b)=true:=by simpa using h
theorem bg {a b:Int} (h:a<b):decide (a<b)=true:=by simpa using h
theorem ah (x:Int) (h0 : -9223372036854775808≤x) (h1:x<9223372036854775808):IntKind.i64.wrap x=x:=by
 simp [IntKind.wrap,IntKind.bits,IntKind.signed];omega
theorem ama (n:Nat):IntKind.u8.wrap (n:Int)=((UInt8.ofNat n).toNat:Int):=by simp [IntKind.wrap,IntKind.bits,IntKind.signed]
theorem bc {p:Prop} [Decidable p] {X Y:SL→St→Prop} {L st}:ue (.sc (.bool (decide p))) X Y L st=((p→X L st)∧(¬ p→Y L st)):=by
 by_cases h:p<;>simp [h,F7,E9]
theorem di {a b:Int} {X Y:SL→St→Prop} {L st}:ue (.sc (.bool (a == b))) X Y L st=(((a == b)=true∧a=b→X L st)∧((a == b)=false∧a≠b→Y L st)):=by
 by_cases h:a=b
 ·subst h;simp [F7]
 ·have:(a == b)=false:=by simpa using h
  simp [h,this,E9]
theorem dr {a b:Int} {X Y:SL→St→Prop} {L st}:ue (.sc (.bool (a != b))) X Y L st=(((a != b)=true∧a≠b→X L st)∧((a != b)=false∧a=b→Y L st)):=by
 by_cases h:a=b
 ·subst h;simp [E9]
 ·have:(a != b)=true:=by simpa using h
  simp [h,this,F7]
theorem V1 (P:Program) (T:dx) (ρ:Operand→AV) (d ty pos af gd) (x ts):fm P T ⟨d,.call { callee:=.builtin .cap,args:=#[x],argTypes:=ts },ty,pos,af,gd⟩ ρ=mono (Ab ((ts[0]?).bind P.underlying) (ρ x)):=id rfl
theorem Wf (e a n c):Ab (some (.slice e)) (.sc (.slice a n c))=M.pure (.sc (goInt c)):=id rfl
def anu (P:Program) (q:Option (Nat × Nat × Nat)) (s x:AV):M AV:=
 match q with
 |some (e,sz,bytes)=>
  match Cc P e sz x with
  |some new=>nk e sz bytes s new
  |none=>M.fail
 |none=>M.fail
theorem ak8 (P:Program) (e sz bytes s x):anu P (some (e,sz,bytes)) s x=match Cc P e sz x with|some new=>nk e sz bytes s new|none=>M.fail:=id rfl
theorem Rl (P:Program) (t:TypeId) (k:IntKind) (s x:AV):mc P (some t) (some (.int k)) s x=anu P (zm P t) s x:=by
 unfold mc anu zm
 simp only [Option.bind_some]
 cases oi P t with
 |none=>rfl
 |some e=>
  simp only
  cases c9 P e with
  |none=>rfl
  |some sz=>
   cases jy P e with
   |none=>rfl
   |some bytes=>
    cases fc P e with
    |none=>rfl
    |some z=>
     simp only
     cases (Nat.blt 0 sz && Nat.blt 0 bytes && Nat.beq z.cells.size sz)<;>rfl
def Ya (z:Option Value) (sz:Nat) (n:Int):Option (List AV):=
 match z with
 |some z=>bif decide (0≤n) && decide (n≤1073741824) && Nat.beq z.cells.size sz then some ((List.replicate n.toNat (z.cells.toList.map AV.sc)).flatten) else none
 |none=>none
theorem Z0 (z sz n):Ya (some z) sz n=bif decide (0≤n) && decide (n≤1073741824) && Nat.beq z.cells.size sz then some ((List.replicate n.toNat (z.cells.toList.map AV.sc)).flatten) else none:=id rfl
theorem Uy (P:Program) (e sz:Nat) (k:IntKind) (n:Int):Cc P e sz (.sc (.int k n))=Ya (fc P e) sz n:=by
 simp only [Cc,Ya,vp,AV.int,AV.exact,Option.bind_some,intOf,Option.map_some]
 cases fc P e<;>rfl
theorem ae3 {α:Type} (n:Nat) (x : α):(List.replicate n [x]).flatten=List.replicate n x:=by
 induction n with
 |zero=>rfl
 |succ n ih=>simp [List.replicate_succ,ih]
theorem M4 {α:Type} {n:Nat} {x : α} (h : 0<n):(List.replicate n x).isEmpty=false:=by
 cases n with
 |zero=>omega
 |succ n=>rfl
theorem nc0:((0:Nat):Int)=0:=id rfl
theorem nc1:((1:Nat):Int)=1:=id rfl
theorem ako (n:Nat):List.replicate n (AV.sc (.int .u8 0))=(List.replicate n (0:UInt8)).map (bu.val false):=by rw [List.map_replicate];rfl
def agt (P:Program) (u:Option TypeDesc) (x hi:AV) (m:M AV):M AV:=
 match u with
 |some (.slice e)=>
  match c9 P e with
  |some _=>
   match x with
   |.sc (.slice none 0 0)=>
    match hi with
    |.sc (.int .i64 0)=>M.pure (.sc (.slice none 0 0))
    |_=>m
   |_=>m
  |none=>m
 |_=>m
theorem ak5 (P:Program) (e m) (h:(c9 P e).isSome=true):agt P (some (.slice e)) (.sc (.slice none 0 0)) (.sc (.int .i64 0)) m=M.pure (.sc (.slice none 0 0)):=by
 obtain ⟨n,hn⟩:=Option.isSome_iff_exists.1 h
 simp only [agt,hn]
theorem D4 (P:Program) (ρ:Operand→AV) (d ty pos af gd) (t:TypeId) (x h:Operand):iu P ρ ⟨d,.slice t x none (some h) none,ty,pos,af,gd⟩ (.slice t x none (some h) none:Op).operands.toList=agt P (P.underlying t) (ρ x) (ρ h) (aev P ρ ⟨d,.slice t x none (some h) none,ty,pos,af,gd⟩ (.slice t x none (some h) none:Op).operands.toList):=by
 unfold agt
 split
 ·rename_i e hu
  split
  ·rename_i n hn
   split
   ·rename_i hx
    split
    ·rename_i hh
     have h2:execOp (fun z=>((ρ z).gk).getD undef) ⟨d,.slice t x none (some h) none,ty,pos,af,gd⟩=(do pure (Next.value (← Instr.sliceAt t (.slice none 0 0) none (some (.int .i64 0)) none))):=by
      simp only [execOp,hx,hh,AV.gk,Option.getD_some,Option.map_some,Option.map_none]
     have hi:∃ i,P.info? e=some i:=by
      unfold c9 at hn
      cases hq:P.info? e with
      |none=>rw [hq] at hn;cases hn
      |some i=>exact ⟨i,rfl⟩
     obtain ⟨i,hi⟩:=hi
     have h3:ev P (Instr.sliceAt t (.slice none 0 0) none (some (.int .i64 0)) none)=some (.slice none 0 0):=by
      simp [Instr.sliceAt,Instr.slice,Instr.sliceBounds,Instr.sliceBound,asIntOf,underlying,program,ev,hu,sizeOf,typeInfo,hi,bind,Sem.bind,pure]
     unfold iu lg s7
     simp only [Op.operands]
     simp [hx,hh,AV.gk]
     rw [h2,T1,h3]
     rfl
    ·rfl
   ·rfl
  ·rfl
 ·rfl
def an6 {α:Type} (o sz:Nat) (l:List α):AV:=bif l.isEmpty then .sc (.slice none 0 0) else .sl o 0 l.length sz
def agx (cells:List AV) (k st:Nat) (et:TypeId):List (Option az):=bif cells.isEmpty then [] else [some (.row cells k st et)]
theorem akr {α:Type} {o sz} {l:List α} (h:l.isEmpty=false):an6 o sz l = .sl o 0 l.length sz:=by simp [an6,h]
theorem Ui {α:Type} (o sz) (l:List α) (c : α):an6 o sz (l++[c]) = .sl o 0 (l.length+1) sz:=by rw [akr (Ek l c)];simp
theorem aj8 {cells:List AV} {k st et} (h:cells.isEmpty=false):agx cells k st et=[some (.row cells k st et)]:=by simp [agx,h]
theorem anc {α:Type} {f : α→AV} {l:List α} {k st et} (h:l.isEmpty=false):agx (l.map f) k st et=[some (.row (l.map f) k st et)]:=aj8 (by rw [Cq,h])
theorem Wo {α:Type} (f : α→AV) (l:List α) (c : α) (k st et):agx ((l++[c]).map f) k st et=[some (.row (l.map f++[f c]) k st et)]:=by rw [anc (Ek l c)];simp
theorem ek {α:Type} {l:List α} {i:Nat} (h:decide ((i:Int)<(l.length:Int))=true):∃ c,l[i]? = some c∧l.drop i=c::l.drop (i+1)∧i<l.length:=by
 have h1:i<l.length:=by simp at h;omega
 exact ⟨l[i],List.getElem?_eq_getElem h1,List.drop_eq_getElem_cons h1,h1⟩
theorem ig {α:Type} {l:List α} {i:Nat} (h:decide ((i:Int)<(l.length:Int))=false):l.drop i=[]:=by
 have h1:¬ i<l.length:=by simp at h;omega
 exact List.drop_eq_nil_of_le (by omega)
def Ai (D:List Nat):Nat→List (Option az)→List (Option az)
 |_,[]=>[]
 |i,x::r=>(bif w5 i D then x else none)::Ai D (i+1) r
def Br (D:List Nat):Nat→List (Option az)→List (Option az)
 |_,[]=>[]
 |i,x::r=>(bif w5 i D then none else x)::Br D (i+1) r
theorem Vj (D):∀ (i:Nat) (os:List (Option az)),(Ai D i os).length=os.length
 |_,[]=>rfl
 |i,x::r=>by simp [Ai,Vj D (i+1) r]
theorem Ka (D):∀ (i:Nat) (os:List (Option az)),(Br D i os).length=os.length
 |_,[]=>rfl
 |i,x::r=>by simp [Br,Ka D (i+1) r]
theorem Vp (D):∀ (os:List (Option az)) (i j:Nat),((Ai D i os)[j]?).join=if (i+j) ∈ D then (os[j]?).join else none
 | [],i,j=>by simp [Ai]
 |x::r,i,0=>by
  simp only [Ai,List.getElem?_cons_zero,Option.join_some,Nat.add_zero]
  cases hb:w5 i D with
  |true=>rw [if_pos ((sq i D).1 hb)];rfl
  |false=>rw [if_neg (fun h=>by rw [(sq i D).2 h] at hb;cases hb)];rfl
 |x::r,i,j+1=>by
  simp only [Ai,List.getElem?_cons_succ]
  rw [Vp D r (i+1) j,show i+1+j=i+(j+1) from by omega]
theorem Uk (D):∀ (os:List (Option az)) (i j:Nat),((Br D i os)[j]?).join=if (i+j) ∈ D then none else (os[j]?).join
 | [],i,j=>by simp [Br]
 |x::r,i,0=>by
  simp only [Br,List.getElem?_cons_zero,Option.join_some,Nat.add_zero]
  cases hb:w5 i D with
  |true=>rw [if_pos ((sq i D).1 hb)];rfl
  |false=>rw [if_neg (fun h=>by rw [(sq i D).2 h] at hb;cases hb)];rfl
 |x::r,i,j+1=>by
  simp only [Br,List.getElem?_cons_succ]
  rw [Uk D r (i+1) j,show i+1+j=i+(j+1) from by omega]
theorem Tf (os:List (Option az)) (h:os.length≤b8) (o:Nat):(bj os).h.get o=(os[o]?).join:=by
 simp only [bj]
 rw [uv _ _ _ (by omega),if_pos (Nat.zero_le _),Nat.sub_zero]
inductive jd (h:Tr az):AV→AV→Prop
 |same (a:AV):jd h a a
 |data {α:Type} (C:cr α) (fr:Bool) (x : α) (a:AV) (hd:C.il fr h a=some x):jd h a (C.val fr x)
 |bad (a:AV):jd h a .bad
 |nil (o off sz:Nat):jd h (.sc (.slice none 0 0)) (.sl o off 0 sz)
 |vv (loc:Bool) (sz:Nat):jd h (.sc (.slice none 0 0)) (.vl loc sz [])
inductive i5 (h:Tr az):List AV→List AV→Prop
 |nil:i5 h [] []
 |cons {a b:AV} {l m:List AV} (h1:jd h a b) (h2:i5 h l m):i5 h (a::l) (b::m)
theorem i5.len {h l m} (hl:i5 h l m):m.length=l.length:=by
 induction hl with
 |nil=>rfl
 |cons _ _ ih=>simp [ih]
theorem i5.get {h l m} (hl:i5 h l m):∀ (i:Nat) b,m[i]? = some b→∃ a,l[i]? = some a∧jd h a b:=by
 induction hl with
 |nil=>intro i b hb;simp at hb
 |cons h1 h2 ih=>
  intro i b hb
  cases i with
  |zero=>simp at hb;subst hb;exact ⟨_,rfl,h1⟩
  |succ i=>exact ih i b (by simpa using hb)
inductive dg (h:Tr az):List (Option az)→List (Option az)→Prop
 |nil:dg h [] []
 |ghost {st et m} (h2:dg h [] m):dg h [] (some (.row [] 0 st et)::m)
 |same {x l m} (h2:dg h l m):dg h (x::l) (x::m)
 |gone {x l m} (h2:dg h l m):dg h (x::l) (none::m)
 |row {cells cells' k st et l m} (h1:i5 h cells cells') (h2:dg h l m):dg h (some (.row cells k st et)::l) (some (.row cells' k st et)::m)
theorem dg.refl (h):∀ l,dg h l l
 | []=>.nil
 |x::l=>.same (dg.refl h l)
theorem dg.len {h l m} (hl:dg h l m):l.length≤m.length:=by induction hl<;>simp_all
theorem dg.get {h l m} (hl:dg h l m):∀ (i:Nat) y,(m[i]?).join=some y→(l[i]?).join=some y∨(∃ cells cells' k st et,y = .row cells' k st et∧(l[i]?).join=some (.row cells k st et)∧i5 h cells cells')∨(l.length≤i∧zf y):=by
 induction hl with
 |nil=>intro i y hy;simp at hy
 | @ghost st et m h2 ih=>
  intro i y hy
  cases i with
  |zero=>simp at hy;subst hy;exact .inr (.inr ⟨Nat.le_refl _,st,et,rfl⟩)
  |succ i=>exact .inr (.inr ⟨Nat.zero_le _,(by
   rcases ih i y (by simpa using hy) with h|⟨_,_,_,_,_,_,h,_⟩|h
   ·simp at h
   ·simp at h
   ·exact h.2)⟩)
 |same h2 ih=>
  intro i y hy
  cases i with
  |zero=>exact .inl hy
  |succ i=>exact (ih i y (by simpa using hy)).imp id (Or.imp id (fun h=>⟨Nat.succ_le_succ h.1,h.2⟩))
 |gone h2 ih=>
  intro i y hy
  cases i with
  |zero=>simp at hy
  |succ i=>exact (ih i y (by simpa using hy)).imp id (Or.imp id (fun h=>⟨Nat.succ_le_succ h.1,h.2⟩))
 |row h1 h2 ih=>
  intro i y hy
  cases i with
  |zero=>simp at hy;subst hy;exact .inr (.inl ⟨_,_,_,_,_,rfl,rfl,h1⟩)
  |succ i=>exact (ih i y (by simpa using hy)).imp id (Or.imp id (fun h=>⟨Nat.succ_le_succ h.1,h.2⟩))
theorem sd.lax {vs vs':List AV} {os os':List (Option az)} {ay:Nat} (D:List Nat) (hlen':os'.length≤b8) (hv:i5 (bj (Ai D 0 os)).h vs vs') (ho:dg (bj (Ai D 0 os)).h (Br D 0 os) os'):sd ay vs os vs' os':=by
 have holen:os.length≤os'.length:=by have:=ho.len;rw [Ka] at this;exact this
 have hlen:os.length≤b8:=Nat.le_trans holen hlen'
 refine ⟨hv.len,fun q=>Nat.le_trans q holen,fun g w us hok hfree hr=>?_⟩
 obtain ⟨hD,ehD⟩:∃ hD,(bj (Ai D 0 os)).h=hD:=⟨_,rfl⟩
 rw [ehD] at hv ho
 have cg:∀ o,(bj os).h.get o=(os[o]?).join:=Tf os hlen
 have hgetD:∀ o,hD.get o=if o ∈ D then (os[o]?).join else none:=fun o=>by
  rw [← ehD,Tf _ (by rw [Vj];exact hlen),Vp,Nat.zero_add]
 have hget':∀ o y,(bj os').h.get o=some y→(o ∉ D∧((bj os).h.get o=some y∨∃ cells cells' k st et,y = .row cells' k st et∧(bj os).h.get o=some (.row cells k st et)∧i5 hD cells cells'))∨(os.length≤o∧zf y):=fun o y hy=>by
  rw [Tf _ hlen'] at hy
  have hmid:∀ z,((Br D 0 os)[o]?).join=some z→o ∉ D∧(os[o]?).join=some z:=fun z hz=>by
   rw [Uk,Nat.zero_add] at hz
   by_cases hd:o ∈ D
   ·rw [if_pos hd] at hz;cases hz
   ·rw [if_neg hd] at hz;exact ⟨hd,hz⟩
  rw [cg]
  rcases ho.get o y hy with h1|⟨cells,cells',k,st,et,h1,h2,h3⟩|h1
  ·exact .inl ⟨(hmid _ h1).1,.inl (hmid _ h1).2⟩
  ·exact .inl ⟨(hmid _ h2).1,.inr ⟨cells,cells',k,st,et,h1,(hmid _ h2).2,h3⟩⟩
  ·rw [Ka] at h1;exact .inr h1
 have hsub:∀ o x,hD.get o=some x→o ∈ D∧(bj os).h.get o=some x:=fun o x hx=>by
  rw [hgetD] at hx
  by_cases hd:o ∈ D
  ·rw [if_pos hd] at hx;rw [cg];exact ⟨hd,hx⟩
  ·rw [if_neg hd] at hx;cases hx
 have hokD:Ok g hD w:=hok.part (fun o x hx=>(hsub o x hx).2)
 obtain ⟨K',eK⟩:∃ K':Nat→Nat→Prop,(fun b j=>g.K b j∨∃ o base cells k s e,hD.get o=some (.row cells k s e)∧g.inj o=some (b,base)∧∃ i,i<cells.length∧j=base+i)=K':=⟨_,rfl⟩
 have hK':∀ b j,K' b j↔(g.K b j∨∃ o base cells k s e,hD.get o=some (.row cells k s e)∧g.inj o=some (b,base)∧∃ i,i<cells.length∧j=base+i):=fun b j=>by rw [← eK]
 have hlend:wj g hD K':=⟨fun b j h=>(hK' b j).2 (.inl h),fun o cells k s e h b base hi j hj=>(hK' _ _).2 (.inr ⟨o,base,cells,k,s,e,h,hi,j,hj,rfl⟩)⟩
 have hlax:∀ {a b:AV} {v:Value},jd hD a b→Rel g w a v→Rel { g with K:=K' } w b v:=fun {a b v} hl hrel=>by
  have hup:Rel { g with K:=K' } w a v:=Rel.ext (g:=g) (w:=w) (g':={ g with K:=K' }) (w':=w) ⟨rfl,fun _ _ h=>h,fun b j h=>(hK' b j).2 (.inl h),fun _ _ _=>rfl,fun b cs e fr h=>⟨cs,fr,h,rfl⟩,fun b l h=>⟨l,h⟩⟩ hrel
  cases hl with
  |same=>exact hup
  |data C fr x a hd=>exact (C.Wh hokD hlend (fun _=>Nat.le_refl g.b0) hrel hd).lift (Nat.le_refl _) (fun _ _ h=>h)
  |bad=>exact .bad _
  |nil o off sz=>obtain rfl:=hup.exact rfl;exact .vq _ _ _
  |vv loc sz=>obtain rfl:=hup.exact rfl;exact .lf _ _
 refine ⟨{ g with K:=K' },⟨hok.size,fun o y hy=>?_,fun o o' x x' b base base' hne hx hx' hb hb'=>?_,fun b j hk=>?_⟩,⟨by rw [hv.len];exact hr.1,fun i b v hb hv'=>?_⟩,rfl,fun o q=>hfree o (Nat.le_trans holen q),fun _ _=>rfl,fun b j h=>(hK' b j).2 (.inl h),fun o b base ho' hi'=>?_,fun b j hk=>?_⟩
 ·rcases hget' o y hy with ⟨hnd,hy⟩|⟨hge,hgh⟩
  case inr=>exact .inl ⟨hfree o hge,hgh⟩
  have hKo:∀ b base,g.inj o=some (b,base)→((bj os).h.get o).isSome=true→∀ j,K' b j→g.K b j:=fun b base hi hs j hk=>by
   rcases (hK' b j).1 hk with h|⟨o2,base2,cells,k,s,e,h1,h2,_⟩
   ·exact h
   ·exfalso
    obtain ⟨hd2,h1'⟩:=hsub o2 _ h1
    obtain ⟨x,hx⟩:=Option.isSome_iff_exists.1 hs
    exact hok.sep o o2 x _ b base base2 (fun e=>hnd (by rw [e];exact hd2)) hx h1' hi h2
  have hext:Ext g w { g with K:=K' } w:=⟨rfl,fun _ _ h=>h,fun b j h=>(hK' b j).2 (.inl h),fun _ _ _=>rfl,fun b cs e fr h=>⟨cs,fr,h,rfl⟩,fun b l h=>⟨l,h⟩⟩
  rcases hy with hy|⟨cells,cells',k,st,et,rfl,hy,hcl⟩
  ·refine (hok.mh o y hy).imp id ?_
   rintro ⟨b,base,h1,h2,h3⟩
   exact ⟨b,base,h1,h2,h3.ext hext rfl (fun j hj=>hKo b base h1 (by rw [hy];rfl) j hj)⟩
  ·refine (hok.mh o _ hy).imp (fun q=>⟨q.1,by
    obtain ⟨s0,e0,he⟩:=q.2
    simp only [az.row.injEq] at he
    obtain ⟨rfl,rfl,rfl,rfl⟩:=he
    cases hcl
    exact ⟨_,_,rfl⟩⟩) ?_
   rintro ⟨b,base,h1,h2,cs,fr,r1,r2,r3,r4,r5,r6,r7⟩
   refine ⟨b,base,h1,h2,cs,fr,r1,by rw [hcl.len];exact r2,fun j c hc=>?_,r4,fun j hj=>r5 j (hKo b base h1 (by rw [hy];rfl) j hj),r6,fun e=>by rw [hcl.len];exact r7 e⟩
   obtain ⟨a,ha,hla⟩:=hcl.get j c hc
   obtain ⟨u,hu,hru⟩:=r3 j a ha
   exact ⟨u,hu,hlax hla hru⟩
 ·have q:∀ o y p,(bj os').h.get o=some y→g.inj o=some p→∃ z,(bj os).h.get o=some z:=fun o y p hy hp=>by
   rcases hget' o y hy with ⟨_,h|⟨_,_,_,_,_,_,h,_⟩⟩|⟨h,_⟩
   ·exact ⟨_,h⟩
   ·exact ⟨_,h⟩
   ·rw [hfree o h] at hp;cases hp
  obtain ⟨z,hz⟩:=q o x _ hx hb
  obtain ⟨z',hz'⟩:=q o' x' _ hx' hb'
  exact hok.sep o o' z z' b base base' hne hz hz' hb hb'
 ·rcases (hK' b j).1 hk with h|⟨o,base,cells,k,s,e,h1,h2,_⟩
  ·exact hok.K b j h
  ·obtain ⟨b',base',h3,_,h4⟩:=hokD.obj o _ h1
   rw [h2] at h3;cases h3
   exact h4.lt
 ·obtain ⟨a,ha,hla⟩:=hv.get i b hb
  exact hlax hla (hr.2 i a v ha hv')
 ·obtain ⟨y,hy⟩:=Option.isSome_iff_exists.1 ho'
  rcases hget' o y hy with ⟨_,h|⟨_,_,_,_,_,_,h,_⟩⟩|⟨h,_⟩
  ·exact ⟨o,base,by rw [h];rfl,hi'⟩
  ·exact ⟨o,base,by rw [h];rfl,hi'⟩
  ·have:g.inj o=some (b,base):=hi'
   rw [hfree o h] at this;cases this
 ·rcases (hK' b j).1 hk with h|⟨o,base,cells,k,s,e,h1,h2,_⟩
  ·exact .inl h
  ·exact .inr ⟨o,base,by rw [(hsub o _ h1).2];rfl,h2⟩
theorem akb {α:Type} {P:Program} {T:dx} {ay:Nat} {b:Code} {Q:QL} {L:SL} {st:St} (keep:List Nat) (V : α→List AV) (O : α→List (Option az)) (I : α→Prop) (μ : α→Nat) (x : α) (hx:I x)
 (hv:sd ay (cy ay keep L st) (fy ay keep L st) (V x) (O x))
 (step:∀ x,I x→wl P T ay b (wo ay keep (fun vs os=>∃ y,I y ∧ μ y < μ x∧sd ay vs os (V y) (O y)) Q) (l8 keep (V x)) (bj (O x))):qz ay (wl P T ay b) Q L st:=
 qz.amo keep V O I μ x hx hv (fun _ _ h=>F5 b _ _ h) step
theorem kf {α:Type} {P:Program} {T:dx} {ay:Nat} {b:Code} {Q:QL} {L:SL} {st:St} (keep:List Nat) (V : α→List AV) (O : α→List (Option az)) (I : α→Prop) (μ : α→Nat) (x : α) (hx:I x)
 (hv:sd ay (cy ay keep L st) (fy ay keep L st) (V x) (O x))
 (step:∀ x,I x→wl P T ay b (wo ay keep (fun vs os=>∃ y,I y ∧ μ y < μ x∧vs=V y∧os=O y) Q) (l8 keep (V x)) (bj (O x))):qz ay (wl P T ay b) Q L st:=
 akb keep V O I μ x hx hv (fun x hi=>F5 b _ _ (fun e L' st' hq=>by
  cases e with
  |normal=>
   obtain ⟨y,h1,h2,h3,h4⟩:=hq
   refine ⟨y,h1,h2,?_⟩
   rw [h3,h4];exact .refl _ _ _
  |exit id=>exact hq
  |ret=>exact hq) _ _ (step x hi))
theorem E1 (f) (l):(List.map (ak.val f) l).flatMap AV.cells=l.map (ak.val f):=Lj ak f rfl rfl l
theorem Qb (f) (l):(List.map (ak.val f) l).all AV.one=true:=by rw [← E1 f l,Nw];exact Er _ _ _
theorem Hz (fr h n cells k st et) (hn:n=cells.length):mn ak fr h 0 n (.row cells k st et)=qa ak fr h cells:=vj ak rfl fr h n cells k st et hn
theorem Nd (fr h f) (l):qa ak fr h (List.map (ak.val f) l)=some l:=by
 have e:List.map (ak.val f) l=List.map (ak.val true) l:=by cases f<;>rfl
 rw [e];exact Cy ak rfl rfl fr h true (fun _=>rfl) l
theorem G3 (f) (l):(List.map (bu.val f) l).flatMap AV.cells=l.map (bu.val f):=Lj bu f rfl rfl l
theorem Um (f) (l):(List.map (bu.val f) l).all AV.one=true:=by rw [← G3 f l,Nw];exact Er _ _ _
theorem Kk (fr h n cells k st et) (hn:n=cells.length):mn bu fr h 0 n (.row cells k st et)=qa bu fr h cells:=vj bu rfl fr h n cells k st et hn
theorem Oz (fr h f) (l):qa bu fr h (List.map (bu.val f) l)=some l:=by
 have e:List.map (bu.val f) l=List.map (bu.val true) l:=by cases f<;>rfl
 rw [e];exact Cy bu rfl rfl fr h true (fun _=>rfl) l
theorem E2 (f) (l):(List.map (c0.val f) l).flatMap AV.cells=l.map (c0.val f):=Lj c0 f rfl rfl l
theorem Sk (f) (l):(List.map (c0.val f) l).all AV.one=true:=by rw [← E2 f l,Nw];exact Er _ _ _
theorem H2 (fr h n cells k st et) (hn:n=cells.length):mn c0 fr h 0 n (.row cells k st et)=qa c0 fr h cells:=vj c0 rfl fr h n cells k st et hn
theorem Mv (fr h f) (l):qa c0 fr h (List.map (c0.val f) l)=some l:=by
 have e:List.map (c0.val f) l=List.map (c0.val true) l:=by cases f<;>rfl
 rw [e];exact Cy c0 rfl rfl fr h true (fun _=>rfl) l
theorem Fi (fr h n cells k st et) (hn:n=cells.length):mn aw fr h 0 n (.row cells k st et)=qa aw fr h cells:=vj aw rfl fr h n cells k st et hn
theorem Ir (fr h f) (l) (hf:(f || !fr)=true):qa aw fr h (List.map (aw.val f) l)=some l:=Cy aw rfl rfl fr h f (fun e=>by subst e;simpa using hf) l
theorem Iw (fr h l n xs) (hn:n=1) (hl:(l || !fr)=true):g9 ak fr h (.vl l n (xs.map (ak.val false)))=some xs:=by
 cases l with
 |true=>exact ve ak fr h true xs n hn hl
 |false=>exact ve ak fr h false xs n hn hl
theorem Qu:ak.val true=ak.val false:=id rfl
theorem L9 (fr h l n xs) (hn:n=1) (hl:(l || !fr)=true):g9 bu fr h (.vl l n (xs.map (bu.val false)))=some xs:=by
 cases l with
 |true=>exact ve bu fr h true xs n hn hl
 |false=>exact ve bu fr h false xs n hn hl
theorem U7:bu.val true=bu.val false:=id rfl
theorem Jh (fr h l n xs) (hn:n=1) (hl:(l || !fr)=true):g9 c0 fr h (.vl l n (xs.map (c0.val false)))=some xs:=by
 cases l with
 |true=>exact ve c0 fr h true xs n hn hl
 |false=>exact ve c0 fr h false xs n hn hl
theorem O0:c0.val true=c0.val false:=id rfl
theorem Vf (fr h) (c:UInt8):bu.dec fr h [.sc (.int .u8 c.toNat)]=some c:=bu.rt fr h true c (fun _=>rfl)
theorem Sn (fr h) (c:UInt16):cw.dec fr h [.sc (.int .u16 c.toNat)]=some c:=cw.rt fr h true c (fun _=>rfl)
theorem Pb (fr h) (c:UInt32):c0.dec fr h [.sc (.int .u32 c.toNat)]=some c:=c0.rt fr h true c (fun _=>rfl)
theorem V0 (a b:List AV):AV.fresh.go (a++b)=(AV.fresh.go a && AV.fresh.go b):=by
 induction a with
 |nil=>rfl
 |cons x a ih=>simp only [List.cons_append,AV.fresh.go,ih,Bool.and_assoc]
theorem Zp (f) (l:List UInt8):AV.fresh.go (l.map (bu.val f))=true:=by
 induction l with
 |nil=>rfl
 |cons x l ih=>simp only [List.map_cons,AV.fresh.go,ih];rfl
theorem M7 (f) (c:Name):(aw.val f c).one=true:=id rfl
theorem Hs (f) (c:Name):(aw.val f c).cells=[aw.val f c]:=id rfl
theorem U4 (fr h a):(cj bu).dec fr h [a]=g9 bu fr h a:=id rfl
theorem Ko (fr h n cells k st et) (hn:n=cells.length):mn (cj bu) fr h 0 n (.row cells k st et)=qa (cj bu) fr h cells:=vj (cj bu) rfl fr h n cells k st et hn
end
end Go.Vm
section
set_option maxRecDepth 4000
namespace Go.Vm
theorem wR:type_of% @aen∧type_of% @Wc∧type_of% @ak7∧type_of% @afb∧type_of% @Yh∧type_of% @afe∧type_of% @afa∧type_of% @akz∧type_of% @amj∧type_of% @al1∧type_of% @ai9∧type_of% @aj9∧type_of% @ajh∧type_of% @alj∧type_of% @ae5∧type_of% @aeo∧type_of% @aej∧type_of% @akg∧type_of% @ak1∧type_of% @Uh∧type_of% @ace∧type_of% @Vv∧type_of% @So∧type_of% @Sq∧type_of% @Zc∧type_of% @Ye∧type_of% @abh∧type_of% @ae8∧type_of% @aao∧type_of% @aco∧type_of% @Wm∧type_of% @abv∧type_of% @U3∧type_of% @Vq∧type_of% @abb∧type_of% @Wr∧type_of% @Wq∧type_of% @aj1∧type_of% @F7∧type_of% @E9∧type_of% @Yz∧type_of% @Zo∧type_of% @Sx∧type_of% @aep∧type_of% @X8∧type_of% @Ws∧type_of% @Zz∧type_of% @ae1∧type_of% @alg∧type_of% @al4∧type_of% @ak9∧type_of% @amh∧type_of% @ajp∧type_of% @ald∧type_of% @aem∧type_of% @aes∧type_of% @afm∧type_of% @aer∧type_of% @afx∧type_of% @aae∧type_of% @Vy∧type_of% @Pa∧type_of% @Rp∧type_of% @ack∧type_of% @afl∧type_of% @af4∧type_of% @Sd∧type_of% @ame∧type_of% @aje∧type_of% @ac0∧type_of% @aba∧type_of% @ae9∧type_of% @Nf∧type_of% @Kc:=
 ⟨@aen,@Wc,@ak7,@afb,@Yh,@afe,@afa,@akz,@amj,@al1,@ai9,@aj9,@ajh,@alj,@ae5,@aeo,@aej,@akg,@ak1,@Uh,@ace,@Vv,@So,@Sq,@Zc,@Ye,@abh,@ae8,@aao,@aco,@Wm,@abv,@U3,@Vq,@abb,@Wr,@Wq,@aj1,@F7,@E9,@Yz,@Zo,@Sx,@aep,@X8,@Ws,@Zz,@ae1,@alg,@al4,@ak9,@amh,@ajp,@ald,@aem,@aes,@afm,@aer,@afx,@aae,@Vy,@Pa,@Rp,@ack,@afl,@af4,@Sd,@ame,@aje,@ac0,@aba,@ae9,@Nf,@Kc⟩
theorem R0:type_of% @acu∧type_of% @ako∧type_of% @nc0∧type_of% @nc1∧type_of% @Int.sub_zero∧type_of% @Int.sub_self∧type_of% @Int.zero_add∧type_of% @Rl∧type_of% @ak8∧type_of% @Uy∧type_of% @Z0∧type_of% @ae3∧type_of% @M4∧type_of% @List.length_replicate.{0}∧type_of% @V1∧type_of% @Wf∧type_of% @ak5∧type_of% @D4∧type_of% @Mf∧type_of% @Jp∧type_of% @aau∧type_of% @aad∧type_of% @P6∧type_of% @Hl∧type_of% @X7∧type_of% @afh∧type_of% @ama∧type_of% @Oi∧type_of% @Ed∧type_of% @N3∧type_of% @akk∧type_of% @agh∧type_of% @Nd∧type_of% @Oz∧type_of% @Mv∧type_of% @Ir∧type_of% @Vf∧type_of% @Sn∧type_of% @Pb∧type_of% @List.length_append.{0}∧type_of% @rtT∧type_of% @rtF∧type_of% @Go.Vm.qg.eq_1∧type_of% @Go.Vm.bounds.eq_1∧type_of% @Go.Vm.Cw.eq_1∧type_of% @Go.Vm.Cw.eq_2:=
 ⟨@acu,@ako,@nc0,@nc1,@Int.sub_zero,@Int.sub_self,@Int.zero_add,@Rl,@ak8,@Uy,@Z0,@ae3,@M4,@List.length_replicate.{0},@V1,@Wf,@ak5,@D4,@Mf,@Jp,@aau,@aad,@P6,@Hl,@X7,@afh,@ama,@Oi,@Ed,@N3,@akk,@agh,@Nd,@Oz,@Mv,@Ir,@Vf,@Sn,@Pb,@List.length_append.{0},@rtT,@rtF,@Go.Vm.qg.eq_1,@Go.Vm.bounds.eq_1,@Go.Vm.Cw.eq_1,@Go.Vm.Cw.eq_2⟩
theorem R1:type_of% @Go.Vm.q9.eq_1∧type_of% @Go.Vm.rz.eq_def∧type_of% @Fz∧type_of% @H9∧type_of% @M5∧type_of% @Rc∧type_of% @Nat.div_one∧type_of% @Qp∧type_of% @Rf∧type_of% @aj2∧type_of% @Nl∧type_of% @Pd∧type_of% @Ni∧type_of% @apc∧type_of% @E1∧type_of% @G3∧type_of% @E2∧type_of% @Qb∧type_of% @Um∧type_of% @Sk∧type_of% @Qu∧type_of% @U7∧type_of% @O0∧type_of% @aey∧type_of% @aff∧type_of% @Pz∧type_of% @afd∧type_of% @Fe∧type_of% @Kx∧type_of% @Option.isNone_none.{0}∧type_of% @Option.isNone_some.{0}∧type_of% @afi:=
 ⟨@Go.Vm.q9.eq_1,@Go.Vm.rz.eq_def,@Fz,@H9,@M5,@Rc,@Nat.div_one,@Qp,@Rf,@aj2,@Nl,@Pd,@Ni,@apc,@E1,@G3,@E2,@Qb,@Um,@Sk,@Qu,@U7,@O0,@aey,@aff,@Pz,@afd,@Fe,@Kx,@Option.isNone_none.{0},@Option.isNone_some.{0},@afi⟩
theorem R2:type_of% @M7∧type_of% @Hs∧type_of% @Iw∧type_of% @L9∧type_of% @Jh∧type_of% @V0∧type_of% @Zp∧type_of% @U4∧type_of% @Ko∧type_of% @Hz∧type_of% @Kk∧type_of% @H2∧type_of% @Fi∧type_of% @Xz∧type_of% @Cq∧type_of% @List.isEmpty_cons.{0}∧type_of% @List.isEmpty_nil.{0}∧type_of% @List.flatMap_nil.{0,0}∧type_of% @Nb∧type_of% @L7∧type_of% @Q6∧type_of% @P4∧type_of% @and_true∧type_of% @true_and∧type_of% @Mw∧type_of% @M2∧type_of% @V7∧type_of% @af0∧type_of% @ai8∧type_of% @and_self∧type_of% @List.size_toArray.{0}∧type_of% @V3∧type_of% @Ut∧type_of% @Zv∧type_of% @Yy∧type_of% @Vs∧type_of% @aan∧type_of% @Sh∧type_of% @aar∧type_of% @H6∧type_of% @Uf∧type_of% @abj∧type_of% @Vi∧type_of% @L8∧type_of% @H7:=
 ⟨@M7,@Hs,@Iw,@L9,@Jh,@V0,@Zp,@U4,@Ko,@Hz,@Kk,@H2,@Fi,@Xz,@Cq,@List.isEmpty_cons.{0},@List.isEmpty_nil.{0},@List.flatMap_nil.{0,0},@Nb,@L7,@Q6,@P4,@and_true,@true_and,@Mw,@M2,@V7,@af0,@ai8,@and_self,@List.size_toArray.{0},@V3,@Ut,@Zv,@Yy,@Vs,@aan,@Sh,@aar,@H6,@Uf,@abj,@Vi,@L8,@H7⟩
theorem R3:type_of% @Kj∧type_of% @Uu∧type_of% @Vn∧type_of% @F6∧type_of% @Uj∧type_of% @afp∧type_of% @Sb∧type_of% @abl∧type_of% @Wi∧type_of% @Ru∧type_of% @Yq∧type_of% @V6∧type_of% @Vh∧type_of% @O3∧type_of% @Q9∧type_of% @L4∧type_of% @apf∧type_of% @aa7∧type_of% @Wl∧type_of% @Np∧type_of% @Jr∧type_of% @Rm∧type_of% @O5∧type_of% @v7∧type_of% @Go.Vm.cellsIn.eq_1∧type_of% @Go.Vm.cellsIn.eq_2∧type_of% @Go.Vm.cellsIn.eq_5∧type_of% @Go.Vm.cellsIn.eq_6∧type_of% @Go.Vm.wx.eq_1∧type_of% @Go.Vm.zk.eq_1∧type_of% @Cp∧type_of% @Jn∧type_of% @J7∧type_of% @Kw∧type_of% @Bc∧type_of% @Ej∧type_of% @Dm∧type_of% @C1∧type_of% @Jo∧type_of% @Ga∧type_of% @I3∧type_of% @Bm∧type_of% @H5∧type_of% @Jm∧type_of% @Hu:=
 ⟨@Kj,@Uu,@Vn,@F6,@Uj,@afp,@Sb,@abl,@Wi,@Ru,@Yq,@V6,@Vh,@O3,@Q9,@L4,@apf,@aa7,@Wl,@Np,@Jr,@Rm,@O5,@v7,@Go.Vm.cellsIn.eq_1,@Go.Vm.cellsIn.eq_2,@Go.Vm.cellsIn.eq_5,@Go.Vm.cellsIn.eq_6,@Go.Vm.wx.eq_1,@Go.Vm.zk.eq_1,@Cp,@Jn,@J7,@Kw,@Bc,@Ej,@Dm,@C1,@Jo,@Ga,@I3,@Bm,@H5,@Jm,@Hu⟩
theorem R4:type_of% @Bo∧type_of% @Ht∧type_of% @Ke∧type_of% @Me∧type_of% @Jj∧type_of% @Vl∧type_of% @vo∧type_of% @Qa∧type_of% @My∧type_of% @Zl∧type_of% @ve∧type_of% @afg∧type_of% @Rw∧type_of% @Ry∧type_of% @Dn∧type_of% @Vw∧type_of% @P7∧type_of% @Go.Vm.ka.eq_1∧type_of% @List.flatten_cons.{0}∧type_of% @List.flatten_nil.{0}∧type_of% @List.replicate_succ.{0}∧type_of% @List.replicate_zero.{0}∧type_of% @Wj∧type_of% @Up∧type_of% @ajk∧type_of% @afq∧type_of% @aoz∧type_of% @apr∧type_of% @ao2∧type_of% @Gs∧type_of% @Dh∧type_of% @G9∧type_of% @yq∧type_of% @Ms:=
 ⟨@Bo,@Ht,@Ke,@Me,@Jj,@Vl,@vo,@Qa,@My,@Zl,@ve,@afg,@Rw,@Ry,@Dn,@Vw,@P7,@Go.Vm.ka.eq_1,@List.flatten_cons.{0},@List.flatten_nil.{0},@List.replicate_succ.{0},@List.replicate_zero.{0},@Wj,@Up,@ajk,@afq,@aoz,@apr,@ao2,@Gs,@Dh,@G9,@yq,@Ms⟩
theorem R5:type_of% @Gr∧type_of% @Ep∧type_of% @Bk∧type_of% @x6∧type_of% @zd∧type_of% @Mp∧type_of% @Us∧type_of% @Ez∧type_of% @w4∧type_of% @E6∧type_of% @Ia∧type_of% @Ly∧type_of% @Mo∧type_of% @J8∧type_of% @C5∧type_of% @O4∧type_of% @Ij∧type_of% @ak2∧type_of% @aka∧type_of% @Go.IntKind.bits.eq_6∧type_of% @Go.IntKind.bits.eq_8∧type_of% @Nat.min_def∧type_of% @aoq∧type_of% @ape∧type_of% @ao5∧type_of% @apg∧type_of% @aow∧type_of% @apd∧type_of% @apl∧type_of% @aos∧type_of% @aor∧type_of% @aou∧type_of% @Yo∧type_of% @Yf∧type_of% @asb∧type_of% @ar9∧type_of% @aia∧type_of% @Go.Vm.wi.eq_1∧type_of% @Go.Vm.qj.eq_1∧type_of% @Go.Vm.om.eq_def:=
 ⟨@Gr,@Ep,@Bk,@x6,@zd,@Mp,@Us,@Ez,@w4,@E6,@Ia,@Ly,@Mo,@J8,@C5,@O4,@Ij,@ak2,@aka,@Go.IntKind.bits.eq_6,@Go.IntKind.bits.eq_8,@Nat.min_def,@aoq,@ape,@ao5,@apg,@aow,@apd,@apl,@aos,@aor,@aou,@Yo,@Yf,@asb,@ar9,@aia,@Go.Vm.wi.eq_1,@Go.Vm.qj.eq_1,@Go.Vm.om.eq_def⟩
theorem R6:type_of% @Go.Vm.su.eq_1∧type_of% @Go.Vm.tl.eq_1∧type_of% @Go.Vm.mz.eq_1∧type_of% @Go.Vm.jr.eq_1∧type_of% @Go.Vm.jr.eq_2∧type_of% @Go.Vm.AV.known.eq_2∧type_of% @Go.Value.oneCell'.eq_3∧type_of% @Go.Vm.AV.cells.eq_1∧type_of% @Go.Vm.AV.cells.eq_2∧type_of% @Go.Vm.AV.cells.eq_3∧type_of% @Go.Value.cells.eq_1∧type_of% @Go.Value.cells.eq_2∧type_of% @Go.Vm.AV.one.eq_4∧type_of% @Go.Vm.AV.one.eq_5∧type_of% @Go.Vm.j3.eq_1∧type_of% @Go.Vm.i9.eq_1∧type_of% @Go.Vm.i9.eq_2∧type_of% @Go.Vm.rj.eq_1∧type_of% @Go.Vm.oj.eq_1∧type_of% @Go.Vm.qp.eq_2∧type_of% @Go.Vm.qp.eq_6∧type_of% @Go.Vm.jo.eq_1∧type_of% @Go.Vm.jo.eq_3∧type_of% @Go.Vm.jo.eq_4∧type_of% @Go.Vm.wk.eq_1∧type_of% @Go.Vm.B7.eq_1∧type_of% @Go.Vm.Ji.eq_1∧type_of% @Go.Vm.mg.eq_1∧type_of% @Go.Vm.mg.eq_2∧type_of% @Go.Vm.mg.eq_3∧type_of% @Go.Vm.mg.eq_4∧type_of% @Go.Vm.mg.eq_5∧type_of% @Go.Vm.mg.eq_6∧type_of% @Go.Vm.mg.eq_7∧type_of% @Go.Vm.mg.eq_8∧type_of% @Go.Vm.mg.eq_9∧type_of% @Go.Vm.mg.eq_10:=
 ⟨@Go.Vm.su.eq_1,@Go.Vm.tl.eq_1,@Go.Vm.mz.eq_1,@Go.Vm.jr.eq_1,@Go.Vm.jr.eq_2,@Go.Vm.AV.known.eq_2,@Go.Value.oneCell'.eq_3,@Go.Vm.AV.cells.eq_1,@Go.Vm.AV.cells.eq_2,@Go.Vm.AV.cells.eq_3,@Go.Value.cells.eq_1,@Go.Value.cells.eq_2,@Go.Vm.AV.one.eq_4,@Go.Vm.AV.one.eq_5,@Go.Vm.j3.eq_1,@Go.Vm.i9.eq_1,@Go.Vm.i9.eq_2,@Go.Vm.rj.eq_1,@Go.Vm.oj.eq_1,@Go.Vm.qp.eq_2,@Go.Vm.qp.eq_6,@Go.Vm.jo.eq_1,@Go.Vm.jo.eq_3,@Go.Vm.jo.eq_4,@Go.Vm.wk.eq_1,@Go.Vm.B7.eq_1,@Go.Vm.Ji.eq_1,@Go.Vm.mg.eq_1,@Go.Vm.mg.eq_2,@Go.Vm.mg.eq_3,@Go.Vm.mg.eq_4,@Go.Vm.mg.eq_5,@Go.Vm.mg.eq_6,@Go.Vm.mg.eq_7,@Go.Vm.mg.eq_8,@Go.Vm.mg.eq_9,@Go.Vm.mg.eq_10⟩
theorem R7:type_of% @Go.Vm.AV.int.eq_1∧type_of% @Go.Vm.AV.bool.eq_1∧type_of% @Go.Vm.AV.exact.eq_1∧type_of% @Go.Vm.AV.exact.eq_2∧type_of% @Go.Vm.intOf.eq_1∧type_of% @Go.Vm.intOf.eq_2∧type_of% @Go.Vm.od.eq_1∧type_of% @Go.Vm.j5.eq_1∧type_of% @Go.Vm.tn.eq_1∧type_of% @Go.Vm.tn.eq_2∧type_of% @Go.Vm.vp.eq_1∧type_of% @Go.Vm.An.eq_1∧type_of% @Go.Vm.oi.eq_1∧type_of% @Go.Vm.nw.eq_1∧type_of% @Go.Vm.n8.eq_1∧type_of% @Go.Vm.n8.eq_3∧type_of% @Go.Vm.n8.eq_9∧type_of% @Go.Vm.C0.eq_1∧type_of% @Go.Vm.Nv.eq_1∧type_of% @Go.Vm.Fu.eq_1∧type_of% @Go.Vm.isSlice.eq_3∧type_of% @Go.Vm.isSlice.eq_4∧type_of% @Go.Vm.Cf.eq_1∧type_of% @Go.goInt.eq_1∧type_of% @ajf∧type_of% @aku∧type_of% @amc∧type_of% @Go.Vm.pack.eq_1∧type_of% @Go.Vm.pack.eq_2∧type_of% @Go.Vm.b9.eq_1∧type_of% @Go.Vm.b9.eq_2∧type_of% @Go.Vm.bj.eq_1∧type_of% @Go.Vm.qf.eq_1∧type_of% @Go.Vm.qf.eq_2∧type_of% @Go.Vm.sk.eq_1∧type_of% @pz∧type_of% @B9∧type_of% @U6∧type_of% @Zq∧type_of% @A4∧type_of% @A9∧type_of% @Dy:=
 ⟨@Go.Vm.AV.int.eq_1,@Go.Vm.AV.bool.eq_1,@Go.Vm.AV.exact.eq_1,@Go.Vm.AV.exact.eq_2,@Go.Vm.intOf.eq_1,@Go.Vm.intOf.eq_2,@Go.Vm.od.eq_1,@Go.Vm.j5.eq_1,@Go.Vm.tn.eq_1,@Go.Vm.tn.eq_2,@Go.Vm.vp.eq_1,@Go.Vm.An.eq_1,@Go.Vm.oi.eq_1,@Go.Vm.nw.eq_1,@Go.Vm.n8.eq_1,@Go.Vm.n8.eq_3,@Go.Vm.n8.eq_9,@Go.Vm.C0.eq_1,@Go.Vm.Nv.eq_1,@Go.Vm.Fu.eq_1,@Go.Vm.isSlice.eq_3,@Go.Vm.isSlice.eq_4,@Go.Vm.Cf.eq_1,@Go.goInt.eq_1,@ajf,@aku,@amc,@Go.Vm.pack.eq_1,@Go.Vm.pack.eq_2,@Go.Vm.b9.eq_1,@Go.Vm.b9.eq_2,@Go.Vm.bj.eq_1,@Go.Vm.qf.eq_1,@Go.Vm.qf.eq_2,@Go.Vm.sk.eq_1,@pz,@B9,@U6,@Zq,@A4,@A9,@Dy⟩
theorem R8:type_of% @Qr∧type_of% @Pp∧type_of% @O6∧type_of% @Mu∧type_of% @Sp∧type_of% @Go.Vm.cy.eq_1∧type_of% @Go.Vm.fy.eq_1∧type_of% @Go.Vm.gw.eq_1∧type_of% @Go.Vm.pv.eq_1∧type_of% @Go.Vm.pv.eq_2∧type_of% @Go.Vm.reach.eq_2∧type_of% @Go.Vm.reach.eq_3∧type_of% @Go.Vm.gh.eq_1∧type_of% @Go.Vm.dm.eq_1∧type_of% @Go.Vm.dm.eq_2∧type_of% @Go.Vm.AV.names.eq_1∧type_of% @Go.Vm.AV.names.eq_2∧type_of% @Go.Vm.AV.names.eq_3∧type_of% @Go.Vm.AV.names.eq_4∧type_of% @Go.Vm.AV.names.eq_5∧type_of% @Go.Vm.AV.names.eq_9∧type_of% @Go.Vm.AV.names.go.eq_1∧type_of% @Go.Vm.AV.names.go.eq_2∧type_of% @Go.Vm.az.names.eq_1∧type_of% @Go.Vm.AV.cx.eq_1∧type_of% @Go.Vm.AV.cx.eq_2∧type_of% @Go.Vm.AV.cx.eq_3∧type_of% @Go.Vm.AV.cx.eq_4∧type_of% @Go.Vm.AV.cx.eq_5∧type_of% @Go.Vm.AV.cx.eq_6∧type_of% @Go.Vm.AV.cx.eq_7∧type_of% @Go.Vm.AV.cx.eq_11∧type_of% @Go.Vm.az.cx.eq_1∧type_of% @Gi∧type_of% @aft∧type_of% @Go.Vm.jj.eq_1∧type_of% @Go.Vm.jj.eq_2∧type_of% @Go.Vm.l8.eq_2∧type_of% @kn∧type_of% @Option.bind_some.{0,0}∧type_of% @Option.bind_none.{0,0}∧type_of% @Option.map_some.{0,0}∧type_of% @Option.getD_some.{0}∧type_of% @Option.getD_none.{0}∧type_of% @Option.isSome_some.{0}:=
 ⟨@Qr,@Pp,@O6,@Mu,@Sp,@Go.Vm.cy.eq_1,@Go.Vm.fy.eq_1,@Go.Vm.gw.eq_1,@Go.Vm.pv.eq_1,@Go.Vm.pv.eq_2,@Go.Vm.reach.eq_2,@Go.Vm.reach.eq_3,@Go.Vm.gh.eq_1,@Go.Vm.dm.eq_1,@Go.Vm.dm.eq_2,@Go.Vm.AV.names.eq_1,@Go.Vm.AV.names.eq_2,@Go.Vm.AV.names.eq_3,@Go.Vm.AV.names.eq_4,@Go.Vm.AV.names.eq_5,@Go.Vm.AV.names.eq_9,@Go.Vm.AV.names.go.eq_1,@Go.Vm.AV.names.go.eq_2,@Go.Vm.az.names.eq_1,@Go.Vm.AV.cx.eq_1,@Go.Vm.AV.cx.eq_2,@Go.Vm.AV.cx.eq_3,@Go.Vm.AV.cx.eq_4,@Go.Vm.AV.cx.eq_5,@Go.Vm.AV.cx.eq_6,@Go.Vm.AV.cx.eq_7,@Go.Vm.AV.cx.eq_11,@Go.Vm.az.cx.eq_1,@Gi,@aft,@Go.Vm.jj.eq_1,@Go.Vm.jj.eq_2,@Go.Vm.l8.eq_2,@kn,@Option.bind_some.{0,0},@Option.bind_none.{0,0},@Option.map_some.{0,0},@Option.getD_some.{0},@Option.getD_none.{0},@Option.isSome_some.{0}⟩
theorem R9:type_of% @List.getElem?_cons_zero.{0}∧type_of% @List.getElem?_toArray.{0}∧type_of% @Go.Vm.b8.eq_1∧type_of% @List.drop_zero.{0}∧type_of% @List.drop_succ_cons.{0}∧type_of% @List.drop_nil.{0}∧type_of% @List.take_succ_cons.{0}∧type_of% @List.take_zero.{0}∧type_of% @List.length_cons.{0}∧type_of% @List.length_nil.{0}∧type_of% @List.length_map.{0,0}∧type_of% @List.getElem?_cons_succ.{0}∧type_of% @List.getElem?_nil.{0}∧type_of% @List.getElem?_map.{0,0}∧type_of% @List.getElem?_drop.{0}∧type_of% @List.map_cons.{0,0}∧type_of% @List.map_nil.{0,0}∧type_of% @List.nil_append.{0}∧type_of% @List.cons_append.{0}∧type_of% @List.append_nil.{0}∧type_of% @List.all_cons.{0}∧type_of% @List.all_nil.{0}∧type_of% @cond_true.{1}∧type_of% @cond_false.{1}∧type_of% @decide_true∧type_of% @decide_false∧type_of% @Bool.and_true∧type_of% @Bool.true_and∧type_of% @Bool.and_self∧type_of% @Bool.not_true∧type_of% @Bool.not_false∧type_of% @BEq.rfl.{0}∧type_of% @Nat.zero_le∧type_of% @Nat.le_refl∧type_of% @Nat.add_zero∧type_of% @Nat.zero_add∧type_of% @Nat.mul_one∧type_of% @Int.toNat_natCast∧type_of% @Int.natCast_nonneg∧type_of% @Nat.sub_self∧type_of% @List.contains_nil.{0}∧type_of% @List.contains_cons.{0}∧type_of% @Bool.or_false∧type_of% @Bool.false_or∧type_of% @Bool.or_true∧type_of% @Bool.true_or∧type_of% @List.map_map.{0,0,0}∧type_of% @Yp∧type_of% @Lk∧type_of% @J2∧type_of% @Ku∧type_of% @Ug∧type_of% @Wg:=
 ⟨@List.getElem?_cons_zero.{0},@List.getElem?_toArray.{0},@Go.Vm.b8.eq_1,@List.drop_zero.{0},@List.drop_succ_cons.{0},@List.drop_nil.{0},@List.take_succ_cons.{0},@List.take_zero.{0},@List.length_cons.{0},@List.length_nil.{0},@List.length_map.{0,0},@List.getElem?_cons_succ.{0},@List.getElem?_nil.{0},@List.getElem?_map.{0,0},@List.getElem?_drop.{0},@List.map_cons.{0,0},@List.map_nil.{0,0},@List.nil_append.{0},@List.cons_append.{0},@List.append_nil.{0},@List.all_cons.{0},@List.all_nil.{0},@cond_true.{1},@cond_false.{1},@decide_true,@decide_false,@Bool.and_true,@Bool.true_and,@Bool.and_self,@Bool.not_true,@Bool.not_false,@BEq.rfl.{0},@Nat.zero_le,@Nat.le_refl,@Nat.add_zero,@Nat.zero_add,@Nat.mul_one,@Int.toNat_natCast,@Int.natCast_nonneg,@Nat.sub_self,@List.contains_nil.{0},@List.contains_cons.{0},@Bool.or_false,@Bool.false_or,@Bool.or_true,@Bool.true_or,@List.map_map.{0,0,0},@Yp,@Lk,@J2,@Ku,@Ug,@Wg⟩
theorem R10:type_of% @O2∧type_of% @Nn∧type_of% @Rk∧type_of% @asz∧type_of% @ar0∧type_of% @arz∧type_of% @ars∧type_of% @asm∧type_of% @ari∧type_of% @Z2∧type_of% @X4∧type_of% @Ux∧type_of% @Q7∧type_of% @aa1∧type_of% @Go.Vm.AV.fresh.eq_1∧type_of% @Go.Vm.AV.fresh.eq_2∧type_of% @Go.Vm.AV.fresh.eq_3∧type_of% @Go.Vm.AV.fresh.eq_4∧type_of% @Go.Vm.AV.fresh.go.eq_1∧type_of% @Go.Vm.AV.fresh.go.eq_2∧type_of% @List.map_append.{0,0}:=
 ⟨@O2,@Nn,@Rk,@asz,@ar0,@arz,@ars,@asm,@ari,@Z2,@X4,@Ux,@Q7,@aa1,@Go.Vm.AV.fresh.eq_1,@Go.Vm.AV.fresh.eq_2,@Go.Vm.AV.fresh.eq_3,@Go.Vm.AV.fresh.eq_4,@Go.Vm.AV.fresh.go.eq_1,@Go.Vm.AV.fresh.go.eq_2,@List.map_append.{0,0}⟩
theorem RA:type_of% R0∧type_of% R1∧type_of% R2∧type_of% R3∧type_of% R4∧type_of% R5∧type_of% R6∧type_of% R7∧type_of% R8∧type_of% R9∧type_of% R10:=
 ⟨R0,R1,R2,R3,R4,R5,R6,R7,R8,R9,R10⟩
theorem FB:type_of% @List.cons.injEq.{0}∧type_of% @Ui∧type_of% @Wo∧type_of% @List.length_append.{0}∧type_of% @List.length_cons.{0}∧type_of% @List.length_nil.{0}∧type_of% @List.map_append.{0,0}∧type_of% @List.map_cons.{0,0}∧type_of% @List.map_nil.{0,0}∧type_of% @and_true∧type_of% @true_and∧type_of% @and_self∧type_of% @AV.sc.injEq∧type_of% @AV.sl.injEq∧type_of% @az.row.injEq∧type_of% @Option.some.injEq.{0}∧type_of% @Value.int.injEq∧type_of% @Nat.zero_add:=
 ⟨@List.cons.injEq.{0},@Ui,@Wo,@List.length_append.{0},@List.length_cons.{0},@List.length_nil.{0},@List.map_append.{0,0},@List.map_cons.{0,0},@List.map_nil.{0,0},@and_true,@true_and,@and_self,@AV.sc.injEq,@AV.sl.injEq,@az.row.injEq,@Option.some.injEq.{0},@Value.int.injEq,@Nat.zero_add⟩
end Go.Vm
end
section
namespace Go.Vm
noncomputable section
open Go.ChangeShapes Go.WideShapes Go.ChangeAt
mutual
def k8 {H:Type}:DataW H→Nat
 |.lit (.string bytes)=>bytes.length+1
 |.lit _=>1
 |.nil=>1
 |.ptr d=>k8 d+1
 |.slice elems spare=>me elems+me spare+1
 |.agg parts=>me parts+1
 |.iface _ d=>k8 d+1
 |.map entries=>Sm entries+1
 |.held _=>1
def me {H:Type}:List (DataW H)→Nat
 | []=>0
 |d::r=>k8 d+me r
def Sm {H:Type}:List (Lit × DataW H)→Nat
 | []=>0
 |x::r=>ah7 x+Sm r
def ah7 {H:Type}:Lit × DataW H→Nat
 |(.string bytes,d)=>bytes.length+k8 d+1
 |(_,d)=>k8 d+1
end
def Zt (W:World):Nat→Nat→Prop:=fun b _=>b<W.heap.size
def Rd (P:Program) (t:TypeId) {α:Type} (C:cr α) (μ : α→Nat):Prop:=
 ∀ {H:Type} (enc:TypeId × Value→H) (W:World) (b0 fuel:Nat) (cs:List Value) (x:DataW H × List MemPlace),DataW.trod enc P W 0 (fun _=>true) true fuel t cs=some x →
  ∃ y,bm (gK b0 (Zt W)) W (C.cells false y) cs ∧ μ y≤k8 x.1
theorem as5 {P:Program} {t:TypeId} (ht:P.underlying t=some (.int .u8)):Rd P t bu (fun _=>1):=by
 intro H enc W b0 fuel cs x h
 obtain ⟨n,rfl,rfl,hw⟩:=DataW.trod_int ht h
 have hx : 0≤n∧n≤255:=by simpa [Lit.wf,IntKind.min,IntKind.max,IntKind.signed,IntKind.bits] using hw
 refine ⟨UInt8.ofNat n.toNat,?_,by simp [k8]⟩
 have:n=((UInt8.ofNat n.toNat).toNat:Int):=by rw [UInt8.toNat_ofNat'];omega
 exact bm.one (by (conv=>rhs;rw [this]);exact .sc _)
theorem amb {P:Program} {t:TypeId} (ht:P.underlying t=some (.int .u16)):Rd P t cw (fun _=>1):=by
 intro H enc W b0 fuel cs x h
 obtain ⟨n,rfl,rfl,hw⟩:=DataW.trod_int ht h
 have hx : 0≤n∧n≤65535:=by simpa [Lit.wf,IntKind.min,IntKind.max,IntKind.signed,IntKind.bits] using hw
 refine ⟨UInt16.ofNat n.toNat,?_,by simp [k8]⟩
 have:n=((UInt16.ofNat n.toNat).toNat:Int):=by rw [UInt16.toNat_ofNat'];omega
 exact bm.one (by (conv=>rhs;rw [this]);exact .sc _)
theorem alh {P:Program} {t:TypeId} (ht:P.underlying t=some (.int .u32)):Rd P t c0 (fun _=>1):=by
 intro H enc W b0 fuel cs x h
 obtain ⟨n,rfl,rfl,hw⟩:=DataW.trod_int ht h
 have hx : 0≤n∧n≤4294967295:=Go.bounds_u32 hw
 refine ⟨UInt32.ofNat n.toNat,?_,by simp [k8]⟩
 have:n=((UInt32.ofNat n.toNat).toNat:Int):=by rw [UInt32.toNat_ofNat'];omega
 exact bm.one (by (conv=>rhs;rw [this]);exact .sc _)
theorem asr {P:Program} {t:TypeId} (ht:P.underlying t=some .string):Rd P t ak (fun s=>s.size+1):=by
 intro H enc W b0 fuel cs x h
 obtain ⟨s,rfl,rfl,_⟩:=DataW.trod_string ht h
 refine ⟨s,bm.one (.sc _),?_⟩
 show s.size+1≤k8 (DataW.lit (Lit.string s.data.toList))
 rw [k8,Array.length_toList]
 exact Nat.le_refl _
theorem aqh (ao k s v j:Nat) (h3:v=k * s) (hge:v≤j):ao+k * s+(j - v)=ao+j:=by rw [← h3];omega
def r9 {α:Type} (μ : α→Nat):List α→Nat
 | []=>0
 |x::r=>μ x+r9 μ r
theorem Mk {α:Type} (μ : α→Nat):∀ a b:List α,r9 μ (a++b)=r9 μ a+r9 μ b
 | [],b=>by simp [r9]
 |x::a,b=>by simp [r9,Mk μ a b];omega
theorem Il {H:Type}:∀ a b:List (DataW H),me (a++b)=me a+me b
 | [],b=>by simp [me]
 |x::a,b=>by simp [me,Il a b];omega
theorem aqn {P:Program} {t e:TypeId} {α:Type} {C:cr α} {μ : α→Nat} (ht:P.underlying t=some (.slice e)) (hsz:P.cellsOf e=C.sz) (hpos : 0<C.sz) (he:Rd P e C μ):Rd P t (cj C) (fun l=>r9 μ l+1):=by
 intro H enc W b0 fuel cs x h
 rcases Go.Deep.open_slice ht h with ⟨rfl,rfl⟩|⟨a,len,cap,m,n,D,Pl,rfl,_,hl,hm,hmm,rfl,hx⟩
 ·exact ⟨[],bm.one (.lf _ _),by simp [r9,k8]⟩
 ·simp only [if_true] at hmm
  subst hmm
  have spot : 0<m→a.spot=none∧a.block<W.heap.size:=by
   intro h0
   obtain ⟨cs',h1,_⟩:=hx 0 h0
   rw [hsz] at h1
   simp only [World.cells?,Nat.zero_le,if_true] at h1
   have h2:=mapM_some_get h1 0 0 (by simp [hpos])
   have hlen:=mapM_some_length h1
   have h3:∃ v,cs'[0]? = some v:=⟨cs'[0]'(by rw [hlen];simpa using hpos),by simp⟩
   obtain ⟨v,hv⟩:=h3
   rw [hv] at h2
   simp only [Nat.zero_mul,Addr.add,if_true] at h2
   simp only [World.cell?] at h2
   split at h2
   ·rename_i c _ _ hb
    cases hs:a.spot with
    |none=>exact ⟨rfl,bw hb⟩
    |some s=>simp [hs] at h2
   ·cases h2
  have build:∀ k,k≤len→∃ (xs:List α) (vs:List Value),xs.length=k∧bm (gK b0 (Zt W)) W (xs.flatMap (C.cells false)) vs∧vs.length=k * C.sz∧(∀ j v,vs[j]? = some v→W.cell? ⟨a.block,a.off+j,none⟩=some v) ∧
   r9 μ xs≤me ((List.range k).map D):=by
   intro k
   induction k with
   |zero=>intro _;exact ⟨[],[],rfl,bm.nil _ _,by simp,(fun j v hj=>by simp at hj),by simp [r9,me]⟩
   |succ k ih=>
    intro hk
    obtain ⟨xs,vs,h1,h2,h3,h4,h5⟩:=ih (by omega)
    obtain ⟨cs',h6,h7⟩:=hx k (by omega)
    obtain ⟨y,h8,h9⟩:=he enc W b0 n cs' _ h7
    rw [hsz] at h6
    simp only [World.cells?,Nat.zero_le,if_true] at h6
    have hlen:=mapM_some_length h6
    simp only [List.length_range] at hlen
    refine ⟨xs++[y],vs++cs',by simp [h1],?_,by simp [h3,hlen,Nat.succ_mul],fun j v hj=>?_,?_⟩
    ·rw [List.flatMap_append];exact h2.append (by simpa using h8)
    ·by_cases hj1:j<vs.length
     ·rw [List.getElem?_append_left hj1] at hj;exact h4 j v hj
     ·rw [List.getElem?_append_right (by omega)] at hj
      have hj2:=(List.getElem?_eq_some_iff.1 hj).1
      have h10:=mapM_some_get h6 (j - vs.length) (j - vs.length) (List.getElem?_range (by rw [← hlen];exact hj2))
      rw [hj] at h10
      have hs:=(spot (by omega)).1
      have e:(a.add (k * C.sz)).add (j - vs.length)=⟨a.block,a.off+j,none⟩:=by
       obtain ⟨ab,ao,azs⟩:=a
       simp only at hs
       subst hs
       rw [Addr.m8,Addr.m8]
       have hge:vs.length≤j:=Nat.le_of_not_lt hj1
       rw [aqh ao k C.sz vs.length j h3 hge]
      rw [e] at h10
      exact h10
    ·rw [Mk,List.range_succ,List.map_append,Il]
     simp only [r9,List.map_cons,List.map_nil,me]
     have : μ y≤k8 (D k):=h9
     omega
  obtain ⟨xs,vs,h1,h2,h3,h4,h5⟩:=build len (Nat.le_refl _)
  refine ⟨xs,bm.one ?_,by
   simp only [k8]
   have:r9 μ xs≤me ((List.range len).map D):=h5
   omega⟩
  by_cases h0 : 0<m
  ·obtain ⟨hs,hb⟩:=spot h0
   obtain ⟨ab,ao,azs⟩:=a
   simp only at hs hb h4
   subst hs
   rw [← h1]
   refine ahe C h2 (by omega) (fun e=>by cases e) (fun j v hj=>⟨hb,h4 j v hj⟩)
  ·have hl0:len=0:=by omega
   have hm0:m=0:=by omega
   subst hl0 hm0
   have:xs=[]:=List.eq_nil_of_length_eq_zero h1
   subst this
   exact .uu _ _ _
def Ur (P:Program) (fs:List Field) (off:Nat) {α:Type} (C:cr α) (μ : α→Nat):Prop:=
 ∀ {H:Type} (enc:TypeId × Value→H) (W:World) (b0 n:Nat) (cs:List Value) (ys:List (DataW H × List MemPlace)),ys.length=fs.length →
  (∀ (i:Nat) f,fs[i]? = some f→DataW.trod enc P W 0 (fun _=>true) true n f.type ((cs.drop f.offset).take (P.cellsOf f.type))=ys[i]?) →
  ∃ y,bm (gK b0 (Zt W)) W (C.cells false y) ((cs.drop off).take C.sz) ∧ μ y≤me (ys.map (·.1))
theorem aqo {P:Program} {f:Field} {off:Nat} {α:Type} {C:cr α} {μ : α→Nat} (ho:f.offset=off) (hs:P.cellsOf f.type=C.sz) (h:Rd P f.type C μ):Ur P [f] off C μ:=by
 intro H enc W b0 n cs ys hl hf
 match ys,hl with
 | [y0],_=>
  have:=hf 0 f rfl
  obtain ⟨y,h1,h2⟩:=h enc W b0 n _ y0 this
  rw [ho,hs] at h1
  exact ⟨y,h1,by simp [me];exact h2⟩
theorem am1 {P:Program} {f:Field} {fs:List Field} {off:Nat} {α β:Type} {A:cr α} {B:cr β} {μ : α→Nat} {ν : β→Nat} (ho:f.offset=off) (hs:P.cellsOf f.type=A.sz) (h:Rd P f.type A μ) (hr:Ur P fs (off+A.sz) B ν) :
 Ur P (f::fs) off (oe A B) (fun p=>μ p.1 + ν p.2):=by
 intro H enc W b0 n cs ys hl hf
 match ys,hl with
 |y0::ys,hl=>
  have h0:=hf 0 f rfl
  obtain ⟨y,h1,h2⟩:=h enc W b0 n _ y0 h0
  obtain ⟨z,h3,h4⟩:=hr enc W b0 n cs ys (by simpa using hl) (fun i g hg=>by have:=hf (i+1) g (by simpa using hg);simpa using this)
  rw [ho,hs] at h1
  refine ⟨(y,z),?_,by simp [me];omega⟩
  have:=h1.append h3
  rwa [show (cs.drop off).take A.sz++(cs.drop (off+A.sz)).take B.sz=(cs.drop off).take (A.sz+B.sz) from by
   rw [List.take_add,List.drop_drop]] at this
theorem amk {P:Program} {t:TypeId} {fs:Array Field} {α:Type} {C:cr α} {μ : α→Nat} (ht:P.underlying t=some (.struct fs)) (hc:P.cellsOf t=C.sz) (h:Ur P fs.toList 0 C μ):Rd P t C (fun x=>μ x+1):=by
 intro H enc W b0 fuel cs x hx
 obtain ⟨xs,n,_,rfl,hl,hlen,hf⟩:=DataW.trod_struct ht hx
 obtain ⟨y,h1,h2⟩:=h enc W b0 n cs xs (by simpa using hlen) (fun i f hi=>hf i f (by simpa using hi))
 refine ⟨y,?_,by simp [k8];exact h2⟩
 rwa [List.drop_zero,List.take_of_length_le (by omega)] at h1
theorem asq {P:Program} {t:TypeId} {α β:Type} {C:cr α} {μ : α→Nat} {f : β → α} {i : α → β} {h1:∀ y,i (f y)=y} {h2:∀ x,f (i x)=x} (h:Rd P t C μ):Rd P t (Dj C f i h1 h2) (fun y=>μ (f y)):=by
 intro H enc W b0 fuel cs x hx
 obtain ⟨y,h3,h4⟩:=h enc W b0 fuel cs x hx
 exact ⟨i y,by show bm _ _ (C.cells false (f (i y))) cs;rw [h2];exact h3,by show μ (f (i y))≤_;rw [h2];exact h4⟩
def RdA (P:Program) (ts:List TypeId) {α:Type} (A:AC α) (μ : α→Nat):Prop:=
 ∀ {H:Type} (enc:TypeId × Value→H) (W:World) (b0 b1:Nat) (vs:List Value) (ds:List (DataW H)) (ps:List MemPlace),(∀ (j:Nat) t v,ts[j]? = some t→vs[j]? = some v→Value.okWide P W .any b1 t v) →
  DataW.TrodAll enc P W 0 (fun _=>true) true ts vs ds ps→∃ y,bm (gK b0 (Zt W)) W (A.E y) vs ∧ μ y≤me ds
theorem aq3 (P:Program):RdA P [] a0 (fun _=>0):=by
 intro H enc W b0 b1 vs ds ps _ h
 obtain ⟨rfl,rfl,rfl⟩:=trodAll_nil h
 exact ⟨(),bm.nil _ _,Nat.zero_le _⟩
theorem ah6 {P:Program} {W:World} {b:Nat} {t:TypeId} {v:Value} (h:mb P t=some true) (ho:Value.okWide P W .any b t v):∃ cs,v = .agg cs:=by
 unfold mb at h
 unfold Value.okWide at ho
 cases hu:P.underlying t with
 |none=>rw [hu] at h;cases h
 |some d=>
  rw [hu] at h ho
  cases d<;>simp_all<;>exact ⟨_,ho.choose_spec.1⟩
theorem aas {P:Program} {t:TypeId} {ts:List TypeId} {α β:Type} {C:cr α} {R:AC β} {μ : α→Nat} {ν : β→Nat} (ha:mb P t=some C.agg) (h:Rd P t C μ) (hr:RdA P ts R ν):RdA P (t::ts) (aC C R) (fun p=>μ p.1 + ν p.2):=by
 intro H enc W b0 b1 vs ds ps hok hall
 obtain ⟨v,vs1,d,ds1,p,q,rfl,rfl,rfl,h0,h1⟩:=trodAll_cons hall
 obtain ⟨fuel,hf⟩:=h0
 obtain ⟨y,h2,h3⟩:=h enc W b0 fuel _ _ hf
 obtain ⟨z,h4,h5⟩:=hr enc W b0 b1 vs1 ds1 q (fun j t v ht hv=>hok (j+1) t v (by simpa using ht) (by simpa using hv)) h1
 have h3' : μ y≤k8 d:=h3
 refine ⟨(y,z),bm.cons ?_ h4,by simp only [me];omega⟩
 have hv:=hok 0 t v rfl rfl
 show Rel _ _ (C.val false y) v
 unfold cr.val
 cases hg:C.agg with
 |true=>
  obtain ⟨cs,rfl⟩:=ah6 (by rw [ha,hg]) hv
  exact .agg _ cs (by simpa [Value.cells] using h2.1) (fun i a v ha hv=>h2.2 i a v ha (by simpa [Value.cells] using hv))
 |false=>
  obtain ⟨c,h6,h7,_⟩:=C.one hg false y
  rw [cond_false,h6]
  rw [h6] at h2
  have hcs:v.cells.toList=[v]:=by
   have hl:=h2.1
   simp only [List.length_singleton] at hl
   cases v with
   |agg cs=>
    exfalso
    unfold mb at ha
    unfold Value.okWide at hv
    cases hu:P.underlying t with
    |none=>rw [hu] at ha;cases ha
    |some d=>
     rw [hu] at ha hv
     have hcell:Cell.okWide P W .any b1 t (.agg cs):=by
      cases d<;>simp_all
     rw [hg] at ha
     unfold Cell.okWide Cell.ok at hcell
     rw [hu] at hcell
     cases d<;>simp_all
   |_=>rfl
  rw [hcs] at h2
  exact h2.head
theorem acn {W W':World} (q:Bw W W') {p:MemPlace} (h:p.block<W.heap.size):W.sameAt W' p:=by
 cases p with
 |cell b off=>exact sh (q.heap b h)
 |map b=>exact q.heap b h
theorem again {H:Type} {enc:TypeId × Value→H} {P:Program} {W W':World} {sp:Nat→Bool} (K:Kids P (· < P.types.size)) (hz:∀ t e,t<P.types.size→P.underlying t=some (.slice e)→0<P.cellsOf e) (q:Bw W W') :
 ∀ {ts:List TypeId} {vs:List Value} {ds:List (DataW H)} {ps:List MemPlace},(∀ t ∈ ts,t<P.types.size)→DataW.TrodAll enc P W 0 (fun _=>true) true ts vs ds ps→(∀ p ∈ ps,sp p.block=true)→(∀ p ∈ ps,p.block<W.heap.size) →
  DataW.TrodAll enc P W' 0 sp true ts vs ds ps
 | [],[],[],_,_,h,_,_=>h
 |t::ts,v::vs,d::ds,ps,hT,⟨p,p',h1,h2,e⟩,hs,hl=>by
  obtain ⟨n,hn⟩:=h1
  subst e
  have h3:=DataW.trod_respare (spare':=sp) K hz n t _ _ (hT t (by simp)) hn (fun x hx=>hs x (by simp only [List.mem_append];exact .inl hx))
  have h4:=DataW.trod_carry (w':=W') n t _ _ h3 (fun x hx=>acn q (hl x (by simp only [List.mem_append];exact .inl hx)))
  exact ⟨p,p',⟨n,h4⟩,again K hz q (fun t ht=>hT t (by simp [ht])) h2 (fun x hx=>hs x (by simp [hx])) (fun x hx=>hl x (by simp [hx])),rfl⟩
theorem ago {W W':World} (q:Bw W W') (may:MemPlace→Prop):W.keptBut W' may:=by
 refine ⟨q.os,q.output,fun i hi=>?_⟩
 rw [q.heap i hi]
 split
 ·rename_i c t fr c' t' fr' h1 h2
  rw [h1] at h2
  cases h2
  exact ⟨rfl,rfl,rfl,fun _ _=>rfl⟩
 ·rename_i es cl es' cl' h1 h2
  rw [h1] at h2
  cases h2
  exact .inr ⟨rfl,rfl⟩
 ·rfl
def aip (P:Program):Bool:=(List.range P.types.size).all fun t=>match P.underlying t with|some (.slice e)=>Nat.blt 0 (P.cellsOf e)|_=>true
theorem Wv {P:Program} (h:aip P=true) (t e:TypeId) (ht:t<P.types.size) (hu:P.underlying t=some (.slice e)) : 0<P.cellsOf e:=by
 have:=List.all_eq_true.1 h t (List.mem_range.2 ht)
 simp only [hu] at this
 exact Nat.le_of_ble_eq_true this
def aq9 (P:Program) (l:List TypeId):Bool:=l.all fun t=>Nat.blt t P.types.size
theorem ahc {P:Program} {l:List TypeId} (h:aq9 P l=true):∀ t ∈ l,t<P.types.size:=fun t ht=>Nat.le_of_ble_eq_true (List.all_eq_true.1 h t ht)
theorem aof {P:Program} (hlaid:laidOutB P=true) (hmaps:mapsRowed P=true) (hz:∀ t e,t<P.types.size→P.underlying t=some (.slice e)→0<P.cellsOf e) {f:Nat} {fn:Func} {s:ChangeSpec} {tb:TypeId}
 (he:lx P f=true) (hvars:s.vars=[]) (hres:fn.resultTypes = #[tb]) (htb:P.underlying tb=some .bool) (hpar:∀ t ∈ fn.params.toList,t<P.types.size)
 (hfn:∀ (H:Type) (ds:List (DataW H)),ds.length=fn.params.toList.length→s.fn H ds = { results:=[.lit (.bool true)],args:=ds }) {α:Type} {A:AC α} {μ : α→Nat} (hA:RdA P fn.params.toList A μ) {N:Option Nat}
 (hcall:∀ x,(∀ n,N=some n → μ x≤n)→br P f (A.E x) (.sc (.bool true)))
 {H:Type} (enc:TypeId × Value→H) (W:World) (base:Nat) (args:Array Value) (ds gs:List (DataW H)) (before:List MemPlace) (hval:∀ (j:Nat) t v,fn.params[j]? = some t→args[j]? = some v→Value.okWide P W .any base t v)
 (hW:DataW.Whole enc P fn.params.toList s.vars false W args.toList ds gs before) (hN:∀ n,N=some n→me (ds++gs)≤n) :
 Calls P f args W fun e W'=>∃ v,e = .returned v∧s.post enc P fn false true false false W args v W':=by
 have hW':=hW
 obtain ⟨p,q,hA0,hV,rfl,hfz,hnd⟩:=hW
 rw [hvars] at hV
 obtain ⟨rfl,rfl⟩:=trodVars_none hV
 obtain ⟨x,hx,hμ⟩:=hA enc W W.heap.size base args.toList ds p (fun j t v ht hv=>hval j t v (by simpa using ht) (by simpa using hv)) hA0
 have hp:=hcall x (fun n hn=>Nat.le_trans hμ (by have:=hN n hn;simpa using this)) (Zt W) W args.toList (fun _ _ h=>h) hx
 have hlen:ds.length=fn.params.toList.length:=by
  have:∀ {ts:List TypeId} {vs:List Value} {ds:List (DataW H)} {ps:List MemPlace},DataW.TrodAll enc P W 0 (fun _=>true) true ts vs ds ps→ds.length=ts.length:=by
   intro ts
   induction ts with
   |nil=>intro vs ds ps h;obtain ⟨_,rfl,_⟩:=trodAll_nil h;rfl
   |cons t ts ih=>intro vs ds ps h;obtain ⟨v,vs1,d,ds1,p,q,rfl,rfl,rfl,h0,h1⟩:=trodAll_cons h;simp [ih h1]
  exact this hA0
 have hlt:∀ y ∈ p++[],y.block<W.heap.size:=fun y hy=>hW'.lt y hy
 have hspec:=hfn H ds hlen
 rcases hp with ⟨v,hv,_⟩|⟨_,hc⟩
 ·rw [sw he] at hv;cases hv
 ·refine hc.mono ?_
  rintro e W' ⟨v,rfl,hq,hr⟩
  obtain rfl:=hr.exact rfl
  refine ⟨_,rfl,ds,[],p++[],[],p,[],hW',?_,?_,?_,ago hq _,fun e=>by cases e⟩
  ·rw [List.append_nil,hspec,hres]
   exact trodAll_cons_mk (Go.RowKit.shut_bool htb _) trodAll_mk0
  ·rw [List.append_nil,hspec]
   exact again (kids_rows hlaid hmaps) hz hq hpar hA0 (fun y hy=>by have:=hlt y (by simp [hy]);simpa using this) (fun y hy=>hlt y (by simp [hy]))
  ·rw [List.append_nil,hspec,hvars]
   rfl
end
end Go.Vm
end
section
namespace Go.Vm
open Go.Proofs
theorem al7:(Tryz.prog.underlying 3=some (.int .i64)) ∧
 (Tryz.prog.underlying 5=some (.int .u8)) ∧
 (Tryz.prog.underlying 9=some (.string)) ∧
 (Tryz.prog.underlying 22=some (.slice 9)) ∧
 (Tryz.prog.underlying 23=some (.slice 9)) ∧
 (Tryz.prog.underlying 24=some (.slice 33)) ∧
 (Tryz.prog.underlying 30=some (.int .u32)) ∧
 (Tryz.prog.underlying 31=some (.slice 71)):=
 ⟨by kernel_rfl,by kernel_rfl,by kernel_rfl,by kernel_rfl,by kernel_rfl,by kernel_rfl,by kernel_rfl,by kernel_rfl⟩
theorem ajn:(Tryz.prog.underlying 67=some (.slice 23)) ∧
 (Tryz.prog.underlying 68=some (.slice 30)) ∧
 (Tryz.prog.underlying 69=some (.slice 5)) ∧
 (Tryz.prog.underlying 136=some (.slice 3)) ∧
 (Tryz.prog.underlying 154=some (.int .u64)) ∧
 (Tryz.prog.underlying 155=some (.slice 69)):=
 ⟨by kernel_rfl,by kernel_rfl,by kernel_rfl,by kernel_rfl,by kernel_rfl,by kernel_rfl⟩
theorem ali:(mb Tryz.prog 3=some false) ∧
 (mb Tryz.prog 4=some false) ∧
 (mb Tryz.prog 5=some false) ∧
 (mb Tryz.prog 9=some false) ∧
 (mb Tryz.prog 22=some false) ∧
 (mb Tryz.prog 23=some false) ∧
 (mb Tryz.prog 24=some false) ∧
 (mb Tryz.prog 26=some true):=
 ⟨by kernel_rfl,by kernel_rfl,by kernel_rfl,by kernel_rfl,by kernel_rfl,by kernel_rfl,by kernel_rfl,by kernel_rfl⟩
theorem al3:(mb Tryz.prog 28=some false) ∧
 (mb Tryz.prog 29=some false) ∧
 (mb Tryz.prog 30=some false) ∧
 (mb Tryz.prog 31=some false) ∧
 (mb Tryz.prog 33=some true) ∧
 (mb Tryz.prog 36=some false) ∧
 (mb Tryz.prog 51=some false) ∧
 (mb Tryz.prog 67=some false) ∧
 (mb Tryz.prog 68=some false) ∧
 (mb Tryz.prog 69=some false) ∧
 (mb Tryz.prog 71=some true):=
 ⟨by kernel_rfl,by kernel_rfl,by kernel_rfl,by kernel_rfl,by kernel_rfl,by kernel_rfl,by kernel_rfl,by kernel_rfl,by kernel_rfl,by kernel_rfl,by kernel_rfl⟩
theorem aln:(mb Tryz.prog 118=some true):=by kernel_rfl
theorem afn:(c9 Tryz.prog 3=some 1) ∧
 (c9 Tryz.prog 4=some 1) ∧
 (c9 Tryz.prog 5=some 1) ∧
 (c9 Tryz.prog 9=some 1) ∧
 (c9 Tryz.prog 22=some 1) ∧
 (c9 Tryz.prog 23=some 1) ∧
 (c9 Tryz.prog 24=some 1) ∧
 (c9 Tryz.prog 26=some 2):=
 ⟨by kernel_rfl,by kernel_rfl,by kernel_rfl,by kernel_rfl,by kernel_rfl,by kernel_rfl,by kernel_rfl,by kernel_rfl⟩
theorem ae4:(c9 Tryz.prog 28=some 1) ∧
 (c9 Tryz.prog 29=some 1) ∧
 (c9 Tryz.prog 30=some 1) ∧
 (c9 Tryz.prog 31=some 1) ∧
 (c9 Tryz.prog 33=some 5) ∧
 (c9 Tryz.prog 36=some 1) ∧
 (c9 Tryz.prog 51=some 1) ∧
 (c9 Tryz.prog 67=some 1) ∧
 (c9 Tryz.prog 68=some 1) ∧
 (c9 Tryz.prog 69=some 1) ∧
 (c9 Tryz.prog 71=some 4):=
 ⟨by kernel_rfl,by kernel_rfl,by kernel_rfl,by kernel_rfl,by kernel_rfl,by kernel_rfl,by kernel_rfl,by kernel_rfl,by kernel_rfl,by kernel_rfl,by kernel_rfl⟩
theorem agf:(c9 Tryz.prog 118=some 5):=by kernel_rfl
theorem afz:(fc Tryz.prog 3=some (.int .i64 0)) ∧
 (fc Tryz.prog 4=some (.bool false)) ∧
 (fc Tryz.prog 5=some (.int .u8 0)) ∧
 (fc Tryz.prog 23=some (.slice none 0 0)) ∧
 (fc Tryz.prog 26=some (.agg #[.slice none 0 0,.slice none 0 0])):=
 ⟨by kernel_rfl,by kernel_rfl,by kernel_rfl,by kernel_rfl,by kernel_rfl⟩
theorem aei:(fc Tryz.prog 33=some (.agg #[.slice none 0 0,.int .u16 0,.int .u16 0,.int .u32 0,.slice none 0 0])) ∧
 (fc Tryz.prog 71=some (.agg #[.slice none 0 0,.slice none 0 0,.slice none 0 0,.slice none 0 0])):=
 ⟨by kernel_rfl,by kernel_rfl⟩
theorem aeq:(fc Tryz.prog 118=some (.agg #[.int .i64 0,.int .i64 0,.int .i64 0,.int .i64 0,.int .i64 0])):=by kernel_rfl
theorem ajr:(Bd Tryz.prog 22=some (9,1,[.sc (.string .empty)])) ∧
 (Bd Tryz.prog 23=some (9,1,[.sc (.string .empty)])) ∧
 (Bd Tryz.prog 24=some (33,5,[.sc (.slice none 0 0),.sc (.int .u16 0),.sc (.int .u16 0),.sc (.int .u32 0),.sc (.slice none 0 0)])) ∧
 (Bd Tryz.prog 31=some (71,4,[.sc (.slice none 0 0),.sc (.slice none 0 0),.sc (.slice none 0 0),.sc (.slice none 0 0)])) ∧
 (Bd Tryz.prog 67=some (23,1,[.sc (.slice none 0 0)])) ∧
 (Bd Tryz.prog 68=some (30,1,[.sc (.int .u32 0)])) ∧
 (Bd Tryz.prog 69=some (5,1,[.sc (.int .u8 0)])) ∧
 (Bd Tryz.prog 136=some (3,1,[.sc (.int .i64 0)])) ∧
 (Bd Tryz.prog 155=some (69,1,[.sc (.slice none 0 0)])):=
 ⟨by kernel_rfl,by kernel_rfl,by kernel_rfl,by kernel_rfl,by kernel_rfl,by kernel_rfl,by kernel_rfl,by kernel_rfl,by kernel_rfl⟩
theorem X6:(Cj Tryz.prog 26=some ([.sc (.slice none 0 0),.sc (.slice none 0 0)],[(0,1),(1,1)])) ∧
 (Cj Tryz.prog 53=some ([.sc (.slice none 0 0),.sc (.slice none 0 0),.sc (.int .i64 0)],[(0,2),(2,1)])) ∧
 (Cj Tryz.prog 71=some ([.sc (.slice none 0 0),.sc (.slice none 0 0),.sc (.slice none 0 0),.sc (.slice none 0 0)],[(0,1),(1,1),(2,1),(3,1)])) ∧
 (Cj Tryz.prog 118=some ([.sc (.int .i64 0),.sc (.int .i64 0),.sc (.int .i64 0),.sc (.int .i64 0),.sc (.int .i64 0)],[(0,1),(1,1),(2,1),(3,1),(4,1)])):=
 ⟨by kernel_rfl,by kernel_rfl,by kernel_rfl,by kernel_rfl⟩
theorem acp:(iy Tryz.prog 26 0=some ⟨"Origin",23,0,false, "", "",0⟩) ∧
 (iy Tryz.prog 26 1=some ⟨"Sets",24,1,false, "", "",24⟩) ∧
 (iy Tryz.prog 33 0=some ⟨"Owner",23,0,false, "", "",0⟩):=
 ⟨by kernel_rfl,by kernel_rfl,by kernel_rfl⟩
theorem aaa:(iy Tryz.prog 33 1=some ⟨"Type",28,1,false, "", "",24⟩) ∧
 (iy Tryz.prog 33 2=some ⟨"Class",29,2,false, "", "",26⟩) ∧
 (iy Tryz.prog 33 3=some ⟨"TTL",30,3,false, "", "",28⟩) ∧
 (iy Tryz.prog 33 4=some ⟨"Data",31,4,false, "", "",32⟩) ∧
 (iy Tryz.prog 53 0=some ⟨"z",26,0,false, "", "nomenclator/zone",0⟩) ∧
 (iy Tryz.prog 53 1=some ⟨"e",36,2,false, "", "nomenclator/zone",48⟩) ∧
 (iy Tryz.prog 71 0=some ⟨"Names",67,0,false, "", "",0⟩) ∧
 (iy Tryz.prog 71 1=some ⟨"Nums",68,1,false, "", "",24⟩) ∧
 (iy Tryz.prog 71 2=some ⟨"Texts",22,2,false, "", "",48⟩) ∧
 (iy Tryz.prog 71 3=some ⟨"Raw",69,3,false, "", "",72⟩):=
 ⟨by kernel_rfl,by kernel_rfl,by kernel_rfl,by kernel_rfl,by kernel_rfl,by kernel_rfl,by kernel_rfl,by kernel_rfl,by kernel_rfl,by kernel_rfl⟩
theorem Yr:(iy Tryz.prog 118 0=some ⟨"names",3,0,false, "", "nomenclator/rdata",0⟩) ∧
 (iy Tryz.prog 118 1=some ⟨"nums",3,1,false, "", "nomenclator/rdata",8⟩) ∧
 (iy Tryz.prog 118 2=some ⟨"size",3,2,false, "", "nomenclator/rdata",16⟩) ∧
 (iy Tryz.prog 118 3=some ⟨"texts",3,3,false, "", "nomenclator/rdata",24⟩) ∧
 (iy Tryz.prog 118 4=some ⟨"raw",3,4,false, "", "nomenclator/rdata",32⟩):=
 ⟨by kernel_rfl,by kernel_rfl,by kernel_rfl,by kernel_rfl,by kernel_rfl⟩
theorem ak0:(zm Tryz.prog 22=some (9,1,16)) ∧
 (zm Tryz.prog 23=some (9,1,16)) ∧
 (zm Tryz.prog 24=some (33,5,56)) ∧
 (zm Tryz.prog 31=some (71,4,96)) ∧
 (zm Tryz.prog 67=some (23,1,24)) ∧
 (zm Tryz.prog 68=some (30,1,4)) ∧
 (zm Tryz.prog 69=some (5,1,1)):=
 ⟨by kernel_rfl,by kernel_rfl,by kernel_rfl,by kernel_rfl,by kernel_rfl,by kernel_rfl,by kernel_rfl⟩
theorem TF:type_of% al7∧type_of% ajn∧type_of% ali∧type_of% al3∧type_of% aln∧type_of% afn∧type_of% ae4∧type_of% agf∧type_of% afz∧type_of% aei∧type_of% aeq∧type_of% ajr∧type_of% X6∧type_of% acp∧type_of% aaa∧type_of% Yr∧type_of% ak0:=
 ⟨al7,ajn,ali,al3,aln,afn,ae4,agf,afz,aei,aeq,ajr,X6,acp,aaa,Yr,ak0⟩
end Go.Vm
end
section
namespace Go.Proofs.YtldcaajoheeipaaGreat
open Go.Vm
noncomputable abbrev PP:=Tryz.prog
theorem mixed:PP.follows .mixedOrders=true:=by kernel_rfl
theorem bb {T:dx} (hT:an PP T) {f:Nat} {fn:Func} (hf:PP.funcs[f]? = some fn) (hb:fn.body.isSome=true) (he:lx PP f=true) (hs:dt fn.ntmps (fn.body.getD .skip)=true)
 {args:List AV} (hl:args.length≤fn.ntmps) {ρ:Type} (R:RC ρ) (fr:Bool) (x : ρ)
 (h:wl PP T 0 (fn.body.getD .skip) (dv PP fn.results.toList (fun r st=>R.get fr st.h r=some x)) (b9 0 args) (bj [])):br PP f args (R.E fr x):=
 Tv (body:=fn.body.getD .skip) hT mixed hf (by cases hq:fn.body with|none=>rw [hq] at hb;cases hb|some b=>rfl) he hs hl R fr x h
def jq (s:ByteArray):Int:=if s.size<1∨63<s.size then 4 else 0
theorem Xl (s:ByteArray):wl PP [] 0 (Tryz.f55.body.getD .skip) (dv PP Tryz.f55.results.toList (fun r st=>(r1 (bk .i64)).get true st.h r=some (jq s))) (b9 0 [ak.val false s]) (bj []):=by
 unfold Tryz.f55
 simp only [↓wR,RA,simprocAttr,TF]
 rw [dc]
 refine ⟨fun h=>?_,fun h=>?_⟩
 ·have h1:s.size<1:=by simp at h;omega
  simp only [↓wR,RA,simprocAttr,TF,jq,h,h1,true_or]
 ·have h1:¬ s.size<1:=by simp at h;omega
  simp only [↓wR,RA,simprocAttr,TF,h]
  rw [dc]
  refine ⟨fun h=>?_,fun h=>?_⟩
  ·have h2 : 63<s.size:=by simp at h;omega
   simp only [↓wR,RA,simprocAttr,TF,jq,h2,or_true]
  ·have h2:¬ 63<s.size:=by simp at h;omega
   simp only [↓wR,RA,simprocAttr,TF,jq,h1,h2,or_self]
noncomputable def Ey (x:ByteArray × Unit):Option AV:=some ((r1 (bk .i64)).E true (jq x.1))
set_option maxRecDepth 2000000 in
theorem Ps (x:ByteArray × Unit) (r:AV) (h:Ey x=some r):br PP 55 ((aC ak a0).E x) r:=by
 cases h
 exact bb (an.nil PP) Tryz.func55 (by kernel_rfl) (by kernel_rfl) (by kernel_rfl) (Nat.le_of_ble_eq_true (by kernel_rfl)) (r1 (bk .i64)) true (jq x.1) (Xl x.1)
noncomputable abbrev aiq:Nat × Bool × (List AV→M AV):=(55,true,dh (aC ak a0) Ey)
def b7 (n:Name):Nat:=n.foldl (fun k s=>k+(s.size+1)) 1
theorem Xa (l:Name) (c:ByteArray):b7 (l++[c])=b7 l+(c.size+1):=by simp [b7]
theorem W3 (n:Name) (i:Nat) (c:ByteArray) (h:n[i]? = some c):b7 (n.take (i+1))=b7 (n.take i)+(c.size+1):=by
 obtain ⟨hk,rfl⟩:=List.getElem?_eq_some_iff.1 h
 rw [List.take_succ_eq_append_getElem hk,Xa]
theorem Be (l:Name):∀ k,l.foldl (fun k s=>k+(s.size+1)) k=k+l.foldl (fun k s=>k+(s.size+1)) 0:=by
 induction l with
 |nil=>intro k;simp
 |cons a l ih=>intro k;simp only [List.foldl_cons];rw [ih,ih (0+_)];omega
theorem ql (a b:Name):b7 (a++b)+1=b7 a+b7 b:=by
 simp only [b7,List.foldl_append]
 rw [Be b,Be b 1];omega
theorem nq (n:Name) (i:Nat):b7 (n.take i)≤b7 n∧n.length<b7 n:=by
 constructor
 ·have:=ql (n.take i) (n.drop i)
  rw [List.take_append_drop] at this
  have h1 : 1≤b7 (n.drop i):=by simp only [b7];rw [Be];omega
  omega
 ·induction n with
  |nil=>simp [b7]
  |cons a l ih=>
   have:=ql [a] l
   simp only [List.singleton_append] at this
   have h1:b7 [a]=a.size+2:=by simp [b7];omega
   simp only [List.length_cons]
   omega
theorem wrap_i64 (x:Int) (h0 : -9223372036854775808≤x) (h1:x<9223372036854775808):IntKind.i64.wrap x=x:=by
 simp [IntKind.wrap,IntKind.bits,IntKind.signed];omega
theorem aeg (n:Name) (hn:b7 n<17592186044416):wl PP [] 0 (Tryz.f56.body.getD .skip) (dv PP Tryz.f56.results.toList (fun r st=>(r1 (bk .i64)).get true st.h r=some (b7 n:Int))) (b9 0 [aw.val false n]) (bj []):=by
 unfold Tryz.f56
 rw [dy]
 simp only [↓wR,RA,simprocAttr,TF]
 refine cq [3,6,7,8] (fun (x:Nat)=>[.sc (.int .i64 (b7 (n.take x))),.vl false 1 (n.map (ak.val false)),.sc (.int .i64 n.length),.sc (.int .i64 x)]) (fun _=>[]) (fun x=>x≤n.length) (fun x=>n.length - x) 0 (Nat.zero_le _) ?_ ?_ ?_
 ·simp only [↓wR,RA,simprocAttr,TF]<;>rfl
 ·simp only [↓wR,RA,simprocAttr,TF]
 ·intro i hi
  have h1:=nq n i
  simp only [↓wR,RA,simprocAttr,TF]
  rw [dc]
  refine ⟨fun h=>?_,fun h=>?_⟩
  ·have h4:i<n.length:=by simp at h;omega
   obtain ⟨c,hc⟩:∃ c,n[i]? = some c:=⟨n[i],by simp [h4]⟩
   have h2:=W3 n i c hc
   have h3:=(nq n (i+1)).1
   simp only [↓wR,RA,simprocAttr,TF,hc]
   refine ⟨i+1,by omega,by omega,?_⟩
   rw [h2]
   simp only [List.cons.injEq,and_true,true_and,AV.sc.injEq,Value.int.injEq]
   refine ⟨?_,?_⟩
   ·rw [wrap_i64 ((c.size:Int)+1) (by omega) (by omega),wrap_i64 _ (by omega) (by omega)];omega
   ·rw [wrap_i64 _ (by omega) (by omega)];omega
  ·have h4:i=n.length:=by simp at h;omega
   subst h4
   simp only [↓wR,RA,simprocAttr,TF,List.take_length]
noncomputable def ym (x:Name × Unit):Option AV:=if b7 x.1<17592186044416 then some ((r1 (bk .i64)).E true ((b7 x.1:Int))) else none
set_option maxRecDepth 2000000 in
theorem Tw (x:Name × Unit) (r:AV) (h:ym x=some r):br PP 56 ((aC aw a0).E x) r:=by
 by_cases hc:b7 x.1<17592186044416
 case neg=>simp only [ym,if_neg hc] at h;cases h
 simp only [ym,if_pos hc] at h
 cases h
 exact bb (an.nil PP) Tryz.func56 (by kernel_rfl) (by kernel_rfl) (by kernel_rfl) (Nat.le_of_ble_eq_true (by kernel_rfl)) (r1 (bk .i64)) true ((b7 x.1:Int)) (aeg x.1 hc)
noncomputable abbrev alf:Nat × Bool × (List AV→M AV):=(56,true,dh (aC aw a0) ym)
def ri (n:Name):Bool:=n.any fun s=>decide (jq s≠0)
def eh (n:Name):Int:=if ri n then 4 else if 255<b7 n then 5 else 0
theorem aby (n:Name) (i:Nat) (c:ByteArray) (h:n[i]? = some c):ri (n.take (i+1))=(ri (n.take i) || decide (jq c≠0)):=by
 obtain ⟨hk,rfl⟩:=List.getElem?_eq_some_iff.1 h
 rw [List.take_succ_eq_append_getElem hk]
 simp only [ri,List.any_append,List.any_cons,List.any_nil,Bool.or_false]
theorem aaj (n:Name) (i:Nat) (c:ByteArray) (h:n[i]? = some c) (hc:jq c≠0):ri n=true:=by
 simp only [ri,List.any_eq_true]
 exact ⟨c,List.mem_of_getElem? h,by simp [hc]⟩
theorem aai (s:ByteArray):jq s=0∨jq s=4:=by unfold jq;split<;>simp
theorem acy (n:Name) (hn:b7 n<17592186044416):wl PP [aiq,alf] 0 (Tryz.f39.body.getD .skip) (dv PP Tryz.f39.results.toList (fun r st=>(r1 (bk .i64)).get true st.h r=some (eh n))) (b9 0 [aw.val false n]) (bj []):=by
 unfold Tryz.f39
 rw [dy]
 simp only [↓wR,RA,simprocAttr,TF]
 refine cq [0,6,7,8] (fun (x:Nat)=>[.vl false 1 (n.map (ak.val false)),.vl false 1 (n.map (ak.val false)),.sc (.int .i64 n.length),.sc (.int .i64 x)]) (fun _=>[]) (fun x=>x≤n.length∧ri (n.take x)=false) (fun x=>n.length - x) 0 ⟨Nat.zero_le _,by simp [ri]⟩ ?_ ?_ ?_
 ·simp only [↓wR,RA,simprocAttr,TF]<;>rfl
 ·simp only [↓wR,RA,simprocAttr,TF]
 ·rintro i ⟨hi,hb⟩
  have h1:=nq n i
  simp only [↓wR,RA,simprocAttr,TF]
  rw [dc]
  refine ⟨fun h=>?_,fun h=>?_⟩
  ·have h4:i<n.length:=by simp at h;omega
   obtain ⟨c,hc⟩:∃ c,n[i]? = some c:=⟨n[i],by simp [h4]⟩
   simp only [↓wR,RA,simprocAttr,TF,hc,Ey]
   rw [dc]
   refine ⟨fun h=>?_,fun h=>?_⟩
   ·have h5:jq c≠0:=by simpa using h
    have h6:jq c=4:=(aai c).resolve_left h5
    simp only [↓wR,RA,simprocAttr,TF,eh,aaj n i c hc h5,h6]
   ·have h5:jq c=0:=by simpa using h
    simp only [↓wR,RA,simprocAttr,TF]
    refine ⟨i+1,⟨by omega,by rw [aby n i c hc,hb];simp [h5]⟩,by omega,?_⟩
    simp only [List.cons.injEq,and_true,true_and,AV.sc.injEq,Value.int.injEq]
    rw [wrap_i64 _ (by omega) (by omega)];omega
  ·have h4:i=n.length:=by simp at h;omega
   subst h4
   rw [List.take_length] at hb
   simp only [↓wR,RA,simprocAttr,TF,ym,hn]
   rw [dc]
   refine ⟨fun h=>?_,fun h=>?_⟩
   ·have h5 : 255<b7 n:=by simp at h;omega
    simp only [↓wR,RA,simprocAttr,TF,eh,hb,h5]
   ·have h5:¬ 255<b7 n:=by simp at h;omega
    simp only [↓wR,RA,simprocAttr,TF,eh,hb,h5]
noncomputable def qs (x:Name × Unit):Option AV:=if b7 x.1<17592186044416 then some ((r1 (bk .i64)).E true (eh x.1)) else none
set_option maxRecDepth 2000000 in
theorem rq (x:Name × Unit) (r:AV) (h:qs x=some r):br PP 39 ((aC aw a0).E x) r:=by
 by_cases hc:b7 x.1<17592186044416
 case neg=>simp only [qs,if_neg hc] at h;cases h
 simp only [qs,if_pos hc] at h
 cases h
 exact bb (an.cons (ar Ps) (an.cons (ar Tw) (an.nil PP))) Tryz.func39 (by kernel_rfl) (by kernel_rfl) (by kernel_rfl) (Nat.le_of_ble_eq_true (by kernel_rfl)) (r1 (bk .i64)) true (eh x.1) (acy x.1 hc)
noncomputable abbrev ed:Nat × Bool × (List AV→M AV):=(39,true,dh (aC aw a0) qs)
def low (c:UInt8):UInt8:=if 65≤c∧c≤90 then c+32 else c
def fold (s:ByteArray):ByteArray:=⟨(s.data.toList.map low).toArray⟩
def m7 (l:List UInt8) (i:Nat):List UInt8:=(l.take i).map low++l.drop i
theorem alm (l:List UInt8) (i:Nat):(m7 l i).length=l.length:=by simp [m7];omega
theorem Vc (l:List UInt8) (i:Nat) (h:i<l.length):(m7 l i)[i]? = l[i]? := by
 simp [m7,List.getElem?_append,Nat.min_eq_left (Nat.le_of_lt h)]
theorem U1 (l:List UInt8) (i:Nat) (h:i<l.length):(m7 l i).take i++[low l[i]]++(m7 l i).drop (i+1)=m7 l (i+1):=by
 have h1:((l.take i).map low).length=i:=by simp;omega
 have h2:(m7 l i).take i=(l.take i).map low:=by rw [m7,List.take_append_of_le_length (by omega),List.take_of_length_le (by omega)]
 have h3:(m7 l i).drop (i+1)=l.drop (i+1):=by
  rw [m7,List.drop_append,List.drop_eq_nil_of_le (by omega),h1]
  simp
 rw [h2,h3,m7,List.take_succ_eq_append_getElem h,List.map_append]
 rfl
theorem Ql (l:List UInt8) (i:Nat) (h:i<l.length) (hk:low l[i]=l[i]):m7 l i=m7 l (i+1):=by
 rw [← U1 l i h,hk]
 have:(m7 l i)[i]? = some l[i]:=by rw [Vc l i h];simp [h]
 obtain ⟨hlt,e⟩:=List.getElem?_eq_some_iff.1 this
 rw [← e,← List.take_succ_eq_append_getElem hlt,List.take_append_drop]
set_option maxRecDepth 20000 in
theorem Z7 (s:ByteArray) (hs:s.size≤16777216):wl PP [] 0 (Tryz.f84.body.getD .skip) (dv PP Tryz.f84.results.toList (fun r st=>(r1 ak).get true st.h r=some (fold s))) (b9 0 [ak.val false s]) (bj []):=by
 unfold Tryz.f84
 have hl:s.data.toList.length=s.size:=by simp
 simp only [↓wR,RA,simprocAttr,TF,hs]
 refine cq [3,8,9,10] (fun (x:Nat)=>[.sl 0 0 s.size 1,.sl 0 0 s.size 1,.sc (.int .i64 s.size),.sc (.int .i64 x)]) (fun x=>[some (.row ((m7 s.data.toList x).map (bu.val false)) 0 1 5)]) (fun x=>x≤s.size) (fun x=>s.size - x) 0 (Nat.zero_le _) ?_ ?_ ?_
 ·simp only [↓wR,RA,simprocAttr,TF]<;>rfl
 ·simp only [↓wR,RA,simprocAttr,TF]<;>rfl
 ·intro i hi
  simp only [↓wR,RA,simprocAttr,TF]
  rw [dc]
  refine ⟨fun h=>?_,fun h=>?_⟩
  ·have h4:i<s.size:=by simp at h;omega
   have h6:i<s.data.toList.length:=by omega
   have h5:(m7 s.data.toList i)[i]? = some s.data.toList[i]:=by rw [Vc s.data.toList i h6];simp [h6]
   obtain ⟨c,hc⟩:∃ c,s.data.toList[i]=c:=⟨_,rfl⟩
   have hcl:=c.toNat_lt
   rw [hc] at h5
   simp only [↓wR,RA,simprocAttr,TF,h4,h5]
   rw [dc]
   refine ⟨fun h1=>?_,fun h1=>?_⟩
   ·simp only [↓wR,RA,simprocAttr,TF,h1]
    rw [dc]
    refine ⟨fun h2=>?_,fun h2=>?_⟩
    ·have h7:i+1≤s.size:=by omega
     have hlow:low c=c+32:=by
      simp at h1 h2
      have a1 : 65≤c:=by rw [UInt8.le_iff_toNat_le];simp;omega
      have a2:c≤90:=by rw [UInt8.le_iff_toNat_le];simp;omega
      simp [low,a1,a2]
     have hw:IntKind.u8.wrap (IntKind.u8.wrap ((c.toNat:Int)+97) - 65)=((low c).toNat:Int):=by
      simp at h1 h2
      rw [hlow]
      simp [IntKind.wrap,IntKind.bits,IntKind.signed,UInt8.toNat_add]
      omega
     have hst:List.map (bu.val false) (List.take i (m7 s.data.toList i))++[AV.sc (Value.int IntKind.u8 ((low c).toNat:Int))]++List.map (bu.val false) (List.drop (i+1) (m7 s.data.toList i))=List.map (bu.val false) (m7 s.data.toList (i+1)):=by
      rw [← U1 s.data.toList i h6,hc,List.map_append,List.map_append];rfl
     simp only [↓wR,RA,simprocAttr,TF,h4,h7,alm,hl,hw,hst]
     refine ⟨i+1,h7,by omega,?_,rfl⟩
     rw [wrap_i64 _ (by omega) (by omega)];rfl
    ·simp only [↓wR,RA,simprocAttr,TF]
     have hk:low c=c:=by
      simp at h2
      have a2:¬ c≤90:=by rw [UInt8.le_iff_toNat_le];simp;omega
      simp [low,a2]
     refine ⟨i+1,by omega,by omega,?_,?_⟩
     ·rw [wrap_i64 _ (by omega) (by omega)];rfl
     ·rw [Ql s.data.toList i h6 (by rw [hc];exact hk)]
   ·simp only [↓wR,RA,simprocAttr,TF,h1]
    have hk:low c=c:=by
     simp at h1
     have a2:¬ 65≤c:=by rw [UInt8.le_iff_toNat_le];simp;omega
     simp [low,a2]
    refine ⟨i+1,by omega,by omega,?_,?_⟩
    ·rw [wrap_i64 _ (by omega) (by omega)];rfl
    ·rw [Ql s.data.toList i h6 (by rw [hc];exact hk)]
  ·have h4:i=s.size:=by simp at h;omega
   subst h4
   have:∃ m,List.map low s.data.toList=m:=⟨_,rfl⟩
   obtain ⟨m,hm⟩:=this
   have h5:m7 s.data.toList s.size=m:=by rw [m7,List.take_of_length_le (Nat.le_of_eq hl),List.drop_eq_nil_of_le (Nat.le_of_eq hl),List.append_nil,hm]
   have hlm:m.length=s.size:=by rw [← hm,List.length_map,hl]
   have h6:List.take s.size (List.map (bu.val false) m)=List.map (bu.val false) m:=List.take_of_length_le (by rw [List.length_map,hlm];exact Nat.le_refl _)
   have hf:fold s=⟨m.toArray⟩:=by rw [fold,hm]
   rw [h5,hf]
   simp only [↓wR,RA,simprocAttr,TF,hlm,h6]
noncomputable def sr (x:ByteArray × Unit):Option AV:=if x.1.size≤16777216 then some ((r1 ak).E true (fold x.1)) else none
set_option maxRecDepth 2000000 in
theorem zg (x:ByteArray × Unit) (r:AV) (h:sr x=some r):br PP 84 ((aC ak a0).E x) r:=by
 by_cases hc:x.1.size≤16777216
 case neg=>simp only [sr,if_neg hc] at h;cases h
 simp only [sr,if_pos hc] at h
 cases h
 exact bb (an.nil PP) Tryz.func84 (by kernel_rfl) (by kernel_rfl) (by kernel_rfl) (Nat.le_of_ble_eq_true (by kernel_rfl)) (r1 ak) true (fold x.1) (Z7 x.1 hc)
noncomputable abbrev Kd:Nat × Bool × (List AV→M AV):=(84,true,dh (aC ak a0) sr)
theorem abw (a b:ByteArray) (ha:a.size≤16777216) (hb:b.size≤16777216):wl PP [Kd] 0 (Tryz.f53.body.getD .skip) (dv PP Tryz.f53.results.toList (fun r st=>(r1 bo).get true st.h r=some (decide (fold a=fold b)))) (b9 0 [ak.val false a,ak.val false b]) (bj []):=by
 unfold Tryz.f53
 simp only [↓wR,RA,simprocAttr,TF,sr,ha,hb]
noncomputable def yz (x:ByteArray × ByteArray × Unit):Option AV:=if x.1.size≤16777216∧x.2.1.size≤16777216 then some ((r1 bo).E true (decide (fold x.1=fold x.2.1))) else none
set_option maxRecDepth 2000000 in
theorem Tu (x:ByteArray × ByteArray × Unit) (r:AV) (h:yz x=some r):br PP 53 ((aC ak (aC ak a0)).E x) r:=by
 by_cases hc:x.1.size≤16777216∧x.2.1.size≤16777216
 case neg=>simp only [yz,if_neg hc] at h;cases h
 simp only [yz,if_pos hc] at h
 cases h
 exact bb (an.cons (ar zg) (an.nil PP)) Tryz.func53 (by kernel_rfl) (by kernel_rfl) (by kernel_rfl) (Nat.le_of_ble_eq_true (by kernel_rfl)) (r1 bo) true (decide (fold x.1=fold x.2.1)) (abw x.1 x.2.1 hc.1 hc.2)
noncomputable abbrev aja:Nat × Bool × (List AV→M AV):=(53,true,dh (aC ak (aC ak a0)) yz)
def ec:List ByteArray→List ByteArray→Nat
 |a::r,b::q=>if fold a=fold b then ec r q+1 else 0
 |_,_=>0
theorem ad2 (l:List ByteArray):ec l []=0:=by cases l<;>rfl
def common (a b:Name):Nat:=ec a.reverse b.reverse
theorem Zj {l:List ByteArray} {x:Nat} {c:ByteArray} (h:x<l.length) (hc:l[l.length - 1 - x]? = some c):l.reverse.drop x=c::l.reverse.drop (x+1):=by
 have h1:l.reverse[x]? = some c:=by rw [List.getElem?_reverse h];exact hc
 obtain ⟨h2,h3⟩:=List.getElem?_eq_some_iff.1 h1
 rw [← h3];exact List.drop_eq_getElem_cons h2
set_option maxRecDepth 20000 in
theorem W2 (a b:Name) (ha:∀ s ∈ a,s.size≤16777216) (hb:∀ s ∈ b,s.size≤16777216) (hla:a.length<17592186044416) (hlb:b.length<17592186044416):wl PP [aja] 0 (Tryz.f36.body.getD .skip) (dv PP Tryz.f36.results.toList (fun r st=>(r1 (bk .i64)).get true st.h r=some (common a b:Int))) (b9 0 [aw.val false a,aw.val false b]) (bj []):=by
 unfold Tryz.f36
 simp only [dy]
 simp only [↓wR,RA,simprocAttr,TF]
 refine bn (T:=[]) (an.nil PP) mixed Tryz.func52 rfl (by kernel_rfl) (by kernel_rfl) (by kernel_rfl) (by kernel_rfl) ?_;unfold Tryz.f52
 simp only [↓wR,RA,simprocAttr,TF]
 refine ⟨[2,3,4,5,10],?_⟩
 have hib:uc PP 83=some (Tryz.f83.ntmps,Tryz.f83.body.getD .skip):=by kernel_rfl
 simp only [↓wR,RA,simprocAttr,TF,hib]
 refine ⟨by kernel_rfl,fun l=>?_⟩
 unfold Tryz.f83
 simp only [↓wR,RA,simprocAttr,TF]
 refine Dt [0,1,3] (fun (x:Nat)=>[.sc (.func (.yield l) #[] #[]),.ptr 4 0,.sc (.int .i64 ((a.length:Int) - 1 - x))]) (fun x=>[some (.row [.vl false 1 (a.map (ak.val false))] 0 2 23),some (.row [.vl false 1 (b.map (ak.val false))] 0 2 23),some (.row [.sc (.int .i64 0)] 0 2 3),some (.row [.sc (.int .i64 x)] 0 2 3),some (.row [.vl false 1 (a.map (ak.val false))] 0 2 23)]) (fun x=>x≤a.length∧common a b=x+ec (a.reverse.drop x) (b.reverse.drop x)) (fun x=>a.length - x) 0 ⟨Nat.zero_le _,by simp [common]⟩ ?_ ?_ ?_
 ·simp only [↓wR,RA,simprocAttr,TF];simp;rw [wrap_i64 _ (by omega) (by omega)]
 ·simp only [↓wR,RA,simprocAttr,TF]<;>rfl
 rintro x ⟨hx,hR⟩
 simp only [↓wR,RA,simprocAttr,TF]
 rw [vd];refine ⟨fun h=>?_,fun h=>?_⟩
 ·have hx':x<a.length:=by simp at h;omega
  obtain ⟨c,hc⟩:∃ c,a[a.length - 1 - x]? = some c:=⟨_,List.getElem?_eq_getElem (by omega)⟩
  have e:((a.length:Int) - 1 - x).toNat=a.length - 1 - x:=by omega
  have e2:(0:Int)≤(a.length:Int) - 1 - x:=by omega
  simp only [↓wR,RA,simprocAttr,TF,e,hc,e2]
  refine xt [0,1,3,12,16] ?_
  simp only [↓wR,RA,simprocAttr,TF,y6,nf,hc]
  simp (disch:=omega) only [ah,be,bf,bd,bg]
  rw [dc];refine ⟨fun h1=>?_,fun h1=>?_⟩
  ·have hb0:b.length≤x:=by simp at h1;omega
   have hb1:b.reverse.drop x=[]:=List.drop_eq_nil_of_le (by simpa using hb0)
   rw [hb1,ad2] at hR
   simp only [↓wR,RA,simprocAttr,TF,h1]
   rw [hR,Nat.add_zero]
  ·have hb0:x<b.length:=by simp at h1;omega
   obtain ⟨d,hd⟩:∃ d,b[b.length - 1 - x]? = some d:=⟨_,List.getElem?_eq_getElem (by omega)⟩
   have e4:((b.length:Int) - ((a.length:Int) - ((a.length:Int) - 1 - x))).toNat=b.length - 1 - x:=by omega
   have e5:(0:Int)≤(b.length:Int) - ((a.length:Int) - ((a.length:Int) - 1 - x)):=by omega
   simp only [↓wR,RA,simprocAttr,TF,h1,hd,e4,e5,yz,ha c (List.mem_of_getElem? hc),hb d (List.mem_of_getElem? hd)]
   rw [Zj hx' hc,Zj hb0 hd,ec] at hR
   rw [dc];refine ⟨fun h2=>?_,fun h2=>?_⟩
   ·have h3:¬ fold c=fold d:=by simpa using h2
    rw [if_neg h3] at hR
    simp only [↓wR,RA,simprocAttr,TF,h2]
    rw [hR,Nat.add_zero]
   ·have h3:fold c=fold d:=by simpa using h2
    rw [if_pos h3] at hR
    simp only [↓wR,RA,simprocAttr,TF,h2]
    refine ⟨x+1,⟨by omega,by omega⟩,by omega,?_,?_⟩
    ·simp only [List.cons.injEq,and_true,true_and,AV.sc.injEq,Value.int.injEq]
     simp (disch:=omega) only [ah,be,bf,bd,bg]
     omega
    ·simp (disch:=omega) only [ah,be,bf,bd,bg]
     rfl
 ·have h4:x=a.length:=by simp at h;omega
  have h5:a.reverse.drop x=[]:=List.drop_eq_nil_of_le (by simp;omega)
  rw [h5,ec] at hR
  simp only [↓wR,RA,simprocAttr,TF,h]
  rw [hR,Nat.add_zero]
  all_goals simp
theorem aeh (args:List AV):Aa PP 111 args (Cx.i6 args):=
 Cx.ya (fn:=(PP.funcs[111]?).getD default) (by kernel_rfl) (by kernel_rfl) (by kernel_rfl) (by kernel_rfl) (by kernel_rfl) args
noncomputable abbrev ai7:Nat × Bool × (List AV→M AV):=(111,true,Cx.i6)
theorem alx:an PP [ai7]:=an.cons aeh (an.nil PP)
noncomputable def zw (a b:ByteArray):Int:=Lib.compareBytes a.data.toList b.data.toList
theorem Ls (a b:ByteArray):wl PP [] 0 (Tryz.f100.body.getD .skip) (dv PP Tryz.f100.results.toList (fun r st=>(r1 (bk .i64)).get true st.h r=some (zw a b))) (b9 0 [ak.val false a,ak.val false b]) (bj []):=by
 unfold Tryz.f100
 simp only [↓wR,RA,simprocAttr,TF]
 refine bn (T:=[ai7]) alx mixed Tryz.func108 rfl (by kernel_rfl) (by kernel_rfl) (by kernel_rfl) (by kernel_rfl) ?_;unfold Tryz.f108
 simp only [↓wR,RA,simprocAttr,TF,zw]
noncomputable def yn (x:ByteArray × ByteArray × Unit):Option AV:=some ((r1 (bk .i64)).E true (zw x.1 x.2.1))
set_option maxRecDepth 2000000 in
theorem Ib (x:ByteArray × ByteArray × Unit) (r:AV) (h:yn x=some r):br PP 100 ((aC ak (aC ak a0)).E x) r:=by
 cases h
 exact bb (an.nil PP) Tryz.func100 (by kernel_rfl) (by kernel_rfl) (by kernel_rfl) (Nat.le_of_ble_eq_true (by kernel_rfl)) (r1 (bk .i64)) true (zw x.1 x.2.1) (Ls x.1 x.2.1)
noncomputable abbrev Tk:Nat × Bool × (List AV→M AV):=(100,true,dh (aC ak (aC ak a0)) yn)
theorem Rx (a b:ByteArray) (ha:a.size≤16777216) (hb:b.size≤16777216):wl PP [Kd,Tk] 0 (Tryz.f85.body.getD .skip) (dv PP Tryz.f85.results.toList (fun r st=>(r1 (bk .i64)).get true st.h r=some (zw (fold a) (fold b)))) (b9 0 [ak.val false a,ak.val false b]) (bj []):=by
 unfold Tryz.f85
 simp only [↓wR,RA,simprocAttr,TF,sr,yn,ha,hb]
noncomputable def te (x:ByteArray × ByteArray × Unit):Option AV:=if x.1.size≤16777216∧x.2.1.size≤16777216 then some ((r1 (bk .i64)).E true (zw (fold x.1) (fold x.2.1))) else none
set_option maxRecDepth 2000000 in
theorem Lw (x:ByteArray × ByteArray × Unit) (r:AV) (h:te x=some r):br PP 85 ((aC ak (aC ak a0)).E x) r:=by
 by_cases hc:x.1.size≤16777216∧x.2.1.size≤16777216
 case neg=>simp only [te,if_neg hc] at h;cases h
 simp only [te,if_pos hc] at h
 cases h
 exact bb (an.cons (ar zg) (an.cons (ar Ib) (an.nil PP))) Tryz.func85 (by kernel_rfl) (by kernel_rfl) (by kernel_rfl) (Nat.le_of_ble_eq_true (by kernel_rfl)) (r1 (bk .i64)) true (zw (fold x.1) (fold x.2.1)) (Rx x.1 x.2.1 hc.1 hc.2)
noncomputable abbrev aa3:Nat × Bool × (List AV→M AV):=(85,true,dh (aC ak (aC ak a0)) te)
def g6 (n:Name):List ByteArray:=n.map fold
def cp (n:Name):Prop:=b7 n≤16777216
instance (n:Name):Decidable (cp n):=inferInstanceAs (Decidable (_≤_))
theorem aal {n:Name} {s:ByteArray} (h:s ∈ n):s.size<b7 n:=by
 obtain ⟨a,b,rfl⟩:=List.append_of_mem h
 have h1:=ql a ([s]++b)
 have h2:=ql [s] b
 have h3:b7 [s]=s.size+2:=by simp [b7];omega
 have h4:∀ l:Name,1≤b7 l:=fun l=>by have:=(nq l 0).2;omega
 have:=h4 a;have:=h4 b
 simp only [List.singleton_append] at h1 h2
 omega
theorem cp.label {n:Name} (h:cp n):∀ s ∈ n,s.size≤16777216:=fun s hs=>by have:=aal hs;unfold cp at h;omega
theorem cp.len {n:Name} (h:cp n):n.length<17592186044416:=by have:=(nq n 0).2;unfold cp at h;omega
theorem Ge:∀ r q:List ByteArray,ec r q≤q.length
 | [],q=>by simp [ec]
 |a::r,[]=>by simp [ec]
 |a::r,b::q=>by
  have:=Ge r q
  simp only [ec,List.length_cons]
  split<;>omega
theorem Dg:∀ r q:List ByteArray,ec r q≤r.length
 | [],q=>by simp [ec]
 |a::r,[]=>by simp [ec]
 |a::r,b::q=>by
  have:=Dg r q
  simp only [ec,List.length_cons]
  split<;>omega
theorem M9:∀ r q:List ByteArray,ec r q=q.length↔q.map fold <+: r.map fold
 | [],[]=>by simp [ec]
 |a::r,[]=>by simp [ec]
 | [],b::q=>by simp [ec]
 |a::r,b::q=>by
  have:=M9 r q
  simp only [ec,List.length_cons,List.map_cons,List.cons_prefix_cons]
  by_cases h:fold a=fold b
  ·rw [if_pos h]
   constructor
   ·intro h1;exact ⟨h.symm,this.1 (by omega)⟩
   ·intro h1;have:=this.2 h1.2;omega
  ·rw [if_neg h]
   constructor
   ·intro h1;omega
   ·intro h1;exact (h h1.1.symm).elim
theorem Cu (n top:Name):common n top=top.length↔g6 top <:+ g6 n:=by
 unfold common g6
 rw [← List.length_reverse,M9,List.map_reverse,List.map_reverse,List.reverse_prefix]
theorem Mm (a b:Name):(a.length=b.length∧common a b=a.length)↔g6 a=g6 b:=by
 constructor
 ·rintro ⟨h1,h2⟩
  rw [h1] at h2
  have:=(Cu a b).1 h2
  exact (this.eq_of_length (by simp [g6,h1])).symm
 ·intro h
  have hl:a.length=b.length:=by have:=congrArg List.length h;simpa [g6] using this
  refine ⟨hl,?_⟩
  rw [hl]
  exact (Cu a b).2 (by rw [h];exact List.suffix_refl _)
def fu (a b:Name):Bool:=decide (g6 a=g6 b)
def ir (n top:Name):Bool:=decide (g6 top <:+ g6 n)
noncomputable def pq (x:Name × Name × Unit):Option AV:=if cp x.1∧cp x.2.1 then some ((r1 (bk .i64)).E true ((common x.1 x.2.1:Int))) else none
set_option maxRecDepth 2000000 in
theorem xz (x:Name × Name × Unit) (r:AV) (h:pq x=some r):br PP 36 ((aC aw (aC aw a0)).E x) r:=by
 by_cases hc:cp x.1∧cp x.2.1
 case neg=>simp only [pq,if_neg hc] at h;cases h
 simp only [pq,if_pos hc] at h
 cases h
 exact bb (an.cons (ar Tu) (an.nil PP)) Tryz.func36 (by kernel_rfl) (by kernel_rfl) (by kernel_rfl) (Nat.le_of_ble_eq_true (by kernel_rfl)) (r1 (bk .i64)) true ((common x.1 x.2.1:Int)) (W2 x.1 x.2.1 hc.1.label hc.2.label hc.1.len hc.2.len)
noncomputable abbrev Gf:Nat × Bool × (List AV→M AV):=(36,true,dh (aC aw (aC aw a0)) pq)
theorem acb (n top:Name) (hn:cp n) (ht:cp top):wl PP [Gf] 0 (Tryz.f21.body.getD .skip) (dv PP Tryz.f21.results.toList (fun r st=>(r1 bo).get true st.h r=some (ir n top))) (b9 0 [aw.val false n,aw.val false top]) (bj []):=by
 unfold Tryz.f21
 simp only [dy]
 simp only [↓wR,RA,simprocAttr,TF,pq,hn,ht]
 congr 1
 unfold ir
 have:=Cu n top
 rw [Bool.eq_iff_iff];simp [← this];omega
noncomputable def pd (x:Name × Name × Unit):Option AV:=if cp x.1∧cp x.2.1 then some ((r1 bo).E true (ir x.1 x.2.1)) else none
set_option maxRecDepth 2000000 in
theorem vi (x:Name × Name × Unit) (r:AV) (h:pd x=some r):br PP 21 ((aC aw (aC aw a0)).E x) r:=by
 by_cases hc:cp x.1∧cp x.2.1
 case neg=>simp only [pd,if_neg hc] at h;cases h
 simp only [pd,if_pos hc] at h
 cases h
 exact bb (an.cons (ar xz) (an.nil PP)) Tryz.func21 (by kernel_rfl) (by kernel_rfl) (by kernel_rfl) (Nat.le_of_ble_eq_true (by kernel_rfl)) (r1 bo) true (ir x.1 x.2.1) (acb x.1 x.2.1 hc.1 hc.2)
noncomputable abbrev Aq:Nat × Bool × (List AV→M AV):=(21,true,dh (aC aw (aC aw a0)) pd)
theorem adn (n top:Name) (hn:cp n) (ht:cp top):wl PP [Gf] 0 (Tryz.f14.body.getD .skip) (dv PP Tryz.f14.results.toList (fun r st=>(r1 bo).get true st.h r=some (fu n top))) (b9 0 [aw.val false n,aw.val false top]) (bj []):=by
 unfold Tryz.f14
 simp only [dy]
 simp only [↓wR,RA,simprocAttr,TF,pq,hn,ht]
 rw [dc];refine ⟨fun h=>?_,fun h=>?_⟩
 ·have hl:n.length=top.length:=by simp at h;omega
  simp only [↓wR,RA,simprocAttr,TF,h,pq,hn,ht]
  congr 1
  unfold fu
  have:=Mm n top
  rw [Bool.eq_iff_iff];simp [← this,hl];omega
 ·have hl:¬ n.length=top.length:=by simp at h;omega
  simp only [↓wR,RA,simprocAttr,TF,h]
  have:=Mm n top
  simp [fu,← this,hl]
noncomputable def gq (x:Name × Name × Unit):Option AV:=if cp x.1∧cp x.2.1 then some ((r1 bo).E true (fu x.1 x.2.1)) else none
set_option maxRecDepth 2000000 in
theorem my (x:Name × Name × Unit) (r:AV) (h:gq x=some r):br PP 14 ((aC aw (aC aw a0)).E x) r:=by
 by_cases hc:cp x.1∧cp x.2.1
 case neg=>simp only [gq,if_neg hc] at h;cases h
 simp only [gq,if_pos hc] at h
 cases h
 exact bb (an.cons (ar xz) (an.nil PP)) Tryz.func14 (by kernel_rfl) (by kernel_rfl) (by kernel_rfl) (Nat.le_of_ble_eq_true (by kernel_rfl)) (r1 bo) true (fu x.1 x.2.1) (adn x.1 x.2.1 hc.1 hc.2)
noncomputable abbrev eb:Nat × Bool × (List AV→M AV):=(14,true,dh (aC aw (aC aw a0)) gq)
noncomputable def ag6 (a b:Name) (k:Nat):Int:=
 match a[a.length - 1 - k]?,b[b.length - 1 - k]? with
 |some x,some y=>zw (fold x) (fold y)
 |_,_=>0
noncomputable def n6 (a b:Name):Int:=
 if common a b=a.length∧common a b=b.length then 0 else if common a b=a.length then -1 else if common a b=b.length then 1 else ag6 a b (common a b)
theorem Ty (a b:Name) (ha:cp a) (hb:cp b):wl PP [Gf,aa3] 0 (Tryz.f58.body.getD .skip) (dv PP Tryz.f58.results.toList (fun r st=>(r1 (bk .i64)).get true st.h r=some (n6 a b))) (b9 0 [aw.val false a,aw.val false b]) (bj []):=by
 unfold Tryz.f58
 simp only [dy]
 simp only [↓wR,RA,simprocAttr,TF,pq,ha,hb]
 have h1:=Dg a.reverse b.reverse
 have h2:=Ge a.reverse b.reverse
 rw [List.length_reverse] at h1 h2
 change common a b≤a.length at h1
 change common a b≤b.length at h2
 obtain ⟨k,hk⟩:∃ k,common a b=k:=⟨_,rfl⟩
 rw [hk] at h1 h2
 unfold n6
 rw [hk]
 rw [dc];refine ⟨fun h=>?_,fun h=>?_⟩
 ·simp only [↓wR,RA,simprocAttr,TF,h]
  have hka:k=a.length:=by simp at h;omega
  rw [dc];refine ⟨fun h3=>?_,fun h3=>?_⟩
  ·have hkb:k=b.length:=by simp at h3;omega
   simp only [↓wR,RA,simprocAttr,TF,h3]
   rw [if_pos ⟨hka,hkb⟩]
  ·have hkb:¬ k=b.length:=by simp at h3;omega
   simp only [↓wR,RA,simprocAttr,TF,h3,h]
   rw [if_neg (fun e=>hkb e.2),if_pos hka]
 ·simp only [↓wR,RA,simprocAttr,TF,h]
  have hka:¬ k=a.length:=by simp at h;omega
  rw [dc];refine ⟨fun h3=>?_,fun h3=>?_⟩
  ·have hkb:k=b.length:=by simp at h3;omega
   simp only [↓wR,RA,simprocAttr,TF,h3]
   rw [if_neg (fun e=>hka e.1),if_neg hka,if_pos hkb]
  ·have hkb:¬ k=b.length:=by simp at h3;omega
   rw [if_neg (fun e=>hka e.1),if_neg hka,if_neg hkb]
   obtain ⟨x,hx⟩:∃ x,a[a.length - 1 - k]? = some x:=⟨_,List.getElem?_eq_getElem (by omega)⟩
   obtain ⟨y,hy⟩:∃ y,b[b.length - 1 - k]? = some y:=⟨_,List.getElem?_eq_getElem (by omega)⟩
   simp only [↓wR,RA,simprocAttr,TF,h3]
   refine ⟨by kernel_rfl,.inl ?_⟩
   have la:=ha.len
   have lb:=hb.len
   simp (disch:=omega) only [ah,be,bf,bd,bg]
   have e1:(((a.length:Int) - 1) - k).toNat=a.length - 1 - k:=by omega
   have e2:(0:Int)≤((a.length:Int) - 1) - k:=by omega
   have e3:(((b.length:Int) - 1) - k).toNat=b.length - 1 - k:=by omega
   have e4:(0:Int)≤((b.length:Int) - 1) - k:=by omega
   simp only [↓wR,RA,simprocAttr,TF,hx,e1,e2]
   simp (disch:=omega) only [ah,be,bf,bd,bg]
   simp only [↓wR,RA,simprocAttr,TF,hy,e3,e4,te,ha.label x (List.mem_of_getElem? hx),hb.label y (List.mem_of_getElem? hy)]
   exact ⟨by kernel_rfl,by simp [ag6,hx,hy]⟩
noncomputable def re (x:Name × Name × Unit):Option AV:=if cp x.1∧cp x.2.1 then some ((r1 (bk .i64)).E true (n6 x.1 x.2.1)) else none
set_option maxRecDepth 2000000 in
theorem Cr (x:Name × Name × Unit) (r:AV) (h:re x=some r):br PP 58 ((aC aw (aC aw a0)).E x) r:=by
 by_cases hc:cp x.1∧cp x.2.1
 case neg=>simp only [re,if_neg hc] at h;cases h
 simp only [re,if_pos hc] at h
 cases h
 exact bb (an.cons (ar xz) (an.cons (ar Lw) (an.nil PP))) Tryz.func58 (by kernel_rfl) (by kernel_rfl) (by kernel_rfl) (Nat.le_of_ble_eq_true (by kernel_rfl)) (r1 (bk .i64)) true (n6 x.1 x.2.1) (Ty x.1 x.2.1 hc.1 hc.2)
noncomputable abbrev M3:Nat × Bool × (List AV→M AV):=(58,true,dh (aC aw (aC aw a0)) re)
theorem cp.lt {n:Name} (h:cp n):n.length<16777216:=by have:=(nq n 0).2;unfold cp at h;omega
theorem ac8 (n:Name) (hn:cp n):wl PP [] 0 (Tryz.f35.body.getD .skip) (dv PP Tryz.f35.results.toList (fun r st=>(r1 aw).get true st.h r=some n)) (b9 0 [aw.val false n]) (bj []):=by
 unfold Tryz.f35
 simp only [dy]
 have hlim:n.length * 16≤140737488355328:=by have:=hn.lt;omega
 simp only [↓wR,RA,simprocAttr,TF,hlim]
noncomputable def pn (x:Name × Unit):Option AV:=if cp x.1 then some ((r1 aw).E true (x.1)) else none
set_option maxRecDepth 2000000 in
theorem qh (x:Name × Unit) (r:AV) (h:pn x=some r):br PP 35 ((aC aw a0).E x) r:=by
 by_cases hc:cp x.1
 case neg=>simp only [pn,if_neg hc] at h;cases h
 simp only [pn,if_pos hc] at h
 cases h
 exact bb (an.nil PP) Tryz.func35 (by kernel_rfl) (by kernel_rfl) (by kernel_rfl) (Nat.le_of_ble_eq_true (by kernel_rfl)) (r1 aw) true (x.1) (ac8 x.1 hc)
noncomputable abbrev zn:Nat × Bool × (List AV→M AV):=(35,true,dh (aC aw a0) pn)
theorem anl {n:Name} {i:Nat} {c:ByteArray} (hc:n[i]? = some c):g6 (n.drop i)=fold c::g6 (n.drop (i+1)):=by rw [Fc hc];rfl
theorem adf (n:Name) (hn:cp n):wl PP [Kd] 0 (Tryz.f76.body.getD .skip) (dv PP Tryz.f76.results.toList (fun r st=>(r1 aw).get true st.h r=some (g6 n))) (b9 0 [aw.val false n]) (bj []):=by
 unfold Tryz.f76
 simp only [dy]
 have hln:=hn.lt
 simp only [↓wR,RA,simprocAttr,TF]
 refine kf [6,7,8,3] (fun (x:List ByteArray)=>[.vl false 1 (n.map (ak.val false)),.sc (.int .i64 n.length),.sc (.int .i64 x.length),.sl 0 0 x.length 1]) (fun x=>[some (.row (x.map (ak.val false)) 0 0 9)]) (fun x=>x++g6 (n.drop x.length)=g6 n∧x.length≤n.length) (fun x=>n.length - x.length) [] ⟨rfl,Nat.zero_le _⟩ (by simp only [↓wR,RA,simprocAttr,TF];(refine sd.lax [] (by first|exact Nat.le_of_ble_eq_true rfl|(simp [b8];omega)) ?_ ?_<;>repeat' first|exact i5.nil|exact dg.nil|exact jd.same _|exact jd.nil _ _ _|exact jd.vv _ _|exact dg.refl _ _|apply i5.cons|apply dg.ghost|apply dg.same|apply dg.row)) ?_
 rintro x ⟨hR,hx⟩
 simp only [↓wR,RA,simprocAttr,TF]
 rw [dc];refine ⟨fun h=>?_,fun h=>?_⟩
 ·obtain ⟨c,hc,hd,hlt⟩:=ek h
  have hlim:(x.length+1) * 16≤140737488355328:=by omega
  simp only [↓wR,RA,simprocAttr,TF,hc,sr,hn.label c (List.mem_of_getElem? hc),hlim]
  refine ⟨x++[fold c],⟨?_,by simp;omega⟩,by simp;omega,by (first|rfl|trivial|omega|((try (simp (disch:=omega) only [ah]));(try (simp only [FB]));first|done|rfl|omega)),by (first|rfl|trivial|omega|((try (simp (disch:=omega) only [ah]));(try (simp only [FB]));first|done|rfl|omega))⟩
  rw [← hR,anl hc];simp
 ·rw [ig h] at hR
  simp only [↓wR,RA,simprocAttr,TF,h]
  simpa [g6] using hR
noncomputable def Ar (x:Name × Unit):Option AV:=if cp x.1 then some ((r1 aw).E true (g6 x.1)) else none
set_option maxRecDepth 2000000 in
theorem Xe (x:Name × Unit) (r:AV) (h:Ar x=some r):br PP 76 ((aC aw a0).E x) r:=by
 by_cases hc:cp x.1
 case neg=>simp only [Ar,if_neg hc] at h;cases h
 simp only [Ar,if_pos hc] at h
 cases h
 exact bb (an.cons (ar zg) (an.nil PP)) Tryz.func76 (by kernel_rfl) (by kernel_rfl) (by kernel_rfl) (Nat.le_of_ble_eq_true (by kernel_rfl)) (r1 aw) true (g6 x.1) (adf x.1 hc)
noncomputable abbrev anv:Nat × Bool × (List AV→M AV):=(76,true,dh (aC aw a0) Ar)
theorem Wy {n:Name} (h:eh n=0):b7 n≤255:=by
 unfold eh at h
 split at h
 ·cases h
 ·split at h
  ·cases h
  ·omega
theorem cp.fit {n:Name} (h:cp n):b7 n<17592186044416:=by unfold cp at h;omega
def agk:ByteArray:=⟨#[42]⟩
def mi (s:ByteArray):List UInt8:=UInt8.ofNat s.size::s.data.toList
def nameBytes (n:Name):List UInt8:=n.flatMap mi++[0]
def qy (n:Name):List UInt8:=if eh n≠0 then [] else nameBytes n
theorem F0 (s):(mi s).length=s.size+1:=by simp [mi]
theorem Bb (n:Name):(n.flatMap mi).length+1=b7 n:=by
 induction n with
 |nil=>rfl
 |cons a l ih=>
  have:=ql [a] l
  have h3:b7 [a]=a.size+2:=by simp [b7];omega
  simp only [List.singleton_append] at this
  simp only [List.flatMap_cons,List.length_append,F0]
  omega
theorem aab (n:Name) (hn:cp n):wl PP [ed] 0 (Tryz.f96.body.getD .skip) (dv PP Tryz.f96.results.toList (fun r st=>(r2 (cj bu) (bk .i64)).get true st.h r=some (qy n,eh n))) (b9 0 [aw.val false n]) (bj []):=by
 unfold Tryz.f96
 simp only [dy]
 have hln:=hn.lt
 simp only [↓wR,RA,simprocAttr,TF,qs,hn.fit]
 rw [dc];refine ⟨fun h=>?_,fun h=>?_⟩
 ·have he:eh n≠0:=by simpa using h
  have hb:qy n=[]:=if_pos he
  simp only [↓wR,RA,simprocAttr,TF,hb]
 have he:eh n=0:=by simpa using h
 have hb:qy n=nameBytes n:=if_neg (by omega)
 rw [hb,he]
 simp only [↓wR,RA,simprocAttr,TF]
 refine kf [13,14,15,5] (fun (x:Nat × List UInt8)=>[.vl false 1 (n.map (ak.val false)),.sc (.int .i64 n.length),.sc (.int .i64 x.1),.sl 0 0 x.2.length 1]) (fun x=>[some (.row (x.2.map (bu.val false)) 0 0 5)]) (fun x=>x.2++(n.drop x.1).flatMap mi=n.flatMap mi∧x.1≤n.length) (fun x=>n.length - x.1) (0,[]) ⟨rfl,Nat.zero_le _⟩ (by simp only [↓wR,RA,simprocAttr,TF];(refine sd.lax [] (by first|exact Nat.le_of_ble_eq_true rfl|(simp [b8];omega)) ?_ ?_<;>repeat' first|exact i5.nil|exact dg.nil|exact jd.same _|exact jd.nil _ _ _|exact jd.vv _ _|exact dg.refl _ _|apply i5.cons|apply dg.ghost|apply dg.same|apply dg.row)) ?_
 rintro ⟨i,x⟩ ⟨hR,hx⟩
 simp only at hR hx
 have hnb:=Bb n
 have hsm:=Wy he
 simp only [↓wR,RA,simprocAttr,TF]
 rw [dc];refine ⟨fun h2=>?_,fun h2=>?_⟩
 ·obtain ⟨c,hc,hd,hlt⟩:=ek h2
  rw [hd,List.flatMap_cons] at hR
  have hl:x.length+(mi c).length≤(n.flatMap mi).length:=by rw [← hR];simp
  rw [F0] at hl
  simp only [↓wR,RA,simprocAttr,TF,hc];repeat (simp (disch:=omega) only [ah,be,bf,bd,bg];try simp only [↓wR,RA,simprocAttr,TF,hc])
  refine ⟨(i+1,x++mi c),⟨by rw [← hR];simp,hlt⟩,by simp;omega,?_,by simp only [mi,List.map_append,List.map_cons,List.append_assoc,List.singleton_append,Dy]⟩
  simp only [List.cons.injEq,and_true,true_and,AV.sc.injEq,Value.int.injEq,AV.sl.injEq,mi,List.length_append,List.length_cons]
  refine ⟨by (try simp (disch:=omega) only [ah,be,bf,bd,bg]);simp,by simp;omega⟩
 ·rw [ig h2] at hR
  have hl:x.length<b7 n:=by rw [← hnb,← hR];simp
  simp only [↓wR,RA,simprocAttr,TF,h2];repeat (simp (disch:=omega) only [ah,be,bf,bd,bg];try simp only [↓wR,RA,simprocAttr,TF,h2])
  simp only [nameBytes,← hR];simp
noncomputable def tp (x:Name × Unit):Option AV:=if cp x.1 then some ((r2 (cj bu) (bk .i64)).E true ((qy x.1,eh x.1))) else none
set_option maxRecDepth 2000000 in
theorem Rq (x:Name × Unit) (r:AV) (h:tp x=some r):br PP 96 ((aC aw a0).E x) r:=by
 by_cases hc:cp x.1
 case neg=>simp only [tp,if_neg hc] at h;cases h
 simp only [tp,if_pos hc] at h
 cases h
 exact bb (an.cons (ar rq) (an.nil PP)) Tryz.func96 (by kernel_rfl) (by kernel_rfl) (by kernel_rfl) (Nat.le_of_ble_eq_true (by kernel_rfl)) (r2 (cj bu) (bk .i64)) true ((qy x.1,eh x.1)) (aab x.1 hc)
noncomputable abbrev ag0:Nat × Bool × (List AV→M AV):=(96,true,dh (aC aw a0) tp)
end Go.Proofs.YtldcaajoheeipaaGreat
end
section
namespace Go.Proofs.YtldcaajoheeipaaGreat
open Go.Vm
set_option maxRecDepth 2000000
theorem Hd {α:Type} {f : α→AV} {xs:List α} (h:xs≠[]) (op l sz p q):B4 op (.vl l sz (xs.map f)) (.sc (.slice none p q))=nv op false:=by
 cases xs with
 |nil=>exact (h rfl).elim
 |cons x xs=>rfl
def Km (v:Value):Prop:=v = .slice none 0 0∨∃ a c,v = .slice (some a) 0 c
theorem zc {f:Nat} {r:AV} {sz:Nat} (h:∀ v,Km v→br PP f [.sc v] r):br PP f [.vl false sz []] r:=by
 intro K w vs hK hrel
 obtain ⟨v,rfl,hv⟩:=De hrel
 have hE:Km v:=by
  cases hv with
  |vl=>exact .inr ⟨_,_,rfl⟩
  |lf=>exact .inl rfl
  |uu=>exact .inr ⟨_,_,rfl⟩
 exact h v hE K w [v] hK (bm.cons (.sc v) (bm.nil _ _))
theorem adg (l:List UInt32) (hne:l≠[]) (hl:l.length≤16777216):wl PP [] 0 (Tryz.f63.body.getD .skip) (dv PP Tryz.f63.results.toList (fun r st=>(r1 (cj c0)).get true st.h r=some l)) (b9 0 [(cj c0).val false l]) (bj []):=by
 unfold Tryz.f63
 rw [pz]
 have hb:l.length * 4≤140737488355328:=by omega
 simp only [↓wR,RA,simprocAttr,TF,Hd hne,hb]
theorem Zm (v:Value) (hv:Km v):wl PP [] 0 (Tryz.f63.body.getD .skip) (dv PP Tryz.f63.results.toList (fun r st=>(r1 (cj c0)).get true st.h r=some [])) (b9 0 [.sc v]) (bj []):=by
 unfold Tryz.f63
 rcases hv with rfl|⟨a,c,rfl⟩
 ·simp only [↓wR,RA,simprocAttr,TF]
 ·simp only [↓wR,RA,simprocAttr,TF]
noncomputable def w9 (x:List UInt32 × Unit):Option AV:=if x.1.length≤16777216 then some ((r1 (cj c0)).E true x.1) else none
theorem H0 (x:List UInt32 × Unit) (r:AV) (h:w9 x=some r):br PP 63 ((aC (cj c0) a0).E x) r:=by
 by_cases hc:x.1.length≤16777216
 case neg=>simp only [w9,if_neg hc] at h;cases h
 simp only [w9,if_pos hc] at h
 cases h
 obtain ⟨l,⟨⟩⟩:=x
 by_cases hn:l=[]
 ·subst hn
  exact zc (sz:=1) fun v hv=>bb (an.nil PP) Tryz.func63 (by kernel_rfl) (by kernel_rfl) (by kernel_rfl) (Nat.le_of_ble_eq_true (by kernel_rfl)) (r1 (cj c0)) true [] (Zm v hv)
 ·exact bb (an.nil PP) Tryz.func63 (by kernel_rfl) (by kernel_rfl) (by kernel_rfl) (Nat.le_of_ble_eq_true (by kernel_rfl)) (r1 (cj c0)) true l (adg l hn hc)
noncomputable abbrev abr:Nat × Bool × (List AV→M AV):=(63,true,dh (aC (cj c0) a0) w9)
theorem aea (l:List ByteArray) (hne:l≠[]) (hl:l.length≤16777216):wl PP [] 0 (Tryz.f64.body.getD .skip) (dv PP Tryz.f64.results.toList (fun r st=>(r1 (cj ak)).get true st.h r=some l)) (b9 0 [(cj ak).val false l]) (bj []):=by
 unfold Tryz.f64
 rw [pz]
 have hb:l.length * 16≤140737488355328:=by omega
 simp only [↓wR,RA,simprocAttr,TF,Hd hne,hb]
theorem X9 (v:Value) (hv:Km v):wl PP [] 0 (Tryz.f64.body.getD .skip) (dv PP Tryz.f64.results.toList (fun r st=>(r1 (cj ak)).get true st.h r=some [])) (b9 0 [.sc v]) (bj []):=by
 unfold Tryz.f64
 rcases hv with rfl|⟨a,c,rfl⟩
 ·simp only [↓wR,RA,simprocAttr,TF]
 ·simp only [↓wR,RA,simprocAttr,TF]
noncomputable def xe (x:List ByteArray × Unit):Option AV:=if x.1.length≤16777216 then some ((r1 (cj ak)).E true x.1) else none
theorem Hx (x:List ByteArray × Unit) (r:AV) (h:xe x=some r):br PP 64 ((aC (cj ak) a0).E x) r:=by
 by_cases hc:x.1.length≤16777216
 case neg=>simp only [xe,if_neg hc] at h;cases h
 simp only [xe,if_pos hc] at h
 cases h
 obtain ⟨l,⟨⟩⟩:=x
 by_cases hn:l=[]
 ·subst hn
  exact zc (sz:=1) fun v hv=>bb (an.nil PP) Tryz.func64 (by kernel_rfl) (by kernel_rfl) (by kernel_rfl) (Nat.le_of_ble_eq_true (by kernel_rfl)) (r1 (cj ak)) true [] (X9 v hv)
 ·exact bb (an.nil PP) Tryz.func64 (by kernel_rfl) (by kernel_rfl) (by kernel_rfl) (Nat.le_of_ble_eq_true (by kernel_rfl)) (r1 (cj ak)) true l (aea l hn hc)
noncomputable abbrev ab0:Nat × Bool × (List AV→M AV):=(64,true,dh (aC (cj ak) a0) xe)
theorem aix (l:List UInt8) (hne:l≠[]) (hl:l.length≤16777216):wl PP [] 0 (Tryz.f65.body.getD .skip) (dv PP Tryz.f65.results.toList (fun r st=>(r1 (cj bu)).get true st.h r=some l)) (b9 0 [(cj bu).val false l]) (bj []):=by
 unfold Tryz.f65
 rw [pz]
 have hb:l.length≤140737488355328:=by omega
 simp only [↓wR,RA,simprocAttr,TF,Hd hne,hb]
theorem adv (v:Value) (hv:Km v):wl PP [] 0 (Tryz.f65.body.getD .skip) (dv PP Tryz.f65.results.toList (fun r st=>(r1 (cj bu)).get true st.h r=some [])) (b9 0 [.sc v]) (bj []):=by
 unfold Tryz.f65
 rcases hv with rfl|⟨a,c,rfl⟩
 ·simp only [↓wR,RA,simprocAttr,TF]
 ·simp only [↓wR,RA,simprocAttr,TF]
noncomputable def za (x:List UInt8 × Unit):Option AV:=if x.1.length≤16777216 then some ((r1 (cj bu)).E true x.1) else none
theorem Ic (x:List UInt8 × Unit) (r:AV) (h:za x=some r):br PP 65 ((aC (cj bu) a0).E x) r:=by
 by_cases hc:x.1.length≤16777216
 case neg=>simp only [za,if_neg hc] at h;cases h
 simp only [za,if_pos hc] at h
 cases h
 obtain ⟨l,⟨⟩⟩:=x
 by_cases hn:l=[]
 ·subst hn
  exact zc (sz:=1) fun v hv=>bb (an.nil PP) Tryz.func65 (by kernel_rfl) (by kernel_rfl) (by kernel_rfl) (Nat.le_of_ble_eq_true (by kernel_rfl)) (r1 (cj bu)) true [] (adv v hv)
 ·exact bb (an.nil PP) Tryz.func65 (by kernel_rfl) (by kernel_rfl) (by kernel_rfl) (Nat.le_of_ble_eq_true (by kernel_rfl)) (r1 (cj bu)) true l (aix l hn hc)
noncomputable abbrev agd:Nat × Bool × (List AV→M AV):=(65,true,dh (aC (cj bu) a0) za)
structure Shape where
 names:Int
 nums:Int
 size:Int
 texts:Int
 raw:Int
noncomputable def sx:cr Shape:=Dj (oe (bk .i64) (oe (bk .i64) (oe (bk .i64) (oe (bk .i64) (bk .i64))))) (fun s=>(s.names,s.nums,s.size,s.texts,s.raw)) (fun p=>⟨p.1,p.2.1,p.2.2.1,p.2.2.2.1,p.2.2.2.2⟩) (fun _=>rfl) (fun _=>rfl)
theorem Df (l:Bool) (s:Shape):sx.val l s = .agg [.sc (.int .i64 s.names),.sc (.int .i64 s.nums),.sc (.int .i64 s.size),.sc (.int .i64 s.texts),.sc (.int .i64 s.raw)]:=id rfl
theorem j0 (fr h) (a b c d e:Int):sx.il fr h (.agg [.sc (.int .i64 a),.sc (.int .i64 b),.sc (.int .i64 c),.sc (.int .i64 d),.sc (.int .i64 e)])=some ⟨a,b,c,d,e⟩:=aub sx fr h ⟨a,b,c,d,e⟩
def n5 (t:UInt16):Shape:=
 if (t.toNat:Int)=1 then ⟨0,0,0,0,4⟩ else if (t.toNat:Int)=28 then ⟨0,0,0,0,16⟩ else if (t.toNat:Int)=2 then ⟨1,0,0,0,0⟩ else if (t.toNat:Int)=5 then ⟨1,0,0,0,0⟩ else if (t.toNat:Int)=12 then ⟨1,0,0,0,0⟩
 else if (t.toNat:Int)=6 then ⟨2,5,4,0,0⟩ else if (t.toNat:Int)=15 then ⟨1,1,2,0,0⟩ else if (t.toNat:Int)=33 then ⟨1,3,2,0,0⟩ else if (t.toNat:Int)=16 then ⟨0,0,0,-1,0⟩ else if (t.toNat:Int)=257 then ⟨0,1,1,2,0⟩ else ⟨0,0,0,0,-1⟩
theorem akf (t:UInt16):wl PP [] 0 (Tryz.f73.body.getD .skip) (dv PP Tryz.f73.results.toList (fun r st=>(r1 sx).get true st.h r=some (n5 t))) (b9 0 [cw.val false t]) (bj []):=by
 unfold Tryz.f73
 unfold n5
 simp only [↓wR,RA,simprocAttr,TF]
 rw [di];refine ⟨fun ⟨h0,e0⟩=>?_,fun ⟨h0,e0⟩=>?_⟩
 ·simp only [↓wR,RA,simprocAttr,TF,h0]
  rw [if_pos e0]
  exact j0 ..
 rw [if_neg e0]
 simp only [↓wR,RA,simprocAttr,TF,h0]
 rw [di];refine ⟨fun ⟨h1,e1⟩=>?_,fun ⟨h1,e1⟩=>?_⟩
 ·simp only [↓wR,RA,simprocAttr,TF,h1]
  rw [if_pos e1]
  exact j0 ..
 rw [if_neg e1]
 simp only [↓wR,RA,simprocAttr,TF,h1]
 rw [di];refine ⟨fun ⟨h2,e2⟩=>?_,fun ⟨h2,e2⟩=>?_⟩
 ·simp only [↓wR,RA,simprocAttr,TF,h2]
  rw [if_pos e2]
  exact j0 ..
 rw [if_neg e2]
 simp only [↓wR,RA,simprocAttr,TF,h2]
 rw [di];refine ⟨fun ⟨h3,e3⟩=>?_,fun ⟨h3,e3⟩=>?_⟩
 ·simp only [↓wR,RA,simprocAttr,TF,h3]
  rw [if_pos e3]
  exact j0 ..
 rw [if_neg e3]
 simp only [↓wR,RA,simprocAttr,TF,h3]
 rw [di];refine ⟨fun ⟨h4,e4⟩=>?_,fun ⟨h4,e4⟩=>?_⟩
 ·simp only [↓wR,RA,simprocAttr,TF,h4]
  rw [if_pos e4]
  exact j0 ..
 rw [if_neg e4]
 simp only [↓wR,RA,simprocAttr,TF,h4]
 rw [di];refine ⟨fun ⟨h5,e5⟩=>?_,fun ⟨h5,e5⟩=>?_⟩
 ·simp only [↓wR,RA,simprocAttr,TF,h5]
  rw [if_pos e5]
  exact j0 ..
 rw [if_neg e5]
 simp only [↓wR,RA,simprocAttr,TF,h5]
 rw [di];refine ⟨fun ⟨h6,e6⟩=>?_,fun ⟨h6,e6⟩=>?_⟩
 ·simp only [↓wR,RA,simprocAttr,TF,h6]
  rw [if_pos e6]
  exact j0 ..
 rw [if_neg e6]
 simp only [↓wR,RA,simprocAttr,TF,h6]
 rw [di];refine ⟨fun ⟨h7,e7⟩=>?_,fun ⟨h7,e7⟩=>?_⟩
 ·simp only [↓wR,RA,simprocAttr,TF,h7]
  rw [if_pos e7]
  exact j0 ..
 rw [if_neg e7]
 simp only [↓wR,RA,simprocAttr,TF,h7]
 rw [di];refine ⟨fun ⟨h8,e8⟩=>?_,fun ⟨h8,e8⟩=>?_⟩
 ·simp only [↓wR,RA,simprocAttr,TF,h8]
  rw [if_pos e8]
  exact j0 ..
 rw [if_neg e8]
 simp only [↓wR,RA,simprocAttr,TF,h8]
 rw [di];refine ⟨fun ⟨h9,e9⟩=>?_,fun ⟨h9,e9⟩=>?_⟩
 ·simp only [↓wR,RA,simprocAttr,TF,h9]
  rw [if_pos e9]
  exact j0 ..
 rw [if_neg e9]
 simp only [↓wR,RA,simprocAttr,TF,h9]
 exact j0 ..
noncomputable def Cv (x:UInt16 × Unit):Option AV:=some ((r1 sx).E true (n5 x.1))
set_option maxRecDepth 2000000 in
theorem Cm (x:UInt16 × Unit) (r:AV) (h:Cv x=some r):br PP 73 ((aC cw a0).E x) r:=by
 cases h
 exact bb (an.nil PP) Tryz.func73 (by kernel_rfl) (by kernel_rfl) (by kernel_rfl) (Nat.le_of_ble_eq_true (by kernel_rfl)) (r1 sx) true (n5 x.1) (akf x.1)
noncomputable abbrev Td:Nat × Bool × (List AV→M AV):=(73,true,dh (aC cw a0) Cv)
def Fj (t:UInt16):Bool:=(t.toNat:Int) == 0 || (decide ((128:Int)≤(t.toNat:Int)) && decide ((t.toNat:Int)≤255))
theorem ajg (t:UInt16):wl PP [] 0 (Tryz.f72.body.getD .skip) (dv PP Tryz.f72.results.toList (fun r st=>(r1 bo).get true st.h r=some (Fj t))) (b9 0 [cw.val false t]) (bj []):=by
 unfold Tryz.f72
 unfold Fj
 simp only [↓wR,RA,simprocAttr,TF]
 rw [di];refine ⟨fun ⟨h,e⟩=>?_,fun ⟨h,e⟩=>?_⟩
 ·simp only [↓wR,RA,simprocAttr,TF,h]
 ·simp only [↓wR,RA,simprocAttr,TF,h]
  rw [bc];refine ⟨fun h2=>?_,fun h2=>?_⟩
  ·simp only [↓wR,RA,simprocAttr,TF,h2]
  ·simp only [↓wR,RA,simprocAttr,TF,h2]
   rfl
noncomputable def S9 (x:UInt16 × Unit):Option AV:=some ((r1 bo).E true (Fj x.1))
set_option maxRecDepth 2000000 in
theorem ade (x:UInt16 × Unit) (r:AV) (h:S9 x=some r):br PP 72 ((aC cw a0).E x) r:=by
 cases h
 exact bb (an.nil PP) Tryz.func72 (by kernel_rfl) (by kernel_rfl) (by kernel_rfl) (Nat.le_of_ble_eq_true (by kernel_rfl)) (r1 bo) true (Fj x.1) (ajg x.1)
noncomputable abbrev aru:Nat × Bool × (List AV→M AV):=(72,true,dh (aC cw a0) S9)
noncomputable def Dp (n:UInt32):List UInt8:=[UInt8.ofNat (n.toNat / 16777216),UInt8.ofNat (n.toNat / 65536),UInt8.ofNat (n.toNat / 256),UInt8.ofNat n.toNat]
theorem an2 (n:UInt32):wl PP [] 0 (Tryz.f95.body.getD .skip) (dv PP Tryz.f95.results.toList (fun r st=>(r1 (cj bu)).get true st.h r=some (Dp n))) (b9 0 [c0.val false n]) (bj []):=by
 unfold Tryz.f95
 simp only [↓wR,RA,simprocAttr,TF]
 rfl
noncomputable def Lo (x:UInt32 × Unit):Option AV:=some ((r1 (cj bu)).E true (Dp x.1))
set_option maxRecDepth 2000000 in
theorem aef (x:UInt32 × Unit) (r:AV) (h:Lo x=some r):br PP 95 ((aC c0 a0).E x) r:=by
 cases h
 exact bb (an.nil PP) Tryz.func95 (by kernel_rfl) (by kernel_rfl) (by kernel_rfl) (Nat.le_of_ble_eq_true (by kernel_rfl)) (r1 (cj bu)) true (Dp x.1) (an2 x.1)
noncomputable abbrev arj:Nat × Bool × (List AV→M AV):=(95,true,dh (aC c0 a0) Lo)
def Nx (c:UInt8):Bool:=decide (97≤c.toNat∧c.toNat≤122∨65≤c.toNat∧c.toNat≤90∨48≤c.toNat∧c.toNat≤57)
def I5 (s:ByteArray):Bool:=s.data.toList.all Nx && decide (1≤s.size∧s.size≤15)
theorem ase (s:ByteArray) (hs:s.size≤16777216):wl PP [] 0 (Tryz.f92.body.getD .skip) (dv PP Tryz.f92.results.toList (fun r st=>(r1 bo).get true st.h r=some (I5 s))) (b9 0 [ak.val false s]) (bj []):=by
 unfold Tryz.f92
 simp only [↓wR,RA,simprocAttr,TF]
 refine cq [0,6,7] (fun (i:Nat)=>[.sc (.string s),.sc (.int .i64 s.size),.sc (.int .i64 i)]) (fun _=>[]) (fun i=>i≤s.size∧s.data.toList.all Nx=(s.data.toList.drop i).all Nx) (fun i=>s.size - i) 0 ⟨Nat.zero_le _,rfl⟩ ?_ ?_ ?_
 ·simp only [↓wR,RA,simprocAttr,TF]<;>rfl
 ·simp only [↓wR,RA,simprocAttr,TF]
 rintro i ⟨hi,hR⟩
 simp only [↓wR,RA,simprocAttr,TF]
 rw [bc];refine ⟨fun h=>?_,fun h=>?_⟩
 ·obtain ⟨c,hc⟩:∃ c,s.data.toList[i]? = some c:=⟨_,List.getElem?_eq_getElem (by simp;omega)⟩
  have hd:=Fc hc
  rw [hd,List.all_cons] at hR
  simp only [↓wR,RA,simprocAttr,TF,h,hc];repeat (simp (disch:=omega) only [ah,be,bf,bd,bg];try simp only [↓wR,RA,simprocAttr,TF,h,hc])
  repeat' (rw [bc];refine ⟨fun h=>?_,fun h=>?_⟩<;>simp only [↓wR,RA,simprocAttr,TF,h,hc])
  all_goals first
   |(
    have ht:Nx c=false:=by (unfold Nx;rw [decide_eq_false_iff_not];omega)
    rw [I5,hR,ht];rfl)
   |(
    have ht:Nx c=true:=by (unfold Nx;rw [decide_eq_true_eq];omega)
    refine ⟨i+1,⟨by omega,by rw [hR,ht];simp⟩,by omega,by (first|rfl|trivial|omega|((try (simp (disch:=omega) only [ah]));(try (simp only [FB]));first|done|rfl|omega))⟩)
 ·have hdn:s.data.toList.drop i=[]:=List.drop_eq_nil_of_le (by simp;omega)
  rw [hdn,List.all_nil] at hR
  simp only [↓wR,RA,simprocAttr,TF,h]
  unfold I5
  rw [hR]
  rw [bc];refine ⟨fun h1=>?_,fun h1=>?_⟩
  ·simp only [↓wR,RA,simprocAttr,TF,h1]
   congr 1
   rw [Bool.eq_iff_iff];simp;omega
  ·simp only [↓wR,RA,simprocAttr,TF,h1]
   congr 1
   rw [Bool.eq_iff_iff];simp;omega
noncomputable def Pw (x:ByteArray × Unit):Option AV:=if x.1.size≤16777216 then some ((r1 bo).E true (I5 x.1)) else none
set_option maxRecDepth 2000000 in
theorem amf (x:ByteArray × Unit) (r:AV) (h:Pw x=some r):br PP 92 ((aC ak a0).E x) r:=by
 by_cases hc:x.1.size≤16777216
 case neg=>simp only [Pw,if_neg hc] at h;cases h
 simp only [Pw,if_pos hc] at h
 cases h
 exact bb (an.nil PP) Tryz.func92 (by kernel_rfl) (by kernel_rfl) (by kernel_rfl) (Nat.le_of_ble_eq_true (by kernel_rfl)) (r1 bo) true (I5 x.1) (ase x.1 hc)
noncomputable abbrev auc:Nat × Bool × (List AV→M AV):=(92,true,dh (aC ak a0) Pw)
def gz {α:Type} (f : α→Nat) (l:List α):Nat:=l.foldr (fun x k=>f x+k+1) 0
def A7 (d:bq):Nat:=gz b7 d.names+d.nums.length+gz ByteArray.size d.texts+d.raw.length
theorem E8 {α:Type} {f : α→Nat} {l:List α} {x : α} (h:x ∈ l):f x<gz f l:=by
 induction l with
 |nil=>cases h
 |cons a l ih=>
  simp only [gz,List.foldr_cons] at ih ⊢
  rcases List.mem_cons.1 h with rfl|h
  ·omega
  ·have:=ih h;omega
theorem B3 {α:Type} (f : α→Nat) (l:List α):l.length≤gz f l:=by
 induction l with
 |nil=>exact Nat.le_refl _
 |cons a l ih=>simp only [gz,List.foldr_cons,List.length_cons] at ih ⊢;omega
def de (d:bq):Prop:=A7 d≤16777216
instance (d:bq):Decidable (de d):=inferInstanceAs (Decidable (_≤_))
theorem de.name {d:bq} (h:de d):∀ n ∈ d.names,cp n:=fun n hn=>by
 have h1:b7 n<gz b7 d.names:=E8 hn
 unfold de A7 at h;unfold cp;omega
theorem de.text {d:bq} (h:de d):∀ s ∈ d.texts,s.size≤16777216:=fun s hs=>by
 have h1:ByteArray.size s<gz ByteArray.size d.texts:=E8 hs
 unfold de A7 at h;omega
theorem de.lens {d:bq} (h:de d):d.names.length≤16777216∧d.nums.length≤16777216∧d.texts.length≤16777216∧d.raw.length≤16777216:=by
 have h1:=B3 b7 d.names
 have h2:=B3 ByteArray.size d.texts
 unfold de A7 at h;omega
noncomputable def K1 (s:Shape):Int:=IntKind.u32.wrap (1 * 2 ^ (if (8 * s.size).toNat≤32 then (8 * s.size).toNat else 32))
noncomputable def z7 (s:Shape) (t:UInt16) (d:bq):Bool:=
 if (d.names.length:Int)≠s.names∨(d.nums.length:Int)≠s.nums∨(0≤s.raw∧(d.raw.length:Int)≠s.raw) then false
 else if s.size<4∧(d.nums.any fun n=>decide (K1 s≤(n.toNat:Int)))=true then false
 else if (t.toNat:Int)=257 then decide (d.texts.length=2) && I5 (d.texts.headD ⟨#[]⟩)
 else if s.texts=0 then decide (d.texts.length=0)
 else decide (0<d.texts.length) && !(d.texts.any fun x=>decide (255<x.size))
noncomputable def Q4 (s:Shape) (t:UInt16) (d:bq):Bool:=
 if s.size<4∧(d.nums.any fun n=>decide (K1 s≤(n.toNat:Int)))=true then false
 else if (t.toNat:Int)=257 then decide (d.texts.length=2) && I5 (d.texts.headD ⟨#[]⟩)
 else if s.texts=0 then decide (d.texts.length=0)
 else decide (0<d.texts.length) && !(d.texts.any fun x=>decide (255<x.size))
theorem ap9 (s:Shape) (t:UInt16) (d:bq) (hs : 0≤s.size∧s.size≤4) (hd:de d):wl PP [auc] 0 (Tryz.f74.body.getD .skip) (dv PP Tryz.f74.results.toList (fun r st=>(r1 bo).get true st.h r=some (z7 s t d))) (b9 0 [sx.val false s,cw.val false t,aq.val false d]) (bj []):=by
 unfold Tryz.f74
 obtain ⟨l1,l2,l3,l4⟩:=hd.lens
 simp only [Df,ky,dy]
 simp only [↓wR,RA,simprocAttr,TF]
 rw [dr];refine ⟨fun ⟨h,e⟩=>?_,fun ⟨h,e⟩=>?_⟩
 ·have hv:z7 s t d=false:=if_pos (.inl e)
  simp only [↓wR,RA,simprocAttr,TF,h,hv]
 simp only [↓wR,RA,simprocAttr,TF,h]
 rw [dr];refine ⟨fun ⟨h2,e2⟩=>?_,fun ⟨h2,e2⟩=>?_⟩
 ·have hv:z7 s t d=false:=if_pos (.inr (.inl e2))
  simp only [↓wR,RA,simprocAttr,TF,h2,hv]
 simp only [↓wR,RA,simprocAttr,TF,h2]
 have hraw:¬ (0≤s.raw∧(d.raw.length:Int)≠s.raw)→z7 s t d=Q4 s t d:=fun hr=>if_neg (fun h=>by
  rcases h with h|h|h
  ·exact h e
  ·exact h e2
  ·exact hr h)
 rw [bc];refine ⟨fun h3=>?_,fun h3=>?_⟩
 simp only [↓wR,RA,simprocAttr,TF,h3]
 rw [dr];refine ⟨fun ⟨h4,e4⟩=>?_,fun ⟨h4,e4⟩=>?_⟩
 have hv:z7 s t d=false:=if_pos (.inr (.inr ⟨h3,e4⟩))
 simp only [↓wR,RA,simprocAttr,TF,h4,hv]
 rw [hraw (fun q=>q.2 e4)]
 simp only [↓wR,RA,simprocAttr,TF,h4]
 rotate_left
 rw [hraw (fun q=>h3 q.1)]
 simp only [↓wR,RA,simprocAttr,TF,h3]
 all_goals
  clear hraw
  refine cq [1,3,5,37,38,39] (fun (i:Nat)=>[.sc (.int .u16 t.toNat),.ptr 0 0,.ptr 1 0,.vl false 1 (d.nums.map (c0.val false)),.sc (.int .i64 d.nums.length),.sc (.int .i64 i)]) (fun _=>[some (.row [.sc (.int .i64 s.names),.sc (.int .i64 s.nums),.sc (.int .i64 s.size),.sc (.int .i64 s.texts),.sc (.int .i64 s.raw)] 0 2 118),some (.row [.vl false 1 (d.names.map (aw.val false)),.vl false 1 (d.nums.map (c0.val false)),.vl false 1 (d.texts.map (ak.val false)),.vl false 1 (d.raw.map (bu.val false))] 0 2 71)]) (fun i=>i≤d.nums.length∧(s.size<4→(d.nums.any fun n=>decide (K1 s≤(n.toNat:Int)))=((d.nums.drop i).any fun n=>decide (K1 s≤(n.toNat:Int))))) (fun i=>d.nums.length - i) 0 ⟨Nat.zero_le _,fun _=>rfl⟩ (by simp only [↓wR,RA,simprocAttr,TF]<;>rfl) (by simp only [↓wR,RA,simprocAttr,TF]<;>rfl) ?_
  clear h h2 e e2
  rintro i ⟨hi,hR⟩
  simp only [↓wR,RA,simprocAttr,TF]
  rw [bc];refine ⟨fun h=>?_,fun h=>?_⟩
  ·obtain ⟨c,hc,hd1,hlt⟩:=ek (decide_eq_true h)
   rw [hd1,List.any_cons] at hR
   simp only [↓wR,RA,simprocAttr,TF,h,hc]
   rw [bc];refine ⟨fun h5=>?_,fun h5=>?_⟩
   ·have hR:=hR h5
    have h80:(0:Int)≤8 * s.size:=by omega
    simp only [↓wR,RA,simprocAttr,TF,h5,h80];repeat (simp (disch:=omega) only [ah,be,bf,bd,bg];try simp only [↓wR,RA,simprocAttr,TF,h5,h80])
    rw [bc];refine ⟨fun h6=>?_,fun h6=>?_⟩
    ·have hv:Q4 s t d=false:=by
      rw [Q4,if_pos ⟨h5,by rw [hR,decide_eq_true (show K1 s≤(c.toNat:Int) from h6)];rfl⟩]
     simp only [↓wR,RA,simprocAttr,TF,h6,hv]
    ·simp only [↓wR,RA,simprocAttr,TF,h6];repeat (simp (disch:=omega) only [ah,be,bf,bd,bg];try simp only [↓wR,RA,simprocAttr,TF,h6])
     refine ⟨i+1,⟨hlt,fun _=>?_⟩,by omega,by (first|rfl|trivial|omega|((try (simp (disch:=omega) only [ah]));(try (simp only [FB]));first|done|rfl|omega))⟩
     rw [hR,decide_eq_false (show ¬ K1 s≤(c.toNat:Int) from h6),Bool.false_or]
   ·simp only [↓wR,RA,simprocAttr,TF,h5];repeat (simp (disch:=omega) only [ah,be,bf,bd,bg];try simp only [↓wR,RA,simprocAttr,TF,h5])
    exact ⟨i+1,⟨hlt,fun h=>h.elim⟩,by omega,by (first|rfl|trivial|omega|((try (simp (disch:=omega) only [ah]));(try (simp only [FB]));first|done|rfl|omega))⟩
  ·rw [ig (decide_eq_false h),List.any_nil] at hR
   have hr:Q4 s t d=if (t.toNat:Int)=257 then decide (d.texts.length=2) && I5 (d.texts.headD ⟨#[]⟩) else if s.texts=0 then decide (d.texts.length=0) else decide (0<d.texts.length) && !(d.texts.any fun x=>decide (255<x.size)):=by
    rw [Q4,if_neg];rintro ⟨q1,q2⟩;rw [hR q1] at q2;cases q2
   simp only [↓wR,RA,simprocAttr,TF,h]
   rw [di];refine ⟨fun ⟨h6,e6⟩=>?_,fun ⟨h6,e6⟩=>?_⟩
   ·rw [if_pos e6] at hr
    simp only [↓wR,RA,simprocAttr,TF,h6]
    rw [di];refine ⟨fun ⟨h7,e7⟩=>?_,fun ⟨h7,e7⟩=>?_⟩
    ·obtain ⟨c,hc⟩:∃ c,d.texts[0]? = some c:=⟨_,List.getElem?_eq_getElem (by omega)⟩
     have hh:d.texts.headD ⟨#[]⟩=c:=by
      cases ht:d.texts with
      |nil=>rw [ht] at hc;cases hc
      |cons a l=>rw [ht] at hc;simpa using hc
     rw [hh,decide_eq_true (show d.texts.length=2 by omega)] at hr
     simp only [↓wR,RA,simprocAttr,TF,h7,hc,Pw,hd.text c (List.mem_of_getElem? hc)]
     rw [hr];rfl
    ·simp only [↓wR,RA,simprocAttr,TF,h7]
     rw [hr,decide_eq_false (show ¬ d.texts.length=2 by omega)];rfl
   ·rw [if_neg e6] at hr
    simp only [↓wR,RA,simprocAttr,TF,h6]
    rw [di];refine ⟨fun ⟨h7,e7⟩=>?_,fun ⟨h7,e7⟩=>?_⟩
    ·rw [if_pos e7] at hr
     simp only [↓wR,RA,simprocAttr,TF,h7]
     rw [hr];congr 1
     rw [Bool.eq_iff_iff];simp
    ·rw [if_neg e7] at hr
     simp only [↓wR,RA,simprocAttr,TF,h7]
     rw [bc];refine ⟨fun h8=>?_,fun h8=>?_⟩
     ·simp only [↓wR,RA,simprocAttr,TF,h8]
      refine bn (T:=[]) (an.nil PP) mixed Tryz.func93 rfl (by kernel_rfl) (by kernel_rfl) (by kernel_rfl) (by kernel_rfl) ?_;unfold Tryz.f93
      simp only [↓wR,RA,simprocAttr,TF]
      refine bn (T:=[]) (an.nil PP) mixed Tryz.func105 rfl (by kernel_rfl) (by kernel_rfl) (by kernel_rfl) (by kernel_rfl) ?_;unfold Tryz.f105
      simp only [↓wR,RA,simprocAttr,TF]
      refine cq [0,1,7,8] (fun (i:Nat)=>[.vl false 1 (d.texts.map (ak.val false)),.sc (.func (.func 94) #[] #[]),.sc (.int .i64 d.texts.length),.sc (.int .i64 i)]) (fun _=>[some (.row [.sc (.int .i64 s.names),.sc (.int .i64 s.nums),.sc (.int .i64 s.size),.sc (.int .i64 s.texts),.sc (.int .i64 s.raw)] 0 2 118),some (.row [.vl false 1 (d.names.map (aw.val false)),.vl false 1 (d.nums.map (c0.val false)),.vl false 1 (d.texts.map (ak.val false)),.vl false 1 (d.raw.map (bu.val false))] 0 2 71)]) (fun i=>i≤d.texts.length∧(d.texts.any fun x=>decide (255<x.size))=((d.texts.drop i).any fun x=>decide (255<x.size))) (fun i=>d.texts.length - i) 0 ⟨Nat.zero_le _,rfl⟩ (by simp only [↓wR,RA,simprocAttr,TF]<;>rfl) (by simp only [↓wR,RA,simprocAttr,TF]<;>rfl) ?_
      rintro k ⟨hk,hK⟩
      simp only [↓wR,RA,simprocAttr,TF]
      rw [bc];refine ⟨fun h9=>?_,fun h9=>?_⟩
      ·obtain ⟨c,hc,hd1,hlt⟩:=ek (decide_eq_true h9)
       rw [hd1,List.any_cons] at hK
       simp only [↓wR,RA,simprocAttr,TF,h9,hc];repeat (simp (disch:=omega) only [ah,be,bf,bd,bg];try simp only [↓wR,RA,simprocAttr,TF,h9,hc])
       refine bn (T:=[]) (an.nil PP) mixed Tryz.func94 rfl (by kernel_rfl) (by kernel_rfl) (by kernel_rfl) (by kernel_rfl) ?_;unfold Tryz.f94
       simp only [↓wR,RA,simprocAttr,TF]
       rw [bc];refine ⟨fun h10=>?_,fun h10=>?_⟩
       ·simp only [↓wR,RA,simprocAttr,TF,h10]
        rw [hr,hK,decide_eq_true (show 0<d.texts.length by omega),decide_eq_true (show 255<c.size by omega)];rfl
       ·simp only [↓wR,RA,simprocAttr,TF,h10];repeat (simp (disch:=omega) only [ah,be,bf,bd,bg];try simp only [↓wR,RA,simprocAttr,TF,h10])
        refine ⟨k+1,⟨hlt,?_⟩,by omega,by (first|rfl|trivial|omega|((try (simp (disch:=omega) only [ah]));(try (simp only [FB]));first|done|rfl|omega))⟩
        rw [hK,decide_eq_false (show ¬ 255<c.size by omega),Bool.false_or]
      ·rw [ig (decide_eq_false h9),List.any_nil] at hK
       simp only [↓wR,RA,simprocAttr,TF,h9]
       rw [hr,hK,decide_eq_true (show 0<d.texts.length by omega)];rfl
     ·simp only [↓wR,RA,simprocAttr,TF,h8]
      rw [hr,decide_eq_false (show ¬ 0<d.texts.length by omega)];rfl
theorem Rh (t:UInt16) : 0≤(n5 t).size∧(n5 t).size≤4:=by
 unfold n5
 repeat' split
 all_goals simp
noncomputable def J0 (x:Shape × UInt16 × bq × Unit):Option AV:=if (0≤x.1.size∧x.1.size≤4)∧de x.2.2.1 then some ((r1 bo).E true (z7 x.1 x.2.1 x.2.2.1)) else none
set_option maxRecDepth 2000000 in
theorem ag2 (x:Shape × UInt16 × bq × Unit) (r:AV) (h:J0 x=some r):br PP 74 ((aC sx (aC cw (aC aq a0))).E x) r:=by
 by_cases hc:(0≤x.1.size∧x.1.size≤4)∧de x.2.2.1
 case neg=>simp only [J0,if_neg hc] at h;cases h
 simp only [J0,if_pos hc] at h
 cases h
 exact bb (an.cons (ar amf) (an.nil PP)) Tryz.func74 (by kernel_rfl) (by kernel_rfl) (by kernel_rfl) (Nat.le_of_ble_eq_true (by kernel_rfl)) (r1 bo) true (z7 x.1 x.2.1 x.2.2.1) (ap9 x.1 x.2.1 x.2.2.1 hc.1 hc.2)
noncomputable abbrev atf:Nat × Bool × (List AV→M AV):=(74,true,dh (aC sx (aC cw (aC aq a0))) J0)
theorem aex {α:Type} {l:List (List α)} {i:Nat} {c:List α} (h:l[i]? = some c):(l.drop i).flatten=c++(l.drop (i+1)).flatten:=by rw [Fc h];rfl
theorem aqf {α:Type} {l:List (List α)} {c:List α} (h:c ∈ l):c.length≤l.flatten.length:=by
 induction l with
 |nil=>cases h
 |cons a l ih=>
  simp only [List.flatten_cons,List.length_append]
  rcases List.mem_cons.1 h with rfl|h
  ·omega
  ·have:=ih h;omega
theorem ajy (l:List (List UInt8)) (hl:l.length≤16777216) (hf:l.flatten.length≤134217728):wl PP [] 0 (Tryz.f97.body.getD .skip) (dv PP Tryz.f97.results.toList (fun r st=>(r1 (cj bu)).get true st.h r=some l.flatten)) (b9 0 [(cj (cj bu)).val false l]) (bj []):=by
 unfold Tryz.f97
 rw [pz]
 simp only [↓wR,RA,simprocAttr,TF]
 refine cq [0,3,9,10,11] (fun (x:Nat × Nat)=>[.vl false 1 (l.map ((cj bu).val false)),.sc (.int .i64 x.2),.vl false 1 (l.map ((cj bu).val false)),.sc (.int .i64 l.length),.sc (.int .i64 x.1)]) (fun _=>[]) (fun x=>x.1≤l.length∧x.2+(l.drop x.1).flatten.length=l.flatten.length) (fun x=>l.length - x.1) (0,0) ⟨Nat.zero_le _,by simp⟩ (by simp only [↓wR,RA,simprocAttr,TF]<;>rfl) (by simp only [↓wR,RA,simprocAttr,TF]<;>rfl) ?_
 rintro ⟨i,k⟩ ⟨hi,hk⟩
 simp only at hi hk
 simp only [↓wR,RA,simprocAttr,TF]
 rw [bc];refine ⟨fun h=>?_,fun h=>?_⟩
 ·obtain ⟨c,hc,hd1,hlt⟩:=ek (decide_eq_true h)
  rw [aex hc,List.length_append] at hk
  simp only [↓wR,RA,simprocAttr,TF,h,hc];repeat (simp (disch:=omega) only [ah,be,bf,bd,bg];try simp only [↓wR,RA,simprocAttr,TF,h,hc])
  rw [bc];refine ⟨fun h1=>?_,fun h1=>?_⟩
  ·exfalso;omega
  ·simp only [↓wR,RA,simprocAttr,TF,h1];repeat (simp (disch:=omega) only [ah,be,bf,bd,bg];try simp only [↓wR,RA,simprocAttr,TF,h1])
   exact ⟨(i+1,k+c.length),⟨hlt,by show k+c.length+(l.drop (i+1)).flatten.length=_;omega⟩,by simp;omega,by simp⟩
 ·rw [ig (decide_eq_false h)] at hk
  have hk:k=l.flatten.length:=by simpa using hk
  subst hk
  simp only [↓wR,RA,simprocAttr,TF,h]
  refine bn (T:=[]) (an.nil PP) mixed Tryz.func106 rfl (by kernel_rfl) (by kernel_rfl) (by kernel_rfl) (by kernel_rfl) ?_;unfold Tryz.f106
  simp only [↓wR,RA,simprocAttr,TF]
  rw [bc];refine ⟨fun h1=>?_,fun h1=>?_⟩
  ·exfalso;omega
  simp only [↓wR,RA,simprocAttr,TF,h1];repeat (simp (disch:=omega) only [ah,be,bf,bd,bg];try simp only [↓wR,RA,simprocAttr,TF,h1])
  rw [bc];refine ⟨fun h2=>?_,fun h2=>?_⟩
  ·have hpos : 0<l.flatten.length:=by omega
   simp only [↓wR,RA,simprocAttr,TF,h2,hpos];repeat (simp (disch:=omega) only [ah,be,bf,bd,bg];try simp only [↓wR,RA,simprocAttr,TF,h2,hpos])
   refine cq [25,26,27,6] (fun (x:Nat × Nat × List UInt8)=>[.vl false 1 (l.map ((cj bu).val false)),.sc (.int .i64 l.length),.sc (.int .i64 x.1),.sl 0 0 x.2.1 1]) (fun x=>[some (.row (x.2.2.map (bu.val false)) 0 0 5)]) (fun x=>x.1≤l.length∧(x.2.1=x.2.2.length∨x.2.1=0)∧x.2.2.take x.2.1++(l.drop x.1).flatten=l.flatten) (fun x=>l.length - x.1) (0,0,List.replicate l.flatten.length 0) ⟨Nat.zero_le _,.inr rfl,rfl⟩ (by simp only [↓wR,RA,simprocAttr,TF]<;>rfl) (by simp only [↓wR,RA,simprocAttr,TF]<;>rfl) ?_
   rintro ⟨k,m,r⟩ ⟨hk1,hk0,hk3⟩
   simp only at hk1 hk0 hk3
   have hk2:m≤r.length:=by omega
   simp only [↓wR,RA,simprocAttr,TF]
   rw [bc];refine ⟨fun h3=>?_,fun h3=>?_⟩
   ·obtain ⟨c,hc,hd1,hlt⟩:=ek (decide_eq_true h3)
    rw [aex hc] at hk3
    have hm:m+c.length≤134217728:=by
     have:=congrArg List.length hk3
     simp only [List.length_append,List.length_take] at this
     omega
    simp only [↓wR,RA,simprocAttr,TF,h3,hc,hk2];repeat (simp (disch:=omega) only [ah,be,bf,bd,bg];try simp only [↓wR,RA,simprocAttr,TF,h3,hc,hk2])
    have hl1:(r.take m++c).length=m+c.length:=by simp [Nat.min_eq_left hk2]
    refine ⟨(k+1,m+c.length,r.take m++c),⟨hlt,.inl hl1.symm,?_⟩,by simp;omega,by simp,by simp⟩
    show (r.take m++c).take (m+c.length)++_=_
    rw [List.take_of_length_le (Nat.le_of_eq hl1),List.append_assoc]
    exact hk3
   ·rw [ig (decide_eq_false h3)] at hk3
    have hmr:m=r.length:=by
     have:=congrArg List.length hk3
     simp only [List.length_append,List.length_take,List.flatten_nil,List.length_nil] at this
     omega
    subst hmr
    have hr:r=l.flatten:=by simpa using hk3
    subst hr
    simp only [↓wR,RA,simprocAttr,TF,h3,hk2];repeat (simp (disch:=omega) only [ah,be,bf,bd,bg];try simp only [↓wR,RA,simprocAttr,TF,h3,hk2])
  ·have hnil:l.flatten=[]:=List.eq_nil_of_length_eq_zero (by omega)
   simp only [↓wR,RA,simprocAttr,TF,h2];repeat (simp (disch:=omega) only [ah,be,bf,bd,bg];try simp only [↓wR,RA,simprocAttr,TF,h2])
   refine cq [25,26,27,6] (fun (x:Nat)=>[.vl false 1 (l.map ((cj bu).val false)),.sc (.int .i64 l.length),.sc (.int .i64 x),.sc (.slice none 0 0)]) (fun _=>[]) (fun x=>x≤l.length) (fun x=>l.length - x) 0 (Nat.zero_le _) (by simp only [↓wR,RA,simprocAttr,TF]<;>rfl) (by simp only [↓wR,RA,simprocAttr,TF]<;>rfl) ?_
   intro k hk1
   simp only [↓wR,RA,simprocAttr,TF]
   rw [bc];refine ⟨fun h3=>?_,fun h3=>?_⟩
   ·obtain ⟨c,hc,hd1,hlt⟩:=ek (decide_eq_true h3)
    have hc0:c=[]:=List.eq_nil_of_length_eq_zero (by have:=aqf (List.mem_of_getElem? hc);rw [hnil] at this;simpa using this)
    subst hc0
    simp only [↓wR,RA,simprocAttr,TF,h3,hc];repeat (simp (disch:=omega) only [ah,be,bf,bd,bg];try simp only [↓wR,RA,simprocAttr,TF,h3,hc])
    refine ⟨k+1,hlt,?_⟩
    first|(refine ⟨by simp;omega,?_⟩;simp)|(simp;omega)
   ·simp only [↓wR,RA,simprocAttr,TF,h3];repeat (simp (disch:=omega) only [ah,be,bf,bd,bg];try simp only [↓wR,RA,simprocAttr,TF,h3])
    rw [hnil]
noncomputable def zx (x:List (List UInt8) × Unit):Option AV:=if x.1.length≤16777216∧x.1.flatten.length≤134217728 then some ((r1 (cj bu)).E true (x.1.flatten)) else none
set_option maxRecDepth 2000000 in
theorem aa8 (x:List (List UInt8) × Unit) (r:AV) (h:zx x=some r):br PP 97 ((aC (cj (cj bu)) a0).E x) r:=by
 by_cases hc:x.1.length≤16777216∧x.1.flatten.length≤134217728
 case neg=>simp only [zx,if_neg hc] at h;cases h
 simp only [zx,if_pos hc] at h
 cases h
 exact bb (an.nil PP) Tryz.func97 (by kernel_rfl) (by kernel_rfl) (by kernel_rfl) (Nat.le_of_ble_eq_true (by kernel_rfl)) (r1 (cj bu)) true (x.1.flatten) (ajy x.1 hc.1 hc.2)
noncomputable abbrev aq1:Nat × Bool × (List AV→M AV):=(97,true,dh (aC (cj (cj bu)) a0) zx)
end Go.Proofs.YtldcaajoheeipaaGreat
end
