/- A piece of the proof. Proved: where the arguments are together of bulk at most 1048576, the law SetBack returns true (the records of a set make it again), and what it was given reads afterwards as it did before. No other conditions. -/
import Derived.WalkKit
import Derived.CallsIn
import Derived.RangeFuncIn
import Derived.RangeFuncLeaves
import Derived.Orders
import Derived.OrdersIn
import Derived.Scope
import Derived.RangeFuncOwn
import Derived.Stop.SameAnswer
import Derived.Laws.Externs
import Derived.Lib.Bytealg
import Derived.ProofKit
import Derived.OpenShut
import Derived.ReadAgain
import Derived.Deep.Slices
import Derived.ChangeSame
import Derived.Test.YtldcaajoheeipaaProg
import Derived.KernelRfl
import Derived.Test.YtldcaajoheeipaaRows
import Derived.Maps.RangeRun
import Derived.JoinedCond
import Derived.Test.YtldcaajoheeipaaB1
set_option linter.unusedSimpArgs false
set_option linter.unusedVariables false
namespace Go.Vm
noncomputable section
structure yz (w w':World):Prop where
 size:w.heap.size≤w'.heap.size
 heap:∀ b,b<w.heap.size→w'.heap[b]? = w.heap[b]?
 os:w'.os=w.os
 tape:w'.tape=w.tape
 output:w'.output=w.output
def acu (K:Nat→Nat→Prop) (w w':World):Nat→Nat→Prop:=fun b j=>K b j∨(w.heap.size≤b∧b<w'.heap.size)
def aah (P:Program) (f:Nat) (vs:List Value) (w:World) (X:Value→World→Prop):Prop:=
 (∃ v,(callFunc f vs.toArray).run P w = .ok (.value v) w∧X v w) ∨
 ((callFunc f vs.toArray).run P w = .ok (.enter f vs.toArray) w∧Calls P f vs.toArray w (fun e w'=>∃ v,e = .returned v∧X v w'))
def ca (P:Program) (f:Nat) (args:List AV) (r:AV):Prop:=
 ∀ (K:Nat→Nat→Prop) (w:World) (vs:List Value),(∀ b j,K b j→b<w.heap.size)→az (gK w.heap.size K) w args vs →
  aah P f vs w (fun v w'=>yz w w'∧Rel (gK w.heap.size (acu K w w')) w' r v)
theorem Oe {P:Program} {g w nt} {L:SL} {tmps:Array Value} {st:St} (hok:Ok g st.h w) (hs:cx g w nt L tmps):∀ (rs:List ResultVar) (l:List AV),nq P L st rs=some l →
 ∃ vs,(rs.mapM (sg tmps)).run P w = .ok vs w∧az g w l vs:=by
 intro rs
 induction rs with
 |nil=>intro l h;simp [nq] at h;subst h;exact ⟨[],by simp,az.nil _ _⟩
 |cons r rs ih=>
  intro l h
  cases r with
  |tmp t=>
   simp only [nq,Option.map_eq_some_iff] at h
   obtain ⟨l',h1,rfl⟩:=h
   obtain ⟨vs,h2,h3⟩:=ih l' h1
   refine ⟨tmps.getD t undef::vs,?_,az.cons (hs.2 t) h3⟩
   simp only [List.mapM_cons,Sem.run_bind,sg,Sem.run_pure,Result.andThen_ok,h2]
  |cell c t=>
   simp only [nq] at h
   split at h
   ·rename_i v st' hl
    rw [Option.map_eq_some_iff] at h
    obtain ⟨l',h1,rfl⟩:=h
    obtain ⟨vs,h2,h3⟩:=ih l' h1
    have hrel:=hs.2 c
    have hptr:∃ ad,tmps.getD c undef = .pointer (some ad):=by
     generalize lk L c=x at hrel hl
     generalize tmps.getD c undef=v at hrel
     cases hrel<;>first|exact ⟨_,rfl⟩|cases hl
    obtain ⟨ad,had⟩:=hptr
    obtain ⟨u,h4,h5⟩:=acq (P:=P) hok hrel hl had
    refine ⟨u::vs,?_,az.cons h5 h3⟩
    have h6:(sg tmps (.cell c t)).run P w = .ok u w:=by simp [sg,had,asAddr,h4]
    simp only [List.mapM_cons,Sem.run_bind,h6,Result.andThen_ok,h2]
    rfl
   ·cases h
theorem Oo {P:Program} {g w} {fn:Func} {tmps:Array Value} {l:List AV} {vs:List Value} (h:(fn.results.toList.mapM (sg tmps)).run P w = .ok vs w) (q4:az g w l vs) :
 ∃ v,(results fn tmps).run P w = .ok v w∧Rel g w (pack l) v:=by
 have hmap:(fn.results.mapM (sg tmps)).run P w = .ok vs.toArray w:=by
  rw [Array.mapM_eq_mapM_toList]
  simp [h]
 rw [abi]
 simp only [Sem.run_bind,hmap,Result.andThen_ok,Sem.run_pure]
 refine ⟨_,rfl,?_⟩
 match l,vs,q4 with
 | [a1],[v1],q4=>simpa [pack] using q4.head
 | [],[],q4=>simp [pack];exact .fm _ _ rfl (fun i a v h _=>by simp at h)
 |a1::a2::l,v1::v2::vs,q4=>
  simp [pack]
  exact .fm _ _ (by have:=q4.1;simp at this ⊢;omega) (fun i a v h1 h2=>q4.2 i a v h1 (by simpa using h2))
 | [],v::vs,q4=>have:=q4.1;simp at this
 |a::l,[],q4=>have:=q4.1;simp at this
 | [a1],v1::v2::vs,q4=>have:=q4.1;simp at this
 |a1::a2::l,[v1],q4=>have:=q4.1;simp at this
theorem Pa {P:Program} {T:cw} (hT:ar P T) (hm:P.follows .mixedOrders=true) {f:Nat} {fn:Func} {body:Code} (hf:P.funcs[f]? = some fn) (hb:fn.body=some body) (he:j5 P f=true) (hs:cr fn.ntmps body=true)
 {args:List AV} (hl:args.length≤fn.ntmps) {ρ:Type} (R:RC ρ) (fr:Bool) (x : ρ)
 (h:wl P T 0 body (er P fn.results.toList (fun r st=>R.get fr st.h r=some x)) (cg 0 args) (bh [])):ca P f args (R.E fr x):=by
 intro K w vs hK hrel
 refine .inr ⟨py he _ _,uc (ro:=none) (n:=0) (callsIn_of_wp_marks hf hb trivial ?_)⟩
 let B:ee:={ b0:=w.heap.size,w,K,O:=fun _=>False,ak:=0,pb:=fun _=>none,n0:=w.heap.size }
 have hcur:dz B (gK w.heap.size K) (bh []) w:=by
  refine ⟨⟨Nat.le_refl _,fun o x hx=>?_,fun o o' x x' b base base' _ hx=>?_,hK⟩,fun o _ _=>rfl,⟨rfl,(fun o ho=>(by rcases ho with ho|ho;cases ho;exact ho.elim)),fun _ _ h=>h,fun _ _ _=>rfl,Nat.le_refl _,rfl,rfl,rfl,fun _ _ _=>rfl,fun o b base ho=>?_,fun _ _ h=>.inl h,fun b cs e fr h=>⟨cs,fr,h,rfl⟩,fun b l h=>⟨l,h⟩⟩,Nat.zero_le _⟩
  ·simp [bh,nr,Tr.get_nil] at hx
  ·simp [bh,nr,Tr.get_nil] at hx
  ·simp [bh,nr,Tr.get_nil] at ho
 refine wpIn_mono (akk hT hm (N:=0) (B:=B) (nt:=fn.ntmps) (fun _ h=>h) (by show (0:Nat)≤1000;omega) (Nat.le_refl _) body hs _ _ _ (gK w.heap.size K) w _ h hcur (u1 hrel hl) (Marks.nil _ _ _ _)) ?_
 rintro ex a w' ⟨e,L,st,g,rfl,hq,hc,hr,hd⟩
 have fin:Hl (nq P L st fn.results.toList) (fun r st=>R.get fr st.h r=some x) st→bodyPostM (ed none) 0 P fn (fun e w'=>∃ v,e = .returned v∧yz w w'∧Rel (gK w.heap.size (acu K w w')) w' (R.E fr x) v) .ret a w':=by
  intro hq
  show LeavesInM (ed none) 0 P fn a.tmps _ a.defers .returning w'
  unfold Hl at hq
  cases hres:nq P L st fn.results.toList with
  |none=>rw [hres] at hq;exact hq.elim
  |some l=>
   rw [hres] at hq
   have hbs:=hc.base
   obtain ⟨bs,e1,e2,e3⟩:=hd
   rw [e1]
   refine Cb (Good:=fun u=>Ok g st.h u∧yz w u∧(∀ a v,Rel g w' a v→Rel g u a v)∧u.heap.size=w'.heap.size) (S:=fun b=>w.heap.size≤b∧dx g st.h b) ?_ ?_ bs w'
    ⟨hc.ok,⟨hbs.size,fun b hlt=>hbs.frame b hlt (fun h=>h),hbs.os,hbs.tape,hbs.output⟩,fun _ _ h=>h,rfl⟩ e2 (fun b hb=>⟨⟨(e3 b hb).1,(e3 b hb).2.2⟩,(e3 b hb).2.1⟩)
   ·rintro u b ⟨g1,g2,g3,g4⟩ ⟨hb1,hb2⟩ hb3
    have hput:=Ok.B4 (ds':=none) g1 hb3 hb2
    exact ⟨hput.1,⟨by rw [mg];exact g2.size,fun c hc=>(eb u _ (by omega)).trans (g2.heap c hc),g2.os,g2.tape,g2.output⟩,fun a v h=>hput.2 a v (g3 a v h),by rw [mg];exact g4⟩
   ·rintro u ⟨g1,g2,g3,g4⟩
    obtain ⟨us,h1,h2⟩:=Oe (P:=P) g1 ⟨hr.1,fun t=>g3 _ _ (hr.2 t)⟩ fn.results.toList l hres
    obtain ⟨v,h3,h4⟩:=Oo h1 h2
    refine ⟨v,h3,v,rfl,g2,?_⟩
    refine R.ok g1 ⟨fun b j hk=>?_,fun o cells k s e ho b base hi j hj=>?_⟩ (fun _=>?_) h4 hq
    ·rcases hbs.l5 b j hk with h5|h5|h5
     ·exact .inl h5
     ·exact .inr ⟨h5,g1.K b j hk⟩
     ·exact h5.elim
    ·obtain ⟨b',base',h5,_,h6⟩:=g1.obj o _ ho
     rw [hi] at h5;cases h5
     rcases hbs.own o b base (by rw [ho];rfl) hi with h7|h7
     ·exact .inr ⟨h7,h6.lt⟩
     ·exact h7.elim
    ·rw [hbs.b0];exact Nat.le_refl _
 cases e with
 |normal=>exact fin hq
 |ret=>exact fin hq
 |exit id=>exact hq.elim
theorem Rel.lift {b0 K g w a v} (h:Rel (gK b0 K) w a v) (hb:g.b0≤b0) (hK:∀ b j,K b j→g.K b j):Rel g w a v:=by
 have hno:∀ o p,(gK b0 K).inj o≠some p:=fun o p e=>by cases e
 generalize hg:gK b0 K=g0 at h hno
 have hK':∀ b j,g0.K b j→g.K b j:=by subst hg;exact hK
 have hb':g.b0≤g0.b0:=by subst hg;exact hb
 clear hg
 induction h with
 |sc x=>exact .sc x
 |agg l vs hs _ ih=>exact .agg l vs hs ih
 |fm l vs hs _ ih=>exact .fm l vs hs ih
 |vl loc sz es b off cap c hsz hl hcap h _ ih=>exact .vl loc sz es b off cap c hsz (fun e=>Nat.le_trans hb' (hl e)) hcap (fun j a hj=>⟨hK' _ _ (h j a hj).1,(h j a hj).2⟩) ih
 |jv loc sz=>exact .jv loc sz
 |ry loc sz a=>exact .ry loc sz a
 |sl o off len sz b base cap hi hc hm hr=>exact (hno _ _ hi).elim
 |se o off sz a=>exact .se o off sz a
 |s7 o off sz=>exact .s7 o off sz
 |ez a=>exact .ez a
 |ptr o off b base hi=>exact (hno _ _ hi).elim
 |fv l b off c h _ ih=>exact .fv l b off c (fun j a hj=>⟨hK' _ _ (h j a hj).1,(h j a hj).2⟩) ih
 |fn f first captured va vb hs _ hs' _ ih ih'=>exact .fn f first captured va vb hs ih hs' ih'
 |mp o b base hi=>exact (hno _ _ hi).elim
 |ow t a v _ ih=>exact .ow t a v ih
 |yl o b base hi=>exact (hno _ _ hi).elim
 |bad v=>exact .bad v
theorem zg {l:List AV} (h:AV.fresh.go l=true):∀ a ∈ l,a.fresh=true:=by
 induction l with
 |nil=>intro a ha;cases ha
 |cons x l ih=>
  simp only [AV.fresh.go,Bool.and_eq_true] at h
  intro a ha
  rcases List.mem_cons.1 ha with rfl|ha
  ·exact h.1
  ·exact ih h.2 a ha
theorem Y3 {a:AV} (h:a.fresh=true):∀ c ∈ a.cells,c.fresh=true:=by
 cases a with
 |agg l=>exact zg h
 |sc v=>intro c hc;simp only [AV.cells,List.mem_map] at hc;obtain ⟨x,_,rfl⟩:=hc;rfl
 |_=>intro c hc;simp only [AV.cells,List.mem_singleton] at hc;subst hc;exact h
theorem Rel.fresh {b0 K g w a v} (h:Rel (gK b0 K) w a v) (hf:a.fresh=true) (hb:g.b0≤b0) (hK:∀ b j,K b j→b0≤b→g.K b j):Rel g w a v:=by
 generalize hg:gK b0 K=g0 at h
 have hK':∀ b j,g0.K b j→g0.b0≤b→g.K b j:=by subst hg;exact hK
 have hb':g.b0≤g0.b0:=by subst hg;exact hb
 clear hg hb hK
 induction h with
 |sc x=>exact .sc x
 |agg l vs hs _ ih=>exact .agg l vs hs (fun i a v ha hv=>ih i a v ha hv (zg hf a (List.mem_of_getElem? ha)))
 |fm l vs hs _ ih=>exact .fm l vs hs (fun i a v ha hv=>ih i a v ha hv (zg hf a (List.mem_of_getElem? ha)))
 |vl loc sz es b off cap c hsz hl hcap h _ ih=>
  simp only [AV.fresh,Bool.and_eq_true] at hf
  have hbb:=hl hf.1
  refine .vl loc sz es b off cap c hsz (fun e=>Nat.le_trans hb' hbb) hcap (fun j a hj=>⟨hK' _ _ (h j a hj).1 hbb,(h j a hj).2⟩) (fun j a hj=>ih j a hj ?_)
  obtain ⟨e,he,hc⟩:=List.mem_flatMap.1 (List.mem_of_getElem? hj)
  exact Y3 (zg hf.2 e he) a hc
 |jv loc sz=>exact .jv loc sz
 |ry loc sz a=>exact .ry loc sz a
 |sl o off len sz b base cap hi hc hm hr=>cases hf
 |se o off sz a=>cases hf
 |s7 o off sz=>cases hf
 |ez a=>exact .ez a
 |ptr o off b base hi=>cases hf
 |fv l b off c h _ ih=>cases hf
 |fn f first captured va vb hs _ hs' _ ih ih'=>
  simp only [AV.fresh,Bool.and_eq_true] at hf
  exact .fn f first captured va vb hs (fun i a v ha hv=>ih i a v ha hv (zg hf.1 a (List.mem_of_getElem? ha))) hs' (fun i a v ha hv=>ih' i a v ha hv (zg hf.2 a (List.mem_of_getElem? ha)))
 |mp o b base hi=>cases hf
 |ow t a v _ ih=>exact .ow t a v (ih hf)
 |yl o b base hi=>cases hf
 |bad v=>cases hf
def Gh.more (g:Gh) (w w':World):Gh:={ g with K:=acu g.K w w' }
theorem Ls {g h w w'} {lo hi:Nat} (hok:Ok g h w) (q:yz w w'):Step g h w lo hi (g.more w w') h w'∧Ok (g.more w w') h w':=by
 have hext:Ext g w (g.more w w') w':=by
  refine ⟨rfl,fun _ _ h=>h,fun _ _ h=>.inl h,fun b j hj=>pr (q.heap b (hok.K b j hj)),fun b cs e fr hb=>⟨cs,fr,(q.heap b (bg hb)).trans hb,rfl⟩,fun b l hb=>⟨l,(q.heap b (bg hb)).trans hb⟩⟩
 refine ⟨⟨hext,q.size,q.os,q.tape,q.output,fun b hb _=>q.heap b hb,fun _ h _=>h,fun o b base ho hi=>.inr ⟨o,base,ho,hi⟩,fun b j hk=>?_⟩,⟨Nat.le_trans hok.size q.size,fun o x hx=>?_,hok.sep,fun b j hk=>?_⟩⟩
 ·rcases hk with hk|hk
  ·exact .inl hk
  ·exact .inr (.inl hk.1)
 ·refine (hok.kn o x hx).imp id ?_
  rintro ⟨b,base,h1,h2,h3⟩
  refine ⟨b,base,h1,h2,h3.ext hext (q.heap b h3.lt) (fun j hk=>?_)⟩
  rcases hk with hk|hk
  ·exact hk
  ·have:=h3.lt;omega
 ·rcases hk with hk|hk
  ·exact Nat.lt_of_lt_of_le (hok.K b j hk) q.size
  ·exact hk.2
noncomputable def dw {α:Type} (A:AC α) (F : α→Option AV) (args:List AV):M AV:=fun st=>
 match A.get .nil args with
 |some x=>(F x).map fun r=>(r,st)
 |none=>
  match A.get st.h args with
  |some x=>
   match F x with
   |some r=>bif r.fresh then some (r,st) else none
   |none=>none
  |none=>none
theorem ay {P:Program} {f:Nat} {α:Type} {A:AC α} {F : α→Option AV} (h:∀ x r,F x=some r→ca P f (A.E x) r) (args:List AV):u5 P f args (dw A F args):=by
 intro g st w vs r st' hok hfree hrel hm
 have go:∀ (X:Value→World→Prop),aah P f vs w X→(∀ v w',X v w'→yz w w'∧Rel (g.more w w') w' r v)→st'=st →
  (∃ v w' g',(callFunc f vs.toArray).run P w = .ok (.value v) w'∧Step g st.h w st.nx st'.nx g' st'.h w'∧Ok g' st'.h w'∧Rel g' w' r v) ∨
  ((callFunc f vs.toArray).run P w = .ok (.enter f vs.toArray) w∧Calls P f vs.toArray w (fun e w'=>∃ v g',e = .returned v∧Step g st.h w st.nx st'.nx g' st'.h w'∧Ok g' st'.h w'∧Rel g' w' r v)):=by
  intro X hx hX e
  subst e
  rcases hx with ⟨v,h1,h2⟩|⟨h1,h2⟩
  ·obtain ⟨q,hr⟩:=hX v w h2
   have:=Ls (lo:=st'.nx) (hi:=st'.nx) hok q
   exact .inl ⟨v,w,_,h1,this.1,this.2,hr⟩
  ·refine .inr ⟨h1,h2.mono ?_⟩
   rintro e w' ⟨v,rfl,h3⟩
   obtain ⟨q,hr⟩:=hX v w' h3
   have:=Ls (lo:=st'.nx) (hi:=st'.nx) hok q
   exact ⟨v,_,rfl,this.1,this.2,hr⟩
 unfold dw at hm
 cases h1:A.get .nil args with
 |some x=>
  rw [h1] at hm
  simp only [Option.map_eq_some_iff] at hm
  obtain ⟨r',h2,h3⟩:=hm
  cases h3
  have hargs:=A.ok (b0:=w.heap.size) (hok.part (hm:=.nil) (fun o x hx=>by rw [Tr.get_nil] at hx;cases hx)) (tn.nil g g.K (fun _ _ h=>h)) hrel h1
  refine go _ (h x r h2 g.K w vs hok.K hargs) (fun v w' hv=>⟨hv.1,hv.2.lift hok.size (fun b j hk=>hk)⟩) rfl
 |none=>
  rw [h1] at hm
  simp only at hm
  cases h2:A.get st.h args with
  |none=>rw [h2] at hm;cases hm
  |some x=>
   rw [h2] at hm
   simp only at hm
   cases h3:F x with
   |none=>rw [h3] at hm;cases hm
   |some r'=>
    rw [h3] at hm
    simp only at hm
    cases h4:r'.fresh with
    |false=>rw [h4] at hm;cases hm
    |true=>
     rw [h4] at hm
     cases hm
     have hargs:=A.ok (b0:=w.heap.size) (K:=fun b _=>b<w.heap.size) hok ⟨fun b j hk=>hok.K b j hk,fun o cells k s e ho b base hi j hj=>by
      obtain ⟨b',base',h5,_,h6⟩:=hok.obj o _ ho
      rw [hi] at h5;cases h5
      exact h6.lt⟩ hrel h2
     refine go _ (h x r h3 (fun b _=>b<w.heap.size) w vs (fun _ _ h=>h) hargs) (fun v w' hv=>⟨hv.1,hv.2.fresh h4 hok.size (fun b j hk hle=>?_)⟩) rfl
     rcases hk with hk|hk
     ·omega
     ·exact .inr hk
theorem ar.nil (P:Program):ar P []:=fun f b m h=>by cases h
theorem ar.cons {P:Program} {f:Nat} {b:Bool} {m:List AV→M AV} {T:cw} (h:∀ args,u5 P f args (m args)) (hT:ar P T):ar P ((f,b,m)::T):=by
 intro f' b' m' hf args
 simp only [cw.find] at hf
 by_cases e:f=f'
 ·subst e
  simp only [Nat.beq_refl,cond_true,Option.some.injEq] at hf
  cases hf
  exact h args
 ·rw [ka e,cond_false] at hf
  exact hT f' b' m' hf args
def abr (g:Gh) (st:St) (w:World):ee:={ fi g st.h w st.nx (fun _=>False) with n0:=w.heap.size }
theorem dz.ofC {g st w} (hok:Ok g st.h w) (hfr:∀ o,st.nx≤o→g.inj o=none):dz (abr g st w) g st w:=
 ⟨hok,fun o h1 _=>hfr o h1,⟨rfl,fun _o _ho=>rfl,fun _ _ h=>h,fun _ _ _=>rfl,Nat.le_refl _,rfl,rfl,rfl,fun _ _ _=>rfl,fun o _b base ho hi=>.inr (.inr ⟨o,base,ho,hi⟩),fun _ _ h=>.inl h,
  fun _b cs _e fr h=>⟨cs,fr,h,rfl⟩,fun _b l h=>⟨l,h⟩⟩,Nat.le_refl _⟩
theorem dz.aou {g st w g' st' w'} (h:dz (abr g st w) g' st' w') (hfr:∀ o,st.nx≤o→g.inj o=none):Step g st.h w st.nx st'.nx g' st'.h w':=by
 have b:=h.base
 have pins:∀ o,o<st.nx→g'.inj o=g.inj o:=fun o ho=>b.pins o (.inl ho)
 refine ⟨⟨b.b0,fun o p hp=>?_,b.K,b.cell,b.jl,b.lp⟩,b.size,b.os,b.tape,b.output,fun c hc hn=>b.frame c hc (fun hO=>?_),fun o ho hr=>?_,fun o c base ho hi=>?_,fun c j hk=>?_⟩
 ·by_cases h1:st.nx≤o
  ·rw [hfr o h1] at hp;cases hp
  ·rw [pins o (by omega)];exact hp
 ·rcases hO with hO|⟨o,base,h1,h2⟩
  ·exact hO
  ·exact hn o base h1 h2
 ·by_cases h1:o<st.nx
  ·rw [pins o h1];exact ho
  ·exact h.fresh o (by omega) (fun hf=>hf)
 ·rcases b.own o c base ho hi with h1|h1|h1
  ·exact .inl h1
  ·exact h1.elim
  ·exact .inr h1
 ·rcases b.l5 c j hk with h1|h1|h1|h1
  ·exact .inl h1
  ·exact .inr (.inl h1)
  ·exact h1.elim
  ·exact .inr (.inr h1)
theorem c8 {P:Program} {T:cw} (hT:ar P T) (hm:P.follows .mixedOrders=true) {f:Nat} {fn:Func} {body:Code} (hf:P.funcs[f]? = some fn) (hb:fn.body=some body) (he:j5 P f=true) (hs:cr fn.ntmps body=true)
 {args:List AV} (hl:Nat.ble args.length fn.ntmps=true) {st:St} (hp:Nat.ble st.nx 1000=true) {R:AV→St→Prop}
 (h:wl P T st.nx body (er P fn.results.toList R) (cg 0 args) st):fo P f args st R:=by
 intro g w vs hok hfr hrel
 refine .inr ⟨py he _ _,uc (ro:=none) (n:=0) (callsIn_of_wp_marks hf hb trivial ?_)⟩
 have hcur:=dz.ofC (w:=w) hok hfr
 refine wpIn_mono (akk hT hm (N:=0) (B:=abr g st w) (nt:=fn.ntmps) (fun _ h=>h) (Nat.le_of_ble_eq_true hp) (Nat.le_refl _) body hs _ _ _ g w _ h hcur (u1 hrel (Nat.le_of_ble_eq_true hl)) (Marks.nil _ _ _ _)) ?_
 rintro ex a w' ⟨e,L,st',g',rfl,hq,hc,hr,hd⟩
 have fin:Hl (nq P L st' fn.results.toList) R st'→bodyPostM (ed none) 0 P fn (fun e w'=>∃ v g' r st',e = .returned v∧R r st'∧st.nx≤st'.nx∧Step g st.h w st.nx st'.nx g' st'.h w'∧Ok g' st'.h w'∧Rel g' w' r v) .ret a w':=by
  intro hq
  show LeavesInM (ed none) 0 P fn a.tmps _ a.defers .returning w'
  unfold Hl at hq
  cases hres:nq P L st' fn.results.toList with
  |none=>rw [hres] at hq;exact hq.elim
  |some l=>
   rw [hres] at hq
   obtain ⟨bs,e1,e2,e3⟩:=hd
   rw [e1]
   refine Cb (Good:=fun u=>Ok g' st'.h u∧Step g st.h w st.nx st'.nx g' st'.h u∧(∀ a v,Rel g' w' a v→Rel g' u a v)) (S:=fun b=>w.heap.size≤b∧dx g' st'.h b) ?_ ?_ bs w'
    ⟨hc.ok,hc.aou hfr,fun _ _ h=>h⟩ e2 (fun b hb=>⟨⟨(e3 b hb).1,(e3 b hb).2.2⟩,(e3 b hb).2.1⟩)
   ·rintro u b ⟨g1,g2,g3⟩ ⟨hb1,hb2⟩ hb3
    have hput:=Ok.B4 (ds':=none) g1 hb3 hb2
    exact ⟨hput.1,Step.Uf (ds':=none) hok g2 hb1,fun a v h=>hput.2 a v (g3 a v h)⟩
   ·rintro u ⟨g1,g2,g3⟩
    obtain ⟨us,h1,h2⟩:=Oe (P:=P) g1 ⟨hr.1,fun t=>g3 _ _ (hr.2 t)⟩ fn.results.toList l hres
    obtain ⟨v,h3,h4⟩:=Oo h1 h2
    exact ⟨v,h3,v,g',_,st',rfl,hq,hc.ak,g2,g1,h4⟩
 cases e with
 |normal=>exact fin hq
 |ret=>exact fin hq
 |exit id=>exact hq.elim
end
end Go.Vm
namespace Go.Vm
noncomputable section
section code
variable (P : Program) (T : cw) (ak : Nat) (Q : QL) (L : SL) (st : St)
theorem aal:wl P T ak .skip Q L st=Q .normal L st:=id rfl
theorem Qy (i ops d):wl P T ak (.region i ops d) Q L st=zh P T ops d (Q .normal) L st:=id rfl
theorem afu (a b):wl P T ak (.seq a b) Q L st=wl P T ak a (Vt (wl P T ak b) Q) L st:=id rfl
theorem aat (c a b):wl P T ak (.cond c a b) Q L st=ri (bf L c) (wl P T ak a Q) (wl P T ak b Q) L st:=id rfl
theorem Ug (i b):wl P T ak (.block i b) Q L st=wl P T ak b (Kt i Q) L st:=id rfl
theorem aar (b):wl P T ak (.loop b) Q L st=px ak (wl P T ak b) Q L st:=id rfl
theorem aan (i):wl P T ak (.exit i) Q L st=Q (.exit i) L st:=id rfl
theorem afc:wl P T ak .ret Q L st=Q .ret L st:=id rfl
theorem agu (W):Vt W Q .normal L st=W Q L st:=id rfl
theorem ag1 (W i):Vt W Q (.exit i) L st=Q (.exit i) L st:=id rfl
theorem ah1 (W):Vt W Q .ret L st=Q .ret L st:=id rfl
theorem ae9 (i):Kt i Q .normal L st=Q .normal L st:=id rfl
theorem ags (i):Kt i Q .ret L st=Q .ret L st:=id rfl
theorem aeg (i j):Kt i Q (.exit j) L st=bif Nat.beq j i then Q .normal L st else Q (.exit j) L st:=id rfl
theorem Zj (keep X):v9 ak keep X Q .normal L st=X (dg ak keep L st) (ey ak keep L st):=id rfl
theorem Z6 (keep X i):v9 ak keep X Q (.exit i) L st=Q (.exit i) L st:=id rfl
theorem Z8 (keep X):v9 ak keep X Q .ret L st=Q .ret L st:=id rfl
theorem ahr (rs R):er P rs R .normal L st=Hl (nq P L st rs) R st:=id rfl
theorem agi (rs R):er P rs R .ret L st=Hl (nq P L st rs) R st:=id rfl
theorem Se (ops K):zh P T ops false K L st=opsL P T ops ops.toList K L st:=id rfl
theorem Uo (ops K):opsL P T ops [] K L st=K L st:=id rfl
theorem Re (ops o r K):opsL P T ops (o::r) K L st=tu ops o.guard (Wr P T o (opsL P T ops r K)) (C6 o.dst (opsL P T ops r K)) L st:=id rfl
theorem Uh (ops K recs):zp P T ops [] K recs L st=(cy (Region.before ops) 0 recs=true∧K L st):=id rfl
theorem Ry (ops o r K recs):zp P T ops (o::r) K recs L st=tu ops o.guard (dr P T o recs (zp P T ops r K)) (C6 o.dst (zp P T ops r K (recs++[⟨[],[]⟩]))) L st:=id rfl
theorem M3 (ops X Y):tu ops none X Y L st=X L st:=id rfl
theorem Mw (ops j c X Y):tu ops (some (j,c)) X Y L st=zq (lk L (qz ops j)) c X Y L st:=id rfl
theorem T7 (b:Bool) (X Y:SL→St→Prop):zq (.sc (.bool b)) true X Y L st=ri (.sc (.bool b)) X Y L st:=by cases b<;>simp [zq,zb,Av,Ef,ri,oe,AV.bool,AV.exact,mu]
theorem Ue (b:Bool) (X Y:SL→St→Prop):zq (.sc (.bool b)) false X Y L st=ri (.sc (.bool b)) Y X L st:=by cases b<;>simp [zq,zb,Av,Ef,ri,oe,AV.bool,AV.exact,mu]
theorem U3 (c:Bool) (X Y:SL→St→Prop):zq (.sc undef) c X Y L st=Y L st:=by simp [zq,zb,Av,Ef,AV.exact,undef]
theorem Zv (o K):Wr P T o K L st=Gc (dh P T o (bf L) st) P o L st K:=id rfl
theorem Un (v o K st'):Gc (some (v,st')) P o L st K=K (fc o.dst v L) st':=id rfl
theorem Wd (K d r):ff K d L r st=K (fc d r L) st:=id rfl
theorem Ww (ro F o recs K v au):Ak ro F o recs K L st (some (v,au))=((Bo st.nx F=true∧Nat.ble au.nx bo=true)∧same (ij st.h F) au.h (bif ro then F else []) ∧
 K (recs++[⟨F,(bif ro then [] else F)++cq st.nx (au.nx - st.nx)⟩]) (fc o.dst v L) { h:=mz au.h (F++cq st.nx (au.nx - st.nx)) st.h,nx:=au.nx,rl:=[],wl:=[] }):=id rfl
theorem Qd (d K):C6 d K L st=K (fc d (.sc undef) L) st:=id rfl
theorem ew (b X Y):ri (.sc (.bool b)) X Y L st=((b=true→X L st)∧(b=false→Y L st)):=id rfl
theorem Cm (X Y):ri (.sc (.bool true)) X Y L st=X L st:=by simp [ri,oe,AV.bool,AV.exact,mu]
theorem C2 (X Y):ri (.sc (.bool false)) X Y L st=Y L st:=by simp [ri,oe,AV.bool,AV.exact,mu]
theorem Qc (v d K):Cg (some (v,st)) d L K=K (fc d v L) st:=id rfl
theorem P7 (d v):fc (some d) v L=(d,v)::L:=id rfl
theorem Pp (v):fc none v L=L:=id rfl
theorem aew (l R):Hl (some l) R st=R (pack l) st:=id rfl
theorem ae2 (d v):lk ((d,v)::L) d=v:=by simp [lk]
theorem aam (d t v) (h:(d == t)=false):lk ((d,v)::L) t=lk L t:=by
 have e:d≠t:=by simpa using h
 rw [kx,if_neg e]
theorem akl (t):bf L (.tmp t)=lk L t:=id rfl
theorem aki (v):bf L (.const v) = .sc v:=id rfl
theorem ako (f):bf L (.func f) = .sc (.func (.func f) #[] #[]):=id rfl
theorem aem:nq P L st []=some []:=id rfl
theorem agw (t r):nq P L st (.tmp t::r)=(nq P L st r).map (lk L t :: ·):=id rfl
theorem ae5 (a t r):nq P L st (.cell a t::r)=match gi P t (lk L a) st with|some (v,_)=>(nq P L st r).map (v :: ·)|none=>none:=id rfl
end code
section ops
variable (P : Program) (T : cw) (ρ : Operand → AV) (d : Option Tmp) (ty : TypeId) (pos : String) (af : Array Edge) (gd : Option (Nat × Bool))
theorem Dx (x):dh P T ⟨d,.move x,ty,pos,af,gd⟩ ρ=mono (M.pure (ρ x)):=id rfl
theorem z6 (x):dh P T ⟨d,.assign x,ty,pos,af,gd⟩ ρ=mono (M.pure (ρ x)):=id rfl
theorem Dt (t a):dh P T ⟨d,.load t a,ty,pos,af,gd⟩ ρ=mono (gi P t (ρ a)):=id rfl
theorem vt (s x f):dh P T ⟨d,.fieldAddr s x f,ty,pos,af,gd⟩ ρ=mono (i4 P s (ρ x) f):=id rfl
theorem Jb (op t x y u):dh P T ⟨d,.binOp op t x y u,ty,pos,af,gd⟩ ρ=mono (tp P ρ ⟨d,.binOp op t x y u,ty,pos,af,gd⟩ op t x y):=id rfl
theorem Dw (c a b):dh P T ⟨d,.pick c a b,ty,pos,af,gd⟩ ρ=mono (qg (ρ c) (ρ a) (ρ b)):=id rfl
theorem Bz (t a x):dh P T ⟨d,.store t a x,ty,pos,af,gd⟩ ρ=mono (mo P t (ρ a) (ρ x)):=id rfl
theorem Fa (t i):dh P T ⟨d,.extract t i,ty,pos,af,gd⟩ ρ=mono (l0 (ρ t) i):=id rfl
theorem vm (t x i):dh P T ⟨d,.indexAddr t x i,ty,pos,af,gd⟩ ρ=mono (i7 P t (ρ x) (ρ i)):=id rfl
theorem w6 (x):dh P T ⟨d,.nilCheck x,ty,pos,af,gd⟩ ρ=mono (jx (ρ x)):=id rfl
theorem Jp (t):dh P T ⟨d,.alloc t,ty,pos,af,gd⟩ ρ=mono (n7 P t):=id rfl
theorem Rz (t x):dh P T ⟨d,.box t x,ty,pos,af,gd⟩ ρ=mono (tr t (ρ x)):=id rfl
theorem Bx (t ps):dh P T ⟨d,.build t ps,ty,pos,af,gd⟩ ρ=mono (nh P t (ps.toList.map fun p=>(p.1,ρ p.2))):=id rfl
theorem tz (t n ps):dh P T ⟨d,.buildSlice t n ps,ty,pos,af,gd⟩ ρ=mono (gh P t n (ps.toList.map fun p=>(p.1,ρ p.2))):=id rfl
theorem Es (t r):dh P T ⟨d,.makeMap t r,ty,pos,af,gd⟩ ρ=mono (po r):=id rfl
theorem Co (f a b):dh P T ⟨d,.makeFunc f a b,ty,pos,af,gd⟩ ρ=mono (M.pure (.fn f (a.toList.map ρ) (b.toList.map ρ))):=id rfl
theorem Er (s u x):dh P T ⟨d,.convert s u x,ty,pos,af,gd⟩ ρ=mono (l6 P ρ ⟨d,.convert s u x,ty,pos,af,gd⟩ s u (ρ x)):=id rfl
theorem It (s x f):dh P T ⟨d,.field s x f,ty,pos,af,gd⟩ ρ=mono (pf P s (ρ x) f):=id rfl
theorem Jq (t x i):dh P T ⟨d,.index t x i,ty,pos,af,gd⟩ ρ=mono (pk P ρ ⟨d,.index t x i,ty,pos,af,gd⟩ t x i):=id rfl
theorem Jt (t x l h m):dh P T ⟨d,.slice t x l h m,ty,pos,af,gd⟩ ρ=mono (n9 P ρ ⟨d,.slice t x l h m,ty,pos,af,gd⟩ t x l h m):=id rfl
theorem He (t x i ok):dh P T ⟨d,.lookup t x i ok,ty,pos,af,gd⟩ ρ=mono (nl P t (ρ x) (ρ i) ok):=id rfl
theorem A6 (t m k x):dh P T ⟨d,.mapUpdate t m k x,ty,pos,af,gd⟩ ρ=mono (ji P t (ρ m) (ρ k) (ρ x)):=id rfl
theorem Hn (x ts):dh P T ⟨d,.call { callee:=.builtin .len,args:=#[x],argTypes:=ts },ty,pos,af,gd⟩ ρ=mono (oa ((ts[0]?).bind P.underlying) (ρ x)):=id rfl
theorem Ab (s x ts):dh P T ⟨d,.call { callee:=.builtin .append,args:=#[s,x],argTypes:=ts },ty,pos,af,gd⟩ ρ=mono (ki P ts[0]? ((ts[1]?).bind P.underlying) (ρ s) (ρ x)):=id rfl
theorem Mj (f args ts):dh P T ⟨d,.call { callee:=.value f,args,argTypes:=ts },ty,pos,af,gd⟩ ρ=qb T (ρ f) (args.toList.map ρ):=id rfl
end ops
section monad
variable {α β : Type} (s : St)
theorem akd (m:M α):mono m s=match m s with|none=>none|some (a,s')=>bif decide (s.nx≤s'.nx) then some (a,s') else none:=by
 have:∀ a b,Nat.ble a b=decide (a≤b):=fun a b=>by rw [Bool.eq_iff_iff];simp
 unfold mono
 cases m s with
 |none=>rfl
 |some p=>simp only [this]
theorem akp (m:M α) (f : α→M β):(m.bind f) s=match m s with|none=>none|some (a,s')=>f a s':=id rfl
theorem akj (a : α):(M.pure a) s=some (a,s):=id rfl
theorem aj3:(M.fail:M α) s=none:=id rfl
theorem ake (a : α):(M.of (some a)) s=some (a,s):=id rfl
theorem akr (b:Bool) (m m':M α):(bif b then m else m') s=bif b then m s else m' s:=by cases b<;>rfl
theorem aku (o:Nat):bp o s=match s.h.get o with|some x=>some (x,{ s with rl:=o::s.rl })|none=>none:=id rfl
theorem akt (x:aq):eu x s=bif decide (s.nx≤bo) then some (s.nx,{ s with h:=s.h.set depth s.nx (some x),nx:=s.nx+1,wl:=s.nx::s.wl }) else none:=by
 have:Nat.ble s.nx bo=decide (s.nx≤bo):=by rw [Bool.eq_iff_iff];simp
 unfold eu;rw [this]
theorem akw (o:Nat) (x:aq):fk o x s=match s.h.get o with|some _=>bif decide (o≤bo) then some ((),{ s with h:=s.h.set depth o (some x),wl:=o::s.wl }) else none|none=>none:=by
 have:Nat.ble o bo=decide (o≤bo):=by rw [Bool.eq_iff_iff];simp
 unfold fk;rw [this];rfl
theorem aky (o:Nat):qx o s=match s.h.get o with|some _=>bif decide (o≤bo) then some ((),{ s with h:=s.h.set depth o none,wl:=o::s.wl }) else none|none=>none:=by
 have:Nat.ble o bo=decide (o≤bo):=by rw [Bool.eq_iff_iff];simp
 unfold qx;rw [this];rfl
theorem W4 (t:Tr aq) (n m:Nat) (x:Option aq) (h:n≤16777214):(Tr.set depth t n x).get m=if m=n then x else t.get m:=dj t n m x h
theorem Uj (n:Nat):(Tr.nil:Tr aq).get n=none:=id rfl
theorem anz (a b:Nat):Nat.ble a b=decide (a≤b):=by rw [Bool.eq_iff_iff];simp
theorem ani (a b:Nat):Nat.blt a b=decide (a<b):=by rw [Bool.eq_iff_iff];simp
theorem abp (a b:Nat):Nat.beq a b=decide (a=b):=by rw [Bool.eq_iff_iff];simp
end monad
theorem J4 {a:AV} {x y x' y':Prop} (h1:x→x') (h2:y→y') (h:oe a x y):oe a x' y':=by
 unfold oe at *
 split at h
 ·exact ⟨fun e=>h1 (h.1 e),fun e=>h2 (h.2 e)⟩
 ·exact h.elim
theorem u6 {ops L gd} {x y x' y':Prop} (h1:x→x') (h2:y→y') (h:guarded ops L gd x y):guarded ops L gd x' y':=by
 unfold guarded at *
 split at h
 ·exact h1 h
 ·unfold zb at *
  split at h
  ·exact ⟨fun e=>h1 (h.1 e),fun e=>h2 (h.2 e)⟩
  ·exact h.elim
theorem fo.mono {P f args st} {R R':AV→St→Prop} (h:∀ r st,R r st→R' r st) (hc:fo P f args st R):fo P f args st R':=by
 intro g w vs h1 h2 h3
 rcases hc g w vs h1 h2 h3 with ⟨v,w',g',r,st',q1,q2,q3⟩|⟨q1,q2⟩
 ·exact .inl ⟨v,w',g',r,st',q1,h _ _ q2,q3⟩
 ·refine .inr ⟨q1,q2.mono ?_⟩
  rintro e w' ⟨v,g',r,st',p1,p2,p3⟩
  exact ⟨v,g',r,st',p1,h _ _ p2,p3⟩
theorem aby {P o L st} {K K':SL→St→Prop} (h:∀ L st,K L st→K' L st) (hc:H8 P o L st K):H8 P o L st K':=by
 unfold H8 ac5 at *
 split at hc
 ·split at hc
  ·exact fo.mono (fun r st hk=>h _ _ hk) hc
  ·exact hc.elim
 ·exact hc.elim
theorem Bf {P T ops} {K K':SL→St→Prop} (h:∀ L st,K L st→K' L st):∀ (l:List Oper) (L:SL) (st:St),opsL P T ops l K L st→opsL P T ops l K' L st
 | [],L,st,hh=>h L st hh
 |o::r,L,st,hh=>u6 (fun q=>by
  unfold Wr Gc at *
  split at q
  ·exact Bf h r _ _ q
  ·exact aby (fun L st=>Bf h r L st) q) (fun q=>Bf h r _ _ q) hh
theorem Ar {P T ops} {K K':SL→St→Prop} (h:∀ L st,K L st→K' L st):∀ (l:List Oper) (recs:List Rec) (L:SL) (st:St),zp P T ops l K recs L st→zp P T ops l K' recs L st
 | [],recs,L,st,hh=>⟨hh.1,h L st hh.2⟩
 |o::r,recs,L,st,hh=>u6 (fun q=>by
  unfold dr ic Ak at *
  split at q
  ·exact ⟨q.1,q.2.1,Ar h r _ _ _ q.2.2⟩
  ·exact q.elim) (fun q=>Ar h r _ _ _ q) hh
theorem A7 {P T ops} {K K':SL→St→Prop} (h:∀ L st,K L st→K' L st):∀ (l:List Oper) (recs:List Rec) (L:SL) (st:St),Fx P T ops l K recs L st→Fx P T ops l K' recs L st
 | [],recs,L,st,hh=>⟨hh.1,h L st hh.2⟩
 |o::r,recs,L,st,hh=>u6 (fun q=>Lp (fun _ _ _ k=>A7 h r _ _ _ k) q) (fun q=>A7 h r _ _ _ q) hh
theorem um {P T l ak ops} {R:C4} (hR:∀ p args (X X':Ex→St→Prop) st,(∀ e st,X e st→X' e st)→R p args X st→R p args X' st) {K K':Option Ex→SL→St→Prop} (h:∀ pe L st,K pe L st→K' pe L st) :
 ∀ (ls:List Oper) (pe:Option Ex) (L:SL) (st:St),zu P T l R ak ops ls K pe L st→zu P T l R ak ops ls K' pe L st
 | [],pe,L,st,hh=>h pe L st hh
 |o::r,pe,L,st,hh=>u6 (fun q=>by
  unfold opI Of at *
  split at q
  ·unfold Cg at *
   split at q
   ·exact um hR h r _ _ _ q
   ·exact q.elim
  ·obtain ⟨h0,keep,q⟩:=q
   refine ⟨h0,keep,hR _ _ _ _ _ (fun e st q=>?_) q⟩
   cases e with
   |normal=>exact um hR h r _ _ _ q
   |ret=>exact um hR h r _ _ _ q
   |exit id=>exact um hR h r _ _ _ q) (fun q=>um hR h r _ _ _ q) hh
theorem Vb {P:Program} {T:cw} {l ak:Nat} {R:C4} (hR:∀ p args (X X':Ex→St→Prop) st,(∀ e st,X e st→X' e st)→R p args X st→R p args X' st) :
 ∀ (c:Code) (Q Q':QI),(∀ e pe L st,Q e pe L st→Q' e pe L st)→∀ pe L st,ov P T l R ak c Q pe L st→ov P T l R ak c Q' pe L st:=by
 intro c
 induction c with
 |skip=>intro Q Q' h pe L st hh;exact h _ _ _ _ hh
 |label l=>intro Q Q' h pe L st hh;exact h _ _ _ _ hh
 |exit i=>intro Q Q' h pe L st hh;exact h _ _ _ _ hh
 |ret=>intro Q Q' h pe L st hh;exact h _ _ _ _ hh
 |region i ops draw=>
  intro Q Q' h pe L st hh
  cases draw with
  |false=>exact um hR (h _) _ _ _ _ hh
  |true=>exact ⟨hh.1,hh.2.imp (Ar (h _ _) _ _ _ _) (A7 (h _ _) _ _ _ _)⟩
 |seq a b iha ihb=>
  intro Q Q' h pe L st hh
  refine iha _ _ ?_ pe L st hh
  intro e pe L st q
  cases e with
  |normal=>exact ihb _ _ h pe L st q
  |_=>exact h _ _ _ _ q
 |cond c a b iha ihb=>intro Q Q' h pe L st hh;exact J4 (iha _ _ h pe L st) (ihb _ _ h pe L st) hh
 |block i b ih=>
  intro Q Q' h pe L st hh
  refine ih _ _ ?_ pe L st hh
  intro e pe L st q
  cases e with
  |exit j=>
   simp only [Kf] at *
   cases hb:Nat.beq j i with
   |true=>rw [hb] at q;exact h _ _ _ _ q
   |false=>rw [hb] at q;exact h _ _ _ _ q
  |_=>exact h _ _ _ _ q
 |loop b ih=>
  intro Q Q' h pe L st hh
  obtain ⟨h0,keep,hh⟩:=hh
  refine ⟨h0,keep,fun X hX=>hh X fun vs os q=>hX vs os (ih _ _ ?_ _ _ _ q)⟩
  intro e pe L st q
  cases e with
  |normal=>exact q
  |_=>exact h _ _ _ _ q
 |scope b ih=>intro _ _ _ _ _ _ hh;exact hh.elim
 |rangeFunc=>intro _ _ _ _ _ _ hh;exact hh.elim
 |goto=>intro _ _ _ _ _ _ hh;exact hh.elim
 |refuse=>intro _ _ _ _ _ _ hh;exact hh.elim
theorem ah6 {P:Program} {T:cw}:∀ (c:Code) (ak:Nat) (Q Q':QL),(∀ e L st,Q e L st→Q' e L st)→∀ L st,wl P T ak c Q L st→wl P T ak c Q' L st:=by
 intro c
 induction c with
 |skip=>intro ak Q Q' h L st hh;exact h _ _ _ hh
 |label l=>intro ak Q Q' h L st hh;exact h _ _ _ hh
 |exit i=>intro ak Q Q' h L st hh;exact h _ _ _ hh
 |ret=>intro ak Q Q' h L st hh;exact h _ _ _ hh
 |region i ops draw=>
  intro ak Q Q' h L st hh
  cases draw with
  |false=>exact Bf (h _) _ _ _ hh
  |true=>exact ⟨hh.1,hh.2.imp (Ar (h _) _ _ _ _) (A7 (h _) _ _ _ _)⟩
 |seq a b iha ihb=>
  intro ak Q Q' h L st hh
  refine iha _ _ _ ?_ L st hh
  intro e L st q
  cases e with
  |normal=>exact ihb _ _ _ h L st q
  |_=>exact h _ _ _ q
 |cond c a b iha ihb=>intro ak Q Q' h L st hh;exact J4 (iha _ _ _ h L st) (ihb _ _ _ h L st) hh
 |block i b ih=>
  intro ak Q Q' h L st hh
  refine ih _ _ _ ?_ L st hh
  intro e L st q
  cases e with
  |exit j=>
   simp only [Kt] at *
   cases hb:Nat.beq j i with
   |true=>rw [hb] at q;exact h _ _ _ q
   |false=>rw [hb] at q;exact h _ _ _ q
  |_=>exact h _ _ _ q
 |loop b ih=>
  intro ak Q Q' h L st hh
  obtain ⟨keep,hh⟩:=hh
  refine ⟨keep,fun X hX=>hh X fun vs os q=>hX vs os (ih _ _ _ ?_ _ _ q)⟩
  intro e L st q
  cases e with
  |normal=>exact q
  |_=>exact h _ _ _ q
 |scope b ih=>intro ak Q Q' h L st hh;exact ih _ _ _ h L st hh
 |rangeFunc f ps a b iha ihb=>
  intro ak Q Q' h L st hh
  obtain ⟨keep,h0,hh⟩:=hh
  refine ⟨keep,h0,?_⟩
  unfold Hg at *
  split at hh
  ·unfold F8 at *
   split at hh
   ·refine ⟨hh.1,fun l=>Vb (fun p args X X' st hX hr=>⟨hr.1,hr.2.1,iha _ _ _ (fun e L st q=>(by
     cases e with
     |normal=>exact ihb _ _ _ (fun e _ st q=>hX e st q) _ _ q
     |_=>exact q.elim)) _ _ hr.2.2⟩) _ _ _ (fun e pe L st q=>(by
     cases e with
     |exit id=>exact q.elim
     |normal=>
      cases pe with
      |none=>exact h _ _ _ q
      |some e=>exact h _ _ _ q
     |ret=>
      cases pe with
      |none=>exact h _ _ _ q
      |some e=>exact h _ _ _ q)) _ _ _ (hh.2 l)⟩
   ·exact hh.elim
  ·exact hh.elim
 |goto=>intro _ _ _ _ _ _ hh;exact hh.elim
 |refuse=>intro _ _ _ _ _ _ hh;exact hh.elim
theorem Cz {P:Program} {T:cw} {ak:Nat} (c:Code) (Q Q':QL) (h:∀ e L st,Q e L st→Q' e L st) (L:SL) (st:St) (hh:wl P T ak c Q L st):wl P T ak c Q' L st:=ah6 c ak Q Q' h L st hh
theorem dq {α:Type} {P:Program} {T:cw} {ak:Nat} {b:Code} {Q:QL} {L:SL} {st:St} (keep:List Nat) (V : α→List AV) (O : α→List (Option aq)) (I : α→Prop) (μ : α→Nat) (x : α) (hx:I x)
 (hv:dg ak keep L st=V x) (ho:ey ak keep L st=O x)
 (step:∀ x,I x→wl P T ak b (v9 ak keep (fun vs os=>∃ y,I y ∧ μ y < μ x∧vs=V y∧os=O y) Q) (k8 keep (V x)) (bh (O x))):px ak (wl P T ak b) Q L st:=
 px.of keep V O I μ x hx hv ho (fun _ _ h=>Cz b _ _ h) step
section cods
theorem p7 {α:Type} (C:bq α) (l:Bool) (xs:List α):(b7 C).val l xs = .vl l C.sz (xs.map (C.val l)):=id rfl
theorem Ii {α:Type} (C:bq α):(b7 C).sz=1:=id rfl
theorem Q8:an.sz=1:=id rfl
theorem V1:ba.sz=1:=id rfl
theorem ae7:cp.sz=1:=id rfl
theorem Hj:bz.sz=1:=id rfl
theorem ahl (k:IntKind):(c7 k).sz=1:=id rfl
theorem acg:cd.sz=1:=id rfl
theorem Ao (l:Bool) (x:UInt8):ba.val l x = .sc (.int .u8 x.toNat):=id rfl
theorem N8 (l:Bool) (x:UInt16):cp.val l x = .sc (.int .u16 x.toNat):=id rfl
theorem Mv (l:Bool) (x:UInt32):bz.val l x = .sc (.int .u32 x.toNat):=id rfl
theorem Ny (k:IntKind) (l:Bool) (x:Int):(c7 k).val l x = .sc (.int k x):=id rfl
theorem I0 (l:Bool) (x:Bool):cd.val l x = .sc (.bool x):=id rfl
theorem aav (o i:Nat):idx [] o i=none:=id rfl
theorem W9 {α:Type} (C:bq α) (τ:Nat→Option Nat) (l:Bool):AV.b9 τ ∘ C.val l=C.val l:=by funext x;exact H7 C τ l x
theorem Lb (l:Bool) (x:ByteArray):an.val l x = .sc (.string x):=id rfl
theorem D9 {α:Type} (C:bq α) (fr:Bool) (h:Tr aq) (a:AV) (h1:a.known=true) (h2:a.isAgg=C.agg):C.gj fr h a=C.dec fr h a.cells:=by
 unfold bq.gj;rw [h1,h2];simp
theorem Rs (fr:Bool) (h:Tr aq) (n:UInt32):bz.gj fr h (.sc (.int .u32 n.toNat))=some n:=bz.Ev fr h true n (fun _=>rfl)
theorem Ps (fr:Bool) (h:Tr aq) (n:UInt16):cp.gj fr h (.sc (.int .u16 n.toNat))=some n:=cp.Ev fr h true n (fun _=>rfl)
theorem Nn (k:IntKind) (fr:Bool) (h:Tr aq) (n:Int):(c7 k).gj fr h (.sc (.int k n))=some n:=(c7 k).Ev fr h true n (fun _=>rfl)
theorem Jc (fr:Bool) (h:Tr aq) (b:Bool):cd.gj fr h (.sc (.bool b))=some b:=cd.Ev fr h true b (fun _=>rfl)
theorem K6 (fr:Bool) (h:Tr aq) (s:ByteArray):an.gj fr h (.sc (.string s))=some s:=an.Ev fr h true s (fun _=>rfl)
theorem wk {α:Type} (C:bq α) (fr:Bool) (h:Tr aq) (a:AV) (h1:a.known=true) (h2:a.isAgg=false) (h3:a.cells=[a]):(b7 C).gj fr h a=gn C fr h a:=by
 rw [D9 _ _ _ _ h1 h2,h3];rfl
theorem ak7 {α:Type} (C:bq α) (fr:Bool) (h:Tr aq) (l:Bool) (xs:List α) (hl:(l || !fr)=true):(b7 C).gj fr h (.vl l C.sz (xs.map (C.val l)))=some xs:=by
 refine (b7 C).Ev fr h l xs ?_
 cases fr<;>simp_all
theorem sy {α:Type} (C:bq α) (fr:Bool) (h:Tr aq) (l:Bool) (xs:List α) (n:Nat) (hn:n=C.sz) (hl:(l || !fr)=true):gn C fr h (.vl l n (xs.map (C.val l)))=some xs:=by
 subst hn
 have:(b7 C).gj fr h (.vl l C.sz (xs.map (C.val l)))=some xs:=ak7 C fr h l xs hl
 rwa [wk C fr h _ rfl rfl rfl] at this
theorem aai {α:Type} (C:bq α) (fr:Bool) (h:Tr aq) (o off len n:Nat):gn C fr h (.sl o off len n)=bif decide (n=C.sz) then (h.get o).bind (j7 C fr h off len) else none:=by
 show (bif Nat.beq n C.sz then _ else _)=_
 rw [abp]
theorem aql {α:Type} (C:bq α) (fr:Bool) (h:Tr aq) (n:Nat) (l:List AV):ua C fr h (n+1) l=match C.dec fr h (l.take C.sz),ua C fr h n (l.drop C.sz) with|some x,some xs=>some (x::xs)|_,_=>none:=id rfl
theorem N2 (fr:Bool) (h:Tr aq) (n:Int) (h0 : 0≤n) (h1:n<256):ba.dec fr h [.sc (.int .u8 n)]=some (UInt8.ofNat n.toNat):=by
 show u8V (.int .u8 n)=_;simp [u8V,h0,h1]
theorem anx {α β:Type} (A:bq α) (B:bq β) (l:Bool) (p : α × β):(r2 A B).E l p = .fm [A.val l p.1,B.val l p.2]:=id rfl
theorem ams {α:Type} (A:bq α) (l:Bool) (x : α):(r1 A).E l x=A.val l x:=id rfl
theorem Xa (T:cw) (g:Nat) (a b:Array Value) (args:List AV):qb T (.sc (.func (.func g) a b)) args=ox T g (a.toList.map .sc++args++b.toList.map .sc):=id rfl
theorem Xo (T:cw) (g:Nat) (a b:List AV) (args:List AV):qb T (.fn (.func g) a b) args=ox T g (a++args++b):=id rfl
theorem Rq (f:Nat) (b:Bool) (m:List AV→M AV) (T:cw) (args:List AV):ox ((f,b,m)::T) f args=mono (m args):=by simp [ox,cw.find]
theorem M5 (f g:Nat) (b:Bool) (m:List AV→M AV) (T:cw) (args:List AV) (h:(f == g)=false):ox ((f,b,m)::T) g args=ox T g args:=by
 have:f≠g:=by simpa using h
 simp [ox,cw.find,ka this]
theorem U8 {α:Type} (A:AC α) (F : α→Option AV) (args:List AV) (st:St):dw A F args st=match A.get .nil args with|some x=>(F x).map fun r=>(r,st)|none=>match A.get st.h args with|some x=>(match F x with|some r=>bif r.fresh then some (r,st) else none|none=>none)|none=>none:=id rfl
theorem anr {α β:Type} (A:bq α) (B:bq β) (fr:Bool) (h:Tr aq) (a b:AV):(r2 A B).get fr h (.fm [a,b])=match A.gj fr h a,B.gj fr h b with|some x,some y=>some (x,y)|_,_=>none:=id rfl
theorem amp (h:Tr aq):a0.get h []=some ():=id rfl
theorem an2 {α β:Type} (C:bq α) (R:AC β) (h:Tr aq) (a:AV) (r:List AV):(aC C R).get h (a::r)=match C.gj false h a,R.get h r with|some x,some y=>some (x,y)|_,_=>none:=id rfl
theorem ane {α:Type} (A:bq α) (fr:Bool) (h:Tr aq) (a:AV):(r1 A).get fr h a=A.gj fr h a:=id rfl
end cods
section
variable (P : Program)
theorem Qu (pl:Nat→Option (Nat × Nat)) (cells:List AV):rk pl cells []=some cells:=id rfl
theorem M8 (pl:Nat→Option (Nat × Nat)) (cells:List AV) (i:Nat) (v:AV) (rest:List (Nat × AV)):rk pl cells ((i,v)::rest)=match pl i with
 |none=>none
 |some (off,size)=>bif !v.known || !(Nat.beq v.cells.length size) || !(Nat.ble (off+size) cells.length) then none else rk pl (cells.take off++v.cells++cells.drop (off+size)) rest:=id rfl
def xt (t:TypeId):Option (List AV × List (Nat × Nat)):=
 match dt P t,P.underlying t with
 |some z,some (.struct fields)=>(Df P fields).map fun pl=>(z.cells.toList.map .sc,pl)
 |_,_=>none
theorem M1 (t:TypeId) (ps:List (Nat × AV)):nh P t ps=match xt P t with
 |some (z,pl)=>.of ((rk (fun i=>pl[i]?) z ps).map .agg)
 |none=>nh P t ps:=by
 cases hb:xt P t with
 |none=>rfl
 |some q=>
  obtain ⟨z,pl⟩:=q
  simp only [xt] at hb
  split at hb
  ·rename_i z' fs hz hu
   cases hp:Df P fs with
   |none=>simp [hp] at hb
   |some pl'=>
    simp [hp] at hb
    obtain ⟨rfl,rfl⟩:=hb
    simp [nh,hz,hu,hp]
  ·cases hb
def yk (t:TypeId):Option (TypeId × Nat × List AV):=
 match mi P t with
 |none=>none
 |some e=>
  match cb P e,dt P e with
  |some sz,some z=>bif Nat.beq z.cells.size sz then some (e,sz,z.cells.toList.map .sc) else none
  |_,_=>none
theorem Bg (t:TypeId) (len:Nat) (ps:List (Nat × AV)):gh P t len ps=match yk P t with
 |some (e,sz,z)=>
  match rk (fun i=>some (i * sz,sz)) (List.replicate len z).flatten ps with
  |some cells=>bif Nat.ble (len * sz) 16777216 && Nat.ble len 16777216 then jj e sz len cells else .fail
  |none=>.fail
 |none=>gh P t len ps:=by
 cases hb:yk P t with
 |none=>rfl
 |some q=>
  obtain ⟨e,sz,z⟩:=q
  simp only [yk] at hb
  split at hb
  ·cases hb
  ·rename_i e' he
   split at hb
   ·rename_i sz' z' hs hz
    cases hq:Nat.beq z'.cells.size sz' with
    |false=>simp [hq] at hb
    |true=>
     simp [hq] at hb
     obtain ⟨rfl,rfl,rfl⟩:=hb
     simp only [gh,he,hs,hz,hq,Bool.and_true]
     rfl
   ·cases hb
end
section ranges
variable (P : Program) (T : cw) (l ak : Nat) (R : C4) (Q : QI) (pe : Option Ex) (L : SL) (st : St)
theorem W2 (f:Operand) (ps:Array Tmp) (a b:Code) (Q:QL):wl P T ak (.rangeFunc f ps a b) Q L st=afq P T f ps.toList (fun p=>wl P T p a) (fun p=>wl P T p b) ak Q L st:=id rfl
theorem Ui:ov P T l R ak .skip Q pe L st=Q .normal pe L st:=id rfl
theorem Nc (i:Nat) (ops:Array Oper):ov P T l R ak (.region i ops false) Q pe L st=zu P T l R ak ops ops.toList (Q .normal) pe L st:=id rfl
theorem aae (a b:Code):ov P T l R ak (.seq a b) Q pe L st=ov P T l R ak a (Vl (ov P T l R ak b) Q) pe L st:=id rfl
theorem W7 (c:Operand) (a b:Code):ov P T l R ak (.cond c a b) Q pe L st=Bm (bf L c) (ov P T l R ak a Q) (ov P T l R ak b Q) pe L st:=id rfl
theorem Q3 (i:Nat) (a:Code):ov P T l R ak (.block i a) Q pe L st=ov P T l R ak a (Kf i Q) pe L st:=id rfl
theorem Xu (i:Nat):ov P T l R ak (.exit i) Q pe L st=Q (.exit i) pe L st:=id rfl
theorem abf:ov P T l R ak .ret Q pe L st=Q .ret pe L st:=id rfl
theorem af8 (W:QI→Option Ex→SL→St→Prop):Vl W Q .normal pe L st=W Q pe L st:=id rfl
theorem agm (W:QI→Option Ex→SL→St→Prop) (i:Nat):Vl W Q (.exit i) pe L st=Q (.exit i) pe L st:=id rfl
theorem ahw (W:QI→Option Ex→SL→St→Prop):Vl W Q .ret pe L st=Q .ret pe L st:=id rfl
theorem ahf (i:Nat):Kf i Q .normal pe L st=Q .normal pe L st:=id rfl
theorem af7 (i:Nat):Kf i Q .ret pe L st=Q .ret pe L st:=id rfl
theorem afr (i j:Nat):Kf i Q (.exit j) pe L st=if j=i then Q .normal pe L st else Q (.exit j) pe L st:=by
 show (bif Nat.beq j i then _ else _)=_
 rw [abp];by_cases h:j=i<;>simp [h]
theorem aaw (Q':QL):Ek Q' Q .normal pe L st=(pe=none∧Q' .normal L st):=id rfl
theorem aay (Q':QL) (i:Nat):Ek Q' Q (.exit i) pe L st=Q (.exit i) pe L st:=id rfl
theorem aaf (Q':QL):Ek Q' Q .ret pe L st=Q .ret pe L st:=id rfl
theorem abd (Q:QL) (L0:SL):X8 Q L0 .normal none L st=Q .normal L0 st:=id rfl
theorem aa8 (Q:QL) (L0:SL) (e:Ex):X8 Q L0 .ret (some e) L st=Q e L0 st:=id rfl
theorem Vf (ops:Array Oper) (K:Option Ex→SL→St→Prop):zu P T l R ak ops [] K pe L st=K pe L st:=id rfl
theorem Qg (ops:Array Oper) (o:Oper) (r:List Oper) (K:Option Ex→SL→St→Prop):zu P T l R ak ops (o::r) K pe L st=K2 ops o.guard (opI P T l R ak o (zu P T l R ak ops r K)) (Z2 o.dst (zu P T l R ak ops r K)) pe L st:=id rfl
theorem N7 (ops:Array Oper) (X Y:Option Ex→SL→St→Prop):K2 ops none X Y pe L st=X pe L st:=id rfl
theorem aaj (X Y:Option Ex→SL→St→Prop):Bm (.sc (.bool true)) X Y pe L st=X pe L st:=by simp [Bm,oe,AV.bool,AV.exact,mu]
theorem Zn (X Y:Option Ex→SL→St→Prop):Bm (.sc (.bool false)) X Y pe L st=Y pe L st:=by simp [Bm,oe,AV.bool,AV.exact,mu]
theorem ak0 (b:Bool) (X Y:Option Ex→SL→St→Prop):Bm (.sc (.bool b)) X Y pe L st=((b=true→X pe L st)∧(b=false→Y pe L st)):=by simp [Bm,oe,AV.bool,AV.exact,mu]
theorem afk (o:Oper) (K:Option Ex→SL→St→Prop):opI P T l R ak o K pe L st=Of P T R ak o K pe L st (yieldOf l o L):=id rfl
theorem ael (o:Oper) (K:Option Ex→SL→St→Prop):Of P T R ak o K pe L st none=Cg (dh P T o (bf L) st) o.dst L (K pe):=id rfl
theorem Tv (d:Option Tmp) (K:Option Ex→SL→St→Prop):V9 d L K .normal st=K none (fc d (.sc (.bool true)) L) st:=id rfl
theorem Wf (d:Option Tmp) (K:Option Ex→SL→St→Prop):V9 d L K .ret st=K (some .ret) (fc d (.sc (.bool false)) L) st:=id rfl
theorem Z9 (B:QL→SL→St→Prop) (X:Ex→St→Prop):aj6 B X .normal L st=B (fun e _ st=>X e st) L st:=id rfl
theorem Qn (k:Nat) (va vb:Array Value):wi l (.sc (.func (.yield k) va vb))=(Nat.beq k l && Nat.beq va.size 0 && Nat.beq vb.size 0):=id rfl
theorem Jg:ux [] [] L=L:=id rfl
theorem Fp (t:Nat) (ts:List Nat) (v:AV) (vs:List AV):ux (t::ts) (v::vs) L=ux ts vs ((t,v)::L):=id rfl
theorem ajg {α:Type} {b:Code} (keep:List Nat) (V : α→List AV) (O : α→List (Option aq)) (I : α→Prop) (μ : α→Nat) (x : α) (hx:I x) (hR:∀ p args (X X':Ex→St→Prop) st,(∀ e st,X e st→X' e st)→R p args X st→R p args X' st)
 (hv:dg ak keep L st=V x) (ho:ey ak keep L st=O x)
 (step:∀ x,I x→ov P T l R ak b (Ek (v9 ak keep (fun vs os=>∃ y,I y ∧ μ y < μ x∧vs=V y∧os=O y) (fun _ _ _=>False)) Q) none (k8 keep (V x)) (bh (O x))):ov P T l R ak (.loop b) Q none L st:=
 ⟨rfl,px.of (B:=fun Q' L st=>ov P T l R ak b (Ek Q' Q) none L st) keep V O I μ x hx hv ho (fun Q1 Q2 h L st hh=>Vb hR b _ _ (fun e pe L st q=>by
  cases e with
  |normal=>exact ⟨q.1,h _ _ _ q.2⟩
  |ret=>exact q
  |exit i=>exact q) none L st hh) step⟩
theorem Yv {ps:List Tmp} {a b:Code} {L0:SL}:∀ p args (X X':Ex→St→Prop) st,(∀ e st,X e st→X' e st)→wa ps (fun p=>wl P T p a) (fun p=>wl P T p b) L0 p args X st→wa ps (fun p=>wl P T p a) (fun p=>wl P T p b) L0 p args X' st:=
 fun p args X X' st hX hr=>⟨hr.1,hr.2.1,Cz _ _ _ (fun e L st q=>by
  cases e with
  |normal=>exact Cz _ _ _ (fun e _ st q=>hX e st q) _ _ q
  |_=>exact q.elim) _ _ hr.2.2⟩
end ranges
section yields
variable {lp : Nat} {L : SL} {d : Option Tmp} {ty : TypeId} {pos : String} {af : Array Edge} {gd : Option (Nat × Bool)}
theorem F9 (x):yieldOf lp ⟨d,.move x,ty,pos,af,gd⟩ L=none:=id rfl
theorem Ci (x):yieldOf lp ⟨d,.assign x,ty,pos,af,gd⟩ L=none:=id rfl
theorem G0 (t a):yieldOf lp ⟨d,.load t a,ty,pos,af,gd⟩ L=none:=id rfl
theorem E5 (op t x y u):yieldOf lp ⟨d,.binOp op t x y u,ty,pos,af,gd⟩ L=none:=id rfl
theorem yp (t x i):yieldOf lp ⟨d,.indexAddr t x i,ty,pos,af,gd⟩ L=none:=id rfl
theorem Hd (op t x):yieldOf lp ⟨d,.unOp op t x,ty,pos,af,gd⟩ L=none:=id rfl
theorem I5 (x ts):yieldOf lp ⟨d,.call { callee:=.builtin .len,args:=#[x],argTypes:=ts },ty,pos,af,gd⟩ L=none:=id rfl
theorem Fl (f:Operand) (args:Array Operand) (ts:Array TypeId):yieldOf lp ⟨d,.call { callee:=.value f,args:=args,argTypes:=ts },ty,pos,af,gd⟩ L=bif wi lp (bf L f) then some args else none:=id rfl
end yields
end
end Go.Vm
namespace Go.Vm
noncomputable section
section
variable (P : Program) (ρ : Operand → AV) (d : Option Tmp) (ty : TypeId) (pos : String) (af : Array Edge) (gd : Option (Nat × Bool)) (t u : TypeId) (x y : Operand)
theorem F0 (op:BinOp) (k k':IntKind) (a b:Int) (hx : ρ x = .sc (.int k a)) (hy : ρ y = .sc (.int k' b)) :
 jc P ρ ⟨d,.binOp op t x y u,ty,pos,af,gd⟩ op t (.sc (.int k a)) (.sc (.int k' b))=M.of ((ev P (binOp op t (.int k a) (.int k' b))).map .sc):=by
 have h1:∀ s:Sem Value,ev P (do pure (Next.value (← s)))=(ev P s).map Next.value:=by
  intro s
  induction s with
  |pure b=>rfl
  |program k ih=>exact ih P
  |choose q k ih=>
   simp only [bind,Sem.bind,ev]
   split
   ·exact ih 0
   ·rfl
  |mark m k ih=>exact ih
  |_=>rfl
 have h2:execOp (fun z=>((ρ z).du).getD undef) ⟨d,.binOp op t x y u,ty,pos,af,gd⟩=(do pure (Next.value (← (do eqGuard op t x y (.int k a) (.int k' b);binOp op t (.int k a) (.int k' b))))):=by
  simp only [execOp,hx,hy,AV.du,Option.getD_some]
 have h3:ev P (do eqGuard op t x y (.int k a) (.int k' b);binOp op t (.int k a) (.int k' b))=ev P (binOp op t (.int k a) (.int k' b)):=by
  cases op<;>rfl
 unfold jc nw
 simp only [AV.du,Option.isSome_some,Bool.and_self,cond_true]
 rw [h2,h1,h3]
 cases ev P (binOp op t (.int k a) (.int k' b))<;>rfl
theorem ahu (k k':IntKind) (a b:Int) (h : 0≤b):ev P (binOp .shl t (.int k a) (.int k' b))=some (.int k (k.wrap (a * 2 ^ (min b.toNat k.bits)))):=by
 have:¬ b<0:=by omega
 simp [binOp,Op.shift,this,ug]
theorem af9 (k k':IntKind) (a b:Int) (h : 0≤b):ev P (binOp .shr t (.int k a) (.int k' b))=some (.int k (a.fdiv (2 ^ (min b.toNat k.bits)))):=by
 have:¬ b<0:=by omega
 simp [binOp,Op.shift,this,ug]
theorem wx {d:TypeDesc} (h:P.underlying t=some d):ev P (underlying t)=some d:=by
 rw [underlying]
 show ev P (match P.underlying t with|some d=>pure d|none=>_)=_
 rw [h];rfl
theorem Fm (op:BinOp) (a b:ByteArray) (hx : ρ x = .sc (.string a)) (hy : ρ y = .sc (.string b)) :
 jc P ρ ⟨d,.binOp op t x y u,ty,pos,af,gd⟩ op t (.sc (.string a)) (.sc (.string b))=M.of ((ev P (binOp op t (.string a) (.string b))).map .sc):=by
 have h1:∀ s:Sem Value,ev P (do pure (Next.value (← s)))=(ev P s).map Next.value:=by
  intro s
  induction s with
  |pure b=>rfl
  |program k ih=>exact ih P
  |choose q k ih=>
   simp only [bind,Sem.bind,ev]
   split
   ·exact ih 0
   ·rfl
  |mark m k ih=>exact ih
  |_=>rfl
 have h2:execOp (fun z=>((ρ z).du).getD undef) ⟨d,.binOp op t x y u,ty,pos,af,gd⟩=(do pure (Next.value (← (do eqGuard op t x y (.string a) (.string b);binOp op t (.string a) (.string b))))):=by
  simp only [execOp,hx,hy,AV.du,Option.getD_some]
 have h3:ev P (do eqGuard op t x y (.string a) (.string b);binOp op t (.string a) (.string b))=ev P (binOp op t (.string a) (.string b)):=by
  cases op<;>rfl
 unfold jc nw
 simp only [AV.du,Option.isSome_some,Bool.and_self,cond_true]
 rw [h2,h1,h3]
 cases ev P (binOp op t (.string a) (.string b))<;>rfl
theorem str_eq (a b:ByteArray):(a.toList == b.toList)=decide (a=b):=by
 rw [ByteArray.toList_eq,ByteArray.toList_eq,Bool.eq_iff_iff]
 simp only [beq_iff_eq,decide_eq_true_eq]
 constructor
 ·intro h
  cases a;cases b
  congr 1
  exact Array.ext' h
 ·intro h;rw [h]
theorem N4 (a b:ByteArray):ev P (binOp .eql t (.string a) (.string b))=some (.bool (decide (a=b))):=by
 rw [← str_eq];rfl
theorem L6 (a b:ByteArray):ev P (binOp .neq t (.string a) (.string b))=some (.bool (!decide (a=b))):=by
 rw [← str_eq];rfl
end
def Ht (u:Option TypeDesc):Bool:=match u with|some (.slice _)=>true|_=>false
theorem Zt (e):Ht (some (.slice e))=true:=id rfl
theorem Zy {u} (h:Ht u=true):∃ e,u=some (.slice e):=by
 unfold Ht at h;split at h
 ·exact ⟨_,rfl⟩
 ·cases h
theorem aak {P:Program} {t op x y} (h:Ht (P.underlying t)=true):vg P t op x y=zj op x y:=by
 obtain ⟨e,he⟩:=Zy h
 unfold vg;rw [he]
theorem L7 (P:Program) (ρ o op t l sz es b):jc P ρ o op t (.vl l sz es) b=vg P t op (.vl l sz es) b:=id rfl
theorem Zx (b):kc .eql b=M.pure (.sc (.bool b)):=id rfl
theorem abg (b):kc .neq b=M.pure (.sc (.bool (!b))):=id rfl
theorem Ce (P:Program) (ρ:Operand→AV) (d ty pos af gd) (t u:TypeId) (x y:Operand) (op:BinOp) (a b:Option Addr) (n c m k:Nat) (hx : ρ x = .sc (.slice a n c)) (hy : ρ y = .sc (.slice b m k)) :
 jc P ρ ⟨d,.binOp op t x y u,ty,pos,af,gd⟩ op t (.sc (.slice a n c)) (.sc (.slice b m k))=M.of ((ev P (binOp op t (.slice a n c) (.slice b m k))).map .sc):=by
 have h1:∀ s:Sem Value,ev P (do pure (Next.value (← s)))=(ev P s).map Next.value:=by
  intro s
  induction s with
  |pure b=>rfl
  |program k ih=>exact ih P
  |choose q k ih=>
   simp only [bind,Sem.bind,ev]
   split
   ·exact ih 0
   ·rfl
  |mark m k ih=>exact ih
  |_=>rfl
 have h2:execOp (fun z=>((ρ z).du).getD undef) ⟨d,.binOp op t x y u,ty,pos,af,gd⟩=(do pure (Next.value (← (do eqGuard op t x y (.slice a n c) (.slice b m k);binOp op t (.slice a n c) (.slice b m k))))):=by
  simp only [execOp,hx,hy,AV.du,Option.getD_some]
 have h3:ev P (do eqGuard op t x y (.slice a n c) (.slice b m k);binOp op t (.slice a n c) (.slice b m k))=ev P (binOp op t (.slice a n c) (.slice b m k)):=by
  cases op<;>rfl
 unfold jc nw
 simp only [AV.du,Option.isSome_some,Bool.and_self,cond_true]
 rw [h2,h1,h3]
 cases ev P (binOp op t (.slice a n c) (.slice b m k))<;>rfl
theorem Si {P:Program} {t:TypeId} {a:Option Addr} {n c m k:Nat} (d:Nat) (h:Ht (P.underlying t)=true):ev P (Op.equalIn (d+1) t (.slice a n c) (.slice none m k))=some a.isNone:=by
 obtain ⟨e,he⟩:=Zy h
 simp only [Op.equalIn]
 rw [g5,wx P t he]
 cases a<;>rfl
theorem Fw {P:Program} {t:TypeId} {a:Option Addr} {n c m k:Nat} (h:Ht (P.underlying t)=true):ev P (binOp .eql t (.slice a n c) (.slice none m k))=some (.bool a.isNone):=by
 show ev P (do pure (Value.bool (← Op.equalIn (9999+1) t (.slice a n c) (.slice none m k))))=_
 rw [g5,Si 9999 h]
 rfl
end
end Go.Vm
namespace Go.Vm
noncomputable section
abbrev Name:=List ByteArray
structure bc where
 names:List Name
 nums:List UInt32
 texts:List ByteArray
 raw:List UInt8
def mkD (a:List Name) (b:List UInt32) (c:List ByteArray) (e:List UInt8):bc:=⟨a,b,c,e⟩
theorem aax (d:bc):mkD d.names d.nums d.texts d.raw=d:=id rfl
noncomputable def aw:bq Name:=b7 an
noncomputable def ag:bq bc:=Dh (k9 (b7 aw) (k9 (b7 bz) (k9 aw (b7 ba)))) (fun d=>(d.names,d.nums,d.texts,d.raw)) (fun p=>⟨p.1,p.2.1,p.2.2.1,p.2.2.2⟩) (fun _=>rfl) (fun _=>rfl)
theorem dc (l:Bool) (n:Name):aw.val l n = .vl l 1 (n.map (an.val l)):=id rfl
theorem yu:aw.sz=1:=id rfl
theorem M9:ag.sz=4:=id rfl
theorem js (l:Bool) (d:bc):ag.val l d = .agg [.vl l 1 (d.names.map (aw.val l)),.vl l 1 (d.nums.map (bz.val l)),.vl l 1 (d.texts.map (an.val l)),.vl l 1 (d.raw.map (ba.val l))]:=id rfl
theorem Iw (fr:Bool) (h:Tr aq) (x1 x2 x3 x4:AV) :
 ag.gj fr h (.agg [x1,x2,x3,x4])=match gn aw fr h x1,gn bz fr h x2,gn an fr h x3,gn ba fr h x4 with
  |some a,some b,some c,some e=>some (mkD a b c e)
  |_,_,_,_=>none:=by
 rw [D9 _ _ _ _ rfl rfl]
 have h1:ag.dec fr h (AV.agg [x1,x2,x3,x4]).cells=Option.map (fun p=>(⟨p.1,p.2.1,p.2.2.1,p.2.2.2⟩:bc)) ((k9 (b7 aw) (k9 (b7 bz) (k9 aw (b7 ba)))).dec fr h [x1,x2,x3,x4]):=rfl
 have d2:∀ {α β:Type} (A:bq α) (B:bq β) (l:List AV),(k9 A B).dec fr h l=match A.dec fr h (l.take A.sz),B.dec fr h (l.drop A.sz) with|some x,some y=>some (x,y)|_,_=>none:=fun _ _ _=>rfl
 have l1:∀ {α:Type} (C:bq α) (x:AV),(b7 C).dec fr h [x]=gn C fr h x:=fun _ _=>rfl
 have n1:∀ x,aw.dec fr h [x]=gn an fr h x:=fun _=>rfl
 rw [h1]
 simp only [d2,Ii,yu,List.take_succ_cons,List.take_zero,List.drop_succ_cons,List.drop_zero,l1,n1]
 cases gn aw fr h x1<;>cases gn bz fr h x2<;>cases gn an fr h x3<;>cases gn ba fr h x4<;>rfl
theorem Gr {α:Type} (C:bq α) (fr:Bool) (h:Tr aq) (l:Bool) (n:Nat) (es:List AV):(b7 C).gj fr h (.vl l n es)=gn C fr h (.vl l n es):=wk C fr h _ rfl rfl rfl
theorem F3 {α:Type} (C:bq α) (fr:Bool) (h:Tr aq) (o off len n:Nat):(b7 C).gj fr h (.sl o off len n)=gn C fr h (.sl o off len n):=wk C fr h _ rfl rfl rfl
theorem Ep {α:Type} (C:bq α) (fr:Bool) (h:Tr aq):(b7 C).gj fr h (.sc (.slice none 0 0))=some []:=by
 rw [wk C fr h _ rfl rfl rfl];rfl
theorem Am (fr:Bool) (h:Tr aq) (l:Bool) (n:Nat) (es:List AV):aw.gj fr h (.vl l n es)=gn an fr h (.vl l n es):=wk an fr h _ rfl rfl rfl
theorem A5 (fr:Bool) (h:Tr aq) (o off len n:Nat):aw.gj fr h (.sl o off len n)=gn an fr h (.sl o off len n):=wk an fr h _ rfl rfl rfl
theorem Fo (l:List UInt8):l.map zx=l.map (ba.val false):=id rfl
theorem G6 {α:Type} (C:bq α) (b:Bool) (l:List α):AV.names.go (l.map (C.val b))=[]:=Bv (fun c hc=>by
 obtain ⟨x,_,rfl⟩:=List.mem_map.1 hc
 exact Hp C b x)
theorem xp:∀ (l:List UInt8) (b:Bool),bytesOf (l.map (ba.val b))=some l
 | [],_=>rfl
 |c::l,b=>by
  rw [List.map_cons,Ao,bytesOf,xp l b]
  simp
end
end Go.Vm
section
namespace Go.Vm.Cx
open Go.Vm
noncomputable section
theorem xr {P:Program} (w:World):∀ (ns:List Int) (a:Addr) (i:Nat) (acc:ByteArray),(∀ (j:Nat) x,ns[j]? = some x→(load (a.add (i+j))).run P w = .ok (.int .u8 x) w) →
 (Extern.Bytes.loadBytes (a.add i) ns.length acc).run P w = .ok ⟨acc.data++(ns.map fun n=>UInt8.ofNat n.toNat).toArray⟩ w
 | [],a,i,acc,_=>by simp [Extern.Bytes.loadBytes]
 |x::l,a,i,acc,h=>by
  have h0:=h 0 x rfl
  rw [Nat.add_zero] at h0
  have e:(a.add i).add 1=a.add (i+1):=by
   unfold Addr.add
   by_cases hj:i=0
   ·subst hj;simp
   ·simp [hj];omega
  have ih:=xr (P:=P) w l a (i+1) (acc.push x.toNat.toUInt8) (fun j y hy=>by
   have:=h (j+1) y (by simpa using hy)
   rw [show i+1+j=i+(j+1) from by omega];exact this)
  simp only [List.length_cons,Extern.Bytes.loadBytes,Sem.run_bind,h0,Result.andThen]
  rw [e,ih]
  congr 1
  apply ByteArray.ext
  simp [ByteArray.push,Nat.toUInt8]
theorem O2 {l:List Int} {l':List Value} (h:l'=l.map (Value.int .u8)) (j:Nat) (x:Int) (hx:l[j]? = some x):l'[j]? = some (.int .u8 x):=by rw [h,List.getElem?_map,hx];rfl
theorem x0 {P:Program} {g st au w} {a:AV} {v:Value} {l:List AV} {bs:List UInt8} (hok:Ok g st.h w) (hr:Rel g w a v) (h:cellsIn 1 a st=some (l,au)) (hb:bytesOf l=some bs) :
 (Extern.Bytes.bytesOf v).run P w = .ok ⟨bs.toArray⟩ w:=by
 obtain ⟨_,_,n,news,hsrc,hrl⟩:=so (P:=P) hok hr h
 obtain ⟨ns,e1,e2⟩:=za _ _ _ hrl hb
 obtain ⟨r1,r2⟩:=hsrc.run w rfl
 cases v with
 |slice p len cap=>
  have hn:n=len:=by simp [Builtin.lenOf] at r1;exact r1.symm
  subst hn
  cases p with
  |none=>
   have:news=[]:=by simpa [Builtin.firstCells] using r2
   subst this
   have:ns=[]:=by simpa using e1.symm
   subst this
   subst e2
   rfl
  |some a=>
   simp only [Builtin.firstCells,Nat.mul_one] at r2
   unfold loadCells at r2
   obtain ⟨l',q1,q2,q3⟩:=loadCellsFrom_ok a n 0 #[] _ _ r2
   have hl':l'=news:=by simpa using q2.symm
   subst hl'
   have hlen:ns.length=n:=by rw [← q1,e1,List.length_map]
   have:=xr (P:=P) w ns a 0 .empty (fun j x hx=>by
    exact q3 j _ (O2 e1 j x hx))
   rw [hlen] at this
   have e0:a.add 0=a:=by simp [Addr.add]
   rw [e0] at this
   show (Extern.Bytes.loadBytes a n .empty).run P w=_
   rw [this,e2]
   congr 2
   simp [ByteArray.empty,ByteArray.emptyWithCapacity]
   rfl
 |string s=>
  have hn:n=s.size:=by simp [Builtin.lenOf] at r1;exact r1.symm
  subst hn
  simp only [Builtin.firstCells,Sem.run_pure,Result.ok.injEq,and_true] at r2
  have h1:=congrArg Array.toList r2
  rw [e1] at h1
  show Result.ok s w=_
  congr 1
  apply ByteArray.ext
  apply Array.ext'
  rw [e2]
  have h2:=congrArg (List.map fun v:Value=>match v with|.int _ n=>UInt8.ofNat n.toNat|_=>0) h1
  simp only [List.map_map,Array.toList_map] at h2
  have h3:(s.extract 0 s.size).data.toList=s.data.toList:=by simp
  rw [h3] at h2
  have h4:(List.map ((fun v:Value=>match v with|.int _ n=>UInt8.ofNat n.toNat|_=>0) ∘ fun b:UInt8=>Value.int .u8 (b.toNat:Int)) s.data.toList)=s.data.toList:=by
   rw [show ((fun v:Value=>match v with|.int _ n=>UInt8.ofNat n.toNat|_=>0) ∘ fun b:UInt8=>Value.int .u8 (b.toNat:Int))=id from by funext b;simp]
   simp
  rw [h4] at h2
  rw [h2]
  simp
 |_=>simp [Builtin.lenOf,stuck] at r1
def sv (args:List AV):M AV:=
 match args with
 | [a]=>.pure a
 |_=>.fail
def jh (args:List AV):M AV:=
 match args with
 | [a,b]=>(cellsIn 1 a).bind fun x=>(cellsIn 1 b).bind fun y=>
  match bytesOf x with
  |some x=>
   match bytesOf y with
   |some y=>.pure (.sc (goInt (Lib.compareBytes x y)))
   |none=>.fail
  |none=>.fail
 |_=>.fail
def ct {α:Type} (m:M α):Prop:=∀ st v au,m st=some (v,au)→au.h=st.h∧au.nx=st.nx
theorem ct.pure {α:Type} (a : α):ct (M.pure a):=fun st v au h=>by cases h;exact ⟨rfl,rfl⟩
theorem ct.fail {α:Type}:ct (M.fail:M α):=fun st v au h=>by cases h
theorem ct.bind {α β:Type} {m:M α} {f : α→M β} (hm:ct m) (h:∀ x,ct (f x)):ct (m.bind f):=fun st v au hb=>by
 obtain ⟨x,s1,h1,h2⟩:=bind_some hb
 have h3:=hm _ _ _ h1
 have h4:=h x _ _ _ h2
 exact ⟨h4.1.trans h3.1,h4.2.trans h3.2⟩
theorem ct.bp (id:Nat):ct (Vm.bp id):=fun _st _v _st1 h=>(ef h).2
theorem ct.cond {α:Type} {b:Bool} {x y:M α} (hx:ct x) (hy:ct y):ct (bif b then x else y):=by cases b<;>assumption
theorem ct.cellsIn (sz:Nat) (v:AV):ct (Vm.cellsIn sz v):=by
 unfold Vm.cellsIn ud
 repeat' (first|exact ct.pure _|exact ct.fail|apply ct.cond|(refine ct.bind (ct.bp _) fun x=>?_)|split)
theorem w7 (args:List AV):ct (jh args):=by
 unfold jh;split
 ·exact ct.bind (ct.cellsIn _ _) fun x=>ct.bind (ct.cellsIn _ _) fun y=>by
   split
   ·split
    ·exact ct.pure _
    ·exact ct.fail
   ·exact ct.fail
 ·exact ct.fail
theorem Qp {P:Program} {f:Nat} {fn:Func} (hf:P.funcs[f]? = some fn) (h1:(fn.name == "runtime.NumGoroutine")=false) (h2:fn.body.isNone=true) (h3:Extern.findNext fn=none) (h4:Extern.find fn=some Extern.AbiNoEscape.same) (args:List AV) :
 u5 P f args (sv args):=by
 intro g st w vs r st' hok hfree hrel hm
 refine .inl ?_
 unfold sv at hm
 split at hm
 ·rename_i a
  cases hm
  obtain ⟨v,rfl,hv⟩:=wo hrel
  refine ⟨v,w,g,?_,.refl _ _ _ _ _,hok,hv⟩
  rw [run_callFunc_extern hf h1 h2 h3 h4]
  rfl
 ·cases hm
theorem zt {P:Program} {f:Nat} {fn:Func} (hf:P.funcs[f]? = some fn) (h1:(fn.name == "runtime.NumGoroutine")=false) (h2:fn.body.isNone=true) (h3:Extern.findNext fn=none) (h4:Extern.find fn=some Extern.BytealgCompare.compare) (args:List AV) :
 u5 P f args (jh args):=by
 intro g st w vs r st' hok hfree hrel hm
 refine .inl ?_
 have hst:=w7 _ _ _ _ hm
 unfold jh at hm
 split at hm
 ·rename_i a c
  obtain ⟨x,s1,e1,hm⟩:=bind_some hm
  obtain ⟨y,s2,e2,hm⟩:=bind_some hm
  cases hx:bytesOf x with
  |none=>rw [hx] at hm;cases hm
  |some bx=>
  cases hy:bytesOf y with
  |none=>rw [hx,hy] at hm;cases hm
  |some yb=>
  rw [hx,hy] at hm
  cases hm
  have hh:=ct.cellsIn _ _ _ _ _ e1
  match vs,hrel with
  | [v,u],hrel=>
   have r1:=x0 (P:=P) hok hrel.head e1 hx
   have r2:=x0 (P:=P) (st:=s1) (by rw [hh.1];exact hok) hrel.tail.head e2 hy
   refine ⟨goInt (Lib.compareBytes bx yb),w,g,?_,?_,?_,.sc _⟩
   ·rw [run_callFunc_extern hf h1 h2 h3 h4]
    have:(Extern.BytealgCompare.compare #[v,u]).run P w = .ok (goInt (Lib.compareBytes bx yb)) w:=by
     change Sem.run P (do pure (goInt (Extern.BytealgCompare.cmp (← Extern.Bytes.bytesOf v) (← Extern.Bytes.bytesOf u)))) w=_
     simp only [Sem.run_bind,r1,r2,Result.andThen,Sem.run_pure]
     rw [Lib.cmp_eq]
    show ((Extern.BytealgCompare.compare #[v,u]).run P w).andThen _=_
    rw [this]
    rfl
   ·rw [hst.1,hst.2];exact .refl _ _ _ _ _
   ·rw [hst.1];exact hok
  | [],hrel=>have:=hrel.1;simp at this
  | [v],hrel=>have:=hrel.1;simp at this
  |_::_::_::_,hrel=>have:=hrel.1;simp at this
 ·cases hm
end
end Go.Vm.Cx
end
section
set_option linter.unnecessarySimpa false
namespace Go.Vm
noncomputable section
def roT (o:Option (Bool × (List AV→M AV))):Bool:=match o with|some (b,_)=>b|none=>false
theorem aj1 (b m):roT (some (b,m))=b:=id rfl
theorem da {o:Oper} {L:SL} {x:Operand} (h:x ∈ o.op.operands):bd o L x=bf L x:=by
 cases x with
 |tmp t=>
  show (bif o.op.operands.any (fun x=>match x with|.tmp u=>Nat.beq u t|_=>false) then lk L t else .bad)=lk L t
  have:o.op.operands.any (fun x=>match x with|.tmp u=>Nat.beq u t|_=>false)=true:=by
   rw [Array.any_eq_true']
   exact ⟨_,h,by simp⟩
  rw [this];rfl
 |const v=>rfl
 |global g=>rfl
 |func f=>rfl
theorem eh {o:Oper} {L:SL} {l:List Operand} (h:∀ x ∈ l,x ∈ o.op.operands):l.map (bd o L)=l.map (bf L):=List.map_congr_left fun x hx=>da (h x hx)
theorem Jy {o:Oper} {L:SL} {l:List (Nat × Operand)} (h:∀ x ∈ l,x.2 ∈ o.op.operands):l.map (fun p=>(p.1,bd o L p.2))=l.map (fun p=>(p.1,bf L p.2)):=List.map_congr_left fun x hx=>by rw [da (h x hx)]
def de (ro:Bool) (F:List Nat) (o:Oper) (recs:List Rec) (K:List Rec→SL→St→Prop) (L:SL) (st:St) (m:M AV):Prop:=Ak ro F o recs K L st (m { h:=ij st.h F,nx:=st.nx,rl:=[],wl:=[] })
theorem Rh (ro F o recs K L st m):de ro F o recs K L st m=Ak ro F o recs K L st (m { h:=ij st.h F,nx:=st.nx,rl:=[],wl:=[] }):=id rfl
section ops
variable (P : Program) (T : cw) (L : SL) (st : St) (recs : List Rec) (K : List Rec → SL → St → Prop) (d : Option Tmp) (ty : TypeId) (pos : String) (af : Array Edge) (gd : Option (Nat × Bool))
theorem Vs (x):dr P T ⟨d,.move x,ty,pos,af,gd⟩ recs K L st=de (true) ([]) ⟨d,.move x,ty,pos,af,gd⟩ recs K L st (mono (M.pure (bf L x))):=by
 unfold dr ic je de
 simp only [fq,cond_true]
 have hm:∀ y,y ∈ ([x]:List Operand)→bd ⟨d,.move x,ty,pos,af,gd⟩ L y=bf L y:=fun y hy=>da (by simpa [Op.operands,Call.operands] using hy)
 have hmap:([x]:List Operand).map (bd ⟨d,.move x,ty,pos,af,gd⟩ L)=([x]:List Operand).map (bf L):=eh (fun y hy=>by simpa [Op.operands,Call.operands] using hy)
 have ho:(⟨d,.move x,ty,pos,af,gd⟩:Oper).op.operands.toList=[x]:=by simp [Op.operands,Call.operands]
 rw [Dx,hm x (by simp)]
 rfl
theorem Nz (x):dr P T ⟨d,.assign x,ty,pos,af,gd⟩ recs K L st=de (true) ([]) ⟨d,.assign x,ty,pos,af,gd⟩ recs K L st (mono (M.pure (bf L x))):=by
 unfold dr ic je de
 simp only [fq,cond_true]
 have hm:∀ y,y ∈ ([x]:List Operand)→bd ⟨d,.assign x,ty,pos,af,gd⟩ L y=bf L y:=fun y hy=>da (by simpa [Op.operands,Call.operands] using hy)
 have hmap:([x]:List Operand).map (bd ⟨d,.assign x,ty,pos,af,gd⟩ L)=([x]:List Operand).map (bf L):=eh (fun y hy=>by simpa [Op.operands,Call.operands] using hy)
 have ho:(⟨d,.assign x,ty,pos,af,gd⟩:Oper).op.operands.toList=[x]:=by simp [Op.operands,Call.operands]
 rw [z6,hm x (by simp)]
 rfl
theorem T9 (t a):dr P T ⟨d,.load t a,ty,pos,af,gd⟩ recs K L st=de (true) ((bf L a).names) ⟨d,.load t a,ty,pos,af,gd⟩ recs K L st (mono (gi P t (bf L a))):=by
 unfold dr ic je de
 simp only [fq,cond_false]
 have hm:∀ y,y ∈ ([a]:List Operand)→bd ⟨d,.load t a,ty,pos,af,gd⟩ L y=bf L y:=fun y hy=>da (by simpa [Op.operands,Call.operands] using hy)
 have hmap:([a]:List Operand).map (bd ⟨d,.load t a,ty,pos,af,gd⟩ L)=([a]:List Operand).map (bf L):=eh (fun y hy=>by simpa [Op.operands,Call.operands] using hy)
 have ho:(⟨d,.load t a,ty,pos,af,gd⟩:Oper).op.operands.toList=[a]:=by simp [Op.operands,Call.operands]
 rw [Dt,hm a (by simp)]
 rfl
theorem E7 (s x f):dr P T ⟨d,.fieldAddr s x f,ty,pos,af,gd⟩ recs K L st=de (true) ([]) ⟨d,.fieldAddr s x f,ty,pos,af,gd⟩ recs K L st (mono (i4 P s (bf L x) f)):=by
 unfold dr ic je de
 simp only [fq,cond_true]
 have hm:∀ y,y ∈ ([x]:List Operand)→bd ⟨d,.fieldAddr s x f,ty,pos,af,gd⟩ L y=bf L y:=fun y hy=>da (by simpa [Op.operands,Call.operands] using hy)
 have hmap:([x]:List Operand).map (bd ⟨d,.fieldAddr s x f,ty,pos,af,gd⟩ L)=([x]:List Operand).map (bf L):=eh (fun y hy=>by simpa [Op.operands,Call.operands] using hy)
 have ho:(⟨d,.fieldAddr s x f,ty,pos,af,gd⟩:Oper).op.operands.toList=[x]:=by simp [Op.operands,Call.operands]
 rw [vt,hm x (by simp)]
 rfl
theorem Ru (op t x y u):dr P T ⟨d,.binOp op t x y u,ty,pos,af,gd⟩ recs K L st=de (true) ([]) ⟨d,.binOp op t x y u,ty,pos,af,gd⟩ recs K L st (mono (tp P (bd ⟨d,.binOp op t x y u,ty,pos,af,gd⟩ L) ⟨d,.binOp op t x y u,ty,pos,af,gd⟩ op t x y)):=by
 unfold dr ic je de
 simp only [fq,cond_true]
 have hm:∀ y,y ∈ ([x,y]:List Operand)→bd ⟨d,.binOp op t x y u,ty,pos,af,gd⟩ L y=bf L y:=fun y hy=>da (by simpa [Op.operands,Call.operands] using hy)
 have hmap:([x,y]:List Operand).map (bd ⟨d,.binOp op t x y u,ty,pos,af,gd⟩ L)=([x,y]:List Operand).map (bf L):=eh (fun y hy=>by simpa [Op.operands,Call.operands] using hy)
 have ho:(⟨d,.binOp op t x y u,ty,pos,af,gd⟩:Oper).op.operands.toList=[x,y]:=by simp [Op.operands,Call.operands]
 rfl
theorem Uk (c a b):dr P T ⟨d,.pick c a b,ty,pos,af,gd⟩ recs K L st=de (true) ([]) ⟨d,.pick c a b,ty,pos,af,gd⟩ recs K L st (mono (qg (bf L c) (bf L a) (bf L b))):=by
 unfold dr ic je de
 simp only [fq,cond_true]
 have hm:∀ y,y ∈ ([c,a,b]:List Operand)→bd ⟨d,.pick c a b,ty,pos,af,gd⟩ L y=bf L y:=fun y hy=>da (by simpa [Op.operands,Call.operands] using hy)
 have hmap:([c,a,b]:List Operand).map (bd ⟨d,.pick c a b,ty,pos,af,gd⟩ L)=([c,a,b]:List Operand).map (bf L):=eh (fun y hy=>by simpa [Op.operands,Call.operands] using hy)
 have ho:(⟨d,.pick c a b,ty,pos,af,gd⟩:Oper).op.operands.toList=[c,a,b]:=by simp [Op.operands,Call.operands]
 rw [Dw,hm c (by simp),hm a (by simp),hm b (by simp)]
 rfl
theorem Rr (t a x):dr P T ⟨d,.store t a x,ty,pos,af,gd⟩ recs K L st=de (false) ((bf L a).names) ⟨d,.store t a x,ty,pos,af,gd⟩ recs K L st (mono (mo P t (bf L a) (bf L x))):=by
 unfold dr ic je de
 simp only [fq,cond_false]
 have hm:∀ y,y ∈ ([a,x]:List Operand)→bd ⟨d,.store t a x,ty,pos,af,gd⟩ L y=bf L y:=fun y hy=>da (by simpa [Op.operands,Call.operands] using hy)
 have hmap:([a,x]:List Operand).map (bd ⟨d,.store t a x,ty,pos,af,gd⟩ L)=([a,x]:List Operand).map (bf L):=eh (fun y hy=>by simpa [Op.operands,Call.operands] using hy)
 have ho:(⟨d,.store t a x,ty,pos,af,gd⟩:Oper).op.operands.toList=[a,x]:=by simp [Op.operands,Call.operands]
 rw [Bz,hm a (by simp),hm x (by simp)]
 rfl
theorem Ew (t x i):dr P T ⟨d,.indexAddr t x i,ty,pos,af,gd⟩ recs K L st=de (true) ([]) ⟨d,.indexAddr t x i,ty,pos,af,gd⟩ recs K L st (mono (i7 P t (bf L x) (bf L i))):=by
 unfold dr ic je de
 simp only [fq,cond_true]
 have hm:∀ y,y ∈ ([x,i]:List Operand)→bd ⟨d,.indexAddr t x i,ty,pos,af,gd⟩ L y=bf L y:=fun y hy=>da (by simpa [Op.operands,Call.operands] using hy)
 have hmap:([x,i]:List Operand).map (bd ⟨d,.indexAddr t x i,ty,pos,af,gd⟩ L)=([x,i]:List Operand).map (bf L):=eh (fun y hy=>by simpa [Op.operands,Call.operands] using hy)
 have ho:(⟨d,.indexAddr t x i,ty,pos,af,gd⟩:Oper).op.operands.toList=[x,i]:=by simp [Op.operands,Call.operands]
 rw [vm,hm x (by simp),hm i (by simp)]
 rfl
theorem Ga (x):dr P T ⟨d,.nilCheck x,ty,pos,af,gd⟩ recs K L st=de (true) ([]) ⟨d,.nilCheck x,ty,pos,af,gd⟩ recs K L st (mono (jx (bf L x))):=by
 unfold dr ic je de
 simp only [fq,cond_true]
 have hm:∀ y,y ∈ ([x]:List Operand)→bd ⟨d,.nilCheck x,ty,pos,af,gd⟩ L y=bf L y:=fun y hy=>da (by simpa [Op.operands,Call.operands] using hy)
 have hmap:([x]:List Operand).map (bd ⟨d,.nilCheck x,ty,pos,af,gd⟩ L)=([x]:List Operand).map (bf L):=eh (fun y hy=>by simpa [Op.operands,Call.operands] using hy)
 have ho:(⟨d,.nilCheck x,ty,pos,af,gd⟩:Oper).op.operands.toList=[x]:=by simp [Op.operands,Call.operands]
 rw [w6,hm x (by simp)]
 rfl
theorem Qt (t):dr P T ⟨d,.alloc t,ty,pos,af,gd⟩ recs K L st=de (true) (reach st.h dp [] []) ⟨d,.alloc t,ty,pos,af,gd⟩ recs K L st (mono (n7 P t)):=by
 unfold dr ic je de
 simp only [fq,cond_false]
 have hm:∀ y,y ∈ ([]:List Operand)→bd ⟨d,.alloc t,ty,pos,af,gd⟩ L y=bf L y:=fun y hy=>da (by simpa [Op.operands,Call.operands] using hy)
 have hmap:([]:List Operand).map (bd ⟨d,.alloc t,ty,pos,af,gd⟩ L)=([]:List Operand).map (bf L):=eh (fun y hy=>by simpa [Op.operands,Call.operands] using hy)
 have ho:(⟨d,.alloc t,ty,pos,af,gd⟩:Oper).op.operands.toList=[]:=by simp [Op.operands,Call.operands]
 rw [ho,hmap]
 rfl
theorem Qh (t ps):dr P T ⟨d,.build t ps,ty,pos,af,gd⟩ recs K L st=de (true) (reach st.h dp (AV.names.go ((ps.toList.map (·.2)).map (bf L))) []) ⟨d,.build t ps,ty,pos,af,gd⟩ recs K L st (mono (nh P t (ps.toList.map fun p=>(p.1,bf L p.2)))):=by
 unfold dr ic je de
 simp only [fq,cond_false]
 have hm:∀ y,y ∈ ((ps.toList.map (·.2)):List Operand)→bd ⟨d,.build t ps,ty,pos,af,gd⟩ L y=bf L y:=fun y hy=>da (by simpa [Op.operands,Call.operands] using hy)
 have hmap:((ps.toList.map (·.2)):List Operand).map (bd ⟨d,.build t ps,ty,pos,af,gd⟩ L)=((ps.toList.map (·.2)):List Operand).map (bf L):=eh (fun y hy=>by simpa [Op.operands,Call.operands] using hy)
 have ho:(⟨d,.build t ps,ty,pos,af,gd⟩:Oper).op.operands.toList=(ps.toList.map (·.2)):=by simp [Op.operands,Call.operands]
 rw [ho,hmap]
 rw [Bx,Jy (fun x hx=>by simp [Op.operands];exact ⟨_,by simpa using hx⟩)]
 rfl
theorem Cq (t n ps):dr P T ⟨d,.buildSlice t n ps,ty,pos,af,gd⟩ recs K L st=de (true) (reach st.h dp (AV.names.go ((ps.toList.map (·.2)).map (bf L))) []) ⟨d,.buildSlice t n ps,ty,pos,af,gd⟩ recs K L st (mono (gh P t n (ps.toList.map fun p=>(p.1,bf L p.2)))):=by
 unfold dr ic je de
 simp only [fq,cond_false]
 have hm:∀ y,y ∈ ((ps.toList.map (·.2)):List Operand)→bd ⟨d,.buildSlice t n ps,ty,pos,af,gd⟩ L y=bf L y:=fun y hy=>da (by simpa [Op.operands,Call.operands] using hy)
 have hmap:((ps.toList.map (·.2)):List Operand).map (bd ⟨d,.buildSlice t n ps,ty,pos,af,gd⟩ L)=((ps.toList.map (·.2)):List Operand).map (bf L):=eh (fun y hy=>by simpa [Op.operands,Call.operands] using hy)
 have ho:(⟨d,.buildSlice t n ps,ty,pos,af,gd⟩:Oper).op.operands.toList=(ps.toList.map (·.2)):=by simp [Op.operands,Call.operands]
 rw [ho,hmap]
 rw [tz,Jy (fun x hx=>by simp [Op.operands];exact ⟨_,by simpa using hx⟩)]
 rfl
theorem Rk (t x l h m):dr P T ⟨d,.slice t x l h m,ty,pos,af,gd⟩ recs K L st=de (true) (reach st.h dp (AV.names.go ((#[x]++l.toArray++h.toArray++m.toArray).toList.map (bf L))) []) ⟨d,.slice t x l h m,ty,pos,af,gd⟩ recs K L st (mono (n9 P (bd ⟨d,.slice t x l h m,ty,pos,af,gd⟩ L) ⟨d,.slice t x l h m,ty,pos,af,gd⟩ t x l h m)):=by
 unfold dr ic je de
 simp only [fq,cond_false]
 have hm:∀ y,y ∈ ((#[x]++l.toArray++h.toArray++m.toArray).toList:List Operand)→bd ⟨d,.slice t x l h m,ty,pos,af,gd⟩ L y=bf L y:=fun y hy=>da (by simpa [Op.operands,Call.operands] using hy)
 have hmap:((#[x]++l.toArray++h.toArray++m.toArray).toList:List Operand).map (bd ⟨d,.slice t x l h m,ty,pos,af,gd⟩ L)=((#[x]++l.toArray++h.toArray++m.toArray).toList:List Operand).map (bf L):=eh (fun y hy=>by simpa [Op.operands,Call.operands] using hy)
 have ho:(⟨d,.slice t x l h m,ty,pos,af,gd⟩:Oper).op.operands.toList=(#[x]++l.toArray++h.toArray++m.toArray).toList:=by simp [Op.operands,Call.operands]
 rw [ho,hmap]
 rfl
theorem aix (op t x):dr P T ⟨d,.unOp op t x,ty,pos,af,gd⟩ recs K L st=de (true) (reach st.h dp (AV.names.go ([x].map (bf L))) []) ⟨d,.unOp op t x,ty,pos,af,gd⟩ recs K L st (mono (fg P (bd ⟨d,.unOp op t x,ty,pos,af,gd⟩ L) ⟨d,.unOp op t x,ty,pos,af,gd⟩ [x])):=by
 unfold dr ic je de
 simp only [fq,cond_false]
 have hm:∀ y,y ∈ ([x]:List Operand)→bd ⟨d,.unOp op t x,ty,pos,af,gd⟩ L y=bf L y:=fun y hy=>da (by simpa [Op.operands,Call.operands] using hy)
 have hmap:([x]:List Operand).map (bd ⟨d,.unOp op t x,ty,pos,af,gd⟩ L)=([x]:List Operand).map (bf L):=eh (fun y hy=>by simpa [Op.operands,Call.operands] using hy)
 have ho:(⟨d,.unOp op t x,ty,pos,af,gd⟩:Oper).op.operands.toList=[x]:=by simp [Op.operands,Call.operands]
 rw [ho,hmap]
 rfl
theorem Zk (x ts):dr P T ⟨d,.call { callee:=.builtin .len,args:=#[x],argTypes:=ts },ty,pos,af,gd⟩ recs K L st=de (true) ([]) ⟨d,.call { callee:=.builtin .len,args:=#[x],argTypes:=ts },ty,pos,af,gd⟩ recs K L st (mono (oa ((ts[0]?).bind P.underlying) (bf L x))):=by
 unfold dr ic je de
 simp only [fq,cond_true]
 have hm:∀ y,y ∈ ([x]:List Operand)→bd ⟨d,.call { callee:=.builtin .len,args:=#[x],argTypes:=ts },ty,pos,af,gd⟩ L y=bf L y:=fun y hy=>da (by simpa [Op.operands,Call.operands] using hy)
 have hmap:([x]:List Operand).map (bd ⟨d,.call { callee:=.builtin .len,args:=#[x],argTypes:=ts },ty,pos,af,gd⟩ L)=([x]:List Operand).map (bf L):=eh (fun y hy=>by simpa [Op.operands,Call.operands] using hy)
 have ho:(⟨d,.call { callee:=.builtin .len,args:=#[x],argTypes:=ts },ty,pos,af,gd⟩:Oper).op.operands.toList=[x]:=by simp [Op.operands,Call.operands]
 rw [Hn,hm x (by simp)]
 rfl
theorem Lu (s x ts):dr P T ⟨d,.call { callee:=.builtin .append,args:=#[s,x],argTypes:=ts },ty,pos,af,gd⟩ recs K L st=de (false) (reach st.h dp (AV.names.go ([s,x].map (bf L))) []) ⟨d,.call { callee:=.builtin .append,args:=#[s,x],argTypes:=ts },ty,pos,af,gd⟩ recs K L st (mono (ki P ts[0]? ((ts[1]?).bind P.underlying) (bf L s) (bf L x))):=by
 unfold dr ic je de
 simp only [fq,cond_false]
 have hm:∀ y,y ∈ ([s,x]:List Operand)→bd ⟨d,.call { callee:=.builtin .append,args:=#[s,x],argTypes:=ts },ty,pos,af,gd⟩ L y=bf L y:=fun y hy=>da (by simpa [Op.operands,Call.operands] using hy)
 have hmap:([s,x]:List Operand).map (bd ⟨d,.call { callee:=.builtin .append,args:=#[s,x],argTypes:=ts },ty,pos,af,gd⟩ L)=([s,x]:List Operand).map (bf L):=eh (fun y hy=>by simpa [Op.operands,Call.operands] using hy)
 have ho:(⟨d,.call { callee:=.builtin .append,args:=#[s,x],argTypes:=ts },ty,pos,af,gd⟩:Oper).op.operands.toList=[s,x]:=by simp [Op.operands,Call.operands]
 rw [ho,hmap]
 rw [Ab,hm s (by simp),hm x (by simp)]
 rfl
theorem U1 (f args ts):dr P T ⟨d,.call { callee:=.value f,args,argTypes:=ts },ty,pos,af,gd⟩ recs K L st=de (me T (bf L) ⟨d,.call { callee:=.value f,args,argTypes:=ts },ty,pos,af,gd⟩) (reach st.h dp (AV.names.go ((f::args.toList).map (bf L))) []) ⟨d,.call { callee:=.value f,args,argTypes:=ts },ty,pos,af,gd⟩ recs K L st (qb T (bf L f) (args.toList.map (bf L))):=by
 unfold dr ic je de
 simp only [fq,cond_false]
 have h1:⟨d,.call { callee:=.value f,args,argTypes:=ts },ty,pos,af,gd⟩=(⟨d,.call { callee:=.value f,args,argTypes:=ts },ty,pos,af,gd⟩:Oper):=rfl
 have hf:bd ⟨d,.call { callee:=.value f,args,argTypes:=ts },ty,pos,af,gd⟩ L f=bf L f:=da (by simp [Op.operands,Call.operands])
 have ha:args.toList.map (bd ⟨d,.call { callee:=.value f,args,argTypes:=ts },ty,pos,af,gd⟩ L)=args.toList.map (bf L):=eh (fun x hx=>by simp [Op.operands,Call.operands];exact .inr (by simpa using hx))
 have hr:me T (bd ⟨d,.call { callee:=.value f,args,argTypes:=ts },ty,pos,af,gd⟩ L) ⟨d,.call { callee:=.value f,args,argTypes:=ts },ty,pos,af,gd⟩=me T (bf L) ⟨d,.call { callee:=.value f,args,argTypes:=ts },ty,pos,af,gd⟩:=by simp only [me,hf]
 have ho:(⟨d,.call { callee:=.value f,args,argTypes:=ts },ty,pos,af,gd⟩:Oper).op.operands.toList.map (bd ⟨d,.call { callee:=.value f,args,argTypes:=ts },ty,pos,af,gd⟩ L)=(f::args.toList).map (bf L):=by
  show ((#[f]++args).toList).map _=_
  simp only [Array.toList_append,List.map_append,ha,List.map_cons,hf]
  rfl
 rw [hr,ho]
 show Ak _ _ _ _ _ _ _ (qb T (bd _ L f) (args.toList.map (bd _ L)) _)=_
 rw [hf,ha]
theorem sh (f args ts g a b) (h:bf L f = .fn (.func g) a b):me T (bf L) ⟨d,.call { callee:=.value f,args,argTypes:=ts },ty,pos,af,gd⟩=roT (T.find g):=by simp only [me,h];rfl
theorem Is (n args ts):me T (bf L) ⟨d,.call { callee:=.value (.func n),args,argTypes:=ts },ty,pos,af,gd⟩=roT (T.find n):=by simp only [me,bf];rfl
end ops
theorem Pq (P T ops K L st):zh P T ops true K L st=(j9 ops=true∧(zp P T ops ops.toList K [] L st∨Fx P T ops ops.toList K [] L st)):=id rfl
theorem Ql (n):Bo n []=true:=id rfl
theorem Lo (n o r):Bo n (o::r)=(Nat.blt o n && Bo n r):=id rfl
theorem Tu (h h'):same h h' []=True:=id rfl
theorem Q0 (h h' o r):same h h' (o::r)=(h.get o=h'.get o∧same h h' r):=id rfl
theorem Pn (h):ij h [] = .nil:=id rfl
theorem L8 (h o r):ij h (o::r)=Tr.set depth (ij h r) o (h.get o):=id rfl
theorem Mk (h1 h):mz h1 [] h=h:=id rfl
theorem I8 (h1 o r h):mz h1 (o::r) h=Tr.set depth (mz h1 r h) o (h1.get o):=id rfl
theorem Qj (t ts v vs):k8 (t::ts) (v::vs)=(t,v)::k8 ts vs:=id rfl
theorem Qk (P T f ps A B p Q L0 st0):ahi P T f ps A B p Q L0 st0=(Nat.ble p 1000=true∧Hg P T ps A B p Q L0 st0 (tf (bf L0 f))):=id rfl
theorem Wc (P T ps A B p Q L0 st0 g caps):Hg P T ps A B p Q L0 st0 (some (g,caps))=F8 P T ps A B p Q L0 st0 caps (xq P g):=id rfl
theorem Tn (P T ps A B p Q L0 st0 caps nt code):F8 P T ps A B p Q L0 st0 caps (some (nt,code))=(Nat.ble (caps.length+1) nt=true∧∀ l:Nat,ov P T l (wa ps A B L0) p code (X8 Q L0) none (cg 0 (.sc (.func (.yield l) #[] #[])::caps)) st0):=id rfl
theorem Qi (g c):tf (.fn (.func g) [] c)=some (g,c):=id rfl
theorem aer {P:Program} {T:cw} {l:Nat} {ak:Nat} {L:SL} {st:St} {Q:QI} {ps:List Tmp} {ra rb:Code} {L0:SL} {α:Type} {b:Code} (keep:List Nat) (V : α→List AV) (O : α→List (Option aq)) (I : α→Prop) (μ : α→Nat) (x : α) (hx:I x)
 (hv:dg ak keep L st=V x) (ho:ey ak keep L st=O x)
 (step:∀ x,I x→ov P T l (wa ps (fun p=>wl P T p ra) (fun p=>wl P T p rb) L0) ak b (Ek (v9 ak keep (fun vs os=>∃ y,I y ∧ μ y < μ x∧vs=V y∧os=O y) (fun _ _ _=>False)) Q) none (k8 keep (V x)) (bh (O x))):ov P T l (wa ps (fun p=>wl P T p ra) (fun p=>wl P T p rb) L0) ak (.loop b) Q none L st:=
 ajg (keep:=keep) (V:=V) (O:=O) (I:=I) (μ:=μ) (x:=x) (hx:=hx) (hR:=Yv P T) (hv:=hv) (ho:=ho) (step:=step)
theorem ad4 {P:Program} {T:cw} {R:C4} {ak:Nat} {L:SL} {st:St} {o:Oper} {K:Option Ex→SL→St→Prop} {args:Array Operand} (keep:List Nat) (h:Lh R (ey ak keep L st).length args o.dst K (k8 keep (dg ak keep L st)) (bh (ey ak keep L st))):Of P T R ak o K none L st (some args):=⟨rfl,keep,h⟩
theorem C1 (P:Program):∀ s:Sem Value,ev P (do pure (Next.value (← s)))=(ev P s).map Next.value:=by
 intro s
 induction s with
 |pure b=>rfl
 |program k ih=>exact ih P
 |choose q k ih=>
  simp only [bind,Sem.bind,ev]
  split
  ·exact ih 0
  ·rfl
 |mark m k ih=>exact ih
 |_=>rfl
def Xg (m:M AV):M AV:=m
def Xe (a:AV) (m:M AV):M AV:=
 match a.bool with
 |some b=>M.pure (.sc (.bool (!b)))
 |none=>m
theorem aej (b:Bool) (m:M AV):Xe (.sc (.bool b)) m=M.pure (.sc (.bool (!b))):=id rfl
theorem alv {a:AV} {b:Bool} (h:a.bool=some b):a = .sc (.bool b):=by
 unfold AV.bool AV.exact mu at h
 cases a with
 |sc v=>cases v<;>simp at h;rw [h]
 |_=>cases h
theorem Nm (P:Program) (ρ:Operand→AV) (d ty pos af gd) (t:TypeId) (x:Operand):fg P ρ ⟨d,.unOp .not t x,ty,pos,af,gd⟩ [x]=Xe (ρ x) (Xg (fg P ρ ⟨d,.unOp .not t x,ty,pos,af,gd⟩ [x])):=by
 unfold Xe
 split
 ·rename_i b hb
  have hx:=alv hb
  have h2:execOp (fun z=>((ρ z).du).getD undef) ⟨d,.unOp .not t x,ty,pos,af,gd⟩=(do pure (Next.value (← Op.unary .not (.bool b)))):=by
   simp only [execOp,hx,AV.du,Option.getD_some]
  unfold fg iz nw
  simp only [List.all_cons,List.all_nil,hx,AV.du,Option.isSome_some,Bool.and_true,cond_true]
  rw [h2,C1]
  rfl
 ·rfl
theorem Rv (P:Program) (T:cw) (ρ:Operand→AV) (d ty pos af gd) (t:TypeId) (x:Operand):dh P T ⟨d,.unOp .not t x,ty,pos,af,gd⟩ ρ=mono (Xe (ρ x) (Xg (fg P ρ ⟨d,.unOp .not t x,ty,pos,af,gd⟩ [x]))):=by
 exact congrArg mono (Nm ..)
theorem Zp (P:Program) (T:cw) (L:SL) (st:St) (recs:List Rec) (K:List Rec→SL→St→Prop) (d ty pos af gd) (t x):dr P T ⟨d,.unOp .not t x,ty,pos,af,gd⟩ recs K L st=de true (reach st.h dp (AV.names.go ([x].map (bf L))) []) ⟨d,.unOp .not t x,ty,pos,af,gd⟩ recs K L st (mono (Xe (bf L x) (Xg (fg P (bd ⟨d,.unOp .not t x,ty,pos,af,gd⟩ L) ⟨d,.unOp .not t x,ty,pos,af,gd⟩ [x])))):=by
 rw [aix]
 have h:=Nm P (bd ⟨d,.unOp .not t x,ty,pos,af,gd⟩ L) d ty pos af gd t x
 rw [da (by simp [Op.operands])] at h
 rw [← h]
theorem Ie {α:Type} (C:bq α) (f:Bool) (h:C.sz=1) (ha:C.agg=false) (l:List α):(l.map (C.val f)).flatMap AV.cells=l.map (C.val f):=by
 induction l with
 |nil=>rfl
 |cons x l ih=>
  simp only [List.map_cons,List.flatMap_cons,ih]
  obtain ⟨c,h1,h2,_⟩:=C.one ha f x
  have:C.val f x=c:=by simp [bq.val,ha,h1]
  rw [this,h2];rfl
theorem I9 (f g:Bool) (a b:List UInt8):Cx.jh [.vl f 1 (a.map (ba.val f)),.vl g 1 (b.map (ba.val g))]=M.pure (.sc (goInt (Lib.compareBytes a b))):=by
 unfold Cx.jh cellsIn
 simp only [Nat.beq_refl,cond_true,Ie ba _ rfl rfl]
 unfold M.bind M.pure
 simp only [xp]
 rfl
theorem I7 {L:SL} {d ty pos af gd} {op t u x y}:bd ⟨d,.binOp op t x y u,ty,pos,af,gd⟩ L x=bf L x:=da (by simp [Op.operands])
theorem Jx {L:SL} {d ty pos af gd} {op t u x y}:bd ⟨d,.binOp op t x y u,ty,pos,af,gd⟩ L y=bf L y:=da (by simp [Op.operands])
theorem Lt {L:SL} {d ty pos af gd} {h l m t x}:bd ⟨d,.slice t x l h m,ty,pos,af,gd⟩ L x=bf L x:=da (by simp [Op.operands])
theorem M6 {L:SL} {d ty pos af gd} {h l m t x}:bd ⟨d,.slice t x l (some h) m,ty,pos,af,gd⟩ L h=bf L h:=da (by simp [Op.operands])
def ui (P:Program) (ρ:Operand→AV) (o:Oper) (l:List Operand):M AV:=fg P ρ o l
def Xn (u:Option TypeDesc) (a ix:AV) (m:M AV):M AV:=
 match u with
 |some .string=>
  match a with
  |.sc (.string s)=>
   match ix with
   |.sc (.int _ n)=>
    match (bif decide (0≤n) then s.data.toList[n.toNat]? else none) with
    |some b=>M.pure (.sc (.int .u8 b.toNat))
    |none=>m
   |_=>m
  |_=>m
 |_=>m
theorem Vh (s:ByteArray) (k:IntKind) (n:Int) (m:M AV):Xn (some .string) (.sc (.string s)) (.sc (.int k n)) m=match (bif decide (0≤n) then s.data.toList[n.toNat]? else none) with|some b=>M.pure (.sc (.int .u8 b.toNat))|none=>m:=id rfl
theorem G9 (P:Program) (ρ:Operand→AV) (d ty pos af gd) (t:TypeId) (x i:Operand):fg P ρ ⟨d,.index t x i,ty,pos,af,gd⟩ [x,i]=Xn (P.underlying t) (ρ x) (ρ i) (ui P ρ ⟨d,.index t x i,ty,pos,af,gd⟩ [x,i]):=by
 unfold Xn
 split
 ·rename_i hu
  split
  ·rename_i s hx
   split
   ·rename_i k n hi
    split
    ·rename_i b hb
     cases h0:decide (0≤n) with
     |false=>rw [h0] at hb;cases hb
     |true=>
     rw [h0,cond_true] at hb
     have h0 : 0≤n:=by simpa using h0
     have hb':s[n.toNat]? = some b:=by
      obtain ⟨h1,h2⟩:=List.getElem?_eq_some_iff.1 hb
      simp at h1
      rw [getElem?_pos s n.toNat (by simpa using h1)]
      rw [← h2];rfl
     have h2:execOp (fun z=>((ρ z).du).getD undef) ⟨d,.index t x i,ty,pos,af,gd⟩=(do pure (Next.value (← Instr.index t (.string s) (.int k n)))):=by
      simp only [execOp,hx,hi,AV.du,Option.getD_some]
     unfold fg iz nw
     simp only [List.all_cons,List.all_nil,hx,hi,AV.du,Option.isSome_some,Bool.and_true,cond_true]
     rw [h2,C1]
     have h3:ev P (Instr.index t (.string s) (.int k n))=some (.int .u8 b.toNat):=by
      simp [Instr.index,asIntOf,underlying,program,ev,hu,h0,hb',bind,Sem.bind,pure]
     rw [h3]
     rfl
    ·rfl
   ·rfl
  ·rfl
 ·rfl
theorem D8 (a n:Nat):(a:Int).fdiv (n:Int)=((a / n:Nat):Int):=by
 rw [Int.fdiv_eq_ediv_of_nonneg _ (by omega)];rfl
theorem anj (a:Nat):(a:Int).fdiv 2=((a / 2:Nat):Int):=D8 a 2
theorem U6 (a:Nat):(a:Int).fdiv 256=((a / 256:Nat):Int):=D8 a 256
theorem Mc (a:Nat):(a:Int).fdiv 65536=((a / 65536:Nat):Int):=D8 a 65536
theorem Fc (a:Nat):(a:Int).fdiv 16777216=((a / 16777216:Nat):Int):=D8 a 16777216
theorem Vd (f:Nat) (m) (T:cw):cw.find ((f,m)::T) f=some m:=by simp [cw.find]
theorem Pr (f g:Nat) (m) (T:cw) (h:(f == g)=false):cw.find ((f,m)::T) g=cw.find T g:=by
 have e:f≠g:=by simpa using h
 simp [cw.find,ka e]
end
end Go.Vm
end
namespace Go.Vm
noncomputable section
def uy (P:Program) (t:TypeId):Option (Nat × Nat × Nat):=
 match mi P t with
 |some e=>
  match cb P e,iw P e,dt P e with
  |some sz,some bytes,some z=>bif Nat.blt 0 sz && Nat.blt 0 bytes && Nat.beq z.cells.size sz then some (e,sz,bytes) else none
  |_,_,_=>none
 |none=>none
def Vy (q:Option (Nat × Nat × Nat)) (s x:AV):M AV:=
 match q with
 |some (e,sz,bytes)=>(cellsIn sz x).bind (ln e sz bytes s)
 |none=>M.fail
theorem ahy (e sz bytes s x):Vy (some (e,sz,bytes)) s x=(cellsIn sz x).bind (ln e sz bytes s):=id rfl
theorem M0 (P:Program) (t e:TypeId) (s x:AV):ki P (some t) (some (.slice e)) s x=Vy (uy P t) s x:=by
 unfold ki Vy uy
 simp only [Option.bind_some]
 cases mi P t with
 |none=>rfl
 |some e=>
  simp only
  cases cb P e with
  |none=>rfl
  |some sz=>
   cases iw P e with
   |none=>rfl
   |some bytes=>
    cases dt P e with
    |none=>rfl
    |some z=>
     simp only
     cases (Nat.blt 0 sz && Nat.blt 0 bytes && Nat.beq z.cells.size sz)<;>rfl
theorem Mu (P:Program) (t:TypeId) (s x:AV):ki P (some t) (some .string) s x=Vy (uy P t) s x:=by
 unfold ki Vy uy
 simp only [Option.bind_some]
 cases mi P t with
 |none=>rfl
 |some e=>
  simp only
  cases cb P e with
  |none=>rfl
  |some sz=>
   cases iw P e with
   |none=>rfl
   |some bytes=>
    cases dt P e with
    |none=>rfl
    |some z=>
     simp only
     cases (Nat.blt 0 sz && Nat.blt 0 bytes && Nat.beq z.cells.size sz)<;>rfl
theorem Jj (e sz bytes new):ln e sz bytes (.sc (.slice none 0 0)) new=bif new.isEmpty then M.pure (.sc (.slice none 0 0)) else bif Nat.ble (new.length * bytes) 140737488355328 then jj e sz (new.length / sz) new else M.fail:=id rfl
theorem Lw (e sz bytes o off len sz' new):ln e sz bytes (.sl o off len sz') new=bif Nat.beq sz sz' then (bp o).bind (uo e sz bytes o off len new) else M.fail:=id rfl
theorem Je (e sz bytes o off len new cells k st et):uo e sz bytes o off len new (.row cells k st et)=(bif Nat.beq et e && new.all AV.one && Nat.ble (off+len * sz) cells.length && Nat.ble ((len * sz+new.length) * bytes) 140737488355328 then
 bif Nat.ble k (off+len * sz) then
  (qx o).bind fun _=>(eu (.row ((cells.take (off+len * sz)).drop off++new) (k - off) (nv st) et)).bind fun id=>M.pure (.sl id 0 (len+new.length / sz) sz)
 else bif new.isEmpty then M.pure (.sl o off len sz)
 else M.fail
 else M.fail):=id rfl
theorem aj4:nv 0=0:=id rfl
def cellsOf {α:Type} (C:bq α) (f:Bool) (xs:List α):List AV:=xs.flatMap (C.cells f)
theorem Ix {α:Type} (C:bq α) (f):cellsOf C f []=[]:=id rfl
theorem qs {α:Type} (C:bq α) (f) (xs:List α):(cellsOf C f xs).length=xs.length * C.sz:=by
 induction xs with
 |nil=>simp [cellsOf]
 |cons x xs ih=>
  simp only [cellsOf] at ih
  simp [cellsOf,C.len,ih,Nat.succ_mul];omega
theorem B8 {α:Type} (C:bq α) (f) (xs ys:List α):cellsOf C f (xs++ys)=cellsOf C f xs++cellsOf C f ys:=by simp [cellsOf]
theorem B2 {α:Type} (C:bq α) (f) (x : α):cellsOf C f [x]=C.cells f x:=by simp [cellsOf]
theorem B6 {α:Type} (C:bq α) (f) (xs:List α):(cellsOf C f xs).all AV.one=true:=by
 rw [List.all_eq_true]
 intro c hc
 obtain ⟨x,_,hx⟩:=List.mem_flatMap.1 hc
 exact (C.pl f x c hx).one
theorem E0 {α:Type} (C:bq α) (f) (xs:List α):AV.names.go (cellsOf C f xs)=[]:=Bv (fun c hc=>by
 obtain ⟨x,_,hx⟩:=List.mem_flatMap.1 hc
 exact (C.pl f x c hx).names)
theorem Iq {α:Type} (C:bq α) (τ) (f) (xs:List α):(cellsOf C f xs).map (AV.b9 τ)=cellsOf C f xs:=by
 rw [← jq]
 exact Kp (fun c hc=>by
  obtain ⟨x,_,hx⟩:=List.mem_flatMap.1 hc
  exact (C.pl f x c hx).b9 τ)
theorem Fi {α:Type} (C:bq α) (f) (xs:List α) (i:Nat):(cellsOf C f xs).drop (i * C.sz)=cellsOf C f (xs.drop i):=by
 induction xs generalizing i with
 |nil=>simp [cellsOf]
 |cons x xs ih=>
  cases i with
  |zero=>simp
  |succ i=>
   have:(i+1) * C.sz=C.sz+i * C.sz:=by rw [Nat.succ_mul];omega
   rw [this,← List.drop_drop]
   have h1:(cellsOf C f (x::xs)).drop C.sz=cellsOf C f xs:=by
    have h2:cellsOf C f (x::xs)=C.cells f x++cellsOf C f xs:=by simp [cellsOf]
    rw [h2,← C.len f x,List.drop_left]
   rw [h1,ih,List.drop_succ_cons]
theorem Vp {α:Type} (C:bq α) (f) (xs:List α) (i:Nat):(cellsOf C f xs).take (i * C.sz)=cellsOf C f (xs.take i):=by
 induction xs generalizing i with
 |nil=>simp [cellsOf]
 |cons x xs ih=>
  cases i with
  |zero=>simp [cellsOf]
  |succ i=>
   have h2:cellsOf C f (x::xs)=C.cells f x++cellsOf C f xs:=by simp [cellsOf]
   have:(i+1) * C.sz=(C.cells f x).length+i * C.sz:=by rw [Nat.succ_mul,C.len];omega
   rw [h2,this,List.take_length_add_append,ih,List.take_succ_cons]
   simp [cellsOf]
theorem Ho {α:Type} (C:bq α) (f) (x : α) (xs:List α):cellsOf C f (x::xs)=C.cells f x++cellsOf C f xs:=by simp [cellsOf]
theorem Oh {α:Type} {xs:List α} {i:Nat} {x : α} (h:xs[i]? = some x):xs.drop i=x::xs.drop (i+1):=by
 obtain ⟨h1,h2⟩:=List.getElem?_eq_some_iff.1 h
 rw [← h2];exact List.drop_eq_getElem_cons h1
theorem Kz {α:Type} (C:bq α) (f) (xs:List α):(xs.map (C.val f)).flatMap AV.cells=cellsOf C f xs:=by
 rw [List.flatMap_map];congr 1;funext x;exact C.Aq f x
theorem pa {α:Type} (C:bq α) (fr:Bool) (h:Tr aq) (f:Bool) (xs:List α) (k st et) (n:Nat) (hn:n=xs.length) (hf:(f || !fr)=true):j7 C fr h 0 n (.row (cellsOf C f xs) k st et)=some xs:=by
 subst hn
 simp only [j7,Nat.zero_add,qs,Nat.ble_self_eq_true,cond_true,List.drop_zero]
 have:(cellsOf C f xs).take (xs.length * C.sz)=cellsOf C f xs:=List.take_of_length_le (by rw [qs];exact Nat.le_refl _)
 rw [this]
 exact Rp C fr h f (fun e=>by subst e;simpa using hf) xs
theorem N9 {α:Type} (C:bq α) (fr h cells k st et):j7 C fr h 0 0 (.row cells k st et)=some []:=by
 have h:Nat.ble 0 cells.length=true:=Nat.ble_eq_true_of_le (Nat.zero_le _)
 simp [j7,ua,h]
def n5 {α:Type} (C:bq α) (fr:Bool) (h:Tr aq):List AV→Option (List α)
 | []=>some []
 |a::l=>match C.dec fr h [a],n5 C fr h l with
  |some x,some xs=>some (x::xs)
  |_,_=>none
def ant {α:Type} (a b:Option (List α)):Option (List α):=match a,b with|some x,some y=>some (x++y)|_,_=>none
def akh {α:Type} (a:Option α) (b:Option (List α)):Option (List α):=match a,b with|some x,some y=>some (x::y)|_,_=>none
theorem aeo {α:Type} (a b:List α):ant (some a) (some b)=some (a++b):=id rfl
theorem Zr {α:Type} (a : α) (b:List α):akh (some a) (some b)=some (a::b):=id rfl
theorem K5 {α:Type} (C:bq α) (fr h):n5 C fr h []=some []:=id rfl
theorem A4 {α:Type} (C:bq α) (fr h a l):n5 C fr h (a::l)=akh (C.dec fr h [a]) (n5 C fr h l):=id rfl
theorem Km {α:Type} (C:bq α) (fr h):∀ a b,n5 C fr h (a++b)=ant (n5 C fr h a) (n5 C fr h b)
 | [],b=>by
  simp only [List.nil_append,K5]
  cases n5 C fr h b<;>rfl
 |x::a,b=>by
  simp only [List.cons_append,A4,Km C fr h a b]
  cases C.dec fr h [x]<;>cases n5 C fr h a<;>cases n5 C fr h b<;>rfl
theorem Uw {α:Type} (C:bq α) (hz:C.sz=1) (fr h):∀ cells:List AV,ua C fr h cells.length cells=n5 C fr h cells
 | []=>rfl
 |a::l=>by
  have h1:(a::l).take C.sz=[a]:=by rw [hz];rfl
  have h2:(a::l).drop C.sz=l:=by rw [hz];rfl
  simp only [List.length_cons,ua,h1,h2,Uw C hz fr h l]
  rfl
theorem uz {α:Type} (C:bq α) (hz:C.sz=1) (fr h n cells k st et) (hn:n=cells.length):j7 C fr h 0 n (.row cells k st et)=n5 C fr h cells:=by
 subst hn
 simp only [j7,hz,Nat.mul_one,Nat.zero_add,Nat.ble_self_eq_true,cond_true,List.drop_zero,List.take_length]
 exact Uw C hz fr h cells
theorem zw {α:Type} (C:bq α) (hz:C.sz=1) (ha:C.agg=false) (fr h f) (hf:fr=true→f=true):∀ l:List α,n5 C fr h (l.map (C.val f))=some l
 | []=>rfl
 |x::l=>by
  obtain ⟨c,h1,_⟩:=C.one ha f x
  have hv:C.val f x=c:=by simp [bq.val,ha,h1]
  have hd:=C.rt fr h f x hf
  rw [h1] at hd
  rw [List.map_cons,A4,zw C hz ha fr h f hf l,hv,hd];rfl
theorem Ub {α β:Type} (f : α → β) (l:List α) (n:Nat):(l.map f).take n=(l.take n).map f:=List.map_take.symm
theorem V5 {α β:Type} (f : α → β) (l:List α) (n:Nat):(l.map f).drop n=(l.drop n).map f:=List.map_drop.symm
theorem Ae {α β:Type} (f : α → β) (l:List α):(l.map f).isEmpty=l.isEmpty:=by cases l<;>rfl
theorem A1 {α:Type} (l:List α) (x : α):(l++[x]).isEmpty=false:=by cases l<;>rfl
theorem C8 (a b:List AV):AV.names.go (a++b)=AV.names.go a++AV.names.go b:=by
 induction a with
 |nil=>rfl
 |cons x a ih=>simp only [List.cons_append,AV.names.go,ih,List.append_assoc]
theorem rtT {α:Type} (C:bq α) (h:Tr aq) (x : α):C.gj true h (C.val true x)=some x:=C.Ev true h true x (fun _=>rfl)
theorem rtF {α:Type} (C:bq α) (h:Tr aq) (l:Bool) (x : α):C.gj false h (C.val l x)=some x:=C.Ev false h l x (fun e=>by cases e)
theorem X7 (s:ByteArray):s.data.toList.length=s.size:=by simp
theorem aau {α:Type} {l:List α} {n:Nat} (h:l.length≤n):l.take n=l:=List.take_of_length_le h
theorem apy {α:Type} (C:bq α) (fr:Bool) (h:Tr aq) (x : α):C.gj fr h (C.val fr x)=some x:=C.Ev fr h fr x (fun e=>e)
theorem bt {a b:Nat} (h:a≤b):decide (a≤b)=true:=by simpa using h
theorem br {a b:Nat} (h:a<b):decide (a<b)=true:=by simpa using h
theorem bw {a b:Int} (h:a≤b):decide (a≤b)=true:=by simpa using h
theorem bu {a b:Int} (h:a<b):decide (a<b)=true:=by simpa using h
theorem aj (x:Int) (h0 : -9223372036854775808≤x) (h1:x<9223372036854775808):IntKind.i64.wrap x=x:=by
 simp [IntKind.wrap,IntKind.bits,IntKind.signed];omega
theorem agd (n:Nat):IntKind.u8.wrap (n:Int)=((UInt8.ofNat n).toNat:Int):=by simp [IntKind.wrap,IntKind.bits,IntKind.signed]
theorem b8 {p:Prop} [Decidable p] {X Y:SL→St→Prop} {L st}:ri (.sc (.bool (decide p))) X Y L st=((p→X L st)∧(¬ p→Y L st)):=by
 by_cases h:p<;>simp [h,Cm,C2]
theorem dy {a b:Int} {X Y:SL→St→Prop} {L st}:ri (.sc (.bool (a == b))) X Y L st=(((a == b)=true∧a=b→X L st)∧((a == b)=false∧a≠b→Y L st)):=by
 by_cases h:a=b
 ·subst h;simp [Cm]
 ·have:(a == b)=false:=by simpa using h
  simp [h,this,C2]
theorem iu {a b:Int} {X Y:SL→St→Prop} {L st}:ri (.sc (.bool (a != b))) X Y L st=(((a != b)=true∧a≠b→X L st)∧((a != b)=false∧a=b→Y L st)):=by
 by_cases h:a=b
 ·subst h;simp [C2]
 ·have:(a != b)=true:=by simpa using h
  simp [h,this,Cm]
theorem Rf (P:Program) (T:cw) (ρ:Operand→AV) (d ty pos af gd) (x ts):dh P T ⟨d,.call { callee:=.builtin .cap,args:=#[x],argTypes:=ts },ty,pos,af,gd⟩ ρ=mono (xj ((ts[0]?).bind P.underlying) (ρ x)):=id rfl
theorem Q5 (e a n c):xj (some (.slice e)) (.sc (.slice a n c))=M.pure (.sc (goInt c)):=id rfl
def ah9 (P:Program) (q:Option (Nat × Nat × Nat)) (s x:AV):M AV:=
 match q with
 |some (e,sz,bytes)=>
  match zc P e sz x with
  |some new=>ln e sz bytes s new
  |none=>M.fail
 |none=>M.fail
theorem ae8 (P:Program) (e sz bytes s x):ah9 P (some (e,sz,bytes)) s x=match zc P e sz x with|some new=>ln e sz bytes s new|none=>M.fail:=id rfl
theorem Nq (P:Program) (t:TypeId) (k:IntKind) (s x:AV):ki P (some t) (some (.int k)) s x=ah9 P (uy P t) s x:=by
 unfold ki ah9 uy
 simp only [Option.bind_some]
 cases mi P t with
 |none=>rfl
 |some e=>
  simp only
  cases cb P e with
  |none=>rfl
  |some sz=>
   cases iw P e with
   |none=>rfl
   |some bytes=>
    cases dt P e with
    |none=>rfl
    |some z=>
     simp only
     cases (Nat.blt 0 sz && Nat.blt 0 bytes && Nat.beq z.cells.size sz)<;>rfl
def Wg (z:Option Value) (sz:Nat) (n:Int):Option (List AV):=
 match z with
 |some z=>bif decide (0≤n) && decide (n≤1073741824) && Nat.beq z.cells.size sz then some ((List.replicate n.toNat (z.cells.toList.map AV.sc)).flatten) else none
 |none=>none
theorem Xw (z sz n):Wg (some z) sz n=bif decide (0≤n) && decide (n≤1073741824) && Nat.beq z.cells.size sz then some ((List.replicate n.toNat (z.cells.toList.map AV.sc)).flatten) else none:=id rfl
theorem P6 (P:Program) (e sz:Nat) (k:IntKind) (n:Int):zc P e sz (.sc (.int k n))=Wg (dt P e) sz n:=by
 simp only [zc,Wg,s8,AV.int,AV.exact,Option.bind_some,intOf,Option.map_some]
 cases dt P e<;>rfl
theorem aa1 {α:Type} (n:Nat) (x : α):(List.replicate n [x]).flatten=List.replicate n x:=by
 induction n with
 |zero=>rfl
 |succ n ih=>simp [List.replicate_succ,ih]
theorem Jv {α:Type} {n:Nat} {x : α} (h : 0<n):(List.replicate n x).isEmpty=false:=by
 cases n with
 |zero=>omega
 |succ n=>rfl
theorem nc0:((0:Nat):Int)=0:=id rfl
theorem nc1:((1:Nat):Int)=1:=id rfl
theorem ahp (n:Nat):List.replicate n (AV.sc (.int .u8 0))=(List.replicate n (0:UInt8)).map (ba.val false):=by rw [List.map_replicate];rfl
def adm (P:Program) (u:Option TypeDesc) (x hi:AV) (m:M AV):M AV:=
 match u with
 |some (.slice e)=>
  match cb P e with
  |some _=>
   match x with
   |.sc (.slice none 0 0)=>
    match hi with
    |.sc (.int .i64 0)=>M.pure (.sc (.slice none 0 0))
    |_=>m
   |_=>m
  |none=>m
 |_=>m
theorem ag0 (P:Program) (e m) (h:(cb P e).isSome=true):adm P (some (.slice e)) (.sc (.slice none 0 0)) (.sc (.int .i64 0)) m=M.pure (.sc (.slice none 0 0)):=by
 obtain ⟨n,hn⟩:=Option.isSome_iff_exists.1 h
 simp only [adm,hn]
theorem Al (P:Program) (ρ:Operand→AV) (d ty pos af gd) (t:TypeId) (x h:Operand):fg P ρ ⟨d,.slice t x none (some h) none,ty,pos,af,gd⟩ (.slice t x none (some h) none:Op).operands.toList=adm P (P.underlying t) (ρ x) (ρ h) (ui P ρ ⟨d,.slice t x none (some h) none,ty,pos,af,gd⟩ (.slice t x none (some h) none:Op).operands.toList):=by
 unfold adm
 split
 ·rename_i e hu
  split
  ·rename_i n hn
   split
   ·rename_i hx
    split
    ·rename_i hh
     have h2:execOp (fun z=>((ρ z).du).getD undef) ⟨d,.slice t x none (some h) none,ty,pos,af,gd⟩=(do pure (Next.value (← Instr.sliceAt t (.slice none 0 0) none (some (.int .i64 0)) none))):=by
      simp only [execOp,hx,hh,AV.du,Option.getD_some,Option.map_some,Option.map_none]
     have hi:∃ i,P.info? e=some i:=by
      unfold cb at hn
      cases hq:P.info? e with
      |none=>rw [hq] at hn;cases hn
      |some i=>exact ⟨i,rfl⟩
     obtain ⟨i,hi⟩:=hi
     have h3:ev P (Instr.sliceAt t (.slice none 0 0) none (some (.int .i64 0)) none)=some (.slice none 0 0):=by
      simp [Instr.sliceAt,Instr.slice,Instr.sliceBounds,Instr.sliceBound,asIntOf,underlying,program,ev,hu,sizeOf,typeInfo,hi,bind,Sem.bind,pure]
     unfold fg iz nw
     simp only [Op.operands]
     simp [hx,hh,AV.du]
     rw [h2,C1,h3]
     rfl
    ·rfl
   ·rfl
  ·rfl
 ·rfl
def ajp {α:Type} (o sz:Nat) (l:List α):AV:=bif l.isEmpty then .sc (.slice none 0 0) else .sl o 0 l.length sz
def adv (cells:List AV) (k st:Nat) (et:TypeId):List (Option aq):=bif cells.isEmpty then [] else [some (.row cells k st et)]
theorem afp {α:Type} {o sz} {l:List α} (h:l.isEmpty=false):ajp o sz l = .sl o 0 l.length sz:=by simp [ajp,h]
theorem Qs {α:Type} (o sz) (l:List α) (c : α):ajp o sz (l++[c]) = .sl o 0 (l.length+1) sz:=by rw [afp (A1 l c)];simp
theorem ae3 {cells:List AV} {k st et} (h:cells.isEmpty=false):adv cells k st et=[some (.row cells k st et)]:=by simp [adv,h]
theorem ai9 {α:Type} {f : α→AV} {l:List α} {k st et} (h:l.isEmpty=false):adv (l.map f) k st et=[some (.row (l.map f) k st et)]:=ae3 (by rw [Ae,h])
theorem Sb {α:Type} (f : α→AV) (l:List α) (c : α) (k st et):adv ((l++[c]).map f) k st et=[some (.row (l.map f++[f c]) k st et)]:=by rw [ai9 (A1 l c)];simp
theorem ik {α:Type} {l:List α} {i:Nat} (h:decide ((i:Int)<(l.length:Int))=true):∃ c,l[i]? = some c∧l.drop i=c::l.drop (i+1)∧i<l.length:=by
 have h1:i<l.length:=by simp at h;omega
 exact ⟨l[i],List.getElem?_eq_getElem h1,List.drop_eq_getElem_cons h1,h1⟩
theorem oj {α:Type} {l:List α} {i:Nat} (h:decide ((i:Int)<(l.length:Int))=false):l.drop i=[]:=by
 have h1:¬ i<l.length:=by simp at h;omega
 exact List.drop_eq_nil_of_le (by omega)
def xn (D:List Nat):Nat→List (Option aq)→List (Option aq)
 |_,[]=>[]
 |i,x::r=>(bif ub i D then x else none)::xn D (i+1) r
def y6 (D:List Nat):Nat→List (Option aq)→List (Option aq)
 |_,[]=>[]
 |i,x::r=>(bif ub i D then none else x)::y6 D (i+1) r
theorem Rt (D):∀ (i:Nat) (os:List (Option aq)),(xn D i os).length=os.length
 |_,[]=>rfl
 |i,x::r=>by simp [xn,Rt D (i+1) r]
theorem Gg (D):∀ (i:Nat) (os:List (Option aq)),(y6 D i os).length=os.length
 |_,[]=>rfl
 |i,x::r=>by simp [y6,Gg D (i+1) r]
theorem Rx (D):∀ (os:List (Option aq)) (i j:Nat),((xn D i os)[j]?).join=if (i+j) ∈ D then (os[j]?).join else none
 | [],i,j=>by simp [xn]
 |x::r,i,0=>by
  simp only [xn,List.getElem?_cons_zero,Option.join_some,Nat.add_zero]
  cases hb:ub i D with
  |true=>rw [if_pos ((p8 i D).1 hb)];rfl
  |false=>rw [if_neg (fun h=>by rw [(p8 i D).2 h] at hb;cases hb)];rfl
 |x::r,i,j+1=>by
  simp only [xn,List.getElem?_cons_succ]
  rw [Rx D r (i+1) j,show i+1+j=i+(j+1) from by omega]
theorem Sd (D):∀ (os:List (Option aq)) (i j:Nat),((y6 D i os)[j]?).join=if (i+j) ∈ D then none else (os[j]?).join
 | [],i,j=>by simp [y6]
 |x::r,i,0=>by
  simp only [y6,List.getElem?_cons_zero,Option.join_some,Nat.add_zero]
  cases hb:ub i D with
  |true=>rw [if_pos ((p8 i D).1 hb)];rfl
  |false=>rw [if_neg (fun h=>by rw [(p8 i D).2 h] at hb;cases hb)];rfl
 |x::r,i,j+1=>by
  simp only [y6,List.getElem?_cons_succ]
  rw [Sd D r (i+1) j,show i+1+j=i+(j+1) from by omega]
theorem Pb (os:List (Option aq)) (h:os.length≤bo) (o:Nat):(bh os).h.get o=(os[o]?).join:=by
 simp only [bh]
 rw [r9 _ _ _ (by omega),if_pos (Nat.zero_le _),Nat.sub_zero]
inductive mf (h:Tr aq):AV→AV→Prop
 |same (a:AV):mf h a a
 |data {α:Type} (C:bq α) (fr:Bool) (x : α) (a:AV) (hd:C.gj fr h a=some x):mf h a (C.val fr x)
 |bad (a:AV):mf h a .bad
 |nil (o off sz:Nat):mf h (.sc (.slice none 0 0)) (.sl o off 0 sz)
 |Br (loc:Bool) (sz:Nat):mf h (.sc (.slice none 0 0)) (.vl loc sz [])
inductive kj (h:Tr aq):List AV→List AV→Prop
 |nil:kj h [] []
 |cons {a b:AV} {l m:List AV} (h1:mf h a b) (h2:kj h l m):kj h (a::l) (b::m)
theorem kj.len {h l m} (hl:kj h l m):m.length=l.length:=by
 induction hl with
 |nil=>rfl
 |cons _ _ ih=>simp [ih]
theorem kj.get {h l m} (hl:kj h l m):∀ (i:Nat) b,m[i]? = some b→∃ a,l[i]? = some a∧mf h a b:=by
 induction hl with
 |nil=>intro i b hb;simp at hb
 |cons h1 h2 ih=>
  intro i b hb
  cases i with
  |zero=>simp at hb;subst hb;exact ⟨_,rfl,h1⟩
  |succ i=>exact ih i b (by simpa using hb)
inductive dn (h:Tr aq):List (Option aq)→List (Option aq)→Prop
 |nil:dn h [] []
 |ghost {st et m} (h2:dn h [] m):dn h [] (some (.row [] 0 st et)::m)
 |same {x l m} (h2:dn h l m):dn h (x::l) (x::m)
 |gone {x l m} (h2:dn h l m):dn h (x::l) (none::m)
 |row {cells cells' k st et l m} (h1:kj h cells cells') (h2:dn h l m):dn h (some (.row cells k st et)::l) (some (.row cells' k st et)::m)
theorem dn.refl (h):∀ l,dn h l l
 | []=>.nil
 |x::l=>.same (dn.refl h l)
theorem dn.len {h l m} (hl:dn h l m):l.length≤m.length:=by induction hl<;>simp_all
theorem dn.get {h l m} (hl:dn h l m):∀ (i:Nat) y,(m[i]?).join=some y→(l[i]?).join=some y∨(∃ cells cells' k st et,y = .row cells' k st et∧(l[i]?).join=some (.row cells k st et)∧kj h cells cells')∨(l.length≤i∧w8 y):=by
 induction hl with
 |nil=>intro i y hy;simp at hy
 | @ghost st et m h2 ih=>
  intro i y hy
  cases i with
  |zero=>simp at hy;subst hy;exact .inr (.inr ⟨Nat.le_refl _,st,et,rfl⟩)
  |succ i=>exact .inr (.inr ⟨Nat.zero_le _,(by
   rcases ih i y (by simpa using hy) with h|⟨_,_,_,_,_,_,h,_⟩|h
   ·simp at h
   ·simp at h
   ·exact h.2)⟩)
 |same h2 ih=>
  intro i y hy
  cases i with
  |zero=>exact .inl hy
  |succ i=>exact (ih i y (by simpa using hy)).imp id (Or.imp id (fun h=>⟨Nat.succ_le_succ h.1,h.2⟩))
 |gone h2 ih=>
  intro i y hy
  cases i with
  |zero=>simp at hy
  |succ i=>exact (ih i y (by simpa using hy)).imp id (Or.imp id (fun h=>⟨Nat.succ_le_succ h.1,h.2⟩))
 |row h1 h2 ih=>
  intro i y hy
  cases i with
  |zero=>simp at hy;subst hy;exact .inr (.inl ⟨_,_,_,_,_,rfl,rfl,h1⟩)
  |succ i=>exact (ih i y (by simpa using hy)).imp id (Or.imp id (fun h=>⟨Nat.succ_le_succ h.1,h.2⟩))
theorem v7.lax {vs vs':List AV} {os os':List (Option aq)} {ak:Nat} (D:List Nat) (hlen':os'.length≤bo) (hv:kj (bh (xn D 0 os)).h vs vs') (ho:dn (bh (xn D 0 os)).h (y6 D 0 os) os'):v7 ak vs os vs' os':=by
 have holen:os.length≤os'.length:=by have:=ho.len;rw [Gg] at this;exact this
 have hlen:os.length≤bo:=Nat.le_trans holen hlen'
 refine ⟨hv.len,fun q=>Nat.le_trans q holen,fun g w us hok hfree hr=>?_⟩
 obtain ⟨hD,ehD⟩:∃ hD,(bh (xn D 0 os)).h=hD:=⟨_,rfl⟩
 rw [ehD] at hv ho
 have bp:∀ o,(bh os).h.get o=(os[o]?).join:=Pb os hlen
 have hgetD:∀ o,hD.get o=if o ∈ D then (os[o]?).join else none:=fun o=>by
  rw [← ehD,Pb _ (by rw [Rt];exact hlen),Rx,Nat.zero_add]
 have hget':∀ o y,(bh os').h.get o=some y→(o ∉ D∧((bh os).h.get o=some y∨∃ cells cells' k st et,y = .row cells' k st et∧(bh os).h.get o=some (.row cells k st et)∧kj hD cells cells'))∨(os.length≤o∧w8 y):=fun o y hy=>by
  rw [Pb _ hlen'] at hy
  have hmid:∀ z,((y6 D 0 os)[o]?).join=some z→o ∉ D∧(os[o]?).join=some z:=fun z hz=>by
   rw [Sd,Nat.zero_add] at hz
   by_cases hd:o ∈ D
   ·rw [if_pos hd] at hz;cases hz
   ·rw [if_neg hd] at hz;exact ⟨hd,hz⟩
  rw [bp]
  rcases ho.get o y hy with h1|⟨cells,cells',k,st,et,h1,h2,h3⟩|h1
  ·exact .inl ⟨(hmid _ h1).1,.inl (hmid _ h1).2⟩
  ·exact .inl ⟨(hmid _ h2).1,.inr ⟨cells,cells',k,st,et,h1,(hmid _ h2).2,h3⟩⟩
  ·rw [Gg] at h1;exact .inr h1
 have hsub:∀ o x,hD.get o=some x→o ∈ D∧(bh os).h.get o=some x:=fun o x hx=>by
  rw [hgetD] at hx
  by_cases hd:o ∈ D
  ·rw [if_pos hd] at hx;rw [bp];exact ⟨hd,hx⟩
  ·rw [if_neg hd] at hx;cases hx
 have hokD:Ok g hD w:=hok.part (fun o x hx=>(hsub o x hx).2)
 obtain ⟨K',eK⟩:∃ K':Nat→Nat→Prop,(fun b j=>g.K b j∨∃ o base cells k s e,hD.get o=some (.row cells k s e)∧g.inj o=some (b,base)∧∃ i,i<cells.length∧j=base+i)=K':=⟨_,rfl⟩
 have hK':∀ b j,K' b j↔(g.K b j∨∃ o base cells k s e,hD.get o=some (.row cells k s e)∧g.inj o=some (b,base)∧∃ i,i<cells.length∧j=base+i):=fun b j=>by rw [← eK]
 have hlend:tn g hD K':=⟨fun b j h=>(hK' b j).2 (.inl h),fun o cells k s e h b base hi j hj=>(hK' _ _).2 (.inr ⟨o,base,cells,k,s,e,h,hi,j,hj,rfl⟩)⟩
 have hlax:∀ {a b:AV} {v:Value},mf hD a b→Rel g w a v→Rel { g with K:=K' } w b v:=fun {a b v} hl hrel=>by
  have hup:Rel { g with K:=K' } w a v:=Rel.ext (g:=g) (w:=w) (g':={ g with K:=K' }) (w':=w) ⟨rfl,fun _ _ h=>h,fun b j h=>(hK' b j).2 (.inl h),fun _ _ _=>rfl,fun b cs e fr h=>⟨cs,fr,h,rfl⟩,fun b l h=>⟨l,h⟩⟩ hrel
  cases hl with
  |same=>exact hup
  |data C fr x a hd=>exact (C.Qm hokD hlend (fun _=>Nat.le_refl g.b0) hrel hd).lift (Nat.le_refl _) (fun _ _ h=>h)
  |bad=>exact .bad _
  |nil o off sz=>obtain rfl:=hup.exact rfl;exact .s7 _ _ _
  |Br loc sz=>obtain rfl:=hup.exact rfl;exact .jv _ _
 refine ⟨{ g with K:=K' },⟨hok.size,fun o y hy=>?_,fun o o' x x' b base base' hne hx hx' hb hb'=>?_,fun b j hk=>?_⟩,⟨by rw [hv.len];exact hr.1,fun i b v hb hv'=>?_⟩,rfl,fun o q=>hfree o (Nat.le_trans holen q),fun _ _=>rfl,fun b j h=>(hK' b j).2 (.inl h),fun o b base ho' hi'=>?_,fun b j hk=>?_⟩
 ·rcases hget' o y hy with ⟨hnd,hy⟩|⟨hge,hgh⟩
  case inr=>exact .inl ⟨hfree o hge,hgh⟩
  have hKo:∀ b base,g.inj o=some (b,base)→((bh os).h.get o).isSome=true→∀ j,K' b j→g.K b j:=fun b base hi hs j hk=>by
   rcases (hK' b j).1 hk with h|⟨o2,base2,cells,k,s,e,h1,h2,_⟩
   ·exact h
   ·exfalso
    obtain ⟨hd2,h1'⟩:=hsub o2 _ h1
    obtain ⟨x,hx⟩:=Option.isSome_iff_exists.1 hs
    exact hok.sep o o2 x _ b base base2 (fun e=>hnd (by rw [e];exact hd2)) hx h1' hi h2
  have hext:Ext g w { g with K:=K' } w:=⟨rfl,fun _ _ h=>h,fun b j h=>(hK' b j).2 (.inl h),fun _ _ _=>rfl,fun b cs e fr h=>⟨cs,fr,h,rfl⟩,fun b l h=>⟨l,h⟩⟩
  rcases hy with hy|⟨cells,cells',k,st,et,rfl,hy,hcl⟩
  ·refine (hok.kn o y hy).imp id ?_
   rintro ⟨b,base,h1,h2,h3⟩
   exact ⟨b,base,h1,h2,h3.ext hext rfl (fun j hj=>hKo b base h1 (by rw [hy];rfl) j hj)⟩
  ·refine (hok.kn o _ hy).imp (fun q=>⟨q.1,by
    obtain ⟨s0,e0,he⟩:=q.2
    simp only [aq.row.injEq] at he
    obtain ⟨rfl,rfl,rfl,rfl⟩:=he
    cases hcl
    exact ⟨_,_,rfl⟩⟩) ?_
   rintro ⟨b,base,h1,h2,cs,fr,r1,r2,r3,r4,r5,r6,r7⟩
   refine ⟨b,base,h1,h2,cs,fr,r1,by rw [hcl.len];exact r2,fun j c hc=>?_,r4,fun j hj=>r5 j (hKo b base h1 (by rw [hy];rfl) j hj),r6,fun e=>by rw [hcl.len];exact r7 e⟩
   obtain ⟨a,ha,hla⟩:=hcl.get j c hc
   obtain ⟨u,hu,hru⟩:=r3 j a ha
   exact ⟨u,hu,hlax hla hru⟩
 ·have q:∀ o y p,(bh os').h.get o=some y→g.inj o=some p→∃ z,(bh os).h.get o=some z:=fun o y p hy hp=>by
   rcases hget' o y hy with ⟨_,h|⟨_,_,_,_,_,_,h,_⟩⟩|⟨h,_⟩
   ·exact ⟨_,h⟩
   ·exact ⟨_,h⟩
   ·rw [hfree o h] at hp;cases hp
  obtain ⟨z,hz⟩:=q o x _ hx hb
  obtain ⟨z',hz'⟩:=q o' x' _ hx' hb'
  exact hok.sep o o' z z' b base base' hne hz hz' hb hb'
 ·rcases (hK' b j).1 hk with h|⟨o,base,cells,k,s,e,h1,h2,_⟩
  ·exact hok.K b j h
  ·obtain ⟨b',base',h3,_,h4⟩:=hokD.obj o _ h1
   rw [h2] at h3;cases h3
   exact h4.lt
 ·obtain ⟨a,ha,hla⟩:=hv.get i b hb
  exact hlax hla (hr.2 i a v ha hv')
 ·obtain ⟨y,hy⟩:=Option.isSome_iff_exists.1 ho'
  rcases hget' o y hy with ⟨_,h|⟨_,_,_,_,_,_,h,_⟩⟩|⟨h,_⟩
  ·exact ⟨o,base,by rw [h];rfl,hi'⟩
  ·exact ⟨o,base,by rw [h];rfl,hi'⟩
  ·have:g.inj o=some (b,base):=hi'
   rw [hfree o h] at this;cases this
 ·rcases (hK' b j).1 hk with h|⟨o,base,cells,k,s,e,h1,h2,_⟩
  ·exact .inl h
  ·exact .inr ⟨o,base,by rw [(hsub o _ h1).2];rfl,h2⟩
theorem ae1 {α:Type} {P:Program} {T:cw} {ak:Nat} {b:Code} {Q:QL} {L:SL} {st:St} (keep:List Nat) (V : α→List AV) (O : α→List (Option aq)) (I : α→Prop) (μ : α→Nat) (x : α) (hx:I x)
 (hv:v7 ak (dg ak keep L st) (ey ak keep L st) (V x) (O x))
 (step:∀ x,I x→wl P T ak b (v9 ak keep (fun vs os=>∃ y,I y ∧ μ y < μ x∧v7 ak vs os (V y) (O y)) Q) (k8 keep (V x)) (bh (O x))):px ak (wl P T ak b) Q L st:=
 px.am5 keep V O I μ x hx hv (fun _ _ h=>Cz b _ _ h) step
theorem om {α:Type} {P:Program} {T:cw} {ak:Nat} {b:Code} {Q:QL} {L:SL} {st:St} (keep:List Nat) (V : α→List AV) (O : α→List (Option aq)) (I : α→Prop) (μ : α→Nat) (x : α) (hx:I x)
 (hv:v7 ak (dg ak keep L st) (ey ak keep L st) (V x) (O x))
 (step:∀ x,I x→wl P T ak b (v9 ak keep (fun vs os=>∃ y,I y ∧ μ y < μ x∧vs=V y∧os=O y) Q) (k8 keep (V x)) (bh (O x))):px ak (wl P T ak b) Q L st:=
 ae1 keep V O I μ x hx hv (fun x hi=>Cz b _ _ (fun e L' st' hq=>by
  cases e with
  |normal=>
   obtain ⟨y,h1,h2,h3,h4⟩:=hq
   refine ⟨y,h1,h2,?_⟩
   rw [h3,h4];exact .refl _ _ _
  |exit id=>exact hq
  |ret=>exact hq) _ _ (step x hi))
theorem Cd (f) (l):(List.map (an.val f) l).flatMap AV.cells=l.map (an.val f):=Ie an f rfl rfl l
theorem N6 (f) (l):(List.map (an.val f) l).all AV.one=true:=by rw [← Cd f l,Kz];exact B6 _ _ _
theorem Em (fr h n cells k st et) (hn:n=cells.length):j7 an fr h 0 n (.row cells k st et)=n5 an fr h cells:=uz an rfl fr h n cells k st et hn
theorem I2 (fr h f) (l):n5 an fr h (List.map (an.val f) l)=some l:=by
 have e:List.map (an.val f) l=List.map (an.val true) l:=by cases f<;>rfl
 rw [e];exact zw an rfl rfl fr h true (fun _=>rfl) l
theorem D5 (f) (l):(List.map (ba.val f) l).flatMap AV.cells=l.map (ba.val f):=Ie ba f rfl rfl l
theorem P5 (f) (l):(List.map (ba.val f) l).all AV.one=true:=by rw [← D5 f l,Kz];exact B6 _ _ _
theorem Gp (fr h n cells k st et) (hn:n=cells.length):j7 ba fr h 0 n (.row cells k st et)=n5 ba fr h cells:=uz ba rfl fr h n cells k st et hn
theorem Ly (fr h f) (l):n5 ba fr h (List.map (ba.val f) l)=some l:=by
 have e:List.map (ba.val f) l=List.map (ba.val true) l:=by cases f<;>rfl
 rw [e];exact zw ba rfl rfl fr h true (fun _=>rfl) l
theorem B3 (f) (l):(List.map (bz.val f) l).flatMap AV.cells=l.map (bz.val f):=Ie bz f rfl rfl l
theorem Nj (f) (l):(List.map (bz.val f) l).all AV.one=true:=by rw [← B3 f l,Kz];exact B6 _ _ _
theorem En (fr h n cells k st et) (hn:n=cells.length):j7 bz fr h 0 n (.row cells k st et)=n5 bz fr h cells:=uz bz rfl fr h n cells k st et hn
theorem Jo (fr h f) (l):n5 bz fr h (List.map (bz.val f) l)=some l:=by
 have e:List.map (bz.val f) l=List.map (bz.val true) l:=by cases f<;>rfl
 rw [e];exact zw bz rfl rfl fr h true (fun _=>rfl) l
theorem Di (fr h n cells k st et) (hn:n=cells.length):j7 aw fr h 0 n (.row cells k st et)=n5 aw fr h cells:=uz aw rfl fr h n cells k st et hn
theorem Hb (fr h f) (l) (hf:(f || !fr)=true):n5 aw fr h (List.map (aw.val f) l)=some l:=zw aw rfl rfl fr h f (fun e=>by subst e;simpa using hf) l
theorem Fy (fr h l n xs) (hn:n=1) (hl:(l || !fr)=true):gn an fr h (.vl l n (xs.map (an.val false)))=some xs:=by
 cases l with
 |true=>exact sy an fr h true xs n hn hl
 |false=>exact sy an fr h false xs n hn hl
theorem Mt:an.val true=an.val false:=id rfl
theorem Ji (fr h l n xs) (hn:n=1) (hl:(l || !fr)=true):gn ba fr h (.vl l n (xs.map (ba.val false)))=some xs:=by
 cases l with
 |true=>exact sy ba fr h true xs n hn hl
 |false=>exact sy ba fr h false xs n hn hl
theorem Pm:ba.val true=ba.val false:=id rfl
theorem Gd (fr h l n xs) (hn:n=1) (hl:(l || !fr)=true):gn bz fr h (.vl l n (xs.map (bz.val false)))=some xs:=by
 cases l with
 |true=>exact sy bz fr h true xs n hn hl
 |false=>exact sy bz fr h false xs n hn hl
theorem Oa:bz.val true=bz.val false:=id rfl
theorem Sa (fr h) (c:UInt8):ba.dec fr h [.sc (.int .u8 c.toNat)]=some c:=ba.rt fr h true c (fun _=>rfl)
theorem Le (fr h) (c:UInt16):cp.dec fr h [.sc (.int .u16 c.toNat)]=some c:=cp.rt fr h true c (fun _=>rfl)
theorem Mi (fr h) (c:UInt32):bz.dec fr h [.sc (.int .u32 c.toNat)]=some c:=bz.rt fr h true c (fun _=>rfl)
theorem Sc (a b:List AV):AV.fresh.go (a++b)=(AV.fresh.go a && AV.fresh.go b):=by
 induction a with
 |nil=>rfl
 |cons x a ih=>simp only [List.cons_append,AV.fresh.go,ih,Bool.and_assoc]
theorem T8 (f) (l:List UInt8):AV.fresh.go (l.map (ba.val f))=true:=by
 induction l with
 |nil=>rfl
 |cons x l ih=>simp only [List.map_cons,AV.fresh.go,ih];rfl
theorem Jw (f) (c:Name):(aw.val f c).one=true:=id rfl
theorem E9 (f) (c:Name):(aw.val f c).cells=[aw.val f c]:=id rfl
theorem Rc (fr h a):(b7 ba).dec fr h [a]=gn ba fr h a:=id rfl
theorem Gs (fr h n cells k st et) (hn:n=cells.length):j7 (b7 ba) fr h 0 n (.row cells k st et)=n5 (b7 ba) fr h cells:=uz (b7 ba) rfl fr h n cells k st et hn
end
end Go.Vm
section
set_option maxRecDepth 4000
namespace Go.Vm
theorem wR:type_of% @aal∧type_of% @Qy∧type_of% @afu∧type_of% @aat∧type_of% @Ug∧type_of% @aar∧type_of% @aan∧type_of% @afc∧type_of% @agu∧type_of% @ag1∧type_of% @ah1∧type_of% @ae9∧type_of% @ags∧type_of% @aeg∧type_of% @Zj∧type_of% @Z6∧type_of% @Z8∧type_of% @ahr∧type_of% @agi∧type_of% @Se∧type_of% @Uo∧type_of% @Re∧type_of% @M3∧type_of% @Mw∧type_of% @T7∧type_of% @Ue∧type_of% @U3∧type_of% @Zv∧type_of% @Un∧type_of% @Wd∧type_of% @Pq∧type_of% @Uh∧type_of% @Ry∧type_of% @Rh∧type_of% @Ww∧type_of% @Qd∧type_of% @Qc∧type_of% @aew∧type_of% @Cm∧type_of% @C2∧type_of% @W2∧type_of% @Ui∧type_of% @Nc∧type_of% @aae∧type_of% @W7∧type_of% @Q3∧type_of% @Xu∧type_of% @abf∧type_of% @af8∧type_of% @agm∧type_of% @ahw∧type_of% @ahf∧type_of% @af7∧type_of% @afr∧type_of% @aaw∧type_of% @aay∧type_of% @aaf∧type_of% @abd∧type_of% @aa8∧type_of% @Vf∧type_of% @Qg∧type_of% @N7∧type_of% @aaj∧type_of% @Zn∧type_of% @afk∧type_of% @ael∧type_of% @Tv∧type_of% @Wf∧type_of% @Z9∧type_of% @Jg∧type_of% @Fp:=
 ⟨@aal,@Qy,@afu,@aat,@Ug,@aar,@aan,@afc,@agu,@ag1,@ah1,@ae9,@ags,@aeg,@Zj,@Z6,@Z8,@ahr,@agi,@Se,@Uo,@Re,@M3,@Mw,@T7,@Ue,@U3,@Zv,@Un,@Wd,@Pq,@Uh,@Ry,@Rh,@Ww,@Qd,@Qc,@aew,@Cm,@C2,@W2,@Ui,@Nc,@aae,@W7,@Q3,@Xu,@abf,@af8,@agm,@ahw,@ahf,@af7,@afr,@aaw,@aay,@aaf,@abd,@aa8,@Vf,@Qg,@N7,@aaj,@Zn,@afk,@ael,@Tv,@Wf,@Z9,@Jg,@Fp⟩
theorem R0:type_of% @V5∧type_of% @ahp∧type_of% @List.length_take.{0}∧type_of% @nc0∧type_of% @nc1∧type_of% @Int.sub_zero∧type_of% @Int.sub_self∧type_of% @Int.zero_add∧type_of% @Nq∧type_of% @ae8∧type_of% @P6∧type_of% @Xw∧type_of% @aa1∧type_of% @Jv∧type_of% @List.length_replicate.{0}∧type_of% @Rf∧type_of% @Q5∧type_of% @ag0∧type_of% @Al∧type_of% @Jq∧type_of% @G9∧type_of% @Vh∧type_of% @U6∧type_of% @Mc∧type_of% @Fc∧type_of% @X7∧type_of% @aau∧type_of% @agd∧type_of% @K5∧type_of% @A4∧type_of% @Km∧type_of% @aeo∧type_of% @Zr∧type_of% @I2∧type_of% @Ly∧type_of% @Jo∧type_of% @Hb∧type_of% @Sa∧type_of% @Le∧type_of% @Mi∧type_of% @List.length_append.{0}∧type_of% @rtF∧type_of% @Go.Vm.n9.eq_1∧type_of% @Go.Vm.bounds.eq_1∧type_of% @Go.Vm.Ah.eq_1∧type_of% @Go.Vm.Ah.eq_2:=
 ⟨@V5,@ahp,@List.length_take.{0},@nc0,@nc1,@Int.sub_zero,@Int.sub_self,@Int.zero_add,@Nq,@ae8,@P6,@Xw,@aa1,@Jv,@List.length_replicate.{0},@Rf,@Q5,@ag0,@Al,@Jq,@G9,@Vh,@U6,@Mc,@Fc,@X7,@aau,@agd,@K5,@A4,@Km,@aeo,@Zr,@I2,@Ly,@Jo,@Hb,@Sa,@Le,@Mi,@List.length_append.{0},@rtF,@Go.Vm.n9.eq_1,@Go.Vm.bounds.eq_1,@Go.Vm.Ah.eq_1,@Go.Vm.Ah.eq_2⟩
theorem R1:type_of% @Go.Vm.pk.eq_1∧type_of% @Go.Vm.pf.eq_def∧type_of% @Go.Vm.nl.eq_def∧type_of% @C8∧type_of% @E0∧type_of% @Iq∧type_of% @N9∧type_of% @Nat.div_one∧type_of% @M0∧type_of% @Mu∧type_of% @ahy∧type_of% @Jj∧type_of% @Lw∧type_of% @Je∧type_of% @aj4∧type_of% @Cd∧type_of% @D5∧type_of% @B3∧type_of% @N6∧type_of% @P5∧type_of% @Nj∧type_of% @Mt∧type_of% @Pm∧type_of% @Oa∧type_of% @Zt∧type_of% @aak∧type_of% @L7∧type_of% @Zx∧type_of% @abg∧type_of% @Ce∧type_of% @Fw∧type_of% @Option.isNone_none.{0}∧type_of% @Option.isNone_some.{0}∧type_of% @aax:=
 ⟨@Go.Vm.pk.eq_1,@Go.Vm.pf.eq_def,@Go.Vm.nl.eq_def,@C8,@E0,@Iq,@N9,@Nat.div_one,@M0,@Mu,@ahy,@Jj,@Lw,@Je,@aj4,@Cd,@D5,@B3,@N6,@P5,@Nj,@Mt,@Pm,@Oa,@Zt,@aak,@L7,@Zx,@abg,@Ce,@Fw,@Option.isNone_none.{0},@Option.isNone_some.{0},@aax⟩
theorem R2:type_of% @Jw∧type_of% @E9∧type_of% @Fy∧type_of% @Ji∧type_of% @Gd∧type_of% @Sc∧type_of% @T8∧type_of% @Rc∧type_of% @Gs∧type_of% @Em∧type_of% @Gp∧type_of% @En∧type_of% @Di∧type_of% @Ub∧type_of% @Ae∧type_of% @List.isEmpty_cons.{0}∧type_of% @List.isEmpty_nil.{0}∧type_of% @List.flatMap_nil.{0,0}∧type_of% @I7∧type_of% @Jx∧type_of% @Lt∧type_of% @M6∧type_of% @and_true∧type_of% @true_and∧type_of% @I9∧type_of% @Rv∧type_of% @Zp∧type_of% @aej∧type_of% @and_self∧type_of% @List.size_toArray.{0}∧type_of% @Qj∧type_of% @Qk∧type_of% @Wc∧type_of% @Tn∧type_of% @Qi∧type_of% @Vs∧type_of% @Nz∧type_of% @T9∧type_of% @E7∧type_of% @Ru∧type_of% @Uk∧type_of% @Rr∧type_of% @Ew:=
 ⟨@Jw,@E9,@Fy,@Ji,@Gd,@Sc,@T8,@Rc,@Gs,@Em,@Gp,@En,@Di,@Ub,@Ae,@List.isEmpty_cons.{0},@List.isEmpty_nil.{0},@List.flatMap_nil.{0,0},@I7,@Jx,@Lt,@M6,@and_true,@true_and,@I9,@Rv,@Zp,@aej,@and_self,@List.size_toArray.{0},@Qj,@Qk,@Wc,@Tn,@Qi,@Vs,@Nz,@T9,@E7,@Ru,@Uk,@Rr,@Ew⟩
theorem R3:type_of% @Ga∧type_of% @Qt∧type_of% @Qh∧type_of% @Cq∧type_of% @Rk∧type_of% @Zk∧type_of% @Lu∧type_of% @U1∧type_of% @Ql∧type_of% @Lo∧type_of% @Tu∧type_of% @Q0∧type_of% @Pn∧type_of% @L8∧type_of% @Mk∧type_of% @I8∧type_of% @aj1∧type_of% @Vd∧type_of% @Pr∧type_of% @Is∧type_of% @Fm∧type_of% @N4∧type_of% @L6∧type_of% @xp∧type_of% @Go.Vm.cellsIn.eq_1∧type_of% @Go.Vm.cellsIn.eq_2∧type_of% @Go.Vm.cellsIn.eq_5∧type_of% @Go.Vm.cellsIn.eq_6∧type_of% @Go.Vm.ud.eq_1∧type_of% @Go.Vm.wh.eq_1∧type_of% @Fo∧type_of% @G6∧type_of% @Gr∧type_of% @F3∧type_of% @Ep∧type_of% @Am∧type_of% @A5∧type_of% @F9∧type_of% @Ci∧type_of% @G0∧type_of% @E5:=
 ⟨@Ga,@Qt,@Qh,@Cq,@Rk,@Zk,@Lu,@U1,@Ql,@Lo,@Tu,@Q0,@Pn,@L8,@Mk,@I8,@aj1,@Vd,@Pr,@Is,@Fm,@N4,@L6,@xp,@Go.Vm.cellsIn.eq_1,@Go.Vm.cellsIn.eq_2,@Go.Vm.cellsIn.eq_5,@Go.Vm.cellsIn.eq_6,@Go.Vm.ud.eq_1,@Go.Vm.wh.eq_1,@Fo,@G6,@Gr,@F3,@Ep,@Am,@A5,@F9,@Ci,@G0,@E5⟩
theorem R4:type_of% @yp∧type_of% @Hd∧type_of% @I5∧type_of% @Fl∧type_of% @Qn∧type_of% @yu∧type_of% @M9∧type_of% @Iw∧type_of% @sy∧type_of% @aai∧type_of% @N2∧type_of% @M1∧type_of% @Bg∧type_of% @Qu∧type_of% @M8∧type_of% @Go.Vm.jj.eq_1∧type_of% @List.flatten_cons.{0}∧type_of% @List.flatten_nil.{0}∧type_of% @List.replicate_succ.{0}∧type_of% @List.replicate_zero.{0}∧type_of% @P7∧type_of% @Pp∧type_of% @ae2∧type_of% @aam∧type_of% @akl∧type_of% @aki∧type_of% @ako∧type_of% @Dx∧type_of% @z6∧type_of% @Dt∧type_of% @vt∧type_of% @Jb:=
 ⟨@yp,@Hd,@I5,@Fl,@Qn,@yu,@M9,@Iw,@sy,@aai,@N2,@M1,@Bg,@Qu,@M8,@Go.Vm.jj.eq_1,@List.flatten_cons.{0},@List.flatten_nil.{0},@List.replicate_succ.{0},@List.replicate_zero.{0},@P7,@Pp,@ae2,@aam,@akl,@aki,@ako,@Dx,@z6,@Dt,@vt,@Jb⟩
theorem R5:type_of% @Dw∧type_of% @Bz∧type_of% @Fa∧type_of% @vm∧type_of% @w6∧type_of% @Jp∧type_of% @Rz∧type_of% @Bx∧type_of% @tz∧type_of% @Es∧type_of% @Co∧type_of% @Er∧type_of% @It∧type_of% @Jt∧type_of% @He∧type_of% @A6∧type_of% @Hn∧type_of% @Ab∧type_of% @Mj∧type_of% @F0∧type_of% @ahu∧type_of% @af9∧type_of% @Go.IntKind.bits.eq_6∧type_of% @Go.IntKind.bits.eq_8∧type_of% @Nat.min_def∧type_of% @akd∧type_of% @akp∧type_of% @akj∧type_of% @aj3∧type_of% @ake∧type_of% @akr∧type_of% @aku∧type_of% @akt∧type_of% @akw∧type_of% @aky∧type_of% @W4∧type_of% @Uj∧type_of% @anz∧type_of% @ani∧type_of% @abp∧type_of% @Go.Vm.tr.eq_1∧type_of% @Go.Vm.n7.eq_1∧type_of% @Go.Vm.mo.eq_def:=
 ⟨@Dw,@Bz,@Fa,@vm,@w6,@Jp,@Rz,@Bx,@tz,@Es,@Co,@Er,@It,@Jt,@He,@A6,@Hn,@Ab,@Mj,@F0,@ahu,@af9,@Go.IntKind.bits.eq_6,@Go.IntKind.bits.eq_8,@Nat.min_def,@akd,@akp,@akj,@aj3,@ake,@akr,@aku,@akt,@akw,@aky,@W4,@Uj,@anz,@ani,@abp,@Go.Vm.tr.eq_1,@Go.Vm.n7.eq_1,@Go.Vm.mo.eq_def⟩
theorem R6:type_of% @Go.Vm.sb.eq_1∧type_of% @Go.Vm.qg.eq_1∧type_of% @Go.Vm.l0.eq_1∧type_of% @Go.Vm.jx.eq_1∧type_of% @Go.Vm.AV.known.eq_2∧type_of% @Go.Value.oneCell'.eq_3∧type_of% @Go.Vm.AV.cells.eq_1∧type_of% @Go.Vm.AV.cells.eq_2∧type_of% @Go.Vm.AV.cells.eq_3∧type_of% @Go.Value.cells.eq_1∧type_of% @Go.Value.cells.eq_2∧type_of% @Go.Vm.AV.one.eq_4∧type_of% @Go.Vm.AV.one.eq_5∧type_of% @Go.Vm.i4.eq_1∧type_of% @Go.Vm.gi.eq_1∧type_of% @Go.Vm.gi.eq_2∧type_of% @Go.Vm.su.eq_1∧type_of% @Go.Vm.nj.eq_1∧type_of% @Go.Vm.oa.eq_2∧type_of% @Go.Vm.oa.eq_6∧type_of% @Go.Vm.gq.eq_1∧type_of% @Go.Vm.gq.eq_3∧type_of% @Go.Vm.gq.eq_4∧type_of% @Go.Vm.tp.eq_1∧type_of% @Go.Vm.zi.eq_1∧type_of% @Go.Vm.G7.eq_1∧type_of% @Go.Vm.kp.eq_1∧type_of% @Go.Vm.kp.eq_2∧type_of% @Go.Vm.kp.eq_3∧type_of% @Go.Vm.kp.eq_4∧type_of% @Go.Vm.kp.eq_5∧type_of% @Go.Vm.kp.eq_6∧type_of% @Go.Vm.kp.eq_7∧type_of% @Go.Vm.kp.eq_8∧type_of% @Go.Vm.kp.eq_9∧type_of% @Go.Vm.kp.eq_10:=
 ⟨@Go.Vm.sb.eq_1,@Go.Vm.qg.eq_1,@Go.Vm.l0.eq_1,@Go.Vm.jx.eq_1,@Go.Vm.AV.known.eq_2,@Go.Value.oneCell'.eq_3,@Go.Vm.AV.cells.eq_1,@Go.Vm.AV.cells.eq_2,@Go.Vm.AV.cells.eq_3,@Go.Value.cells.eq_1,@Go.Value.cells.eq_2,@Go.Vm.AV.one.eq_4,@Go.Vm.AV.one.eq_5,@Go.Vm.i4.eq_1,@Go.Vm.gi.eq_1,@Go.Vm.gi.eq_2,@Go.Vm.su.eq_1,@Go.Vm.nj.eq_1,@Go.Vm.oa.eq_2,@Go.Vm.oa.eq_6,@Go.Vm.gq.eq_1,@Go.Vm.gq.eq_3,@Go.Vm.gq.eq_4,@Go.Vm.tp.eq_1,@Go.Vm.zi.eq_1,@Go.Vm.G7.eq_1,@Go.Vm.kp.eq_1,@Go.Vm.kp.eq_2,@Go.Vm.kp.eq_3,@Go.Vm.kp.eq_4,@Go.Vm.kp.eq_5,@Go.Vm.kp.eq_6,@Go.Vm.kp.eq_7,@Go.Vm.kp.eq_8,@Go.Vm.kp.eq_9,@Go.Vm.kp.eq_10⟩
theorem R7:type_of% @Go.Vm.AV.int.eq_1∧type_of% @Go.Vm.AV.bool.eq_1∧type_of% @Go.Vm.AV.exact.eq_1∧type_of% @Go.Vm.AV.exact.eq_2∧type_of% @Go.Vm.intOf.eq_1∧type_of% @Go.Vm.intOf.eq_2∧type_of% @Go.Vm.mu.eq_1∧type_of% @Go.Vm.i7.eq_1∧type_of% @Go.Vm.qp.eq_1∧type_of% @Go.Vm.qp.eq_2∧type_of% @Go.Vm.s8.eq_1∧type_of% @Go.Vm.ya.eq_1∧type_of% @Go.Vm.mi.eq_1∧type_of% @Go.Vm.l6.eq_1∧type_of% @Go.Vm.iy.eq_1∧type_of% @Go.Vm.iy.eq_3∧type_of% @Go.Vm.iy.eq_5∧type_of% @Go.Vm.iy.eq_7∧type_of% @Go.Vm.iy.eq_9∧type_of% @Go.Vm.z5.eq_1∧type_of% @Go.Vm.Ki.eq_1∧type_of% @Go.Vm.C3.eq_1∧type_of% @Go.Vm.isSlice.eq_3∧type_of% @Go.Vm.isSlice.eq_4∧type_of% @Go.Vm.zd.eq_1∧type_of% @Go.goInt.eq_1∧type_of% @aem∧type_of% @agw∧type_of% @ae5∧type_of% @Go.Vm.pack.eq_1∧type_of% @Go.Vm.pack.eq_2∧type_of% @Go.Vm.cg.eq_1∧type_of% @Go.Vm.cg.eq_2∧type_of% @Go.Vm.bh.eq_1∧type_of% @Go.Vm.nr.eq_1∧type_of% @Go.Vm.nr.eq_2∧type_of% @Go.Vm.qz.eq_1∧type_of% @p7∧type_of% @Ii∧type_of% @Q8∧type_of% @V1∧type_of% @Hj∧type_of% @Ao:=
 ⟨@Go.Vm.AV.int.eq_1,@Go.Vm.AV.bool.eq_1,@Go.Vm.AV.exact.eq_1,@Go.Vm.AV.exact.eq_2,@Go.Vm.intOf.eq_1,@Go.Vm.intOf.eq_2,@Go.Vm.mu.eq_1,@Go.Vm.i7.eq_1,@Go.Vm.qp.eq_1,@Go.Vm.qp.eq_2,@Go.Vm.s8.eq_1,@Go.Vm.ya.eq_1,@Go.Vm.mi.eq_1,@Go.Vm.l6.eq_1,@Go.Vm.iy.eq_1,@Go.Vm.iy.eq_3,@Go.Vm.iy.eq_5,@Go.Vm.iy.eq_7,@Go.Vm.iy.eq_9,@Go.Vm.z5.eq_1,@Go.Vm.Ki.eq_1,@Go.Vm.C3.eq_1,@Go.Vm.isSlice.eq_3,@Go.Vm.isSlice.eq_4,@Go.Vm.zd.eq_1,@Go.goInt.eq_1,@aem,@agw,@ae5,@Go.Vm.pack.eq_1,@Go.Vm.pack.eq_2,@Go.Vm.cg.eq_1,@Go.Vm.cg.eq_2,@Go.Vm.bh.eq_1,@Go.Vm.nr.eq_1,@Go.Vm.nr.eq_2,@Go.Vm.qz.eq_1,@p7,@Ii,@Q8,@V1,@Hj,@Ao⟩
theorem R8:type_of% @N8∧type_of% @Mv∧type_of% @Ny∧type_of% @I0∧type_of% @Lb∧type_of% @Go.Vm.dg.eq_1∧type_of% @Go.Vm.ey.eq_1∧type_of% @Go.Vm.fh.eq_1∧type_of% @Go.Vm.nk.eq_1∧type_of% @Go.Vm.nk.eq_2∧type_of% @Go.Vm.reach.eq_1∧type_of% @Go.Vm.reach.eq_2∧type_of% @Go.Vm.reach.eq_3∧type_of% @Go.Vm.dp.eq_1∧type_of% @Go.Vm.cq.eq_1∧type_of% @Go.Vm.cq.eq_2∧type_of% @Go.Vm.AV.names.eq_1∧type_of% @Go.Vm.AV.names.eq_2∧type_of% @Go.Vm.AV.names.eq_3∧type_of% @Go.Vm.AV.names.eq_4∧type_of% @Go.Vm.AV.names.eq_5∧type_of% @Go.Vm.AV.names.eq_6∧type_of% @Go.Vm.AV.names.eq_9∧type_of% @Go.Vm.AV.names.go.eq_1∧type_of% @Go.Vm.AV.names.go.eq_2∧type_of% @Go.Vm.aq.names.eq_1∧type_of% @Go.Vm.aq.names.eq_2∧type_of% @Go.Vm.AV.b9.eq_1∧type_of% @Go.Vm.AV.b9.eq_2∧type_of% @Go.Vm.AV.b9.eq_3∧type_of% @Go.Vm.AV.b9.eq_4∧type_of% @Go.Vm.AV.b9.eq_5∧type_of% @Go.Vm.AV.b9.eq_7∧type_of% @Go.Vm.AV.b9.eq_8∧type_of% @Go.Vm.AV.b9.eq_11∧type_of% @Go.Vm.aq.b9.eq_1∧type_of% @Go.Vm.aq.b9.eq_2∧type_of% @D0∧type_of% @aav∧type_of% @Go.Vm.gp.eq_1∧type_of% @Go.Vm.gp.eq_2∧type_of% @Go.Vm.k8.eq_2∧type_of% @jq∧type_of% @Option.bind_some.{0,0}∧type_of% @Option.bind_none.{0,0}∧type_of% @Option.map_some.{0,0}∧type_of% @Option.getD_some.{0}∧type_of% @Option.isSome_some.{0}:=
 ⟨@N8,@Mv,@Ny,@I0,@Lb,@Go.Vm.dg.eq_1,@Go.Vm.ey.eq_1,@Go.Vm.fh.eq_1,@Go.Vm.nk.eq_1,@Go.Vm.nk.eq_2,@Go.Vm.reach.eq_1,@Go.Vm.reach.eq_2,@Go.Vm.reach.eq_3,@Go.Vm.dp.eq_1,@Go.Vm.cq.eq_1,@Go.Vm.cq.eq_2,@Go.Vm.AV.names.eq_1,@Go.Vm.AV.names.eq_2,@Go.Vm.AV.names.eq_3,@Go.Vm.AV.names.eq_4,@Go.Vm.AV.names.eq_5,@Go.Vm.AV.names.eq_6,@Go.Vm.AV.names.eq_9,@Go.Vm.AV.names.go.eq_1,@Go.Vm.AV.names.go.eq_2,@Go.Vm.aq.names.eq_1,@Go.Vm.aq.names.eq_2,@Go.Vm.AV.b9.eq_1,@Go.Vm.AV.b9.eq_2,@Go.Vm.AV.b9.eq_3,@Go.Vm.AV.b9.eq_4,@Go.Vm.AV.b9.eq_5,@Go.Vm.AV.b9.eq_7,@Go.Vm.AV.b9.eq_8,@Go.Vm.AV.b9.eq_11,@Go.Vm.aq.b9.eq_1,@Go.Vm.aq.b9.eq_2,@D0,@aav,@Go.Vm.gp.eq_1,@Go.Vm.gp.eq_2,@Go.Vm.k8.eq_2,@jq,@Option.bind_some.{0,0},@Option.bind_none.{0,0},@Option.map_some.{0,0},@Option.getD_some.{0},@Option.isSome_some.{0}⟩
theorem R9:type_of% @List.getElem?_cons_zero.{0}∧type_of% @List.getElem?_toArray.{0}∧type_of% @Go.Vm.bo.eq_1∧type_of% @List.drop_zero.{0}∧type_of% @List.drop_succ_cons.{0}∧type_of% @List.drop_nil.{0}∧type_of% @List.take_succ_cons.{0}∧type_of% @List.take_zero.{0}∧type_of% @List.length_cons.{0}∧type_of% @List.length_nil.{0}∧type_of% @List.length_map.{0,0}∧type_of% @List.getElem?_cons_succ.{0}∧type_of% @List.getElem?_nil.{0}∧type_of% @List.getElem?_map.{0,0}∧type_of% @List.getElem?_drop.{0}∧type_of% @List.map_cons.{0,0}∧type_of% @List.map_nil.{0,0}∧type_of% @List.nil_append.{0}∧type_of% @List.cons_append.{0}∧type_of% @List.append_nil.{0}∧type_of% @List.all_cons.{0}∧type_of% @List.all_nil.{0}∧type_of% @cond_true.{1}∧type_of% @cond_false.{1}∧type_of% @decide_true∧type_of% @decide_false∧type_of% @Bool.and_true∧type_of% @Bool.true_and∧type_of% @Bool.and_self∧type_of% @Bool.not_true∧type_of% @Bool.not_false∧type_of% @BEq.rfl.{0}∧type_of% @Nat.zero_le∧type_of% @Nat.le_refl∧type_of% @Nat.add_zero∧type_of% @Nat.zero_add∧type_of% @Nat.mul_one∧type_of% @Int.toNat_natCast∧type_of% @Int.natCast_nonneg∧type_of% @Nat.sub_self∧type_of% @List.contains_nil.{0}∧type_of% @List.contains_cons.{0}∧type_of% @Bool.or_false∧type_of% @Bool.false_or∧type_of% @Bool.or_true∧type_of% @Bool.true_or∧type_of% @List.map_map.{0,0,0}∧type_of% @W9∧type_of% @H7∧type_of% @Hp∧type_of% @Gk∧type_of% @Rs∧type_of% @Ps:=
 ⟨@List.getElem?_cons_zero.{0},@List.getElem?_toArray.{0},@Go.Vm.bo.eq_1,@List.drop_zero.{0},@List.drop_succ_cons.{0},@List.drop_nil.{0},@List.take_succ_cons.{0},@List.take_zero.{0},@List.length_cons.{0},@List.length_nil.{0},@List.length_map.{0,0},@List.getElem?_cons_succ.{0},@List.getElem?_nil.{0},@List.getElem?_map.{0,0},@List.getElem?_drop.{0},@List.map_cons.{0,0},@List.map_nil.{0,0},@List.nil_append.{0},@List.cons_append.{0},@List.append_nil.{0},@List.all_cons.{0},@List.all_nil.{0},@cond_true.{1},@cond_false.{1},@decide_true,@decide_false,@Bool.and_true,@Bool.true_and,@Bool.and_self,@Bool.not_true,@Bool.not_false,@BEq.rfl.{0},@Nat.zero_le,@Nat.le_refl,@Nat.add_zero,@Nat.zero_add,@Nat.mul_one,@Int.toNat_natCast,@Int.natCast_nonneg,@Nat.sub_self,@List.contains_nil.{0},@List.contains_cons.{0},@Bool.or_false,@Bool.false_or,@Bool.or_true,@Bool.true_or,@List.map_map.{0,0,0},@W9,@H7,@Hp,@Gk,@Rs,@Ps⟩
theorem R10:type_of% @Nn∧type_of% @Jc∧type_of% @K6∧type_of% @ane∧type_of% @anr∧type_of% @amp∧type_of% @an2∧type_of% @ams∧type_of% @anx∧type_of% @Xa∧type_of% @Xo∧type_of% @Rq∧type_of% @M5∧type_of% @U8∧type_of% @Go.Vm.AV.fresh.eq_1∧type_of% @Go.Vm.AV.fresh.eq_4∧type_of% @List.map_append.{0,0}:=
 ⟨@Nn,@Jc,@K6,@ane,@anr,@amp,@an2,@ams,@anx,@Xa,@Xo,@Rq,@M5,@U8,@Go.Vm.AV.fresh.eq_1,@Go.Vm.AV.fresh.eq_4,@List.map_append.{0,0}⟩
theorem RA:type_of% R0∧type_of% R1∧type_of% R2∧type_of% R3∧type_of% R4∧type_of% R5∧type_of% R6∧type_of% R7∧type_of% R8∧type_of% R9∧type_of% R10:=
 ⟨R0,R1,R2,R3,R4,R5,R6,R7,R8,R9,R10⟩
theorem FB:type_of% @List.cons.injEq.{0}∧type_of% @Qs∧type_of% @Sb∧type_of% @List.length_append.{0}∧type_of% @List.length_cons.{0}∧type_of% @List.length_nil.{0}∧type_of% @List.map_append.{0,0}∧type_of% @List.map_cons.{0,0}∧type_of% @List.map_nil.{0,0}∧type_of% @and_true∧type_of% @true_and∧type_of% @and_self∧type_of% @AV.sc.injEq∧type_of% @AV.sl.injEq∧type_of% @aq.row.injEq∧type_of% @Option.some.injEq.{0}∧type_of% @Value.int.injEq∧type_of% @Nat.zero_add:=
 ⟨@List.cons.injEq.{0},@Qs,@Sb,@List.length_append.{0},@List.length_cons.{0},@List.length_nil.{0},@List.map_append.{0,0},@List.map_cons.{0,0},@List.map_nil.{0,0},@and_true,@true_and,@and_self,@AV.sc.injEq,@AV.sl.injEq,@aq.row.injEq,@Option.some.injEq.{0},@Value.int.injEq,@Nat.zero_add⟩
end Go.Vm
end
section
namespace Go.Vm
noncomputable section
open Go.ChangeShapes Go.WideShapes Go.ChangeAt
mutual
def jz {H:Type}:DataW H→Nat
 |.lit (.string bytes)=>bytes.length+1
 |.lit _=>1
 |.nil=>1
 |.ptr d=>jz d+1
 |.slice elems spare=>kh elems+kh spare+1
 |.agg parts=>kh parts+1
 |.iface _ d=>jz d+1
 |.map entries=>Ng entries+1
 |.held _=>1
def kh {H:Type}:List (DataW H)→Nat
 | []=>0
 |d::r=>jz d+kh r
def Ng {H:Type}:List (Lit × DataW H)→Nat
 | []=>0
 |x::r=>acb x+Ng r
def acb {H:Type}:Lit × DataW H→Nat
 |(.string bytes,d)=>bytes.length+jz d+1
 |(_,d)=>jz d+1
end
def X6 (W:World):Nat→Nat→Prop:=fun b _=>b<W.heap.size
def Rd (P:Program) (t:TypeId) {α:Type} (C:bq α) (μ : α→Nat):Prop:=
 ∀ {H:Type} (enc:TypeId × Value→H) (W:World) (b0 fuel:Nat) (cs:List Value) (x:DataW H × List MemPlace),DataW.trod enc P W 0 (fun _=>true) true fuel t cs=some x →
  ∃ y,az (gK b0 (X6 W)) W (C.cells false y) cs ∧ μ y≤jz x.1
theorem apb {P:Program} {t:TypeId} (ht:P.underlying t=some (.int .u8)):Rd P t ba (fun _=>1):=by
 intro H enc W b0 fuel cs x h
 obtain ⟨n,rfl,rfl,hw⟩:=DataW.trod_int ht h
 have hx : 0≤n∧n≤255:=by simpa [Lit.wf,IntKind.min,IntKind.max,IntKind.signed,IntKind.bits] using hw
 refine ⟨UInt8.ofNat n.toNat,?_,by simp [jz]⟩
 have:n=((UInt8.ofNat n.toNat).toNat:Int):=by rw [UInt8.toNat_ofNat'];omega
 exact az.one (by (conv=>rhs;rw [this]);exact .sc _)
theorem ahv {P:Program} {t:TypeId} (ht:P.underlying t=some (.int .u16)):Rd P t cp (fun _=>1):=by
 intro H enc W b0 fuel cs x h
 obtain ⟨n,rfl,rfl,hw⟩:=DataW.trod_int ht h
 have hx : 0≤n∧n≤65535:=by simpa [Lit.wf,IntKind.min,IntKind.max,IntKind.signed,IntKind.bits] using hw
 refine ⟨UInt16.ofNat n.toNat,?_,by simp [jz]⟩
 have:n=((UInt16.ofNat n.toNat).toNat:Int):=by rw [UInt16.toNat_ofNat'];omega
 exact az.one (by (conv=>rhs;rw [this]);exact .sc _)
theorem af4 {P:Program} {t:TypeId} (ht:P.underlying t=some (.int .u32)):Rd P t bz (fun _=>1):=by
 intro H enc W b0 fuel cs x h
 obtain ⟨n,rfl,rfl,hw⟩:=DataW.trod_int ht h
 have hx : 0≤n∧n≤4294967295:=Go.bounds_u32 hw
 refine ⟨UInt32.ofNat n.toNat,?_,by simp [jz]⟩
 have:n=((UInt32.ofNat n.toNat).toNat:Int):=by rw [UInt32.toNat_ofNat'];omega
 exact az.one (by (conv=>rhs;rw [this]);exact .sc _)
theorem an7 {P:Program} {t:TypeId} (ht:P.underlying t=some .string):Rd P t an (fun s=>s.size+1):=by
 intro H enc W b0 fuel cs x h
 obtain ⟨s,rfl,rfl,_⟩:=DataW.trod_string ht h
 refine ⟨s,az.one (.sc _),?_⟩
 show s.size+1≤jz (DataW.lit (Lit.string s.data.toList))
 rw [jz,Array.length_toList]
 exact Nat.le_refl _
theorem als (ao k s v j:Nat) (h3:v=k * s) (hge:v≤j):ao+k * s+(j - v)=ao+j:=by rw [← h3];omega
def o8 {α:Type} (μ : α→Nat):List α→Nat
 | []=>0
 |x::r=>μ x+o8 μ r
theorem I1 {α:Type} (μ : α→Nat):∀ a b:List α,o8 μ (a++b)=o8 μ a+o8 μ b
 | [],b=>by simp [o8]
 |x::a,b=>by simp [o8,I1 μ a b];omega
theorem Gz {H:Type}:∀ a b:List (DataW H),kh (a++b)=kh a+kh b
 | [],b=>by simp [kh]
 |x::a,b=>by simp [kh,Gz a b];omega
theorem alo {P:Program} {t e:TypeId} {α:Type} {C:bq α} {μ : α→Nat} (ht:P.underlying t=some (.slice e)) (hsz:P.cellsOf e=C.sz) (hpos : 0<C.sz) (he:Rd P e C μ):Rd P t (b7 C) (fun l=>o8 μ l+1):=by
 intro H enc W b0 fuel cs x h
 rcases Go.Deep.open_slice ht h with ⟨rfl,rfl⟩|⟨a,len,cap,m,n,D,Pl,rfl,_,hl,hm,hmm,rfl,hx⟩
 ·exact ⟨[],az.one (.jv _ _),by simp [o8,jz]⟩
 ·simp only [if_true] at hmm
  subst hmm
  have spot : 0<m→a.spot=none∧a.block<W.heap.size:=by
   intro h0
   obtain ⟨cs',h1,_⟩:=hx 0 h0
   rw [hsz] at h1
   simp only [World.cells?,Nat.zero_le,if_true] at h1
   have h2:=mapM_some_get h1 0 0 (by simp [hpos])
   have hlen:=mapM_some_length h1
   have h3:∃ v,cs'[0]? = some v:=⟨cs'[0]'(by rw [hlen];simpa using hpos),by simp⟩
   obtain ⟨v,hv⟩:=h3
   rw [hv] at h2
   simp only [Nat.zero_mul,Addr.add,if_true] at h2
   simp only [World.cell?] at h2
   split at h2
   ·rename_i c _ _ hb
    cases hs:a.spot with
    |none=>exact ⟨rfl,bg hb⟩
    |some s=>simp [hs] at h2
   ·cases h2
  have build:∀ k,k≤len→∃ (xs:List α) (vs:List Value),xs.length=k∧az (gK b0 (X6 W)) W (xs.flatMap (C.cells false)) vs∧vs.length=k * C.sz∧(∀ j v,vs[j]? = some v→W.cell? ⟨a.block,a.off+j,none⟩=some v) ∧
   o8 μ xs≤kh ((List.range k).map D):=by
   intro k
   induction k with
   |zero=>intro _;exact ⟨[],[],rfl,az.nil _ _,by simp,(fun j v hj=>by simp at hj),by simp [o8,kh]⟩
   |succ k ih=>
    intro hk
    obtain ⟨xs,vs,h1,h2,h3,h4,h5⟩:=ih (by omega)
    obtain ⟨cs',h6,h7⟩:=hx k (by omega)
    obtain ⟨y,h8,h9⟩:=he enc W b0 n cs' _ h7
    rw [hsz] at h6
    simp only [World.cells?,Nat.zero_le,if_true] at h6
    have hlen:=mapM_some_length h6
    simp only [List.length_range] at hlen
    refine ⟨xs++[y],vs++cs',by simp [h1],?_,by simp [h3,hlen,Nat.succ_mul],fun j v hj=>?_,?_⟩
    ·rw [List.flatMap_append];exact h2.append (by simpa using h8)
    ·by_cases hj1:j<vs.length
     ·rw [List.getElem?_append_left hj1] at hj;exact h4 j v hj
     ·rw [List.getElem?_append_right (by omega)] at hj
      have hj2:=(List.getElem?_eq_some_iff.1 hj).1
      have h10:=mapM_some_get h6 (j - vs.length) (j - vs.length) (List.getElem?_range (by rw [← hlen];exact hj2))
      rw [hj] at h10
      have hs:=(spot (by omega)).1
      have e:(a.add (k * C.sz)).add (j - vs.length)=⟨a.block,a.off+j,none⟩:=by
       obtain ⟨ab,ao,azs⟩:=a
       simp only at hs
       subst hs
       rw [Addr.lg,Addr.lg]
       have hge:vs.length≤j:=Nat.le_of_not_lt hj1
       rw [als ao k C.sz vs.length j h3 hge]
      rw [e] at h10
      exact h10
    ·rw [I1,List.range_succ,List.map_append,Gz]
     simp only [o8,List.map_cons,List.map_nil,kh]
     have : μ y≤jz (D k):=h9
     omega
  obtain ⟨xs,vs,h1,h2,h3,h4,h5⟩:=build len (Nat.le_refl _)
  refine ⟨xs,az.one ?_,by
   simp only [jz]
   have:o8 μ xs≤kh ((List.range len).map D):=h5
   omega⟩
  by_cases h0 : 0<m
  ·obtain ⟨hs,hb⟩:=spot h0
   obtain ⟨ab,ao,azs⟩:=a
   simp only at hs hb h4
   subst hs
   rw [← h1]
   refine ads C h2 (by omega) (fun e=>by cases e) (fun j v hj=>⟨hb,h4 j v hj⟩)
  ·have hl0:len=0:=by omega
   have hm0:m=0:=by omega
   subst hl0 hm0
   have:xs=[]:=List.eq_nil_of_length_eq_zero h1
   subst this
   exact .ry _ _ _
def Qf (P:Program) (fs:List Field) (off:Nat) {α:Type} (C:bq α) (μ : α→Nat):Prop:=
 ∀ {H:Type} (enc:TypeId × Value→H) (W:World) (b0 n:Nat) (cs:List Value) (ys:List (DataW H × List MemPlace)),ys.length=fs.length →
  (∀ (i:Nat) f,fs[i]? = some f→DataW.trod enc P W 0 (fun _=>true) true n f.type ((cs.drop f.offset).take (P.cellsOf f.type))=ys[i]?) →
  ∃ y,az (gK b0 (X6 W)) W (C.cells false y) ((cs.drop off).take C.sz) ∧ μ y≤kh (ys.map (·.1))
theorem ame {P:Program} {f:Field} {off:Nat} {α:Type} {C:bq α} {μ : α→Nat} (ho:f.offset=off) (hs:P.cellsOf f.type=C.sz) (h:Rd P f.type C μ):Qf P [f] off C μ:=by
 intro H enc W b0 n cs ys hl hf
 match ys,hl with
 | [y0],_=>
  have:=hf 0 f rfl
  obtain ⟨y,h1,h2⟩:=h enc W b0 n _ y0 this
  rw [ho,hs] at h1
  exact ⟨y,h1,by simp [kh];exact h2⟩
theorem ah4 {P:Program} {f:Field} {fs:List Field} {off:Nat} {α β:Type} {A:bq α} {B:bq β} {μ : α→Nat} {ν : β→Nat} (ho:f.offset=off) (hs:P.cellsOf f.type=A.sz) (h:Rd P f.type A μ) (hr:Qf P fs (off+A.sz) B ν) :
 Qf P (f::fs) off (k9 A B) (fun p=>μ p.1 + ν p.2):=by
 intro H enc W b0 n cs ys hl hf
 match ys,hl with
 |y0::ys,hl=>
  have h0:=hf 0 f rfl
  obtain ⟨y,h1,h2⟩:=h enc W b0 n _ y0 h0
  obtain ⟨z,h3,h4⟩:=hr enc W b0 n cs ys (by simpa using hl) (fun i g hg=>by have:=hf (i+1) g (by simpa using hg);simpa using this)
  rw [ho,hs] at h1
  refine ⟨(y,z),?_,by simp [kh];omega⟩
  have:=h1.append h3
  rwa [show (cs.drop off).take A.sz++(cs.drop (off+A.sz)).take B.sz=(cs.drop off).take (A.sz+B.sz) from by
   rw [List.take_add,List.drop_drop]] at this
theorem afg {P:Program} {t:TypeId} {fs:Array Field} {α:Type} {C:bq α} {μ : α→Nat} (ht:P.underlying t=some (.struct fs)) (hc:P.cellsOf t=C.sz) (h:Qf P fs.toList 0 C μ):Rd P t C (fun x=>μ x+1):=by
 intro H enc W b0 fuel cs x hx
 obtain ⟨xs,n,_,rfl,hl,hlen,hf⟩:=DataW.trod_struct ht hx
 obtain ⟨y,h1,h2⟩:=h enc W b0 n cs xs (by simpa using hlen) (fun i f hi=>hf i f (by simpa using hi))
 refine ⟨y,?_,by simp [jz];exact h2⟩
 rwa [List.drop_zero,List.take_of_length_le (by omega)] at h1
theorem an4 {P:Program} {t:TypeId} {α β:Type} {C:bq α} {μ : α→Nat} {f : β → α} {i : α → β} {h1:∀ y,i (f y)=y} {h2:∀ x,f (i x)=x} (h:Rd P t C μ):Rd P t (Dh C f i h1 h2) (fun y=>μ (f y)):=by
 intro H enc W b0 fuel cs x hx
 obtain ⟨y,h3,h4⟩:=h enc W b0 fuel cs x hx
 exact ⟨i y,by show az _ _ (C.cells false (f (i y))) cs;rw [h2];exact h3,by show μ (f (i y))≤_;rw [h2];exact h4⟩
def RdA (P:Program) (ts:List TypeId) {α:Type} (A:AC α) (μ : α→Nat):Prop:=
 ∀ {H:Type} (enc:TypeId × Value→H) (W:World) (b0 b1:Nat) (vs:List Value) (ds:List (DataW H)) (ps:List MemPlace),(∀ (j:Nat) t v,ts[j]? = some t→vs[j]? = some v→Value.okWide P W .any b1 t v) →
  DataW.TrodAll enc P W 0 (fun _=>true) true ts vs ds ps→∃ y,az (gK b0 (X6 W)) W (A.E y) vs ∧ μ y≤kh ds
theorem ak9 (P:Program):RdA P [] a0 (fun _=>0):=by
 intro H enc W b0 b1 vs ds ps _ h
 obtain ⟨rfl,rfl,rfl⟩:=trodAll_nil h
 exact ⟨(),az.nil _ _,Nat.zero_le _⟩
theorem ab0 {P:Program} {W:World} {b:Nat} {t:TypeId} {v:Value} (h:mb P t=some true) (ho:Value.okWide P W .any b t v):∃ cs,v = .agg cs:=by
 unfold mb at h
 unfold Value.okWide at ho
 cases hu:P.underlying t with
 |none=>rw [hu] at h;cases h
 |some d=>
  rw [hu] at h ho
  cases d<;>simp_all<;>exact ⟨_,ho.choose_spec.1⟩
theorem ah7 {P:Program} {t:TypeId} {ts:List TypeId} {α β:Type} {C:bq α} {R:AC β} {μ : α→Nat} {ν : β→Nat} (ha:mb P t=some C.agg) (h:Rd P t C μ) (hr:RdA P ts R ν):RdA P (t::ts) (aC C R) (fun p=>μ p.1 + ν p.2):=by
 intro H enc W b0 b1 vs ds ps hok hall
 obtain ⟨v,vs1,d,ds1,p,q,rfl,rfl,rfl,h0,h1⟩:=trodAll_cons hall
 obtain ⟨fuel,hf⟩:=h0
 obtain ⟨y,h2,h3⟩:=h enc W b0 fuel _ _ hf
 obtain ⟨z,h4,h5⟩:=hr enc W b0 b1 vs1 ds1 q (fun j t v ht hv=>hok (j+1) t v (by simpa using ht) (by simpa using hv)) h1
 have h3' : μ y≤jz d:=h3
 refine ⟨(y,z),az.cons ?_ h4,by simp only [kh];omega⟩
 have hv:=hok 0 t v rfl rfl
 show Rel _ _ (C.val false y) v
 unfold bq.val
 cases hg:C.agg with
 |true=>
  obtain ⟨cs,rfl⟩:=ab0 (by rw [ha,hg]) hv
  exact .agg _ cs (by simpa [Value.cells] using h2.1) (fun i a v ha hv=>h2.2 i a v ha (by simpa [Value.cells] using hv))
 |false=>
  obtain ⟨c,h6,h7,_⟩:=C.one hg false y
  rw [cond_false,h6]
  rw [h6] at h2
  have hcs:v.cells.toList=[v]:=by
   have hl:=h2.1
   simp only [List.length_singleton] at hl
   cases v with
   |agg cs=>
    exfalso
    unfold mb at ha
    unfold Value.okWide at hv
    cases hu:P.underlying t with
    |none=>rw [hu] at ha;cases ha
    |some d=>
     rw [hu] at ha hv
     have hcell:Cell.okWide P W .any b1 t (.agg cs):=by
      cases d<;>simp_all
     rw [hg] at ha
     unfold Cell.okWide Cell.ok at hcell
     rw [hu] at hcell
     cases d<;>simp_all
   |_=>rfl
  rw [hcs] at h2
  exact h2.head
theorem Ul {W W':World} (q:yz W W') {p:MemPlace} (h:p.block<W.heap.size):W.sameAt W' p:=by
 cases p with
 |cell b off=>exact pr (q.heap b h)
 |map b=>exact q.heap b h
theorem again {H:Type} {enc:TypeId × Value→H} {P:Program} {W W':World} {sp:Nat→Bool} (K:Kids P (· < P.types.size)) (hz:∀ t e,t<P.types.size→P.underlying t=some (.slice e)→0<P.cellsOf e) (q:yz W W') :
 ∀ {ts:List TypeId} {vs:List Value} {ds:List (DataW H)} {ps:List MemPlace},(∀ t ∈ ts,t<P.types.size)→DataW.TrodAll enc P W 0 (fun _=>true) true ts vs ds ps→(∀ p ∈ ps,sp p.block=true)→(∀ p ∈ ps,p.block<W.heap.size) →
  DataW.TrodAll enc P W' 0 sp true ts vs ds ps
 | [],[],[],_,_,h,_,_=>h
 |t::ts,v::vs,d::ds,ps,hT,⟨p,p',h1,h2,e⟩,hs,hl=>by
  obtain ⟨n,hn⟩:=h1
  subst e
  have h3:=DataW.trod_respare (spare':=sp) K hz n t _ _ (hT t (by simp)) hn (fun x hx=>hs x (by simp only [List.mem_append];exact .inl hx))
  have h4:=DataW.trod_carry (w':=W') n t _ _ h3 (fun x hx=>Ul q (hl x (by simp only [List.mem_append];exact .inl hx)))
  exact ⟨p,p',⟨n,h4⟩,again K hz q (fun t ht=>hT t (by simp [ht])) h2 (fun x hx=>hs x (by simp [hx])) (fun x hx=>hl x (by simp [hx])),rfl⟩
theorem ado {W W':World} (q:yz W W') (may:MemPlace→Prop):W.keptBut W' may:=by
 refine ⟨q.os,q.output,fun i hi=>?_⟩
 rw [q.heap i hi]
 split
 ·rename_i c t fr c' t' fr' h1 h2
  rw [h1] at h2
  cases h2
  exact ⟨rfl,rfl,rfl,fun _ _=>rfl⟩
 ·rename_i es cl es' cl' h1 h2
  rw [h1] at h2
  cases h2
  exact .inr ⟨rfl,rfl⟩
 ·rfl
def ad9 (P:Program):Bool:=(List.range P.types.size).all fun t=>match P.underlying t with|some (.slice e)=>Nat.blt 0 (P.cellsOf e)|_=>true
theorem Sw {P:Program} (h:ad9 P=true) (t e:TypeId) (ht:t<P.types.size) (hu:P.underlying t=some (.slice e)) : 0<P.cellsOf e:=by
 have:=List.all_eq_true.1 h t (List.mem_range.2 ht)
 simp only [hu] at this
 exact Nat.le_of_ble_eq_true this
def al9 (P:Program) (l:List TypeId):Bool:=l.all fun t=>Nat.blt t P.types.size
theorem adg {P:Program} {l:List TypeId} (h:al9 P l=true):∀ t ∈ l,t<P.types.size:=fun t ht=>Nat.le_of_ble_eq_true (List.all_eq_true.1 h t ht)
theorem aiy {P:Program} (hlaid:laidOutB P=true) (hmaps:mapsRowed P=true) (hz:∀ t e,t<P.types.size→P.underlying t=some (.slice e)→0<P.cellsOf e) {f:Nat} {fn:Func} {s:ChangeSpec} {tb:TypeId}
 (he:j5 P f=true) (hvars:s.vars=[]) (hres:fn.resultTypes = #[tb]) (htb:P.underlying tb=some .bool) (hpar:∀ t ∈ fn.params.toList,t<P.types.size)
 (hfn:∀ (H:Type) (ds:List (DataW H)),ds.length=fn.params.toList.length→s.fn H ds = { results:=[.lit (.bool true)],args:=ds }) {α:Type} {A:AC α} {μ : α→Nat} (hA:RdA P fn.params.toList A μ) {N:Option Nat}
 (hcall:∀ x,(∀ n,N=some n → μ x≤n)→ca P f (A.E x) (.sc (.bool true)))
 {H:Type} (enc:TypeId × Value→H) (W:World) (base:Nat) (args:Array Value) (ds gs:List (DataW H)) (before:List MemPlace) (hval:∀ (j:Nat) t v,fn.params[j]? = some t→args[j]? = some v→Value.okWide P W .any base t v)
 (hW:DataW.Whole enc P fn.params.toList s.vars false W args.toList ds gs before) (hN:∀ n,N=some n→kh (ds++gs)≤n) :
 Calls P f args W fun e W'=>∃ v,e = .returned v∧s.post enc P fn false true false false W args v W':=by
 have hW':=hW
 obtain ⟨p,q,hA0,hV,rfl,hfz,hnd⟩:=hW
 rw [hvars] at hV
 obtain ⟨rfl,rfl⟩:=trodVars_none hV
 obtain ⟨x,hx,hμ⟩:=hA enc W W.heap.size base args.toList ds p (fun j t v ht hv=>hval j t v (by simpa using ht) (by simpa using hv)) hA0
 have hp:=hcall x (fun n hn=>Nat.le_trans hμ (by have:=hN n hn;simpa using this)) (X6 W) W args.toList (fun _ _ h=>h) hx
 have hlen:ds.length=fn.params.toList.length:=by
  have:∀ {ts:List TypeId} {vs:List Value} {ds:List (DataW H)} {ps:List MemPlace},DataW.TrodAll enc P W 0 (fun _=>true) true ts vs ds ps→ds.length=ts.length:=by
   intro ts
   induction ts with
   |nil=>intro vs ds ps h;obtain ⟨_,rfl,_⟩:=trodAll_nil h;rfl
   |cons t ts ih=>intro vs ds ps h;obtain ⟨v,vs1,d,ds1,p,q,rfl,rfl,rfl,h0,h1⟩:=trodAll_cons h;simp [ih h1]
  exact this hA0
 have hlt:∀ y ∈ p++[],y.block<W.heap.size:=fun y hy=>hW'.lt y hy
 have hspec:=hfn H ds hlen
 rcases hp with ⟨v,hv,_⟩|⟨_,hc⟩
 ·rw [py he] at hv;cases hv
 ·refine hc.mono ?_
  rintro e W' ⟨v,rfl,hq,hr⟩
  obtain rfl:=hr.exact rfl
  refine ⟨_,rfl,ds,[],p++[],[],p,[],hW',?_,?_,?_,ado hq _,fun e=>by cases e⟩
  ·rw [List.append_nil,hspec,hres]
   exact trodAll_cons_mk (Go.RowKit.shut_bool htb _) trodAll_mk0
  ·rw [List.append_nil,hspec]
   exact again (kids_rows hlaid hmaps) hz hq hpar hA0 (fun y hy=>by have:=hlt y (by simp [hy]);simpa using this) (fun y hy=>hlt y (by simp [hy]))
  ·rw [List.append_nil,hspec,hvars]
   rfl
end
end Go.Vm
end
section
namespace Go.Vm
open Go.Proofs
theorem aha:(Try.prog.underlying 3=some (.int .i64)) ∧
 (Try.prog.underlying 5=some (.int .u8)) ∧
 (Try.prog.underlying 9=some (.string)) ∧
 (Try.prog.underlying 22=some (.slice 9)) ∧
 (Try.prog.underlying 23=some (.slice 9)) ∧
 (Try.prog.underlying 27=some (.int .u32)) ∧
 (Try.prog.underlying 28=some (.slice 50)) ∧
 (Try.prog.underlying 35=some (.slice 57)) ∧
 (Try.prog.underlying 38=some (.slice 30)) ∧
 (Try.prog.underlying 46=some (.slice 5)):=
 ⟨by kernel_rfl,by kernel_rfl,by kernel_rfl,by kernel_rfl,by kernel_rfl,by kernel_rfl,by kernel_rfl,by kernel_rfl,by kernel_rfl,by kernel_rfl⟩
theorem ag6:(Try.prog.underlying 47=some (.slice 23)) ∧
 (Try.prog.underlying 48=some (.slice 27)) ∧
 (Try.prog.underlying 58=some (.map 60 3)) ∧
 (Try.prog.underlying 83=some (.pointer 85)) ∧
 (Try.prog.underlying 106=some (.pointer 5)) ∧
 (Try.prog.underlying 111=some (.int .u64)) ∧
 (Try.prog.underlying 112=some (.slice 46)) ∧
 (Try.prog.underlying 114=some (.unsafePointer)):=
 ⟨by kernel_rfl,by kernel_rfl,by kernel_rfl,by kernel_rfl,by kernel_rfl,by kernel_rfl,by kernel_rfl,by kernel_rfl⟩
theorem aee:(mb Try.prog 3=some false) ∧
 (mb Try.prog 5=some false) ∧
 (mb Try.prog 9=some false) ∧
 (mb Try.prog 22=some false) ∧
 (mb Try.prog 23=some false) ∧
 (mb Try.prog 25=some false) ∧
 (mb Try.prog 26=some false):=
 ⟨by kernel_rfl,by kernel_rfl,by kernel_rfl,by kernel_rfl,by kernel_rfl,by kernel_rfl,by kernel_rfl⟩
theorem afb:(mb Try.prog 27=some false) ∧
 (mb Try.prog 28=some false) ∧
 (mb Try.prog 30=some true) ∧
 (mb Try.prog 46=some false) ∧
 (mb Try.prog 47=some false) ∧
 (mb Try.prog 48=some false) ∧
 (mb Try.prog 50=some true) ∧
 (mb Try.prog 57=some true) ∧
 (mb Try.prog 60=some true) ∧
 (mb Try.prog 73=some true) ∧
 (mb Try.prog 83=some false):=
 ⟨by kernel_rfl,by kernel_rfl,by kernel_rfl,by kernel_rfl,by kernel_rfl,by kernel_rfl,by kernel_rfl,by kernel_rfl,by kernel_rfl,by kernel_rfl,by kernel_rfl⟩
theorem Zo:(cb Try.prog 3=some 1) ∧
 (cb Try.prog 5=some 1) ∧
 (cb Try.prog 9=some 1) ∧
 (cb Try.prog 22=some 1) ∧
 (cb Try.prog 23=some 1) ∧
 (cb Try.prog 25=some 1) ∧
 (cb Try.prog 26=some 1):=
 ⟨by kernel_rfl,by kernel_rfl,by kernel_rfl,by kernel_rfl,by kernel_rfl,by kernel_rfl,by kernel_rfl⟩
theorem Zu:(cb Try.prog 27=some 1) ∧
 (cb Try.prog 28=some 1) ∧
 (cb Try.prog 30=some 5) ∧
 (cb Try.prog 46=some 1) ∧
 (cb Try.prog 47=some 1) ∧
 (cb Try.prog 48=some 1) ∧
 (cb Try.prog 50=some 4) ∧
 (cb Try.prog 57=some 8) ∧
 (cb Try.prog 60=some 3) ∧
 (cb Try.prog 73=some 5) ∧
 (cb Try.prog 83=some 1) ∧
 (cb Try.prog 85=some 2):=
 ⟨by kernel_rfl,by kernel_rfl,by kernel_rfl,by kernel_rfl,by kernel_rfl,by kernel_rfl,by kernel_rfl,by kernel_rfl,by kernel_rfl,by kernel_rfl,by kernel_rfl,by kernel_rfl⟩
theorem aaa:(dt Try.prog 3=some (.int .i64 0)) ∧
 (dt Try.prog 5=some (.int .u8 0)):=
 ⟨by kernel_rfl,by kernel_rfl⟩
theorem aab:(dt Try.prog 30=some (.agg #[.slice none 0 0,.int .u16 0,.int .u16 0,.int .u32 0,.slice none 0 0])) ∧
 (dt Try.prog 50=some (.agg #[.slice none 0 0,.slice none 0 0,.slice none 0 0,.slice none 0 0])) ∧
 (dt Try.prog 57=some (.agg #[.slice none 0 0,.int .u16 0,.int .u16 0,.int .u32 0,.slice none 0 0,.slice none 0 0,.slice none 0 0,.slice none 0 0])) ∧
 (dt Try.prog 60=some (.agg #[.string .empty,.int .u16 0,.int .u16 0])) ∧
 (dt Try.prog 73=some (.agg #[.int .i64 0,.int .i64 0,.int .i64 0,.int .i64 0,.int .i64 0])) ∧
 (dt Try.prog 85=some (.agg #[.pointer none,.slice none 0 0])):=
 ⟨by kernel_rfl,by kernel_rfl,by kernel_rfl,by kernel_rfl,by kernel_rfl,by kernel_rfl⟩
theorem afa:(yk Try.prog 22=some (9,1,[.sc (.string .empty)])) ∧
 (yk Try.prog 23=some (9,1,[.sc (.string .empty)])) ∧
 (yk Try.prog 28=some (50,4,[.sc (.slice none 0 0),.sc (.slice none 0 0),.sc (.slice none 0 0),.sc (.slice none 0 0)])) ∧
 (yk Try.prog 35=some (57,8,[.sc (.slice none 0 0),.sc (.int .u16 0),.sc (.int .u16 0),.sc (.int .u32 0),.sc (.slice none 0 0),.sc (.slice none 0 0),.sc (.slice none 0 0),.sc (.slice none 0 0)])) ∧
 (yk Try.prog 38=some (30,5,[.sc (.slice none 0 0),.sc (.int .u16 0),.sc (.int .u16 0),.sc (.int .u32 0),.sc (.slice none 0 0)])) ∧
 (yk Try.prog 46=some (5,1,[.sc (.int .u8 0)])) ∧
 (yk Try.prog 47=some (23,1,[.sc (.slice none 0 0)])) ∧
 (yk Try.prog 48=some (27,1,[.sc (.int .u32 0)])) ∧
 (yk Try.prog 112=some (46,1,[.sc (.slice none 0 0)])):=
 ⟨by kernel_rfl,by kernel_rfl,by kernel_rfl,by kernel_rfl,by kernel_rfl,by kernel_rfl,by kernel_rfl,by kernel_rfl,by kernel_rfl⟩
theorem Vn:(xt Try.prog 30=some ([.sc (.slice none 0 0),.sc (.int .u16 0),.sc (.int .u16 0),.sc (.int .u32 0),.sc (.slice none 0 0)],[(0,1),(1,1),(2,1),(3,1),(4,1)])) ∧
 (xt Try.prog 50=some ([.sc (.slice none 0 0),.sc (.slice none 0 0),.sc (.slice none 0 0),.sc (.slice none 0 0)],[(0,1),(1,1),(2,1),(3,1)])) ∧
 (xt Try.prog 57=some ([.sc (.slice none 0 0),.sc (.int .u16 0),.sc (.int .u16 0),.sc (.int .u32 0),.sc (.slice none 0 0),.sc (.slice none 0 0),.sc (.slice none 0 0),.sc (.slice none 0 0)],[(0,1),(1,1),(2,1),(3,1),(4,4)])) ∧
 (xt Try.prog 60=some ([.sc (.string .empty),.sc (.int .u16 0),.sc (.int .u16 0)],[(0,1),(1,1),(2,1)])) ∧
 (xt Try.prog 73=some ([.sc (.int .i64 0),.sc (.int .i64 0),.sc (.int .i64 0),.sc (.int .i64 0),.sc (.int .i64 0)],[(0,1),(1,1),(2,1),(3,1),(4,1)])):=
 ⟨by kernel_rfl,by kernel_rfl,by kernel_rfl,by kernel_rfl,by kernel_rfl⟩
theorem Xf:(fj Try.prog 30 0=some ⟨"Owner",23,0,false, "", "",0⟩) ∧
 (fj Try.prog 30 1=some ⟨"Type",25,1,false, "", "",24⟩) ∧
 (fj Try.prog 30 2=some ⟨"Class",26,2,false, "", "",26⟩) ∧
 (fj Try.prog 30 3=some ⟨"TTL",27,3,false, "", "",28⟩) ∧
 (fj Try.prog 30 4=some ⟨"Data",28,4,false, "", "",32⟩):=
 ⟨by kernel_rfl,by kernel_rfl,by kernel_rfl,by kernel_rfl,by kernel_rfl⟩
theorem Up:(fj Try.prog 50 0=some ⟨"Names",47,0,false, "", "",0⟩) ∧
 (fj Try.prog 50 1=some ⟨"Nums",48,1,false, "", "",24⟩) ∧
 (fj Try.prog 50 2=some ⟨"Texts",22,2,false, "", "",48⟩) ∧
 (fj Try.prog 50 3=some ⟨"Raw",46,3,false, "", "",72⟩) ∧
 (fj Try.prog 57 0=some ⟨"Owner",23,0,false, "", "",0⟩) ∧
 (fj Try.prog 57 1=some ⟨"Type",25,1,false, "", "",24⟩) ∧
 (fj Try.prog 57 2=some ⟨"Class",26,2,false, "", "",26⟩) ∧
 (fj Try.prog 57 3=some ⟨"TTL",27,3,false, "", "",28⟩) ∧
 (fj Try.prog 57 4=some ⟨"Data",50,4,false, "", "",32⟩):=
 ⟨by kernel_rfl,by kernel_rfl,by kernel_rfl,by kernel_rfl,by kernel_rfl,by kernel_rfl,by kernel_rfl,by kernel_rfl,by kernel_rfl⟩
theorem Xp:(fj Try.prog 73 0=some ⟨"names",3,0,false, "", "nomenclator/rdata",0⟩) ∧
 (fj Try.prog 73 1=some ⟨"nums",3,1,false, "", "nomenclator/rdata",8⟩) ∧
 (fj Try.prog 73 2=some ⟨"size",3,2,false, "", "nomenclator/rdata",16⟩) ∧
 (fj Try.prog 73 3=some ⟨"texts",3,3,false, "", "nomenclator/rdata",24⟩) ∧
 (fj Try.prog 73 4=some ⟨"raw",3,4,false, "", "nomenclator/rdata",32⟩) ∧
 (fj Try.prog 85 0=some ⟨"addr",83,0,false, "", "strings",0⟩) ∧
 (fj Try.prog 85 1=some ⟨"buf",46,1,false, "", "strings",8⟩):=
 ⟨by kernel_rfl,by kernel_rfl,by kernel_rfl,by kernel_rfl,by kernel_rfl,by kernel_rfl,by kernel_rfl⟩
theorem agl:(uy Try.prog 22=some (9,1,16)) ∧
 (uy Try.prog 23=some (9,1,16)) ∧
 (uy Try.prog 28=some (50,4,96)) ∧
 (uy Try.prog 35=some (57,8,128)) ∧
 (uy Try.prog 38=some (30,5,56)) ∧
 (uy Try.prog 46=some (5,1,1)) ∧
 (uy Try.prog 47=some (23,1,24)) ∧
 (uy Try.prog 48=some (27,1,4)):=
 ⟨by kernel_rfl,by kernel_rfl,by kernel_rfl,by kernel_rfl,by kernel_rfl,by kernel_rfl,by kernel_rfl,by kernel_rfl⟩
theorem TF:type_of% aha∧type_of% ag6∧type_of% aee∧type_of% afb∧type_of% Zo∧type_of% Zu∧type_of% aaa∧type_of% aab∧type_of% afa∧type_of% Vn∧type_of% Xf∧type_of% Up∧type_of% Xp∧type_of% agl:=
 ⟨aha,ag6,aee,afb,Zo,Zu,aaa,aab,afa,Vn,Xf,Up,Xp,agl⟩
end Go.Vm
end
section
namespace Go.Proofs.Ytldcaajoheeipaa
open Go.Vm
noncomputable abbrev PP:=Try.prog
theorem mixed:PP.follows .mixedOrders=true:=by kernel_rfl
theorem bk {T:cw} (hT:ar PP T) {f:Nat} {fn:Func} (hf:PP.funcs[f]? = some fn) (hb:fn.body.isSome=true) (he:j5 PP f=true) (hs:cr fn.ntmps (fn.body.getD .skip)=true)
 {args:List AV} (hl:args.length≤fn.ntmps) {ρ:Type} (R:RC ρ) (fr:Bool) (x : ρ)
 (h:wl PP T 0 (fn.body.getD .skip) (er PP fn.results.toList (fun r st=>R.get fr st.h r=some x)) (cg 0 args) (bh [])):ca PP f args (R.E fr x):=
 Pa (body:=fn.body.getD .skip) hT mixed hf (by cases hq:fn.body with|none=>rw [hq] at hb;cases hb|some b=>rfl) he hs hl R fr x h
def gz (s:ByteArray):Int:=if s.size<1∨63<s.size then 4 else 0
theorem Sj (s:ByteArray):wl PP [] 0 (Try.f27.body.getD .skip) (er PP Try.f27.results.toList (fun r st=>(r1 (c7 .i64)).get true st.h r=some (gz s))) (cg 0 [an.val false s]) (bh []):=by
 unfold Try.f27
 simp only [↓wR,RA,simprocAttr,TF]
 rw [ew]
 refine ⟨fun h=>?_,fun h=>?_⟩
 ·have h1:s.size<1:=by simp at h;omega
  simp only [↓wR,RA,simprocAttr,TF,gz,h,h1,true_or]
 ·have h1:¬ s.size<1:=by simp at h;omega
  simp only [↓wR,RA,simprocAttr,TF,h]
  rw [ew]
  refine ⟨fun h=>?_,fun h=>?_⟩
  ·have h2 : 63<s.size:=by simp at h;omega
   simp only [↓wR,RA,simprocAttr,TF,gz,h2,or_true]
  ·have h2:¬ 63<s.size:=by simp at h;omega
   simp only [↓wR,RA,simprocAttr,TF,gz,h1,h2,or_self]
noncomputable def By (x:ByteArray × Unit):Option AV:=some ((r1 (c7 .i64)).E true (gz x.1))
set_option maxRecDepth 2000000 in
theorem Nr (x:ByteArray × Unit) (r:AV) (h:By x=some r):ca PP 27 ((aC an a0).E x) r:=by
 cases h
 exact bk (ar.nil PP) Try.func27 (by kernel_rfl) (by kernel_rfl) (by kernel_rfl) (Nat.le_of_ble_eq_true (by kernel_rfl)) (r1 (c7 .i64)) true (gz x.1) (Sj x.1)
noncomputable abbrev ada:Nat × Bool × (List AV→M AV):=(27,true,dw (aC an a0) By)
def bj (n:Name):Nat:=n.foldl (fun k s=>k+(s.size+1)) 1
theorem Sy (l:Name) (c:ByteArray):bj (l++[c])=bj l+(c.size+1):=by simp [bj]
theorem Sm (n:Name) (i:Nat) (c:ByteArray) (h:n[i]? = some c):bj (n.take (i+1))=bj (n.take i)+(c.size+1):=by
 obtain ⟨hk,rfl⟩:=List.getElem?_eq_some_iff.1 h
 rw [List.take_succ_eq_append_getElem hk,Sy]
theorem yh (l:Name):∀ k,l.foldl (fun k s=>k+(s.size+1)) k=k+l.foldl (fun k s=>k+(s.size+1)) 0:=by
 induction l with
 |nil=>intro k;simp
 |cons a l ih=>intro k;simp only [List.foldl_cons];rw [ih,ih (0+_)];omega
theorem oi (a b:Name):bj (a++b)+1=bj a+bj b:=by
 simp only [bj,List.foldl_append]
 rw [yh b,yh b 1];omega
theorem lx (n:Name) (i:Nat):bj (n.take i)≤bj n∧n.length<bj n:=by
 constructor
 ·have:=oi (n.take i) (n.drop i)
  rw [List.take_append_drop] at this
  have h1 : 1≤bj (n.drop i):=by simp only [bj];rw [yh];omega
  omega
 ·induction n with
  |nil=>simp [bj]
  |cons a l ih=>
   have:=oi [a] l
   simp only [List.singleton_append] at this
   have h1:bj [a]=a.size+2:=by simp [bj];omega
   simp only [List.length_cons]
   omega
theorem wrap_i64 (x:Int) (h0 : -9223372036854775808≤x) (h1:x<9223372036854775808):IntKind.i64.wrap x=x:=by
 simp [IntKind.wrap,IntKind.bits,IntKind.signed];omega
theorem Ye (n:Name) (hn:bj n<17592186044416):wl PP [] 0 (Try.f28.body.getD .skip) (er PP Try.f28.results.toList (fun r st=>(r1 (c7 .i64)).get true st.h r=some (bj n:Int))) (cg 0 [aw.val false n]) (bh []):=by
 unfold Try.f28
 rw [dc]
 simp only [↓wR,RA,simprocAttr,TF]
 refine dq [3,6,7,8] (fun (x:Nat)=>[.sc (.int .i64 (bj (n.take x))),.vl false 1 (n.map (an.val false)),.sc (.int .i64 n.length),.sc (.int .i64 x)]) (fun _=>[]) (fun x=>x≤n.length) (fun x=>n.length - x) 0 (Nat.zero_le _) ?_ ?_ ?_
 ·simp only [↓wR,RA,simprocAttr,TF]<;>rfl
 ·simp only [↓wR,RA,simprocAttr,TF]
 ·intro i hi
  have h1:=lx n i
  simp only [↓wR,RA,simprocAttr,TF]
  rw [ew]
  refine ⟨fun h=>?_,fun h=>?_⟩
  ·have h4:i<n.length:=by simp at h;omega
   obtain ⟨c,hc⟩:∃ c,n[i]? = some c:=⟨n[i],by simp [h4]⟩
   have h2:=Sm n i c hc
   have h3:=(lx n (i+1)).1
   simp only [↓wR,RA,simprocAttr,TF,hc]
   refine ⟨i+1,by omega,by omega,?_⟩
   rw [h2]
   simp only [List.cons.injEq,and_true,true_and,AV.sc.injEq,Value.int.injEq]
   refine ⟨?_,?_⟩
   ·rw [wrap_i64 ((c.size:Int)+1) (by omega) (by omega),wrap_i64 _ (by omega) (by omega)];omega
   ·rw [wrap_i64 _ (by omega) (by omega)];omega
  ·have h4:i=n.length:=by simp at h;omega
   subst h4
   simp only [↓wR,RA,simprocAttr,TF,List.take_length]
noncomputable def v8 (x:Name × Unit):Option AV:=if bj x.1<17592186044416 then some ((r1 (c7 .i64)).E true ((bj x.1:Int))) else none
set_option maxRecDepth 2000000 in
theorem Ov (x:Name × Unit) (r:AV) (h:v8 x=some r):ca PP 28 ((aC aw a0).E x) r:=by
 by_cases hc:bj x.1<17592186044416
 case neg=>simp only [v8,if_neg hc] at h;cases h
 simp only [v8,if_pos hc] at h
 cases h
 exact bk (ar.nil PP) Try.func28 (by kernel_rfl) (by kernel_rfl) (by kernel_rfl) (Nat.le_of_ble_eq_true (by kernel_rfl)) (r1 (c7 .i64)) true ((bj x.1:Int)) (Ye x.1 hc)
noncomputable abbrev aes:Nat × Bool × (List AV→M AV):=(28,true,dw (aC aw a0) v8)
def pn (n:Name):Bool:=n.any fun s=>decide (gz s≠0)
def di (n:Name):Int:=if pn n then 4 else if 255<bj n then 5 else 0
theorem Xx (n:Name) (i:Nat) (c:ByteArray) (h:n[i]? = some c):pn (n.take (i+1))=(pn (n.take i) || decide (gz c≠0)):=by
 obtain ⟨hk,rfl⟩:=List.getElem?_eq_some_iff.1 h
 rw [List.take_succ_eq_append_getElem hk]
 simp only [pn,List.any_append,List.any_cons,List.any_nil,Bool.or_false]
theorem Vu (n:Name) (i:Nat) (c:ByteArray) (h:n[i]? = some c) (hc:gz c≠0):pn n=true:=by
 simp only [pn,List.any_eq_true]
 exact ⟨c,List.mem_of_getElem? h,by simp [hc]⟩
theorem Wz (s:ByteArray):gz s=0∨gz s=4:=by unfold gz;split<;>simp
theorem Vz (n:Name) (hn:bj n<17592186044416):wl PP [ada,aes] 0 (Try.f14.body.getD .skip) (er PP Try.f14.results.toList (fun r st=>(r1 (c7 .i64)).get true st.h r=some (di n))) (cg 0 [aw.val false n]) (bh []):=by
 unfold Try.f14
 rw [dc]
 simp only [↓wR,RA,simprocAttr,TF]
 refine dq [0,6,7,8] (fun (x:Nat)=>[.vl false 1 (n.map (an.val false)),.vl false 1 (n.map (an.val false)),.sc (.int .i64 n.length),.sc (.int .i64 x)]) (fun _=>[]) (fun x=>x≤n.length∧pn (n.take x)=false) (fun x=>n.length - x) 0 ⟨Nat.zero_le _,by simp [pn]⟩ ?_ ?_ ?_
 ·simp only [↓wR,RA,simprocAttr,TF]<;>rfl
 ·simp only [↓wR,RA,simprocAttr,TF]
 ·rintro i ⟨hi,hb⟩
  have h1:=lx n i
  simp only [↓wR,RA,simprocAttr,TF]
  rw [ew]
  refine ⟨fun h=>?_,fun h=>?_⟩
  ·have h4:i<n.length:=by simp at h;omega
   obtain ⟨c,hc⟩:∃ c,n[i]? = some c:=⟨n[i],by simp [h4]⟩
   simp only [↓wR,RA,simprocAttr,TF,hc,By]
   rw [ew]
   refine ⟨fun h=>?_,fun h=>?_⟩
   ·have h5:gz c≠0:=by simpa using h
    have h6:gz c=4:=(Wz c).resolve_left h5
    simp only [↓wR,RA,simprocAttr,TF,di,Vu n i c hc h5,h6]
   ·have h5:gz c=0:=by simpa using h
    simp only [↓wR,RA,simprocAttr,TF]
    refine ⟨i+1,⟨by omega,by rw [Xx n i c hc,hb];simp [h5]⟩,by omega,?_⟩
    simp only [List.cons.injEq,and_true,true_and,AV.sc.injEq,Value.int.injEq]
    rw [wrap_i64 _ (by omega) (by omega)];omega
  ·have h4:i=n.length:=by simp at h;omega
   subst h4
   rw [List.take_length] at hb
   simp only [↓wR,RA,simprocAttr,TF,v8,hn]
   rw [ew]
   refine ⟨fun h=>?_,fun h=>?_⟩
   ·have h5 : 255<bj n:=by simp at h;omega
    simp only [↓wR,RA,simprocAttr,TF,di,hb,h5]
   ·have h5:¬ 255<bj n:=by simp at h;omega
    simp only [↓wR,RA,simprocAttr,TF,di,hb,h5]
noncomputable def kq (x:Name × Unit):Option AV:=if bj x.1<17592186044416 then some ((r1 (c7 .i64)).E true (di x.1)) else none
set_option maxRecDepth 2000000 in
theorem sq (x:Name × Unit) (r:AV) (h:kq x=some r):ca PP 14 ((aC aw a0).E x) r:=by
 by_cases hc:bj x.1<17592186044416
 case neg=>simp only [kq,if_neg hc] at h;cases h
 simp only [kq,if_pos hc] at h
 cases h
 exact bk (ar.cons (ay Nr) (ar.cons (ay Ov) (ar.nil PP))) Try.func14 (by kernel_rfl) (by kernel_rfl) (by kernel_rfl) (Nat.le_of_ble_eq_true (by kernel_rfl)) (r1 (c7 .i64)) true (di x.1) (Vz x.1 hc)
noncomputable abbrev xz:Nat × Bool × (List AV→M AV):=(14,true,dw (aC aw a0) kq)
def low (c:UInt8):UInt8:=if 65≤c∧c≤90 then c+32 else c
def fold (s:ByteArray):ByteArray:=⟨(s.data.toList.map low).toArray⟩
def lb (l:List UInt8) (i:Nat):List UInt8:=(l.take i).map low++l.drop i
theorem aeh (l:List UInt8) (i:Nat):(lb l i).length=l.length:=by simp [lb];omega
theorem P9 (l:List UInt8) (i:Nat) (h:i<l.length):(lb l i)[i]? = l[i]? := by
 simp [lb,List.getElem?_append,Nat.min_eq_left (Nat.le_of_lt h)]
theorem Qa (l:List UInt8) (i:Nat) (h:i<l.length):(lb l i).take i++[low l[i]]++(lb l i).drop (i+1)=lb l (i+1):=by
 have h1:((l.take i).map low).length=i:=by simp;omega
 have h2:(lb l i).take i=(l.take i).map low:=by rw [lb,List.take_append_of_le_length (by omega),List.take_of_length_le (by omega)]
 have h3:(lb l i).drop (i+1)=l.drop (i+1):=by
  rw [lb,List.drop_append,List.drop_eq_nil_of_le (by omega),h1]
  simp
 rw [h2,h3,lb,List.take_succ_eq_append_getElem h,List.map_append]
 rfl
theorem N0 (l:List UInt8) (i:Nat) (h:i<l.length) (hk:low l[i]=l[i]):lb l i=lb l (i+1):=by
 rw [← Qa l i h,hk]
 have:(lb l i)[i]? = some l[i]:=by rw [P9 l i h];simp [h]
 obtain ⟨hlt,e⟩:=List.getElem?_eq_some_iff.1 this
 rw [← e,← List.take_succ_eq_append_getElem hlt,List.take_append_drop]
set_option maxRecDepth 20000 in
theorem To (s:ByteArray) (hs:s.size≤16777216):wl PP [] 0 (Try.f58.body.getD .skip) (er PP Try.f58.results.toList (fun r st=>(r1 an).get true st.h r=some (fold s))) (cg 0 [an.val false s]) (bh []):=by
 unfold Try.f58
 have hl:s.data.toList.length=s.size:=by simp
 simp only [↓wR,RA,simprocAttr,TF,hs]
 refine dq [3,8,9,10] (fun (x:Nat)=>[.sl 0 0 s.size 1,.sl 0 0 s.size 1,.sc (.int .i64 s.size),.sc (.int .i64 x)]) (fun x=>[some (.row ((lb s.data.toList x).map (ba.val false)) 0 1 5)]) (fun x=>x≤s.size) (fun x=>s.size - x) 0 (Nat.zero_le _) ?_ ?_ ?_
 ·simp only [↓wR,RA,simprocAttr,TF]<;>rfl
 ·simp only [↓wR,RA,simprocAttr,TF]<;>rfl
 ·intro i hi
  simp only [↓wR,RA,simprocAttr,TF]
  rw [ew]
  refine ⟨fun h=>?_,fun h=>?_⟩
  ·have h4:i<s.size:=by simp at h;omega
   have h6:i<s.data.toList.length:=by omega
   have h5:(lb s.data.toList i)[i]? = some s.data.toList[i]:=by rw [P9 s.data.toList i h6];simp [h6]
   obtain ⟨c,hc⟩:∃ c,s.data.toList[i]=c:=⟨_,rfl⟩
   have hcl:=c.toNat_lt
   rw [hc] at h5
   simp only [↓wR,RA,simprocAttr,TF,h4,h5]
   rw [ew]
   refine ⟨fun h1=>?_,fun h1=>?_⟩
   ·simp only [↓wR,RA,simprocAttr,TF,h1]
    rw [ew]
    refine ⟨fun h2=>?_,fun h2=>?_⟩
    ·have h7:i+1≤s.size:=by omega
     have hlow:low c=c+32:=by
      simp at h1 h2
      have a1 : 65≤c:=by rw [UInt8.le_iff_toNat_le];simp;omega
      have a2:c≤90:=by rw [UInt8.le_iff_toNat_le];simp;omega
      simp [low,a1,a2]
     have hw:IntKind.u8.wrap (IntKind.u8.wrap ((c.toNat:Int)+97) - 65)=((low c).toNat:Int):=by
      simp at h1 h2
      rw [hlow]
      simp [IntKind.wrap,IntKind.bits,IntKind.signed,UInt8.toNat_add]
      omega
     have hst:List.map (ba.val false) (List.take i (lb s.data.toList i))++[AV.sc (Value.int IntKind.u8 ((low c).toNat:Int))]++List.map (ba.val false) (List.drop (i+1) (lb s.data.toList i))=List.map (ba.val false) (lb s.data.toList (i+1)):=by
      rw [← Qa s.data.toList i h6,hc,List.map_append,List.map_append];rfl
     simp only [↓wR,RA,simprocAttr,TF,h4,h7,aeh,hl,hw,hst]
     refine ⟨i+1,h7,by omega,?_,rfl⟩
     rw [wrap_i64 _ (by omega) (by omega)];rfl
    ·simp only [↓wR,RA,simprocAttr,TF]
     have hk:low c=c:=by
      simp at h2
      have a2:¬ c≤90:=by rw [UInt8.le_iff_toNat_le];simp;omega
      simp [low,a2]
     refine ⟨i+1,by omega,by omega,?_,?_⟩
     ·rw [wrap_i64 _ (by omega) (by omega)];rfl
     ·rw [N0 s.data.toList i h6 (by rw [hc];exact hk)]
   ·simp only [↓wR,RA,simprocAttr,TF,h1]
    have hk:low c=c:=by
     simp at h1
     have a2:¬ 65≤c:=by rw [UInt8.le_iff_toNat_le];simp;omega
     simp [low,a2]
    refine ⟨i+1,by omega,by omega,?_,?_⟩
    ·rw [wrap_i64 _ (by omega) (by omega)];rfl
    ·rw [N0 s.data.toList i h6 (by rw [hc];exact hk)]
  ·have h4:i=s.size:=by simp at h;omega
   subst h4
   have:∃ m,List.map low s.data.toList=m:=⟨_,rfl⟩
   obtain ⟨m,hm⟩:=this
   have h5:lb s.data.toList s.size=m:=by rw [lb,List.take_of_length_le (Nat.le_of_eq hl),List.drop_eq_nil_of_le (Nat.le_of_eq hl),List.append_nil,hm]
   have hlm:m.length=s.size:=by rw [← hm,List.length_map,hl]
   have h6:List.take s.size (List.map (ba.val false) m)=List.map (ba.val false) m:=List.take_of_length_le (by rw [List.length_map,hlm];exact Nat.le_refl _)
   have hf:fold s=⟨m.toArray⟩:=by rw [fold,hm]
   rw [h5,hf]
   simp only [↓wR,RA,simprocAttr,TF,hlm,h6]
noncomputable def s5 (x:ByteArray × Unit):Option AV:=if x.1.size≤16777216 then some ((r1 an).E true (fold x.1)) else none
set_option maxRecDepth 2000000 in
theorem Cu (x:ByteArray × Unit) (r:AV) (h:s5 x=some r):ca PP 58 ((aC an a0).E x) r:=by
 by_cases hc:x.1.size≤16777216
 case neg=>simp only [s5,if_neg hc] at h;cases h
 simp only [s5,if_pos hc] at h
 cases h
 exact bk (ar.nil PP) Try.func58 (by kernel_rfl) (by kernel_rfl) (by kernel_rfl) (Nat.le_of_ble_eq_true (by kernel_rfl)) (r1 an) true (fold x.1) (To x.1 hc)
noncomputable abbrev Qw:Nat × Bool × (List AV→M AV):=(58,true,dw (aC an a0) s5)
theorem Wl (a b:ByteArray) (ha:a.size≤16777216) (hb:b.size≤16777216):wl PP [Qw] 0 (Try.f68.body.getD .skip) (er PP Try.f68.results.toList (fun r st=>(r1 cd).get true st.h r=some (decide (fold a=fold b)))) (cg 0 [an.val false a,an.val false b]) (bh []):=by
 unfold Try.f68
 simp only [↓wR,RA,simprocAttr,TF,s5,ha,hb]
noncomputable def vz (x:ByteArray × ByteArray × Unit):Option AV:=if x.1.size≤16777216∧x.2.1.size≤16777216 then some ((r1 cd).E true (decide (fold x.1=fold x.2.1))) else none
set_option maxRecDepth 2000000 in
theorem Pf (x:ByteArray × ByteArray × Unit) (r:AV) (h:vz x=some r):ca PP 68 ((aC an (aC an a0)).E x) r:=by
 by_cases hc:x.1.size≤16777216∧x.2.1.size≤16777216
 case neg=>simp only [vz,if_neg hc] at h;cases h
 simp only [vz,if_pos hc] at h
 cases h
 exact bk (ar.cons (ay Cu) (ar.nil PP)) Try.func68 (by kernel_rfl) (by kernel_rfl) (by kernel_rfl) (Nat.le_of_ble_eq_true (by kernel_rfl)) (r1 cd) true (decide (fold x.1=fold x.2.1)) (Wl x.1 x.2.1 hc.1 hc.2)
noncomputable abbrev ae4:Nat × Bool × (List AV→M AV):=(68,true,dw (aC an (aC an a0)) vz)
def pj:List ByteArray→List ByteArray→Nat
 |a::r,b::q=>if fold a=fold b then pj r q+1 else 0
 |_,_=>0
theorem Ym (l:List ByteArray):pj l []=0:=by cases l<;>rfl
def common (a b:Name):Nat:=pj a.reverse b.reverse
theorem Xz {l:List ByteArray} {x:Nat} {c:ByteArray} (h:x<l.length) (hc:l[l.length - 1 - x]? = some c):l.reverse.drop x=c::l.reverse.drop (x+1):=by
 have h1:l.reverse[x]? = some c:=by rw [List.getElem?_reverse h];exact hc
 obtain ⟨h2,h3⟩:=List.getElem?_eq_some_iff.1 h1
 rw [← h3];exact List.drop_eq_getElem_cons h2
set_option maxRecDepth 20000 in
theorem Sx (a b:Name) (ha:∀ s ∈ a,s.size≤16777216) (hb:∀ s ∈ b,s.size≤16777216) (hla:a.length<17592186044416) (hlb:b.length<17592186044416):wl PP [ae4] 0 (Try.f60.body.getD .skip) (er PP Try.f60.results.toList (fun r st=>(r1 (c7 .i64)).get true st.h r=some (common a b:Int))) (cg 0 [aw.val false a,aw.val false b]) (bh []):=by
 unfold Try.f60
 simp only [dc]
 simp only [↓wR,RA,simprocAttr,TF]
 refine c8 (T:=[]) (ar.nil PP) mixed Try.func67 rfl (by kernel_rfl) (by kernel_rfl) (by kernel_rfl) (by kernel_rfl) ?_;unfold Try.f67
 simp only [↓wR,RA,simprocAttr,TF]
 refine ⟨[2,3,4,5,10],?_⟩
 have hib:xq PP 70=some (Try.f70.ntmps,Try.f70.body.getD .skip):=by kernel_rfl
 simp only [↓wR,RA,simprocAttr,TF,hib]
 refine ⟨by kernel_rfl,fun l=>?_⟩
 unfold Try.f70
 simp only [↓wR,RA,simprocAttr,TF]
 refine aer [0,1,3] (fun (x:Nat)=>[.sc (.func (.yield l) #[] #[]),.ptr 4 0,.sc (.int .i64 ((a.length:Int) - 1 - x))]) (fun x=>[some (.row [.vl false 1 (a.map (an.val false))] 0 2 23),some (.row [.vl false 1 (b.map (an.val false))] 0 2 23),some (.row [.sc (.int .i64 0)] 0 2 3),some (.row [.sc (.int .i64 x)] 0 2 3),some (.row [.vl false 1 (a.map (an.val false))] 0 2 23)]) (fun x=>x≤a.length∧common a b=x+pj (a.reverse.drop x) (b.reverse.drop x)) (fun x=>a.length - x) 0 ⟨Nat.zero_le _,by simp [common]⟩ ?_ ?_ ?_
 ·simp only [↓wR,RA,simprocAttr,TF];simp;rw [wrap_i64 _ (by omega) (by omega)]
 ·simp only [↓wR,RA,simprocAttr,TF]<;>rfl
 rintro x ⟨hx,hR⟩
 simp only [↓wR,RA,simprocAttr,TF]
 rw [ak0];refine ⟨fun h=>?_,fun h=>?_⟩
 ·have hx':x<a.length:=by simp at h;omega
  obtain ⟨c,hc⟩:∃ c,a[a.length - 1 - x]? = some c:=⟨_,List.getElem?_eq_getElem (by omega)⟩
  have e:((a.length:Int) - 1 - x).toNat=a.length - 1 - x:=by omega
  have e2:(0:Int)≤(a.length:Int) - 1 - x:=by omega
  simp only [↓wR,RA,simprocAttr,TF,e,hc,e2]
  refine ad4 [0,1,3,12,16] ?_
  simp only [↓wR,RA,simprocAttr,TF,Lh,wa,hc]
  simp (disch:=omega) only [aj,bt,br,bw,bu]
  rw [ew];refine ⟨fun h1=>?_,fun h1=>?_⟩
  ·have hb0:b.length≤x:=by simp at h1;omega
   have hb1:b.reverse.drop x=[]:=List.drop_eq_nil_of_le (by simpa using hb0)
   rw [hb1,Ym] at hR
   simp only [↓wR,RA,simprocAttr,TF,h1]
   rw [hR,Nat.add_zero]
  ·have hb0:x<b.length:=by simp at h1;omega
   obtain ⟨d,hd⟩:∃ d,b[b.length - 1 - x]? = some d:=⟨_,List.getElem?_eq_getElem (by omega)⟩
   have e4:((b.length:Int) - ((a.length:Int) - ((a.length:Int) - 1 - x))).toNat=b.length - 1 - x:=by omega
   have e5:(0:Int)≤(b.length:Int) - ((a.length:Int) - ((a.length:Int) - 1 - x)):=by omega
   simp only [↓wR,RA,simprocAttr,TF,h1,hd,e4,e5,vz,ha c (List.mem_of_getElem? hc),hb d (List.mem_of_getElem? hd)]
   rw [Xz hx' hc,Xz hb0 hd,pj] at hR
   rw [ew];refine ⟨fun h2=>?_,fun h2=>?_⟩
   ·have h3:¬ fold c=fold d:=by simpa using h2
    rw [if_neg h3] at hR
    simp only [↓wR,RA,simprocAttr,TF,h2]
    rw [hR,Nat.add_zero]
   ·have h3:fold c=fold d:=by simpa using h2
    rw [if_pos h3] at hR
    simp only [↓wR,RA,simprocAttr,TF,h2]
    refine ⟨x+1,⟨by omega,by omega⟩,by omega,?_,?_⟩
    ·simp only [List.cons.injEq,and_true,true_and,AV.sc.injEq,Value.int.injEq]
     simp (disch:=omega) only [aj,bt,br,bw,bu]
     omega
    ·simp (disch:=omega) only [aj,bt,br,bw,bu]
     rfl
 ·have h4:x=a.length:=by simp at h;omega
  have h5:a.reverse.drop x=[]:=List.drop_eq_nil_of_le (by simp;omega)
  rw [h5,pj] at hR
  simp only [↓wR,RA,simprocAttr,TF,h]
  rw [hR,Nat.add_zero]
  all_goals simp
noncomputable def ap9 (a b:ByteArray):Int:=Lib.compareBytes a.data.toList b.data.toList
def fe (n:Name):List ByteArray:=n.map fold
def dk (n:Name):Prop:=bj n≤16777216
instance (n:Name):Decidable (dk n):=inferInstanceAs (Decidable (_≤_))
theorem Ty {n:Name} {s:ByteArray} (h:s ∈ n):s.size<bj n:=by
 obtain ⟨a,b,rfl⟩:=List.append_of_mem h
 have h1:=oi a ([s]++b)
 have h2:=oi [s] b
 have h3:bj [s]=s.size+2:=by simp [bj];omega
 have h4:∀ l:Name,1≤bj l:=fun l=>by have:=(lx l 0).2;omega
 have:=h4 a;have:=h4 b
 simp only [List.singleton_append] at h1 h2
 omega
theorem dk.label {n:Name} (h:dk n):∀ s ∈ n,s.size≤16777216:=fun s hs=>by have:=Ty hs;unfold dk at h;omega
theorem dk.len {n:Name} (h:dk n):n.length<17592186044416:=by have:=(lx n 0).2;unfold dk at h;omega
theorem Jr:∀ r q:List ByteArray,pj r q=q.length↔q.map fold <+: r.map fold
 | [],[]=>by simp [pj]
 |a::r,[]=>by simp [pj]
 | [],b::q=>by simp [pj]
 |a::r,b::q=>by
  have:=Jr r q
  simp only [pj,List.length_cons,List.map_cons,List.cons_prefix_cons]
  by_cases h:fold a=fold b
  ·rw [if_pos h]
   constructor
   ·intro h1;exact ⟨h.symm,this.1 (by omega)⟩
   ·intro h1;have:=this.2 h1.2;omega
  ·rw [if_neg h]
   constructor
   ·intro h1;omega
   ·intro h1;exact (h h1.1.symm).elim
theorem Hk (n top:Name):common n top=top.length↔fe top <:+ fe n:=by
 unfold common fe
 rw [← List.length_reverse,Jr,List.map_reverse,List.map_reverse,List.reverse_prefix]
theorem Ir (a b:Name):(a.length=b.length∧common a b=a.length)↔fe a=fe b:=by
 constructor
 ·rintro ⟨h1,h2⟩
  rw [h1] at h2
  have:=(Hk a b).1 h2
  exact (this.eq_of_length (by simp [fe,h1])).symm
 ·intro h
  have hl:a.length=b.length:=by have:=congrArg List.length h;simpa [fe] using this
  refine ⟨hl,?_⟩
  rw [hl]
  exact (Hk a b).2 (by rw [h];exact List.suffix_refl _)
def lz (a b:Name):Bool:=decide (fe a=fe b)
def zr (n top:Name):Bool:=decide (fe top <:+ fe n)
noncomputable def qt (x:Name × Name × Unit):Option AV:=if dk x.1∧dk x.2.1 then some ((r1 (c7 .i64)).E true ((common x.1 x.2.1:Int))) else none
set_option maxRecDepth 2000000 in
theorem Ms (x:Name × Name × Unit) (r:AV) (h:qt x=some r):ca PP 60 ((aC aw (aC aw a0)).E x) r:=by
 by_cases hc:dk x.1∧dk x.2.1
 case neg=>simp only [qt,if_neg hc] at h;cases h
 simp only [qt,if_pos hc] at h
 cases h
 exact bk (ar.cons (ay Pf) (ar.nil PP)) Try.func60 (by kernel_rfl) (by kernel_rfl) (by kernel_rfl) (Nat.le_of_ble_eq_true (by kernel_rfl)) (r1 (c7 .i64)) true ((common x.1 x.2.1:Int)) (Sx x.1 x.2.1 hc.1.label hc.2.label hc.1.len hc.2.len)
noncomputable abbrev acz:Nat × Bool × (List AV→M AV):=(60,true,dw (aC aw (aC aw a0)) qt)
theorem Yc (n top:Name) (hn:dk n) (ht:dk top):wl PP [acz] 0 (Try.f45.body.getD .skip) (er PP Try.f45.results.toList (fun r st=>(r1 cd).get true st.h r=some (lz n top))) (cg 0 [aw.val false n,aw.val false top]) (bh []):=by
 unfold Try.f45
 simp only [dc]
 simp only [↓wR,RA,simprocAttr,TF,qt,hn,ht]
 rw [ew];refine ⟨fun h=>?_,fun h=>?_⟩
 ·have hl:n.length=top.length:=by simp at h;omega
  simp only [↓wR,RA,simprocAttr,TF,h,qt,hn,ht]
  congr 1
  unfold lz
  have:=Ir n top
  rw [Bool.eq_iff_iff];simp [← this,hl];omega
 ·have hl:¬ n.length=top.length:=by simp at h;omega
  simp only [↓wR,RA,simprocAttr,TF,h]
  have:=Ir n top
  simp [lz,← this,hl]
noncomputable def xx (x:Name × Name × Unit):Option AV:=if dk x.1∧dk x.2.1 then some ((r1 cd).E true (lz x.1 x.2.1)) else none
set_option maxRecDepth 2000000 in
theorem S5 (x:Name × Name × Unit) (r:AV) (h:xx x=some r):ca PP 45 ((aC aw (aC aw a0)).E x) r:=by
 by_cases hc:dk x.1∧dk x.2.1
 case neg=>simp only [xx,if_neg hc] at h;cases h
 simp only [xx,if_pos hc] at h
 cases h
 exact bk (ar.cons (ay Ms) (ar.nil PP)) Try.func45 (by kernel_rfl) (by kernel_rfl) (by kernel_rfl) (Nat.le_of_ble_eq_true (by kernel_rfl)) (r1 cd) true (lz x.1 x.2.1) (Yc x.1 x.2.1 hc.1 hc.2)
noncomputable abbrev ah3:Nat × Bool × (List AV→M AV):=(45,true,dw (aC aw (aC aw a0)) xx)
noncomputable def aox (a b:Name) (k:Nat):Int:=
 match a[a.length - 1 - k]?,b[b.length - 1 - k]? with
 |some x,some y=>ap9 (fold x) (fold y)
 |_,_=>0
noncomputable def aqb (a b:Name):Int:=
 if common a b=a.length∧common a b=b.length then 0 else if common a b=a.length then -1 else if common a b=b.length then 1 else aox a b (common a b)
theorem dk.lt {n:Name} (h:dk n):n.length<16777216:=by have:=(lx n 0).2;unfold dk at h;omega
theorem Yg (n:Name) (hn:dk n):wl PP [] 0 (Try.f17.body.getD .skip) (er PP Try.f17.results.toList (fun r st=>(r1 aw).get true st.h r=some n)) (cg 0 [aw.val false n]) (bh []):=by
 unfold Try.f17
 simp only [dc]
 have hlim:n.length * 16≤140737488355328:=by have:=hn.lt;omega
 simp only [↓wR,RA,simprocAttr,TF,hlim]
noncomputable def l9 (x:Name × Unit):Option AV:=if dk x.1 then some ((r1 aw).E true (x.1)) else none
set_option maxRecDepth 2000000 in
theorem qi (x:Name × Unit) (r:AV) (h:l9 x=some r):ca PP 17 ((aC aw a0).E x) r:=by
 by_cases hc:dk x.1
 case neg=>simp only [l9,if_neg hc] at h;cases h
 simp only [l9,if_pos hc] at h
 cases h
 exact bk (ar.nil PP) Try.func17 (by kernel_rfl) (by kernel_rfl) (by kernel_rfl) (Nat.le_of_ble_eq_true (by kernel_rfl)) (r1 aw) true (x.1) (Yg x.1 hc)
noncomputable abbrev wj:Nat × Bool × (List AV→M AV):=(17,true,dw (aC aw a0) l9)
theorem aiw {n:Name} {i:Nat} {c:ByteArray} (hc:n[i]? = some c):fe (n.drop i)=fold c::fe (n.drop (i+1)):=by rw [Oh hc];rfl
theorem Y9 (n:Name) (hn:dk n):wl PP [Qw] 0 (Try.f39.body.getD .skip) (er PP Try.f39.results.toList (fun r st=>(r1 aw).get true st.h r=some (fe n))) (cg 0 [aw.val false n]) (bh []):=by
 unfold Try.f39
 simp only [dc]
 have hln:=hn.lt
 simp only [↓wR,RA,simprocAttr,TF]
 refine om [6,7,8,3] (fun (x:List ByteArray)=>[.vl false 1 (n.map (an.val false)),.sc (.int .i64 n.length),.sc (.int .i64 x.length),.sl 0 0 x.length 1]) (fun x=>[some (.row (x.map (an.val false)) 0 0 9)]) (fun x=>x++fe (n.drop x.length)=fe n∧x.length≤n.length) (fun x=>n.length - x.length) [] ⟨rfl,Nat.zero_le _⟩ (by simp only [↓wR,RA,simprocAttr,TF];(refine v7.lax [] (by first|exact Nat.le_of_ble_eq_true rfl|(simp [bo];omega)) ?_ ?_<;>repeat' first|exact kj.nil|exact dn.nil|exact mf.same _|exact mf.nil _ _ _|exact mf.Br _ _|exact dn.refl _ _|apply kj.cons|apply dn.ghost|apply dn.same|apply dn.row)) ?_
 rintro x ⟨hR,hx⟩
 simp only [↓wR,RA,simprocAttr,TF]
 rw [ew];refine ⟨fun h=>?_,fun h=>?_⟩
 ·obtain ⟨c,hc,hd,hlt⟩:=ik h
  have hlim:(x.length+1) * 16≤140737488355328:=by omega
  simp only [↓wR,RA,simprocAttr,TF,hc,s5,hn.label c (List.mem_of_getElem? hc),hlim]
  refine ⟨x++[fold c],⟨?_,by simp;omega⟩,by simp;omega,by (first|rfl|trivial|omega|((try (simp (disch:=omega) only [aj]));(try (simp only [FB]));first|done|rfl|omega)),by (first|rfl|trivial|omega|((try (simp (disch:=omega) only [aj]));(try (simp only [FB]));first|done|rfl|omega))⟩
  rw [← hR,aiw hc];simp
 ·rw [oj h] at hR
  simp only [↓wR,RA,simprocAttr,TF,h]
  simpa [fe] using hR
noncomputable def uj (x:Name × Unit):Option AV:=if dk x.1 then some ((r1 aw).E true (fe x.1)) else none
set_option maxRecDepth 2000000 in
theorem E6 (x:Name × Unit) (r:AV) (h:uj x=some r):ca PP 39 ((aC aw a0).E x) r:=by
 by_cases hc:dk x.1
 case neg=>simp only [uj,if_neg hc] at h;cases h
 simp only [uj,if_pos hc] at h
 cases h
 exact bk (ar.cons (ay Cu) (ar.nil PP)) Try.func39 (by kernel_rfl) (by kernel_rfl) (by kernel_rfl) (Nat.le_of_ble_eq_true (by kernel_rfl)) (r1 aw) true (fe x.1) (Y9 x.1 hc)
noncomputable abbrev Vc:Nat × Bool × (List AV→M AV):=(39,true,dw (aC aw a0) uj)
theorem Ss {n:Name} (h:di n=0):bj n≤255:=by
 unfold di at h
 split at h
 ·cases h
 ·split at h
  ·cases h
  ·omega
theorem dk.fit {n:Name} (h:dk n):bj n<17592186044416:=by unfold dk at h;omega
def ac2:ByteArray:=⟨#[42]⟩
def g9 (s:ByteArray):List UInt8:=UInt8.ofNat s.size::s.data.toList
def nameBytes (n:Name):List UInt8:=n.flatMap g9++[0]
def oy (n:Name):List UInt8:=if di n≠0 then [] else nameBytes n
theorem C5 (s):(g9 s).length=s.size+1:=by simp [g9]
theorem n8 (n:Name):(n.flatMap g9).length+1=bj n:=by
 induction n with
 |nil=>rfl
 |cons a l ih=>
  have:=oi [a] l
  have h3:bj [a]=a.size+2:=by simp [bj];omega
  simp only [List.singleton_append] at this
  simp only [List.flatMap_cons,List.length_append,C5]
  omega
theorem W3 (n:Name) (hn:dk n):wl PP [xz] 0 (Try.f55.body.getD .skip) (er PP Try.f55.results.toList (fun r st=>(r2 (b7 ba) (c7 .i64)).get true st.h r=some (oy n,di n))) (cg 0 [aw.val false n]) (bh []):=by
 unfold Try.f55
 simp only [dc]
 have hln:=hn.lt
 simp only [↓wR,RA,simprocAttr,TF,kq,hn.fit]
 rw [ew];refine ⟨fun h=>?_,fun h=>?_⟩
 ·have he:di n≠0:=by simpa using h
  have hb:oy n=[]:=if_pos he
  simp only [↓wR,RA,simprocAttr,TF,hb]
 have he:di n=0:=by simpa using h
 have hb:oy n=nameBytes n:=if_neg (by omega)
 rw [hb,he]
 simp only [↓wR,RA,simprocAttr,TF]
 refine om [13,14,15,5] (fun (x:Nat × List UInt8)=>[.vl false 1 (n.map (an.val false)),.sc (.int .i64 n.length),.sc (.int .i64 x.1),.sl 0 0 x.2.length 1]) (fun x=>[some (.row (x.2.map (ba.val false)) 0 0 5)]) (fun x=>x.2++(n.drop x.1).flatMap g9=n.flatMap g9∧x.1≤n.length) (fun x=>n.length - x.1) (0,[]) ⟨rfl,Nat.zero_le _⟩ (by simp only [↓wR,RA,simprocAttr,TF];(refine v7.lax [] (by first|exact Nat.le_of_ble_eq_true rfl|(simp [bo];omega)) ?_ ?_<;>repeat' first|exact kj.nil|exact dn.nil|exact mf.same _|exact mf.nil _ _ _|exact mf.Br _ _|exact dn.refl _ _|apply kj.cons|apply dn.ghost|apply dn.same|apply dn.row)) ?_
 rintro ⟨i,x⟩ ⟨hR,hx⟩
 simp only at hR hx
 have hnb:=n8 n
 have hsm:=Ss he
 simp only [↓wR,RA,simprocAttr,TF]
 rw [ew];refine ⟨fun h2=>?_,fun h2=>?_⟩
 ·obtain ⟨c,hc,hd,hlt⟩:=ik h2
  rw [hd,List.flatMap_cons] at hR
  have hl:x.length+(g9 c).length≤(n.flatMap g9).length:=by rw [← hR];simp
  rw [C5] at hl
  simp only [↓wR,RA,simprocAttr,TF,hc];repeat (simp (disch:=omega) only [aj,bt,br,bw,bu];try simp only [↓wR,RA,simprocAttr,TF,hc])
  refine ⟨(i+1,x++g9 c),⟨by rw [← hR];simp,hlt⟩,by simp;omega,?_,by simp only [g9,List.map_append,List.map_cons,List.append_assoc,List.singleton_append,Ao]⟩
  simp only [List.cons.injEq,and_true,true_and,AV.sc.injEq,Value.int.injEq,AV.sl.injEq,g9,List.length_append,List.length_cons]
  refine ⟨by (try simp (disch:=omega) only [aj,bt,br,bw,bu]);simp,by simp;omega⟩
 ·rw [oj h2] at hR
  have hl:x.length<bj n:=by rw [← hnb,← hR];simp
  simp only [↓wR,RA,simprocAttr,TF,h2];repeat (simp (disch:=omega) only [aj,bt,br,bw,bu];try simp only [↓wR,RA,simprocAttr,TF,h2])
  simp only [nameBytes,← hR];simp
noncomputable def qo (x:Name × Unit):Option AV:=if dk x.1 then some ((r2 (b7 ba) (c7 .i64)).E true ((oy x.1,di x.1))) else none
set_option maxRecDepth 2000000 in
theorem Nf (x:Name × Unit) (r:AV) (h:qo x=some r):ca PP 55 ((aC aw a0).E x) r:=by
 by_cases hc:dk x.1
 case neg=>simp only [qo,if_neg hc] at h;cases h
 simp only [qo,if_pos hc] at h
 cases h
 exact bk (ar.cons (ay sq) (ar.nil PP)) Try.func55 (by kernel_rfl) (by kernel_rfl) (by kernel_rfl) (Nat.le_of_ble_eq_true (by kernel_rfl)) (r2 (b7 ba) (c7 .i64)) true ((oy x.1,di x.1)) (W3 x.1 hc)
noncomputable abbrev abo:Nat × Bool × (List AV→M AV):=(55,true,dw (aC aw a0) qo)
end Go.Proofs.Ytldcaajoheeipaa
end
section
namespace Go.Proofs.Ytldcaajoheeipaa
open Go.Vm
set_option maxRecDepth 2000000
theorem Ee {α:Type} {f : α→AV} {xs:List α} (h:xs≠[]) (op l sz p q):zj op (.vl l sz (xs.map f)) (.sc (.slice none p q))=kc op false:=by
 cases xs with
 |nil=>exact (h rfl).elim
 |cons x xs=>rfl
def Fj (v:Value):Prop:=v = .slice none 0 0∨∃ a c,v = .slice (some a) 0 c
theorem w5 {f:Nat} {r:AV} {sz:Nat} (h:∀ v,Fj v→ca PP f [.sc v] r):ca PP f [.vl false sz []] r:=by
 intro K w vs hK hrel
 obtain ⟨v,rfl,hv⟩:=wo hrel
 have hE:Fj v:=by
  cases hv with
  |vl=>exact .inr ⟨_,_,rfl⟩
  |jv=>exact .inl rfl
  |ry=>exact .inr ⟨_,_,rfl⟩
 exact h v hE K w [v] hK (az.cons (.sc v) (az.nil _ _))
theorem Yz (l:List UInt32) (hne:l≠[]) (hl:l.length≤16777216):wl PP [] 0 (Try.f36.body.getD .skip) (er PP Try.f36.results.toList (fun r st=>(r1 (b7 bz)).get true st.h r=some l)) (cg 0 [(b7 bz).val false l]) (bh []):=by
 unfold Try.f36
 rw [p7]
 have hb:l.length * 4≤140737488355328:=by omega
 simp only [↓wR,RA,simprocAttr,TF,Ee hne,hb]
theorem Us (v:Value) (hv:Fj v):wl PP [] 0 (Try.f36.body.getD .skip) (er PP Try.f36.results.toList (fun r st=>(r1 (b7 bz)).get true st.h r=some [])) (cg 0 [.sc v]) (bh []):=by
 unfold Try.f36
 rcases hv with rfl|⟨a,c,rfl⟩
 ·simp only [↓wR,RA,simprocAttr,TF]
 ·simp only [↓wR,RA,simprocAttr,TF]
noncomputable def uk (x:List UInt32 × Unit):Option AV:=if x.1.length≤16777216 then some ((r1 (b7 bz)).E true x.1) else none
theorem Ey (x:List UInt32 × Unit) (r:AV) (h:uk x=some r):ca PP 36 ((aC (b7 bz) a0).E x) r:=by
 by_cases hc:x.1.length≤16777216
 case neg=>simp only [uk,if_neg hc] at h;cases h
 simp only [uk,if_pos hc] at h
 cases h
 obtain ⟨l,⟨⟩⟩:=x
 by_cases hn:l=[]
 ·subst hn
  exact w5 (sz:=1) fun v hv=>bk (ar.nil PP) Try.func36 (by kernel_rfl) (by kernel_rfl) (by kernel_rfl) (Nat.le_of_ble_eq_true (by kernel_rfl)) (r1 (b7 bz)) true [] (Us v hv)
 ·exact bk (ar.nil PP) Try.func36 (by kernel_rfl) (by kernel_rfl) (by kernel_rfl) (Nat.le_of_ble_eq_true (by kernel_rfl)) (r1 (b7 bz)) true l (Yz l hn hc)
noncomputable abbrev Xk:Nat × Bool × (List AV→M AV):=(36,true,dw (aC (b7 bz) a0) uk)
theorem Yw (l:List ByteArray) (hne:l≠[]) (hl:l.length≤16777216):wl PP [] 0 (Try.f37.body.getD .skip) (er PP Try.f37.results.toList (fun r st=>(r1 (b7 an)).get true st.h r=some l)) (cg 0 [(b7 an).val false l]) (bh []):=by
 unfold Try.f37
 rw [p7]
 have hb:l.length * 16≤140737488355328:=by omega
 simp only [↓wR,RA,simprocAttr,TF,Ee hne,hb]
theorem T2 (v:Value) (hv:Fj v):wl PP [] 0 (Try.f37.body.getD .skip) (er PP Try.f37.results.toList (fun r st=>(r1 (b7 an)).get true st.h r=some [])) (cg 0 [.sc v]) (bh []):=by
 unfold Try.f37
 rcases hv with rfl|⟨a,c,rfl⟩
 ·simp only [↓wR,RA,simprocAttr,TF]
 ·simp only [↓wR,RA,simprocAttr,TF]
noncomputable def uq (x:List ByteArray × Unit):Option AV:=if x.1.length≤16777216 then some ((r1 (b7 an)).E true x.1) else none
theorem Fe (x:List ByteArray × Unit) (r:AV) (h:uq x=some r):ca PP 37 ((aC (b7 an) a0).E x) r:=by
 by_cases hc:x.1.length≤16777216
 case neg=>simp only [uq,if_neg hc] at h;cases h
 simp only [uq,if_pos hc] at h
 cases h
 obtain ⟨l,⟨⟩⟩:=x
 by_cases hn:l=[]
 ·subst hn
  exact w5 (sz:=1) fun v hv=>bk (ar.nil PP) Try.func37 (by kernel_rfl) (by kernel_rfl) (by kernel_rfl) (Nat.le_of_ble_eq_true (by kernel_rfl)) (r1 (b7 an)) true [] (T2 v hv)
 ·exact bk (ar.nil PP) Try.func37 (by kernel_rfl) (by kernel_rfl) (by kernel_rfl) (Nat.le_of_ble_eq_true (by kernel_rfl)) (r1 (b7 an)) true l (Yw l hn hc)
noncomputable abbrev Th:Nat × Bool × (List AV→M AV):=(37,true,dw (aC (b7 an) a0) uq)
theorem aci (l:List UInt8) (hne:l≠[]) (hl:l.length≤16777216):wl PP [] 0 (Try.f38.body.getD .skip) (er PP Try.f38.results.toList (fun r st=>(r1 (b7 ba)).get true st.h r=some l)) (cg 0 [(b7 ba).val false l]) (bh []):=by
 unfold Try.f38
 rw [p7]
 have hb:l.length≤140737488355328:=by omega
 simp only [↓wR,RA,simprocAttr,TF,Ee hne,hb]
theorem Ze (v:Value) (hv:Fj v):wl PP [] 0 (Try.f38.body.getD .skip) (er PP Try.f38.results.toList (fun r st=>(r1 (b7 ba)).get true st.h r=some [])) (cg 0 [.sc v]) (bh []):=by
 unfold Try.f38
 rcases hv with rfl|⟨a,c,rfl⟩
 ·simp only [↓wR,RA,simprocAttr,TF]
 ·simp only [↓wR,RA,simprocAttr,TF]
noncomputable def wm (x:List UInt8 × Unit):Option AV:=if x.1.length≤16777216 then some ((r1 (b7 ba)).E true x.1) else none
theorem F7 (x:List UInt8 × Unit) (r:AV) (h:wm x=some r):ca PP 38 ((aC (b7 ba) a0).E x) r:=by
 by_cases hc:x.1.length≤16777216
 case neg=>simp only [wm,if_neg hc] at h;cases h
 simp only [wm,if_pos hc] at h
 cases h
 obtain ⟨l,⟨⟩⟩:=x
 by_cases hn:l=[]
 ·subst hn
  exact w5 (sz:=1) fun v hv=>bk (ar.nil PP) Try.func38 (by kernel_rfl) (by kernel_rfl) (by kernel_rfl) (Nat.le_of_ble_eq_true (by kernel_rfl)) (r1 (b7 ba)) true [] (Ze v hv)
 ·exact bk (ar.nil PP) Try.func38 (by kernel_rfl) (by kernel_rfl) (by kernel_rfl) (Nat.le_of_ble_eq_true (by kernel_rfl)) (r1 (b7 ba)) true l (aci l hn hc)
noncomputable abbrev Zw:Nat × Bool × (List AV→M AV):=(38,true,dw (aC (b7 ba) a0) wm)
structure Shape where
 names:Int
 nums:Int
 size:Int
 texts:Int
 raw:Int
noncomputable def qc:bq Shape:=Dh (k9 (c7 .i64) (k9 (c7 .i64) (k9 (c7 .i64) (k9 (c7 .i64) (c7 .i64))))) (fun s=>(s.names,s.nums,s.size,s.texts,s.raw)) (fun p=>⟨p.1,p.2.1,p.2.2.1,p.2.2.2.1,p.2.2.2.2⟩) (fun _=>rfl) (fun _=>rfl)
theorem zv (l:Bool) (s:Shape):qc.val l s = .agg [.sc (.int .i64 s.names),.sc (.int .i64 s.nums),.sc (.int .i64 s.size),.sc (.int .i64 s.texts),.sc (.int .i64 s.raw)]:=id rfl
theorem iq (fr h) (a b c d e:Int):qc.gj fr h (.agg [.sc (.int .i64 a),.sc (.int .i64 b),.sc (.int .i64 c),.sc (.int .i64 d),.sc (.int .i64 e)])=some ⟨a,b,c,d,e⟩:=apy qc fr h ⟨a,b,c,d,e⟩
def mh (t:UInt16):Shape:=
 if (t.toNat:Int)=1 then ⟨0,0,0,0,4⟩ else if (t.toNat:Int)=28 then ⟨0,0,0,0,16⟩ else if (t.toNat:Int)=2 then ⟨1,0,0,0,0⟩ else if (t.toNat:Int)=5 then ⟨1,0,0,0,0⟩ else if (t.toNat:Int)=12 then ⟨1,0,0,0,0⟩
 else if (t.toNat:Int)=6 then ⟨2,5,4,0,0⟩ else if (t.toNat:Int)=15 then ⟨1,1,2,0,0⟩ else if (t.toNat:Int)=33 then ⟨1,3,2,0,0⟩ else if (t.toNat:Int)=16 then ⟨0,0,0,-1,0⟩ else if (t.toNat:Int)=257 then ⟨0,1,1,2,0⟩ else ⟨0,0,0,0,-1⟩
theorem ahe (t:UInt16):wl PP [] 0 (Try.f30.body.getD .skip) (er PP Try.f30.results.toList (fun r st=>(r1 qc).get true st.h r=some (mh t))) (cg 0 [cp.val false t]) (bh []):=by
 unfold Try.f30
 unfold mh
 simp only [↓wR,RA,simprocAttr,TF]
 rw [dy];refine ⟨fun ⟨h0,e0⟩=>?_,fun ⟨h0,e0⟩=>?_⟩
 ·simp only [↓wR,RA,simprocAttr,TF,h0]
  rw [if_pos e0]
  exact iq ..
 rw [if_neg e0]
 simp only [↓wR,RA,simprocAttr,TF,h0]
 rw [dy];refine ⟨fun ⟨h1,e1⟩=>?_,fun ⟨h1,e1⟩=>?_⟩
 ·simp only [↓wR,RA,simprocAttr,TF,h1]
  rw [if_pos e1]
  exact iq ..
 rw [if_neg e1]
 simp only [↓wR,RA,simprocAttr,TF,h1]
 rw [dy];refine ⟨fun ⟨h2,e2⟩=>?_,fun ⟨h2,e2⟩=>?_⟩
 ·simp only [↓wR,RA,simprocAttr,TF,h2]
  rw [if_pos e2]
  exact iq ..
 rw [if_neg e2]
 simp only [↓wR,RA,simprocAttr,TF,h2]
 rw [dy];refine ⟨fun ⟨h3,e3⟩=>?_,fun ⟨h3,e3⟩=>?_⟩
 ·simp only [↓wR,RA,simprocAttr,TF,h3]
  rw [if_pos e3]
  exact iq ..
 rw [if_neg e3]
 simp only [↓wR,RA,simprocAttr,TF,h3]
 rw [dy];refine ⟨fun ⟨h4,e4⟩=>?_,fun ⟨h4,e4⟩=>?_⟩
 ·simp only [↓wR,RA,simprocAttr,TF,h4]
  rw [if_pos e4]
  exact iq ..
 rw [if_neg e4]
 simp only [↓wR,RA,simprocAttr,TF,h4]
 rw [dy];refine ⟨fun ⟨h5,e5⟩=>?_,fun ⟨h5,e5⟩=>?_⟩
 ·simp only [↓wR,RA,simprocAttr,TF,h5]
  rw [if_pos e5]
  exact iq ..
 rw [if_neg e5]
 simp only [↓wR,RA,simprocAttr,TF,h5]
 rw [dy];refine ⟨fun ⟨h6,e6⟩=>?_,fun ⟨h6,e6⟩=>?_⟩
 ·simp only [↓wR,RA,simprocAttr,TF,h6]
  rw [if_pos e6]
  exact iq ..
 rw [if_neg e6]
 simp only [↓wR,RA,simprocAttr,TF,h6]
 rw [dy];refine ⟨fun ⟨h7,e7⟩=>?_,fun ⟨h7,e7⟩=>?_⟩
 ·simp only [↓wR,RA,simprocAttr,TF,h7]
  rw [if_pos e7]
  exact iq ..
 rw [if_neg e7]
 simp only [↓wR,RA,simprocAttr,TF,h7]
 rw [dy];refine ⟨fun ⟨h8,e8⟩=>?_,fun ⟨h8,e8⟩=>?_⟩
 ·simp only [↓wR,RA,simprocAttr,TF,h8]
  rw [if_pos e8]
  exact iq ..
 rw [if_neg e8]
 simp only [↓wR,RA,simprocAttr,TF,h8]
 rw [dy];refine ⟨fun ⟨h9,e9⟩=>?_,fun ⟨h9,e9⟩=>?_⟩
 ·simp only [↓wR,RA,simprocAttr,TF,h9]
  rw [if_pos e9]
  exact iq ..
 rw [if_neg e9]
 simp only [↓wR,RA,simprocAttr,TF,h9]
 exact iq ..
noncomputable def z7 (x:UInt16 × Unit):Option AV:=some ((r1 qc).E true (mh x.1))
set_option maxRecDepth 2000000 in
theorem z4 (x:UInt16 × Unit) (r:AV) (h:z7 x=some r):ca PP 30 ((aC cp a0).E x) r:=by
 cases h
 exact bk (ar.nil PP) Try.func30 (by kernel_rfl) (by kernel_rfl) (by kernel_rfl) (Nat.le_of_ble_eq_true (by kernel_rfl)) (r1 qc) true (mh x.1) (ahe x.1)
noncomputable abbrev O7:Nat × Bool × (List AV→M AV):=(30,true,dw (aC cp a0) z7)
def Ct (t:UInt16):Bool:=(t.toNat:Int) == 0 || (decide ((128:Int)≤(t.toNat:Int)) && decide ((t.toNat:Int)≤255))
theorem aez (t:UInt16):wl PP [] 0 (Try.f29.body.getD .skip) (er PP Try.f29.results.toList (fun r st=>(r1 cd).get true st.h r=some (Ct t))) (cg 0 [cp.val false t]) (bh []):=by
 unfold Try.f29
 unfold Ct
 simp only [↓wR,RA,simprocAttr,TF]
 rw [dy];refine ⟨fun ⟨h,e⟩=>?_,fun ⟨h,e⟩=>?_⟩
 ·simp only [↓wR,RA,simprocAttr,TF,h]
 ·simp only [↓wR,RA,simprocAttr,TF,h]
  rw [b8];refine ⟨fun h2=>?_,fun h2=>?_⟩
  ·simp only [↓wR,RA,simprocAttr,TF,h2]
  ·simp only [↓wR,RA,simprocAttr,TF,h2]
   rfl
noncomputable def Od (x:UInt16 × Unit):Option AV:=some ((r1 cd).E true (Ct x.1))
set_option maxRecDepth 2000000 in
theorem Za (x:UInt16 × Unit) (r:AV) (h:Od x=some r):ca PP 29 ((aC cp a0).E x) r:=by
 cases h
 exact bk (ar.nil PP) Try.func29 (by kernel_rfl) (by kernel_rfl) (by kernel_rfl) (Nat.le_of_ble_eq_true (by kernel_rfl)) (r1 cd) true (Ct x.1) (aez x.1)
noncomputable abbrev aod:Nat × Bool × (List AV→M AV):=(29,true,dw (aC cp a0) Od)
noncomputable def A9 (n:UInt32):List UInt8:=[UInt8.ofNat (n.toNat / 16777216),UInt8.ofNat (n.toNat / 65536),UInt8.ofNat (n.toNat / 256),UInt8.ofNat n.toNat]
theorem ajc (n:UInt32):wl PP [] 0 (Try.f54.body.getD .skip) (er PP Try.f54.results.toList (fun r st=>(r1 (b7 ba)).get true st.h r=some (A9 n))) (cg 0 [bz.val false n]) (bh []):=by
 unfold Try.f54
 simp only [↓wR,RA,simprocAttr,TF]
 rfl
noncomputable def H0 (x:UInt32 × Unit):Option AV:=some ((r1 (b7 ba)).E true (A9 x.1))
set_option maxRecDepth 2000000 in
theorem Yx (x:UInt32 × Unit) (r:AV) (h:H0 x=some r):ca PP 54 ((aC bz a0).E x) r:=by
 cases h
 exact bk (ar.nil PP) Try.func54 (by kernel_rfl) (by kernel_rfl) (by kernel_rfl) (Nat.le_of_ble_eq_true (by kernel_rfl)) (r1 (b7 ba)) true (A9 x.1) (ajc x.1)
noncomputable abbrev an6:Nat × Bool × (List AV→M AV):=(54,true,dw (aC bz a0) H0)
def Kg (c:UInt8):Bool:=decide (97≤c.toNat∧c.toNat≤122∨65≤c.toNat∧c.toNat≤90∨48≤c.toNat∧c.toNat≤57)
def G2 (s:ByteArray):Bool:=s.data.toList.all Kg && decide (1≤s.size∧s.size≤15)
theorem am3 (s:ByteArray) (hs:s.size≤16777216):wl PP [] 0 (Try.f51.body.getD .skip) (er PP Try.f51.results.toList (fun r st=>(r1 cd).get true st.h r=some (G2 s))) (cg 0 [an.val false s]) (bh []):=by
 unfold Try.f51
 simp only [↓wR,RA,simprocAttr,TF]
 refine dq [0,6,7] (fun (i:Nat)=>[.sc (.string s),.sc (.int .i64 s.size),.sc (.int .i64 i)]) (fun _=>[]) (fun i=>i≤s.size∧s.data.toList.all Kg=(s.data.toList.drop i).all Kg) (fun i=>s.size - i) 0 ⟨Nat.zero_le _,rfl⟩ ?_ ?_ ?_
 ·simp only [↓wR,RA,simprocAttr,TF]<;>rfl
 ·simp only [↓wR,RA,simprocAttr,TF]
 rintro i ⟨hi,hR⟩
 simp only [↓wR,RA,simprocAttr,TF]
 rw [b8];refine ⟨fun h=>?_,fun h=>?_⟩
 ·obtain ⟨c,hc⟩:∃ c,s.data.toList[i]? = some c:=⟨_,List.getElem?_eq_getElem (by simp;omega)⟩
  have hd:=Oh hc
  rw [hd,List.all_cons] at hR
  simp only [↓wR,RA,simprocAttr,TF,h,hc];repeat (simp (disch:=omega) only [aj,bt,br,bw,bu];try simp only [↓wR,RA,simprocAttr,TF,h,hc])
  repeat' (rw [b8];refine ⟨fun h=>?_,fun h=>?_⟩<;>simp only [↓wR,RA,simprocAttr,TF,h,hc])
  all_goals first
   |(
    have ht:Kg c=false:=by (unfold Kg;rw [decide_eq_false_iff_not];omega)
    rw [G2,hR,ht];rfl)
   |(
    have ht:Kg c=true:=by (unfold Kg;rw [decide_eq_true_eq];omega)
    refine ⟨i+1,⟨by omega,by rw [hR,ht];simp⟩,by omega,by (first|rfl|trivial|omega|((try (simp (disch:=omega) only [aj]));(try (simp only [FB]));first|done|rfl|omega))⟩)
 ·have hdn:s.data.toList.drop i=[]:=List.drop_eq_nil_of_le (by simp;omega)
  rw [hdn,List.all_nil] at hR
  simp only [↓wR,RA,simprocAttr,TF,h]
  unfold G2
  rw [hR]
  rw [b8];refine ⟨fun h1=>?_,fun h1=>?_⟩
  ·simp only [↓wR,RA,simprocAttr,TF,h1]
   congr 1
   rw [Bool.eq_iff_iff];simp;omega
  ·simp only [↓wR,RA,simprocAttr,TF,h1]
   congr 1
   rw [Bool.eq_iff_iff];simp;omega
noncomputable def Ni (x:ByteArray × Unit):Option AV:=if x.1.size≤16777216 then some ((r1 cd).E true (G2 x.1)) else none
set_option maxRecDepth 2000000 in
theorem ahm (x:ByteArray × Unit) (r:AV) (h:Ni x=some r):ca PP 51 ((aC an a0).E x) r:=by
 by_cases hc:x.1.size≤16777216
 case neg=>simp only [Ni,if_neg hc] at h;cases h
 simp only [Ni,if_pos hc] at h
 cases h
 exact bk (ar.nil PP) Try.func51 (by kernel_rfl) (by kernel_rfl) (by kernel_rfl) (Nat.le_of_ble_eq_true (by kernel_rfl)) (r1 cd) true (G2 x.1) (am3 x.1 hc)
noncomputable abbrev ap5:Nat × Bool × (List AV→M AV):=(51,true,dw (aC an a0) Ni)
def jr {α:Type} (f : α→Nat) (l:List α):Nat:=l.foldr (fun x k=>f x+k+1) 0
def vd (d:bc):Nat:=jr bj d.names+d.nums.length+jr ByteArray.size d.texts+d.raw.length
theorem O1 {α:Type} {f : α→Nat} {l:List α} {x : α} (h:x ∈ l):f x<jr f l:=by
 induction l with
 |nil=>cases h
 |cons a l ih=>
  simp only [jr,List.foldr_cons] at ih ⊢
  rcases List.mem_cons.1 h with rfl|h
  ·omega
  ·have:=ih h;omega
theorem Ox {α:Type} (f : α→Nat) (l:List α):l.length≤jr f l:=by
 induction l with
 |nil=>exact Nat.le_refl _
 |cons a l ih=>simp only [jr,List.foldr_cons,List.length_cons] at ih ⊢;omega
def cj (d:bc):Prop:=vd d≤16777216
instance (d:bc):Decidable (cj d):=inferInstanceAs (Decidable (_≤_))
theorem cj.name {d:bc} (h:cj d):∀ n ∈ d.names,dk n:=fun n hn=>by
 have h1:bj n<jr bj d.names:=O1 hn
 unfold cj vd at h;unfold dk;omega
theorem cj.text {d:bc} (h:cj d):∀ s ∈ d.texts,s.size≤16777216:=fun s hs=>by
 have h1:ByteArray.size s<jr ByteArray.size d.texts:=O1 hs
 unfold cj vd at h;omega
theorem cj.lens {d:bc} (h:cj d):d.names.length≤16777216∧d.nums.length≤16777216∧d.texts.length≤16777216∧d.raw.length≤16777216:=by
 have h1:=Ox bj d.names
 have h2:=Ox ByteArray.size d.texts
 unfold cj vd at h;omega
noncomputable def H6 (s:Shape):Int:=IntKind.u32.wrap (1 * 2 ^ (if (8 * s.size).toNat≤32 then (8 * s.size).toNat else 32))
noncomputable def xo (s:Shape) (t:UInt16) (d:bc):Bool:=
 if (d.names.length:Int)≠s.names∨(d.nums.length:Int)≠s.nums∨(0≤s.raw∧(d.raw.length:Int)≠s.raw) then false
 else if s.size<4∧(d.nums.any fun n=>decide (H6 s≤(n.toNat:Int)))=true then false
 else if (t.toNat:Int)=257 then decide (d.texts.length=2) && G2 (d.texts.headD ⟨#[]⟩)
 else if s.texts=0 then decide (d.texts.length=0)
 else decide (0<d.texts.length) && !(d.texts.any fun x=>decide (255<x.size))
noncomputable def Lk (s:Shape) (t:UInt16) (d:bc):Bool:=
 if s.size<4∧(d.nums.any fun n=>decide (H6 s≤(n.toNat:Int)))=true then false
 else if (t.toNat:Int)=257 then decide (d.texts.length=2) && G2 (d.texts.headD ⟨#[]⟩)
 else if s.texts=0 then decide (d.texts.length=0)
 else decide (0<d.texts.length) && !(d.texts.any fun x=>decide (255<x.size))
theorem al0 (s:Shape) (t:UInt16) (d:bc) (hs : 0≤s.size∧s.size≤4) (hd:cj d):wl PP [ap5] 0 (Try.f31.body.getD .skip) (er PP Try.f31.results.toList (fun r st=>(r1 cd).get true st.h r=some (xo s t d))) (cg 0 [qc.val false s,cp.val false t,ag.val false d]) (bh []):=by
 unfold Try.f31
 obtain ⟨l1,l2,l3,l4⟩:=hd.lens
 simp only [zv,js,dc]
 simp only [↓wR,RA,simprocAttr,TF]
 rw [iu];refine ⟨fun ⟨h,e⟩=>?_,fun ⟨h,e⟩=>?_⟩
 ·have hv:xo s t d=false:=if_pos (.inl e)
  simp only [↓wR,RA,simprocAttr,TF,h,hv]
 simp only [↓wR,RA,simprocAttr,TF,h]
 rw [iu];refine ⟨fun ⟨h2,e2⟩=>?_,fun ⟨h2,e2⟩=>?_⟩
 ·have hv:xo s t d=false:=if_pos (.inr (.inl e2))
  simp only [↓wR,RA,simprocAttr,TF,h2,hv]
 simp only [↓wR,RA,simprocAttr,TF,h2]
 have hraw:¬ (0≤s.raw∧(d.raw.length:Int)≠s.raw)→xo s t d=Lk s t d:=fun hr=>if_neg (fun h=>by
  rcases h with h|h|h
  ·exact h e
  ·exact h e2
  ·exact hr h)
 rw [b8];refine ⟨fun h3=>?_,fun h3=>?_⟩
 simp only [↓wR,RA,simprocAttr,TF,h3]
 rw [iu];refine ⟨fun ⟨h4,e4⟩=>?_,fun ⟨h4,e4⟩=>?_⟩
 have hv:xo s t d=false:=if_pos (.inr (.inr ⟨h3,e4⟩))
 simp only [↓wR,RA,simprocAttr,TF,h4,hv]
 rw [hraw (fun q=>q.2 e4)]
 simp only [↓wR,RA,simprocAttr,TF,h4]
 rotate_left
 rw [hraw (fun q=>h3 q.1)]
 simp only [↓wR,RA,simprocAttr,TF,h3]
 all_goals
  clear hraw
  refine dq [1,3,5,37,38,39] (fun (i:Nat)=>[.sc (.int .u16 t.toNat),.ptr 0 0,.ptr 1 0,.vl false 1 (d.nums.map (bz.val false)),.sc (.int .i64 d.nums.length),.sc (.int .i64 i)]) (fun _=>[some (.row [.sc (.int .i64 s.names),.sc (.int .i64 s.nums),.sc (.int .i64 s.size),.sc (.int .i64 s.texts),.sc (.int .i64 s.raw)] 0 2 73),some (.row [.vl false 1 (d.names.map (aw.val false)),.vl false 1 (d.nums.map (bz.val false)),.vl false 1 (d.texts.map (an.val false)),.vl false 1 (d.raw.map (ba.val false))] 0 2 50)]) (fun i=>i≤d.nums.length∧(s.size<4→(d.nums.any fun n=>decide (H6 s≤(n.toNat:Int)))=((d.nums.drop i).any fun n=>decide (H6 s≤(n.toNat:Int))))) (fun i=>d.nums.length - i) 0 ⟨Nat.zero_le _,fun _=>rfl⟩ (by simp only [↓wR,RA,simprocAttr,TF]<;>rfl) (by simp only [↓wR,RA,simprocAttr,TF]<;>rfl) ?_
  clear h h2 e e2
  rintro i ⟨hi,hR⟩
  simp only [↓wR,RA,simprocAttr,TF]
  rw [b8];refine ⟨fun h=>?_,fun h=>?_⟩
  ·obtain ⟨c,hc,hd1,hlt⟩:=ik (decide_eq_true h)
   rw [hd1,List.any_cons] at hR
   simp only [↓wR,RA,simprocAttr,TF,h,hc]
   rw [b8];refine ⟨fun h5=>?_,fun h5=>?_⟩
   ·have hR:=hR h5
    have h80:(0:Int)≤8 * s.size:=by omega
    simp only [↓wR,RA,simprocAttr,TF,h5,h80];repeat (simp (disch:=omega) only [aj,bt,br,bw,bu];try simp only [↓wR,RA,simprocAttr,TF,h5,h80])
    rw [b8];refine ⟨fun h6=>?_,fun h6=>?_⟩
    ·have hv:Lk s t d=false:=by
      rw [Lk,if_pos ⟨h5,by rw [hR,decide_eq_true (show H6 s≤(c.toNat:Int) from h6)];rfl⟩]
     simp only [↓wR,RA,simprocAttr,TF,h6,hv]
    ·simp only [↓wR,RA,simprocAttr,TF,h6];repeat (simp (disch:=omega) only [aj,bt,br,bw,bu];try simp only [↓wR,RA,simprocAttr,TF,h6])
     refine ⟨i+1,⟨hlt,fun _=>?_⟩,by omega,by (first|rfl|trivial|omega|((try (simp (disch:=omega) only [aj]));(try (simp only [FB]));first|done|rfl|omega))⟩
     rw [hR,decide_eq_false (show ¬ H6 s≤(c.toNat:Int) from h6),Bool.false_or]
   ·simp only [↓wR,RA,simprocAttr,TF,h5];repeat (simp (disch:=omega) only [aj,bt,br,bw,bu];try simp only [↓wR,RA,simprocAttr,TF,h5])
    exact ⟨i+1,⟨hlt,fun h=>h.elim⟩,by omega,by (first|rfl|trivial|omega|((try (simp (disch:=omega) only [aj]));(try (simp only [FB]));first|done|rfl|omega))⟩
  ·rw [oj (decide_eq_false h),List.any_nil] at hR
   have hr:Lk s t d=if (t.toNat:Int)=257 then decide (d.texts.length=2) && G2 (d.texts.headD ⟨#[]⟩) else if s.texts=0 then decide (d.texts.length=0) else decide (0<d.texts.length) && !(d.texts.any fun x=>decide (255<x.size)):=by
    rw [Lk,if_neg];rintro ⟨q1,q2⟩;rw [hR q1] at q2;cases q2
   simp only [↓wR,RA,simprocAttr,TF,h]
   rw [dy];refine ⟨fun ⟨h6,e6⟩=>?_,fun ⟨h6,e6⟩=>?_⟩
   ·rw [if_pos e6] at hr
    simp only [↓wR,RA,simprocAttr,TF,h6]
    rw [dy];refine ⟨fun ⟨h7,e7⟩=>?_,fun ⟨h7,e7⟩=>?_⟩
    ·obtain ⟨c,hc⟩:∃ c,d.texts[0]? = some c:=⟨_,List.getElem?_eq_getElem (by omega)⟩
     have hh:d.texts.headD ⟨#[]⟩=c:=by
      cases ht:d.texts with
      |nil=>rw [ht] at hc;cases hc
      |cons a l=>rw [ht] at hc;simpa using hc
     rw [hh,decide_eq_true (show d.texts.length=2 by omega)] at hr
     simp only [↓wR,RA,simprocAttr,TF,h7,hc,Ni,hd.text c (List.mem_of_getElem? hc)]
     rw [hr];rfl
    ·simp only [↓wR,RA,simprocAttr,TF,h7]
     rw [hr,decide_eq_false (show ¬ d.texts.length=2 by omega)];rfl
   ·rw [if_neg e6] at hr
    simp only [↓wR,RA,simprocAttr,TF,h6]
    rw [dy];refine ⟨fun ⟨h7,e7⟩=>?_,fun ⟨h7,e7⟩=>?_⟩
    ·rw [if_pos e7] at hr
     simp only [↓wR,RA,simprocAttr,TF,h7]
     rw [hr];congr 1
     rw [Bool.eq_iff_iff];simp
    ·rw [if_neg e7] at hr
     simp only [↓wR,RA,simprocAttr,TF,h7]
     rw [b8];refine ⟨fun h8=>?_,fun h8=>?_⟩
     ·simp only [↓wR,RA,simprocAttr,TF,h8]
      refine c8 (T:=[]) (ar.nil PP) mixed Try.func52 rfl (by kernel_rfl) (by kernel_rfl) (by kernel_rfl) (by kernel_rfl) ?_;unfold Try.f52
      simp only [↓wR,RA,simprocAttr,TF]
      refine c8 (T:=[]) (ar.nil PP) mixed Try.func64 rfl (by kernel_rfl) (by kernel_rfl) (by kernel_rfl) (by kernel_rfl) ?_;unfold Try.f64
      simp only [↓wR,RA,simprocAttr,TF]
      refine dq [0,1,7,8] (fun (i:Nat)=>[.vl false 1 (d.texts.map (an.val false)),.sc (.func (.func 53) #[] #[]),.sc (.int .i64 d.texts.length),.sc (.int .i64 i)]) (fun _=>[some (.row [.sc (.int .i64 s.names),.sc (.int .i64 s.nums),.sc (.int .i64 s.size),.sc (.int .i64 s.texts),.sc (.int .i64 s.raw)] 0 2 73),some (.row [.vl false 1 (d.names.map (aw.val false)),.vl false 1 (d.nums.map (bz.val false)),.vl false 1 (d.texts.map (an.val false)),.vl false 1 (d.raw.map (ba.val false))] 0 2 50)]) (fun i=>i≤d.texts.length∧(d.texts.any fun x=>decide (255<x.size))=((d.texts.drop i).any fun x=>decide (255<x.size))) (fun i=>d.texts.length - i) 0 ⟨Nat.zero_le _,rfl⟩ (by simp only [↓wR,RA,simprocAttr,TF]<;>rfl) (by simp only [↓wR,RA,simprocAttr,TF]<;>rfl) ?_
      rintro k ⟨hk,hK⟩
      simp only [↓wR,RA,simprocAttr,TF]
      rw [b8];refine ⟨fun h9=>?_,fun h9=>?_⟩
      ·obtain ⟨c,hc,hd1,hlt⟩:=ik (decide_eq_true h9)
       rw [hd1,List.any_cons] at hK
       simp only [↓wR,RA,simprocAttr,TF,h9,hc];repeat (simp (disch:=omega) only [aj,bt,br,bw,bu];try simp only [↓wR,RA,simprocAttr,TF,h9,hc])
       refine c8 (T:=[]) (ar.nil PP) mixed Try.func53 rfl (by kernel_rfl) (by kernel_rfl) (by kernel_rfl) (by kernel_rfl) ?_;unfold Try.f53
       simp only [↓wR,RA,simprocAttr,TF]
       rw [b8];refine ⟨fun h10=>?_,fun h10=>?_⟩
       ·simp only [↓wR,RA,simprocAttr,TF,h10]
        rw [hr,hK,decide_eq_true (show 0<d.texts.length by omega),decide_eq_true (show 255<c.size by omega)];rfl
       ·simp only [↓wR,RA,simprocAttr,TF,h10];repeat (simp (disch:=omega) only [aj,bt,br,bw,bu];try simp only [↓wR,RA,simprocAttr,TF,h10])
        refine ⟨k+1,⟨hlt,?_⟩,by omega,by (first|rfl|trivial|omega|((try (simp (disch:=omega) only [aj]));(try (simp only [FB]));first|done|rfl|omega))⟩
        rw [hK,decide_eq_false (show ¬ 255<c.size by omega),Bool.false_or]
      ·rw [oj (decide_eq_false h9),List.any_nil] at hK
       simp only [↓wR,RA,simprocAttr,TF,h9]
       rw [hr,hK,decide_eq_true (show 0<d.texts.length by omega)];rfl
     ·simp only [↓wR,RA,simprocAttr,TF,h8]
      rw [hr,decide_eq_false (show ¬ 0<d.texts.length by omega)];rfl
theorem Mm (t:UInt16) : 0≤(mh t).size∧(mh t).size≤4:=by
 unfold mh
 repeat' split
 all_goals simp
noncomputable def Fq (x:Shape × UInt16 × bc × Unit):Option AV:=if (0≤x.1.size∧x.1.size≤4)∧cj x.2.2.1 then some ((r1 cd).E true (xo x.1 x.2.1 x.2.2.1)) else none
set_option maxRecDepth 2000000 in
theorem acw (x:Shape × UInt16 × bc × Unit) (r:AV) (h:Fq x=some r):ca PP 31 ((aC qc (aC cp (aC ag a0))).E x) r:=by
 by_cases hc:(0≤x.1.size∧x.1.size≤4)∧cj x.2.2.1
 case neg=>simp only [Fq,if_neg hc] at h;cases h
 simp only [Fq,if_pos hc] at h
 cases h
 exact bk (ar.cons (ay ahm) (ar.nil PP)) Try.func31 (by kernel_rfl) (by kernel_rfl) (by kernel_rfl) (Nat.le_of_ble_eq_true (by kernel_rfl)) (r1 cd) true (xo x.1 x.2.1 x.2.2.1) (al0 x.1 x.2.1 x.2.2.1 hc.1 hc.2)
noncomputable abbrev apg:Nat × Bool × (List AV→M AV):=(31,true,dw (aC qc (aC cp (aC ag a0))) Fq)
theorem abe {α:Type} {l:List (List α)} {i:Nat} {c:List α} (h:l[i]? = some c):(l.drop i).flatten=c++(l.drop (i+1)).flatten:=by rw [Oh h];rfl
theorem al6 {α:Type} {l:List (List α)} {c:List α} (h:c ∈ l):c.length≤l.flatten.length:=by
 induction l with
 |nil=>cases h
 |cons a l ih=>
  simp only [List.flatten_cons,List.length_append]
  rcases List.mem_cons.1 h with rfl|h
  ·omega
  ·have:=ih h;omega
theorem agx (l:List (List UInt8)) (hl:l.length≤16777216) (hf:l.flatten.length≤134217728):wl PP [] 0 (Try.f56.body.getD .skip) (er PP Try.f56.results.toList (fun r st=>(r1 (b7 ba)).get true st.h r=some l.flatten)) (cg 0 [(b7 (b7 ba)).val false l]) (bh []):=by
 unfold Try.f56
 rw [p7]
 simp only [↓wR,RA,simprocAttr,TF]
 refine dq [0,3,9,10,11] (fun (x:Nat × Nat)=>[.vl false 1 (l.map ((b7 ba).val false)),.sc (.int .i64 x.2),.vl false 1 (l.map ((b7 ba).val false)),.sc (.int .i64 l.length),.sc (.int .i64 x.1)]) (fun _=>[]) (fun x=>x.1≤l.length∧x.2+(l.drop x.1).flatten.length=l.flatten.length) (fun x=>l.length - x.1) (0,0) ⟨Nat.zero_le _,by simp⟩ (by simp only [↓wR,RA,simprocAttr,TF]<;>rfl) (by simp only [↓wR,RA,simprocAttr,TF]<;>rfl) ?_
 rintro ⟨i,k⟩ ⟨hi,hk⟩
 simp only at hi hk
 simp only [↓wR,RA,simprocAttr,TF]
 rw [b8];refine ⟨fun h=>?_,fun h=>?_⟩
 ·obtain ⟨c,hc,hd1,hlt⟩:=ik (decide_eq_true h)
  rw [abe hc,List.length_append] at hk
  simp only [↓wR,RA,simprocAttr,TF,h,hc];repeat (simp (disch:=omega) only [aj,bt,br,bw,bu];try simp only [↓wR,RA,simprocAttr,TF,h,hc])
  rw [b8];refine ⟨fun h1=>?_,fun h1=>?_⟩
  ·exfalso;omega
  ·simp only [↓wR,RA,simprocAttr,TF,h1];repeat (simp (disch:=omega) only [aj,bt,br,bw,bu];try simp only [↓wR,RA,simprocAttr,TF,h1])
   exact ⟨(i+1,k+c.length),⟨hlt,by show k+c.length+(l.drop (i+1)).flatten.length=_;omega⟩,by simp;omega,by simp⟩
 ·rw [oj (decide_eq_false h)] at hk
  have hk:k=l.flatten.length:=by simpa using hk
  subst hk
  simp only [↓wR,RA,simprocAttr,TF,h]
  refine c8 (T:=[]) (ar.nil PP) mixed Try.func65 rfl (by kernel_rfl) (by kernel_rfl) (by kernel_rfl) (by kernel_rfl) ?_;unfold Try.f65
  simp only [↓wR,RA,simprocAttr,TF]
  rw [b8];refine ⟨fun h1=>?_,fun h1=>?_⟩
  ·exfalso;omega
  simp only [↓wR,RA,simprocAttr,TF,h1];repeat (simp (disch:=omega) only [aj,bt,br,bw,bu];try simp only [↓wR,RA,simprocAttr,TF,h1])
  rw [b8];refine ⟨fun h2=>?_,fun h2=>?_⟩
  ·have hpos : 0<l.flatten.length:=by omega
   simp only [↓wR,RA,simprocAttr,TF,h2,hpos];repeat (simp (disch:=omega) only [aj,bt,br,bw,bu];try simp only [↓wR,RA,simprocAttr,TF,h2,hpos])
   refine dq [25,26,27,6] (fun (x:Nat × Nat × List UInt8)=>[.vl false 1 (l.map ((b7 ba).val false)),.sc (.int .i64 l.length),.sc (.int .i64 x.1),.sl 0 0 x.2.1 1]) (fun x=>[some (.row (x.2.2.map (ba.val false)) 0 0 5)]) (fun x=>x.1≤l.length∧(x.2.1=x.2.2.length∨x.2.1=0)∧x.2.2.take x.2.1++(l.drop x.1).flatten=l.flatten) (fun x=>l.length - x.1) (0,0,List.replicate l.flatten.length 0) ⟨Nat.zero_le _,.inr rfl,rfl⟩ (by simp only [↓wR,RA,simprocAttr,TF]<;>rfl) (by simp only [↓wR,RA,simprocAttr,TF]<;>rfl) ?_
   rintro ⟨k,m,r⟩ ⟨hk1,hk0,hk3⟩
   simp only at hk1 hk0 hk3
   have hk2:m≤r.length:=by omega
   simp only [↓wR,RA,simprocAttr,TF]
   rw [b8];refine ⟨fun h3=>?_,fun h3=>?_⟩
   ·obtain ⟨c,hc,hd1,hlt⟩:=ik (decide_eq_true h3)
    rw [abe hc] at hk3
    have hm:m+c.length≤134217728:=by
     have:=congrArg List.length hk3
     simp only [List.length_append,List.length_take] at this
     omega
    simp only [↓wR,RA,simprocAttr,TF,h3,hc,hk2];repeat (simp (disch:=omega) only [aj,bt,br,bw,bu];try simp only [↓wR,RA,simprocAttr,TF,h3,hc,hk2])
    have hl1:(r.take m++c).length=m+c.length:=by simp [Nat.min_eq_left hk2]
    refine ⟨(k+1,m+c.length,r.take m++c),⟨hlt,.inl hl1.symm,?_⟩,by simp;omega,by simp,by simp⟩
    show (r.take m++c).take (m+c.length)++_=_
    rw [List.take_of_length_le (Nat.le_of_eq hl1),List.append_assoc]
    exact hk3
   ·rw [oj (decide_eq_false h3)] at hk3
    have hmr:m=r.length:=by
     have:=congrArg List.length hk3
     simp only [List.length_append,List.length_take,List.flatten_nil,List.length_nil] at this
     omega
    subst hmr
    have hr:r=l.flatten:=by simpa using hk3
    subst hr
    simp only [↓wR,RA,simprocAttr,TF,h3,hk2];repeat (simp (disch:=omega) only [aj,bt,br,bw,bu];try simp only [↓wR,RA,simprocAttr,TF,h3,hk2])
  ·have hnil:l.flatten=[]:=List.eq_nil_of_length_eq_zero (by omega)
   simp only [↓wR,RA,simprocAttr,TF,h2];repeat (simp (disch:=omega) only [aj,bt,br,bw,bu];try simp only [↓wR,RA,simprocAttr,TF,h2])
   refine dq [25,26,27,6] (fun (x:Nat)=>[.vl false 1 (l.map ((b7 ba).val false)),.sc (.int .i64 l.length),.sc (.int .i64 x),.sc (.slice none 0 0)]) (fun _=>[]) (fun x=>x≤l.length) (fun x=>l.length - x) 0 (Nat.zero_le _) (by simp only [↓wR,RA,simprocAttr,TF]<;>rfl) (by simp only [↓wR,RA,simprocAttr,TF]<;>rfl) ?_
   intro k hk1
   simp only [↓wR,RA,simprocAttr,TF]
   rw [b8];refine ⟨fun h3=>?_,fun h3=>?_⟩
   ·obtain ⟨c,hc,hd1,hlt⟩:=ik (decide_eq_true h3)
    have hc0:c=[]:=List.eq_nil_of_length_eq_zero (by have:=al6 (List.mem_of_getElem? hc);rw [hnil] at this;simpa using this)
    subst hc0
    simp only [↓wR,RA,simprocAttr,TF,h3,hc];repeat (simp (disch:=omega) only [aj,bt,br,bw,bu];try simp only [↓wR,RA,simprocAttr,TF,h3,hc])
    refine ⟨k+1,hlt,?_⟩
    first|(refine ⟨by simp;omega,?_⟩;simp)|(simp;omega)
   ·simp only [↓wR,RA,simprocAttr,TF,h3];repeat (simp (disch:=omega) only [aj,bt,br,bw,bu];try simp only [↓wR,RA,simprocAttr,TF,h3])
    rw [hnil]
noncomputable def w4 (x:List (List UInt8) × Unit):Option AV:=if x.1.length≤16777216∧x.1.flatten.length≤134217728 then some ((r1 (b7 ba)).E true (x.1.flatten)) else none
set_option maxRecDepth 2000000 in
theorem Wt (x:List (List UInt8) × Unit) (r:AV) (h:w4 x=some r):ca PP 56 ((aC (b7 (b7 ba)) a0).E x) r:=by
 by_cases hc:x.1.length≤16777216∧x.1.flatten.length≤134217728
 case neg=>simp only [w4,if_neg hc] at h;cases h
 simp only [w4,if_pos hc] at h
 cases h
 exact bk (ar.nil PP) Try.func56 (by kernel_rfl) (by kernel_rfl) (by kernel_rfl) (Nat.le_of_ble_eq_true (by kernel_rfl)) (r1 (b7 ba)) true (x.1.flatten) (agx x.1 hc.1 hc.2)
noncomputable abbrev ak5:Nat × Bool × (List AV→M AV):=(56,true,dw (aC (b7 (b7 ba)) a0) w4)
theorem aex (n:Name):(oy n).length≤bj n:=by
 unfold oy nameBytes
 split
 ·exact Nat.zero_le _
 ·have:=n8 n;rw [List.length_append];simp only [List.length_cons,List.length_nil];omega
noncomputable def J9 (t:UInt16) (n:UInt32):List UInt8:=(A9 n).drop (4 - (mh t).size).toNat
def ru (t:UInt16):Nat→List ByteArray→List UInt8
 |_,[]=>[]
 |i,x::r=>(if (t.toNat:Int)=16∨i=0 then [UInt8.ofNat x.size] else [])++x.data.toList++ru t (i+1) r
noncomputable def xi (t:UInt16) (d:bc):List UInt8:=d.nums.flatMap (J9 t)
def vu (d:bc):List UInt8:=d.names.flatMap oy
def tl (t:UInt16) (d:bc):List UInt8:=ru t 0 d.texts
noncomputable def vq (t:UInt16) (d:bc):List UInt8:=if (t.toNat:Int)=6 then vu d++xi t d else xi t d++(vu d++(tl t d++d.raw))
theorem F4 (n):(A9 n).length=4:=rfl
theorem Yn {α:Type} (f : α→List UInt8) (μ : α→Nat) (h:∀ x,(f x).length ≤ μ x) (l:List α):(l.flatMap f).length≤jr μ l:=by
 induction l with
 |nil=>simp
 |cons a l ih=>have:=h a;simp only [List.flatMap_cons,List.length_append,jr,List.foldr_cons] at ih ⊢;omega
theorem adi (t:UInt16) (l:List ByteArray):∀ i,(ru t i l).length≤jr ByteArray.size l:=by
 induction l with
 |nil=>intro i;simp [ru]
 |cons a l ih=>
  intro i
  have:=ih (i+1)
  have ha:a.data.size=a.size:=rfl
  simp only [ru,List.length_append,jr,List.foldr_cons,Array.length_toList] at this ⊢
  split<;>simp<;>omega
theorem ahx (t d):(xi t d).length≤4 * d.nums.length:=by
 unfold xi
 induction d.nums with
 |nil=>simp
 |cons a l ih=>
  have:(J9 t a).length≤4:=by unfold J9;rw [List.length_drop,F4];omega
  simp only [List.flatMap_cons,List.length_append,List.length_cons];omega
theorem cj.written {d:bc} (h:cj d) (t):(xi t d).length≤67108864∧(vu d).length≤16777216∧(tl t d).length≤16777216:=by
 have h1:=ahx t d
 have h2:(vu d).length≤jr bj d.names:=Yn oy bj aex d.names
 have h3:(tl t d).length≤jr ByteArray.size d.texts:=adi t d.texts 0
 unfold cj vd at h
 omega
theorem Nu {α:Type} {l:List α} {i:Nat} {c : α} (f : α→List UInt8) (h:l.drop i=c::l.drop (i+1)):(l.drop i).flatMap f=f c++(l.drop (i+1)).flatMap f:=by rw [h];rfl
theorem Ns (c):(A9 c).take 4=A9 c:=rfl
theorem aaq (t) (c):(A9 c).drop (4 - (mh t).size).toNat=J9 t c:=rfl
theorem afi (t:UInt16) {l:List ByteArray} {i:Nat} {c:ByteArray} (h:l.drop i=c::l.drop (i+1)):ru t i (l.drop i)=(if (t.toNat:Int)=16∨i=0 then [UInt8.ofNat c.size] else [])++c.data.toList++ru t (i+1) (l.drop (i+1)):=by rw [h];rfl
theorem aib (t:UInt16) (d:bc) (hd:cj d):wl PP [O7,an6,abo,ak5] 0 (Try.f32.body.getD .skip) (er PP Try.f32.results.toList (fun r st=>(r1 (b7 ba)).get true st.h r=some (vq t d))) (cg 0 [cp.val false t,ag.val false d]) (bh []):=by
 have hl:=hd.lens
 have hk:=hd.written t
 have hs:=Mm t
 unfold Try.f32
 simp only [js,dc]
 simp only [↓wR,RA,simprocAttr,TF,z7,zv]
 refine om [0,3,6,7,8,21,22,23,5] (fun (x:Nat × List UInt8)=>[.sc (.int .u16 t.toNat),.ptr 0 0,.sc (.slice none 0 0),.sc (.slice none 0 0),.ptr 1 0,.vl false 1 (d.nums.map (bz.val false)),.sc (.int .i64 (d.nums.length)),.sc (.int .i64 (x.1)),.sl 2 0 x.2.length 1]) (fun x=>[some (.row [.vl false 1 (d.names.map (aw.val false)),.vl false 1 (d.nums.map (bz.val false)),.vl false 1 (d.texts.map (an.val false)),.vl false 1 (d.raw.map (ba.val false))] 0 2 50),some (.row [.sc (.int .i64 (mh t).names),.sc (.int .i64 (mh t).nums),.sc (.int .i64 (mh t).size),.sc (.int .i64 (mh t).texts),.sc (.int .i64 (mh t).raw)] 0 2 73),some (.row (x.2.map (ba.val false)) 0 0 5)]) (fun x=>x.1≤d.nums.length∧x.2++(d.nums.drop x.1).flatMap (J9 t)=xi t d) (fun x=>d.nums.length - x.1) (0,[]) ⟨Nat.zero_le _,rfl⟩ (by simp only [↓wR,RA,simprocAttr,TF];(refine v7.lax [] (by first|exact Nat.le_of_ble_eq_true rfl|(simp [bo];omega)) ?_ ?_<;>repeat' first|exact kj.nil|exact dn.nil|exact mf.same _|exact mf.nil _ _ _|exact mf.Br _ _|exact dn.refl _ _|apply kj.cons|apply dn.ghost|apply dn.same|apply dn.row)) ?_
 rintro ⟨i,x⟩ ⟨hi,hx⟩
 simp only at hi hx
 simp only [↓wR,RA,simprocAttr,TF]
 rw [b8];refine ⟨fun h=>?_,fun h=>?_⟩
 ·obtain ⟨c,hc,hd1,hlt⟩:=ik (decide_eq_true h)
  rw [Nu _ hd1] at hx
  have hxl:x.length+(J9 t c).length≤(xi t d).length:=by rw [← hx];simp
  simp only [↓wR,RA,simprocAttr,TF,h,hc,H0,F4,Ns,aaq];repeat (simp (disch:=omega) only [aj,bt,br,bw,bu];try simp only [↓wR,RA,simprocAttr,TF,h,hc,H0,F4,Ns,aaq])
  exact ⟨(i+1,x++J9 t c),⟨hlt,by rw [List.append_assoc];exact hx⟩,by simp;omega,by (first|rfl|trivial|omega|((try (simp (disch:=omega) only [aj]));(try (simp only [FB]));first|done|rfl|omega)),by (first|rfl|trivial|omega|((try (simp (disch:=omega) only [aj]));(try (simp only [FB]));first|done|rfl|omega))⟩
 rw [oj (decide_eq_false h)] at hx
 obtain rfl:x=xi t d:=by simpa using hx
 clear hx
 simp only [↓wR,RA,simprocAttr,TF,h]
 obtain ⟨nu,hnu⟩:∃ nu,xi t d=nu:=⟨_,rfl⟩
 rw [hnu] at hk ⊢
 refine om [0,3,7,38,39,40,5,6] (fun (x:Nat × List UInt8)=>[.sc (.int .u16 t.toNat),.ptr 0 0,.sc (.slice none 0 0),.vl false 1 (d.names.map (aw.val false)),.sc (.int .i64 (d.names.length)),.sc (.int .i64 (x.1)),.sl 1 0 nu.length 1,.sl 2 0 x.2.length 1]) (fun x=>[some (.row [.vl false 1 (d.names.map (aw.val false)),.vl false 1 (d.nums.map (bz.val false)),.vl false 1 (d.texts.map (an.val false)),.vl false 1 (d.raw.map (ba.val false))] 0 2 50),some (.row (nu.map (ba.val false)) 0 0 5),some (.row (x.2.map (ba.val false)) 0 0 5)]) (fun x=>x.1≤d.names.length∧x.2++(d.names.drop x.1).flatMap oy=vu d) (fun x=>d.names.length - x.1) (0,[]) ⟨Nat.zero_le _,rfl⟩ (by simp only [↓wR,RA,simprocAttr,TF];(refine v7.lax [] (by first|exact Nat.le_of_ble_eq_true rfl|(simp [bo];omega)) ?_ ?_<;>repeat' first|exact kj.nil|exact dn.nil|exact mf.same _|exact mf.nil _ _ _|exact mf.Br _ _|exact dn.refl _ _|apply kj.cons|apply dn.ghost|apply dn.same|apply dn.row)) ?_
 clear h
 rintro ⟨i,x⟩ ⟨hi,hx⟩
 simp only at hi hx
 simp only [↓wR,RA,simprocAttr,TF]
 rw [b8];refine ⟨fun h=>?_,fun h=>?_⟩
 ·obtain ⟨c,hc,hd1,hlt⟩:=ik (decide_eq_true h)
  rw [Nu _ hd1] at hx
  have hxl:x.length+(oy c).length≤(vu d).length:=by rw [← hx];simp
  simp only [↓wR,RA,simprocAttr,TF,h,hc,qo,hd.name c (List.mem_of_getElem? hc)];repeat (simp (disch:=omega) only [aj,bt,br,bw,bu];try simp only [↓wR,RA,simprocAttr,TF,h,hc,qo,hd.name c (List.mem_of_getElem? hc)])
  exact ⟨(i+1,x++oy c),⟨hlt,by rw [List.append_assoc];exact hx⟩,by simp;omega,by (first|rfl|trivial|omega|((try (simp (disch:=omega) only [aj]));(try (simp only [FB]));first|done|rfl|omega)),by (first|rfl|trivial|omega|((try (simp (disch:=omega) only [aj]));(try (simp only [FB]));first|done|rfl|omega))⟩
 rw [oj (decide_eq_false h)] at hx
 obtain rfl:x=vu d:=by simpa using hx
 clear hx
 simp only [↓wR,RA,simprocAttr,TF,h]
 obtain ⟨na,hna⟩:∃ na,vu d=na:=⟨_,rfl⟩
 rw [hna] at hk ⊢
 refine om [0,3,54,55,56,5,6,7] (fun (x:Nat × List UInt8)=>[.sc (.int .u16 t.toNat),.ptr 0 0,.vl false 1 (d.texts.map (an.val false)),.sc (.int .i64 (d.texts.length)),.sc (.int .i64 (x.1)),.sl 1 0 nu.length 1,.sl 2 0 na.length 1,.sl 3 0 x.2.length 1]) (fun x=>[some (.row [.vl false 1 (d.names.map (aw.val false)),.vl false 1 (d.nums.map (bz.val false)),.vl false 1 (d.texts.map (an.val false)),.vl false 1 (d.raw.map (ba.val false))] 0 2 50),some (.row (nu.map (ba.val false)) 0 0 5),some (.row (na.map (ba.val false)) 0 0 5),some (.row (x.2.map (ba.val false)) 0 0 5)]) (fun x=>x.1≤d.texts.length∧x.2++ru t x.1 (d.texts.drop x.1)=tl t d) (fun x=>d.texts.length - x.1) (0,[]) ⟨Nat.zero_le _,rfl⟩ (by simp only [↓wR,RA,simprocAttr,TF];(refine v7.lax [] (by first|exact Nat.le_of_ble_eq_true rfl|(simp [bo];omega)) ?_ ?_<;>repeat' first|exact kj.nil|exact dn.nil|exact mf.same _|exact mf.nil _ _ _|exact mf.Br _ _|exact dn.refl _ _|apply kj.cons|apply dn.ghost|apply dn.same|apply dn.row)) ?_
 clear h
 rintro ⟨i,x⟩ ⟨hi,hx⟩
 simp only at hi hx
 simp only [↓wR,RA,simprocAttr,TF]
 rw [b8];refine ⟨fun h=>?_,fun h=>?_⟩
 ·obtain ⟨c,hc,hd1,hlt⟩:=ik (decide_eq_true h)
  rw [afi _ hd1] at hx
  have hxl:x.length+((if (t.toNat:Int)=16∨i=0 then [UInt8.ofNat c.size] else []).length+c.size)≤(tl t d).length:=by rw [← hx];simp
  have hcs:c.data.toList.length=c.size:=by simp
  simp only [↓wR,RA,simprocAttr,TF,h,hc];repeat (simp (disch:=omega) only [aj,bt,br,bw,bu];try simp only [↓wR,RA,simprocAttr,TF,h,hc])
  have fin:∀ b:List UInt8,x++(b++c.data.toList++ru t (i+1) (d.texts.drop (i+1)))=tl t d→x++b++c.data.toList++ru t (i+1) (d.texts.drop (i+1))=tl t d:=fun b hb=>by rw [← hb];simp
  rw [dy];refine ⟨fun ⟨h16,e16⟩=>?_,fun ⟨h16,e16⟩=>?_⟩
  ·rw [if_pos (.inl e16)] at hx hxl
   simp only [List.length_cons,List.length_nil] at hxl
   simp only [↓wR,RA,simprocAttr,TF,h16];repeat (simp (disch:=omega) only [aj,bt,br,bw,bu];try simp only [↓wR,RA,simprocAttr,TF,h16])
   exact ⟨(i+1,x++[UInt8.ofNat c.size]++c.data.toList),⟨hlt,fin _ hx⟩,by simp;omega,by (first|rfl|trivial|omega|((try (simp (disch:=omega) only [aj]));(try (simp only [FB]));first|done|rfl|omega)),by (first|rfl|trivial|omega|((try (simp (disch:=omega) only [aj]));(try (simp only [FB]));first|done|rfl|omega))⟩
  ·simp only [↓wR,RA,simprocAttr,TF,h16];repeat (simp (disch:=omega) only [aj,bt,br,bw,bu];try simp only [↓wR,RA,simprocAttr,TF,h16])
   rw [dy];refine ⟨fun ⟨h0,e0⟩=>?_,fun ⟨h0,e0⟩=>?_⟩
   ·rw [if_pos (.inr (by omega))] at hx hxl
    simp only [List.length_cons,List.length_nil] at hxl
    simp only [↓wR,RA,simprocAttr,TF,h0];repeat (simp (disch:=omega) only [aj,bt,br,bw,bu];try simp only [↓wR,RA,simprocAttr,TF,h0])
    exact ⟨(i+1,x++[UInt8.ofNat c.size]++c.data.toList),⟨hlt,fin _ hx⟩,by simp;omega,by (first|rfl|trivial|omega|((try (simp (disch:=omega) only [aj]));(try (simp only [FB]));first|done|rfl|omega)),by (first|rfl|trivial|omega|((try (simp (disch:=omega) only [aj]));(try (simp only [FB]));first|done|rfl|omega))⟩
   ·rw [if_neg (by omega)] at hx hxl
    simp only [List.length_nil] at hxl
    simp only [↓wR,RA,simprocAttr,TF,h0];repeat (simp (disch:=omega) only [aj,bt,br,bw,bu];try simp only [↓wR,RA,simprocAttr,TF,h0])
    exact ⟨(i+1,x++c.data.toList),⟨hlt,by have:=fin _ hx;simpa using this⟩,by simp;omega,by (first|rfl|trivial|omega|((try (simp (disch:=omega) only [aj]));(try (simp only [FB]));first|done|rfl|omega)),by (first|rfl|trivial|omega|((try (simp (disch:=omega) only [aj]));(try (simp only [FB]));first|done|rfl|omega))⟩
 rw [oj (decide_eq_false h)] at hx
 obtain rfl:x=tl t d:=by simpa [ru] using hx
 clear hx
 simp only [↓wR,RA,simprocAttr,TF,h];repeat (simp (disch:=omega) only [aj,bt,br,bw,bu];try simp only [↓wR,RA,simprocAttr,TF,h])
 unfold vq
 rw [hnu,hna]
 rw [dy];refine ⟨fun ⟨h6,e6⟩=>?_,fun ⟨h6,e6⟩=>?_⟩
 ·rw [if_pos e6]
  simp only [↓wR,RA,simprocAttr,TF,h6];repeat (simp (disch:=omega) only [aj,bt,br,bw,bu];try simp only [↓wR,RA,simprocAttr,TF,h6])
 ·rw [if_neg e6]
  have hcat:nu.length+(na.length+((tl t d).length+d.raw.length))≤134217728:=by omega
  simp only [↓wR,RA,simprocAttr,TF,h6,w4,hcat];repeat (simp (disch:=omega) only [aj,bt,br,bw,bu];try simp only [↓wR,RA,simprocAttr,TF,h6,w4,hcat])
  rw [← List.map_append,← List.map_append,← List.map_append]
  exact rtT (b7 ba) _ _
noncomputable def qq (x:UInt16 × bc × Unit):Option AV:=if cj x.2.1 then some ((r1 (b7 ba)).E true (vq x.1 x.2.1)) else none
set_option maxRecDepth 2000000 in
theorem Bj (x:UInt16 × bc × Unit) (r:AV) (h:qq x=some r):ca PP 32 ((aC cp (aC ag a0)).E x) r:=by
 by_cases hc:cj x.2.1
 case neg=>simp only [qq,if_neg hc] at h;cases h
 simp only [qq,if_pos hc] at h
 cases h
 exact bk (ar.cons (ay z4) (ar.cons (ay Yx) (ar.cons (ay Nf) (ar.cons (ay Wt) (ar.nil PP))))) Try.func32 (by kernel_rfl) (by kernel_rfl) (by kernel_rfl) (Nat.le_of_ble_eq_true (by kernel_rfl)) (r1 (b7 ba)) true (vq x.1 x.2.1) (aib x.1 x.2.1 hc)
noncomputable abbrev K9:Nat × Bool × (List AV→M AV):=(32,true,dw (aC cp (aC ag a0)) qq)
end Go.Proofs.Ytldcaajoheeipaa
end
