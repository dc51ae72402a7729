/- A piece of the proof. Proved: where the arguments are together of bulk at most 1048576, the law ZoneBack returns true (records of a zone make it again in any order), and what it was given reads afterwards as it did before. No other conditions. -/
import Derived.WalkKit
import Derived.CallsIn
import Derived.RangeFuncIn
import Derived.RangeFuncLeaves
import Derived.Orders
import Derived.OrdersIn
import Derived.Scope
import Derived.RangeFuncOwn
import Derived.Stop.SameAnswer
import Derived.Laws.Externs
import Derived.Lib.Bytealg
import Derived.ProofKit
import Derived.OpenShut
import Derived.ReadAgain
import Derived.Deep.Slices
import Derived.ChangeSame
import Derived.Test.YtifjogffkafalaaGreatProg
import Derived.KernelRfl
import Derived.Test.YtifjogffkafalaaGreatRows
import Derived.Maps.RangeRun
import Derived.JoinedCond
import Derived.Test.YtifjogffkafalaaGreatY4
set_option linter.unusedSimpArgs false
set_option linter.unusedVariables false
namespace Go.Vm
noncomputable section
def St.more (st:St) (x:ba):St:={ h:=Tr.set depth st.h st.nx (some x),nx:=st.nx+1,rl:=st.rl,wl:=st.wl }
theorem jq.focus {B:dk} {nt L st g a w cells et n sz v b} (hnf:B.lj) (hlim:st.nx≤br) (hh:jq B nt L st g a w) (ho:jj B g st w cells et n sz v b) :
 ∃ g',jq B nt L (st.more (.row cells 0 0 et)) g' a w∧Rel g' w (.sl st.nx 0 n sz) v∧Ext g w g' w∧(∀ b j,g'.K b j→g.K b j)∧(∀ b',fg g st.h b'→b'≠b→fg g' (st.more (.row cells 0 0 et)).h b')∧(∀ o,o≠st.nx→g'.inj o=g.inj o):=by
 obtain ⟨base,hobj,cap,hv,hn,hc,hroom⟩:=ho.obj
 have hno:g.inj st.nx=none:=hh.cur.fresh _ (Nat.le_refl _) (hnf _)
 have hx:Ext g w (g.with st.nx b base) w:=⟨rfl,fun o p h=>by
  rw [Gh.dv (by intro e;subst e;rw [hno] at h;cases h)];exact h,fun _ _ h=>h,fun _ _ _=>rfl,fun b cs e fr h=>⟨cs,fr,h,rfl⟩,fun b l h=>⟨l,h⟩⟩
 have cj:∀ o,(st.more (.row cells 0 0 et)).h.get o=if o=st.nx then some (.row cells 0 0 et) else st.h.get o:=fun o=>ea _ _ _ _ hlim
 have hb:=hh.cur.base
 have hO:∀ o y,st.h.get o=some y→∀ b1 base1,g.inj o=some (b1,base1)→b1≠b:=fun o y hy b1 base1 hi e=>by
  subst e;exact ho.un o base1 (by rw [hy];rfl) hi
 refine ⟨g.with st.nx b base,⟨⟨⟨hh.cur.ok.size,fun o y hy=>?_,fun o o' y y' b1 base1 base2 hne hy hy' hi hi'=>?_,hh.cur.ok.K⟩,fun o h1 h2=>?_,⟨hb.b0,fun o h1=>?_,hb.K,hb.cell,hb.size,hb.os,hb.tape,hb.output,hb.frame,fun o b1 base1 h1 h2=>?_,hb.k8,hb.i4,hb.lp⟩,Nat.le_succ_of_le hh.cur.ay⟩,hh.sl.ext hx,?_⟩,?_,hx,fun _ _ h=>h,fun b' hu hne o base1 h1 h2=>?_,fun o h=>Gh.dv h⟩
 ·rw [cj] at hy
  by_cases e:o=st.nx
  ·subst e
   rw [if_pos rfl] at hy;cases hy
   exact .inr ⟨b,base,Gh.jk,ho.gb,hobj.ext hx rfl (fun _ h=>h)⟩
  ·rw [if_neg e] at hy
   refine (hh.cur.ok.mb o y hy).imp (fun q=>⟨by rw [Gh.dv e];exact q.1,q.2⟩) ?_
   rintro ⟨b1,base1,h1,h2,h3⟩
   exact ⟨b1,base1,by rw [Gh.dv e];exact h1,h2,h3.ext hx rfl (fun _ h=>h)⟩
 ·rw [cj] at hy hy'
  by_cases e:o=st.nx
  ·subst e
   rw [Gh.jk] at hi;cases hi
   rw [if_neg (Ne.symm hne)] at hy'
   rw [Gh.dv (Ne.symm hne)] at hi'
   exact hO o' y' hy' _ _ hi' rfl
  ·rw [if_neg e] at hy
   rw [Gh.dv e] at hi
   by_cases e':o'=st.nx
   ·subst e'
    rw [Gh.jk] at hi';cases hi'
    exact hO o y hy _ _ hi rfl
   ·rw [if_neg e'] at hy'
    rw [Gh.dv e'] at hi'
    exact hh.cur.ok.sep o o' y y' b1 base1 base2 hne hy hy' hi hi'
 ·have h1:st.nx+1≤o:=h1
  rw [Gh.dv (by omega)];exact hh.cur.fresh o (by omega) h2
 ·have hp:=hh.cur.ay
  have h1':o<B.ay:=h1.resolve_right (hnf o)
  rw [Gh.dv (by omega)];exact hb.pins o h1
 ·rw [cj] at h1
  by_cases e:o=st.nx
  ·subst e
   rw [Gh.jk] at h2;cases h2
   exact .inl ho.ge
  ·rw [if_neg e] at h1
   rw [Gh.dv e] at h2
   exact hb.own o b1 base1 h1 h2
 ·obtain ⟨bs,m1,m2,m3⟩:=hh.Jc
  refine ⟨bs,m1,m2,fun c hc=>⟨(m3 c hc).1,(m3 c hc).2.1,fun o base1 h1 h2=>?_⟩⟩
  rw [cj] at h1
  by_cases e:o=st.nx
  ·subst e
   rw [Gh.jk] at h2;cases h2
   obtain ⟨cs,fr,q,_⟩:=hobj
   rw [(m3 _ hc).2.1] at q;cases q
  ·rw [if_neg e] at h1
   rw [Gh.dv e] at h2
   exact (m3 c hc).2.2 o base1 h1 h2
 ·rw [hv]
  exact .sl st.nx 0 n sz b base cap Gh.jk hn hc hroom
 ·rw [cj] at h1
  by_cases e:o=st.nx
  ·subst e
   rw [Gh.jk] at h2;cases h2
   exact hne rfl
  ·rw [if_neg e] at h1
   rw [Gh.dv e] at h2
   exact hu o base1 h1 h2
def St.less (st:St) (o:Nat):St:={ st with h:=Tr.set depth st.h o none }
theorem jq.release {B:dk} {nt L st g a w o cells et n sz v} (hO:∀ b,¬ B.O b) (hlim:o≤br) (hh:jq B nt L st g a w) (ho:st.h.get o=some (.row cells 0 0 et)) (hn : 0<n) (hr:Rel g w (.sl o 0 n sz) v) :
 ∃ b,jq B nt L (st.less o) g a w∧jj B g (st.less o) w cells et n sz v b∧∀ b',fg g st.h b'→b'≠b∧fg g (st.less o).h b':=by
 have cj:∀ p,(st.less o).h.get p=if p=o then none else st.h.get p:=fun p=>ea _ _ _ _ hlim
 have hsub:∀ p x,(st.less o).h.get p=some x→p≠o∧st.h.get p=some x:=fun p x hx=>by
  rw [cj] at hx
  by_cases e:p=o
  ·rw [if_pos e] at hx;cases hx
  ·rw [if_neg e] at hx;exact ⟨e,hx⟩
 have hsome:∀ p,((st.less o).h.get p).isSome=true→p≠o∧(st.h.get p).isSome=true:=fun p hp=>by
  obtain ⟨x,hx⟩:=Option.isSome_iff_exists.1 hp
  exact ⟨(hsub p x hx).1,by rw [(hsub p x hx).2];rfl⟩
 have key:∃ b base cap,g.inj o=some (b,base)∧v = .slice (some ⟨b,base,none⟩) n cap∧n≤cap∧cap≤maxLen∧Sg w b (base+cap * sz):=by
  cases hr with
  |sl _ _ _ _ b base cap hi hc hm hroom=>exact ⟨b,base,cap,hi,rfl,hc,hm,hroom⟩
  |uu=>omega
  |u1=>omega
 obtain ⟨b,base,cap,hi,hv,h1,h2,h3⟩:=key
 obtain ⟨b',base',e1,e2,e3⟩:=hh.cur.ok.obj o _ ho ⟨_,hi⟩
 rw [hi] at e1;cases e1
 have hb:=hh.cur.base
 refine ⟨b,⟨⟨hh.cur.ok.part (fun p x hx=>(hsub p x hx).2),hh.cur.fresh,⟨hb.b0,hb.pins,hb.K,hb.cell,hb.size,hb.os,hb.tape,hb.output,hb.frame,fun p b1 base1 q1 q2=>hb.own p b1 base1 (hsome p q1).2 q2,hb.k8,hb.i4,hb.lp⟩,hh.cur.ay⟩,hh.sl,?_⟩,⟨?_,e2,fun p base1 q1 q2=>?_,base,e3,cap,hv,h1,h2,h3⟩,fun b' hu=>⟨fun e=>?_,fun p base1 q1 q2=>hu p base1 (hsome p q1).2 q2⟩⟩
 ·obtain ⟨bs,m1,m2,m3⟩:=hh.Jc
  exact ⟨bs,m1,m2,fun c hc=>⟨(m3 c hc).1,(m3 c hc).2.1,fun p base1 q1 q2=>(m3 c hc).2.2 p base1 (hsome p q1).2 q2⟩⟩
 ·rcases hb.own o b base (by rw [ho];rfl) hi with q|q
  ·exact q
  ·exact (hO b q).elim
 ·obtain ⟨x,hx⟩:=Option.isSome_iff_exists.1 q1
  exact hh.cur.ok.sep p o x _ b base1 base (hsub p x hx).1 (hsub p x hx).2 ho q2 hi
 ·subst e;exact hu o base (by rw [ho];rfl) hi
def vz (m:Nat) (o:Nat):Option Nat:=bif Nat.blt o m then some o else none
theorem jq.cut {B:dk} {nt L st g a w} {m:Nat} (hnf:B.lj) (hm:m≤st.nx) (hp:B.ay≤m) (hh:jq B nt L st g a w) (hL:∀ t,(lk L t).cb (vz m)=lk L t) (hobj:∀ o x,st.h.get o=some x→o<m∧x.cb (vz m)=some x) :
 jq B nt L { st with nx:=m } (g.cb (dh 0 m)) a w∧∀ b,fg g st.h b→fg (g.cb (dh 0 m)) st.h b:=by
 have hinj:∀ o,o<m→(g.cb (dh 0 m)).inj o=g.inj o:=fun o ho=>by
  have:(dh 0 m)[o]? = some o:=by rw [Ab _ _ _ ho,Nat.zero_add]
  simp [Gh.cb,this]
 have hinj':∀ o p,(g.cb (dh 0 m)).inj o=some p→g.inj o=some p:=fun o p h=>by
  by_cases ho:o<m
  ·rw [hinj o ho] at h;exact h
  ·have:(dh 0 m)[o]? = none:=List.getElem?_eq_none (by rw [jv];omega)
   simp [Gh.cb,this] at h
 have hτ:∀ o p,vz m o=some p→(dh 0 m)[p]? = some o:=fun o p h=>by
  unfold vz at h
  cases hb:Nat.blt o m with
  |false=>rw [hb] at h;cases h
  |true=>rw [hb] at h;cases h;rw [Ab _ _ _ (Nat.le_of_ble_eq_true hb),Nat.zero_add]
 have hb:=hh.cur.base
 refine ⟨⟨⟨⟨hh.cur.ok.size,fun o x hx=>?_,fun o o' x x' b1 base1 base2 hne hx hx' hi hi'=>hh.cur.ok.sep o o' x x' b1 base1 base2 hne hx hx' (hinj' _ _ hi) (hinj' _ _ hi'),hh.cur.ok.K⟩,fun o h1 h2=>?_,⟨hb.b0,fun o h1=>?_,hb.K,hb.cell,hb.size,hb.os,hb.tape,hb.output,hb.frame,fun o b1 base1 h1 h2=>hb.own o b1 base1 h1 (hinj' _ _ h2),hb.k8,hb.i4,hb.lp⟩,hp⟩,⟨hh.sl.1,fun t=>?_⟩,?_⟩,fun b hu o base h1 h2=>hu o base h1 (hinj' _ _ h2)⟩
 ·obtain ⟨h1,h2⟩:=hobj o x hx
  refine (hh.cur.ok.mb o x hx).imp (fun q=>⟨by rw [hinj o h1];exact q.1,q.2⟩) ?_
  rintro ⟨b,base,q1,q2,q3⟩
  exact ⟨b,base,by rw [hinj o h1];exact q1,q2,q3.cb hτ h2⟩
 ·have h1:m≤o:=h1
  have:(dh 0 m)[o]? = none:=List.getElem?_eq_none (by rw [jv];omega)
  simp [Gh.cb,this]
 ·have h1':o<B.ay:=h1.resolve_right (hnf o)
  rw [hinj o (by omega)];exact hb.pins o h1
 ·rw [← hL t];exact (hh.sl.2 t).cb hτ
 ·obtain ⟨bs,m1,m2,m3⟩:=hh.Jc
  exact ⟨bs,m1,m2,fun c hc=>⟨(m3 c hc).1,(m3 c hc).2.1,fun o base1 h1 h2=>(m3 c hc).2.2 o base1 h1 (hinj' _ _ h2)⟩⟩
theorem jq.congr {B:dk} {nt L st g a w} {st':St} (hh:jq B nt L st g a w) (hn:st'.nx=st.nx) (hg:∀ o,st'.h.get o=st.h.get o):jq B nt L st' g a w:=by
 have hb:=hh.cur.base
 refine ⟨⟨⟨hh.cur.ok.size,fun o x hx=>hh.cur.ok.mb o x (by rw [← hg];exact hx),fun o o' x x' b1 base1 base2 hne hx hx'=>hh.cur.ok.sep o o' x x' b1 base1 base2 hne (by rw [← hg];exact hx) (by rw [← hg];exact hx'),hh.cur.ok.K⟩,by rw [hn];exact hh.cur.fresh,⟨hb.b0,hb.pins,hb.K,hb.cell,hb.size,hb.os,hb.tape,hb.output,hb.frame,fun o b1 base1 h1=>hb.own o b1 base1 (by rw [← hg];exact h1),hb.k8,hb.i4,hb.lp⟩,by rw [hn];exact hh.cur.ay⟩,hh.sl,?_⟩
 obtain ⟨bs,m1,m2,m3⟩:=hh.Jc
 exact ⟨bs,m1,m2,fun c hc=>⟨(m3 c hc).1,(m3 c hc).2.1,fun o base1 h1=>(m3 c hc).2.2 o base1 (by rw [← hg];exact h1)⟩⟩
theorem jj.congr {B g st w cs et n sz v b} {st':St} (h:jj B g st w cs et n sz v b) (hg:∀ o,st'.h.get o=st.h.get o):jj B g st' w cs et n sz v b:=
 ⟨h.ge,h.gb,fun o base1 h1=>h.un o base1 (by rw [← hg];exact h1),h.obj⟩
theorem jq.freeze {B:dk} {nt L st g a w et n sz v b} {es:List AV} (hcl:ma (es.flatMap AV.cells)) (hsz:∀ e ∈ es,e.cells.length=sz) (hn:es.length=n) (hh:jq B nt L st g a w) (ho:jj B g st w (es.flatMap AV.cells) et n sz v b) :
 ∃ g',jq B nt L st g' a w∧Rel g' w (.vl true sz es) v∧Ext g w g' w∧g'.inj=g.inj∧(∀ b' j,b'≠b→g'.K b' j→g.K b' j):=by
 obtain ⟨base,⟨cs,fr,o1,o2,o3,o4,o5,o6,o7⟩,cap,hv,hc,hm,hroom⟩:=ho.obj
 let g':Gh:={ g with K:=fun c j=>g.K c j∨(c=b∧base≤j∧j<base+(es.flatMap AV.cells).length) }
 have hx:Ext g w g' w:=⟨rfl,fun _ _ h=>h,fun _ _ h=>.inl h,fun _ _ _=>rfl,fun b cs e fr h=>⟨cs,fr,h,rfl⟩,fun b l h=>⟨l,h⟩⟩
 have hb:=hh.cur.base
 have hK:∀ b' j,b'≠b→g'.K b' j→g.K b' j:=fun b' j hne hk=>hk.resolve_right (fun q=>hne q.1)
 refine ⟨g',⟨⟨⟨hh.cur.ok.size,fun o x hx'=>?_,hh.cur.ok.sep,fun c j hk=>?_⟩,hh.cur.fresh,⟨hb.b0,hb.pins,fun c j hk=>.inl (hb.K c j hk),hb.cell,hb.size,hb.os,hb.tape,hb.output,hb.frame,hb.own,fun c j hk=>?_,hb.i4,hb.lp⟩,hh.cur.ay⟩,hh.sl.ext hx,hh.Jc⟩,?_,hx,rfl,hK⟩
 ·refine (hh.cur.ok.mb o x hx').imp id ?_
  rintro ⟨b1,base1,q1,q2,q3⟩
  have hne:b1≠b:=fun e=>by subst e;exact ho.un o base1 (by rw [hx'];rfl) q1
  exact ⟨b1,base1,q1,q2,q3.ext hx rfl (fun j hj=>hK b1 j hne hj)⟩
 ·rcases hk with hk|⟨rfl,_,_⟩
  ·exact hh.cur.ok.K c j hk
  ·exact ca o1
 ·rcases hk with hk|⟨rfl,_,_⟩
  ·exact hb.k8 c j hk
  ·exact .inr (.inl ho.ge)
 ·rw [hv,← hn]
  have hcell:∀ (j:Nat) x,(es.flatMap AV.cells)[j]? = some x→∃ c,cs[base+j]? = some c∧Rel g w x c:=o3
  refine .vl true sz es b base cap (fun j=>cs.getD (base+j) undef) hsz (fun _=>ho.gb) (by omega) (fun j x hx'=>?_) (fun j x hx'=>?_)
  ·obtain ⟨c,q1,q2⟩:=hcell j x hx'
   have hj:=(List.getElem?_eq_some_iff.1 hx').1
   refine ⟨.inr ⟨rfl,by omega,by omega⟩,?_⟩
   rw [n7 o1,Array.getD_eq_getD_getElem?,q1];rfl
  ·obtain ⟨c,q1,q2⟩:=hcell j x hx'
   rw [Array.getD_eq_getD_getElem?,q1]
   exact q2.ext hx
theorem aml {P:Program} {N:Nat} {F:Fence} {c:Code} {Q:Exit→Act→World→Prop} {α:Type} (I : α→Act→World→Prop) (μ : α→Nat)
 (h:∀ x a w,I x a w→c.wpIn F N P (Exit.then (fun a' w'=>∃ y,μ y < μ x∧I y a' w') Q) a w) (x : α) (a:Act) (w:World) (hi:I x a w):(Code.loop c).wpIn F N P Q a w:=by
 refine ti fun X hX=>?_
 have key:∀ n x a w,μ x=n→I x a w→X a w:=by
  intro n
  induction n using Nat.strongRecOn with
  |_ n ih=>
   intro x a w hn hi
   refine hX a w (wpIn_mono (h x a w hi) ?_)
   intro ex a' w' hq
   cases ex with
   |normal=>
    obtain ⟨y,h1,h2⟩:=hq
    exact ih (μ y) (by omega) y a' w' rfl h2
   |exit id=>exact hq
   |goto l=>exact hq
   |ret=>exact hq
   |panic ch=>exact hq
   |outgrown=>exact hq
 exact key _ x a w rfl hi
theorem Ri {P:Program} {f:Nat} {fn:Func} {body:Code} (hf:P.funcs[f]? = some fn) (hb:fn.body=some body) (he:m7 P f=true)
 {args:List AV} (hl:args.length≤fn.ntmps) {ρ:Type} (R:RC ρ) (fr:Bool) (x : ρ)
 (h:∀ (B:dk) (g:Gh) (a:Act) (w:World),B.lj→B.ay=0→(∀ b,¬ B.O b)→B.n0≤B.w.heap.size→jq B fn.ntmps (cg 0 args) (bb []) g a w→body.wpIn (fm none) 0 P (Fin B fn.ntmps (du P fn.results.toList (fun r st=>R.get fr st.h r=some x))) a w):bu P f args (R.E fr x):=by
 intro K w vs hK hrel
 refine .inr ⟨tg he _ _,vo (ro:=none) (n:=0) (callsIn_of_wp_marks hf hb trivial ?_)⟩
 let B:dk:={ b0:=w.heap.size,w,K,O:=fun _=>False,ay:=0,pb:=fun _=>none,n0:=w.heap.size }
 have hcur:gj B (gK w.heap.size K) (bb []) w:=by
  refine ⟨⟨Nat.le_refl _,fun o x hx=>?_,fun o o' x x' b base base' _ hx=>?_,hK⟩,fun o _ _=>rfl,⟨rfl,(fun o ho=>(by rcases ho with ho|ho;cases ho;exact ho.elim)),fun _ _ h=>h,fun _ _ _=>rfl,Nat.le_refl _,rfl,rfl,rfl,fun _ _ _=>rfl,fun o b base ho=>?_,fun _ _ h=>.inl h,fun b cs e fr h=>⟨cs,fr,h,rfl⟩,fun b l h=>⟨l,h⟩⟩,Nat.zero_le _⟩
  ·simp [bb,pf,Tr.get_nil] at hx
  ·simp [bb,pf,Tr.get_nil] at hx
  ·simp [bb,pf,Tr.get_nil] at ho
 refine wpIn_mono (h B (gK w.heap.size K) _ w (fun _ h=>h) rfl (fun _ h=>h) (Nat.le_refl _) ⟨hcur,xz hrel hl,Marks.nil _ _ _ _⟩) ?_
 rintro ex a w' ⟨e,L,st,g,rfl,hq,hc,hr,hd⟩
 have fin:Hm (qt P L st fn.results.toList) (fun r st=>R.get fr st.h r=some x) st→bodyPostM (fm none) 0 P fn (fun e w'=>∃ v,e = .returned v∧Ak w w'∧Rel (gK w.heap.size (ad5 K w w')) w' (R.E fr x) v) .ret a w':=by
  intro hq
  show LeavesInM (fm none) 0 P fn a.tmps _ a.defers .returning w'
  unfold Hm at hq
  cases hres:qt P L st fn.results.toList with
  |none=>rw [hres] at hq;exact hq.elim
  |some l=>
   rw [hres] at hq
   have hbs:=hc.base
   obtain ⟨bs,e1,e2,e3⟩:=hd
   rw [e1]
   refine Co (Good:=fun u=>Ok g st.h u∧Ak w u∧(∀ a v,Rel g w' a v→Rel g u a v)∧u.heap.size=w'.heap.size) (S:=fun b=>w.heap.size≤b∧fg g st.h b) ?_ ?_ bs w'
    ⟨hc.ok,⟨hbs.size,fun b hlt=>hbs.frame b hlt (fun h=>h),hbs.os,hbs.tape,hbs.output⟩,fun _ _ h=>h,rfl⟩ e2 (fun b hb=>⟨⟨(e3 b hb).1,(e3 b hb).2.2⟩,(e3 b hb).2.1⟩)
   ·rintro u b ⟨g1,g2,g3,g4⟩ ⟨hb1,hb2⟩ hb3
    have hput:=Ok.Cw (ds':=none) g1 hb3 hb2
    exact ⟨hput.1,⟨by rw [n6];exact g2.size,fun c hc=>(g6 u _ (by omega)).trans (g2.heap c hc),g2.os,g2.tape,g2.output⟩,fun a v h=>hput.2 a v (g3 a v h),by rw [n6];exact g4⟩
   ·rintro u ⟨g1,g2,g3,g4⟩
    obtain ⟨us,h1,h2⟩:=Ob (P:=P) g1 ⟨hr.1,fun t=>g3 _ _ (hr.2 t)⟩ fn.results.toList l hres
    obtain ⟨v,h3,h4⟩:=O1 h1 h2
    refine ⟨v,h3,v,rfl,g2,?_⟩
    refine R.ok g1 ⟨fun b j hk=>?_,fun o cells k s e ho b base hi j hj=>?_⟩ (fun _=>?_) h4 hq
    ·rcases hbs.k8 b j hk with h5|h5|h5
     ·exact .inl h5
     ·exact .inr ⟨h5,g1.K b j hk⟩
     ·exact h5.elim
    ·obtain ⟨b',base',h5,_,h6⟩:=g1.obj o _ ho
     rw [hi] at h5;cases h5
     rcases hbs.own o b base (by rw [ho];rfl) hi with h7|h7
     ·exact .inr ⟨h7,h6.lt⟩
     ·exact h7.elim
    ·rw [hbs.b0];exact Nat.le_refl _
 cases e with
 |normal=>exact fin hq
 |ret=>exact fin hq
 |exit id=>exact hq.elim
end
end Go.Vm
section
namespace Go.Proofs.YtifjogffkafalaaGreat
open Go.Vm
set_option maxRecDepth 2000000
def fu (r:ff):iz:=(uc r.owner,r.type,r.cls)
def bq (s:aw):iz:=(uc s.owner,s.type,s.cls)
noncomputable def ofBody:Code:=match Tryz.f28.body.getD .skip with
 |.seq _ (.seq _ (.seq _ (.seq (.seq _ (.block _ (.loop b))) _)))=>b
 |_=>.skip
theorem tp:∀ (ks:List iz) (i:Nat),AV.names.go ((fj i ks).map fun x=>x.2)=[]
 | [],_=>rfl
 |k::r,i=>tp r (i+1)
theorem C4 (τ:Nat→Option Nat):∀ (ks:List iz) (i:Nat),((fj i ks).map fun e=>(e.1,e.2.cb τ))=fj i ks
 | [],_=>rfl
 |k::r,i=>by simp only [fj,List.map_cons,C4 τ r (i+1)];rfl
theorem sw {α:Type} (X Y:List α) {n:Nat} (hX:X.length=n) (a0 a1 a2 a3 a4 : α):(X++a0::a1::a2::a3::a4::Y)[n+1]? = some a1∧(X++a0::a1::a2::a3::a4::Y)[n+3]? = some a3∧(X++a0::a1::a2::a3::a4::Y)[n+4]? = some a4:=by
 subst hX
 refine ⟨?_,?_,?_⟩<;>rw [List.getElem?_append_right (by omega),Nat.add_sub_cancel_left]<;>rfl
theorem z3 {α:Type} (X Y:List α) {n:Nat} (hX:X.length=n) (a0 a1 a2 a3 a4 v : α):(X++a0::a1::a2::a3::a4::Y).set (n+3) v=X++a0::a1::a2::v::a4::Y∧(X++a0::a1::a2::a3::a4::Y).set (n+4) v=X++a0::a1::a2::a3::v::Y:=by
 subst hX
 refine ⟨?_,?_⟩<;>rw [List.set_append,if_neg (by omega),Nat.add_sub_cancel_left]<;>rfl
theorem qw {ty:TypeId} (h1:kj PP ty=some false) {cells:List AV} {n:Nat} {a:AV} (h:cells[n]? = some a) (k st et):i9 PP ty n (.row cells k st et) = .pure a:=by
 obtain ⟨hi,e⟩:=List.getElem?_eq_some_iff.1 h
 have h3:(cells.drop n)[0]? = some a:=by rw [List.getElem?_drop];exact h
 unfold i9 oz
 rw [h1]
 cases dc PP ty<;>simp only [h3]<;>rfl
theorem ux {cells:List AV} {n:Nat} (h:n<cells.length) (v:AV) (hv:v.one=true) (id k et):jz id n 1 [v] (.row cells 0 k et)=(gh id (.row (cells.set n v) 0 k et)).bind fun _=>.pure (.sc undef):=by
 have h1:cells.take n++[v]++cells.drop (n+1)=cells.set n v:=by
  rw [List.set_eq_take_append_cons_drop,if_pos h,List.append_assoc];rfl
 have h2:Nat.ble (n+1) cells.length=true:=Nat.ble_eq_true_of_le h
 have h3:[v].all AV.one=true:=by simp [hv]
 have h4:Nat.beq [v].length 1=true:=rfl
 have h5:Nat.ble 0 n=true:=Nat.ble_eq_true_of_le (Nat.zero_le _)
 unfold jz
 simp only [h1,h2,h3,h4,h5]
 rfl
theorem ayx (q:List ff) (p:Nat) (r:ff) (hr:q[p]? = some r) (ks:List iz) (X:List AV) (hX:X.length=ks.length * 5) (hXn:AV.names.go X=[]) (hXr:∀ τ,X.map (AV.cb τ)=X)
 (hk:j7 (fu r) 0 ks=none) (ho:cp r.owner) (hd:da r.data) (h1:cy r.owner=0) (h2:c7 r.type r.data=0) (hm:ks.length≤1048576) (hpl:q.length≤1048576) :
 wl PP [dj,j9,x7,j3,z7,mi] 0 ofBody (r8 0 [4,5,15,16,17] (fun vs os=>vs=[.mp 0,.sl 1 0 (ks.length+1) 5,.vl false 8 ((q).map (dr.val false)),.sc (.int .i64 ((q).length)),.sc (.int .i64 (p+1))]∧os=[some (.map (fj 0 (ks++[fu r]))),some (.row (X++[.vl true 1 (r.owner.map (ai.val false)),.sc (.int .u16 r.type.toNat),.sc (.int .u16 r.cls.toNat),.sc (.int .u32 r.b7.toNat),.sl 2 0 1 4]) 0 0 58),some (.row (cellsOf ak true ([r.data])) 0 0 44)]) (fun _ _ _=>False))
  (ja [4,5,15,16,17] [.mp 0,.sl 1 0 (ks.length) 5,.vl false 8 ((q).map (dr.val false)),.sc (.int .i64 ((q).length)),.sc (.int .i64 (p))]) (bb [some (.map (fj 0 (ks))),some (.row (X) 0 0 58)]):=by
 have hq:∀ a b c d,c0 a b c=d→c0 a b c=d:=fun _ _ _ _ h=>h
 have hlt:p<q.length:=(List.getElem?_eq_some_iff.1 hr).1
 have hlook:od PP 88 3 (.agg #[.string (uc r.owner),.int .u16 r.type.toNat,.int .u16 r.cls.toNat]) true (.map (fj 0 ks))=M.pure (.fc [.sc (.int .i64 0),.sc (.bool false)]):=av5 ks (fu r) hk
 have hupd:∀ id,qm PP id 88 (.agg #[.string (uc r.owner),.int .u16 r.type.toNat,.int .u16 r.cls.toNat]) (.sc (.int .i64 ks.length)) (.map (fj 0 ks))=(gh id (.map (fj 0 (ks++[fu r])))).bind fun _=>M.pure (.sc undef):=fun id=>ax7 id ks (fu r) hk
 have hg:decide ((p:Int)<q.length)=true:=decide_eq_true (by omega)
 unfold ofBody Tryz.f28
 simp only [↓wR,RA,simprocAttr,TF,ae]
 simp only [↓wR,RA,simprocAttr,TF,ae,hg,hr,i3,ho.fit,h1,i7,hd,h2,wa,ho,s9,u0,hlook,hupd,mh,Kt];repeat (simp (disch:=omega) only [ah,bh,bf,bg,be];try simp only [↓wR,RA,simprocAttr,TF,ae,hg,hr,i3,ho.fit,h1,i7,hd,h2,wa,ho,s9,u0,hlook,hupd,mh,Kt])
 refine ⟨by kernel_rfl,.inl ?_⟩
 have htk:X.take (ks.length * 5)=X:=List.take_of_length_le (by omega)
 have hlim:(ks.length * 5+5) * 160≤140737488355328:=by omega
 have l1:∀ a0 a1 a2 a3 a4 k st et,i9 PP 37 (ks.length * 5+1) (.row (X++[a0,a1,a2,a3,a4]) k st et) = .pure a1:=fun a0 a1 a2 a3 a4 k st et=>qw (by kernel_rfl) (sw X [] hX a0 a1 a2 a3 a4).1 k st et
 have l3:∀ a0 a1 a2 a3 a4 k st et,i9 PP 39 (ks.length * 5+3) (.row (X++[a0,a1,a2,a3,a4]) k st et) = .pure a3:=fun a0 a1 a2 a3 a4 k st et=>qw (by kernel_rfl) (sw X [] hX a0 a1 a2 a3 a4).2.1 k st et
 have l4:∀ ty (_:kj PP ty=some false) a0 a1 a2 a3 a4 k st et,i9 PP ty (ks.length * 5+4) (.row (X++[a0,a1,a2,a3,a4]) k st et) = .pure a4:=fun ty hty a0 a1 a2 a3 a4 k st et=>qw hty (sw X [] hX a0 a1 a2 a3 a4).2.2 k st et
 have s3:∀ a0 a1 a2 a3 a4 x id k et,jz id (ks.length * 5+3) 1 [.sc (.int .u32 x)] (.row (X++[a0,a1,a2,a3,a4]) 0 k et)=(gh id (.row (X++[a0,a1,a2,.sc (.int .u32 x),a4]) 0 k et)).bind fun _=>.pure (.sc undef):=fun a0 a1 a2 a3 a4 x id k et=>by
  rw [ux (by simp;omega) _ (by rfl),(z3 X [] hX a0 a1 a2 a3 a4 _).1]
 have s4:∀ a0 a1 a2 a3 a4 o f l z id k et,jz id (ks.length * 5+4) 1 [.sl o f l z] (.row (X++[a0,a1,a2,a3,a4]) 0 k et)=(gh id (.row (X++[a0,a1,a2,a3,.sl o f l z]) 0 k et)).bind fun _=>.pure (.sc undef):=fun a0 a1 a2 a3 a4 o f l z id k et=>by
  rw [ux (by simp;omega) _ (by rfl),(z3 X [] hX a0 a1 a2 a3 a4 _).2]
 have hmin:(if (r.b7.toNat:Int)<r.b7.toNat then (r.b7.toNat:Int) else r.b7.toNat)=r.b7.toNat:=if_neg (by omega)
 have q3:np r.type [] r.data=false:=by unfold np;rfl
 have d0:lg []:=by unfold lg;decide
 simp only [↓wR,RA,simprocAttr,TF,ae,mw,ho,dt,Kt,htk,hlim,hX,hXn,↓l1,↓l3,↓l4,↓s3];repeat (simp (disch:=omega) only [ah,bh,bf,bg,be];try simp only [↓wR,RA,simprocAttr,TF,ae,mw,ho,dt,Kt,htk,hlim,hX,hXn,↓l1,↓l3,↓l4,↓s3])
 refine ⟨by apply hq;kernel_rfl,?_⟩
 refine ⟨by kernel_rfl,.inl ?_⟩
 simp only [↓wR,RA,simprocAttr,TF,ae,Kt,hmin,↓l1,↓l3,↓l4,↓s3];repeat (simp (disch:=omega) only [ah,bh,bf,bg,be];try simp only [↓wR,RA,simprocAttr,TF,ae,Kt,hmin,↓l1,↓l3,↓l4,↓s3])
 refine ⟨by apply hq;kernel_rfl,?_⟩
 refine ⟨by kernel_rfl,.inl ?_⟩
 simp only [↓wR,RA,simprocAttr,TF,ae,x9,hd,q3,d0,↓l1,↓l3,↓l4,↓s3];repeat (simp (disch:=omega) only [ah,bh,bf,bg,be];try simp only [↓wR,RA,simprocAttr,TF,ae,x9,hd,q3,d0,↓l1,↓l3,↓l4,↓s3])
 refine ⟨by apply hq;kernel_rfl,?_⟩
 refine ⟨by kernel_rfl,.inl ?_⟩
 simp only [↓wR,RA,simprocAttr,TF,ae,pa,hd,↓l1,↓l3,↓l4,↓s3,↓s4,hXn,tp];repeat (simp (disch:=omega) only [ah,bh,bf,bg,be];try simp only [↓wR,RA,simprocAttr,TF,ae,pa,hd,↓l1,↓l3,↓l4,↓s3,↓s4,hXn,tp])
 refine ⟨by apply hq;kernel_rfl,?_⟩
 simp only [↓wR,RA,simprocAttr,TF,ae,hXr,C4]
 rw [y6];rfl
theorem E1 {k:iz}:∀ (ks:List iz) (i j:Nat),j7 k i ks=some j→i≤j∧j<i+ks.length
 | [],i,j,h=>by cases h
 |a::r,i,j,h=>by
  unfold j7 at h
  simp only [List.length_cons]
  by_cases e:k=a
  ·rw [if_pos e] at h;cases h;omega
  ·rw [if_neg e] at h
   have:=E1 r (i+1) j h
   omega
def pc (a b:UInt32):UInt32:=if b.toNat<a.toNat then b else a
theorem axn (q:List ff) (p:Nat) (r:ff) (hr:q[p]? = some r) (ks:List iz) (i:Nat) (X Y:List AV) (s:aw) (hX:X.length=i * 5) (hXn:AV.names.go X=[]) (hXr:∀ τ,X.map (AV.cb τ)=X) (hYn:AV.names.go Y=[]) (hYr:∀ τ,Y.map (AV.cb τ)=Y)
 (hk:j7 (fu r) 0 ks=some i) (ho:cp r.owner) (hd:da r.data) (h1:cy r.owner=0) (h2:c7 r.type r.data=0) (hm:ks.length≤1048576) (hpl:q.length≤1048576) (hds:lg s.data) (hn : 0<s.data.length) (hn5:s.data.length<512) (hh:np s.type s.data r.data=false) :
 wl PP [dj,j9,x7,j3,z7,mi] 0 ofBody (r8 0 [4,5,15,16,17] (fun vs os=>vs=[.mp 0,.sl 1 0 (ks.length) 5,.vl false 8 ((q).map (dr.val false)),.sc (.int .i64 ((q).length)),.sc (.int .i64 (p+1))]∧os=[some (.map (fj 0 (ks))),some (.row (X ++ .vl true 1 (s.owner.map (ai.val false)) :: .sc (.int .u16 s.type.toNat) :: .sc (.int .u16 s.cls.toNat) :: .sc (.int .u32 (pc s.b7 r.b7).toNat) :: .sl 2 0 (s.data.length+1) 4::Y) 0 0 58),some (.row (cellsOf ak true (s.data++[r.data])) 0 0 44)]) (fun _ _ _=>False))
  (ja [4,5,15,16,17] [.mp 0,.sl 1 0 (ks.length) 5,.vl false 8 ((q).map (dr.val false)),.sc (.int .i64 ((q).length)),.sc (.int .i64 (p))]) (bb [some (.map (fj 0 (ks))),some (.row (X ++ .vl true 1 (s.owner.map (ai.val false)) :: .sc (.int .u16 s.type.toNat) :: .sc (.int .u16 s.cls.toNat) :: .sc (.int .u32 s.b7.toNat) :: .sl 2 0 s.data.length 4::Y) 0 0 58),some (.row (cellsOf ak true (s.data)) 0 0 44)]):=by
 have hq:∀ a b c d,c0 a b c=d→c0 a b c=d:=fun _ _ _ _ h=>h
 have hlt:p<q.length:=(List.getElem?_eq_some_iff.1 hr).1
 have hlook:od PP 88 3 (.agg #[.string (uc r.owner),.int .u16 r.type.toNat,.int .u16 r.cls.toNat]) true (.map (fj 0 ks))=M.pure (.fc [.sc (.int .i64 i),.sc (.bool true)]):=Wq ks (fu r) i hk
 have hg:decide ((p:Int)<q.length)=true:=decide_eq_true (by omega)
 have hil:i<ks.length:=by have:=E1 ks 0 i hk;omega
 have l1:∀ a0 a1 a2 a3 a4 k st et,i9 PP 37 (i * 5+1) (.row (X++a0::a1::a2::a3::a4::Y) k st et) = .pure a1:=fun a0 a1 a2 a3 a4 k st et=>qw (by kernel_rfl) (sw X Y hX a0 a1 a2 a3 a4).1 k st et
 have l3:∀ a0 a1 a2 a3 a4 k st et,i9 PP 39 (i * 5+3) (.row (X++a0::a1::a2::a3::a4::Y) k st et) = .pure a3:=fun a0 a1 a2 a3 a4 k st et=>qw (by kernel_rfl) (sw X Y hX a0 a1 a2 a3 a4).2.1 k st et
 have l4:∀ ty (_:kj PP ty=some false) a0 a1 a2 a3 a4 k st et,i9 PP ty (i * 5+4) (.row (X++a0::a1::a2::a3::a4::Y) k st et) = .pure a4:=fun ty hty a0 a1 a2 a3 a4 k st et=>qw hty (sw X Y hX a0 a1 a2 a3 a4).2.2 k st et
 have s3:∀ a0 a1 a2 a3 a4 x id k et,jz id (i * 5+3) 1 [.sc (.int .u32 x)] (.row (X++a0::a1::a2::a3::a4::Y) 0 k et)=(gh id (.row (X++a0::a1::a2 :: .sc (.int .u32 x)::a4::Y) 0 k et)).bind fun _=>.pure (.sc undef):=fun a0 a1 a2 a3 a4 x id k et=>by
  rw [ux (by simp;omega) _ (by rfl),(z3 X Y hX a0 a1 a2 a3 a4 _).1]
 have s4:∀ a0 a1 a2 a3 a4 o f l z id k et,jz id (i * 5+4) 1 [.sl o f l z] (.row (X++a0::a1::a2::a3::a4::Y) 0 k et)=(gh id (.row (X++a0::a1::a2::a3 :: .sl o f l z::Y) 0 k et)).bind fun _=>.pure (.sc undef):=fun a0 a1 a2 a3 a4 o f l z id k et=>by
  rw [ux (by simp;omega) _ rfl,(z3 X Y hX a0 a1 a2 a3 a4 _).2]
 have hmin:(if (r.b7.toNat:Int)<s.b7.toNat then (r.b7.toNat:Int) else s.b7.toNat)=(pc s.b7 r.b7).toNat:=by
  unfold pc
  by_cases h:r.b7.toNat<s.b7.toNat
  ·rw [if_pos h,if_pos (by omega)]
  ·rw [if_neg h,if_neg (by omega)]
 have hdec:∀ fr h kk st et,mf ak fr h 0 s.data.length (.row (cellsOf ak true s.data) kk st et)=some s.data:=fun fr h kk st et=>nh ak fr h true _ kk st et _ rfl rfl
 have htk:(cellsOf ak true s.data).take (s.data.length * 4)=cellsOf ak true s.data:=List.take_of_length_le (by rw [tn];exact Nat.le_refl _)
 have hge:decide (((s.data.length:Nat):Int) ≥ 512)=false:=decide_eq_false (by omega)
 have hlim:(s.data.length * 4+4) * 96≤140737488355328:=by omega
 unfold ofBody Tryz.f28
 simp only [↓wR,RA,simprocAttr,TF,ae]
 simp only [↓wR,RA,simprocAttr,TF,ae,hg,hr,i3,ho.fit,h1,i7,hd,h2,wa,ho,s9,u0,hlook,hil,Kt,hmin,hXn,hYn,↓l1,↓l3,↓l4,↓s3];repeat (simp (disch:=omega) only [ah,bh,bf,bg,be];try simp only [↓wR,RA,simprocAttr,TF,ae,hg,hr,i3,ho.fit,h1,i7,hd,h2,wa,ho,s9,u0,hlook,hil,Kt,hmin,hXn,hYn,↓l1,↓l3,↓l4,↓s3])
 refine ⟨by kernel_rfl,.inl ?_⟩
 refine ⟨by apply hq;kernel_rfl,?_⟩
 refine ⟨by kernel_rfl,.inl ?_⟩
 simp only [↓wR,RA,simprocAttr,TF,ae,x9,hd,hh,hds,hdec,hge,hXn,hYn,↓l1,↓l3,↓l4,↓s3];repeat (simp (disch:=omega) only [ah,bh,bf,bg,be];try simp only [↓wR,RA,simprocAttr,TF,ae,x9,hd,hh,hds,hdec,hge,hXn,hYn,↓l1,↓l3,↓l4,↓s3])
 refine ⟨by apply hq;kernel_rfl,?_⟩
 refine ⟨by kernel_rfl,.inl ?_⟩
 simp only [↓wR,RA,simprocAttr,TF,ae,pa,hd,↓l1,↓l3,↓l4,↓s3,↓s4,hXn,hYn,tp,hlim,htk];repeat (simp (disch:=omega) only [ah,bh,bf,bg,be];try simp only [↓wR,RA,simprocAttr,TF,ae,pa,hd,↓l1,↓l3,↓l4,↓s3,↓s4,hXn,hYn,tp,hlim,htk])
 refine ⟨by apply hq;kernel_rfl,?_⟩
 simp only [↓wR,RA,simprocAttr,TF,ae,hXr,hYr,C4]
 rw [Dq]
theorem ayl (q:List ff) (p:Nat) (r:ff) (hr:q[p]? = some r) (ks:List iz) (i:Nat) (X Y:List AV) (s:aw) (hX:X.length=i * 5) (hXn:AV.names.go X=[]) (hXr:∀ τ,X.map (AV.cb τ)=X) (hYn:AV.names.go Y=[]) (hYr:∀ τ,Y.map (AV.cb τ)=Y)
 (hk:j7 (fu r) 0 ks=some i) (ho:cp r.owner) (hd:da r.data) (h1:cy r.owner=0) (h2:c7 r.type r.data=0) (hm:ks.length≤1048576) (hpl:q.length≤1048576) (hds:lg s.data) (hn : 0<s.data.length) (hh:np s.type s.data r.data=true) :
 wl PP [dj,j9,x7,j3,z7,mi] 0 ofBody (r8 0 [4,5,15,16,17] (fun vs os=>vs=[.mp 0,.sl 1 0 (ks.length) 5,.vl false 8 ((q).map (dr.val false)),.sc (.int .i64 ((q).length)),.sc (.int .i64 (p+1))]∧os=[some (.map (fj 0 (ks))),some (.row (X ++ .vl true 1 (s.owner.map (ai.val false)) :: .sc (.int .u16 s.type.toNat) :: .sc (.int .u16 s.cls.toNat) :: .sc (.int .u32 (pc s.b7 r.b7).toNat) :: .sl 2 0 s.data.length 4::Y) 0 0 58),some (.row (cellsOf ak true (s.data)) 0 0 44)]) (fun _ _ _=>False))
  (ja [4,5,15,16,17] [.mp 0,.sl 1 0 (ks.length) 5,.vl false 8 ((q).map (dr.val false)),.sc (.int .i64 ((q).length)),.sc (.int .i64 (p))]) (bb [some (.map (fj 0 (ks))),some (.row (X ++ .vl true 1 (s.owner.map (ai.val false)) :: .sc (.int .u16 s.type.toNat) :: .sc (.int .u16 s.cls.toNat) :: .sc (.int .u32 s.b7.toNat) :: .sl 2 0 s.data.length 4::Y) 0 0 58),some (.row (cellsOf ak true (s.data)) 0 0 44)]):=by
 have hq:∀ a b c d,c0 a b c=d→c0 a b c=d:=fun _ _ _ _ h=>h
 have hlt:p<q.length:=(List.getElem?_eq_some_iff.1 hr).1
 have hlook:od PP 88 3 (.agg #[.string (uc r.owner),.int .u16 r.type.toNat,.int .u16 r.cls.toNat]) true (.map (fj 0 ks))=M.pure (.fc [.sc (.int .i64 i),.sc (.bool true)]):=Wq ks (fu r) i hk
 have hg:decide ((p:Int)<q.length)=true:=decide_eq_true (by omega)
 have hil:i<ks.length:=by have:=E1 ks 0 i hk;omega
 have l1:∀ a0 a1 a2 a3 a4 k st et,i9 PP 37 (i * 5+1) (.row (X++a0::a1::a2::a3::a4::Y) k st et) = .pure a1:=fun a0 a1 a2 a3 a4 k st et=>qw (by kernel_rfl) (sw X Y hX a0 a1 a2 a3 a4).1 k st et
 have l3:∀ a0 a1 a2 a3 a4 k st et,i9 PP 39 (i * 5+3) (.row (X++a0::a1::a2::a3::a4::Y) k st et) = .pure a3:=fun a0 a1 a2 a3 a4 k st et=>qw (by kernel_rfl) (sw X Y hX a0 a1 a2 a3 a4).2.1 k st et
 have l4:∀ ty (_:kj PP ty=some false) a0 a1 a2 a3 a4 k st et,i9 PP ty (i * 5+4) (.row (X++a0::a1::a2::a3::a4::Y) k st et) = .pure a4:=fun ty hty a0 a1 a2 a3 a4 k st et=>qw hty (sw X Y hX a0 a1 a2 a3 a4).2.2 k st et
 have s3:∀ a0 a1 a2 a3 a4 x id k et,jz id (i * 5+3) 1 [.sc (.int .u32 x)] (.row (X++a0::a1::a2::a3::a4::Y) 0 k et)=(gh id (.row (X++a0::a1::a2 :: .sc (.int .u32 x)::a4::Y) 0 k et)).bind fun _=>.pure (.sc undef):=fun a0 a1 a2 a3 a4 x id k et=>by
  rw [ux (by simp;omega) _ (by rfl),(z3 X Y hX a0 a1 a2 a3 a4 _).1]
 have s4:∀ a0 a1 a2 a3 a4 o f l z id k et,jz id (i * 5+4) 1 [.sl o f l z] (.row (X++a0::a1::a2::a3::a4::Y) 0 k et)=(gh id (.row (X++a0::a1::a2::a3 :: .sl o f l z::Y) 0 k et)).bind fun _=>.pure (.sc undef):=fun a0 a1 a2 a3 a4 o f l z id k et=>by
  rw [ux (by simp;omega) _ rfl,(z3 X Y hX a0 a1 a2 a3 a4 _).2]
 have hmin:(if (r.b7.toNat:Int)<s.b7.toNat then (r.b7.toNat:Int) else s.b7.toNat)=(pc s.b7 r.b7).toNat:=by
  unfold pc
  by_cases h:r.b7.toNat<s.b7.toNat
  ·rw [if_pos h,if_pos (by omega)]
  ·rw [if_neg h,if_neg (by omega)]
 have hdec:∀ fr h kk st et,mf ak fr h 0 s.data.length (.row (cellsOf ak true s.data) kk st et)=some s.data:=fun fr h kk st et=>nh ak fr h true _ kk st et _ rfl rfl
 have htk:(cellsOf ak true s.data).take (s.data.length * 4)=cellsOf ak true s.data:=List.take_of_length_le (by rw [tn];exact Nat.le_refl _)
 unfold ofBody Tryz.f28
 simp only [↓wR,RA,simprocAttr,TF,ae]
 simp only [↓wR,RA,simprocAttr,TF,ae,hg,hr,i3,ho.fit,h1,i7,hd,h2,wa,ho,s9,u0,hlook,hil,Kt,hmin,hXn,hYn,↓l1,↓l3,↓l4,↓s3];repeat (simp (disch:=omega) only [ah,bh,bf,bg,be];try simp only [↓wR,RA,simprocAttr,TF,ae,hg,hr,i3,ho.fit,h1,i7,hd,h2,wa,ho,s9,u0,hlook,hil,Kt,hmin,hXn,hYn,↓l1,↓l3,↓l4,↓s3])
 refine ⟨by kernel_rfl,.inl ?_⟩
 refine ⟨by apply hq;kernel_rfl,?_⟩
 refine ⟨by kernel_rfl,.inl ?_⟩
 simp only [↓wR,RA,simprocAttr,TF,ae,x9,hd,hh,hds,hdec,hXn,hYn,tp,↓l1,↓l3,↓l4,↓s3];repeat (simp (disch:=omega) only [ah,bh,bf,bg,be];try simp only [↓wR,RA,simprocAttr,TF,ae,x9,hd,hh,hds,hdec,hXn,hYn,tp,↓l1,↓l3,↓l4,↓s3])
 refine ⟨by apply hq;kernel_rfl,?_⟩
 simp only [↓wR,RA,simprocAttr,TF,ae,hXr,hYr,C4]
theorem aw4 (q:List ff) (p:Nat) (r:ff) (hr:q[p]? = some r) (ks:List iz) (i:Nat) (X Y:List AV) (s:aw) (hX:X.length=i * 5) (hXn:AV.names.go X=[]) (hXr:∀ τ,X.map (AV.cb τ)=X) (hYn:AV.names.go Y=[]) (hYr:∀ τ,Y.map (AV.cb τ)=Y)
 (hk:j7 (fu r) 0 ks=some i) (ho:cp r.owner) (hd:da r.data) (h1:cy r.owner=0) (h2:c7 r.type r.data=0) (hm:ks.length≤1048576) (hpl:q.length≤1048576) (hds:lg s.data) (hn : 0<s.data.length) (hn5 : 512≤s.data.length) (hh:np s.type s.data r.data=false) :
 wl PP [dj,j9,x7,j3,z7,mi] 0 ofBody (r8 0 [4,5,15,16,17] (fun _ _=>False) (fun e L st=>match e with|.ret=>du PP Tryz.f28.results.toList (fun rr st=>(r2 (cd aj) (bc .i64)).get true st.h rr=some ([],(3))) .ret L st|_=>False))
  (ja [4,5,15,16,17] [.mp 0,.sl 1 0 (ks.length) 5,.vl false 8 ((q).map (dr.val false)),.sc (.int .i64 ((q).length)),.sc (.int .i64 (p))]) (bb [some (.map (fj 0 (ks))),some (.row (X ++ .vl true 1 (s.owner.map (ai.val false)) :: .sc (.int .u16 s.type.toNat) :: .sc (.int .u16 s.cls.toNat) :: .sc (.int .u32 s.b7.toNat) :: .sl 2 0 s.data.length 4::Y) 0 0 58),some (.row (cellsOf ak true (s.data)) 0 0 44)]):=by
 have hq:∀ a b c d,c0 a b c=d→c0 a b c=d:=fun _ _ _ _ h=>h
 have hlt:p<q.length:=(List.getElem?_eq_some_iff.1 hr).1
 have hlook:od PP 88 3 (.agg #[.string (uc r.owner),.int .u16 r.type.toNat,.int .u16 r.cls.toNat]) true (.map (fj 0 ks))=M.pure (.fc [.sc (.int .i64 i),.sc (.bool true)]):=Wq ks (fu r) i hk
 have hg:decide ((p:Int)<q.length)=true:=decide_eq_true (by omega)
 have hil:i<ks.length:=by have:=E1 ks 0 i hk;omega
 have l1:∀ a0 a1 a2 a3 a4 k st et,i9 PP 37 (i * 5+1) (.row (X++a0::a1::a2::a3::a4::Y) k st et) = .pure a1:=fun a0 a1 a2 a3 a4 k st et=>qw (by kernel_rfl) (sw X Y hX a0 a1 a2 a3 a4).1 k st et
 have l3:∀ a0 a1 a2 a3 a4 k st et,i9 PP 39 (i * 5+3) (.row (X++a0::a1::a2::a3::a4::Y) k st et) = .pure a3:=fun a0 a1 a2 a3 a4 k st et=>qw (by kernel_rfl) (sw X Y hX a0 a1 a2 a3 a4).2.1 k st et
 have l4:∀ ty (_:kj PP ty=some false) a0 a1 a2 a3 a4 k st et,i9 PP ty (i * 5+4) (.row (X++a0::a1::a2::a3::a4::Y) k st et) = .pure a4:=fun ty hty a0 a1 a2 a3 a4 k st et=>qw hty (sw X Y hX a0 a1 a2 a3 a4).2.2 k st et
 have s3:∀ a0 a1 a2 a3 a4 x id k et,jz id (i * 5+3) 1 [.sc (.int .u32 x)] (.row (X++a0::a1::a2::a3::a4::Y) 0 k et)=(gh id (.row (X++a0::a1::a2 :: .sc (.int .u32 x)::a4::Y) 0 k et)).bind fun _=>.pure (.sc undef):=fun a0 a1 a2 a3 a4 x id k et=>by
  rw [ux (by simp;omega) _ (by rfl),(z3 X Y hX a0 a1 a2 a3 a4 _).1]
 have s4:∀ a0 a1 a2 a3 a4 o f l z id k et,jz id (i * 5+4) 1 [.sl o f l z] (.row (X++a0::a1::a2::a3::a4::Y) 0 k et)=(gh id (.row (X++a0::a1::a2::a3 :: .sl o f l z::Y) 0 k et)).bind fun _=>.pure (.sc undef):=fun a0 a1 a2 a3 a4 o f l z id k et=>by
  rw [ux (by simp;omega) _ rfl,(z3 X Y hX a0 a1 a2 a3 a4 _).2]
 have hmin:(if (r.b7.toNat:Int)<s.b7.toNat then (r.b7.toNat:Int) else s.b7.toNat)=(pc s.b7 r.b7).toNat:=by
  unfold pc
  by_cases h:r.b7.toNat<s.b7.toNat
  ·rw [if_pos h,if_pos (by omega)]
  ·rw [if_neg h,if_neg (by omega)]
 have hdec:∀ fr h kk st et,mf ak fr h 0 s.data.length (.row (cellsOf ak true s.data) kk st et)=some s.data:=fun fr h kk st et=>nh ak fr h true _ kk st et _ rfl rfl
 have hge:decide (((s.data.length:Nat):Int) ≥ 512)=true:=decide_eq_true (by omega)
 unfold ofBody Tryz.f28
 simp only [↓wR,RA,simprocAttr,TF,ae]
 simp only [↓wR,RA,simprocAttr,TF,ae,hg,hr,i3,ho.fit,h1,i7,hd,h2,wa,ho,s9,u0,hlook,hil,Kt,hmin,hXn,hYn,↓l1,↓l3,↓l4,↓s3];repeat (simp (disch:=omega) only [ah,bh,bf,bg,be];try simp only [↓wR,RA,simprocAttr,TF,ae,hg,hr,i3,ho.fit,h1,i7,hd,h2,wa,ho,s9,u0,hlook,hil,Kt,hmin,hXn,hYn,↓l1,↓l3,↓l4,↓s3])
 refine ⟨by kernel_rfl,.inl ?_⟩
 refine ⟨by apply hq;kernel_rfl,?_⟩
 refine ⟨by kernel_rfl,.inl ?_⟩
 simp only [↓wR,RA,simprocAttr,TF,ae,x9,hd,hh,hds,hdec,hge,hXn,hYn,↓l1,↓l3,↓l4,↓s3];repeat (simp (disch:=omega) only [ah,bh,bf,bg,be];try simp only [↓wR,RA,simprocAttr,TF,ae,x9,hd,hh,hds,hdec,hge,hXn,hYn,↓l1,↓l3,↓l4,↓s3])
 apply hq;kernel_rfl
theorem avc (q:List ff) (p:Nat) (r:ff) (hr:q[p]? = some r) (ks:List iz) (X:List AV) (hX:X.length=ks.length * 5) (ho:cp r.owner) (h1:cy r.owner≠0) (hpl:q.length≤1048576) :
 wl PP [dj,j9,x7,j3,z7,mi] 0 ofBody (r8 0 [4,5,15,16,17] (fun _ _=>False) (fun e L st=>match e with|.ret=>du PP Tryz.f28.results.toList (fun rr st=>(r2 (cd aj) (bc .i64)).get true st.h rr=some ([],(cy r.owner))) .ret L st|_=>False))
  (ja [4,5,15,16,17] [.mp 0,.sl 1 0 (ks.length) 5,.vl false 8 ((q).map (dr.val false)),.sc (.int .i64 ((q).length)),.sc (.int .i64 (p))]) (bb [some (.map (fj 0 (ks))),some (.row (X) 0 0 58)]):=by
 have hlt:p<q.length:=(List.getElem?_eq_some_iff.1 hr).1
 have hg:decide ((p:Int)<q.length)=true:=decide_eq_true (by omega)
 unfold ofBody Tryz.f28
 simp only [↓wR,RA,simprocAttr,TF,ae]
 simp only [↓wR,RA,simprocAttr,TF,ae,hg,hr,i3,ho.fit];repeat (simp (disch:=omega) only [ah,bh,bf,bg,be];try simp only [↓wR,RA,simprocAttr,TF,ae,hg,hr,i3,ho.fit])
 rw [ed];refine ⟨fun ⟨h3,e3⟩=>?_,fun ⟨h3,e3⟩=>?_⟩
 ·simp only [↓wR,RA,simprocAttr,TF,ae,h3]
 ·omega
theorem avk (q:List ff) (p:Nat) (r:ff) (hr:q[p]? = some r) (ks:List iz) (X:List AV) (hX:X.length=ks.length * 5) (ho:cp r.owner) (hd:da r.data) (h1:cy r.owner=0) (h2:c7 r.type r.data≠0) (hpl:q.length≤1048576) :
 wl PP [dj,j9,x7,j3,z7,mi] 0 ofBody (r8 0 [4,5,15,16,17] (fun _ _=>False) (fun e L st=>match e with|.ret=>du PP Tryz.f28.results.toList (fun rr st=>(r2 (cd aj) (bc .i64)).get true st.h rr=some ([],(c7 r.type r.data))) .ret L st|_=>False))
  (ja [4,5,15,16,17] [.mp 0,.sl 1 0 (ks.length) 5,.vl false 8 ((q).map (dr.val false)),.sc (.int .i64 ((q).length)),.sc (.int .i64 (p))]) (bb [some (.map (fj 0 (ks))),some (.row (X) 0 0 58)]):=by
 have hlt:p<q.length:=(List.getElem?_eq_some_iff.1 hr).1
 have hg:decide ((p:Int)<q.length)=true:=decide_eq_true (by omega)
 unfold ofBody Tryz.f28
 simp only [↓wR,RA,simprocAttr,TF,ae]
 simp only [↓wR,RA,simprocAttr,TF,ae,hg,hr,i3,ho.fit,h1,i7,hd];repeat (simp (disch:=omega) only [ah,bh,bf,bg,be];try simp only [↓wR,RA,simprocAttr,TF,ae,hg,hr,i3,ho.fit,h1,i7,hd])
 rw [ed];refine ⟨fun ⟨h3,e3⟩=>?_,fun ⟨h3,e3⟩=>?_⟩
 ·simp only [↓wR,RA,simprocAttr,TF,ae,h3]
 ·omega
theorem axf (q:List ff) (m:Nat) (O:List (Option ba)) :
 wl PP [dj,j9,x7,j3,z7,mi] 0 ofBody (r8 0 [4,5,15,16,17] (fun _ _=>False) (fun e L st=>e = .exit 0∧lk L 5 = .sl 1 0 m 5∧st=bb O))
  (ja [4,5,15,16,17] [.mp 0,.sl 1 0 (m) 5,.vl false 8 ((q).map (dr.val false)),.sc (.int .i64 ((q).length)),.sc (.int .i64 (q.length))]) (bb O):=by
 have hg:decide ((q.length:Int)<q.length)=false:=decide_eq_false (by omega)
 unfold ofBody Tryz.f28
 simp only [↓wR,RA,simprocAttr,TF,ae,hg]
end Go.Proofs.YtifjogffkafalaaGreat
end
namespace Go.Vm
noncomputable section
theorem jj.Oi {B g st w cs et n sz v b o x y} {st':St} (hlim:o≤br) (ho:st.h.get o=some x) (hs:st' = { st with h:=Tr.set depth st.h o (some y) }) (h:jj B g st w cs et n sz v b):jj B g st' w cs et n sz v b:=by
 subst hs;exact h.Lx hlim ho
theorem A6 (os:List (Option ba)) (o:Nat) (h:os.length≤br):(bb os).h.get o=(os[o]?).join:=by
 show (pf 0 os).get o=_
 rw [u2 _ _ _ (by omega),if_pos (Nat.zero_le _),Nat.sub_zero]
theorem Ru {g w} {vs:List Value} {X Y:List AV} {a a':AV} (h:bo g w (X++a::Y) vs) (hv:∀ v,vs[X.length]? = some v→Rel g w a' v):bo g w (X++a'::Y) vs:=by
 refine ⟨by rw [h.1];simp,fun j x v hx hjv=>?_⟩
 by_cases e:j=X.length
 ·subst e
  rw [List.getElem?_append_right (Nat.le_refl _),Nat.sub_self] at hx
  cases hx
  exact hv v hjv
 ·refine h.2 j x v ?_ hjv
  rw [← hx]
  rcases Nat.lt_or_gt_of_ne e with q|q
  ·rw [List.getElem?_append_left q,List.getElem?_append_left q]
  ·rw [List.getElem?_append_right (by omega),List.getElem?_append_right (by omega)]
   obtain ⟨k,hk⟩:∃ k,j - X.length=k+1:=⟨j - X.length - 1,by omega⟩
   rw [hk];rfl
theorem aAq {B:dk} {nt L g a w} {M:ba} {X Y:List AV} {cells:List AV} {et ey:TypeId} {n sz m z t0:Nat} (hnf:B.lj) (hO:∀ b,¬ B.O b) (hp:B.ay=0) (hn : 0<n) (hcl:ma cells) (hsl:lk L t0 = .sl 1 0 m z) (hm : 0<m) (hM:M.cb (vz 2)=some M)
 (hX:X.map (AV.cb (vz 2))=X) (hY:Y.map (AV.cb (vz 2))=Y) (hL:∀ t,(lk L t).cb (vz 2)=lk L t)
 (hh:jq B nt L (bb [some M,some (.row (X++AV.sl 2 0 n sz::Y) 0 0 et),some (.row cells 0 0 ey)]) g a w) :
 ∃ v b g',jq B nt L (bb [some M,some (.row (X++AV.sc v::Y) 0 0 et)]) g' a w∧jj B g' (bb [some M,some (.row (X++AV.sc v::Y) 0 0 et)]) w cells ey n sz v b ∧
  ∀ cs e2 n2 sz2 v2 b2,ma cs→jj B g (bb [some M,some (.row (X++AV.sl 2 0 n sz::Y) 0 0 et),some (.row cells 0 0 ey)]) w cs e2 n2 sz2 v2 b2→b2≠b∧jj B g' (bb [some M,some (.row (X++AV.sc v::Y) 0 0 et)]) w cs e2 n2 sz2 v2 b2:=by
 have hlen:∀ x y z:Option ba,[x,y,z].length≤br:=fun x y z=>by simp [br]
 obtain ⟨st,hst⟩:∃ st,st=bb [some M,some (.row (X++AV.sl 2 0 n sz::Y) 0 0 et),some (.row cells 0 0 ey)]:=⟨_,rfl⟩
 have g1:st.h.get 1=some (.row (X++AV.sl 2 0 n sz::Y) 0 0 et):=by rw [hst,A6 _ _ (hlen _ _ _)];rfl
 have g2:st.h.get 2=some (.row cells 0 0 ey):=by rw [hst,A6 _ _ (hlen _ _ _)];rfl
 have gx:∀ o,st.h.get o=if o=0 then some M else if o=1 then some (.row (X++AV.sl 2 0 n sz::Y) 0 0 et) else if o=2 then some (.row cells 0 0 ey) else none:=fun o=>by
  rw [hst,A6 _ _ (hlen _ _ _)]
  match o with
  |0=>rfl
  |1=>rfl
  |2=>rfl
  |o+3=>simp
 have hnx:st.nx=3:=by rw [hst];rfl
 rw [← hst] at hh ⊢
 have hi:∃ p,g.inj 1=some p:=by
  have:=hh.sl.2 t0
  rw [hsl] at this
  generalize a.tmps.getD t0 undef=u at this
  cases this with
  |sl _ _ _ _ b base cap hi=>exact ⟨_,hi⟩
  |uu=>omega
  |u1=>omega
 have l1 : 1≤br:=by simp [br]
 have l2 : 2≤br:=by simp [br]
 obtain ⟨ss,hv1,hv2⟩:=hh.ss g1 hi
 have hxl:X.length<ss.length:=by rw [hv2.1];simp
 obtain ⟨v,hv⟩:∃ v,ss[X.length]? = some v:=⟨_,List.getElem?_eq_getElem hxl⟩
 have hrv:Rel g w (.sl 2 0 n sz) v:=hv2.2 X.length _ v (by rw [List.getElem?_append_right (Nat.le_refl _),Nat.sub_self];rfl) hv
 have hv3:bo g w (X++AV.sc v::Y) ss:=Ru hv2 (fun u hu=>by rw [hv] at hu;cases hu;exact .sc _)
 have H1:=hh.Lx l1 g1 hv1 hv2 hv3
 obtain ⟨bd,hst1⟩:∃ bd,bd = { st with h:=Tr.set depth st.h 1 (some (ba.row (X++AV.sc v::Y) 0 0 et)) }:=⟨_,rfl⟩
 rw [← hst1] at H1
 have gx1:∀ o,bd.h.get o=if o=1 then some (.row (X++AV.sc v::Y) 0 0 et) else st.h.get o:=fun o=>by rw [hst1];exact ea _ _ _ _ l1
 have g21:bd.h.get 2=some (.row cells 0 0 ey):=by rw [gx1,if_neg (by omega),g2]
 obtain ⟨b,H2,O2,H2o⟩:=H1.release hO l2 g21 hn hrv
 have gx2:∀ o,(bd.less 2).h.get o=if o=2 then none else bd.h.get o:=fun o=>ea _ _ _ _ l2
 have gx3:∀ o,(bd.less 2).h.get o=(bb [some M,some (.row (X++AV.sc v::Y) 0 0 et)]).h.get o:=fun o=>by
  rw [gx2,gx1,gx,A6 _ _ (by simp [br])]
  match o with
  |0=>rfl
  |1=>rfl
  |2=>rfl
  |o+3=>simp
 have hnx1:(bd.less 2).nx=3:=by rw [show (bd.less 2).nx=bd.nx from rfl,hst1];exact hnx
 obtain ⟨H3,H3o⟩:=H2.cut (m:=2) hnf (by rw [hnx1];omega) (by omega) hL (fun o x hx=>by
  rw [gx3,A6 _ _ (by simp [br])] at hx
  match o with
  |0=>
   have:some M=some x:=hx
   cases this
   exact ⟨by omega,hM⟩
  |1=>
   have:some (ba.row (X++AV.sc v::Y) 0 0 et)=some x:=hx
   cases this
   refine ⟨by omega,?_⟩
   simp only [ba.cb,jr,List.map_append,List.map_cons,hX,hY]
   rfl
  |o+2=>simp at hx)
 have H4:=H3.congr (st':=bb [some M,some (.row (X++AV.sc v::Y) 0 0 et)]) rfl (fun o=>(gx3 o).symm)
 have own4:∀ {cs e2 n2 sz2 v2 b2},ma cs→jj B g (bd.less 2) w cs e2 n2 sz2 v2 b2→jj B (g.cb (dh 0 2)) (bb [some M,some (.row (X++AV.sc v::Y) 0 0 et)]) w cs e2 n2 sz2 v2 b2:=fun hc ho=>by
  have h1:=ho.move (g':=g.cb (dh 0 2)) (st':=bd.less 2) hc rfl (fun _ _ h=>h) (fun _ h=>h) (H3o _ ho.un)
  exact h1.congr (fun o=>(gx3 o).symm)
 refine ⟨v,b,_,H4,?_,fun cs e2 n2 sz2 v2 b2 hc ho=>?_⟩
 ·exact own4 hcl O2
 ·have hu:=(H2o b2 (ho.Oi l1 g1 hst1).un)
  have ho1:jj B g (bd.less 2) w cs e2 n2 sz2 v2 b2:=(ho.Oi l1 g1 hst1).move hc rfl (fun _ _ h=>h) (fun _ h=>h) hu.2
  exact ⟨hu.1,own4 hc ho1⟩
theorem aw8 {B:dk} {nt L g a w} {M:ba} {X Y:List AV} {cells:List AV} {et ey:TypeId} {n sz m z t0:Nat} {v:Value} {b:Nat} (hnf:B.lj) (hsl:lk L t0 = .sl 1 0 m z) (hm : 0<m)
 (hh:jq B nt L (bb [some M,some (.row (X++AV.sc v::Y) 0 0 et)]) g a w) (ho:jj B g (bb [some M,some (.row (X++AV.sc v::Y) 0 0 et)]) w cells ey n sz v b) :
 ∃ g',jq B nt L (bb [some M,some (.row (X++AV.sl 2 0 n sz::Y) 0 0 et),some (.row cells 0 0 ey)]) g' a w ∧
  ∀ cs e2 n2 sz2 v2 b2,ma cs→b2≠b→jj B g (bb [some M,some (.row (X++AV.sc v::Y) 0 0 et)]) w cs e2 n2 sz2 v2 b2→jj B g' (bb [some M,some (.row (X++AV.sl 2 0 n sz::Y) 0 0 et),some (.row cells 0 0 ey)]) w cs e2 n2 sz2 v2 b2:=by
 obtain ⟨st,hst⟩:∃ st,st=bb [some M,some (.row (X++AV.sc v::Y) 0 0 et)]:=⟨_,rfl⟩
 have gx:∀ o,st.h.get o=if o=0 then some M else if o=1 then some (.row (X++AV.sc v::Y) 0 0 et) else none:=fun o=>by
  rw [hst,A6 _ _ (by simp [br])]
  match o with
  |0=>rfl
  |1=>rfl
  |o+2=>simp
 have hnx:st.nx=2:=by rw [hst];rfl
 have l1 : 1≤br:=by simp [br]
 have l2 : 2≤br:=by simp [br]
 rw [← hst] at hh ho ⊢
 obtain ⟨g',H1,hr,hx,hK,hu,hinj⟩:=hh.focus hnf (by rw [hnx];exact l2) ho
 have hi:∃ p,g'.inj 1=some p:=by
  have:=H1.sl.2 t0
  rw [hsl] at this
  generalize a.tmps.getD t0 undef=u at this
  cases this with
  |sl _ _ _ _ b base cap hi=>exact ⟨_,hi⟩
  |uu=>omega
  |u1=>omega
 obtain ⟨bd,hst1⟩:∃ bd,bd=st.more (.row cells 0 0 ey):=⟨_,rfl⟩
 rw [← hst1] at H1 hu
 rw [hnx] at hr
 have gx1:∀ o,bd.h.get o=if o=2 then some (.row cells 0 0 ey) else st.h.get o:=fun o=>by
  rw [hst1]
  show (Tr.set depth st.h st.nx _).get o=_
  rw [hnx];exact ea _ _ _ _ l2
 have g1:bd.h.get 1=some (.row (X++AV.sc v::Y) 0 0 et):=by rw [gx1,gx];rfl
 obtain ⟨ss,hv1,hv2⟩:=H1.ss g1 hi
 have hv3:bo g' w (X++AV.sl 2 0 n sz::Y) ss:=Ru hv2 (fun u hu=>by
  have:=hv2.2 X.length _ u (by rw [List.getElem?_append_right (Nat.le_refl _),Nat.sub_self];rfl) hu
  have:=this.exact (x:=v) rfl
  subst this;exact hr)
 have H2:=H1.Lx l1 g1 hv1 hv2 hv3
 obtain ⟨st2,hst2⟩:∃ st2,st2 = { bd with h:=Tr.set depth bd.h 1 (some (ba.row (X++AV.sl 2 0 n sz::Y) 0 0 et)) }:=⟨_,rfl⟩
 rw [← hst2] at H2
 have gx2:∀ o,(bb [some M,some (.row (X++AV.sl 2 0 n sz::Y) 0 0 et),some (.row cells 0 0 ey)]).h.get o=st2.h.get o:=fun o=>by
  have:st2.h.get o=if o=1 then some (.row (X++AV.sl 2 0 n sz::Y) 0 0 et) else bd.h.get o:=by rw [hst2];exact ea _ _ _ _ l1
  rw [this,gx1,gx,A6 _ _ (by simp [br])]
  match o with
  |0=>rfl
  |1=>rfl
  |2=>rfl
  |o+3=>simp
 have hnx2:st2.nx=3:=by
  rw [hst2];show bd.nx=3
  rw [hst1];show st.nx+1=3
  rw [hnx]
 refine ⟨g',H2.congr hnx2.symm gx2,fun cs e2 n2 sz2 v2 b2 hc hne h2=>?_⟩
 have q1:=h2.move (g':=g') (st':=bd) hc hx.b0 hx.K (fun j hj=>hK _ j hj) (hu b2 h2.un hne)
 exact (q1.Oi l1 g1 hst2).congr gx2
theorem azj {B:dk} {nt L g a w} {M:ba} {X Y es:List AV} {et ey:TypeId} {n sz m z t0:Nat} {v:Value} {b:Nat} (hsl:lk L t0 = .sl 1 0 m z) (hm : 0<m) (hcl:ma (es.flatMap AV.cells)) (hsz:∀ e ∈ es,e.cells.length=sz) (hn:es.length=n)
 (hh:jq B nt L (bb [some M,some (.row (X++AV.sc v::Y) 0 0 et)]) g a w) (ho:jj B g (bb [some M,some (.row (X++AV.sc v::Y) 0 0 et)]) w (es.flatMap AV.cells) ey n sz v b) :
 ∃ g',jq B nt L (bb [some M,some (.row (X++AV.vl true sz es::Y) 0 0 et)]) g' a w ∧
  ∀ cs e2 n2 sz2 v2 b2,ma cs→b2≠b→jj B g (bb [some M,some (.row (X++AV.sc v::Y) 0 0 et)]) w cs e2 n2 sz2 v2 b2→jj B g' (bb [some M,some (.row (X++AV.vl true sz es::Y) 0 0 et)]) w cs e2 n2 sz2 v2 b2:=by
 obtain ⟨st,hst⟩:∃ st,st=bb [some M,some (.row (X++AV.sc v::Y) 0 0 et)]:=⟨_,rfl⟩
 have gx:∀ o,st.h.get o=if o=0 then some M else if o=1 then some (.row (X++AV.sc v::Y) 0 0 et) else none:=fun o=>by
  rw [hst,A6 _ _ (by simp [br])]
  match o with
  |0=>rfl
  |1=>rfl
  |o+2=>simp
 have hnx:st.nx=2:=by rw [hst];rfl
 have l1 : 1≤br:=by simp [br]
 rw [← hst] at hh ho ⊢
 obtain ⟨g',H1,hr,hx,hinj,hK⟩:=hh.freeze hcl hsz hn ho
 have hi:∃ p,g'.inj 1=some p:=by
  have:=H1.sl.2 t0
  rw [hsl] at this
  generalize a.tmps.getD t0 undef=u at this
  cases this with
  |sl _ _ _ _ b base cap hi=>exact ⟨_,hi⟩
  |uu=>omega
  |u1=>omega
 have g1:st.h.get 1=some (.row (X++AV.sc v::Y) 0 0 et):=by rw [gx];rfl
 obtain ⟨ss,hv1,hv2⟩:=H1.ss g1 hi
 have hv3:bo g' w (X++AV.vl true sz es::Y) ss:=Ru hv2 (fun u hu=>by
  have:=hv2.2 X.length _ u (by rw [List.getElem?_append_right (Nat.le_refl _),Nat.sub_self];rfl) hu
  have:=this.exact (x:=v) rfl
  subst this;exact hr)
 have H2:=H1.Lx l1 g1 hv1 hv2 hv3
 obtain ⟨st2,hst2⟩:∃ st2,st2 = { st with h:=Tr.set depth st.h 1 (some (ba.row (X++AV.vl true sz es::Y) 0 0 et)) }:=⟨_,rfl⟩
 rw [← hst2] at H2
 have gx2:∀ o,(bb [some M,some (.row (X++AV.vl true sz es::Y) 0 0 et)]).h.get o=st2.h.get o:=fun o=>by
  have:st2.h.get o=if o=1 then some (.row (X++AV.vl true sz es::Y) 0 0 et) else st.h.get o:=by rw [hst2];exact ea _ _ _ _ l1
  rw [this,gx,A6 _ _ (by simp [br])]
  match o with
  |0=>rfl
  |1=>rfl
  |o+2=>simp
 have hnx2:st2.nx=2:=by rw [hst2];exact hnx
 refine ⟨g',H2.congr hnx2.symm gx2,fun cs e2 n2 sz2 v2 b2 hc hne h2=>?_⟩
 have q1:=h2.move (g':=g') (st':=st) hc hx.b0 hx.K (fun j hj=>hK _ j hne hj) (fun o base h3 h4=>h2.un o base h3 (by rw [← hinj];exact h4))
 exact (q1.Oi l1 g1 hst2).congr gx2
end
end Go.Vm
section
namespace Go.Proofs.YtifjogffkafalaaGreat
open Go.Vm
set_option maxRecDepth 2000000
noncomputable def fo:List ff→List aw→List aw × Int
 | [],L=>(L,0)
 |r::rs,L=>
  if cy r.owner≠0 then ([],cy r.owner)
  else if c7 r.type r.data≠0 then ([],c7 r.type r.data)
  else match j7 (fu r) 0 (L.map bq) with
   |none=>fo rs (L++[ld r.owner r.type r.cls r.b7 [r.data]])
   |some i=>match L[i]? with
    |none=>([],0)
    |some s=>if np s.type s.data r.data=true then fo rs (L.set i (ld s.owner s.type s.cls (pc s.b7 r.b7) s.data))
     else if 512≤s.data.length then ([],3) else fo rs (L.set i (ld s.owner s.type s.cls (pc s.b7 r.b7) (s.data++[r.data])))
def Hk (s:aw) (v:Value):List AV:=[.vl true 1 (s.owner.map (ai.val false)),.sc (.int .u16 s.type.toNat),.sc (.int .u16 s.cls.toNat),.sc (.int .u32 s.b7.toNat),.sc v]
def fh:List aw→List Value→List AV
 |s::L,v::vs=>Hk s v++fh L vs
 |_,_=>[]
theorem E8:∀ (L:List aw) (vs:List Value),vs.length=L.length→(fh L vs).length=L.length * 5
 | [],[],_=>rfl
 |s::L,v::vs,h=>by
  have:=E8 L vs (by simpa using h)
  show (Hk s v++fh L vs).length=_
  rw [List.length_append,this,List.length_cons,Nat.succ_mul,Nat.add_comm];rfl
theorem tm:∀ (L:List aw) (vs:List Value),AV.names.go (fh L vs)=[]
 | [],_=>rfl
 |s::L,[]=>rfl
 |s::L,v::vs=>tm L vs
theorem aek (τ:Nat→Option Nat) (n:Name):(AV.vl true 1 (n.map (ai.val false))).cb τ = .vl true 1 (n.map (ai.val false)):=by
 show AV.vl true 1 (AV.cb.go τ (n.map (ai.val false)))=_
 rw [jr,List.map_map]
 rfl
theorem ar0 (τ:Nat→Option Nat) (s:aw) (v:Value):(Hk s v).map (AV.cb τ)=Hk s v:=by
 unfold Hk
 simp only [List.map_cons,List.map_nil,aek]
 rfl
theorem tt (τ:Nat→Option Nat):∀ (L:List aw) (vs:List Value),(fh L vs).map (AV.cb τ)=fh L vs
 | [],_=>rfl
 |s::L,[]=>rfl
 |s::L,v::vs=>by
  show (Hk s v++fh L vs).map (AV.cb τ)=_
  rw [List.map_append,ar0,tt τ L vs];rfl
theorem ae7:∀ (L M:List aw) (vs us:List Value),vs.length=L.length→fh (L++M) (vs++us)=fh L vs++fh M us
 | [],M,[],us,_=>rfl
 |s::L,M,v::vs,us,h=>by
  show Hk s v++fh (L++M) (vs++us)=(Hk s v++fh L vs)++fh M us
  rw [ae7 L M vs us (by simpa using h),List.append_assoc]
theorem acn {L:List aw} {vs:List Value} {i:Nat} (s:aw) (v:Value) (hl:vs.length=L.length) (hi:i<L.length):fh (L.set i s) (vs.set i v)=fh (L.take i) (vs.take i)++(Hk s v++fh (L.drop (i+1)) (vs.drop (i+1))):=by
 rw [List.set_eq_take_append_cons_drop,if_pos hi,List.set_eq_take_append_cons_drop,if_pos (by omega),ae7 _ _ _ _ (by simp;omega)]
 rfl
theorem awp {L:List aw} {vs:List Value} {i:Nat} {s:aw} {v:Value} (hl:vs.length=L.length) (hs:L[i]? = some s) (hv:vs[i]? = some v):fh L vs=fh (L.take i) (vs.take i)++(Hk s v++fh (L.drop (i+1)) (vs.drop (i+1))):=by
 obtain ⟨hi,rfl⟩:=List.getElem?_eq_some_iff.1 hs
 obtain ⟨hi',rfl⟩:=List.getElem?_eq_some_iff.1 hv
 rw [← acn _ _ hl hi,List.set_getElem_self,List.set_getElem_self]
theorem afy {L:List aw} {i:Nat} {s s':aw} (hs:L[i]? = some s) (h:bq s'=bq s):(L.set i s').map bq=L.map bq:=by
 obtain ⟨hi,rfl⟩:=List.getElem?_eq_some_iff.1 hs
 rw [List.map_set,h]
 apply List.ext_getElem? ;intro j
 by_cases e:i=j
 ·subst e;rw [List.getElem?_set_self (by simpa using hi),List.getElem?_map,List.getElem?_eq_getElem hi];rfl
 ·rw [List.getElem?_set_ne e]
theorem awm (m p:Nat) (q:List ff) (t:Nat):(lk (ja [4,5,15,16,17] [.mp 0,.sl 1 0 (m) 5,.vl false 8 ((q).map (dr.val false)),.sc (.int .i64 ((q).length)),.sc (.int .i64 (p))]) t).cb (vz 2)=lk (ja [4,5,15,16,17] [.mp 0,.sl 1 0 (m) 5,.vl false 8 ((q).map (dr.val false)),.sc (.int .i64 ((q).length)),.sc (.int .i64 (p))]) t:=by
 have hv:(AV.vl false 8 (q.map (dr.val false))).cb (vz 2) = .vl false 8 (q.map (dr.val false)):=Iu (cd dr) (vz 2) false q
 simp only [ja,n5]
 split
 ·rfl
 split
 ·rfl
 split
 ·exact hv
 split
 ·rfl
 split
 ·rfl
 ·rfl
structure X7 (B:dk) (q:List ff) (p:Nat) (L:List aw) (vs:List Value) (bs:List Nat) (g:Gh) (a:Act) (w:World):Prop where
 here:jq B Tryz.f28.ntmps (ja [4,5,15,16,17] [.mp 0,.sl 1 0 ((L.map bq).length) 5,.vl false 8 ((q).map (dr.val false)),.sc (.int .i64 ((q).length)),.sc (.int .i64 (p))]) (bb [some (.map (fj 0 ((L).map bq))),some (.row (fh (L) (vs)) 0 0 58)]) g a w
 lv:vs.length=L.length
 lb:bs.length=L.length
 nd:∀ (j k:Nat) b,j≠k→bs[j]? = some b→bs[k]? ≠ some b
 own:∀ (j:Nat) s v b,L[j]? = some s→vs[j]? = some v→bs[j]? = some b→jj B g (bb [some (.map (fj 0 ((L).map bq))),some (.row (fh (L) (vs)) 0 0 58)]) w (cellsOf ak true s.data) 44 s.data.length 4 v b
theorem ae1 {B:dk} (hnf:B.lj) (hp:B.ay=0) (hO:∀ b,¬ B.O b) {q:List ff} {p:Nat} {L:List aw} {vs:List Value} {bs:List Nat} {i:Nat} {s:aw} {g:Gh} {a:Act} {w:World} (hs:L[i]? = some s) (hn : 0<s.data.length) (hlv:vs.length=L.length) (hlb:bs.length=L.length)
 (hh:jq B Tryz.f28.ntmps (ja [4,5,15,16,17] [.mp 0,.sl 1 0 ((L.map bq).length) 5,.vl false 8 ((q).map (dr.val false)),.sc (.int .i64 ((q).length)),.sc (.int .i64 (p))]) (bb [some (.map (fj 0 (L.map bq))),some (.row (fh (L.take i) (vs.take i)++AV.vl true 1 (s.owner.map (ai.val false)) :: .sc (.int .u16 s.type.toNat) :: .sc (.int .u16 s.cls.toNat) :: .sc (.int .u32 s.b7.toNat) :: .sl 2 0 s.data.length 4::fh (L.drop (i+1)) (vs.drop (i+1))) 0 0 58),some (.row (cellsOf ak true (s.data)) 0 0 44)]) g a w)
 (hnd:∀ (j k:Nat) b,j≠i→k≠i→j≠k→bs[j]? = some b→bs[k]? ≠ some b)
 (hown:∀ (j:Nat) s2 v b,j≠i→L[j]? = some s2→vs[j]? = some v→bs[j]? = some b→jj B g (bb [some (.map (fj 0 (L.map bq))),some (.row (fh (L.take i) (vs.take i)++AV.vl true 1 (s.owner.map (ai.val false)) :: .sc (.int .u16 s.type.toNat) :: .sc (.int .u16 s.cls.toNat) :: .sc (.int .u32 s.b7.toNat) :: .sl 2 0 s.data.length 4::fh (L.drop (i+1)) (vs.drop (i+1))) 0 0 58),some (.row (cellsOf ak true (s.data)) 0 0 44)]) w (cellsOf ak true s2.data) 44 s2.data.length 4 v b) :
 ∃ vs' bs' g',X7 B q p L vs' bs' g' a w:=by
 obtain ⟨hi,hsi⟩:=List.getElem?_eq_some_iff.1 hs
 have e1:∀ x:AV,fh (L.take i) (vs.take i)++AV.vl true 1 (s.owner.map (ai.val false)) :: .sc (.int .u16 s.type.toNat) :: .sc (.int .u16 s.cls.toNat) :: .sc (.int .u32 s.b7.toNat)::x::fh (L.drop (i+1)) (vs.drop (i+1))=(fh (L.take i) (vs.take i)++[AV.vl true 1 (s.owner.map (ai.val false)),.sc (.int .u16 s.type.toNat),.sc (.int .u16 s.cls.toNat),.sc (.int .u32 s.b7.toNat)])++x::fh (L.drop (i+1)) (vs.drop (i+1)):=fun x=>by
  rw [List.append_assoc];rfl
 have hcl:∀ l:List bn,ma (cellsOf ak true l):=fun l=>vt ak _ true l
 rw [e1] at hh
 have hX:(fh (L.take i) (vs.take i)++[AV.vl true 1 (s.owner.map (ai.val false)),.sc (.int .u16 s.type.toNat),.sc (.int .u16 s.cls.toNat),.sc (.int .u32 s.b7.toNat)]).map (AV.cb (vz 2))=fh (L.take i) (vs.take i)++[AV.vl true 1 (s.owner.map (ai.val false)),.sc (.int .u16 s.type.toNat),.sc (.int .u16 s.cls.toNat),.sc (.int .u32 s.b7.toNat)]:=by
  rw [List.map_append,tt]
  simp only [List.map_cons,List.map_nil,aek]
  rfl
 obtain ⟨v,b,g',H,O,oth⟩:=aAq (t0:=5) (m:=(L.map bq).length) (z:=5) hnf hO hp hn (hcl s.data) rfl (by rw [List.length_map];omega) (by simp only [ba.cb,C4]) hX (tt _ _ _) (awm _ _ _) hh
 have e2:(fh (L.take i) (vs.take i)++[AV.vl true 1 (s.owner.map (ai.val false)),.sc (.int .u16 s.type.toNat),.sc (.int .u16 s.cls.toNat),.sc (.int .u32 s.b7.toNat)])++AV.sc v::fh (L.drop (i+1)) (vs.drop (i+1))=fh L (vs.set i v):=by
  have:=acn s v hlv hi
  rw [← hsi,List.set_getElem_self] at this
  rw [this,← e1,hsi]
  rfl
 rw [e2] at H O
 refine ⟨vs.set i v,bs.set i b,g',H,by simpa using hlv,by simpa using hlb,fun j k c hjk hj hk=>?_,fun j s2 v2 b2 h1 h2 h3=>?_⟩
 ·by_cases ej:j=i
  ·subst ej
   rw [List.getElem?_set_self (by omega)] at hj;cases hj
   rw [List.getElem?_set_ne hjk] at hk
   have hkl:k<L.length:=by have:=(List.getElem?_eq_some_iff.1 hk).1;omega
   exact (oth _ _ _ _ _ _ (hcl _) (by rw [← e1];exact hown k L[k] vs[k] b (Ne.symm hjk) (List.getElem?_eq_getElem hkl) (List.getElem?_eq_getElem (by omega)) hk)).1 rfl
  ·rw [List.getElem?_set_ne (Ne.symm ej)] at hj
   by_cases ek:k=i
   ·subst ek
    rw [List.getElem?_set_self (by omega)] at hk;cases hk
    have hjl:j<L.length:=by have:=(List.getElem?_eq_some_iff.1 hj).1;omega
    exact (oth _ _ _ _ _ _ (hcl _) (by rw [← e1];exact hown j L[j] vs[j] b ej (List.getElem?_eq_getElem hjl) (List.getElem?_eq_getElem (by omega)) hj)).1 rfl
   ·rw [List.getElem?_set_ne (Ne.symm ek)] at hk
    exact hnd j k c ej ek hjk hj hk
 ·by_cases ej:j=i
  ·subst ej
   rw [List.getElem?_set_self (by omega)] at h2 h3;cases h2;cases h3
   rw [hs] at h1;cases h1
   exact O
  ·rw [List.getElem?_set_ne (Ne.symm ej)] at h2 h3
   have:=(oth _ _ _ _ _ _ (hcl _) (by rw [← e1];exact hown j s2 v2 b2 ej h1 h2 h3)).2
   rw [e2] at this
   exact this
def nn (r:ff):Nat:=lf r.data
theorem vr:aq PP [dj,j9,x7,j3,z7,mi]:=.cons (ar sh) (.cons (ar ug) (.cons (ar ak7) (.cons (ar o9) (.cons (ar Y7) (.cons (ar zf) (.nil PP))))))
theorem of_next {B:dk} {st0 st':St} {g g':Gh} {a':Act} {w w':World} {L':SL} {V:List AV} {O:List (Option ba)} (hnf:B.lj) (hp:B.ay=0) (hh:jq B Tryz.f28.ntmps L' st' g' a' w') (hb:qx (gq g st0.h w B.ay (fun _=>False)) g' st'.h w')
 (hv:dn 0 [4,5,15,16,17] L' st'=V) (ho:gu 0 [4,5,15,16,17] L' st'=O):∃ g2,jq B Tryz.f28.ntmps (ja [4,5,15,16,17] V) (bb O) g2 a' w'∧∀ cs e n sz v b,ma cs→jj B g st0 w cs e n sz v b→jj B g2 (bb O) w' cs e n sz v b:=by
 have H:=hh.canon hnf (by omega) [4,5,15,16,17]
 rw [hp,hv,ho] at H
 refine ⟨_,H,fun cs e n sz v b hcl hd=>?_⟩
 have:=(hd.keep hcl hb).canon (by omega) hcl [4,5,15,16,17] L'
 rw [hp,ho] at this
 exact this
structure wo (q:List ff):Prop where
 owner:∀ r ∈ q,cp r.owner
 data:di nn q≤16777216
 len:q.length≤1048576
def O0 (B:dk) (q:List ff) (p:Nat) (x:List aw × Int) (a:Act) (w:World):Prop:=
 ∃ L vs bs g,x=fo (q.drop p) L∧L.length≤p∧(∀ s ∈ L,0<s.data.length∧di lf s.data≤di nn (q.take p))∧X7 B q p L vs bs g a w
theorem ag4 {B:dk} (hnf:B.lj) (hp:B.ay=0) (hO:∀ b,¬ B.O b) (hn0:B.n0≤B.w.heap.size) {q:List ff} (hq:wo q) {p:Nat} {r:ff} (hr:q[p]? = some r) {L:List aw} {vs:List Value} {bs:List Nat} {g:Gh} {a:Act} {w:World}
 (h:X7 B q p L vs bs g a w) (hLp:L.length≤p) (hw:∀ s ∈ L,0<s.data.length∧di lf s.data≤di nn (q.take p)) (h1:cy r.owner=0) (h2:c7 r.type r.data=0) (hk:j7 (fu r) 0 (L.map bq)=none) :
 ofBody.wpIn (fm none) 0 PP (fun ex a' w'=>ex = .normal∧O0 B q (p+1) (fo (q.drop p) L) a' w') a w:=by
 have hlt:p<q.length:=(List.getElem?_eq_some_iff.1 hr).1
 have hrm:=List.mem_of_getElem? hr
 have hrd:nn r<di nn q:=z5 hrm
 have hql:=hq.len
 have hqd:=hq.data
 have hd:da r.data:=by unfold da;unfold nn at hrd hqd;unfold nn at *;omega
 have hdrop:q.drop p=r::q.drop (p+1):=by rw [List.drop_eq_getElem_cons hlt];obtain ⟨_,e⟩:=List.getElem?_eq_some_iff.1 hr;rw [e]
 have htake:q.take (p+1)=q.take p++[r]:=iq hr
 have hwt:di nn (q.take (p+1))=di nn (q.take p)+(lf r.data+0+1):=by rw [htake,zz];rfl
 have hmap:(L.map bq).length=L.length:=by rw [List.length_map]
 have hstep:=ayx q p r hr (L.map bq) (fh L vs) (by rw [E8 _ _ h.lv,hmap]) (tm _ _) (fun τ=>tt τ _ _) hk (hq.owner r hrm) hd h1 h2 (by omega) hql
 refine wpIn_mono (piece vr (by kernel_rfl) hnf (by omega) hn0 (by kernel_rfl) (by rw [hp];exact hstep) h.here) ?_
 rintro ex a' w' ⟨e,L',st',g',rfl,hQ,hh',hb⟩
 cases e with
 |ret=>exact hQ.elim
 |exit id=>exact hQ.elim
 |normal=>
  obtain ⟨e1,e2⟩:=hQ
  obtain ⟨g2,H,keep⟩:=of_next hnf hp hh' hb e1 e2
  have hcl:∀ l:List bn,ma (cellsOf ak true l):=fun l=>vt ak _ true l
  have hs1:(L++[ld r.owner r.type r.cls r.b7 [r.data]])[L.length]? = some (ld r.owner r.type r.cls r.b7 [r.data]):=by rw [List.getElem?_append_right (Nat.le_refl _),Nat.sub_self];rfl
  have hm2:(L++[ld r.owner r.type r.cls r.b7 [r.data]]).map bq=L.map bq++[fu r]:=by rw [List.map_append];rfl
  have t1:(L++[ld r.owner r.type r.cls r.b7 [r.data]]).take L.length=L:=List.take_left' rfl
  have t2:(vs++[undef]).take L.length=vs:=List.take_left' h.lv
  have t3:(L++[ld r.owner r.type r.cls r.b7 [r.data]]).drop (L.length+1)=[]:=List.drop_eq_nil_of_le (by simp)
  have hO2:(bb [some (.map (fj 0 ((L++[ld r.owner r.type r.cls r.b7 [r.data]]).map bq))),some (.row (fh ((L++[ld r.owner r.type r.cls r.b7 [r.data]]).take L.length) ((vs++[undef]).take L.length) ++ .vl true 1 (r.owner.map (ai.val false)) :: .sc (.int .u16 r.type.toNat) :: .sc (.int .u16 r.cls.toNat) :: .sc (.int .u32 r.b7.toNat) :: .sl 2 0 1 4::fh ((L++[ld r.owner r.type r.cls r.b7 [r.data]]).drop (L.length+1)) ((vs++[undef]).drop (L.length+1))) 0 0 58),some (.row (cellsOf ak true ([r.data])) 0 0 44)]) =
   bb [some (.map (fj 0 (L.map bq++[fu r]))),some (.row (fh L vs++[.vl true 1 (r.owner.map (ai.val false)),.sc (.int .u16 r.type.toNat),.sc (.int .u16 r.cls.toNat),.sc (.int .u32 r.b7.toNat),.sl 2 0 1 4]) 0 0 58),some (.row (cellsOf ak true ([r.data])) 0 0 44)]:=by
   rw [hm2,t1,t2,t3];rfl
  have hlb:=h.lb
  have hlv:=h.lv
  obtain ⟨vs',bs',g3,hat⟩:=ae1 (i:=L.length) (L:=L++[ld r.owner r.type r.cls r.b7 [r.data]]) (vs:=vs++[undef]) (bs:=bs++[0]) hnf hp hO hs1 (by show 0<1;omega) (by simp [hlv]) (by simp [hlb]) (g:=g2) (a:=a') (w:=w') (q:=q) (p:=p+1)
   (by
    have e3:((L++[ld r.owner r.type r.cls r.b7 [r.data]]).map bq).length=(L.map bq).length+1:=by rw [hm2,List.length_append];rfl
    rw [e3]
    exact (congrArg (fun x=>jq B Tryz.f28.ntmps (ja [4,5,15,16,17] [.mp 0,.sl 1 0 ((L.map bq).length+1) 5,.vl false 8 ((q).map (dr.val false)),.sc (.int .i64 ((q).length)),.sc (.int .i64 (p+1))]) x g2 a' w') hO2).mpr H)
   (fun j k b hj hk hjk h5 h6=>by
    have hj':j<bs.length:=by have:=(List.getElem?_eq_some_iff.1 h5).1;simp at this;omega
    have hk':k<bs.length:=by have:=(List.getElem?_eq_some_iff.1 h6).1;simp at this;omega
    rw [List.getElem?_append_left hj'] at h5
    rw [List.getElem?_append_left hk'] at h6
    exact h.nd j k b hjk h5 h6)
   (fun j s2 v b hj h5 h6 h7=>by
    have hj':j<bs.length:=by have:=(List.getElem?_eq_some_iff.1 h7).1;simp at this;omega
    rw [List.getElem?_append_left (by omega)] at h5 h6 h7
    exact (congrArg (fun x=>jj B g2 x w' (cellsOf ak true s2.data) 44 s2.data.length 4 v b) hO2).mpr (keep _ _ _ _ _ _ (hcl _) (h.own j s2 v b h5 h6 h7)))
  refine ⟨rfl,_,vs',bs',g3,?_,by simp;omega,fun s hs=>?_,hat⟩
  ·rw [hdrop,fo,if_neg (by rw [h1];simp),if_neg (by rw [h2];simp),hk]
  ·rcases List.mem_append.1 hs with q1|q1
   ·have:=hw s q1;exact ⟨this.1,by omega⟩
   ·simp only [List.mem_singleton] at q1
    subst q1
    refine ⟨by show 0<1;omega,?_⟩
    show lf r.data+0+1≤_
    omega
theorem asx {L:List aw} {i:Nat} {s':aw} (hi:i<L.length):(L.set i s').take i=L.take i∧(L.set i s').drop (i+1)=L.drop (i+1)∧(L.set i s')[i]? = some s':=by
 refine ⟨?_,?_,List.getElem?_set_self hi⟩
 ·rw [List.set_eq_take_append_cons_drop,if_pos hi,List.take_left' (by simp;omega)]
 ·rw [List.set_eq_take_append_cons_drop,if_pos hi,List.drop_append,List.drop_eq_nil_of_le (by simp;omega)]
  have:i+1 - (L.take i).length=1:=by simp;omega
  rw [this];rfl
theorem avm {B:dk} (hnf:B.lj) {q:List ff} {p:Nat} {L:List aw} {vs:List Value} {bs:List Nat} {g:Gh} {a:Act} {w:World} {i:Nat} {s:aw} (h:X7 B q p L vs bs g a w) (hs:L[i]? = some s) :
 ∃ g',jq B Tryz.f28.ntmps (ja [4,5,15,16,17] [.mp 0,.sl 1 0 ((L.map bq).length) 5,.vl false 8 ((q).map (dr.val false)),.sc (.int .i64 ((q).length)),.sc (.int .i64 (p))]) (bb [some (.map (fj 0 (L.map bq))),some (.row (fh ((L).take (i)) ((vs).take (i))++AV.vl true 1 (s.owner.map (ai.val false)) :: .sc (.int .u16 s.type.toNat) :: .sc (.int .u16 s.cls.toNat) :: .sc (.int .u32 (s.b7).toNat) :: .sl 2 0 (s.data.length) 4::fh ((L).drop ((i)+1)) ((vs).drop ((i)+1))) 0 0 58),some (.row (cellsOf ak true (s.data)) 0 0 44)]) g' a w ∧
  ∀ (j:Nat) s2 v b,j≠i→L[j]? = some s2→vs[j]? = some v→bs[j]? = some b→jj B g' (bb [some (.map (fj 0 (L.map bq))),some (.row (fh ((L).take (i)) ((vs).take (i))++AV.vl true 1 (s.owner.map (ai.val false)) :: .sc (.int .u16 s.type.toNat) :: .sc (.int .u16 s.cls.toNat) :: .sc (.int .u32 (s.b7).toNat) :: .sl 2 0 (s.data.length) 4::fh ((L).drop ((i)+1)) ((vs).drop ((i)+1))) 0 0 58),some (.row (cellsOf ak true (s.data)) 0 0 44)]) w (cellsOf ak true s2.data) 44 s2.data.length 4 v b:=by
 obtain ⟨hi,hsi⟩:=List.getElem?_eq_some_iff.1 hs
 have hlv:=h.lv
 have hlb:=h.lb
 have hv:vs[i]? = some (vs[i]'(by omega)):=List.getElem?_eq_getElem (by omega)
 have hb:bs[i]? = some (bs[i]'(by omega)):=List.getElem?_eq_getElem (by omega)
 have hcl:∀ l:List bn,ma (cellsOf ak true l):=fun l=>vt ak _ true l
 have e1:∀ x:AV,fh (L.take i) (vs.take i)++AV.vl true 1 (s.owner.map (ai.val false)) :: .sc (.int .u16 s.type.toNat) :: .sc (.int .u16 s.cls.toNat) :: .sc (.int .u32 s.b7.toNat)::x::fh (L.drop (i+1)) (vs.drop (i+1))=(fh (L.take i) (vs.take i)++[AV.vl true 1 (s.owner.map (ai.val false)),.sc (.int .u16 s.type.toNat),.sc (.int .u16 s.cls.toNat),.sc (.int .u32 s.b7.toNat)])++x::fh (L.drop (i+1)) (vs.drop (i+1)):=fun x=>by
  rw [List.append_assoc];rfl
 have e2:fh L vs=(fh (L.take i) (vs.take i)++[AV.vl true 1 (s.owner.map (ai.val false)),.sc (.int .u16 s.type.toNat),.sc (.int .u16 s.cls.toNat),.sc (.int .u32 s.b7.toNat)])++AV.sc (vs[i]'(by omega))::fh (L.drop (i+1)) (vs.drop (i+1)):=by
  rw [awp hlv hs hv,← e1];rfl
 have H:=h.here
 have O:=h.own i s _ _ hs hv hb
 rw [e2] at H O
 obtain ⟨g',H2,keep⟩:=aw8 (t0:=5) (m:=(L.map bq).length) (z:=5) hnf rfl (by rw [List.length_map];omega) H O
 rw [← e1] at H2
 refine ⟨g',H2,fun j s2 v b hj h1 h2 h3=>?_⟩
 have hne:b≠bs[i]'(by omega):=fun e=>h.nd j i b hj h3 (by rw [hb,e])
 have q1:=h.own j s2 v b h1 h2 h3
 rw [e2] at q1
 have:=keep _ _ _ _ _ _ (hcl _) hne q1
 rw [← e1] at this
 exact this
theorem ajy {B:dk} (hnf:B.lj) (hp:B.ay=0) (hO:∀ b,¬ B.O b) {q:List ff} {p:Nat} {L:List aw} {vs:List Value} {bs:List Nat} {g0 g:Gh} {a0 a:Act} {w0 w:World} {i:Nat} {s:aw} {t:UInt32} {d:List bn} (h:X7 B q p L vs bs g0 a0 w0) (hs:L[i]? = some s) (hd : 0<d.length)
 (H:jq B Tryz.f28.ntmps (ja [4,5,15,16,17] [.mp 0,.sl 1 0 ((L.map bq).length) 5,.vl false 8 ((q).map (dr.val false)),.sc (.int .i64 ((q).length)),.sc (.int .i64 (p+1))]) (bb [some (.map (fj 0 (L.map bq))),some (.row (fh ((L).take (i)) ((vs).take (i))++AV.vl true 1 (s.owner.map (ai.val false)) :: .sc (.int .u16 s.type.toNat) :: .sc (.int .u16 s.cls.toNat) :: .sc (.int .u32 (t).toNat) :: .sl 2 0 (d.length) 4::fh ((L).drop ((i)+1)) ((vs).drop ((i)+1))) 0 0 58),some (.row (cellsOf ak true (d)) 0 0 44)]) g a w)
 (keep:∀ (j:Nat) s2 v b,j≠i→L[j]? = some s2→vs[j]? = some v→bs[j]? = some b→jj B g (bb [some (.map (fj 0 (L.map bq))),some (.row (fh ((L).take (i)) ((vs).take (i))++AV.vl true 1 (s.owner.map (ai.val false)) :: .sc (.int .u16 s.type.toNat) :: .sc (.int .u16 s.cls.toNat) :: .sc (.int .u32 (t).toNat) :: .sl 2 0 (d.length) 4::fh ((L).drop ((i)+1)) ((vs).drop ((i)+1))) 0 0 58),some (.row (cellsOf ak true (d)) 0 0 44)]) w (cellsOf ak true s2.data) 44 s2.data.length 4 v b) :
 ∃ vs' bs' g',X7 B q (p+1) (L.set i (ld s.owner s.type s.cls (t) (d))) vs' bs' g' a w:=by
 obtain ⟨hi,hsi⟩:=List.getElem?_eq_some_iff.1 hs
 obtain ⟨t1,t2,t3⟩:=asx (s':=(ld s.owner s.type s.cls (t) (d))) hi
 have hm:(L.set i (ld s.owner s.type s.cls (t) (d))).map bq=L.map bq:=afy hs rfl
 have hO2:(bb [some (.map (fj 0 ((L.set i (ld s.owner s.type s.cls (t) (d))).map bq))),some (.row (fh ((L.set i (ld s.owner s.type s.cls (t) (d))).take i) (vs.take i)++AV.vl true 1 (s.owner.map (ai.val false)) :: .sc (.int .u16 s.type.toNat) :: .sc (.int .u16 s.cls.toNat) :: .sc (.int .u32 t.toNat) :: .sl 2 0 d.length 4::fh ((L.set i (ld s.owner s.type s.cls (t) (d))).drop (i+1)) (vs.drop (i+1))) 0 0 58),some (.row (cellsOf ak true (d)) 0 0 44)])=bb [some (.map (fj 0 (L.map bq))),some (.row (fh ((L).take (i)) ((vs).take (i))++AV.vl true 1 (s.owner.map (ai.val false)) :: .sc (.int .u16 s.type.toNat) :: .sc (.int .u16 s.cls.toNat) :: .sc (.int .u32 (t).toNat) :: .sl 2 0 (d.length) 4::fh ((L).drop ((i)+1)) ((vs).drop ((i)+1))) 0 0 58),some (.row (cellsOf ak true (d)) 0 0 44)]:=by
  rw [hm,t1,t2]
 refine ae1 (i:=i) (vs:=vs) (bs:=bs) (g:=g) hnf hp hO t3 hd (by rw [List.length_set];exact h.lv) (by rw [List.length_set];exact h.lb) ?_ (fun j k b _ _ hjk h5 h6=>h.nd j k b hjk h5 h6) (fun j s2 v b hj h5 h6 h7=>?_)
 ·rw [show ((L.set i (ld s.owner s.type s.cls (t) (d))).map bq).length=(L.map bq).length by rw [hm]]
  exact (congrArg (fun x=>jq B Tryz.f28.ntmps (ja [4,5,15,16,17] [.mp 0,.sl 1 0 ((L.map bq).length) 5,.vl false 8 ((q).map (dr.val false)),.sc (.int .i64 ((q).length)),.sc (.int .i64 (p+1))]) x g a w) hO2).mpr H
 ·rw [List.getElem?_set_ne (Ne.symm hj)] at h5
  exact (congrArg (fun x=>jj B g x w (cellsOf ak true s2.data) 44 s2.data.length 4 v b) hO2).mpr (keep j s2 v b hj h5 h6 h7)
theorem ah7 {B:dk} (hnf:B.lj) (hp:B.ay=0) (hO:∀ b,¬ B.O b) (hn0:B.n0≤B.w.heap.size) {q:List ff} (hq:wo q) {p:Nat} {r:ff} (hr:q[p]? = some r) {L:List aw} {vs:List Value} {bs:List Nat} {g:Gh} {a:Act} {w:World} {i:Nat} {s:aw}
 (h:X7 B q p L vs bs g a w) (hLp:L.length≤p) (hw:∀ s ∈ L,0<s.data.length∧di lf s.data≤di nn (q.take p)) (h1:cy r.owner=0) (h2:c7 r.type r.data=0) (hk:j7 (fu r) 0 (L.map bq)=some i) (hs:L[i]? = some s) :
 ofBody.wpIn (fm none) 0 PP (fun ex a' w'=>(ex = .normal∧O0 B q (p+1) (fo (q.drop p) L) a' w')∨(ex = .ret∧Fin B Tryz.f28.ntmps (du PP Tryz.f28.results.toList (fun rr st=>(r2 (cd aj) (bc .i64)).get true st.h rr=some (fo (q.drop p) L))) .ret a' w')) a w:=by
 have hlt:p<q.length:=(List.getElem?_eq_some_iff.1 hr).1
 have hrm:=List.mem_of_getElem? hr
 have hrd:nn r<di nn q:=z5 hrm
 have hql:=hq.len
 have hqd:=hq.data
 have hd:da r.data:=by unfold da;unfold nn at *;omega
 have hdrop:q.drop p=r::q.drop (p+1):=by rw [List.drop_eq_getElem_cons hlt];obtain ⟨_,e⟩:=List.getElem?_eq_some_iff.1 hr;rw [e]
 have htake:q.take (p+1)=q.take p++[r]:=iq hr
 have hwt:di nn (q.take (p+1))=di nn (q.take p)+(lf r.data+0+1):=by rw [htake,zz];rfl
 have hwq:di nn q=di nn (q.take p)+di nn (q.drop p):=by rw [← zz,List.take_append_drop]
 have hmap:(L.map bq).length=L.length:=by rw [List.length_map]
 obtain ⟨hi,hsi⟩:=List.getElem?_eq_some_iff.1 hs
 have hsm:=List.mem_of_getElem? hs
 obtain ⟨hn,hws⟩:=hw s hsm
 have hds:lg s.data:=by unfold lg;omega
 have hlv:=h.lv
 have hX:(fh (L.take i) (vs.take i)).length=i * 5:=by rw [E8 _ _ (by simp;omega),List.length_take,Nat.min_eq_left (by omega)]
 have hcl:∀ l:List bn,ma (cellsOf ak true l):=fun l=>vt ak _ true l
 obtain ⟨g1,H1,keep1⟩:=avm hnf h hs
 have gh:∀ (s':aw),(0<s'.data.length∧di lf s'.data≤di nn (q.take (p+1)))→∀ x ∈ L.set i s',0<x.data.length∧di lf x.data≤di nn (q.take (p+1)):=fun s' hs' x hx=>by
  rcases List.mem_or_eq_of_mem_set hx with q1|q1
  ·have:=hw x q1;exact ⟨this.1,by omega⟩
  ·subst q1;exact hs'
 have hspec:fo (q.drop p) L=if np s.type s.data r.data=true then fo (q.drop (p+1)) (L.set i (ld s.owner s.type s.cls (pc s.b7 r.b7) (s.data))) else if 512≤s.data.length then ([],3) else fo (q.drop (p+1)) (L.set i (ld s.owner s.type s.cls (pc s.b7 r.b7) (s.data++[r.data]))):=by
  rw [hdrop,fo,if_neg (by rw [h1];simp),if_neg (by rw [h2];simp),hk]
  simp only [hs]
 by_cases hh:np s.type s.data r.data=true
 ·rw [if_pos hh] at hspec
  have hstep:=ayl q p r hr (L.map bq) i (fh (L.take i) (vs.take i)) (fh (L.drop (i+1)) (vs.drop (i+1))) s hX (tm _ _) (fun τ=>tt τ _ _) (tm _ _) (fun τ=>tt τ _ _) hk (hq.owner r hrm) hd h1 h2 (by omega) hql hds hn hh
  refine wpIn_mono (piece vr (by kernel_rfl) hnf (by omega) hn0 (by kernel_rfl) (by rw [hp];exact hstep) H1) ?_
  rintro ex a' w' ⟨e,L',st',g',rfl,hQ,hh',hb⟩
  cases e with
  |ret=>exact hQ.elim
  |exit id=>exact hQ.elim
  |normal=>
   obtain ⟨e1,e2⟩:=hQ
   obtain ⟨g2,H,keep⟩:=of_next hnf hp hh' hb e1 e2
   obtain ⟨vs',bs',g3,hat⟩:=ajy hnf hp hO h hs hn H (fun j s2 v b hj h5 h6 h7=>keep _ _ _ _ _ _ (hcl _) (keep1 j s2 v b hj h5 h6 h7))
   exact .inl ⟨rfl,_,vs',bs',g3,hspec,by rw [List.length_set];omega,gh _ ⟨hn,by show di lf s.data≤_;omega⟩,hat⟩
 have hh':np s.type s.data r.data=false:=by simpa using hh
 rw [if_neg hh] at hspec
 by_cases h5 : 512≤s.data.length
 ·rw [if_pos h5] at hspec
  have hstep:=aw4 q p r hr (L.map bq) i (fh (L.take i) (vs.take i)) (fh (L.drop (i+1)) (vs.drop (i+1))) s hX (tm _ _) (fun τ=>tt τ _ _) (tm _ _) (fun τ=>tt τ _ _) hk (hq.owner r hrm) hd h1 h2 (by omega) hql hds hn h5 hh'
  refine wpIn_mono (piece vr (by kernel_rfl) hnf (by omega) hn0 (by kernel_rfl) (by rw [hp];exact hstep) H1) ?_
  rintro ex a' w' ⟨e,L',st',g',rfl,hQ,hh2,hb⟩
  cases e with
  |normal=>exact hQ.elim
  |exit id=>exact hQ.elim
  |ret=>
   refine .inr ⟨rfl,?_⟩
   rw [hspec]
   exact ⟨.ret,L',st',g',rfl,hQ,hh2.cur,hh2.sl,hh2.Jc⟩
 ·rw [if_neg h5] at hspec
  have hstep:=axn q p r hr (L.map bq) i (fh (L.take i) (vs.take i)) (fh (L.drop (i+1)) (vs.drop (i+1))) s hX (tm _ _) (fun τ=>tt τ _ _) (tm _ _) (fun τ=>tt τ _ _) hk (hq.owner r hrm) hd h1 h2 (by omega) hql hds hn (by omega) hh'
  refine wpIn_mono (piece vr (by kernel_rfl) hnf (by omega) hn0 (by kernel_rfl) (by rw [hp];exact hstep) H1) ?_
  rintro ex a' w' ⟨e,L',st',g',rfl,hQ,hh2,hb⟩
  cases e with
  |ret=>exact hQ.elim
  |exit id=>exact hQ.elim
  |normal=>
   obtain ⟨e1,e2⟩:=hQ
   have hl2:s.data.length+1=(s.data++[r.data]).length:=by simp
   rw [hl2] at e2
   obtain ⟨g2,H,keep⟩:=of_next hnf hp hh2 hb e1 e2
   obtain ⟨vs',bs',g3,hat⟩:=ajy hnf hp hO h hs (by simp) H (fun j s2 v b hj h5 h6 h7=>keep _ _ _ _ _ _ (hcl _) (keep1 j s2 v b hj h5 h6 h7))
   refine .inl ⟨rfl,_,vs',bs',g3,hspec,by rw [List.length_set];omega,gh _ ⟨by show 0<(s.data++[r.data]).length;simp,?_⟩,hat⟩
   show di lf (s.data++[r.data])≤_
   rw [zz]
   show di lf s.data+(lf r.data+0+1)≤_
   omega
theorem awb {B:dk} (hnf:B.lj) (hp:B.ay=0) (hO:∀ b,¬ B.O b) (hn0:B.n0≤B.w.heap.size) {q:List ff} (hq:wo q) {p:Nat} (hlt:p<q.length) {x:List aw × Int} {a:Act} {w:World} (h:O0 B q p x a w) :
 ofBody.wpIn (fm none) 0 PP (fun ex a' w'=>(ex = .normal∧O0 B q (p+1) x a' w')∨(ex = .ret∧Fin B Tryz.f28.ntmps (du PP Tryz.f28.results.toList (fun rr st=>(r2 (cd aj) (bc .i64)).get true st.h rr=some (x))) .ret a' w')) a w:=by
 obtain ⟨L,vs,bs,g,rfl,hLp,hw,hat⟩:=h
 obtain ⟨r,hr⟩:∃ r,q[p]? = some r:=⟨_,List.getElem?_eq_getElem hlt⟩
 have hrm:=List.mem_of_getElem? hr
 have hrd:nn r<di nn q:=z5 hrm
 have hql:=hq.len
 have hqd:=hq.data
 have hd:da r.data:=by unfold da;unfold nn at *;omega
 have hdrop:q.drop p=r::q.drop (p+1):=by rw [List.drop_eq_getElem_cons hlt];obtain ⟨_,e⟩:=List.getElem?_eq_some_iff.1 hr;rw [e]
 have hlv:=hat.lv
 by_cases h1:cy r.owner=0
 rotate_left
 ·have hstep:=avc q p r hr (L.map bq) (fh L vs) (by rw [E8 _ _ hlv,List.length_map]) (hq.owner r hrm) h1 hql
  have hspec:fo (q.drop p) L=([],cy r.owner):=by rw [hdrop,fo,if_pos h1]
  refine wpIn_mono (piece vr (by kernel_rfl) hnf (by omega) hn0 (by kernel_rfl) (by rw [hp];exact hstep) hat.here) ?_
  rintro ex a' w' ⟨e,L',st',g',rfl,hQ,hh2,hb⟩
  cases e with
  |normal=>exact hQ.elim
  |exit id=>exact hQ.elim
  |ret=>
   refine .inr ⟨rfl,?_⟩
   rw [hspec]
   exact ⟨.ret,L',st',g',rfl,hQ,hh2.cur,hh2.sl,hh2.Jc⟩
 by_cases h2:c7 r.type r.data=0
 rotate_left
 ·have hstep:=avk q p r hr (L.map bq) (fh L vs) (by rw [E8 _ _ hlv,List.length_map]) (hq.owner r hrm) hd h1 h2 hql
  have hspec:fo (q.drop p) L=([],c7 r.type r.data):=by rw [hdrop,fo,if_neg (by rw [h1];simp),if_pos h2]
  refine wpIn_mono (piece vr (by kernel_rfl) hnf (by omega) hn0 (by kernel_rfl) (by rw [hp];exact hstep) hat.here) ?_
  rintro ex a' w' ⟨e,L',st',g',rfl,hQ,hh2,hb⟩
  cases e with
  |normal=>exact hQ.elim
  |exit id=>exact hQ.elim
  |ret=>
   refine .inr ⟨rfl,?_⟩
   rw [hspec]
   exact ⟨.ret,L',st',g',rfl,hQ,hh2.cur,hh2.sl,hh2.Jc⟩
 cases hk:j7 (fu r) 0 (L.map bq) with
 |none=>exact wpIn_mono (ag4 hnf hp hO hn0 hq hr hat hLp hw h1 h2 hk) (fun ex a' w' h=>.inl h)
 |some i=>
  have hi:=(E1 _ 0 i hk).2
  rw [List.length_map,Nat.zero_add] at hi
  exact ah7 hnf hp hO hn0 hq hr hat hLp hw h1 h2 hk (List.getElem?_eq_getElem hi)
theorem agc {B:dk} {q:List ff} {p:Nat} {L:List aw} {vs:List Value} {bs:List Nat} {g:Gh} {a:Act} {w:World} (h:X7 B q p L vs bs g a w):∀ (k:Nat),k≤L.length →
 ∃ g',jq B Tryz.f28.ntmps (ja [4,5,15,16,17] [.mp 0,.sl 1 0 ((L.map bq).length) 5,.vl false 8 ((q).map (dr.val false)),.sc (.int .i64 ((q).length)),.sc (.int .i64 (p))]) (bb [some (.map (fj 0 (L.map bq))),some (.row (cellsOf aj true (L.take k)++fh (L.drop k) (vs.drop k)) 0 0 58)]) g' a w ∧
  ∀ (j:Nat) s v b,k≤j→L[j]? = some s→vs[j]? = some v→bs[j]? = some b→jj B g' (bb [some (.map (fj 0 (L.map bq))),some (.row (cellsOf aj true (L.take k)++fh (L.drop k) (vs.drop k)) 0 0 58)]) w (cellsOf ak true s.data) 44 s.data.length 4 v b
 |0,_=>⟨g,h.here,fun j s v b _ h1 h2 h3=>h.own j s v b h1 h2 h3⟩
 |k+1,hk=>by
  obtain ⟨g1,H,own⟩:=agc h k (by omega)
  have hlv:=h.lv
  have hlb:=h.lb
  have hcl:∀ l:List bn,ma (cellsOf ak true l):=fun l=>vt ak _ true l
  have hs:L[k]? = some (L[k]'(by omega)):=List.getElem?_eq_getElem (by omega)
  have hv:vs[k]? = some (vs[k]'(by omega)):=List.getElem?_eq_getElem (by omega)
  have hb:bs[k]? = some (bs[k]'(by omega)):=List.getElem?_eq_getElem (by omega)
  generalize L[k]'(by omega)=s at hs
  generalize vs[k]'(by omega)=v at hv
  generalize bs[k]'(by omega)=b at hb
  have d1:L.drop k=s::L.drop (k+1):=by obtain ⟨hi,rfl⟩:=List.getElem?_eq_some_iff.1 hs;exact List.drop_eq_getElem_cons hi
  have d2:vs.drop k=v::vs.drop (k+1):=by obtain ⟨hi,rfl⟩:=List.getElem?_eq_some_iff.1 hv;exact List.drop_eq_getElem_cons hi
  have e1:cellsOf aj true (L.take k)++fh (L.drop k) (vs.drop k)=(cellsOf aj true (L.take k)++[AV.vl true 1 (s.owner.map (ai.val false)),.sc (.int .u16 s.type.toNat),.sc (.int .u16 s.cls.toNat),.sc (.int .u32 s.b7.toNat)])++AV.sc v::fh (L.drop (k+1)) (vs.drop (k+1)):=by
   rw [d1,d2,List.append_assoc];rfl
  have e2:(cellsOf aj true (L.take k)++[AV.vl true 1 (s.owner.map (ai.val false)),.sc (.int .u16 s.type.toNat),.sc (.int .u16 s.cls.toNat),.sc (.int .u32 s.b7.toNat)])++AV.vl true 4 (s.data.map (ak.val true))::fh (L.drop (k+1)) (vs.drop (k+1))=cellsOf aj true (L.take (k+1))++fh (L.drop (k+1)) (vs.drop (k+1)):=by
   rw [iq hs,yp,y6,List.append_assoc,List.append_assoc];rfl
  have O:=own k s v b (Nat.le_refl _) hs hv hb
  rw [e1] at H O
  have hfl:(s.data.map (ak.val true)).flatMap AV.cells=cellsOf ak true s.data:=ae4 true s.data
  have O':jj B g1 (bb [some (.map (fj 0 (L.map bq))),some (.row ((cellsOf aj true (L.take k)++[AV.vl true 1 (s.owner.map (ai.val false)),.sc (.int .u16 s.type.toNat),.sc (.int .u16 s.cls.toNat),.sc (.int .u32 s.b7.toNat)])++AV.sc v::fh (L.drop (k+1)) (vs.drop (k+1))) 0 0 58)]) w ((s.data.map (ak.val true)).flatMap AV.cells) 44 s.data.length 4 v b:=by rw [hfl];exact O
  obtain ⟨g2,H2,keep⟩:=azj (t0:=5) (m:=(L.map bq).length) (z:=5) (n:=s.data.length) rfl (by rw [List.length_map];omega) (by rw [hfl];exact hcl _) (fun e he=>by
   obtain ⟨d,_,rfl⟩:=List.mem_map.1 he
   rfl) (by simp) H O'
  rw [e2] at H2 keep
  refine ⟨g2,H2,fun j s2 v2 b2 hj h1 h2 h3=>?_⟩
  have hne:b2≠b:=fun e=>h.nd j k b2 (by omega) h3 (by rw [hb,e])
  have:=own j s2 v2 b2 (by omega) h1 h2 h3
  rw [e1] at this
  exact keep _ _ _ _ _ _ (hcl _) hne this
noncomputable def at3:Code:=match Tryz.f28.body.getD .skip with
 |.seq a (.seq _ (.seq _ (.seq (.seq _ (.block _ (.loop _))) _)))=>a
 |_=>.skip
noncomputable def at4:Code:=match Tryz.f28.body.getD .skip with
 |.seq _ (.seq a (.seq _ (.seq (.seq _ (.block _ (.loop _))) _)))=>a
 |_=>.skip
noncomputable def atr:Code:=match Tryz.f28.body.getD .skip with
 |.seq _ (.seq _ (.seq a (.seq (.seq _ (.block _ (.loop _))) _)))=>a
 |_=>.skip
noncomputable def asl:Code:=match Tryz.f28.body.getD .skip with
 |.seq _ (.seq _ (.seq _ (.seq (.seq a (.block _ (.loop _))) _)))=>a
 |_=>.skip
noncomputable def at6:Code:=match Tryz.f28.body.getD .skip with
 |.seq _ (.seq _ (.seq _ (.seq (.seq _ (.block _ (.loop _))) a)))=>a
 |_=>.skip
theorem avl:Tryz.f28.body.getD .skip = .seq at3 (.seq at4 (.seq atr (.seq (.seq asl (.block 0 (.loop ofBody))) at6))):=by kernel_rfl
def V4 (X:SL→St→Prop):QL:=fun e L st=>match e with|.normal=>X L st|_=>False
theorem axu (q:List ff):wl PP [dj,j9,x7,j3,z7,mi] 0 at3 (V4 (wl PP [dj,j9,x7,j3,z7,mi] 0 at4 (V4 (wl PP [dj,j9,x7,j3,z7,mi] 0 atr (V4 (wl PP [dj,j9,x7,j3,z7,mi] 0 asl (V4 (fun L st=>tu 0 (dn 0 [4,5,15,16,17] L st) (gu 0 [4,5,15,16,17] L st) [.mp 0,.sl 1 0 (0) 5,.vl false 8 ((q).map (dr.val false)),.sc (.int .i64 ((q).length)),.sc (.int .i64 (0))] [some (.map (fj 0 ([]))),some (.row ([]) 0 0 58)]))))))))
 (cg 0 [(cd dr).val false q]) (bb []):=by
 unfold at3 at4 atr asl Tryz.f28
 simp only [↓wR,RA,simprocAttr,TF,ae,V4,fj,th]
 (refine tu.lax [] (by first|exact Nat.le_of_ble_eq_true rfl|(simp [br];omega)) ?_ ?_<;>repeat' first|exact j0.nil|exact dp.nil|exact ke.same _|exact ke.nil _ _ _|exact ke.yk _ _|exact dp.refl _ _|apply j0.cons|apply dp.ghost|apply dp.same|apply dp.row)
theorem awo (L:List aw) (ks:List iz) (S:SL) (hS:lk S 5 = .sl 1 0 ks.length 5) (hk:ks.length=L.length):wl PP [dj,j9,x7,j3,z7,mi] 0 at6 (du PP Tryz.f28.results.toList (fun rr st=>(r2 (cd aj) (bc .i64)).get true st.h rr=some ((L,0)))) S (bb [some (.map (fj 0 (ks))),some (.row (cellsOf aj true L) 0 0 58)]):=by
 have hdec:∀ fr h kk st et,mf aj fr h 0 L.length (.row (cellsOf aj true L) kk st et)=some L:=fun fr h kk st et=>nh aj fr h true _ kk st et _ rfl rfl
 rw [hk] at hS
 unfold at6 Tryz.f28
 simp only [↓wR,RA,simprocAttr,TF,ae,hS,hdec]
theorem atn {B:dk} (hnf:B.lj) (hp:B.ay=0) (hO:∀ b,¬ B.O b) (hn0:B.n0≤B.w.heap.size) {q:List ff} (hq:wo q) {g:Gh} {a:Act} {w:World} (hh:jq B Tryz.f28.ntmps (cg 0 [(cd dr).val false q]) (bb []) g a w) :
 (Tryz.f28.body.getD .skip).wpIn (fm none) 0 PP (Fin B Tryz.f28.ntmps (du PP Tryz.f28.results.toList (fun rr st=>(r2 (cd aj) (bc .i64)).get true st.h rr=some (fo q [])))) a w:=by
 rw [avl]
 refine wpIn_seq (wpIn_mono (piece vr (by kernel_rfl) hnf (by omega) hn0 (by kernel_rfl) (by rw [hp];exact axu q) hh) ?_)
 rintro ex a w ⟨e,L',st',g,rfl,hQ,hh,_⟩
 cases e with
 |ret=>exact hQ.elim
 |exit id=>exact hQ.elim
 |normal=>
 refine wpIn_seq (wpIn_mono (piece vr (by kernel_rfl) hnf (by omega) hn0 (by kernel_rfl) (by rw [hp];exact hQ) hh) ?_)
 rintro ex a w ⟨e,L',st',g,rfl,hQ,hh,_⟩
 cases e with
 |ret=>exact hQ.elim
 |exit id=>exact hQ.elim
 |normal=>
 refine wpIn_seq (wpIn_mono (piece vr (by kernel_rfl) hnf (by omega) hn0 (by kernel_rfl) (by rw [hp];exact hQ) hh) ?_)
 rintro ex a w ⟨e,L',st',g,rfl,hQ,hh,_⟩
 cases e with
 |ret=>exact hQ.elim
 |exit id=>exact hQ.elim
 |normal=>
 refine wpIn_seq (wpIn_seq (wpIn_mono (piece vr (by kernel_rfl) hnf (by omega) hn0 (by kernel_rfl) (by rw [hp];exact hQ) hh) ?_))
 rintro ex a w ⟨e,L',st',g,rfl,hQ,hh,_⟩
 cases e with
 |ret=>exact hQ.elim
 |exit id=>exact hQ.elim
 |normal=>
 refine wpIn_block ?_
 have hW:tu 0 (dn 0 [4,5,15,16,17] L' st') (gu 0 [4,5,15,16,17] L' st') [.mp 0,.sl 1 0 (0) 5,.vl false 8 ((q).map (dr.val false)),.sc (.int .i64 ((q).length)),.sc (.int .i64 (0))] [some (.map (fj 0 ([]))),some (.row ([]) 0 0 58)]:=hQ
 obtain ⟨V,O,g1,⟨rfl,rfl⟩,k1,k2,k3,_⟩:=Oz (X:=fun vs os=>vs=[.mp 0,.sl 1 0 (0) 5,.vl false 8 ((q).map (dr.val false)),.sc (.int .i64 ((q).length)),.sc (.int .i64 (0))]∧os=[some (.map (fj 0 ([]))),some (.row ([]) 0 0 58)]) hnf (by omega) [4,5,15,16,17] (by rw [hp];exact ⟨_,_,hW,rfl,rfl⟩) hh.cur hh.sl
 have h0:O0 B q 0 (fo q []) a w:=by
  refine ⟨[],[],[],g1,rfl,Nat.le_refl _,fun s hs=>(by cases hs),⟨⟨k1,k2,k3 _ _ (Cp (by omega) [4,5,15,16,17] hh.Jc)⟩,rfl,rfl,fun j k b _ h1=>(by simp at h1),fun j s v b h1=>(by simp at h1)⟩⟩
 refine aml (fun (p:Nat) a w=>p≤q.length∧O0 B q p (fo q []) a w) (fun p=>q.length - p) ?_ 0 a w ⟨Nat.zero_le _,h0⟩
 rintro p a w ⟨hpl,hI⟩
 by_cases hlt:p<q.length
 ·refine wpIn_mono (awb hnf hp hO hn0 hq hlt hI) ?_
  rintro ex a' w' (⟨rfl,h⟩|⟨rfl,h⟩)
  ·exact ⟨p+1,by omega,hlt,h⟩
  ·exact h
 ·have hpe:p=q.length:=by omega
  subst hpe
  obtain ⟨L,vs,bs,g2,hx,hLp,hw,hat⟩:=hI
  rw [List.drop_length] at hx
  obtain ⟨g3,H,_⟩:=agc hat L.length (Nat.le_refl _)
  have e0:cellsOf aj true (L.take L.length)++fh (L.drop L.length) (vs.drop L.length)=cellsOf aj true L:=by
   rw [List.take_length,List.drop_length]
   exact List.append_nil _
  rw [e0] at H
  refine wpIn_mono (piece vr (by kernel_rfl) hnf (by omega) hn0 (by kernel_rfl) (by rw [hp];exact axf q (L.map bq).length [some (.map (fj 0 (L.map bq))),some (.row (cellsOf aj true L) 0 0 58)]) H) ?_
  rintro ex a' w' ⟨e,S,st',g',rfl,hQ,hh,_⟩
  cases e with
  |normal=>exact hQ.elim
  |ret=>exact (by cases hQ.1)
  |exit id=>
   obtain ⟨e1,e2,rfl⟩:=hQ
   cases e1
   refine wpIn_mono (piece vr (by kernel_rfl) hnf (by omega) hn0 (by kernel_rfl) (by rw [hp];exact awo L (L.map bq) S e2 (by rw [List.length_map])) hh) ?_
   rintro ex a' w' ⟨e,S,st',g',rfl,hQ,hh,_⟩
   rw [hx]
   exact ⟨e,S,st',g',rfl,hQ,hh.cur,hh.sl,hh.Jc⟩
noncomputable def Lp (x:List ff × Unit):Option AV:=open Classical in if wo x.1 then some ((r2 (cd aj) (bc .i64)).E true (fo x.1 [])) else none
set_option maxRecDepth 2000000 in
theorem ako (x:List ff × Unit) (r:AV) (h:Lp x=some r):bu PP 28 ((aC (cd dr) a0).E x) r:=by
 by_cases hc:wo x.1
 case neg=>simp only [Lp,if_neg hc] at h;cases h
 simp only [Lp,if_pos hc] at h
 cases h
 exact Ri (body:=Tryz.f28.body.getD .skip) Tryz.func28 (by kernel_rfl) (by kernel_rfl) (Nat.le_of_ble_eq_true (by kernel_rfl)) (r2 (cd aj) (bc .i64)) true (fo x.1 []) (fun B g a w hnf hp hO hn0 hh=>atn hnf hp hO hn0 hc hh)
noncomputable abbrev azy:Nat × Bool × (List AV→M AV):=(28,true,dq (aC (cd dr) a0) Lp)
def azd (t:UInt16) (l:List aw):akm:=
 if (t.toNat:Int)=255∧0<l.length then mkT 0 l []
 else match l.find? (fun s=>decide ((s.type.toNat:Int)=t.toNat)) with
  |some x=>mkT 0 [x] []
  |none=>match l.find? (fun s=>decide ((s.type.toNat:Int)=5) && decide ((t.toNat:Int)≠255)) with
   |some x=>mkT 1 [x] (((x.data[0]?).bind fun d=>d.names[0]?).getD [])
   |none=>mkT 2 [] []
noncomputable def ay9 (z:cw) (n:Name) (t:UInt16) (s:abc):akm:=
 if s.kind=4 then mkT 4 [(aug z.an s.node 2).getD axd] []
 else if s.kind=0 then mkT 3 [] []
 else if s.kind=2 then mkT 2 [] []
 else azd t (if s.kind=3 then (atV z s.node).map (aAf n) else atV z s.node)
def aAg (a b:UInt32):UInt32:=if (a.toNat:Int)≤b.toNat then a else b
def ajb (z:cw):aw:=
 let s:=(aug z.an z.origin 6).getD axd
 ld s.owner s.type s.cls (aAg s.b7 (((s.data[0]?).bind fun d=>d.nums[4]?).getD 0)) s.data
def aze (n:Name) (s:aw):Bool:=(decide ((s.type.toNat:Int)=1) || decide ((s.type.toNat:Int)=28)) && jg s.owner n
def aut (z:cw):List Name→List Name→List aw
 |_,[]=>[]
 |pre,n::r=>(if pre.any (fun m=>jg m n)=true then [] else z.an.filter (aze n))++aut z (pre++[n]) r
def azg (z:cw) (l:List Name):List aw:=aut z [] l
def awk (l:List Name):Prop:=di bt l≤16777216
instance (l:List Name):Decidable (awk l):=inferInstanceAs (Decidable (_≤_))
def azo (s:aw):Bool:=decide ((s.type.toNat:Int)=2) || (decide ((s.type.toNat:Int)=15) || decide ((s.type.toNat:Int)=33))
def an0 (l:List bn):List Name:=l.flatMap fun d=>d.names
def at7 (s:aw):List Name:=if azo s=true then an0 s.data else []
def av3 (l:List aw):List Name:=l.flatMap at7
def ay8 (ans:List aw) (s:aw):Bool:=ans.any fun x=>decide ((x.type.toNat:Int)=s.type.toNat) && jg x.owner s.owner
def auq (z:cw) (ans l:List aw):List aw:=(azg z (av3 l)).filter fun s=>!ay8 ans s
def aAo (l:List Name) (n:Name):Bool:=l.any fun m=>jg m n
noncomputable def aos (z:cw) (t:UInt16):Nat→Name→List Name→List aw→Lj
 |0,_,_,ans=>Yi 0 true ans [] []
 |k+1,n,seen,ans=>
  let x:=ay9 z n t (al4 z n).1
  if x.turn=0 then Yi 0 true (ans++x.an) [] (auq z (ans++x.an) x.an)
  else if x.turn=3 then Yi 3 true ans [ajb z] []
  else if x.turn=2 then Yi 0 true ans [ajb z] []
  else if x.turn=4 then Yi 0 (decide (0<ans.length)) ans x.an (auq z ans x.an)
  else if jm x.to z.origin=false then Yi 0 true (ans++x.an) [] []
  else if aAo (seen++[n]) x.to=true then Yi 0 true (ans++x.an) [] []
  else aos z t k x.to (seen++[n]) (ans++x.an)
noncomputable def ofV (z:cw) (n:Name) (t:UInt16):Lj × Int:=
 if (aqa z n t).2≠0 then (Yi 0 false [] [] [],(aqa z n t).2) else (aos z t 16 n [] [],0)
def wtW (w:agb):Nat:=di N5 w.amf+(di (fun h:auv=>h.amf.length) w.azn+w.hints.length)
def axg (w:agb):Prop:=wtW w≤5242880
instance (w:agb):Decidable (axg w):=inferInstanceAs (Decidable (_≤_))
theorem ati {n:Name} (h:cp n):n.length≤16777216:=by have:=(oj n 0).2;unfold cp at h;omega
end Go.Proofs.YtifjogffkafalaaGreat
end
section
namespace Go.Proofs.YtifjogffkafalaaGreat
open Go.Vm
theorem ajt:∀ a:List UInt8,Lib.compareBytes a a=0
 | []=>rfl
 |a::r=>by rw [Lib.compareBytes,if_neg (UInt8.lt_irrefl a),if_neg (UInt8.lt_irrefl a)];exact ajt r
theorem Ir:∀ a b:List UInt8,Lib.compareBytes a b=0→a=b
 | [],[],_=>rfl
 | [],_::_,h=>by cases h
 |_::_,[],h=>by cases h
 |a::r,b::q,h=>by
  rw [Lib.compareBytes] at h
  split at h
  ·cases h
  ·rename_i h1
   split at h
   ·cases h
   ·rename_i h2
    rw [UInt8.lt_iff_toNat_lt] at h1 h2
    rw [UInt8.toNat_inj.1 (show a.toNat=b.toNat by omega),Ir r q h]
theorem Sh:∀ a b c:List UInt8,Lib.compareBytes a b<0→Lib.compareBytes b c<0→Lib.compareBytes a c<0
 |_,[],[],_,h=>by cases h
 |_,_::_,[],_,h=>by cases h
 | [],_,_::_,_,_=>by show (-1:Int)<0;decide
 |_::_,[],_::_,h,_=>by cases h
 |a::r,b::q,c::p,h1,h2=>by
  have ih:=Sh r q p
  rw [Lib.compareBytes] at h1 h2 ⊢
  simp only [UInt8.lt_iff_toNat_lt] at h1 h2 ⊢
  split at h1
  ·split at h2
   ·rw [if_pos (by omega)];decide
   ·split at h2
    ·cases h2
    ·rw [if_pos (by omega)];decide
  ·split at h1
   ·cases h1
   ·split at h2
    ·rw [if_pos (by omega)];decide
    ·split at h2
     ·cases h2
     ·rw [if_neg (by omega),if_neg (by omega)];exact ih h1 h2
theorem Ce:∀ a b:List UInt8,Lib.compareBytes a b = - Lib.compareBytes b a
 | [],[]=>rfl
 | [],_::_=>rfl
 |_::_,[]=>rfl
 |a::r,b::q=>by
  have ih:=Ce r q
  rw [Lib.compareBytes,Lib.compareBytes]
  simp only [UInt8.lt_iff_toNat_lt]
  by_cases h1:a.toNat<b.toNat
  ·rw [if_pos h1,if_neg (show ¬ b.toNat<a.toNat by omega),if_pos h1]
  ·by_cases h2:b.toNat<a.toNat
   ·rw [if_neg h1,if_pos h2,if_pos h2];rfl
   ·rw [if_neg h1,if_neg h2,if_neg h2,if_neg h1];exact ih
theorem ape (a:ByteArray):Bs a a=0:=ajt _
theorem ars {a b:ByteArray} (h:Bs a b=0):a=b:=by
 have:=Ir _ _ h
 obtain ⟨⟨a⟩⟩:=a
 obtain ⟨⟨b⟩⟩:=b
 simp only at this
 rw [this]
noncomputable def pd:List ByteArray→List ByteArray→Int
 | [],[]=>0
 | [],_::_=>-1
 |_::_,[]=>1
 |a::r,b::q=>if a=b then pd r q else Bs a b
theorem Zw:∀ r q:List ByteArray,pd r q=0↔r=q
 | [],[]=>by simp [pd]
 | [],_::_=>by simp [pd]
 |_::_,[]=>by simp [pd]
 |a::r,b::q=>by
  rw [pd]
  split
  ·rename_i h;rw [Zw r q,h];simp
  ·rename_i h
   constructor
   ·intro e;exact (h (ars e)).elim
   ·intro e;exact (h (List.cons.inj e).1).elim
theorem T4:∀ r q p:List ByteArray,pd r q<0→pd q p<0→pd r p<0
 |_,[],[],_,h=>by rw [pd] at h;cases h
 |_,_::_,[],_,h=>by rw [pd] at h;cases h
 | [],_,_::_,_,_=>by rw [pd];decide
 |_::_,[],_::_,h,_=>by rw [pd] at h;cases h
 |a::r,b::q,c::p,h1,h2=>by
  have ih:=T4 r q p
  rw [pd] at h1 h2 ⊢
  by_cases e1:a=b
  ·subst e1
   rw [if_pos rfl] at h1
   by_cases e2:a=c
   ·rw [if_pos e2] at h2 ⊢;exact ih h1 h2
   ·rw [if_neg e2] at h2 ⊢;exact h2
  ·rw [if_neg e1] at h1
   by_cases e2:b=c
   ·subst e2
    rw [if_neg e1];exact h1
   ·rw [if_neg e2] at h2
    have h3:Bs a c<0:=Sh _ _ _ h1 h2
    rw [if_neg (fun e=>by rw [e,ape] at h3;cases h3)];exact h3
theorem Y2:∀ r q:List ByteArray,pd r q = - pd q r
 | [],[]=>by simp [pd]
 | [],_::_=>by simp [pd]
 |_::_,[]=>by simp [pd]
 |a::r,b::q=>by
  rw [pd,pd]
  by_cases e:a=b
  ·rw [if_pos e,if_pos e.symm];exact Y2 r q
  ·rw [if_neg e,if_neg (fun q=>e q.symm)];exact Ce _ _
theorem agh:∀ r q:List ByteArray,(if fk r q=r.length∧fk r q=q.length then (0:Int) else if fk r q=r.length then -1 else if fk r q=q.length then 1 else
 match r[fk r q]?,q[fk r q]? with|some x,some y=>Bs (fold x) (fold y)|_,_=>0)=pd (r.map fold) (q.map fold)
 | [],[]=>by simp [fk,pd]
 | [],_::_=>by simp [fk,pd]
 |_::_,[]=>by simp [fk,pd]
 |a::r,b::q=>by
  have ih:=agh r q
  rw [List.map_cons,List.map_cons,pd]
  by_cases e:fold a=fold b
  ·rw [if_pos e,← ih]
   have hc:fk (a::r) (b::q)=fk r q+1:=by rw [fk,if_pos e]
   simp only [hc,List.length_cons,Nat.add_right_cancel_iff,List.getElem?_cons_succ]
  ·rw [if_neg e]
   have hc:fk (a::r) (b::q)=0:=by rw [fk,if_neg e]
   simp only [hc,List.length_cons,List.getElem?_cons_zero]
   rw [if_neg (by omega),if_neg (by omega),if_neg (by omega)]
theorem C8 (a b:Name):qk a b=pd (fw a).reverse (fw b).reverse:=by
 have h:=agh a.reverse b.reverse
 rw [List.map_reverse,List.map_reverse,List.length_reverse,List.length_reverse] at h
 unfold qk
 change _=pd (a.map fold).reverse (b.map fold).reverse
 rw [← h]
 have hk:common a b=fk a.reverse b.reverse:=rfl
 rw [hk]
 by_cases h1:fk a.reverse b.reverse=a.length∧fk a.reverse b.reverse=b.length
 ·rw [if_pos h1,if_pos h1]
 rw [if_neg h1,if_neg h1]
 by_cases h2:fk a.reverse b.reverse=a.length
 ·rw [if_pos h2,if_pos h2]
 rw [if_neg h2,if_neg h2]
 by_cases h3:fk a.reverse b.reverse=b.length
 ·rw [if_pos h3,if_pos h3]
 rw [if_neg h3,if_neg h3]
 have l1:=F8 a.reverse b.reverse
 have l2:=Jh a.reverse b.reverse
 rw [List.length_reverse] at l1 l2
 unfold al8
 rw [List.getElem?_reverse (by omega),List.getElem?_reverse (by omega)]
 rfl
theorem uy {a b:Name}:qk a b=0↔jg a b=true:=by
 rw [C8,Zw,oe]
 constructor
 ·intro h;have:=congrArg List.reverse h;simpa using this
 ·intro h;rw [h]
theorem Kk {a b c:Name} (h:jg b c=true):qk a b=qk a c:=by rw [C8,C8,oe.1 h]
theorem Po {a b c:Name} (h:jg a b=true):qk a c=qk b c:=by rw [C8,C8,oe.1 h]
theorem Su {a b c:Name} (h1:qk a b<0) (h2:qk b c<0):qk a c<0:=by rw [C8] at *;exact T4 _ _ _ h1 h2
theorem G9 (a b:Name):qk a b = - qk b a:=by rw [C8,C8];exact Y2 _ _
theorem aix {a b:UInt16}:uk a b<0↔a.toNat<b.toNat:=by
 unfold uk
 split
 ·constructor<;>intro<;>omega
 ·split<;>constructor<;>intro<;>omega
theorem Hn {a b:aw}:s6 a b<0↔qk a.owner b.owner<0∨(jg a.owner b.owner=true∧a.type.toNat<b.type.toNat):=by
 unfold s6
 rw [Dz]
 by_cases h:qk a.owner b.owner=0
 ·rw [if_neg (fun q=>q h),Dz,← uy]
  by_cases h2:uk a.type b.type=0
  ·rw [if_neg (fun q=>q h2),Dz,← aix,h,h2];simp
  ·rw [if_pos h2,aix,h];simp
 ·rw [if_pos h,← uy];simp [h]
theorem akv {a b c:aw} (h1:s6 a b<0) (h2:s6 b c<0):s6 a c<0:=by
 rw [Hn] at *
 rcases h1 with h1|⟨h1,t1⟩<;>rcases h2 with h2|⟨h2,t2⟩
 ·exact .inl (Su h1 h2)
 ·exact .inl (by rw [← Kk h2];exact h1)
 ·exact .inl (by rw [Po h1];exact h2)
 ·exact .inr ⟨oe.2 ((oe.1 h1).trans (oe.1 h2)),by omega⟩
def aqy (a b:aw):Prop:=¬ (jg a.owner b.owner=true∧a.type=b.type)
theorem as4 {a b:aw} (h:s6 a b<0):aqy a b:=fun ⟨h1,h2⟩=>by
 rcases Hn.1 h with h3|⟨_,h3⟩
 ·rw [uy.2 h1] at h3;omega
 ·rw [h2] at h3;omega
theorem P6 {z:cw} (hg:akt z):z.an.Pairwise fun a b=>s6 a b<0:=by
 rw [List.pairwise_iff_getElem]
 have step:∀ (i:Nat) (h:i+1<z.an.length),s6 z.an[i] z.an[i+1]<0:=fun i h=>by
  have:=hg.auj (i+1) z.an[i+1] (List.getElem?_eq_getElem h)
  unfold kq at this
  simp only [List.getElem?_eq_getElem (show i<z.an.length by omega),Bool.and_eq_true,decide_eq_true_eq] at this
  omega
 intro i j hi hj hij
 induction j with
 |zero=>omega
 |succ j ih=>
  by_cases e:i=j
  ·subst e;exact step i hj
  ·exact akv (ih (by omega) (by omega)) (step j hj)
theorem anj {z:cw} (hg:akt z):z.an.Pairwise aqy:=(P6 hg).imp as4
end Go.Proofs.YtifjogffkafalaaGreat
end
section
namespace Go.Proofs.YtifjogffkafalaaGreat
open Go.Vm
set_option maxRecDepth 2000000
theorem an9 (t:UInt16):wl PP [] 0 (Tryz.f97.body.getD .skip) (du PP Tryz.f97.results.toList (fun r st=>(r1 bw).get true st.h r=some false)) (cg 0 [cz.val false t]) (bb []):=by
 unfold Tryz.f97
 simp only [↓wR,RA,simprocAttr,TF,ae,bne_self_eq_false]
noncomputable def Xh (x:UInt16 × Unit):Option AV:=some ((r1 bw).E true (false))
set_option maxRecDepth 2000000 in
theorem ahx (x:UInt16 × Unit) (r:AV) (h:Xh x=some r):bu PP 97 ((aC cz a0).E x) r:=by
 cases h
 exact bk (aq.nil PP) Tryz.func97 (by kernel_rfl) (by kernel_rfl) (by kernel_rfl) (Nat.le_of_ble_eq_true (by kernel_rfl)) (r1 bw) true (false) (an9 x.1)
noncomputable abbrev ayj:Nat × Bool × (List AV→M AV):=(97,true,dq (aC cz a0) Xh)
theorem awe (a b:UInt16):wl PP [ayj] 0 (Tryz.f79.body.getD .skip) (du PP Tryz.f79.results.toList (fun r st=>(r1 (bc .i64)).get true st.h r=some (uk a b))) (cg 0 [cz.val false a,cz.val false b]) (bb []):=by
 unfold Tryz.f79
 unfold uk
 simp only [↓wR,RA,simprocAttr,TF,ae,Xh]
 rw [bj];refine ⟨fun h=>?_,fun h=>?_⟩
 ·rw [if_pos h]
  simp only [↓wR,RA,simprocAttr,TF,ae,h]
 ·rw [if_neg h]
  simp only [↓wR,RA,simprocAttr,TF,ae,h]
  rw [bj];refine ⟨fun h2=>?_,fun h2=>?_⟩
  ·rw [if_pos h2]
   simp only [↓wR,RA,simprocAttr,TF,ae,h2]
  ·rw [if_neg h2]
   simp only [↓wR,RA,simprocAttr,TF,ae,h2]
noncomputable def agd (x:UInt16 × UInt16 × Unit):Option AV:=some ((r1 (bc .i64)).E true (uk x.1 x.2.1))
set_option maxRecDepth 2000000 in
theorem alc (x:UInt16 × UInt16 × Unit) (r:AV) (h:agd x=some r):bu PP 79 ((aC cz (aC cz a0)).E x) r:=by
 cases h
 exact bk (aq.cons (ar ahx) (aq.nil PP)) Tryz.func79 (by kernel_rfl) (by kernel_rfl) (by kernel_rfl) (Nat.le_of_ble_eq_true (by kernel_rfl)) (r1 (bc .i64)) true (uk x.1 x.2.1) (awe x.1 x.2.1)
noncomputable abbrev azb:Nat × Bool × (List AV→M AV):=(79,true,dq (aC cz (aC cz a0)) agd)
noncomputable def xt (a b:aw):Int:=Dz [qk a.owner b.owner,uk a.type b.type,uk a.cls b.cls]
theorem ahm (a b:aw) (ha:de a) (hb:de b):wl PP [Py,aum,azb,orC] 0 (Tryz.f78.body.getD .skip) (du PP Tryz.f78.results.toList (fun r st=>(r1 (bc .i64)).get true st.h r=some (xt a b))) (cg 0 [aj.val false a,aj.val false b]) (bb []):=by
 have hq:∀ a b c d,c0 a b c=d→c0 a b c=d:=fun _ _ _ _ h=>h
 unfold Tryz.f78
 simp only [jn]
 simp only [↓wR,RA,simprocAttr,TF,ae]
 refine ⟨by kernel_rfl,.inl ?_⟩
 simp only [↓wR,RA,simprocAttr,TF,ae,ui,Ur,agd,Wh,ha.owner,hb.owner]
 exact ⟨by apply hq;kernel_rfl,rfl⟩
noncomputable def m6 (x:aw × aw × Unit):Option AV:=if de x.1∧de x.2.1 then some ((r1 (bc .i64)).E true (xt x.1 x.2.1)) else none
set_option maxRecDepth 2000000 in
theorem Kq (x:aw × aw × Unit) (r:AV) (h:m6 x=some r):bu PP 78 ((aC aj (aC aj a0)).E x) r:=by
 by_cases hc:de x.1∧de x.2.1
 case neg=>simp only [m6,if_neg hc] at h;cases h
 simp only [m6,if_pos hc] at h
 cases h
 exact bk (aq.cons (ar E7) (aq.cons (ar S2) (aq.cons (ar alc) (aq.cons (ar adk) (aq.nil PP))))) Tryz.func78 (by kernel_rfl) (by kernel_rfl) (by kernel_rfl) (Nat.le_of_ble_eq_true (by kernel_rfl)) (r1 (bc .i64)) true (xt x.1 x.2.1) (ahm x.1 x.2.1 hc.1 hc.2)
noncomputable abbrev acw:Nat × Bool × (List AV→M AV):=(78,true,dq (aC aj (aC aj a0)) m6)
noncomputable def eh (a b:aw):Bool:=decide (xt a b<0)
theorem N2 {a b:UInt16}:uk a b=0↔a.toNat=b.toNat:=by
 unfold uk;split
 ·constructor<;>intro h<;>omega
 ·split<;>constructor<;>intro h<;>omega
theorem acq {a b:UInt16}:uk a b<0↔a.toNat<b.toNat:=by
 unfold uk;split
 ·constructor<;>intro h<;>omega
 ·split<;>constructor<;>intro h<;>omega
theorem aa8 {a b:aw}:xt a b<0↔qk a.owner b.owner<0∨(jg a.owner b.owner=true∧(a.type.toNat<b.type.toNat∨(a.type.toNat=b.type.toNat∧a.cls.toNat<b.cls.toNat))):=by
 unfold xt Dz
 by_cases h:qk a.owner b.owner=0
 ·rw [if_neg (fun q=>q h)]
  have hs:=uy.1 h
  unfold Dz
  by_cases h2:uk a.type b.type=0
  ·rw [if_neg (fun q=>q h2)]
   have h3:=N2.1 h2
   unfold Dz
   by_cases h4:uk a.cls b.cls=0
   ·have h5:=N2.1 h4
    rw [if_neg (fun q=>q h4)]
    unfold Dz
    constructor
    ·intro q;omega
    ·rintro (q|⟨_,q|q⟩)<;>omega
   ·rw [if_pos h4,acq]
    constructor
    ·intro q;exact .inr ⟨hs,.inr ⟨h3,q⟩⟩
    ·rintro (q|⟨_,q|q⟩)<;>omega
  ·rw [if_pos h2,acq]
   have h3:a.type.toNat≠b.type.toNat:=fun q=>h2 (N2.2 q)
   constructor
   ·intro q;exact .inr ⟨hs,.inl q⟩
   ·rintro (q|⟨_,q|q⟩)<;>omega
 ·rw [if_pos h]
  constructor
  ·intro q;exact .inl q
  ·rintro (q|⟨q,_⟩)
   ·exact q
   ·exact (h (uy.2 q)).elim
theorem Km {a b:Name} (h:jg a b=true):jg b a=true:=oe.2 (oe.1 h).symm
theorem asv {a b c:Name} (h:jg a b=true) (k:jg b c=true):jg a c=true:=oe.2 ((oe.1 h).trans (oe.1 k))
theorem J2 (a b:Name):qk a b<0∨jg a b=true∨qk b a<0:=by
 have h:=G9 a b
 by_cases h1:qk a b=0
 ·exact .inr (.inl (uy.1 h1))
 ·omega
theorem Oc:vk eh (fun _=>True):=by
 have flip:∀ a b:aw,xt a b<0→¬ xt b a<0:=by
  intro a b h k
  rw [aa8] at h k
  have e:=G9 a.owner b.owner
  rcases h with h|⟨h,h'⟩<;>rcases k with k|⟨k,k'⟩
  ·omega
  ·have:=uy.2 k;omega
  ·have:=uy.2 h;omega
  ·omega
 refine ⟨fun x y _ _ h=>?_,fun x y z _ _ _ h k=>?_⟩
 ·unfold eh at *
  exact decide_eq_false (flip x y (of_decide_eq_true h))
 ·unfold eh at *
  have h:=of_decide_eq_false h
  have k:=of_decide_eq_false k
  refine decide_eq_false fun q=>?_
  rw [aa8] at h k q
  rcases q with q|⟨q,q'⟩
  ·rcases J2 x.owner y.owner with e|e|e
   ·rcases J2 y.owner z.owner with f|f|f
    ·have:=Su e f;have:=G9 z.owner x.owner;omega
    ·have:=Kk (a:=x.owner) f;have:=G9 z.owner x.owner;omega
    ·exact k (.inl f)
   ·rw [← Kk (a:=z.owner) (Km e)] at q
    exact k (.inl q)
   ·exact h (.inl e)
  ·rcases J2 x.owner y.owner with e|e|e
   ·have h1:qk z.owner y.owner<0:=by rw [Po q];exact e
    exact k (.inl h1)
   ·have h1:jg z.owner y.owner=true:=asv q e
    have h2:¬ (y.type.toNat<x.type.toNat∨y.type.toNat=x.type.toNat∧y.cls.toNat<x.cls.toNat):=fun p=>h (.inr ⟨Km e,p⟩)
    have h3:¬ (z.type.toNat<y.type.toNat∨z.type.toNat=y.type.toNat∧z.cls.toNat<y.cls.toNat):=fun p=>k (.inr ⟨h1,p⟩)
    omega
   ·exact h (.inl e)
theorem pv:vk eh de:=⟨fun x y _ _ h=>Oc.Ws x y trivial trivial h,fun x y z _ _ _ h k=>Oc.trans x y z trivial trivial trivial h k⟩
theorem aet (a b:bn) (s:aw) (ha:da a) (hb:da b):wl PP [Cv] 0 (Tryz.f81.body.getD .skip) (du PP Tryz.f81.results.toList (fun r st=>(r1 (bc .i64)).get true st.h r=some (ym s.type a b))) (cg 0 [ak.val false a,ak.val false b,.iw (aj.cells false s)]) (bb []):=by
 have hq:∀ a b c d,c0 a b c=d→c0 a b c=d:=fun _ _ _ _ h=>h
 unfold Tryz.f81
 simp only [nc]
 simp only [↓wR,RA,simprocAttr,TF,ae,aaj,m8,ha,hb]
noncomputable def m5 (x:bn × bn × aw × Unit):Option AV:=if da x.1∧da x.2.1 then some ((r1 (bc .i64)).E true (ym x.2.2.1.type x.1 x.2.1)) else none
set_option maxRecDepth 2000000 in
theorem K8 (x:bn × bn × aw × Unit) (r:AV) (h:m5 x=some r):bu PP 81 ((aC ak (aC ak (aP aj a0))).E x) r:=by
 by_cases hc:da x.1∧da x.2.1
 case neg=>simp only [m5,if_neg hc] at h;cases h
 simp only [m5,if_pos hc] at h
 cases h
 exact bk (aq.cons (ar zm) (aq.nil PP)) Tryz.func81 (by kernel_rfl) (by kernel_rfl) (by kernel_rfl) (Nat.le_of_ble_eq_true (by kernel_rfl)) (r1 (bc .i64)) true (ym x.2.2.1.type x.1 x.2.1) (aet x.1 x.2.1 x.2.2.1 hc.1 hc.2)
noncomputable abbrev aei:Nat × Bool × (List AV→M AV):=(81,true,dq (aC ak (aC ak (aP aj a0))) m5)
noncomputable def fe (t:UInt16) (a b:bn):Bool:=decide (ym t a b<0)
def tx (t:UInt16) (d:bn):Prop:=da d∧c7 t d=0
theorem aa4 (s:ByteArray):jy (fold s)=jy s:=by unfold jy;rw [G6]
theorem K1 (n:Name):cy (fw n)=cy n:=by
 have h:su (fw n)=su n:=by
  unfold su fw
  rw [List.any_map]
  congr 1
  funext s
  simp only [Function.comp,aa4]
 unfold cy
 rw [h,yf]
theorem aap (l:List Name):qv (l.map fw)=qv l:=by
 induction l with
 |nil=>rfl
 |cons a l ih=>simp only [List.map_cons,qv,K1,ih]
theorem afq (n:Name) (h:cy n=0):(ua n).length=bt n:=by
 unfold ua
 rw [if_neg (by omega)]
 unfold nameBytes
 rw [List.length_append,List.length_singleton,sy]
theorem Ky:∀ {l:List Name},qv l=0→∀ n ∈ l,cy n=0
 | [],_,n,h=>by cases h
 |a::l,e,n,h=>by
  rw [qv] at e
  split at e
  ·contradiction
  ·rename_i q
   rcases List.mem_cons.1 h with rfl|h
   ·omega
   ·exact Ky e n h
theorem aua {l:List Name} (h:∀ n ∈ l,cy n=0):((l.map fw).flatMap ua).length=(l.flatMap ua).length:=by
 induction l with
 |nil=>rfl
 |cons a l ih=>
  have ha:=h a List.mem_cons_self
  rw [List.map_cons,List.flatMap_cons,List.flatMap_cons,List.length_append,List.length_append,ih fun n hn=>h n (List.mem_cons_of_mem _ hn),afq _ (by rw [K1];exact ha),afq _ ha,yf]
theorem Nf {t:UInt16} {d:bn} (h:c7 t d=0):c7 t (jo t d)=0:=by
 unfold jo
 split
 case isFalse=>exact h
 unfold c7 at h ⊢
 split at h
 ·cases h
 rename_i h1
 split at h
 ·cases h
 rename_i h2
 split at h
 ·contradiction
 rename_i h3
 have h4:=Ky (Decidable.not_not.1 h3)
 rw [if_neg h1,if_neg (by
  unfold Cq at h2 ⊢
  simpa only [List.length_map] using h2),if_neg (by rw [aap];exact h3)]
 have h5:(Ad t { d with names:=d.names.map fw }).length=(Ad t d).length:=by
  unfold Ad Af Ci yz
  split<;>simp only [List.length_append,aua h4]
 rw [h5];exact h
theorem tc {t:UInt16} {a b:bn} (ha:c7 t a=0) (hb:c7 t b=0):ym t a b=Dt (kx t (jo t a)) (kx t (jo t b)):=by
 unfold ym
 rw [if_neg (by rw [Nf ha,Nf hb];simp)]
theorem o0 (t:UInt16):vk (fe t) (tx t):=by
 refine ⟨fun x y hx hy h=>?_,fun x y z hx hy hz h k=>?_⟩
 ·unfold fe at *
  have h:=of_decide_eq_true h
  refine decide_eq_false fun q=>?_
  rw [tc hx.2 hy.2] at h
  rw [tc hy.2 hx.2] at q
  have:=Ce (kx t (jo t x)) (kx t (jo t y))
  unfold Dt at *
  omega
 ·unfold fe at *
  have h:=of_decide_eq_false h
  have k:=of_decide_eq_false k
  refine decide_eq_false fun q=>?_
  rw [tc hy.2 hx.2] at h
  rw [tc hz.2 hy.2] at k
  rw [tc hz.2 hx.2] at q
  unfold Dt at *
  have f1:=Ce (kx t (jo t x)) (kx t (jo t y))
  have f2:=Ce (kx t (jo t y)) (kx t (jo t z))
  by_cases e:Lib.compareBytes (kx t (jo t x)) (kx t (jo t y))=0
  ·rw [Ir _ _ e] at q;exact k q
  ·have:=Sh _ _ _ q (show Lib.compareBytes (kx t (jo t x)) (kx t (jo t y))<0 by omega)
   exact k this
theorem Dr (s:aw) (N a b n:Nat) (A P M Q Z:List bn) (hN:N=(A++P++M++Q++Z).length) (hs:N≤1048576) (ha:a=A.length) (hp:n=P.length) (hq:n=Q.length) (hb:b=a+n+M.length) :
 gp PP 113 [.sl 0 0 N 4,.sc (.int .i64 (a)),.sc (.int .i64 (b)),.sc (.int .i64 (n)),(.fn (.func 81) [] [.ptr 1 0])] (bb [some (.row (cellsOf ak true ((A++P++M++Q++Z))) 0 0 44),some (.row [.vl false 1 (s.owner.map (ai.val false)),.sc (.int .u16 s.type.toNat),.sc (.int .u16 s.cls.toNat),.sc (.int .u32 s.b7.toNat),.vl false 4 (s.data.map (ak.val false))] 0 2 58)])
  (fun r st'=>r = .fc []∧st'=bb [some (.row (cellsOf ak true ((A++Q++M++P++Z))) 0 0 44),some (.row [.vl false 1 (s.owner.map (ai.val false)),.sc (.int .u16 s.type.toNat),.sc (.int .u16 s.cls.toNat),.sc (.int .u32 s.b7.toNat),.vl false 4 (s.data.map (ak.val false))] 0 2 58)]):=by
 have hc:∀ a b c d,c0 a b c=d→c0 a b c=d:=fun _ _ _ _ h=>h
 have hlen:N=A.length+P.length+M.length+Q.length+Z.length:=by rw [hN];simp;omega
 refine ct _ rfl ?_ (fun r st' h=>h)
 refine bm (T:=[]) (aq.nil PP) mixed Tryz.func113 rfl (by kernel_rfl) (by kernel_rfl) (by kernel_rfl) (by kernel_rfl) ?_;unfold Tryz.f113
 simp only [↓wR,RA,simprocAttr,TF,ae]
 refine c8 [0,1,2,3,10] (fun (i:Nat)=>[.sl 0 0 N 4,.sc (.int .i64 (a)),.sc (.int .i64 (b)),.sc (.int .i64 (n)),.sc (.int .i64 (i))]) (fun i=>[some (.row (cellsOf ak true ((A++Q.take i++P.drop i++M++P.take i++Q.drop i++Z))) 0 0 44),some (.row [.vl false 1 (s.owner.map (ai.val false)),.sc (.int .u16 s.type.toNat),.sc (.int .u16 s.cls.toNat),.sc (.int .u32 s.b7.toNat),.vl false 4 (s.data.map (ak.val false))] 0 2 58)]) (fun i=>i≤n) (fun i=>n - i) 0 (Nat.zero_le _) (by simp only [↓wR,RA,simprocAttr,TF,ae]<;>simp) (by simp only [↓wR,RA,simprocAttr,TF,ae]<;>simp) ?_
 intro i hi
 simp only [↓wR,RA,simprocAttr,TF,ae]
 rw [bj];refine ⟨fun h=>?_,fun h=>?_⟩
 ·have hlt:i<n:=by omega
  obtain ⟨p,hpp⟩:∃ p,P[i]? = some p:=⟨_,List.getElem?_eq_getElem (by omega)⟩
  obtain ⟨q,hqq⟩:∃ q,Q[i]? = some q:=⟨_,List.getElem?_eq_getElem (by omega)⟩
  obtain ⟨X,hX⟩:∃ X,X=A++Q.take i:=⟨_,rfl⟩
  obtain ⟨Y,hY⟩:∃ Y,Y=P.drop (i+1)++M++P.take i:=⟨_,rfl⟩
  obtain ⟨W,hW⟩:∃ W,W=Q.drop (i+1)++Z:=⟨_,rfl⟩
  have hx1:X.length=a+i:=by rw [hX,List.length_append,List.length_take];omega
  have hy1:Y.length=n - 1+M.length:=by rw [hY];simp;omega
  have hpd:P.drop i=p::P.drop (i+1):=by obtain ⟨_,rfl⟩:=List.getElem?_eq_some_iff.1 hpp;exact List.drop_eq_getElem_cons _
  have hqd:Q.drop i=q::Q.drop (i+1):=by obtain ⟨_,rfl⟩:=List.getElem?_eq_some_iff.1 hqq;exact List.drop_eq_getElem_cons _
  have hpt:P.take (i+1)=P.take i++[p]:=by rw [List.take_add_one,hpp];rfl
  have hqt:Q.take (i+1)=Q.take i++[q]:=by rw [List.take_add_one,hqq];rfl
  have hcur:A++Q.take i++P.drop i++M++P.take i++Q.drop i++Z=X++p::(Y++q::W):=by rw [hX,hY,hW,hpd,hqd];simp
  have gi:A++Q.take (i+1)++P.drop (i+1)++M++P.take (i+1)++Q.drop (i+1)++Z=X++q::(Y++p::W):=by rw [hX,hY,hW,hpt,hqt];simp
  have hi1:(a:Int)+i=((a+i:Nat):Int):=by omega
  have hi2:(b:Int)+i=((b+i:Nat):Int):=by omega
  have g1:(X++p::(Y++q::W))[a+i]? = some p:=by rw [← hx1];exact get_at X _ p
  have hxy:(X++p::Y).length=b+i:=by rw [List.length_append,List.length_cons,hx1,hy1];omega
  have g2:(X++p::(Y++q::W))[b+i]? = some q:=by
   have:=get_at (X++p::Y) W q
   rw [hxy] at this
   rw [← this];simp
  have s1:(X++p::(Y++q::W)).set (a+i) q=X++q::(Y++q::W):=by rw [← hx1];exact qz X _ p q
  have g3:(X++q::(Y++q::W))[b+i]? = some q:=by
   have:=get_at (X++q::Y) W q
   rw [show (X++q::Y).length=b+i by rw [← hxy];simp] at this
   rw [← this];simp
  have s2:(X++q::(Y++q::W)).set (b+i) p=X++q::(Y++p::W):=by
   have:=qz (X++q::Y) W q p
   rw [show (X++q::Y).length=b+i by rw [← hxy];simp] at this
   simpa using this
  have l1:=kn 0 0 44 g1
  have l2:=kn 0 0 44 g2
  have t1:=tl q 0 44 0 g1
  have t2:=tl p 0 44 0 g3
  rw [s1] at t1
  rw [s2] at t2
  rw [hcur]
  simp only [↓wR,RA,simprocAttr,TF,ae,h,hi1,hi2,↓l1,↓l2,↓t1,↓t2];repeat (simp (disch:=omega) only [ah,bh,bf,bg,be];try simp only [↓wR,RA,simprocAttr,TF,ae,h,hi1,hi2,↓l1,↓l2,↓t1,↓t2])
  refine ⟨by kernel_rfl,.inl ?_⟩
  exact ⟨by apply hc;kernel_rfl,i+1,hlt,by omega,by (first|rfl|trivial|omega|((try (simp (disch:=omega) only [ah]));(try (simp only [FB]));first|done|rfl|omega)),by rw [gi]⟩
 ·have hin:i=n:=by omega
  subst hin
  have e1:Q.take i=Q:=by rw [hq,List.take_length]
  have e2:P.drop i=[]:=by rw [hp,List.drop_length]
  have e3:P.take i=P:=by rw [hp,List.take_length]
  have e4:Q.drop i=[]:=by rw [hq,List.drop_length]
  rw [e1,e2,e3,e4]
  simp only [↓wR,RA,simprocAttr,TF,ae,h,gn,fy,fp,List.append_nil]
theorem aci (s:aw) (N a m b:Nat) (A L R Z:List bn) (hN:N=(A++L++R++Z).length) (hs:N≤1048576) (ha:a=A.length) (hm:m=a+L.length) (hb:b=m+R.length) (hl : 0<L.length) (hr : 0<R.length) :
 gp PP 110 [.sl 0 0 N 4,.sc (.int .i64 (a)),.sc (.int .i64 (m)),.sc (.int .i64 (b)),(.fn (.func 81) [] [.ptr 1 0])] (bb [some (.row (cellsOf ak true ((A++L++R++Z))) 0 0 44),some (.row [.vl false 1 (s.owner.map (ai.val false)),.sc (.int .u16 s.type.toNat),.sc (.int .u16 s.cls.toNat),.sc (.int .u32 s.b7.toNat),.vl false 4 (s.data.map (ak.val false))] 0 2 58)])
  (fun r st'=>r = .fc []∧st'=bb [some (.row (cellsOf ak true ((A++R++L++Z))) 0 0 44),some (.row [.vl false 1 (s.owner.map (ai.val false)),.sc (.int .u16 s.type.toNat),.sc (.int .u16 s.cls.toNat),.sc (.int .u32 s.b7.toNat),.vl false 4 (s.data.map (ak.val false))] 0 2 58)]):=by
 have hlen:N=A.length+L.length+R.length+Z.length:=by rw [hN];simp;omega
 refine ct _ rfl ?_ (fun r st' h=>h)
 refine bm (T:=[]) (aq.nil PP) mixed Tryz.func110 rfl (by kernel_rfl) (by kernel_rfl) (by kernel_rfl) (by kernel_rfl) ?_;unfold Tryz.f110
 have hi1:(m:Int) - a=((L.length:Nat):Int):=by omega
 have hi2:(b:Int) - m=((R.length:Nat):Int):=by omega
 simp only [↓wR,RA,simprocAttr,TF,ae,hi1,hi2];repeat (simp (disch:=omega) only [ah,bh,bf,bg,be];try simp only [↓wR,RA,simprocAttr,TF,ae,hi1,hi2])
 refine c8 [0,2,4,10,11] (fun (x:List bn × List bn × List bn × List bn)=>[.sl 0 0 N 4,.sc (.int .i64 (m)),(.fn (.func 81) [] [.ptr 1 0]),.sc (.int .i64 (x.2.1.length)),.sc (.int .i64 (x.2.2.1.length))]) (fun x=>[some (.row (cellsOf ak true ((x.1++x.2.1++x.2.2.1++x.2.2.2))) 0 0 44),some (.row [.vl false 1 (s.owner.map (ai.val false)),.sc (.int .u16 s.type.toNat),.sc (.int .u16 s.cls.toNat),.sc (.int .u32 s.b7.toNat),.vl false 4 (s.data.map (ak.val false))] 0 2 58)]) (fun x=>x.1++x.2.2.1++x.2.1++x.2.2.2=A++R++L++Z∧x.1.length+x.2.1.length=m∧0<x.2.1.length∧0<x.2.2.1.length) (fun x=>x.2.1.length+x.2.2.1.length) (A,L,R,Z) ⟨rfl,by show A.length+L.length=m;omega,hl,hr⟩ (by simp only [↓wR,RA,simprocAttr,TF,ae]<;>rfl) (by simp only [↓wR,RA,simprocAttr,TF,ae]<;>rfl) ?_
 rintro ⟨A',P,Q,Z'⟩ ⟨h1,h2,h3,h4⟩
 have h5:=congrArg List.length h1
 simp only [List.length_append] at h1 h2 h3 h4 h5
 simp only []
 simp only [↓wR,RA,simprocAttr,TF,ae]
 rw [ed];refine ⟨fun ⟨h,e⟩=>?_,fun ⟨h,e⟩=>?_⟩
 ·have hne:P.length≠Q.length:=by omega
  simp only [↓wR,RA,simprocAttr,TF,ae,h]
  have hi3:(m:Int) - P.length=((A'.length:Nat):Int):=by omega
  rw [bj];refine ⟨fun hg=>?_,fun hg=>?_⟩
  ·have hlt:Q.length<P.length:=by omega
   obtain ⟨P1,hP1⟩:∃ P1,P1=P.take Q.length:=⟨_,rfl⟩
   obtain ⟨P2,hP2⟩:∃ P2,P2=P.drop Q.length:=⟨_,rfl⟩
   have hp:P=P1++P2:=by rw [hP1,hP2,List.take_append_drop]
   have hl1:P1.length=Q.length:=by rw [hP1,List.length_take];omega
   have hl2:P2.length=P.length - Q.length:=by rw [hP2,List.length_drop]
   have hi4:(P.length:Int) - Q.length=((P2.length:Nat):Int):=by omega
   simp only [↓wR,RA,simprocAttr,TF,ae,hg,hi3];repeat (simp (disch:=omega) only [ah,bh,bf,bg,be];try simp only [↓wR,RA,simprocAttr,TF,ae,hg,hi3])
   refine ee (R0:=fun r st'=>r = .fc []∧st'=bb [some (.row (cellsOf ak true ((A'++Q++P2++P1++Z'))) 0 0 44),some (.row [.vl false 1 (s.owner.map (ai.val false)),.sc (.int .u16 s.type.toNat),.sc (.int .u16 s.cls.toNat),.sc (.int .u32 s.b7.toNat),.vl false 4 (s.data.map (ak.val false))] 0 2 58)]) ?_ ?_
   ·have:=Dr s N A'.length m Q.length A' P1 P2 Q Z' (by simp only [List.length_append];omega) hs rfl hl1.symm rfl (by omega)
    rw [show A'++P++Q++Z'=A'++P1++P2++Q++Z' by rw [hp];simp]
    exact this
   ·rintro _ _ ⟨rfl,rfl⟩
    simp only [↓wR,RA,simprocAttr,TF,ae,cx,hi4];repeat (simp (disch:=omega) only [ah,bh,bf,bg,be];try simp only [↓wR,RA,simprocAttr,TF,ae,cx,hi4])
    refine ⟨(A'++Q,P2,P1,Z'),⟨?_,?_,?_,?_⟩,?_,?_,?_⟩
    ·rw [← h1,hp];simp
    ·simp only [List.length_append];omega
    ·show 0<P2.length;omega
    ·show 0<P1.length;omega
    ·show P2.length+P1.length<P.length+Q.length;omega
    ·rw [hl1]
    ·simp only [List.append_assoc]
  ·have hlt:P.length<Q.length:=by omega
   obtain ⟨Q1,hQ1⟩:∃ Q1,Q1=Q.take (Q.length - P.length):=⟨_,rfl⟩
   obtain ⟨Q2,hQ2⟩:∃ Q2,Q2=Q.drop (Q.length - P.length):=⟨_,rfl⟩
   have hp:Q=Q1++Q2:=by rw [hQ1,hQ2,List.take_append_drop]
   have hl1:Q1.length=Q.length - P.length:=by rw [hQ1,List.length_take];omega
   have hl2:Q2.length=P.length:=by rw [hQ2,List.length_drop];omega
   have hi4:(Q.length:Int) - P.length=((Q1.length:Nat):Int):=by omega
   have hi5:(m:Int)+Q.length - P.length=((m+Q1.length:Nat):Int):=by omega
   simp only [↓wR,RA,simprocAttr,TF,ae,hg,hi3,hi5];repeat (simp (disch:=omega) only [ah,bh,bf,bg,be];try simp only [↓wR,RA,simprocAttr,TF,ae,hg,hi3,hi5])
   refine ee (R0:=fun r st'=>r = .fc []∧st'=bb [some (.row (cellsOf ak true ((A'++Q2++Q1++P++Z'))) 0 0 44),some (.row [.vl false 1 (s.owner.map (ai.val false)),.sc (.int .u16 s.type.toNat),.sc (.int .u16 s.cls.toNat),.sc (.int .u32 s.b7.toNat),.vl false 4 (s.data.map (ak.val false))] 0 2 58)]) ?_ ?_
   ·have:=Dr s N A'.length (m+Q1.length) P.length A' P Q1 Q2 Z' (by simp only [List.length_append];omega) hs rfl rfl hl2.symm (by omega)
    rw [show A'++P++Q++Z'=A'++P++Q1++Q2++Z' by rw [hp];simp]
    exact this
   ·rintro _ _ ⟨rfl,rfl⟩
    simp only [↓wR,RA,simprocAttr,TF,ae,cx,hi4];repeat (simp (disch:=omega) only [ah,bh,bf,bg,be];try simp only [↓wR,RA,simprocAttr,TF,ae,cx,hi4])
    refine ⟨(A',Q2,Q1,P++Z'),⟨?_,?_,?_,?_⟩,?_,?_,?_⟩
    ·rw [← h1,hp];simp
    ·show A'.length+Q2.length=m;omega
    ·show 0<Q2.length;omega
    ·show 0<Q1.length;omega
    ·show Q2.length+Q1.length<P.length+Q.length;omega
    ·rw [hl2]
    ·simp only [List.append_assoc]
 ·have hne:P.length=Q.length:=by omega
  simp only [↓wR,RA,simprocAttr,TF,ae,h]
  have hi3:(m:Int) - P.length=((A'.length:Nat):Int):=by omega
  simp only [↓wR,RA,simprocAttr,TF,ae,hi3];repeat (simp (disch:=omega) only [ah,bh,bf,bg,be];try simp only [↓wR,RA,simprocAttr,TF,ae,hi3])
  refine ee (R0:=fun r st'=>r = .fc []∧st'=bb [some (.row (cellsOf ak true ((A++R++L++Z))) 0 0 44),some (.row [.vl false 1 (s.owner.map (ai.val false)),.sc (.int .u16 s.type.toNat),.sc (.int .u16 s.cls.toNat),.sc (.int .u32 s.b7.toNat),.vl false 4 (s.data.map (ak.val false))] 0 2 58)]) ?_ ?_
  ·have:=Dr s N A'.length m P.length A' P [] Q Z' (by simp only [List.length_append,List.length_nil];omega) hs rfl rfl hne (by simp only [List.length_nil];omega)
   rw [List.append_nil,List.append_nil,List.append_assoc (A'++Q),← List.append_assoc (A'++Q),h1] at this
   exact this
  ·rintro _ _ ⟨rfl,rfl⟩
   simp only [↓wR,RA,simprocAttr,TF,ae,cx,gn,fy,fp]
theorem Ly (s:aw) (N a b:Nat) (A L Z:List bn) (hN:N=(A++L++Z).length) (hs:N≤1048576) (ha:a=A.length) (hb:b=a+L.length) (hV:∀ x ∈ L,tx s.type x) :
 gp PP 106 [.sl 0 0 N 4,.sc (.int .i64 (a)),.sc (.int .i64 (b)),(.fn (.func 81) [] [.ptr 1 0])] (bb [some (.row (cellsOf ak true ((A++L++Z))) 0 0 44),some (.row [.vl false 1 (s.owner.map (ai.val false)),.sc (.int .u16 s.type.toNat),.sc (.int .u16 s.cls.toNat),.sc (.int .u32 s.b7.toNat),.vl false 4 (s.data.map (ak.val false))] 0 2 58)])
  (fun r st'=>r = .fc []∧st'=bb [some (.row (cellsOf ak true ((A++dg (fe s.type) L++Z))) 0 0 44),some (.row [.vl false 1 (s.owner.map (ai.val false)),.sc (.int .u16 s.type.toNat),.sc (.int .u16 s.cls.toNat),.sc (.int .u32 s.b7.toNat),.vl false 4 (s.data.map (ak.val false))] 0 2 58)]):=by
 have hc:∀ a b c d,c0 a b c=d→c0 a b c=d:=fun _ _ _ _ h=>h
 have hlen:N=A.length+L.length+Z.length:=by rw [hN];simp;omega
 refine ct _ rfl ?_ (fun r st' h=>h)
 refine bm (T:=[aei]) (aq.cons (ar K8) (aq.nil PP)) mixed Tryz.func106 rfl (by kernel_rfl) (by kernel_rfl) (by kernel_rfl) (by kernel_rfl) ?_;unfold Tryz.f106
 simp only [↓wR,RA,simprocAttr,TF,ae]
 refine c8 [0,1,2,3,8] (fun (i:Nat)=>[.sl 0 0 N 4,.sc (.int .i64 (a)),.sc (.int .i64 (b)),(.fn (.func 81) [] [.ptr 1 0]),.sc (.int .i64 (i))]) (fun i=>[some (.row (cellsOf ak true ((A++dg (fe s.type) (L.take (i - a))++L.drop (i - a)++Z))) 0 0 44),some (.row [.vl false 1 (s.owner.map (ai.val false)),.sc (.int .u16 s.type.toNat),.sc (.int .u16 s.cls.toNat),.sc (.int .u32 s.b7.toNat),.vl false 4 (s.data.map (ak.val false))] 0 2 58)]) (fun i=>a<i∧(i≤b∨i=a+1)) (fun i=>b - i) (a+1) ⟨by omega,.inr rfl⟩ (by simp only [↓wR,RA,simprocAttr,TF,ae];repeat (simp (disch:=omega) only [ah,bh,bf,bg,be];try simp only [↓wR,RA,simprocAttr,TF,ae])<;>rfl) (by
  simp only [↓wR,RA,simprocAttr,TF,ae]
  cases L with
  |nil=>simp [dg]
  |cons x l=>simp [dg,nf]) ?_
 rintro i ⟨hi0,hi⟩
 simp only [↓wR,RA,simprocAttr,TF,ae]
 rw [bj];refine ⟨fun h=>?_,fun h=>?_⟩
 ·have hlt:i<b:=by omega
  obtain ⟨x,hx⟩:∃ x,L[i - a]? = some x:=⟨_,List.getElem?_eq_getElem (by omega)⟩
  have hxV:=hV x (List.mem_of_getElem? hx)
  obtain ⟨sp,hse⟩:∃ sp,sp=dg (fe s.type) (L.take (i - a)):=⟨_,rfl⟩
  have hsl:sp.length=i - a:=by rw [hse,ec,List.length_take];omega
  have hsV:∀ y ∈ sp,tx s.type y:=fun y hy=>hV y (List.mem_of_mem_take (gz.1 (by rw [← hse];exact hy)))
  have hsR:ir (fe s.type) sp:=by rw [hse];exact l6 (o0 s.type) _ (fun y hy=>hV y (List.mem_of_mem_take hy))
  have hnext:dg (fe s.type) (L.take (i+1 - a))=nf (fe s.type) x sp:=by rw [show i+1 - a=i - a+1 by omega,iq hx,ye,← hse]
  obtain ⟨W,hW⟩:∃ W,W=L.drop (i+1 - a)++Z:=⟨_,rfl⟩
  have hcur:A++dg (fe s.type) (L.take (i - a))++L.drop (i - a)++Z=A++sp++x::W:=by rw [← hse,nv hx,hW,show i+1 - a=i - a+1 by omega];simp
  rw [hcur]
  simp only [↓wR,RA,simprocAttr,TF,ae,h]
  refine c8 [0,1,2,3,8,9] (fun (j:Nat)=>[.sl 0 0 N 4,.sc (.int .i64 (a)),.sc (.int .i64 (b)),(.fn (.func 81) [] [.ptr 1 0]),.sc (.int .i64 (i)),.sc (.int .i64 (j))]) (fun j=>[some (.row (cellsOf ak true ((A++sp.take (j - a)++x::(sp.drop (j - a)++W)))) 0 0 44),some (.row [.vl false 1 (s.owner.map (ai.val false)),.sc (.int .u16 s.type.toNat),.sc (.int .u16 s.cls.toNat),.sc (.int .u32 s.b7.toNat),.vl false 4 (s.data.map (ak.val false))] 0 2 58)]) (fun j=>a≤j∧j≤i∧∀ y,sp[j - a]? = some y→(fe s.type) x y=true) (fun j=>j - a) i ⟨by omega,Nat.le_refl _,fun y hy=>by rw [List.getElem?_eq_none (by omega)] at hy;cases hy⟩ (by simp only [↓wR,RA,simprocAttr,TF,ae]<;>rfl) (by
   simp only [↓wR,RA,simprocAttr,TF,ae]
   rw [show List.take (i - a) sp=sp from List.take_of_length_le (by omega),show List.drop (i - a) sp=[] from List.drop_eq_nil_of_le (by omega)];simp) ?_
  rintro j ⟨hj0,hj1,hj2⟩
  simp only [↓wR,RA,simprocAttr,TF,ae]
  by_cases hja:a<j
  ·obtain ⟨y,hy⟩:∃ y,sp[j - 1 - a]? = some y:=⟨_,List.getElem?_eq_getElem (by omega)⟩
   have hyV:=hsV y (List.mem_of_getElem? hy)
   have hdg:decide ((j:Int) > (a:Int))=true:=decide_eq_true (by omega)
   have hj3:(j:Int) - 1=((j - 1:Nat):Int):=by omega
   have hjj:j - a=j - 1 - a+1:=by omega
   have hc2:A++sp.take (j - a)++x::(sp.drop (j - a)++W)=A++sp.take (j - 1 - a)++y::(x::(sp.drop (j - a)++W)):=by rw [hjj,iq hy];simp
   obtain ⟨X,hX⟩:∃ X,X=A++sp.take (j - 1 - a):=⟨_,rfl⟩
   obtain ⟨Y,hY⟩:∃ Y,Y=sp.drop (j - a)++W:=⟨_,rfl⟩
   have hxl:X.length=j - 1:=by rw [hX,List.length_append,List.length_take];omega
   have g1:(X++y::x::Y)[j - 1]? = some y:=by rw [← hxl];exact get_at X _ y
   have g2:(X++y::x::Y)[j]? = some x:=by
    have:=get_at (X++[y]) Y x
    rw [show (X++[y]).length=j by rw [List.length_append,hxl,List.length_singleton];omega] at this
    rw [← this];simp
   have l1:=kn 0 0 44 g1
   have l2:=kn 0 0 44 g2
   rw [hc2,← hX,← hY]
   simp only [↓wR,RA,simprocAttr,TF,ae,hdg,hj3,↓l1,↓l2,m5,hxV.1,hyV.1];repeat (simp (disch:=omega) only [ah,bh,bf,bg,be];try simp only [↓wR,RA,simprocAttr,TF,ae,hdg,hj3,↓l1,↓l2,m5,hxV.1,hyV.1])
   refine ⟨by kernel_rfl,.inl ?_⟩
   rw [w8 (g:=81) (a:=[]) (b:=[.ptr 1 0])]
   rotate_left
   ·rfl
   simp only [↓wR,RA,simprocAttr,TF,ae]
   refine ⟨by apply hc;kernel_rfl,?_⟩
   rw [bj];refine ⟨fun hl=>?_,fun hl=>?_⟩
   ·have hll:(fe s.type) x y=true:=decide_eq_true hl
    have s1:(X++y::x::Y).set j y=X++y::y::Y:=by
     have:=qz (X++[y]) Y x y
     rw [show (X++[y]).length=j by rw [List.length_append,hxl,List.length_singleton];omega] at this
     simpa using this
    have s2:(X++y::y::Y).set (j - 1) x=X++x::y::Y:=by rw [← hxl];exact qz X _ y x
    have g3:(X++y::y::Y)[j - 1]? = some y:=by rw [← hxl];exact get_at X _ y
    have t1:=tl y 0 44 0 g2
    have t2:=tl x 0 44 0 g3
    rw [s1] at t1
    rw [s2] at t2
    simp only [↓wR,RA,simprocAttr,TF,ae,hl,hj3,↓l1,↓l2,↓t1,↓t2];repeat (simp (disch:=omega) only [ah,bh,bf,bg,be];try simp only [↓wR,RA,simprocAttr,TF,ae,hl,hj3,↓l1,↓l2,↓t1,↓t2])
    refine ⟨by kernel_rfl,.inl ?_⟩
    refine ⟨by apply hc;kernel_rfl,j - 1,⟨by omega,by omega,fun z hz=>?_⟩,by omega,by (first|rfl|trivial|omega|((try (simp (disch:=omega) only [ah]));(try (simp only [FB]));first|done|rfl|omega)),?_⟩
    ·rw [hy] at hz;cases hz;exact hll
    ·rw [hX,hY,hjj,nv hy];simp
   ·have hll:(fe s.type) x y=false:=decide_eq_false hl
    have hA:∀ z ∈ sp.take (j - a),(fe s.type) x z=false:=by
     refine Gb (o0 s.type) hsV hsR hxV (by omega) (fun c _ hcc=>?_)
     rw [show j - a - 1=j - 1 - a by omega,hy] at hcc;cases hcc;exact hll
    have hins:nf (fe s.type) x sp=sp.take (j - a)++x::sp.drop (j - a):=by
     have:=M1 (lt:=(fe s.type)) (x:=x) (sp.take (j - a)) (sp.drop (j - a)) hA (fun z hz=>by rw [List.head?_drop] at hz;exact hj2 z hz)
     rw [List.take_append_drop] at this
     exact this
    simp only [↓wR,RA,simprocAttr,TF,ae,hl];repeat (simp (disch:=omega) only [ah,bh,bf,bg,be];try simp only [↓wR,RA,simprocAttr,TF,ae,hl])
    refine ⟨i+1,⟨by omega,by omega⟩,by omega,by (first|rfl|trivial|omega|((try (simp (disch:=omega) only [ah]));(try (simp only [FB]));first|done|rfl|omega)),?_⟩
    rw [hnext,hins,hX,hY,hW,hjj,iq hy];simp
  ·have hja':j=a:=by omega
   subst hja'
   have hins:nf (fe s.type) x sp=x::sp:=by
    have:=M1 (lt:=(fe s.type)) (x:=x) [] sp (fun z hz=>by cases hz) (fun z hz=>by rw [Nat.sub_self] at hj2;rw [List.head?_eq_getElem?] at hz;exact hj2 z hz)
    exact this
   have hdg:decide ((j:Int) > (j:Int))=false:=decide_eq_false (by omega)
   simp only [↓wR,RA,simprocAttr,TF,ae,hdg];repeat (simp (disch:=omega) only [ah,bh,bf,bg,be];try simp only [↓wR,RA,simprocAttr,TF,ae,hdg])
   refine ⟨by kernel_rfl,.inl ?_⟩
   refine ⟨by apply hc;kernel_rfl,i+1,⟨by omega,by omega⟩,by omega,by (first|rfl|trivial|omega|((try (simp (disch:=omega) only [ah]));(try (simp only [FB]));first|done|rfl|omega)),?_⟩
   rw [hnext,hins,hW];simp
 ·have hin:L.length≤i - a:=by omega
  rw [List.take_of_length_le hin,List.drop_eq_nil_of_le hin]
  simp only [↓wR,RA,simprocAttr,TF,ae,h,gn,fy,fp,List.append_nil]
theorem Dm (N a b n:Nat) (A P M Q Z:List aw) (hN:N=(A++P++M++Q++Z).length) (hs:N≤1048576) (ha:a=A.length) (hp:n=P.length) (hq:n=Q.length) (hb:b=a+n+M.length) :
 gp PP 112 [.sl 0 0 N 5,.sc (.int .i64 (a)),.sc (.int .i64 (b)),.sc (.int .i64 (n)),(.sc (.func (.func 78) #[] #[]))] (bb [some (.row (cellsOf aj true ((A++P++M++Q++Z))) 0 0 58)])
  (fun r st'=>r = .fc []∧st'=bb [some (.row (cellsOf aj true ((A++Q++M++P++Z))) 0 0 58)]):=by
 have hc:∀ a b c d,c0 a b c=d→c0 a b c=d:=fun _ _ _ _ h=>h
 have hlen:N=A.length+P.length+M.length+Q.length+Z.length:=by rw [hN];simp;omega
 refine ct _ rfl ?_ (fun r st' h=>h)
 refine bm (T:=[]) (aq.nil PP) mixed Tryz.func112 rfl (by kernel_rfl) (by kernel_rfl) (by kernel_rfl) (by kernel_rfl) ?_;unfold Tryz.f112
 simp only [↓wR,RA,simprocAttr,TF,ae]
 refine c8 [0,1,2,3,10] (fun (i:Nat)=>[.sl 0 0 N 5,.sc (.int .i64 (a)),.sc (.int .i64 (b)),.sc (.int .i64 (n)),.sc (.int .i64 (i))]) (fun i=>[some (.row (cellsOf aj true ((A++Q.take i++P.drop i++M++P.take i++Q.drop i++Z))) 0 0 58)]) (fun i=>i≤n) (fun i=>n - i) 0 (Nat.zero_le _) (by simp only [↓wR,RA,simprocAttr,TF,ae]<;>simp) (by simp only [↓wR,RA,simprocAttr,TF,ae]<;>simp) ?_
 intro i hi
 simp only [↓wR,RA,simprocAttr,TF,ae]
 rw [bj];refine ⟨fun h=>?_,fun h=>?_⟩
 ·have hlt:i<n:=by omega
  obtain ⟨p,hpp⟩:∃ p,P[i]? = some p:=⟨_,List.getElem?_eq_getElem (by omega)⟩
  obtain ⟨q,hqq⟩:∃ q,Q[i]? = some q:=⟨_,List.getElem?_eq_getElem (by omega)⟩
  obtain ⟨X,hX⟩:∃ X,X=A++Q.take i:=⟨_,rfl⟩
  obtain ⟨Y,hY⟩:∃ Y,Y=P.drop (i+1)++M++P.take i:=⟨_,rfl⟩
  obtain ⟨W,hW⟩:∃ W,W=Q.drop (i+1)++Z:=⟨_,rfl⟩
  have hx1:X.length=a+i:=by rw [hX,List.length_append,List.length_take];omega
  have hy1:Y.length=n - 1+M.length:=by rw [hY];simp;omega
  have hpd:P.drop i=p::P.drop (i+1):=by obtain ⟨_,rfl⟩:=List.getElem?_eq_some_iff.1 hpp;exact List.drop_eq_getElem_cons _
  have hqd:Q.drop i=q::Q.drop (i+1):=by obtain ⟨_,rfl⟩:=List.getElem?_eq_some_iff.1 hqq;exact List.drop_eq_getElem_cons _
  have hpt:P.take (i+1)=P.take i++[p]:=by rw [List.take_add_one,hpp];rfl
  have hqt:Q.take (i+1)=Q.take i++[q]:=by rw [List.take_add_one,hqq];rfl
  have hcur:A++Q.take i++P.drop i++M++P.take i++Q.drop i++Z=X++p::(Y++q::W):=by rw [hX,hY,hW,hpd,hqd];simp
  have gi:A++Q.take (i+1)++P.drop (i+1)++M++P.take (i+1)++Q.drop (i+1)++Z=X++q::(Y++p::W):=by rw [hX,hY,hW,hpt,hqt];simp
  have hi1:(a:Int)+i=((a+i:Nat):Int):=by omega
  have hi2:(b:Int)+i=((b+i:Nat):Int):=by omega
  have g1:(X++p::(Y++q::W))[a+i]? = some p:=by rw [← hx1];exact get_at X _ p
  have hxy:(X++p::Y).length=b+i:=by rw [List.length_append,List.length_cons,hx1,hy1];omega
  have g2:(X++p::(Y++q::W))[b+i]? = some q:=by
   have:=get_at (X++p::Y) W q
   rw [hxy] at this
   rw [← this];simp
  have s1:(X++p::(Y++q::W)).set (a+i) q=X++q::(Y++q::W):=by rw [← hx1];exact qz X _ p q
  have g3:(X++q::(Y++q::W))[b+i]? = some q:=by
   have:=get_at (X++q::Y) W q
   rw [show (X++q::Y).length=b+i by rw [← hxy];simp] at this
   rw [← this];simp
  have s2:(X++q::(Y++q::W)).set (b+i) p=X++q::(Y++p::W):=by
   have:=qz (X++q::Y) W q p
   rw [show (X++q::Y).length=b+i by rw [← hxy];simp] at this
   simpa using this
  have l1:=ml 0 0 58 g1
  have l2:=ml 0 0 58 g2
  have t1:=uv q 0 58 0 g1
  have t2:=uv p 0 58 0 g3
  rw [s1] at t1
  rw [s2] at t2
  rw [hcur]
  simp only [↓wR,RA,simprocAttr,TF,ae,h,hi1,hi2,↓l1,↓l2,↓t1,↓t2];repeat (simp (disch:=omega) only [ah,bh,bf,bg,be];try simp only [↓wR,RA,simprocAttr,TF,ae,h,hi1,hi2,↓l1,↓l2,↓t1,↓t2])
  refine ⟨by kernel_rfl,.inl ?_⟩
  exact ⟨by apply hc;kernel_rfl,i+1,hlt,by omega,by (first|rfl|trivial|omega|((try (simp (disch:=omega) only [ah]));(try (simp only [FB]));first|done|rfl|omega)),by rw [gi]⟩
 ·have hin:i=n:=by omega
  subst hin
  have e1:Q.take i=Q:=by rw [hq,List.take_length]
  have e2:P.drop i=[]:=by rw [hp,List.drop_length]
  have e3:P.take i=P:=by rw [hp,List.take_length]
  have e4:Q.drop i=[]:=by rw [hq,List.drop_length]
  rw [e1,e2,e3,e4]
  simp only [↓wR,RA,simprocAttr,TF,ae,h,gn,fy,fp,List.append_nil]
theorem abr (N a m b:Nat) (A L R Z:List aw) (hN:N=(A++L++R++Z).length) (hs:N≤1048576) (ha:a=A.length) (hm:m=a+L.length) (hb:b=m+R.length) (hl : 0<L.length) (hr : 0<R.length) :
 gp PP 109 [.sl 0 0 N 5,.sc (.int .i64 (a)),.sc (.int .i64 (m)),.sc (.int .i64 (b)),(.sc (.func (.func 78) #[] #[]))] (bb [some (.row (cellsOf aj true ((A++L++R++Z))) 0 0 58)])
  (fun r st'=>r = .fc []∧st'=bb [some (.row (cellsOf aj true ((A++R++L++Z))) 0 0 58)]):=by
 have hlen:N=A.length+L.length+R.length+Z.length:=by rw [hN];simp;omega
 refine ct _ rfl ?_ (fun r st' h=>h)
 refine bm (T:=[]) (aq.nil PP) mixed Tryz.func109 rfl (by kernel_rfl) (by kernel_rfl) (by kernel_rfl) (by kernel_rfl) ?_;unfold Tryz.f109
 have hi1:(m:Int) - a=((L.length:Nat):Int):=by omega
 have hi2:(b:Int) - m=((R.length:Nat):Int):=by omega
 simp only [↓wR,RA,simprocAttr,TF,ae,hi1,hi2];repeat (simp (disch:=omega) only [ah,bh,bf,bg,be];try simp only [↓wR,RA,simprocAttr,TF,ae,hi1,hi2])
 refine c8 [0,2,4,10,11] (fun (x:List aw × List aw × List aw × List aw)=>[.sl 0 0 N 5,.sc (.int .i64 (m)),(.sc (.func (.func 78) #[] #[])),.sc (.int .i64 (x.2.1.length)),.sc (.int .i64 (x.2.2.1.length))]) (fun x=>[some (.row (cellsOf aj true ((x.1++x.2.1++x.2.2.1++x.2.2.2))) 0 0 58)]) (fun x=>x.1++x.2.2.1++x.2.1++x.2.2.2=A++R++L++Z∧x.1.length+x.2.1.length=m∧0<x.2.1.length∧0<x.2.2.1.length) (fun x=>x.2.1.length+x.2.2.1.length) (A,L,R,Z) ⟨rfl,by show A.length+L.length=m;omega,hl,hr⟩ (by simp only [↓wR,RA,simprocAttr,TF,ae]<;>rfl) (by simp only [↓wR,RA,simprocAttr,TF,ae]<;>rfl) ?_
 rintro ⟨A',P,Q,Z'⟩ ⟨h1,h2,h3,h4⟩
 have h5:=congrArg List.length h1
 simp only [List.length_append] at h1 h2 h3 h4 h5
 simp only []
 simp only [↓wR,RA,simprocAttr,TF,ae]
 rw [ed];refine ⟨fun ⟨h,e⟩=>?_,fun ⟨h,e⟩=>?_⟩
 ·have hne:P.length≠Q.length:=by omega
  simp only [↓wR,RA,simprocAttr,TF,ae,h]
  have hi3:(m:Int) - P.length=((A'.length:Nat):Int):=by omega
  rw [bj];refine ⟨fun hg=>?_,fun hg=>?_⟩
  ·have hlt:Q.length<P.length:=by omega
   obtain ⟨P1,hP1⟩:∃ P1,P1=P.take Q.length:=⟨_,rfl⟩
   obtain ⟨P2,hP2⟩:∃ P2,P2=P.drop Q.length:=⟨_,rfl⟩
   have hp:P=P1++P2:=by rw [hP1,hP2,List.take_append_drop]
   have hl1:P1.length=Q.length:=by rw [hP1,List.length_take];omega
   have hl2:P2.length=P.length - Q.length:=by rw [hP2,List.length_drop]
   have hi4:(P.length:Int) - Q.length=((P2.length:Nat):Int):=by omega
   simp only [↓wR,RA,simprocAttr,TF,ae,hg,hi3];repeat (simp (disch:=omega) only [ah,bh,bf,bg,be];try simp only [↓wR,RA,simprocAttr,TF,ae,hg,hi3])
   refine ee (R0:=fun r st'=>r = .fc []∧st'=bb [some (.row (cellsOf aj true ((A'++Q++P2++P1++Z'))) 0 0 58)]) ?_ ?_
   ·have:=Dm N A'.length m Q.length A' P1 P2 Q Z' (by simp only [List.length_append];omega) hs rfl hl1.symm rfl (by omega)
    rw [show A'++P++Q++Z'=A'++P1++P2++Q++Z' by rw [hp];simp]
    exact this
   ·rintro _ _ ⟨rfl,rfl⟩
    simp only [↓wR,RA,simprocAttr,TF,ae,cx,hi4];repeat (simp (disch:=omega) only [ah,bh,bf,bg,be];try simp only [↓wR,RA,simprocAttr,TF,ae,cx,hi4])
    refine ⟨(A'++Q,P2,P1,Z'),⟨?_,?_,?_,?_⟩,?_,?_,?_⟩
    ·rw [← h1,hp];simp
    ·simp only [List.length_append];omega
    ·show 0<P2.length;omega
    ·show 0<P1.length;omega
    ·show P2.length+P1.length<P.length+Q.length;omega
    ·rw [hl1]
    ·simp only [List.append_assoc]
  ·have hlt:P.length<Q.length:=by omega
   obtain ⟨Q1,hQ1⟩:∃ Q1,Q1=Q.take (Q.length - P.length):=⟨_,rfl⟩
   obtain ⟨Q2,hQ2⟩:∃ Q2,Q2=Q.drop (Q.length - P.length):=⟨_,rfl⟩
   have hp:Q=Q1++Q2:=by rw [hQ1,hQ2,List.take_append_drop]
   have hl1:Q1.length=Q.length - P.length:=by rw [hQ1,List.length_take];omega
   have hl2:Q2.length=P.length:=by rw [hQ2,List.length_drop];omega
   have hi4:(Q.length:Int) - P.length=((Q1.length:Nat):Int):=by omega
   have hi5:(m:Int)+Q.length - P.length=((m+Q1.length:Nat):Int):=by omega
   simp only [↓wR,RA,simprocAttr,TF,ae,hg,hi3,hi5];repeat (simp (disch:=omega) only [ah,bh,bf,bg,be];try simp only [↓wR,RA,simprocAttr,TF,ae,hg,hi3,hi5])
   refine ee (R0:=fun r st'=>r = .fc []∧st'=bb [some (.row (cellsOf aj true ((A'++Q2++Q1++P++Z'))) 0 0 58)]) ?_ ?_
   ·have:=Dm N A'.length (m+Q1.length) P.length A' P Q1 Q2 Z' (by simp only [List.length_append];omega) hs rfl rfl hl2.symm (by omega)
    rw [show A'++P++Q++Z'=A'++P++Q1++Q2++Z' by rw [hp];simp]
    exact this
   ·rintro _ _ ⟨rfl,rfl⟩
    simp only [↓wR,RA,simprocAttr,TF,ae,cx,hi4];repeat (simp (disch:=omega) only [ah,bh,bf,bg,be];try simp only [↓wR,RA,simprocAttr,TF,ae,cx,hi4])
    refine ⟨(A',Q2,Q1,P++Z'),⟨?_,?_,?_,?_⟩,?_,?_,?_⟩
    ·rw [← h1,hp];simp
    ·show A'.length+Q2.length=m;omega
    ·show 0<Q2.length;omega
    ·show 0<Q1.length;omega
    ·show Q2.length+Q1.length<P.length+Q.length;omega
    ·rw [hl2]
    ·simp only [List.append_assoc]
 ·have hne:P.length=Q.length:=by omega
  simp only [↓wR,RA,simprocAttr,TF,ae,h]
  have hi3:(m:Int) - P.length=((A'.length:Nat):Int):=by omega
  simp only [↓wR,RA,simprocAttr,TF,ae,hi3];repeat (simp (disch:=omega) only [ah,bh,bf,bg,be];try simp only [↓wR,RA,simprocAttr,TF,ae,hi3])
  refine ee (R0:=fun r st'=>r = .fc []∧st'=bb [some (.row (cellsOf aj true ((A++R++L++Z))) 0 0 58)]) ?_ ?_
  ·have:=Dm N A'.length m P.length A' P [] Q Z' (by simp only [List.length_append,List.length_nil];omega) hs rfl rfl hne (by simp only [List.length_nil];omega)
   rw [List.append_nil,List.append_nil,List.append_assoc (A'++Q),← List.append_assoc (A'++Q),h1] at this
   exact this
  ·rintro _ _ ⟨rfl,rfl⟩
   simp only [↓wR,RA,simprocAttr,TF,ae,cx,gn,fy,fp]
theorem Lo (N a b:Nat) (A L Z:List aw) (hN:N=(A++L++Z).length) (hs:N≤1048576) (ha:a=A.length) (hb:b=a+L.length) (hV:∀ x ∈ L,de x) :
 gp PP 104 [.sl 0 0 N 5,.sc (.int .i64 (a)),.sc (.int .i64 (b)),(.sc (.func (.func 78) #[] #[]))] (bb [some (.row (cellsOf aj true ((A++L++Z))) 0 0 58)])
  (fun r st'=>r = .fc []∧st'=bb [some (.row (cellsOf aj true ((A++dg eh L++Z))) 0 0 58)]):=by
 have hc:∀ a b c d,c0 a b c=d→c0 a b c=d:=fun _ _ _ _ h=>h
 have hlen:N=A.length+L.length+Z.length:=by rw [hN];simp;omega
 refine ct _ rfl ?_ (fun r st' h=>h)
 refine bm (T:=[acw]) (aq.cons (ar Kq) (aq.nil PP)) mixed Tryz.func104 rfl (by kernel_rfl) (by kernel_rfl) (by kernel_rfl) (by kernel_rfl) ?_;unfold Tryz.f104
 simp only [↓wR,RA,simprocAttr,TF,ae]
 refine c8 [0,1,2,3,8] (fun (i:Nat)=>[.sl 0 0 N 5,.sc (.int .i64 (a)),.sc (.int .i64 (b)),(.sc (.func (.func 78) #[] #[])),.sc (.int .i64 (i))]) (fun i=>[some (.row (cellsOf aj true ((A++dg eh (L.take (i - a))++L.drop (i - a)++Z))) 0 0 58)]) (fun i=>a<i∧(i≤b∨i=a+1)) (fun i=>b - i) (a+1) ⟨by omega,.inr rfl⟩ (by simp only [↓wR,RA,simprocAttr,TF,ae];repeat (simp (disch:=omega) only [ah,bh,bf,bg,be];try simp only [↓wR,RA,simprocAttr,TF,ae])<;>rfl) (by
  simp only [↓wR,RA,simprocAttr,TF,ae]
  cases L with
  |nil=>simp [dg]
  |cons x l=>simp [dg,nf]) ?_
 rintro i ⟨hi0,hi⟩
 simp only [↓wR,RA,simprocAttr,TF,ae]
 rw [bj];refine ⟨fun h=>?_,fun h=>?_⟩
 ·have hlt:i<b:=by omega
  obtain ⟨x,hx⟩:∃ x,L[i - a]? = some x:=⟨_,List.getElem?_eq_getElem (by omega)⟩
  have hxV:=hV x (List.mem_of_getElem? hx)
  obtain ⟨sp,hse⟩:∃ sp,sp=dg eh (L.take (i - a)):=⟨_,rfl⟩
  have hsl:sp.length=i - a:=by rw [hse,ec,List.length_take];omega
  have hsV:∀ y ∈ sp,de y:=fun y hy=>hV y (List.mem_of_mem_take (gz.1 (by rw [← hse];exact hy)))
  have hsR:ir eh sp:=by rw [hse];exact l6 pv _ (fun y hy=>hV y (List.mem_of_mem_take hy))
  have hnext:dg eh (L.take (i+1 - a))=nf eh x sp:=by rw [show i+1 - a=i - a+1 by omega,iq hx,ye,← hse]
  obtain ⟨W,hW⟩:∃ W,W=L.drop (i+1 - a)++Z:=⟨_,rfl⟩
  have hcur:A++dg eh (L.take (i - a))++L.drop (i - a)++Z=A++sp++x::W:=by rw [← hse,nv hx,hW,show i+1 - a=i - a+1 by omega];simp
  rw [hcur]
  simp only [↓wR,RA,simprocAttr,TF,ae,h]
  refine c8 [0,1,2,3,8,9] (fun (j:Nat)=>[.sl 0 0 N 5,.sc (.int .i64 (a)),.sc (.int .i64 (b)),(.sc (.func (.func 78) #[] #[])),.sc (.int .i64 (i)),.sc (.int .i64 (j))]) (fun j=>[some (.row (cellsOf aj true ((A++sp.take (j - a)++x::(sp.drop (j - a)++W)))) 0 0 58)]) (fun j=>a≤j∧j≤i∧∀ y,sp[j - a]? = some y→eh x y=true) (fun j=>j - a) i ⟨by omega,Nat.le_refl _,fun y hy=>by rw [List.getElem?_eq_none (by omega)] at hy;cases hy⟩ (by simp only [↓wR,RA,simprocAttr,TF,ae]<;>rfl) (by
   simp only [↓wR,RA,simprocAttr,TF,ae]
   rw [show List.take (i - a) sp=sp from List.take_of_length_le (by omega),show List.drop (i - a) sp=[] from List.drop_eq_nil_of_le (by omega)];simp) ?_
  rintro j ⟨hj0,hj1,hj2⟩
  simp only [↓wR,RA,simprocAttr,TF,ae]
  by_cases hja:a<j
  ·obtain ⟨y,hy⟩:∃ y,sp[j - 1 - a]? = some y:=⟨_,List.getElem?_eq_getElem (by omega)⟩
   have hyV:=hsV y (List.mem_of_getElem? hy)
   have hdg:decide ((j:Int) > (a:Int))=true:=decide_eq_true (by omega)
   have hj3:(j:Int) - 1=((j - 1:Nat):Int):=by omega
   have hjj:j - a=j - 1 - a+1:=by omega
   have hc2:A++sp.take (j - a)++x::(sp.drop (j - a)++W)=A++sp.take (j - 1 - a)++y::(x::(sp.drop (j - a)++W)):=by rw [hjj,iq hy];simp
   obtain ⟨X,hX⟩:∃ X,X=A++sp.take (j - 1 - a):=⟨_,rfl⟩
   obtain ⟨Y,hY⟩:∃ Y,Y=sp.drop (j - a)++W:=⟨_,rfl⟩
   have hxl:X.length=j - 1:=by rw [hX,List.length_append,List.length_take];omega
   have g1:(X++y::x::Y)[j - 1]? = some y:=by rw [← hxl];exact get_at X _ y
   have g2:(X++y::x::Y)[j]? = some x:=by
    have:=get_at (X++[y]) Y x
    rw [show (X++[y]).length=j by rw [List.length_append,hxl,List.length_singleton];omega] at this
    rw [← this];simp
   have l1:=ml 0 0 58 g1
   have l2:=ml 0 0 58 g2
   rw [hc2,← hX,← hY]
   simp only [↓wR,RA,simprocAttr,TF,ae,hdg,hj3,↓l1,↓l2,m6,hxV,hyV];repeat (simp (disch:=omega) only [ah,bh,bf,bg,be];try simp only [↓wR,RA,simprocAttr,TF,ae,hdg,hj3,↓l1,↓l2,m6,hxV,hyV])
   refine ⟨by kernel_rfl,.inl ?_⟩
   (try simp only [↓wR,RA,simprocAttr,TF,ae,F7])
   refine ⟨by apply hc;kernel_rfl,?_⟩
   rw [bj];refine ⟨fun hl=>?_,fun hl=>?_⟩
   ·have hll:eh x y=true:=decide_eq_true hl
    have s1:(X++y::x::Y).set j y=X++y::y::Y:=by
     have:=qz (X++[y]) Y x y
     rw [show (X++[y]).length=j by rw [List.length_append,hxl,List.length_singleton];omega] at this
     simpa using this
    have s2:(X++y::y::Y).set (j - 1) x=X++x::y::Y:=by rw [← hxl];exact qz X _ y x
    have g3:(X++y::y::Y)[j - 1]? = some y:=by rw [← hxl];exact get_at X _ y
    have t1:=uv y 0 58 0 g2
    have t2:=uv x 0 58 0 g3
    rw [s1] at t1
    rw [s2] at t2
    simp only [↓wR,RA,simprocAttr,TF,ae,hl,hj3,↓l1,↓l2,↓t1,↓t2];repeat (simp (disch:=omega) only [ah,bh,bf,bg,be];try simp only [↓wR,RA,simprocAttr,TF,ae,hl,hj3,↓l1,↓l2,↓t1,↓t2])
    refine ⟨by kernel_rfl,.inl ?_⟩
    refine ⟨by apply hc;kernel_rfl,j - 1,⟨by omega,by omega,fun z hz=>?_⟩,by omega,by (first|rfl|trivial|omega|((try (simp (disch:=omega) only [ah]));(try (simp only [FB]));first|done|rfl|omega)),?_⟩
    ·rw [hy] at hz;cases hz;exact hll
    ·rw [hX,hY,hjj,nv hy];simp
   ·have hll:eh x y=false:=decide_eq_false hl
    have hA:∀ z ∈ sp.take (j - a),eh x z=false:=by
     refine Gb pv hsV hsR hxV (by omega) (fun c _ hcc=>?_)
     rw [show j - a - 1=j - 1 - a by omega,hy] at hcc;cases hcc;exact hll
    have hins:nf eh x sp=sp.take (j - a)++x::sp.drop (j - a):=by
     have:=M1 (lt:=eh) (x:=x) (sp.take (j - a)) (sp.drop (j - a)) hA (fun z hz=>by rw [List.head?_drop] at hz;exact hj2 z hz)
     rw [List.take_append_drop] at this
     exact this
    simp only [↓wR,RA,simprocAttr,TF,ae,hl];repeat (simp (disch:=omega) only [ah,bh,bf,bg,be];try simp only [↓wR,RA,simprocAttr,TF,ae,hl])
    refine ⟨i+1,⟨by omega,by omega⟩,by omega,by (first|rfl|trivial|omega|((try (simp (disch:=omega) only [ah]));(try (simp only [FB]));first|done|rfl|omega)),?_⟩
    rw [hnext,hins,hX,hY,hW,hjj,iq hy];simp
  ·have hja':j=a:=by omega
   subst hja'
   have hins:nf eh x sp=x::sp:=by
    have:=M1 (lt:=eh) (x:=x) [] sp (fun z hz=>by cases hz) (fun z hz=>by rw [Nat.sub_self] at hj2;rw [List.head?_eq_getElem?] at hz;exact hj2 z hz)
    exact this
   have hdg:decide ((j:Int) > (j:Int))=false:=decide_eq_false (by omega)
   simp only [↓wR,RA,simprocAttr,TF,ae,hdg];repeat (simp (disch:=omega) only [ah,bh,bf,bg,be];try simp only [↓wR,RA,simprocAttr,TF,ae,hdg])
   refine ⟨by kernel_rfl,.inl ?_⟩
   refine ⟨by apply hc;kernel_rfl,i+1,⟨by omega,by omega⟩,by omega,by (first|rfl|trivial|omega|((try (simp (disch:=omega) only [ah]));(try (simp only [FB]));first|done|rfl|omega)),?_⟩
   rw [hnext,hins,hW];simp
 ·have hin:L.length≤i - a:=by omega
  rw [List.take_of_length_le hin,List.drop_eq_nil_of_le hin]
  simp only [↓wR,RA,simprocAttr,TF,ae,h,gn,fy,fp,List.append_nil]
theorem avf (x:Int) (h0 : 0≤x) (h1:x<9223372036854775808):IntKind.u64.wrap x=x:=by
 simp only [IntKind.wrap,IntKind.bits]
 have h2:x % 18446744073709551616=x:=Int.emod_eq_of_lt h0 (by omega)
 first|(simp [IntKind.signed];omega)|(simp;omega)
theorem half (i j:Nat) (h:i+j≤4611686018427387904):IntKind.i64.wrap ((IntKind.u64.wrap ((i:Int)+j)).fdiv 2)=(((i+j) / 2:Nat):Int):=by
 rw [avf _ (by omega) (by omega),← Int.natCast_add,ax6,ah _ (by omega) (by omega)]
theorem yn (a b:Nat):decide ((a:Int)<(b:Int))=decide (a<b):=by simp
theorem H7 {p:Prop} [Decidable p]:(!decide p)=decide (¬ p):=by by_cases h:p<;>simp [h]
set_option maxHeartbeats 20000000 in
theorem N8 (d:Nat):∀ (N a m b:Nat) (A L R Z:List aw),b - a≤d→N=(A++L++R++Z).length→N≤1048576→a=A.length→m=a+L.length→b=m+R.length→0<L.length→0<R.length→(∀ x ∈ L,de x)→(∀ x ∈ R,de x)→ir eh L→ir eh R →
 gp PP 105 [.sl 0 0 N 5,.sc (.int .i64 (a)),.sc (.int .i64 (m)),.sc (.int .i64 (b)),(.sc (.func (.func 78) #[] #[]))] (bb [some (.row (cellsOf aj true ((A++L++R++Z))) 0 0 58)])
  (fun r st'=>r = .fc []∧st'=bb [some (.row (cellsOf aj true ((A++dz eh L R++Z))) 0 0 58)]):=by
 induction d with
 |zero=>intro N a m b A L R Z hd hN hs ha hm hb hl hr;omega
 |succ d ih=>
 intro N a m b A L R Z hd hN hs ha hm hb hl hr hLV hRV hLR hRR
 have hc:∀ a b c d,c0 a b c=d→c0 a b c=d:=fun _ _ _ _ h=>h
 have hlen:N=A.length+L.length+R.length+Z.length:=by rw [hN];simp;omega
 refine ct _ rfl ?_ (fun r st' h=>h)
 refine bm (T:=[acw]) (aq.cons (ar Kq) (aq.nil PP)) mixed Tryz.func105 rfl (by kernel_rfl) (by kernel_rfl) (by kernel_rfl) (by kernel_rfl) ?_;unfold Tryz.f105
 have hi1:(m:Int) - a=((L.length:Nat):Int):=by omega
 simp only [↓wR,RA,simprocAttr,TF,ae,hi1];repeat (simp (disch:=omega) only [ah,bh,bf,bg,be];try simp only [↓wR,RA,simprocAttr,TF,ae,hi1])
 rw [eb];refine ⟨fun ⟨h1,e1⟩=>?_,fun ⟨h1,e1⟩=>?_⟩
 ·have hL1:L.length=1:=by omega
  obtain ⟨x,rfl⟩:∃ x,L=[x]:=List.length_eq_one_iff.1 hL1
  have hxV:=hLV x (by simp)
  have hRb:∀ k c,R[k]? = some c→(A++[x]++R++Z)[m+k]? = some c:=fun k c hk=>by
   have hkl:=(List.getElem?_eq_some_iff.1 hk).1
   rw [List.append_assoc (A++[x]),List.getElem?_append_right (by simp at hm ⊢;omega),show m+k - (A++[x]).length=k by simp at hm ⊢;omega,List.getElem?_append_left hkl,hk]
  have gx:(A++[x]++R++Z)[a]? = some x:=by
   rw [List.append_assoc,List.append_assoc,ha];exact get_at A _ x
  simp only [↓wR,RA,simprocAttr,TF,ae,h1];repeat (simp (disch:=omega) only [ah,bh,bf,bg,be];try simp only [↓wR,RA,simprocAttr,TF,ae,h1])
  refine c8 [0,1,4,10,11] (fun (p:Nat × Nat)=>[.sl 0 0 N 5,.sc (.int .i64 (a)),(.sc (.func (.func 78) #[] #[])),.sc (.int .i64 (p.1)),.sc (.int .i64 (p.2))]) (fun _=>[some (.row (cellsOf aj true ((A++[x]++R++Z))) 0 0 58)]) (fun p=>m≤p.1∧p.1≤p.2∧p.2≤b∧(∀ c,0<p.1 - m→R[p.1 - m - 1]? = some c→eh c x=true)∧(∀ c,R[p.2 - m]? = some c→eh c x=false)) (fun p=>p.2 - p.1) (m,b) ⟨Nat.le_refl _,by show m≤b;omega,Nat.le_refl _,fun c hq=>by simp at hq,fun c hq=>by rw [List.getElem?_eq_none (by show R.length≤b - m;omega)] at hq;cases hq⟩ (by simp only [↓wR,RA,simprocAttr,TF,ae]<;>rfl) (by simp only [↓wR,RA,simprocAttr,TF,ae]<;>rfl) ?_
  rintro ⟨i,j⟩ ⟨p1,p2,p3,p4,p5⟩
  simp only [] at p1 p2 p3 p4 p5 ⊢
  simp only [↓wR,RA,simprocAttr,TF,ae]
  rw [bj];refine ⟨fun h=>?_,fun h=>?_⟩
  ·have hlt:i<j:=by omega
   obtain ⟨u,hu⟩:∃ u,u=(i+j) / 2:=⟨_,rfl⟩
   have hub:i≤u∧u<j:=by omega
   have hhalf:=half i j (by omega)
   rw [← hu] at hhalf
   obtain ⟨y,hy⟩:∃ y,R[u - m]? = some y:=⟨_,List.getElem?_eq_getElem (by omega)⟩
   have hyV:=hRV y (List.mem_of_getElem? hy)
   have gy:=hRb _ _ hy
   rw [show m+(u - m)=u by omega] at gy
   have l1:=ml 0 0 58 gx
   have l2:=ml 0 0 58 gy
   simp only [↓wR,RA,simprocAttr,TF,ae,h,hhalf,↓l1,↓l2,m6,hxV,hyV];repeat (simp (disch:=omega) only [ah,bh,bf,bg,be];try simp only [↓wR,RA,simprocAttr,TF,ae,h,hhalf,↓l1,↓l2,m6,hxV,hyV])
   refine ⟨by kernel_rfl,.inl ?_⟩
   (try simp only [↓wR,RA,simprocAttr,TF,ae,F7])
   refine ⟨by apply hc;kernel_rfl,?_⟩
   rw [bj];refine ⟨fun hl=>?_,fun hl=>?_⟩
   ·have hll:eh y x=true:=decide_eq_true hl
    simp only [↓wR,RA,simprocAttr,TF,ae,hl];repeat (simp (disch:=omega) only [ah,bh,bf,bg,be];try simp only [↓wR,RA,simprocAttr,TF,ae,hl])
    exact ⟨(u+1,j),⟨by show m≤u+1;omega,by show u+1≤j;omega,p3,fun c _ hcc=>by
     have hcc':R[u+1 - m - 1]? = some c:=hcc
     rw [show u+1 - m - 1=u - m by omega,hy] at hcc';cases hcc';exact hll,p5⟩,by show j - (u+1)<j - i;omega,by (first|rfl|trivial|omega|((try (simp (disch:=omega) only [ah]));(try (simp only [FB]));first|done|rfl|omega))⟩
   ·have hll:eh y x=false:=decide_eq_false hl
    simp only [↓wR,RA,simprocAttr,TF,ae,hl];repeat (simp (disch:=omega) only [ah,bh,bf,bg,be];try simp only [↓wR,RA,simprocAttr,TF,ae,hl])
    exact ⟨(i,u),⟨p1,by show i≤u;omega,by show u≤b;omega,p4,fun c hcc=>by
     have hcc':R[u - m]? = some c:=hcc
     rw [hy] at hcc';cases hcc';exact hll⟩,by show u - i<j - i;omega,by (first|rfl|trivial|omega|((try (simp (disch:=omega) only [ah]));(try (simp only [FB]));first|done|rfl|omega))⟩
  ·have hij:j=i:=by omega
   subst hij
   have hmo:=Zl (lt:=eh) (x:=x) (l:=R) (i:=j - m) (Zj pv hRV hRR hxV (by omega) p4) p5
   obtain ⟨R1,hR1⟩:∃ R1,R1=R.take (j - m):=⟨_,rfl⟩
   obtain ⟨R2,hR2⟩:∃ R2,R2=R.drop (j - m):=⟨_,rfl⟩
   have hRe:R=R1++R2:=by rw [hR1,hR2,List.take_append_drop]
   have hR1l:R1.length=j - m:=by rw [hR1,List.length_take];omega
   rw [← hR1,← hR2] at hmo
   rw [hmo]
   simp only [↓wR,RA,simprocAttr,TF,ae,h]
   refine c8 [0,10,13] (fun (k:Nat)=>[.sl 0 0 N 5,.sc (.int .i64 (j)),.sc (.int .i64 (k))]) (fun k=>[some (.row (cellsOf aj true ((A++R1.take (k - a)++x::(R1.drop (k - a)++R2++Z)))) 0 0 58)]) (fun k=>a≤k∧k+1≤j) (fun k=>j - k) a ⟨Nat.le_refl _,by omega⟩ (by simp only [↓wR,RA,simprocAttr,TF,ae]<;>rfl) (by simp only [↓wR,RA,simprocAttr,TF,ae];rw [hRe];simp) ?_
   rintro k ⟨k1,k2⟩
   simp only [↓wR,RA,simprocAttr,TF,ae];repeat (simp (disch:=omega) only [ah,bh,bf,bg,be];try simp only [↓wR,RA,simprocAttr,TF,ae])
   rw [bj];refine ⟨fun hk=>?_,fun hk=>?_⟩
   ·have hkl:k+1<j:=by omega
    obtain ⟨y,hy⟩:∃ y,R1[k - a]? = some y:=⟨_,List.getElem?_eq_getElem (by omega)⟩
    obtain ⟨X,hX⟩:∃ X,X=A++R1.take (k - a):=⟨_,rfl⟩
    obtain ⟨W,hW⟩:∃ W,W=R1.drop (k - a+1)++R2++Z:=⟨_,rfl⟩
    have hxl:X.length=k:=by rw [hX,List.length_append,List.length_take];omega
    have hcur:A++R1.take (k - a)++x::(R1.drop (k - a)++R2++Z)=X++x::y::W:=by rw [hX,hW,nv hy];simp
    have gi:A++R1.take (k+1 - a)++x::(R1.drop (k+1 - a)++R2++Z)=X++y::x::W:=by rw [hX,hW,show k+1 - a=k - a+1 by omega,iq hy];simp
    have g1:(X++x::y::W)[k]? = some x:=by rw [← hxl];exact get_at X _ x
    have hx1:(X++[x]).length=k+1:=by rw [List.length_append,hxl];rfl
    have hy1:(X++[y]).length=k+1:=by rw [List.length_append,hxl];rfl
    have g2:(X++x::y::W)[k+1]? = some y:=by
     have:=get_at (X++[x]) W y
     rw [hx1] at this
     rw [← this];simp
    have s1:(X++x::y::W).set k y=X++y::y::W:=by rw [← hxl];exact qz X _ x y
    have g3:(X++y::y::W)[k+1]? = some y:=by
     have:=get_at (X++[y]) W y
     rw [hy1] at this
     rw [← this];simp
    have s2:(X++y::y::W).set (k+1) x=X++y::x::W:=by
     have:=qz (X++[y]) W y x
     rw [hy1] at this
     simpa using this
    have l1:=ml 0 0 58 g1
    have l2:=ml 0 0 58 g2
    have t1:=uv y 0 58 0 g1
    have t2:=uv x 0 58 0 g3
    rw [s1] at t1
    rw [s2] at t2
    have hk1:(k:Int)+1=((k+1:Nat):Int):=by omega
    rw [hcur]
    simp only [↓wR,RA,simprocAttr,TF,ae,hk,hk1,↓l1,↓l2,↓t1,↓t2];repeat (simp (disch:=omega) only [ah,bh,bf,bg,be];try simp only [↓wR,RA,simprocAttr,TF,ae,hk,hk1,↓l1,↓l2,↓t1,↓t2])
    refine ⟨by kernel_rfl,.inl ?_⟩
    exact ⟨by apply hc;kernel_rfl,k+1,⟨by omega,by omega⟩,by omega,by (first|rfl|trivial|omega|((try (simp (disch:=omega) only [ah]));(try (simp only [FB]));first|done|rfl|omega)),by rw [gi]⟩
   ·have hkj:k - a=R1.length:=by omega
    rw [hkj,List.take_length,List.drop_length]
    simp only [↓wR,RA,simprocAttr,TF,ae,hk,gn,fy,fp,List.append_nil]
    simp
 ·have hL1:L.length≠1:=by omega
  have hi2:(b:Int) - m=((R.length:Nat):Int):=by omega
  simp only [↓wR,RA,simprocAttr,TF,ae,h1,hi2];repeat (simp (disch:=omega) only [ah,bh,bf,bg,be];try simp only [↓wR,RA,simprocAttr,TF,ae,h1,hi2])
  rw [eb];refine ⟨fun ⟨h2,e2⟩=>?_,fun ⟨h2,e2⟩=>?_⟩
  ·have hR1:R.length=1:=by omega
   obtain ⟨y,rfl⟩:∃ y,R=[y]:=List.length_eq_one_iff.1 hR1
   have hyV:=hRV y (by simp)
   have hLb:∀ k c,L[k]? = some c→(A++L++[y]++Z)[a+k]? = some c:=fun k c hk=>by
    have hkl:=(List.getElem?_eq_some_iff.1 hk).1
    rw [List.append_assoc,List.append_assoc,List.getElem?_append_right (by omega),show a+k - A.length=k by omega,List.getElem?_append_left hkl,hk]
   have gy:(A++L++[y]++Z)[m]? = some y:=by
    rw [List.append_assoc,show m=(A++L).length by rw [List.length_append];omega];exact get_at (A++L) _ y
   simp only [↓wR,RA,simprocAttr,TF,ae,h2];repeat (simp (disch:=omega) only [ah,bh,bf,bg,be];try simp only [↓wR,RA,simprocAttr,TF,ae,h2])
   refine c8 [0,2,4,14,15] (fun (p:Nat × Nat)=>[.sl 0 0 N 5,.sc (.int .i64 (m)),(.sc (.func (.func 78) #[] #[])),.sc (.int .i64 (p.1)),.sc (.int .i64 (p.2))]) (fun _=>[some (.row (cellsOf aj true ((A++L++[y]++Z))) 0 0 58)]) (fun p=>a≤p.1∧p.1≤p.2∧p.2≤m∧(∀ c,0<p.1 - a→L[p.1 - a - 1]? = some c→eh y c=false)∧(∀ c,L[p.2 - a]? = some c→eh y c=true)) (fun p=>p.2 - p.1) (a,m) ⟨Nat.le_refl _,by show a≤m;omega,Nat.le_refl _,fun c hq=>by simp at hq,fun c hq=>by rw [List.getElem?_eq_none (by show L.length≤m - a;omega)] at hq;cases hq⟩ (by simp only [↓wR,RA,simprocAttr,TF,ae]<;>rfl) (by simp only [↓wR,RA,simprocAttr,TF,ae]<;>rfl) ?_
   rintro ⟨i,j⟩ ⟨p1,p2,p3,p4,p5⟩
   simp only [] at p1 p2 p3 p4 p5 ⊢
   simp only [↓wR,RA,simprocAttr,TF,ae]
   rw [bj];refine ⟨fun h=>?_,fun h=>?_⟩
   ·have hlt:i<j:=by omega
    obtain ⟨u,hu⟩:∃ u,u=(i+j) / 2:=⟨_,rfl⟩
    have hub:i≤u∧u<j:=by omega
    have hhalf:=half i j (by omega)
    rw [← hu] at hhalf
    obtain ⟨x,hx⟩:∃ x,L[u - a]? = some x:=⟨_,List.getElem?_eq_getElem (by omega)⟩
    have hxV:=hLV x (List.mem_of_getElem? hx)
    have gx:=hLb _ _ hx
    rw [show a+(u - a)=u by omega] at gx
    have l1:=ml 0 0 58 gx
    have l2:=ml 0 0 58 gy
    simp only [↓wR,RA,simprocAttr,TF,ae,h,hhalf,↓l1,↓l2,m6,hxV,hyV];repeat (simp (disch:=omega) only [ah,bh,bf,bg,be];try simp only [↓wR,RA,simprocAttr,TF,ae,h,hhalf,↓l1,↓l2,m6,hxV,hyV])
    refine ⟨by kernel_rfl,.inl ?_⟩
    simp only [↓wR,RA,simprocAttr,TF,ae,F7,H7]
    refine ⟨by apply hc;kernel_rfl,?_⟩
    rw [bj];refine ⟨fun hl=>?_,fun hl=>?_⟩
    ·have hll:eh y x=false:=decide_eq_false hl
     simp only [↓wR,RA,simprocAttr,TF,ae,hl];repeat (simp (disch:=omega) only [ah,bh,bf,bg,be];try simp only [↓wR,RA,simprocAttr,TF,ae,hl])
     exact ⟨(u+1,j),⟨by show a≤u+1;omega,by show u+1≤j;omega,p3,fun c _ hcc=>by
      have hcc':L[u+1 - a - 1]? = some c:=hcc
      rw [show u+1 - a - 1=u - a by omega,hx] at hcc';cases hcc';exact hll,p5⟩,by show j - (u+1)<j - i;omega,by (first|rfl|trivial|omega|((try (simp (disch:=omega) only [ah]));(try (simp only [FB]));first|done|rfl|omega))⟩
    ·have hll:eh y x=true:=decide_eq_true (Decidable.not_not.1 hl)
     simp only [↓wR,RA,simprocAttr,TF,ae,hl];repeat (simp (disch:=omega) only [ah,bh,bf,bg,be];try simp only [↓wR,RA,simprocAttr,TF,ae,hl])
     exact ⟨(i,u),⟨p1,by show i≤u;omega,by show u≤m;omega,p4,fun c hcc=>by
      have hcc':L[u - a]? = some c:=hcc
      rw [hx] at hcc';cases hcc';exact hll⟩,by show u - i<j - i;omega,by (first|rfl|trivial|omega|((try (simp (disch:=omega) only [ah]));(try (simp only [FB]));first|done|rfl|omega))⟩
   ·have hij:j=i:=by omega
    subst hij
    have hmo:=U2 (lt:=eh) (y:=y) (l:=L) (i:=j - a) (Gb pv hLV hLR hyV (by omega) p4) (aac pv hLV hLR hyV p5)
    obtain ⟨L1,hL1e⟩:∃ L1,L1=L.take (j - a):=⟨_,rfl⟩
    obtain ⟨L2,hL2e⟩:∃ L2,L2=L.drop (j - a):=⟨_,rfl⟩
    have hLe:L=L1++L2:=by rw [hL1e,hL2e,List.take_append_drop]
    have hl1:L1.length=j - a:=by rw [hL1e,List.length_take];omega
    have hl2:L2.length=m - j:=by rw [hL2e,List.length_drop];omega
    rw [← hL1e,← hL2e] at hmo
    rw [hmo]
    simp only [↓wR,RA,simprocAttr,TF,ae,h]
    refine c8 [0,14,17] (fun (k:Nat)=>[.sl 0 0 N 5,.sc (.int .i64 (j)),.sc (.int .i64 (k))]) (fun k=>[some (.row (cellsOf aj true ((A++L1++L2.take (k - j)++y::(L2.drop (k - j)++Z)))) 0 0 58)]) (fun k=>j≤k∧k≤m) (fun k=>k) m ⟨by omega,Nat.le_refl _⟩ (by simp only [↓wR,RA,simprocAttr,TF,ae]<;>rfl) (by simp only [↓wR,RA,simprocAttr,TF,ae];rw [← hl2,List.take_length,List.drop_length,hLe];simp) ?_
    rintro k ⟨k1,k2⟩
    simp only [↓wR,RA,simprocAttr,TF,ae];repeat (simp (disch:=omega) only [ah,bh,bf,bg,be];try simp only [↓wR,RA,simprocAttr,TF,ae])
    rw [bj];refine ⟨fun hk=>?_,fun hk=>?_⟩
    ·have hkl:j<k:=by omega
     obtain ⟨x,hx⟩:∃ x,L2[k - 1 - j]? = some x:=⟨_,List.getElem?_eq_getElem (by omega)⟩
     obtain ⟨X,hX⟩:∃ X,X=A++L1++L2.take (k - 1 - j):=⟨_,rfl⟩
     obtain ⟨W,hW⟩:∃ W,W=L2.drop (k - j)++Z:=⟨_,rfl⟩
     have hkk:k - j=k - 1 - j+1:=by omega
     have hxl:X.length=k - 1:=by rw [hX,List.length_append,List.length_append,List.length_take];omega
     have hcur:A++L1++L2.take (k - j)++y::(L2.drop (k - j)++Z)=X++x::y::W:=by rw [hX,hW,hkk,iq hx];simp
     have gi:A++L1++L2.take (k - 1 - j)++y::(L2.drop (k - 1 - j)++Z)=X++y::x::W:=by rw [hX,hW,nv hx,hkk];simp
     have g1:(X++x::y::W)[k - 1]? = some x:=by rw [← hxl];exact get_at X _ x
     have hx1:(X++[x]).length=k:=by rw [List.length_append,hxl,List.length_singleton];omega
     have g2:(X++x::y::W)[k]? = some y:=by
      have:=get_at (X++[x]) W y
      rw [hx1] at this
      rw [← this];simp
     have s1:(X++x::y::W).set k x=X++x::x::W:=by
      have:=qz (X++[x]) W y x
      rw [hx1] at this
      simpa using this
     have g3:(X++x::x::W)[k - 1]? = some x:=by rw [← hxl];exact get_at X _ x
     have s2:(X++x::x::W).set (k - 1) y=X++y::x::W:=by rw [← hxl];exact qz X _ x y
     have l1:=ml 0 0 58 g1
     have l2:=ml 0 0 58 g2
     have t1:=uv x 0 58 0 g2
     have t2:=uv y 0 58 0 g3
     rw [s1] at t1
     rw [s2] at t2
     have hk1:(k:Int) - 1=((k - 1:Nat):Int):=by omega
     rw [hcur]
     simp only [↓wR,RA,simprocAttr,TF,ae,hk,hk1,↓l1,↓l2,↓t1,↓t2];repeat (simp (disch:=omega) only [ah,bh,bf,bg,be];try simp only [↓wR,RA,simprocAttr,TF,ae,hk,hk1,↓l1,↓l2,↓t1,↓t2])
     refine ⟨by kernel_rfl,.inl ?_⟩
     exact ⟨by apply hc;kernel_rfl,k - 1,⟨by omega,by omega⟩,by omega,by (first|rfl|trivial|omega|((try (simp (disch:=omega) only [ah]));(try (simp only [FB]));first|done|rfl|omega)),by rw [gi]⟩
    ·have hkj:k - j=0:=by omega
     rw [hkj]
     simp only [↓wR,RA,simprocAttr,TF,ae,hk,gn,fy,fp,List.append_nil]
     simp
  ·have hR1:R.length≠1:=by omega
   obtain ⟨mid,hmid⟩:∃ mid,mid=(a+b) / 2:=⟨_,rfl⟩
   have hhalf:=half a b (by omega)
   rw [← hmid] at hhalf
   have hmm:(mid:Int)+m=((mid+m:Nat):Int):=by omega
   obtain ⟨n,hn⟩:∃ n,n=mid+m:=⟨_,rfl⟩
   rw [← hn] at hmm
   obtain ⟨s0,hs0⟩:∃ s0,s0=if mid<m then n - b else a:=⟨_,rfl⟩
   obtain ⟨r0,hr0⟩:∃ r0,r0=if mid<m then mid else m:=⟨_,rfl⟩
   have hp1:(n:Int) - 1=((n - 1:Nat):Int):=by omega
   have hsr:a≤s0∧s0≤r0∧r0≤m∧r0≤mid∧n - b≤s0:=by subst hs0 hr0;split<;>omega
   obtain ⟨X0,hX0⟩:∃ X0,X0=A++L++R++Z:=⟨_,rfl⟩
   have hXL:∀ k c,L[k]? = some c→X0[a+k]? = some c:=fun k c hk=>by
    have hkl:=(List.getElem?_eq_some_iff.1 hk).1
    rw [hX0,List.append_assoc,List.append_assoc,List.getElem?_append_right (by omega),show a+k - A.length=k by omega,List.getElem?_append_left hkl,hk]
   have hXR:∀ k c,R[k]? = some c→X0[m+k]? = some c:=fun k c hk=>by
    have hkl:=(List.getElem?_eq_some_iff.1 hk).1
    rw [hX0,List.append_assoc (A++L),List.getElem?_append_right (by rw [List.length_append];omega),List.length_append,show m+k - (A.length+L.length)=k by omega,List.getElem?_append_left hkl,hk]
   rw [← hX0]
   have hfin:∀ st,s0≤st→st≤r0→(∀ c e,s0<st→L[st - 1 - a]? = some c→R[n - st - m]? = some e→eh e c=false)→(∀ c e,st<r0→L[st - a]? = some c→R[n - 1 - st - m]? = some e→eh e c=true) →
    ∃ X1 X2,(st<m→m<n - st→gp PP 109 [.sl 0 0 N 5,.sc (.int .i64 (st)),.sc (.int .i64 (m)),.sc (.int .i64 ((n - st:Nat))),(.sc (.func (.func 78) #[] #[]))] (bb [some (.row (cellsOf aj true ((X0))) 0 0 58)]) (fun r st'=>r = .fc []∧st'=bb [some (.row (cellsOf aj true ((X1))) 0 0 58)]))∧(¬ (st<m∧m<n - st)→X0=X1) ∧
     (a<st→st<mid→gp PP 105 [.sl 0 0 N 5,.sc (.int .i64 (a)),.sc (.int .i64 (st)),.sc (.int .i64 (mid)),(.sc (.func (.func 78) #[] #[]))] (bb [some (.row (cellsOf aj true ((X1))) 0 0 58)]) (fun r st'=>r = .fc []∧st'=bb [some (.row (cellsOf aj true ((X2))) 0 0 58)]))∧(¬ (a<st∧st<mid)→X1=X2) ∧
     (mid<n - st→n - st<b→gp PP 105 [.sl 0 0 N 5,.sc (.int .i64 (mid)),.sc (.int .i64 ((n - st:Nat))),.sc (.int .i64 (b)),(.sc (.func (.func 78) #[] #[]))] (bb [some (.row (cellsOf aj true ((X2))) 0 0 58)]) (fun r st'=>r = .fc []∧st'=bb [some (.row (cellsOf aj true ((A++dz eh L R++Z))) 0 0 58)]))∧(¬ (mid<n - st∧n - st<b)→X2=A++dz eh L R++Z):=by
    intro st q1 q2 q3 q4
    obtain ⟨L1,hL1e⟩:∃ L1,L1=L.take (st - a):=⟨_,rfl⟩
    obtain ⟨L2,hL2e⟩:∃ L2,L2=L.drop (st - a):=⟨_,rfl⟩
    obtain ⟨R1,hR1e⟩:∃ R1,R1=R.take (mid - st):=⟨_,rfl⟩
    obtain ⟨R2,hR2e⟩:∃ R2,R2=R.drop (mid - st):=⟨_,rfl⟩
    have hLe:L=L1++L2:=by rw [hL1e,hL2e,List.take_append_drop]
    have hRe:R=R1++R2:=by rw [hR1e,hR2e,List.take_append_drop]
    have n1:L1.length=st - a:=by rw [hL1e,List.length_take];omega
    have n2:L2.length=m - st:=by rw [hL2e,List.length_drop];omega
    have n3:R1.length=mid - st:=by rw [hR1e,List.length_take];omega
    have n4:R2.length=b - (n - st):=by rw [hR2e,List.length_drop];omega
    have r1:ir eh L1:=by rw [hL1e];exact hLR.take _
    have r2:ir eh L2:=by rw [hL2e];exact hLR.drop _
    have r3:ir eh R1:=by rw [hR1e];exact hRR.take _
    have r4:ir eh R2:=by rw [hR2e];exact hRR.drop _
    have v1:∀ x ∈ L1,de x:=fun x hx=>hLV x (by rw [hLe];simp [hx])
    have v2:∀ x ∈ L2,de x:=fun x hx=>hLV x (by rw [hLe];simp [hx])
    have v3:∀ x ∈ R1,de x:=fun x hx=>hRV x (by rw [hRe];simp [hx])
    have v4:∀ x ∈ R2,de x:=fun x hx=>hRV x (by rw [hRe];simp [hx])
    have f1:∀ x ∈ L1,∀ y ∈ R2,eh y x=false:=by
     by_cases k1:a<st
     ·by_cases k2:n - st<b
      ·obtain ⟨c,hcc⟩:∃ c,L[st - 1 - a]? = some c:=⟨_,List.getElem?_eq_getElem (by omega)⟩
       obtain ⟨e,hee⟩:∃ e,R[n - st - m]? = some e:=⟨_,List.getElem?_eq_getElem (by omega)⟩
       have hlt:=q3 c e (by subst hs0;split<;>omega) hcc hee
       have t1:L1=L.take (st - 1 - a)++[c]:=by rw [hL1e,show st - a=st - 1 - a+1 by omega,iq hcc]
       have t2:R2=e::R.drop (n - st - m+1):=by rw [hR2e,show mid - st=n - st - m by omega,nv hee]
       rw [t1,t2]
       exact Nx pv (fun z hz=>v1 z (by rw [t1];exact hz)) (fun z hz=>v4 z (by rw [t2];exact hz)) (by rw [← t1];exact r1) (by rw [← t2];exact r4) hlt
      ·have:R2=[]:=List.eq_nil_of_length_eq_zero (by omega)
       rw [this];intro x _ y hy;cases hy
     ·have:L1=[]:=List.eq_nil_of_length_eq_zero (by omega)
      rw [this];intro x hx;cases hx
    have f2:∀ x ∈ L2,∀ y ∈ R1,eh y x=true:=by
     by_cases k1:st<m
     ·by_cases k2:st<mid
      ·obtain ⟨c,hcc⟩:∃ c,L[st - a]? = some c:=⟨_,List.getElem?_eq_getElem (by omega)⟩
       obtain ⟨e,hee⟩:∃ e,R[n - 1 - st - m]? = some e:=⟨_,List.getElem?_eq_getElem (by omega)⟩
       have hlt:=q4 c e (by subst hr0;split<;>omega) hcc hee
       have t1:L2=c::L.drop (st - a+1):=by rw [hL2e,nv hcc]
       have t2:R1=R.take (n - 1 - st - m)++[e]:=by rw [hR1e,show mid - st=n - 1 - st - m+1 by omega,iq hee]
       rw [t1,t2]
       exact Jx pv (fun z hz=>v2 z (by rw [t1];exact hz)) (fun z hz=>v3 z (by rw [t2];exact hz)) (by rw [← t1];exact r2) (by rw [← t2];exact r3) hlt
      ·have:R1=[]:=List.eq_nil_of_length_eq_zero (by omega)
       rw [this];intro x _ y hy;cases hy
     ·have:L2=[]:=List.eq_nil_of_length_eq_zero (by omega)
      rw [this];intro x hx;cases hx
    have hmg:dz eh L R=dz eh L1 R1++dz eh L2 R2:=by rw [hLe,hRe];exact qa L1 L2 R1 R2 f1 f2
    have m1:(dz eh L1 R1).length=mid - a:=by rw [S5];omega
    have hNa:N=A.length+L1.length+L2.length+R1.length+R2.length+Z.length:=by omega
    refine ⟨A++L1++R1++(L2++R2++Z),A++dz eh L1 R1++(L2++R2++Z),fun k1 k2=>?_,fun k=>?_,fun k1 k2=>?_,fun k=>?_,fun k1 k2=>?_,fun k=>?_⟩
    ·have:=abr N st m (n - st) (A++L1) L2 R1 (R2++Z) (by simp only [List.length_append];omega) hs (by rw [List.length_append];omega) (by omega) (by omega) (by omega) (by omega)
     rw [show A++L1++L2++R1++(R2++Z)=X0 by rw [hX0,hLe,hRe];simp,show A++L1++R1++L2++(R2++Z)=A++L1++R1++(L2++R2++Z) by simp] at this
     exact this
    ·rw [hX0,hLe,hRe]
     by_cases k1:st<m
     ·have:R1=[]:=List.eq_nil_of_length_eq_zero (by omega)
      rw [this];simp
     ·have:L2=[]:=List.eq_nil_of_length_eq_zero (by omega)
      rw [this];simp
    ·exact ih N a st mid A L1 R1 (L2++R2++Z) (by omega) (by simp only [List.length_append];omega) hs ha (by omega) (by omega) (by omega) (by omega) v1 v3 r1 r3
    ·by_cases k1:a<st
     ·have:R1=[]:=List.eq_nil_of_length_eq_zero (by omega)
      rw [this,jb];simp
     ·have:L1=[]:=List.eq_nil_of_length_eq_zero (by omega)
      rw [this,js];simp
    ·have:=ih N mid (n - st) b (A++dz eh L1 R1) L2 R2 Z (by omega) (by simp only [List.length_append,m1];omega) hs (by rw [List.length_append,m1];omega) (by omega) (by omega) (by omega) (by omega) v2 v4 r2 r4
     rw [hmg]
     rw [show A++dz eh L1 R1++L2++R2++Z=A++dz eh L1 R1++(L2++R2++Z) by simp,show A++dz eh L1 R1++dz eh L2 R2++Z=A++(dz eh L1 R1++dz eh L2 R2)++Z by simp] at this
     exact this
    ·rw [hmg]
     by_cases k1:mid<n - st
     ·have:R2=[]:=List.eq_nil_of_length_eq_zero (by omega)
      rw [this,jb];simp
     ·have:L2=[]:=List.eq_nil_of_length_eq_zero (by omega)
      rw [this,js];simp
   simp only [↓wR,RA,simprocAttr,TF,ae,h2,hhalf,hmm];repeat (simp (disch:=omega) only [ah,bh,bf,bg,be];try simp only [↓wR,RA,simprocAttr,TF,ae,h2,hhalf,hmm])
   rw [bj];refine ⟨fun hg=>?_,fun hg=>?_⟩
   ·have e3:(n:Int) - b=((s0:Nat):Int):=by rw [hs0,if_pos (by omega)];omega
    have e4:((mid:Nat):Int)=((r0:Nat):Int):=by rw [hr0,if_pos (by omega)]
    simp only [↓wR,RA,simprocAttr,TF,ae,hg,e3,hp1];repeat (simp (disch:=omega) only [ah,bh,bf,bg,be];try simp only [↓wR,RA,simprocAttr,TF,ae,hg,e3,hp1])
    refine c8 [0,1,2,3,4,18,19,20,21,22] (fun (p:Nat × Nat)=>[.sl 0 0 N 5,.sc (.int .i64 (a)),.sc (.int .i64 (m)),.sc (.int .i64 (b)),(.sc (.func (.func 78) #[] #[])),.sc (.int .i64 (mid)),.sc (.int .i64 (n)),.sc (.int .i64 (p.1)),.sc (.int .i64 (p.2)),.sc (.int .i64 (((n - 1:Nat):Int)))]) (fun _=>[some (.row (cellsOf aj true ((X0))) 0 0 58)]) (fun p=>s0≤p.1∧p.1≤p.2∧p.2≤r0∧(∀ c e,s0<p.1→L[p.1 - 1 - a]? = some c→R[n - p.1 - m]? = some e→eh e c=false)∧(∀ c e,p.2<r0→L[p.2 - a]? = some c→R[n - 1 - p.2 - m]? = some e→eh e c=true)) (fun p=>p.2 - p.1) (s0,r0) ⟨Nat.le_refl _,hsr.2.1,Nat.le_refl _,fun _ _ q=>absurd q (Nat.lt_irrefl _),fun _ _ q=>absurd q (Nat.lt_irrefl _)⟩ (by simp only [↓wR,RA,simprocAttr,TF,ae];rw [e4]) (by simp only [↓wR,RA,simprocAttr,TF,ae]<;>rfl) ?_
    rintro ⟨i,j⟩ ⟨p1,p2,p3,p4,p5⟩
    simp only [] at p1 p2 p3 p4 p5 ⊢
    simp only [↓wR,RA,simprocAttr,TF,ae]
    rw [bj];refine ⟨fun h=>?_,fun h=>?_⟩
    ·have hlt:i<j:=by omega
     obtain ⟨u,hu⟩:∃ u,u=(i+j) / 2:=⟨_,rfl⟩
     have hub:i≤u∧u<j:=by omega
     have hhalf2:=half i j (by omega)
     rw [← hu] at hhalf2
     obtain ⟨x,hx⟩:∃ x,L[u - a]? = some x:=⟨_,List.getElem?_eq_getElem (by omega)⟩
     obtain ⟨y,hy⟩:∃ y,R[n - 1 - u - m]? = some y:=⟨_,List.getElem?_eq_getElem (by omega)⟩
     have hxV:=hLV x (List.mem_of_getElem? hx)
     have hyV:=hRV y (List.mem_of_getElem? hy)
     have gx:=hXL _ _ hx
     rw [show a+(u - a)=u by omega] at gx
     have gy:=hXR _ _ hy
     rw [show m+(n - 1 - u - m)=n - 1 - u by omega] at gy
     have hpu:((n - 1:Nat):Int) - u=((n - 1 - u:Nat):Int):=by omega
     have l1:=ml 0 0 58 gx
     have l2:=ml 0 0 58 gy
     simp only [↓wR,RA,simprocAttr,TF,ae,h,hhalf2,hpu,↓l1,↓l2,m6,hxV,hyV];repeat (simp (disch:=omega) only [ah,bh,bf,bg,be];try simp only [↓wR,RA,simprocAttr,TF,ae,h,hhalf2,hpu,↓l1,↓l2,m6,hxV,hyV])
     refine ⟨by kernel_rfl,.inl ?_⟩
     simp only [↓wR,RA,simprocAttr,TF,ae,F7,H7]
     refine ⟨by apply hc;kernel_rfl,?_⟩
     rw [bj];refine ⟨fun hl=>?_,fun hl=>?_⟩
     ·have hll:eh y x=false:=decide_eq_false hl
      simp only [↓wR,RA,simprocAttr,TF,ae,hl];repeat (simp (disch:=omega) only [ah,bh,bf,bg,be];try simp only [↓wR,RA,simprocAttr,TF,ae,hl])
      exact ⟨(u+1,j),⟨by show s0≤u+1;omega,by show u+1≤j;omega,p3,fun c e _ hcc hee=>by
       have hcc':L[u+1 - 1 - a]? = some c:=hcc
       have hee':R[n - (u+1) - m]? = some e:=hee
       rw [show u+1 - 1 - a=u - a by omega,hx] at hcc'
       rw [show n - (u+1) - m=n - 1 - u - m by omega,hy] at hee'
       cases hcc';cases hee';exact hll,p5⟩,by show j - (u+1)<j - i;omega,by (first|rfl|trivial|omega|((try (simp (disch:=omega) only [ah]));(try (simp only [FB]));first|done|rfl|omega))⟩
     ·have hll:eh y x=true:=decide_eq_true (Decidable.not_not.1 hl)
      simp only [↓wR,RA,simprocAttr,TF,ae,hl];repeat (simp (disch:=omega) only [ah,bh,bf,bg,be];try simp only [↓wR,RA,simprocAttr,TF,ae,hl])
      exact ⟨(i,u),⟨p1,by show i≤u;omega,by show u≤r0;omega,p4,fun c e _ hcc hee=>by
       have hcc':L[u - a]? = some c:=hcc
       have hee':R[n - 1 - u - m]? = some e:=hee
       rw [hx] at hcc';rw [hy] at hee'
       cases hcc';cases hee';exact hll⟩,by show u - i<j - i;omega,by (first|rfl|trivial|omega|((try (simp (disch:=omega) only [ah]));(try (simp only [FB]));first|done|rfl|omega))⟩
    ·have hij:j=i:=by omega
     subst hij
     obtain ⟨X1,X2,c1,c2,c3,c4,c5,c6⟩:=hfin j p1 p3 p4 p5
     have hen:(n:Int) - j=((n - j:Nat):Int):=by omega
     obtain ⟨en,hen2⟩:∃ en,en=n - j:=⟨_,rfl⟩
     rw [← hen2] at c1 c2 c5 c6 hen
     obtain ⟨X3,hX3⟩:∃ X3,X3=A++dz eh L R++Z:=⟨_,rfl⟩
     rw [← hX3] at c5 c6 ⊢
     have b1:m<en↔j<mid:=by omega
     have b2:mid<en↔j<m:=by omega
     by_cases k1:a<j<;>by_cases k2:j<m<;>by_cases k3:j<mid<;>by_cases k4:en<b<;>first
      |(exfalso;omega)
      |(
       have d1:=k1
       have d2:=k2
       have d3:=k3
       have d4:=k4
       have hwr:IntKind.i64.wrap (en:Int)=en:=ah _ (by omega) (by omega)
       have d5:decide (m<en)=decide (j<mid):=decide_eq_decide.2 b1
       have d6:decide (mid<en)=decide (j<m):=decide_eq_decide.2 b2
       (try rw [c2 (by omega)])
       simp only [↓wR,RA,simprocAttr,TF,ae,h,hen,hwr,yn,d1,d2,d3,d4,d5,d6]
       (try (refine ee (c1 (by omega) (by omega)) ?_;rintro _ _ ⟨rfl,rfl⟩;simp only [↓wR,RA,simprocAttr,TF,ae,cx,h,hen,hwr,yn,d1,d2,d3,d4,d5,d6]))
       (try rw [c4 (by omega)])
       (try (refine ee (c3 (by omega) (by omega)) ?_;rintro _ _ ⟨rfl,rfl⟩;simp only [↓wR,RA,simprocAttr,TF,ae,cx,h,hen,hwr,yn,d1,d2,d3,d4,d5,d6]))
       (try rw [c6 (by omega)])
       (try (refine ee (c5 (by omega) (by omega)) ?_;rintro _ _ ⟨rfl,rfl⟩;simp only [↓wR,RA,simprocAttr,TF,ae,cx,h,hen,hwr,yn,d1,d2,d3,d4,d5,d6]))
       simp only [↓wR,RA,simprocAttr,TF,ae,gn,fy,fp])
   ·have e3:((a:Nat):Int)=((s0:Nat):Int):=by rw [hs0,if_neg (by omega)]
    have e4:((m:Nat):Int)=((r0:Nat):Int):=by rw [hr0,if_neg (by omega)]
    simp only [↓wR,RA,simprocAttr,TF,ae,hg,hp1];repeat (simp (disch:=omega) only [ah,bh,bf,bg,be];try simp only [↓wR,RA,simprocAttr,TF,ae,hg,hp1])
    refine c8 [0,1,2,3,4,18,19,20,21,22] (fun (p:Nat × Nat)=>[.sl 0 0 N 5,.sc (.int .i64 (a)),.sc (.int .i64 (m)),.sc (.int .i64 (b)),(.sc (.func (.func 78) #[] #[])),.sc (.int .i64 (mid)),.sc (.int .i64 (n)),.sc (.int .i64 (p.1)),.sc (.int .i64 (p.2)),.sc (.int .i64 (((n - 1:Nat):Int)))]) (fun _=>[some (.row (cellsOf aj true ((X0))) 0 0 58)]) (fun p=>s0≤p.1∧p.1≤p.2∧p.2≤r0∧(∀ c e,s0<p.1→L[p.1 - 1 - a]? = some c→R[n - p.1 - m]? = some e→eh e c=false)∧(∀ c e,p.2<r0→L[p.2 - a]? = some c→R[n - 1 - p.2 - m]? = some e→eh e c=true)) (fun p=>p.2 - p.1) (s0,r0) ⟨Nat.le_refl _,hsr.2.1,Nat.le_refl _,fun _ _ q=>absurd q (Nat.lt_irrefl _),fun _ _ q=>absurd q (Nat.lt_irrefl _)⟩ (by simp only [↓wR,RA,simprocAttr,TF,ae];rw [← e3,← e4]) (by simp only [↓wR,RA,simprocAttr,TF,ae]<;>rfl) ?_
    rintro ⟨i,j⟩ ⟨p1,p2,p3,p4,p5⟩
    simp only [] at p1 p2 p3 p4 p5 ⊢
    simp only [↓wR,RA,simprocAttr,TF,ae]
    rw [bj];refine ⟨fun h=>?_,fun h=>?_⟩
    ·have hlt:i<j:=by omega
     obtain ⟨u,hu⟩:∃ u,u=(i+j) / 2:=⟨_,rfl⟩
     have hub:i≤u∧u<j:=by omega
     have hhalf2:=half i j (by omega)
     rw [← hu] at hhalf2
     obtain ⟨x,hx⟩:∃ x,L[u - a]? = some x:=⟨_,List.getElem?_eq_getElem (by omega)⟩
     obtain ⟨y,hy⟩:∃ y,R[n - 1 - u - m]? = some y:=⟨_,List.getElem?_eq_getElem (by omega)⟩
     have hxV:=hLV x (List.mem_of_getElem? hx)
     have hyV:=hRV y (List.mem_of_getElem? hy)
     have gx:=hXL _ _ hx
     rw [show a+(u - a)=u by omega] at gx
     have gy:=hXR _ _ hy
     rw [show m+(n - 1 - u - m)=n - 1 - u by omega] at gy
     have hpu:((n - 1:Nat):Int) - u=((n - 1 - u:Nat):Int):=by omega
     have l1:=ml 0 0 58 gx
     have l2:=ml 0 0 58 gy
     simp only [↓wR,RA,simprocAttr,TF,ae,h,hhalf2,hpu,↓l1,↓l2,m6,hxV,hyV];repeat (simp (disch:=omega) only [ah,bh,bf,bg,be];try simp only [↓wR,RA,simprocAttr,TF,ae,h,hhalf2,hpu,↓l1,↓l2,m6,hxV,hyV])
     refine ⟨by kernel_rfl,.inl ?_⟩
     simp only [↓wR,RA,simprocAttr,TF,ae,F7,H7]
     refine ⟨by apply hc;kernel_rfl,?_⟩
     rw [bj];refine ⟨fun hl=>?_,fun hl=>?_⟩
     ·have hll:eh y x=false:=decide_eq_false hl
      simp only [↓wR,RA,simprocAttr,TF,ae,hl];repeat (simp (disch:=omega) only [ah,bh,bf,bg,be];try simp only [↓wR,RA,simprocAttr,TF,ae,hl])
      exact ⟨(u+1,j),⟨by show s0≤u+1;omega,by show u+1≤j;omega,p3,fun c e _ hcc hee=>by
       have hcc':L[u+1 - 1 - a]? = some c:=hcc
       have hee':R[n - (u+1) - m]? = some e:=hee
       rw [show u+1 - 1 - a=u - a by omega,hx] at hcc'
       rw [show n - (u+1) - m=n - 1 - u - m by omega,hy] at hee'
       cases hcc';cases hee';exact hll,p5⟩,by show j - (u+1)<j - i;omega,by (first|rfl|trivial|omega|((try (simp (disch:=omega) only [ah]));(try (simp only [FB]));first|done|rfl|omega))⟩
     ·have hll:eh y x=true:=decide_eq_true (Decidable.not_not.1 hl)
      simp only [↓wR,RA,simprocAttr,TF,ae,hl];repeat (simp (disch:=omega) only [ah,bh,bf,bg,be];try simp only [↓wR,RA,simprocAttr,TF,ae,hl])
      exact ⟨(i,u),⟨p1,by show i≤u;omega,by show u≤r0;omega,p4,fun c e _ hcc hee=>by
       have hcc':L[u - a]? = some c:=hcc
       have hee':R[n - 1 - u - m]? = some e:=hee
       rw [hx] at hcc';rw [hy] at hee'
       cases hcc';cases hee';exact hll⟩,by show u - i<j - i;omega,by (first|rfl|trivial|omega|((try (simp (disch:=omega) only [ah]));(try (simp only [FB]));first|done|rfl|omega))⟩
    ·have hij:j=i:=by omega
     subst hij
     obtain ⟨X1,X2,c1,c2,c3,c4,c5,c6⟩:=hfin j p1 p3 p4 p5
     have hen:(n:Int) - j=((n - j:Nat):Int):=by omega
     obtain ⟨en,hen2⟩:∃ en,en=n - j:=⟨_,rfl⟩
     rw [← hen2] at c1 c2 c5 c6 hen
     obtain ⟨X3,hX3⟩:∃ X3,X3=A++dz eh L R++Z:=⟨_,rfl⟩
     rw [← hX3] at c5 c6 ⊢
     have b1:m<en↔j<mid:=by omega
     have b2:mid<en↔j<m:=by omega
     by_cases k1:a<j<;>by_cases k2:j<m<;>by_cases k3:j<mid<;>by_cases k4:en<b<;>first
      |(exfalso;omega)
      |(
       have d1:=k1
       have d2:=k2
       have d3:=k3
       have d4:=k4
       have hwr:IntKind.i64.wrap (en:Int)=en:=ah _ (by omega) (by omega)
       have d5:decide (m<en)=decide (j<mid):=decide_eq_decide.2 b1
       have d6:decide (mid<en)=decide (j<m):=decide_eq_decide.2 b2
       (try rw [c2 (by omega)])
       simp only [↓wR,RA,simprocAttr,TF,ae,h,hen,hwr,yn,d1,d2,d3,d4,d5,d6]
       (try (refine ee (c1 (by omega) (by omega)) ?_;rintro _ _ ⟨rfl,rfl⟩;simp only [↓wR,RA,simprocAttr,TF,ae,cx,h,hen,hwr,yn,d1,d2,d3,d4,d5,d6]))
       (try rw [c4 (by omega)])
       (try (refine ee (c3 (by omega) (by omega)) ?_;rintro _ _ ⟨rfl,rfl⟩;simp only [↓wR,RA,simprocAttr,TF,ae,cx,h,hen,hwr,yn,d1,d2,d3,d4,d5,d6]))
       (try rw [c6 (by omega)])
       (try (refine ee (c5 (by omega) (by omega)) ?_;rintro _ _ ⟨rfl,rfl⟩;simp only [↓wR,RA,simprocAttr,TF,ae,cx,h,hen,hwr,yn,d1,d2,d3,d4,d5,d6]))
       simp only [↓wR,RA,simprocAttr,TF,ae,gn,fy,fp])
set_option maxHeartbeats 20000000 in
theorem Lr (s:aw) (d:Nat):∀ (N a m b:Nat) (A L R Z:List bn),b - a≤d→N=(A++L++R++Z).length→N≤1048576→a=A.length→m=a+L.length→b=m+R.length→0<L.length→0<R.length→(∀ x ∈ L,tx s.type x)→(∀ x ∈ R,tx s.type x)→ir (fe s.type) L→ir (fe s.type) R →
 gp PP 107 [.sl 0 0 N 4,.sc (.int .i64 (a)),.sc (.int .i64 (m)),.sc (.int .i64 (b)),(.fn (.func 81) [] [.ptr 1 0])] (bb [some (.row (cellsOf ak true ((A++L++R++Z))) 0 0 44),some (.row [.vl false 1 (s.owner.map (ai.val false)),.sc (.int .u16 s.type.toNat),.sc (.int .u16 s.cls.toNat),.sc (.int .u32 s.b7.toNat),.vl false 4 (s.data.map (ak.val false))] 0 2 58)])
  (fun r st'=>r = .fc []∧st'=bb [some (.row (cellsOf ak true ((A++dz (fe s.type) L R++Z))) 0 0 44),some (.row [.vl false 1 (s.owner.map (ai.val false)),.sc (.int .u16 s.type.toNat),.sc (.int .u16 s.cls.toNat),.sc (.int .u32 s.b7.toNat),.vl false 4 (s.data.map (ak.val false))] 0 2 58)]):=by
 induction d with
 |zero=>intro N a m b A L R Z hd hN hs ha hm hb hl hr;omega
 |succ d ih=>
 intro N a m b A L R Z hd hN hs ha hm hb hl hr hLV hRV hLR hRR
 have hc:∀ a b c d,c0 a b c=d→c0 a b c=d:=fun _ _ _ _ h=>h
 have hlen:N=A.length+L.length+R.length+Z.length:=by rw [hN];simp;omega
 refine ct _ rfl ?_ (fun r st' h=>h)
 refine bm (T:=[aei]) (aq.cons (ar K8) (aq.nil PP)) mixed Tryz.func107 rfl (by kernel_rfl) (by kernel_rfl) (by kernel_rfl) (by kernel_rfl) ?_;unfold Tryz.f107
 have hi1:(m:Int) - a=((L.length:Nat):Int):=by omega
 simp only [↓wR,RA,simprocAttr,TF,ae,hi1];repeat (simp (disch:=omega) only [ah,bh,bf,bg,be];try simp only [↓wR,RA,simprocAttr,TF,ae,hi1])
 rw [eb];refine ⟨fun ⟨h1,e1⟩=>?_,fun ⟨h1,e1⟩=>?_⟩
 ·have hL1:L.length=1:=by omega
  obtain ⟨x,rfl⟩:∃ x,L=[x]:=List.length_eq_one_iff.1 hL1
  have hxV:=hLV x (by simp)
  have hRb:∀ k c,R[k]? = some c→(A++[x]++R++Z)[m+k]? = some c:=fun k c hk=>by
   have hkl:=(List.getElem?_eq_some_iff.1 hk).1
   rw [List.append_assoc (A++[x]),List.getElem?_append_right (by simp at hm ⊢;omega),show m+k - (A++[x]).length=k by simp at hm ⊢;omega,List.getElem?_append_left hkl,hk]
  have gx:(A++[x]++R++Z)[a]? = some x:=by
   rw [List.append_assoc,List.append_assoc,ha];exact get_at A _ x
  simp only [↓wR,RA,simprocAttr,TF,ae,h1];repeat (simp (disch:=omega) only [ah,bh,bf,bg,be];try simp only [↓wR,RA,simprocAttr,TF,ae,h1])
  refine c8 [0,1,4,10,11] (fun (p:Nat × Nat)=>[.sl 0 0 N 4,.sc (.int .i64 (a)),(.fn (.func 81) [] [.ptr 1 0]),.sc (.int .i64 (p.1)),.sc (.int .i64 (p.2))]) (fun _=>[some (.row (cellsOf ak true ((A++[x]++R++Z))) 0 0 44),some (.row [.vl false 1 (s.owner.map (ai.val false)),.sc (.int .u16 s.type.toNat),.sc (.int .u16 s.cls.toNat),.sc (.int .u32 s.b7.toNat),.vl false 4 (s.data.map (ak.val false))] 0 2 58)]) (fun p=>m≤p.1∧p.1≤p.2∧p.2≤b∧(∀ c,0<p.1 - m→R[p.1 - m - 1]? = some c→(fe s.type) c x=true)∧(∀ c,R[p.2 - m]? = some c→(fe s.type) c x=false)) (fun p=>p.2 - p.1) (m,b) ⟨Nat.le_refl _,by show m≤b;omega,Nat.le_refl _,fun c hq=>by simp at hq,fun c hq=>by rw [List.getElem?_eq_none (by show R.length≤b - m;omega)] at hq;cases hq⟩ (by simp only [↓wR,RA,simprocAttr,TF,ae]<;>rfl) (by simp only [↓wR,RA,simprocAttr,TF,ae]<;>rfl) ?_
  rintro ⟨i,j⟩ ⟨p1,p2,p3,p4,p5⟩
  simp only [] at p1 p2 p3 p4 p5 ⊢
  simp only [↓wR,RA,simprocAttr,TF,ae]
  rw [bj];refine ⟨fun h=>?_,fun h=>?_⟩
  ·have hlt:i<j:=by omega
   obtain ⟨u,hu⟩:∃ u,u=(i+j) / 2:=⟨_,rfl⟩
   have hub:i≤u∧u<j:=by omega
   have hhalf:=half i j (by omega)
   rw [← hu] at hhalf
   obtain ⟨y,hy⟩:∃ y,R[u - m]? = some y:=⟨_,List.getElem?_eq_getElem (by omega)⟩
   have hyV:=hRV y (List.mem_of_getElem? hy)
   have gy:=hRb _ _ hy
   rw [show m+(u - m)=u by omega] at gy
   have l1:=kn 0 0 44 gx
   have l2:=kn 0 0 44 gy
   simp only [↓wR,RA,simprocAttr,TF,ae,h,hhalf,↓l1,↓l2,m5,hxV.1,hyV.1];repeat (simp (disch:=omega) only [ah,bh,bf,bg,be];try simp only [↓wR,RA,simprocAttr,TF,ae,h,hhalf,↓l1,↓l2,m5,hxV.1,hyV.1])
   refine ⟨by kernel_rfl,.inl ?_⟩
   rw [w8 (g:=81) (a:=[]) (b:=[.ptr 1 0])]
   rotate_left
   ·rfl
   simp only [↓wR,RA,simprocAttr,TF,ae]
   refine ⟨by apply hc;kernel_rfl,?_⟩
   rw [bj];refine ⟨fun hl=>?_,fun hl=>?_⟩
   ·have hll:(fe s.type) y x=true:=decide_eq_true hl
    simp only [↓wR,RA,simprocAttr,TF,ae,hl];repeat (simp (disch:=omega) only [ah,bh,bf,bg,be];try simp only [↓wR,RA,simprocAttr,TF,ae,hl])
    exact ⟨(u+1,j),⟨by show m≤u+1;omega,by show u+1≤j;omega,p3,fun c _ hcc=>by
     have hcc':R[u+1 - m - 1]? = some c:=hcc
     rw [show u+1 - m - 1=u - m by omega,hy] at hcc';cases hcc';exact hll,p5⟩,by show j - (u+1)<j - i;omega,by (first|rfl|trivial|omega|((try (simp (disch:=omega) only [ah]));(try (simp only [FB]));first|done|rfl|omega))⟩
   ·have hll:(fe s.type) y x=false:=decide_eq_false hl
    simp only [↓wR,RA,simprocAttr,TF,ae,hl];repeat (simp (disch:=omega) only [ah,bh,bf,bg,be];try simp only [↓wR,RA,simprocAttr,TF,ae,hl])
    exact ⟨(i,u),⟨p1,by show i≤u;omega,by show u≤b;omega,p4,fun c hcc=>by
     have hcc':R[u - m]? = some c:=hcc
     rw [hy] at hcc';cases hcc';exact hll⟩,by show u - i<j - i;omega,by (first|rfl|trivial|omega|((try (simp (disch:=omega) only [ah]));(try (simp only [FB]));first|done|rfl|omega))⟩
  ·have hij:j=i:=by omega
   subst hij
   have hmo:=Zl (lt:=(fe s.type)) (x:=x) (l:=R) (i:=j - m) (Zj (o0 s.type) hRV hRR hxV (by omega) p4) p5
   obtain ⟨R1,hR1⟩:∃ R1,R1=R.take (j - m):=⟨_,rfl⟩
   obtain ⟨R2,hR2⟩:∃ R2,R2=R.drop (j - m):=⟨_,rfl⟩
   have hRe:R=R1++R2:=by rw [hR1,hR2,List.take_append_drop]
   have hR1l:R1.length=j - m:=by rw [hR1,List.length_take];omega
   rw [← hR1,← hR2] at hmo
   rw [hmo]
   simp only [↓wR,RA,simprocAttr,TF,ae,h]
   refine c8 [0,10,13] (fun (k:Nat)=>[.sl 0 0 N 4,.sc (.int .i64 (j)),.sc (.int .i64 (k))]) (fun k=>[some (.row (cellsOf ak true ((A++R1.take (k - a)++x::(R1.drop (k - a)++R2++Z)))) 0 0 44),some (.row [.vl false 1 (s.owner.map (ai.val false)),.sc (.int .u16 s.type.toNat),.sc (.int .u16 s.cls.toNat),.sc (.int .u32 s.b7.toNat),.vl false 4 (s.data.map (ak.val false))] 0 2 58)]) (fun k=>a≤k∧k+1≤j) (fun k=>j - k) a ⟨Nat.le_refl _,by omega⟩ (by simp only [↓wR,RA,simprocAttr,TF,ae]<;>rfl) (by simp only [↓wR,RA,simprocAttr,TF,ae];rw [hRe];simp) ?_
   rintro k ⟨k1,k2⟩
   simp only [↓wR,RA,simprocAttr,TF,ae];repeat (simp (disch:=omega) only [ah,bh,bf,bg,be];try simp only [↓wR,RA,simprocAttr,TF,ae])
   rw [bj];refine ⟨fun hk=>?_,fun hk=>?_⟩
   ·have hkl:k+1<j:=by omega
    obtain ⟨y,hy⟩:∃ y,R1[k - a]? = some y:=⟨_,List.getElem?_eq_getElem (by omega)⟩
    obtain ⟨X,hX⟩:∃ X,X=A++R1.take (k - a):=⟨_,rfl⟩
    obtain ⟨W,hW⟩:∃ W,W=R1.drop (k - a+1)++R2++Z:=⟨_,rfl⟩
    have hxl:X.length=k:=by rw [hX,List.length_append,List.length_take];omega
    have hcur:A++R1.take (k - a)++x::(R1.drop (k - a)++R2++Z)=X++x::y::W:=by rw [hX,hW,nv hy];simp
    have gi:A++R1.take (k+1 - a)++x::(R1.drop (k+1 - a)++R2++Z)=X++y::x::W:=by rw [hX,hW,show k+1 - a=k - a+1 by omega,iq hy];simp
    have g1:(X++x::y::W)[k]? = some x:=by rw [← hxl];exact get_at X _ x
    have hx1:(X++[x]).length=k+1:=by rw [List.length_append,hxl];rfl
    have hy1:(X++[y]).length=k+1:=by rw [List.length_append,hxl];rfl
    have g2:(X++x::y::W)[k+1]? = some y:=by
     have:=get_at (X++[x]) W y
     rw [hx1] at this
     rw [← this];simp
    have s1:(X++x::y::W).set k y=X++y::y::W:=by rw [← hxl];exact qz X _ x y
    have g3:(X++y::y::W)[k+1]? = some y:=by
     have:=get_at (X++[y]) W y
     rw [hy1] at this
     rw [← this];simp
    have s2:(X++y::y::W).set (k+1) x=X++y::x::W:=by
     have:=qz (X++[y]) W y x
     rw [hy1] at this
     simpa using this
    have l1:=kn 0 0 44 g1
    have l2:=kn 0 0 44 g2
    have t1:=tl y 0 44 0 g1
    have t2:=tl x 0 44 0 g3
    rw [s1] at t1
    rw [s2] at t2
    have hk1:(k:Int)+1=((k+1:Nat):Int):=by omega
    rw [hcur]
    simp only [↓wR,RA,simprocAttr,TF,ae,hk,hk1,↓l1,↓l2,↓t1,↓t2];repeat (simp (disch:=omega) only [ah,bh,bf,bg,be];try simp only [↓wR,RA,simprocAttr,TF,ae,hk,hk1,↓l1,↓l2,↓t1,↓t2])
    refine ⟨by kernel_rfl,.inl ?_⟩
    exact ⟨by apply hc;kernel_rfl,k+1,⟨by omega,by omega⟩,by omega,by (first|rfl|trivial|omega|((try (simp (disch:=omega) only [ah]));(try (simp only [FB]));first|done|rfl|omega)),by rw [gi]⟩
   ·have hkj:k - a=R1.length:=by omega
    rw [hkj,List.take_length,List.drop_length]
    simp only [↓wR,RA,simprocAttr,TF,ae,hk,gn,fy,fp,List.append_nil]
    simp
 ·have hL1:L.length≠1:=by omega
  have hi2:(b:Int) - m=((R.length:Nat):Int):=by omega
  simp only [↓wR,RA,simprocAttr,TF,ae,h1,hi2];repeat (simp (disch:=omega) only [ah,bh,bf,bg,be];try simp only [↓wR,RA,simprocAttr,TF,ae,h1,hi2])
  rw [eb];refine ⟨fun ⟨h2,e2⟩=>?_,fun ⟨h2,e2⟩=>?_⟩
  ·have hR1:R.length=1:=by omega
   obtain ⟨y,rfl⟩:∃ y,R=[y]:=List.length_eq_one_iff.1 hR1
   have hyV:=hRV y (by simp)
   have hLb:∀ k c,L[k]? = some c→(A++L++[y]++Z)[a+k]? = some c:=fun k c hk=>by
    have hkl:=(List.getElem?_eq_some_iff.1 hk).1
    rw [List.append_assoc,List.append_assoc,List.getElem?_append_right (by omega),show a+k - A.length=k by omega,List.getElem?_append_left hkl,hk]
   have gy:(A++L++[y]++Z)[m]? = some y:=by
    rw [List.append_assoc,show m=(A++L).length by rw [List.length_append];omega];exact get_at (A++L) _ y
   simp only [↓wR,RA,simprocAttr,TF,ae,h2];repeat (simp (disch:=omega) only [ah,bh,bf,bg,be];try simp only [↓wR,RA,simprocAttr,TF,ae,h2])
   refine c8 [0,2,4,14,15] (fun (p:Nat × Nat)=>[.sl 0 0 N 4,.sc (.int .i64 (m)),(.fn (.func 81) [] [.ptr 1 0]),.sc (.int .i64 (p.1)),.sc (.int .i64 (p.2))]) (fun _=>[some (.row (cellsOf ak true ((A++L++[y]++Z))) 0 0 44),some (.row [.vl false 1 (s.owner.map (ai.val false)),.sc (.int .u16 s.type.toNat),.sc (.int .u16 s.cls.toNat),.sc (.int .u32 s.b7.toNat),.vl false 4 (s.data.map (ak.val false))] 0 2 58)]) (fun p=>a≤p.1∧p.1≤p.2∧p.2≤m∧(∀ c,0<p.1 - a→L[p.1 - a - 1]? = some c→(fe s.type) y c=false)∧(∀ c,L[p.2 - a]? = some c→(fe s.type) y c=true)) (fun p=>p.2 - p.1) (a,m) ⟨Nat.le_refl _,by show a≤m;omega,Nat.le_refl _,fun c hq=>by simp at hq,fun c hq=>by rw [List.getElem?_eq_none (by show L.length≤m - a;omega)] at hq;cases hq⟩ (by simp only [↓wR,RA,simprocAttr,TF,ae]<;>rfl) (by simp only [↓wR,RA,simprocAttr,TF,ae]<;>rfl) ?_
   rintro ⟨i,j⟩ ⟨p1,p2,p3,p4,p5⟩
   simp only [] at p1 p2 p3 p4 p5 ⊢
   simp only [↓wR,RA,simprocAttr,TF,ae]
   rw [bj];refine ⟨fun h=>?_,fun h=>?_⟩
   ·have hlt:i<j:=by omega
    obtain ⟨u,hu⟩:∃ u,u=(i+j) / 2:=⟨_,rfl⟩
    have hub:i≤u∧u<j:=by omega
    have hhalf:=half i j (by omega)
    rw [← hu] at hhalf
    obtain ⟨x,hx⟩:∃ x,L[u - a]? = some x:=⟨_,List.getElem?_eq_getElem (by omega)⟩
    have hxV:=hLV x (List.mem_of_getElem? hx)
    have gx:=hLb _ _ hx
    rw [show a+(u - a)=u by omega] at gx
    have l1:=kn 0 0 44 gx
    have l2:=kn 0 0 44 gy
    simp only [↓wR,RA,simprocAttr,TF,ae,h,hhalf,↓l1,↓l2,m5,hxV.1,hyV.1];repeat (simp (disch:=omega) only [ah,bh,bf,bg,be];try simp only [↓wR,RA,simprocAttr,TF,ae,h,hhalf,↓l1,↓l2,m5,hxV.1,hyV.1])
    refine ⟨by kernel_rfl,.inl ?_⟩
    rw [w8 (g:=81) (a:=[]) (b:=[.ptr 1 0])]
    rotate_left
    ·rfl
    simp only [↓wR,RA,simprocAttr,TF,ae,H7]
    refine ⟨by apply hc;kernel_rfl,?_⟩
    rw [bj];refine ⟨fun hl=>?_,fun hl=>?_⟩
    ·have hll:(fe s.type) y x=false:=decide_eq_false hl
     simp only [↓wR,RA,simprocAttr,TF,ae,hl];repeat (simp (disch:=omega) only [ah,bh,bf,bg,be];try simp only [↓wR,RA,simprocAttr,TF,ae,hl])
     exact ⟨(u+1,j),⟨by show a≤u+1;omega,by show u+1≤j;omega,p3,fun c _ hcc=>by
      have hcc':L[u+1 - a - 1]? = some c:=hcc
      rw [show u+1 - a - 1=u - a by omega,hx] at hcc';cases hcc';exact hll,p5⟩,by show j - (u+1)<j - i;omega,by (first|rfl|trivial|omega|((try (simp (disch:=omega) only [ah]));(try (simp only [FB]));first|done|rfl|omega))⟩
    ·have hll:(fe s.type) y x=true:=decide_eq_true (Decidable.not_not.1 hl)
     simp only [↓wR,RA,simprocAttr,TF,ae,hl];repeat (simp (disch:=omega) only [ah,bh,bf,bg,be];try simp only [↓wR,RA,simprocAttr,TF,ae,hl])
     exact ⟨(i,u),⟨p1,by show i≤u;omega,by show u≤m;omega,p4,fun c hcc=>by
      have hcc':L[u - a]? = some c:=hcc
      rw [hx] at hcc';cases hcc';exact hll⟩,by show u - i<j - i;omega,by (first|rfl|trivial|omega|((try (simp (disch:=omega) only [ah]));(try (simp only [FB]));first|done|rfl|omega))⟩
   ·have hij:j=i:=by omega
    subst hij
    have hmo:=U2 (lt:=(fe s.type)) (y:=y) (l:=L) (i:=j - a) (Gb (o0 s.type) hLV hLR hyV (by omega) p4) (aac (o0 s.type) hLV hLR hyV p5)
    obtain ⟨L1,hL1e⟩:∃ L1,L1=L.take (j - a):=⟨_,rfl⟩
    obtain ⟨L2,hL2e⟩:∃ L2,L2=L.drop (j - a):=⟨_,rfl⟩
    have hLe:L=L1++L2:=by rw [hL1e,hL2e,List.take_append_drop]
    have hl1:L1.length=j - a:=by rw [hL1e,List.length_take];omega
    have hl2:L2.length=m - j:=by rw [hL2e,List.length_drop];omega
    rw [← hL1e,← hL2e] at hmo
    rw [hmo]
    simp only [↓wR,RA,simprocAttr,TF,ae,h]
    refine c8 [0,14,17] (fun (k:Nat)=>[.sl 0 0 N 4,.sc (.int .i64 (j)),.sc (.int .i64 (k))]) (fun k=>[some (.row (cellsOf ak true ((A++L1++L2.take (k - j)++y::(L2.drop (k - j)++Z)))) 0 0 44),some (.row [.vl false 1 (s.owner.map (ai.val false)),.sc (.int .u16 s.type.toNat),.sc (.int .u16 s.cls.toNat),.sc (.int .u32 s.b7.toNat),.vl false 4 (s.data.map (ak.val false))] 0 2 58)]) (fun k=>j≤k∧k≤m) (fun k=>k) m ⟨by omega,Nat.le_refl _⟩ (by simp only [↓wR,RA,simprocAttr,TF,ae]<;>rfl) (by simp only [↓wR,RA,simprocAttr,TF,ae];rw [← hl2,List.take_length,List.drop_length,hLe];simp) ?_
    rintro k ⟨k1,k2⟩
    simp only [↓wR,RA,simprocAttr,TF,ae];repeat (simp (disch:=omega) only [ah,bh,bf,bg,be];try simp only [↓wR,RA,simprocAttr,TF,ae])
    rw [bj];refine ⟨fun hk=>?_,fun hk=>?_⟩
    ·have hkl:j<k:=by omega
     obtain ⟨x,hx⟩:∃ x,L2[k - 1 - j]? = some x:=⟨_,List.getElem?_eq_getElem (by omega)⟩
     obtain ⟨X,hX⟩:∃ X,X=A++L1++L2.take (k - 1 - j):=⟨_,rfl⟩
     obtain ⟨W,hW⟩:∃ W,W=L2.drop (k - j)++Z:=⟨_,rfl⟩
     have hkk:k - j=k - 1 - j+1:=by omega
     have hxl:X.length=k - 1:=by rw [hX,List.length_append,List.length_append,List.length_take];omega
     have hcur:A++L1++L2.take (k - j)++y::(L2.drop (k - j)++Z)=X++x::y::W:=by rw [hX,hW,hkk,iq hx];simp
     have gi:A++L1++L2.take (k - 1 - j)++y::(L2.drop (k - 1 - j)++Z)=X++y::x::W:=by rw [hX,hW,nv hx,hkk];simp
     have g1:(X++x::y::W)[k - 1]? = some x:=by rw [← hxl];exact get_at X _ x
     have hx1:(X++[x]).length=k:=by rw [List.length_append,hxl,List.length_singleton];omega
     have g2:(X++x::y::W)[k]? = some y:=by
      have:=get_at (X++[x]) W y
      rw [hx1] at this
      rw [← this];simp
     have s1:(X++x::y::W).set k x=X++x::x::W:=by
      have:=qz (X++[x]) W y x
      rw [hx1] at this
      simpa using this
     have g3:(X++x::x::W)[k - 1]? = some x:=by rw [← hxl];exact get_at X _ x
     have s2:(X++x::x::W).set (k - 1) y=X++y::x::W:=by rw [← hxl];exact qz X _ x y
     have l1:=kn 0 0 44 g1
     have l2:=kn 0 0 44 g2
     have t1:=tl x 0 44 0 g2
     have t2:=tl y 0 44 0 g3
     rw [s1] at t1
     rw [s2] at t2
     have hk1:(k:Int) - 1=((k - 1:Nat):Int):=by omega
     rw [hcur]
     simp only [↓wR,RA,simprocAttr,TF,ae,hk,hk1,↓l1,↓l2,↓t1,↓t2];repeat (simp (disch:=omega) only [ah,bh,bf,bg,be];try simp only [↓wR,RA,simprocAttr,TF,ae,hk,hk1,↓l1,↓l2,↓t1,↓t2])
     refine ⟨by kernel_rfl,.inl ?_⟩
     exact ⟨by apply hc;kernel_rfl,k - 1,⟨by omega,by omega⟩,by omega,by (first|rfl|trivial|omega|((try (simp (disch:=omega) only [ah]));(try (simp only [FB]));first|done|rfl|omega)),by rw [gi]⟩
    ·have hkj:k - j=0:=by omega
     rw [hkj]
     simp only [↓wR,RA,simprocAttr,TF,ae,hk,gn,fy,fp,List.append_nil]
     simp
  ·have hR1:R.length≠1:=by omega
   obtain ⟨mid,hmid⟩:∃ mid,mid=(a+b) / 2:=⟨_,rfl⟩
   have hhalf:=half a b (by omega)
   rw [← hmid] at hhalf
   have hmm:(mid:Int)+m=((mid+m:Nat):Int):=by omega
   obtain ⟨n,hn⟩:∃ n,n=mid+m:=⟨_,rfl⟩
   rw [← hn] at hmm
   obtain ⟨s0,hs0⟩:∃ s0,s0=if mid<m then n - b else a:=⟨_,rfl⟩
   obtain ⟨r0,hr0⟩:∃ r0,r0=if mid<m then mid else m:=⟨_,rfl⟩
   have hp1:(n:Int) - 1=((n - 1:Nat):Int):=by omega
   have hsr:a≤s0∧s0≤r0∧r0≤m∧r0≤mid∧n - b≤s0:=by subst hs0 hr0;split<;>omega
   obtain ⟨X0,hX0⟩:∃ X0,X0=A++L++R++Z:=⟨_,rfl⟩
   have hXL:∀ k c,L[k]? = some c→X0[a+k]? = some c:=fun k c hk=>by
    have hkl:=(List.getElem?_eq_some_iff.1 hk).1
    rw [hX0,List.append_assoc,List.append_assoc,List.getElem?_append_right (by omega),show a+k - A.length=k by omega,List.getElem?_append_left hkl,hk]
   have hXR:∀ k c,R[k]? = some c→X0[m+k]? = some c:=fun k c hk=>by
    have hkl:=(List.getElem?_eq_some_iff.1 hk).1
    rw [hX0,List.append_assoc (A++L),List.getElem?_append_right (by rw [List.length_append];omega),List.length_append,show m+k - (A.length+L.length)=k by omega,List.getElem?_append_left hkl,hk]
   rw [← hX0]
   have hfin:∀ st,s0≤st→st≤r0→(∀ c e,s0<st→L[st - 1 - a]? = some c→R[n - st - m]? = some e→(fe s.type) e c=false)→(∀ c e,st<r0→L[st - a]? = some c→R[n - 1 - st - m]? = some e→(fe s.type) e c=true) →
    ∃ X1 X2,(st<m→m<n - st→gp PP 110 [.sl 0 0 N 4,.sc (.int .i64 (st)),.sc (.int .i64 (m)),.sc (.int .i64 ((n - st:Nat))),(.fn (.func 81) [] [.ptr 1 0])] (bb [some (.row (cellsOf ak true ((X0))) 0 0 44),some (.row [.vl false 1 (s.owner.map (ai.val false)),.sc (.int .u16 s.type.toNat),.sc (.int .u16 s.cls.toNat),.sc (.int .u32 s.b7.toNat),.vl false 4 (s.data.map (ak.val false))] 0 2 58)]) (fun r st'=>r = .fc []∧st'=bb [some (.row (cellsOf ak true ((X1))) 0 0 44),some (.row [.vl false 1 (s.owner.map (ai.val false)),.sc (.int .u16 s.type.toNat),.sc (.int .u16 s.cls.toNat),.sc (.int .u32 s.b7.toNat),.vl false 4 (s.data.map (ak.val false))] 0 2 58)]))∧(¬ (st<m∧m<n - st)→X0=X1) ∧
     (a<st→st<mid→gp PP 107 [.sl 0 0 N 4,.sc (.int .i64 (a)),.sc (.int .i64 (st)),.sc (.int .i64 (mid)),(.fn (.func 81) [] [.ptr 1 0])] (bb [some (.row (cellsOf ak true ((X1))) 0 0 44),some (.row [.vl false 1 (s.owner.map (ai.val false)),.sc (.int .u16 s.type.toNat),.sc (.int .u16 s.cls.toNat),.sc (.int .u32 s.b7.toNat),.vl false 4 (s.data.map (ak.val false))] 0 2 58)]) (fun r st'=>r = .fc []∧st'=bb [some (.row (cellsOf ak true ((X2))) 0 0 44),some (.row [.vl false 1 (s.owner.map (ai.val false)),.sc (.int .u16 s.type.toNat),.sc (.int .u16 s.cls.toNat),.sc (.int .u32 s.b7.toNat),.vl false 4 (s.data.map (ak.val false))] 0 2 58)]))∧(¬ (a<st∧st<mid)→X1=X2) ∧
     (mid<n - st→n - st<b→gp PP 107 [.sl 0 0 N 4,.sc (.int .i64 (mid)),.sc (.int .i64 ((n - st:Nat))),.sc (.int .i64 (b)),(.fn (.func 81) [] [.ptr 1 0])] (bb [some (.row (cellsOf ak true ((X2))) 0 0 44),some (.row [.vl false 1 (s.owner.map (ai.val false)),.sc (.int .u16 s.type.toNat),.sc (.int .u16 s.cls.toNat),.sc (.int .u32 s.b7.toNat),.vl false 4 (s.data.map (ak.val false))] 0 2 58)]) (fun r st'=>r = .fc []∧st'=bb [some (.row (cellsOf ak true ((A++dz (fe s.type) L R++Z))) 0 0 44),some (.row [.vl false 1 (s.owner.map (ai.val false)),.sc (.int .u16 s.type.toNat),.sc (.int .u16 s.cls.toNat),.sc (.int .u32 s.b7.toNat),.vl false 4 (s.data.map (ak.val false))] 0 2 58)]))∧(¬ (mid<n - st∧n - st<b)→X2=A++dz (fe s.type) L R++Z):=by
    intro st q1 q2 q3 q4
    obtain ⟨L1,hL1e⟩:∃ L1,L1=L.take (st - a):=⟨_,rfl⟩
    obtain ⟨L2,hL2e⟩:∃ L2,L2=L.drop (st - a):=⟨_,rfl⟩
    obtain ⟨R1,hR1e⟩:∃ R1,R1=R.take (mid - st):=⟨_,rfl⟩
    obtain ⟨R2,hR2e⟩:∃ R2,R2=R.drop (mid - st):=⟨_,rfl⟩
    have hLe:L=L1++L2:=by rw [hL1e,hL2e,List.take_append_drop]
    have hRe:R=R1++R2:=by rw [hR1e,hR2e,List.take_append_drop]
    have n1:L1.length=st - a:=by rw [hL1e,List.length_take];omega
    have n2:L2.length=m - st:=by rw [hL2e,List.length_drop];omega
    have n3:R1.length=mid - st:=by rw [hR1e,List.length_take];omega
    have n4:R2.length=b - (n - st):=by rw [hR2e,List.length_drop];omega
    have r1:ir (fe s.type) L1:=by rw [hL1e];exact hLR.take _
    have r2:ir (fe s.type) L2:=by rw [hL2e];exact hLR.drop _
    have r3:ir (fe s.type) R1:=by rw [hR1e];exact hRR.take _
    have r4:ir (fe s.type) R2:=by rw [hR2e];exact hRR.drop _
    have v1:∀ x ∈ L1,tx s.type x:=fun x hx=>hLV x (by rw [hLe];simp [hx])
    have v2:∀ x ∈ L2,tx s.type x:=fun x hx=>hLV x (by rw [hLe];simp [hx])
    have v3:∀ x ∈ R1,tx s.type x:=fun x hx=>hRV x (by rw [hRe];simp [hx])
    have v4:∀ x ∈ R2,tx s.type x:=fun x hx=>hRV x (by rw [hRe];simp [hx])
    have f1:∀ x ∈ L1,∀ y ∈ R2,(fe s.type) y x=false:=by
     by_cases k1:a<st
     ·by_cases k2:n - st<b
      ·obtain ⟨c,hcc⟩:∃ c,L[st - 1 - a]? = some c:=⟨_,List.getElem?_eq_getElem (by omega)⟩
       obtain ⟨e,hee⟩:∃ e,R[n - st - m]? = some e:=⟨_,List.getElem?_eq_getElem (by omega)⟩
       have hlt:=q3 c e (by subst hs0;split<;>omega) hcc hee
       have t1:L1=L.take (st - 1 - a)++[c]:=by rw [hL1e,show st - a=st - 1 - a+1 by omega,iq hcc]
       have t2:R2=e::R.drop (n - st - m+1):=by rw [hR2e,show mid - st=n - st - m by omega,nv hee]
       rw [t1,t2]
       exact Nx (o0 s.type) (fun z hz=>v1 z (by rw [t1];exact hz)) (fun z hz=>v4 z (by rw [t2];exact hz)) (by rw [← t1];exact r1) (by rw [← t2];exact r4) hlt
      ·have:R2=[]:=List.eq_nil_of_length_eq_zero (by omega)
       rw [this];intro x _ y hy;cases hy
     ·have:L1=[]:=List.eq_nil_of_length_eq_zero (by omega)
      rw [this];intro x hx;cases hx
    have f2:∀ x ∈ L2,∀ y ∈ R1,(fe s.type) y x=true:=by
     by_cases k1:st<m
     ·by_cases k2:st<mid
      ·obtain ⟨c,hcc⟩:∃ c,L[st - a]? = some c:=⟨_,List.getElem?_eq_getElem (by omega)⟩
       obtain ⟨e,hee⟩:∃ e,R[n - 1 - st - m]? = some e:=⟨_,List.getElem?_eq_getElem (by omega)⟩
       have hlt:=q4 c e (by subst hr0;split<;>omega) hcc hee
       have t1:L2=c::L.drop (st - a+1):=by rw [hL2e,nv hcc]
       have t2:R1=R.take (n - 1 - st - m)++[e]:=by rw [hR1e,show mid - st=n - 1 - st - m+1 by omega,iq hee]
       rw [t1,t2]
       exact Jx (o0 s.type) (fun z hz=>v2 z (by rw [t1];exact hz)) (fun z hz=>v3 z (by rw [t2];exact hz)) (by rw [← t1];exact r2) (by rw [← t2];exact r3) hlt
      ·have:R1=[]:=List.eq_nil_of_length_eq_zero (by omega)
       rw [this];intro x _ y hy;cases hy
     ·have:L2=[]:=List.eq_nil_of_length_eq_zero (by omega)
      rw [this];intro x hx;cases hx
    have hmg:dz (fe s.type) L R=dz (fe s.type) L1 R1++dz (fe s.type) L2 R2:=by rw [hLe,hRe];exact qa L1 L2 R1 R2 f1 f2
    have m1:(dz (fe s.type) L1 R1).length=mid - a:=by rw [S5];omega
    have hNa:N=A.length+L1.length+L2.length+R1.length+R2.length+Z.length:=by omega
    refine ⟨A++L1++R1++(L2++R2++Z),A++dz (fe s.type) L1 R1++(L2++R2++Z),fun k1 k2=>?_,fun k=>?_,fun k1 k2=>?_,fun k=>?_,fun k1 k2=>?_,fun k=>?_⟩
    ·have:=aci s N st m (n - st) (A++L1) L2 R1 (R2++Z) (by simp only [List.length_append];omega) hs (by rw [List.length_append];omega) (by omega) (by omega) (by omega) (by omega)
     rw [show A++L1++L2++R1++(R2++Z)=X0 by rw [hX0,hLe,hRe];simp,show A++L1++R1++L2++(R2++Z)=A++L1++R1++(L2++R2++Z) by simp] at this
     exact this
    ·rw [hX0,hLe,hRe]
     by_cases k1:st<m
     ·have:R1=[]:=List.eq_nil_of_length_eq_zero (by omega)
      rw [this];simp
     ·have:L2=[]:=List.eq_nil_of_length_eq_zero (by omega)
      rw [this];simp
    ·exact ih N a st mid A L1 R1 (L2++R2++Z) (by omega) (by simp only [List.length_append];omega) hs ha (by omega) (by omega) (by omega) (by omega) v1 v3 r1 r3
    ·by_cases k1:a<st
     ·have:R1=[]:=List.eq_nil_of_length_eq_zero (by omega)
      rw [this,jb];simp
     ·have:L1=[]:=List.eq_nil_of_length_eq_zero (by omega)
      rw [this,js];simp
    ·have:=ih N mid (n - st) b (A++dz (fe s.type) L1 R1) L2 R2 Z (by omega) (by simp only [List.length_append,m1];omega) hs (by rw [List.length_append,m1];omega) (by omega) (by omega) (by omega) (by omega) v2 v4 r2 r4
     rw [hmg]
     rw [show A++dz (fe s.type) L1 R1++L2++R2++Z=A++dz (fe s.type) L1 R1++(L2++R2++Z) by simp,show A++dz (fe s.type) L1 R1++dz (fe s.type) L2 R2++Z=A++(dz (fe s.type) L1 R1++dz (fe s.type) L2 R2)++Z by simp] at this
     exact this
    ·rw [hmg]
     by_cases k1:mid<n - st
     ·have:R2=[]:=List.eq_nil_of_length_eq_zero (by omega)
      rw [this,jb];simp
     ·have:L2=[]:=List.eq_nil_of_length_eq_zero (by omega)
      rw [this,js];simp
   simp only [↓wR,RA,simprocAttr,TF,ae,h2,hhalf,hmm];repeat (simp (disch:=omega) only [ah,bh,bf,bg,be];try simp only [↓wR,RA,simprocAttr,TF,ae,h2,hhalf,hmm])
   rw [bj];refine ⟨fun hg=>?_,fun hg=>?_⟩
   ·have e3:(n:Int) - b=((s0:Nat):Int):=by rw [hs0,if_pos (by omega)];omega
    have e4:((mid:Nat):Int)=((r0:Nat):Int):=by rw [hr0,if_pos (by omega)]
    simp only [↓wR,RA,simprocAttr,TF,ae,hg,e3,hp1];repeat (simp (disch:=omega) only [ah,bh,bf,bg,be];try simp only [↓wR,RA,simprocAttr,TF,ae,hg,e3,hp1])
    refine c8 [0,1,2,3,4,18,19,20,21,22] (fun (p:Nat × Nat)=>[.sl 0 0 N 4,.sc (.int .i64 (a)),.sc (.int .i64 (m)),.sc (.int .i64 (b)),(.fn (.func 81) [] [.ptr 1 0]),.sc (.int .i64 (mid)),.sc (.int .i64 (n)),.sc (.int .i64 (p.1)),.sc (.int .i64 (p.2)),.sc (.int .i64 (((n - 1:Nat):Int)))]) (fun _=>[some (.row (cellsOf ak true ((X0))) 0 0 44),some (.row [.vl false 1 (s.owner.map (ai.val false)),.sc (.int .u16 s.type.toNat),.sc (.int .u16 s.cls.toNat),.sc (.int .u32 s.b7.toNat),.vl false 4 (s.data.map (ak.val false))] 0 2 58)]) (fun p=>s0≤p.1∧p.1≤p.2∧p.2≤r0∧(∀ c e,s0<p.1→L[p.1 - 1 - a]? = some c→R[n - p.1 - m]? = some e→(fe s.type) e c=false)∧(∀ c e,p.2<r0→L[p.2 - a]? = some c→R[n - 1 - p.2 - m]? = some e→(fe s.type) e c=true)) (fun p=>p.2 - p.1) (s0,r0) ⟨Nat.le_refl _,hsr.2.1,Nat.le_refl _,fun _ _ q=>absurd q (Nat.lt_irrefl _),fun _ _ q=>absurd q (Nat.lt_irrefl _)⟩ (by simp only [↓wR,RA,simprocAttr,TF,ae];rw [e4]) (by simp only [↓wR,RA,simprocAttr,TF,ae]<;>rfl) ?_
    rintro ⟨i,j⟩ ⟨p1,p2,p3,p4,p5⟩
    simp only [] at p1 p2 p3 p4 p5 ⊢
    simp only [↓wR,RA,simprocAttr,TF,ae]
    rw [bj];refine ⟨fun h=>?_,fun h=>?_⟩
    ·have hlt:i<j:=by omega
     obtain ⟨u,hu⟩:∃ u,u=(i+j) / 2:=⟨_,rfl⟩
     have hub:i≤u∧u<j:=by omega
     have hhalf2:=half i j (by omega)
     rw [← hu] at hhalf2
     obtain ⟨x,hx⟩:∃ x,L[u - a]? = some x:=⟨_,List.getElem?_eq_getElem (by omega)⟩
     obtain ⟨y,hy⟩:∃ y,R[n - 1 - u - m]? = some y:=⟨_,List.getElem?_eq_getElem (by omega)⟩
     have hxV:=hLV x (List.mem_of_getElem? hx)
     have hyV:=hRV y (List.mem_of_getElem? hy)
     have gx:=hXL _ _ hx
     rw [show a+(u - a)=u by omega] at gx
     have gy:=hXR _ _ hy
     rw [show m+(n - 1 - u - m)=n - 1 - u by omega] at gy
     have hpu:((n - 1:Nat):Int) - u=((n - 1 - u:Nat):Int):=by omega
     have l1:=kn 0 0 44 gx
     have l2:=kn 0 0 44 gy
     simp only [↓wR,RA,simprocAttr,TF,ae,h,hhalf2,hpu,↓l1,↓l2,m5,hxV.1,hyV.1];repeat (simp (disch:=omega) only [ah,bh,bf,bg,be];try simp only [↓wR,RA,simprocAttr,TF,ae,h,hhalf2,hpu,↓l1,↓l2,m5,hxV.1,hyV.1])
     refine ⟨by kernel_rfl,.inl ?_⟩
     rw [w8 (g:=81) (a:=[]) (b:=[.ptr 1 0])]
     rotate_left
     ·rfl
     simp only [↓wR,RA,simprocAttr,TF,ae,H7]
     refine ⟨by apply hc;kernel_rfl,?_⟩
     rw [bj];refine ⟨fun hl=>?_,fun hl=>?_⟩
     ·have hll:(fe s.type) y x=false:=decide_eq_false hl
      simp only [↓wR,RA,simprocAttr,TF,ae,hl];repeat (simp (disch:=omega) only [ah,bh,bf,bg,be];try simp only [↓wR,RA,simprocAttr,TF,ae,hl])
      exact ⟨(u+1,j),⟨by show s0≤u+1;omega,by show u+1≤j;omega,p3,fun c e _ hcc hee=>by
       have hcc':L[u+1 - 1 - a]? = some c:=hcc
       have hee':R[n - (u+1) - m]? = some e:=hee
       rw [show u+1 - 1 - a=u - a by omega,hx] at hcc'
       rw [show n - (u+1) - m=n - 1 - u - m by omega,hy] at hee'
       cases hcc';cases hee';exact hll,p5⟩,by show j - (u+1)<j - i;omega,by (first|rfl|trivial|omega|((try (simp (disch:=omega) only [ah]));(try (simp only [FB]));first|done|rfl|omega))⟩
     ·have hll:(fe s.type) y x=true:=decide_eq_true (Decidable.not_not.1 hl)
      simp only [↓wR,RA,simprocAttr,TF,ae,hl];repeat (simp (disch:=omega) only [ah,bh,bf,bg,be];try simp only [↓wR,RA,simprocAttr,TF,ae,hl])
      exact ⟨(i,u),⟨p1,by show i≤u;omega,by show u≤r0;omega,p4,fun c e _ hcc hee=>by
       have hcc':L[u - a]? = some c:=hcc
       have hee':R[n - 1 - u - m]? = some e:=hee
       rw [hx] at hcc';rw [hy] at hee'
       cases hcc';cases hee';exact hll⟩,by show u - i<j - i;omega,by (first|rfl|trivial|omega|((try (simp (disch:=omega) only [ah]));(try (simp only [FB]));first|done|rfl|omega))⟩
    ·have hij:j=i:=by omega
     subst hij
     obtain ⟨X1,X2,c1,c2,c3,c4,c5,c6⟩:=hfin j p1 p3 p4 p5
     have hen:(n:Int) - j=((n - j:Nat):Int):=by omega
     obtain ⟨en,hen2⟩:∃ en,en=n - j:=⟨_,rfl⟩
     rw [← hen2] at c1 c2 c5 c6 hen
     obtain ⟨X3,hX3⟩:∃ X3,X3=A++dz (fe s.type) L R++Z:=⟨_,rfl⟩
     rw [← hX3] at c5 c6 ⊢
     have b1:m<en↔j<mid:=by omega
     have b2:mid<en↔j<m:=by omega
     by_cases k1:a<j<;>by_cases k2:j<m<;>by_cases k3:j<mid<;>by_cases k4:en<b<;>first
      |(exfalso;omega)
      |(
       have d1:=k1
       have d2:=k2
       have d3:=k3
       have d4:=k4
       have hwr:IntKind.i64.wrap (en:Int)=en:=ah _ (by omega) (by omega)
       have d5:decide (m<en)=decide (j<mid):=decide_eq_decide.2 b1
       have d6:decide (mid<en)=decide (j<m):=decide_eq_decide.2 b2
       (try rw [c2 (by omega)])
       simp only [↓wR,RA,simprocAttr,TF,ae,h,hen,hwr,yn,d1,d2,d3,d4,d5,d6]
       (try (refine ee (c1 (by omega) (by omega)) ?_;rintro _ _ ⟨rfl,rfl⟩;simp only [↓wR,RA,simprocAttr,TF,ae,cx,h,hen,hwr,yn,d1,d2,d3,d4,d5,d6]))
       (try rw [c4 (by omega)])
       (try (refine ee (c3 (by omega) (by omega)) ?_;rintro _ _ ⟨rfl,rfl⟩;simp only [↓wR,RA,simprocAttr,TF,ae,cx,h,hen,hwr,yn,d1,d2,d3,d4,d5,d6]))
       (try rw [c6 (by omega)])
       (try (refine ee (c5 (by omega) (by omega)) ?_;rintro _ _ ⟨rfl,rfl⟩;simp only [↓wR,RA,simprocAttr,TF,ae,cx,h,hen,hwr,yn,d1,d2,d3,d4,d5,d6]))
       simp only [↓wR,RA,simprocAttr,TF,ae,gn,fy,fp])
   ·have e3:((a:Nat):Int)=((s0:Nat):Int):=by rw [hs0,if_neg (by omega)]
    have e4:((m:Nat):Int)=((r0:Nat):Int):=by rw [hr0,if_neg (by omega)]
    simp only [↓wR,RA,simprocAttr,TF,ae,hg,hp1];repeat (simp (disch:=omega) only [ah,bh,bf,bg,be];try simp only [↓wR,RA,simprocAttr,TF,ae,hg,hp1])
    refine c8 [0,1,2,3,4,18,19,20,21,22] (fun (p:Nat × Nat)=>[.sl 0 0 N 4,.sc (.int .i64 (a)),.sc (.int .i64 (m)),.sc (.int .i64 (b)),(.fn (.func 81) [] [.ptr 1 0]),.sc (.int .i64 (mid)),.sc (.int .i64 (n)),.sc (.int .i64 (p.1)),.sc (.int .i64 (p.2)),.sc (.int .i64 (((n - 1:Nat):Int)))]) (fun _=>[some (.row (cellsOf ak true ((X0))) 0 0 44),some (.row [.vl false 1 (s.owner.map (ai.val false)),.sc (.int .u16 s.type.toNat),.sc (.int .u16 s.cls.toNat),.sc (.int .u32 s.b7.toNat),.vl false 4 (s.data.map (ak.val false))] 0 2 58)]) (fun p=>s0≤p.1∧p.1≤p.2∧p.2≤r0∧(∀ c e,s0<p.1→L[p.1 - 1 - a]? = some c→R[n - p.1 - m]? = some e→(fe s.type) e c=false)∧(∀ c e,p.2<r0→L[p.2 - a]? = some c→R[n - 1 - p.2 - m]? = some e→(fe s.type) e c=true)) (fun p=>p.2 - p.1) (s0,r0) ⟨Nat.le_refl _,hsr.2.1,Nat.le_refl _,fun _ _ q=>absurd q (Nat.lt_irrefl _),fun _ _ q=>absurd q (Nat.lt_irrefl _)⟩ (by simp only [↓wR,RA,simprocAttr,TF,ae];rw [← e3,← e4]) (by simp only [↓wR,RA,simprocAttr,TF,ae]<;>rfl) ?_
    rintro ⟨i,j⟩ ⟨p1,p2,p3,p4,p5⟩
    simp only [] at p1 p2 p3 p4 p5 ⊢
    simp only [↓wR,RA,simprocAttr,TF,ae]
    rw [bj];refine ⟨fun h=>?_,fun h=>?_⟩
    ·have hlt:i<j:=by omega
     obtain ⟨u,hu⟩:∃ u,u=(i+j) / 2:=⟨_,rfl⟩
     have hub:i≤u∧u<j:=by omega
     have hhalf2:=half i j (by omega)
     rw [← hu] at hhalf2
     obtain ⟨x,hx⟩:∃ x,L[u - a]? = some x:=⟨_,List.getElem?_eq_getElem (by omega)⟩
     obtain ⟨y,hy⟩:∃ y,R[n - 1 - u - m]? = some y:=⟨_,List.getElem?_eq_getElem (by omega)⟩
     have hxV:=hLV x (List.mem_of_getElem? hx)
     have hyV:=hRV y (List.mem_of_getElem? hy)
     have gx:=hXL _ _ hx
     rw [show a+(u - a)=u by omega] at gx
     have gy:=hXR _ _ hy
     rw [show m+(n - 1 - u - m)=n - 1 - u by omega] at gy
     have hpu:((n - 1:Nat):Int) - u=((n - 1 - u:Nat):Int):=by omega
     have l1:=kn 0 0 44 gx
     have l2:=kn 0 0 44 gy
     simp only [↓wR,RA,simprocAttr,TF,ae,h,hhalf2,hpu,↓l1,↓l2,m5,hxV.1,hyV.1];repeat (simp (disch:=omega) only [ah,bh,bf,bg,be];try simp only [↓wR,RA,simprocAttr,TF,ae,h,hhalf2,hpu,↓l1,↓l2,m5,hxV.1,hyV.1])
     refine ⟨by kernel_rfl,.inl ?_⟩
     rw [w8 (g:=81) (a:=[]) (b:=[.ptr 1 0])]
     rotate_left
     ·rfl
     simp only [↓wR,RA,simprocAttr,TF,ae,H7]
     refine ⟨by apply hc;kernel_rfl,?_⟩
     rw [bj];refine ⟨fun hl=>?_,fun hl=>?_⟩
     ·have hll:(fe s.type) y x=false:=decide_eq_false hl
      simp only [↓wR,RA,simprocAttr,TF,ae,hl];repeat (simp (disch:=omega) only [ah,bh,bf,bg,be];try simp only [↓wR,RA,simprocAttr,TF,ae,hl])
      exact ⟨(u+1,j),⟨by show s0≤u+1;omega,by show u+1≤j;omega,p3,fun c e _ hcc hee=>by
       have hcc':L[u+1 - 1 - a]? = some c:=hcc
       have hee':R[n - (u+1) - m]? = some e:=hee
       rw [show u+1 - 1 - a=u - a by omega,hx] at hcc'
       rw [show n - (u+1) - m=n - 1 - u - m by omega,hy] at hee'
       cases hcc';cases hee';exact hll,p5⟩,by show j - (u+1)<j - i;omega,by (first|rfl|trivial|omega|((try (simp (disch:=omega) only [ah]));(try (simp only [FB]));first|done|rfl|omega))⟩
     ·have hll:(fe s.type) y x=true:=decide_eq_true (Decidable.not_not.1 hl)
      simp only [↓wR,RA,simprocAttr,TF,ae,hl];repeat (simp (disch:=omega) only [ah,bh,bf,bg,be];try simp only [↓wR,RA,simprocAttr,TF,ae,hl])
      exact ⟨(i,u),⟨p1,by show i≤u;omega,by show u≤r0;omega,p4,fun c e _ hcc hee=>by
       have hcc':L[u - a]? = some c:=hcc
       have hee':R[n - 1 - u - m]? = some e:=hee
       rw [hx] at hcc';rw [hy] at hee'
       cases hcc';cases hee';exact hll⟩,by show u - i<j - i;omega,by (first|rfl|trivial|omega|((try (simp (disch:=omega) only [ah]));(try (simp only [FB]));first|done|rfl|omega))⟩
    ·have hij:j=i:=by omega
     subst hij
     obtain ⟨X1,X2,c1,c2,c3,c4,c5,c6⟩:=hfin j p1 p3 p4 p5
     have hen:(n:Int) - j=((n - j:Nat):Int):=by omega
     obtain ⟨en,hen2⟩:∃ en,en=n - j:=⟨_,rfl⟩
     rw [← hen2] at c1 c2 c5 c6 hen
     obtain ⟨X3,hX3⟩:∃ X3,X3=A++dz (fe s.type) L R++Z:=⟨_,rfl⟩
     rw [← hX3] at c5 c6 ⊢
     have b1:m<en↔j<mid:=by omega
     have b2:mid<en↔j<m:=by omega
     by_cases k1:a<j<;>by_cases k2:j<m<;>by_cases k3:j<mid<;>by_cases k4:en<b<;>first
      |(exfalso;omega)
      |(
       have d1:=k1
       have d2:=k2
       have d3:=k3
       have d4:=k4
       have hwr:IntKind.i64.wrap (en:Int)=en:=ah _ (by omega) (by omega)
       have d5:decide (m<en)=decide (j<mid):=decide_eq_decide.2 b1
       have d6:decide (mid<en)=decide (j<m):=decide_eq_decide.2 b2
       (try rw [c2 (by omega)])
       simp only [↓wR,RA,simprocAttr,TF,ae,h,hen,hwr,yn,d1,d2,d3,d4,d5,d6]
       (try (refine ee (c1 (by omega) (by omega)) ?_;rintro _ _ ⟨rfl,rfl⟩;simp only [↓wR,RA,simprocAttr,TF,ae,cx,h,hen,hwr,yn,d1,d2,d3,d4,d5,d6]))
       (try rw [c4 (by omega)])
       (try (refine ee (c3 (by omega) (by omega)) ?_;rintro _ _ ⟨rfl,rfl⟩;simp only [↓wR,RA,simprocAttr,TF,ae,cx,h,hen,hwr,yn,d1,d2,d3,d4,d5,d6]))
       (try rw [c6 (by omega)])
       (try (refine ee (c5 (by omega) (by omega)) ?_;rintro _ _ ⟨rfl,rfl⟩;simp only [↓wR,RA,simprocAttr,TF,ae,cx,h,hen,hwr,yn,d1,d2,d3,d4,d5,d6]))
       simp only [↓wR,RA,simprocAttr,TF,ae,gn,fy,fp])
theorem aax (s:aw) (N:Nat) (X:List bn) (hN:N=X.length) (hs:N≤1048576) (hV:∀ x ∈ X,tx s.type x) :
 gp PP 98 [.sl 0 0 N 4,.sc (.int .i64 (N)),(.fn (.func 81) [] [.ptr 1 0])] (bb [some (.row (cellsOf ak true ((X))) 0 0 44),some (.row [.vl false 1 (s.owner.map (ai.val false)),.sc (.int .u16 s.type.toNat),.sc (.int .u16 s.cls.toNat),.sc (.int .u32 s.b7.toNat),.vl false 4 (s.data.map (ak.val false))] 0 2 58)])
  (fun r st'=>r = .fc []∧st'=bb [some (.row (cellsOf ak true ((dg (fe s.type) X))) 0 0 44),some (.row [.vl false 1 (s.owner.map (ai.val false)),.sc (.int .u16 s.type.toNat),.sc (.int .u16 s.cls.toNat),.sc (.int .u32 s.b7.toNat),.vl false 4 (s.data.map (ak.val false))] 0 2 58)]):=by
 refine ct _ rfl ?_ (fun r st' h=>h)
 refine bm (T:=[]) (aq.nil PP) mixed Tryz.func98 rfl (by kernel_rfl) (by kernel_rfl) (by kernel_rfl) (by kernel_rfl) ?_;unfold Tryz.f98
 simp only [↓wR,RA,simprocAttr,TF,ae]
 refine c8 [0,1,2,6,7,8] (fun (x:List bn × List bn)=>[.sl 0 0 N 4,.sc (.int .i64 (N)),(.fn (.func 81) [] [.ptr 1 0]),.sc (.int .i64 (20)),.sc (.int .i64 (x.1.length)),.sc (.int .i64 (((x.1.length+20:Nat):Int)))]) (fun x=>[some (.row (cellsOf ak true ((x.1++x.2))) 0 0 44),some (.row [.vl false 1 (s.owner.map (ai.val false)),.sc (.int .u16 s.type.toNat),.sc (.int .u16 s.cls.toNat),.sc (.int .u32 s.b7.toNat),.vl false 4 (s.data.map (ak.val false))] 0 2 58)]) (fun x=>x.1++i4 (fe s.type) 20 x.2=i4 (fe s.type) 20 X∧x.1.length+x.2.length=N∧∀ y ∈ x.2,tx s.type y) (fun x=>x.2.length) ([],X) ⟨rfl,by rw [hN];simp,hV⟩ (by simp only [↓wR,RA,simprocAttr,TF,ae]<;>rfl) (by simp only [↓wR,RA,simprocAttr,TF,ae]<;>rfl) ?_
 rintro ⟨D,Y⟩ ⟨h1,h2,h3⟩
 simp only [] at h1 h2 h3 ⊢
 simp only [↓wR,RA,simprocAttr,TF,ae]
 rw [bj];refine ⟨fun h=>?_,fun h=>?_⟩
 ·have hle : 20≤Y.length:=by omega
  have hY:Y=Y.take 20++Y.drop 20:=(List.take_append_drop 20 Y).symm
  have hl1:(Y.take 20).length=20:=by rw [List.length_take];omega
  have hins:=Ly s N D.length (D.length+20) D (Y.take 20) (Y.drop 20) (by simp only [List.length_append,List.length_take,List.length_drop];omega) hs rfl (by omega) (fun x hx=>h3 x (List.mem_of_mem_take hx))
  rw [show D++Y.take 20++Y.drop 20=D++Y by rw [List.append_assoc,List.take_append_drop]] at hins
  have hb1:((D.length+20:Nat):Int)+20=((D.length+20+20:Nat):Int):=by omega
  simp only [↓wR,RA,simprocAttr,TF,ae,h];repeat (simp (disch:=omega) only [ah,bh,bf,bg,be];try simp only [↓wR,RA,simprocAttr,TF,ae,h])
  refine ee hins ?_
  rintro _ _ ⟨rfl,rfl⟩
  simp only [↓wR,RA,simprocAttr,TF,ae,cx,hb1];repeat (simp (disch:=omega) only [ah,bh,bf,bg,be];try simp only [↓wR,RA,simprocAttr,TF,ae,cx,hb1])
  refine ⟨(D++dg (fe s.type) (Y.take 20),Y.drop 20),⟨?_,?_,fun y hy=>h3 y (List.mem_of_mem_drop hy)⟩,?_,?_,?_⟩
  ·rw [← h1,Aq (l:=Y) (by decide) hle,List.append_assoc]
  ·simp only [List.length_append,ec,List.length_drop,hl1];omega
  ·simp only [List.length_drop];omega
  ·simp only [List.length_append,ec,hl1]<;>rfl
  ·rfl
 ·have hle:Y.length<20:=by omega
  have hins:=Ly s N D.length N D Y [] (by simp only [List.length_append,List.length_nil];omega) hs rfl (by omega) h3
  rw [List.append_nil,List.append_nil,show D++dg (fe s.type) Y=i4 (fe s.type) 20 X by rw [← h1,qi (by omega)]] at hins
  simp only [↓wR,RA,simprocAttr,TF,ae,h];repeat (simp (disch:=omega) only [ah,bh,bf,bg,be];try simp only [↓wR,RA,simprocAttr,TF,ae,h])
  refine ee hins ?_
  rintro _ _ ⟨rfl,rfl⟩
  simp only [↓wR,RA,simprocAttr,TF,ae,cx];repeat (simp (disch:=omega) only [ah,bh,bf,bg,be];try simp only [↓wR,RA,simprocAttr,TF,ae,cx])
  refine c8 [0,1,2,6] (fun (k:Nat)=>[.sl 0 0 N 4,.sc (.int .i64 (N)),(.fn (.func 81) [] [.ptr 1 0]),.sc (.int .i64 (k))]) (fun k=>[some (.row (cellsOf ak true ((i4 (fe s.type) k X))) 0 0 44),some (.row [.vl false 1 (s.owner.map (ai.val false)),.sc (.int .u16 s.type.toNat),.sc (.int .u16 s.cls.toNat),.sc (.int .u32 s.b7.toNat),.vl false 4 (s.data.map (ak.val false))] 0 2 58)]) (fun k=>0<k∧k≤2 * N+40) (fun k=>N - k) 20 ⟨by decide,by omega⟩ (by simp only [↓wR,RA,simprocAttr,TF,ae]<;>rfl) (by simp only [↓wR,RA,simprocAttr,TF,ae]<;>rfl) ?_
  clear h1 h2 h3 h hle hins D Y
  rintro k ⟨hk0,hk1⟩
  simp only [↓wR,RA,simprocAttr,TF,ae]
  rw [bj];refine ⟨fun h=>?_,fun h=>?_⟩
  ·have e2:(2:Int) * k=((k+k:Nat):Int):=by omega
   simp only [↓wR,RA,simprocAttr,TF,ae,h,e2];repeat (simp (disch:=omega) only [ah,bh,bf,bg,be];try simp only [↓wR,RA,simprocAttr,TF,ae,h,e2])
   refine c8 [0,1,2,6,7,8] (fun (x:List bn × List bn)=>[.sl 0 0 N 4,.sc (.int .i64 (N)),(.fn (.func 81) [] [.ptr 1 0]),.sc (.int .i64 (k)),.sc (.int .i64 (x.1.length)),.sc (.int .i64 (((x.1.length+(k+k):Nat):Int)))]) (fun x=>[some (.row (cellsOf ak true ((x.1++i4 (fe s.type) k x.2))) 0 0 44),some (.row [.vl false 1 (s.owner.map (ai.val false)),.sc (.int .u16 s.type.toNat),.sc (.int .u16 s.cls.toNat),.sc (.int .u32 s.b7.toNat),.vl false 4 (s.data.map (ak.val false))] 0 2 58)]) (fun x=>x.1++i4 (fe s.type) (k+k) x.2=i4 (fe s.type) (k+k) X∧x.1.length+x.2.length=N∧∀ y ∈ x.2,tx s.type y) (fun x=>x.2.length) ([],X) ⟨rfl,by rw [hN];simp,hV⟩ (by simp only [↓wR,RA,simprocAttr,TF,ae]<;>simp) (by simp only [↓wR,RA,simprocAttr,TF,ae]<;>rfl) ?_
   rintro ⟨D,Y⟩ ⟨h1,h2,h3⟩
   simp only [] at h1 h2 h3 ⊢
   have hm1:(D.length:Int)+k=((D.length+k:Nat):Int):=by omega
   simp only [↓wR,RA,simprocAttr,TF,ae]
   rw [bj];refine ⟨fun h4=>?_,fun h4=>?_⟩
   ·have hle:k+k≤Y.length:=by omega
    have hb1:((D.length+(k+k):Nat):Int)+((k+k:Nat):Int)=((D.length+(k+k)+(k+k):Nat):Int):=by omega
    have l1:(Y.take k).length=k:=by rw [List.length_take];omega
    have l2:((Y.drop k).take k).length=k:=by rw [List.length_take,List.length_drop];omega
    have hsym:=Lr s (k+k) N D.length (D.length+k) (D.length+(k+k)) D (dg (fe s.type) (Y.take k)) (dg (fe s.type) ((Y.drop k).take k)) (i4 (fe s.type) k (Y.drop (k+k))) (by omega) (by simp only [List.length_append,ec,l1,l2,ai7 hk0 _ _ (Nat.le_refl _),List.length_drop];omega) hs rfl (by rw [ec,l1]) (by rw [ec,l2];omega) (by rw [ec,l1];exact hk0) (by rw [ec,l2];exact hk0) (fun x hx=>h3 x (List.mem_of_mem_take (gz.1 hx))) (fun x hx=>h3 x (List.mem_of_mem_drop (List.mem_of_mem_take (gz.1 hx)))) (l6 (o0 s.type) _ (fun y hy=>h3 y (List.mem_of_mem_take hy))) (l6 (o0 s.type) _ (fun y hy=>h3 y (List.mem_of_mem_drop (List.mem_of_mem_take hy))))
    rw [D0 (o0 s.type) _ _ (fun y hy=>h3 y (List.mem_of_mem_take hy)) (fun y hy=>h3 y (List.mem_of_mem_drop (List.mem_of_mem_take hy))),acf,show D++dg (fe s.type) (Y.take k)++dg (fe s.type) ((Y.drop k).take k)++i4 (fe s.type) k (Y.drop (k+k))=D++i4 (fe s.type) k Y by rw [aj1 hk0 hle];simp] at hsym
    simp only [↓wR,RA,simprocAttr,TF,ae,h4,hm1];repeat (simp (disch:=omega) only [ah,bh,bf,bg,be];try simp only [↓wR,RA,simprocAttr,TF,ae,h4,hm1])
    refine ee hsym ?_
    rintro _ _ ⟨rfl,rfl⟩
    simp only [↓wR,RA,simprocAttr,TF,ae,cx,e2,hb1];repeat (simp (disch:=omega) only [ah,bh,bf,bg,be];try simp only [↓wR,RA,simprocAttr,TF,ae,cx,e2,hb1])
    refine ⟨(D++dg (fe s.type) (Y.take (k+k)),Y.drop (k+k)),⟨?_,?_,fun y hy=>h3 y (List.mem_of_mem_drop hy)⟩,?_,?_,?_⟩
    ·rw [← h1,Aq (l:=Y) (by omega) hle,List.append_assoc]
    ·simp only [List.length_append,ec,List.length_drop,List.length_take];omega
    ·simp only [List.length_drop];omega
    ·have:(D++dg (fe s.type) (Y.take (k+k))).length=D.length+(k+k):=by simp only [List.length_append,ec,List.length_take];omega
     simp only [this]
    ·rfl
   ·have hle:Y.length<k+k:=by omega
    have e3:(k:Int) * 2=((k+k:Nat):Int):=by omega
    simp only [↓wR,RA,simprocAttr,TF,ae,h4,hm1];repeat (simp (disch:=omega) only [ah,bh,bf,bg,be];try simp only [↓wR,RA,simprocAttr,TF,ae,h4,hm1])
    rw [bj];refine ⟨fun h5=>?_,fun h5=>?_⟩
    ·have hlt:k<Y.length:=by omega
     have l1:(Y.take k).length=k:=by rw [List.length_take];omega
     have hsym:=Lr s (k+k) N D.length (D.length+k) N D (dg (fe s.type) (Y.take k)) (dg (fe s.type) (Y.drop k)) [] (by omega) (by simp only [List.length_append,ec,l1,List.length_drop,List.length_nil];omega) hs rfl (by rw [ec,l1]) (by rw [ec,List.length_drop];omega) (by rw [ec,l1];exact hk0) (by rw [ec,List.length_drop];omega) (fun x hx=>h3 x (List.mem_of_mem_take (gz.1 hx))) (fun x hx=>h3 x (List.mem_of_mem_drop (gz.1 hx))) (l6 (o0 s.type) _ (fun y hy=>h3 y (List.mem_of_mem_take hy))) (l6 (o0 s.type) _ (fun y hy=>h3 y (List.mem_of_mem_drop hy)))
     rw [D0 (o0 s.type) _ _ (fun y hy=>h3 y (List.mem_of_mem_take hy)) (fun y hy=>h3 y (List.mem_of_mem_drop hy)),List.take_append_drop,List.append_nil,List.append_nil,show D++dg (fe s.type) (Y.take k)++dg (fe s.type) (Y.drop k)=D++i4 (fe s.type) k Y by rw [adb hk0 hlt (by omega)];simp,show D++dg (fe s.type) Y=i4 (fe s.type) (k+k) X by rw [← h1,qi (by omega)]] at hsym
     simp only [↓wR,RA,simprocAttr,TF,ae,h5];repeat (simp (disch:=omega) only [ah,bh,bf,bg,be];try simp only [↓wR,RA,simprocAttr,TF,ae,h5])
     refine ee hsym ?_
     rintro _ _ ⟨rfl,rfl⟩
     simp only [↓wR,RA,simprocAttr,TF,ae,cx,e3];repeat (simp (disch:=omega) only [ah,bh,bf,bg,be];try simp only [↓wR,RA,simprocAttr,TF,ae,cx,e3])
     exact ⟨k+k,⟨by omega,by omega⟩,by omega,by (first|rfl|trivial|omega|((try (simp (disch:=omega) only [ah]));(try (simp only [FB]));first|done|rfl|omega)),by (first|rfl|trivial|omega|((try (simp (disch:=omega) only [ah]));(try (simp only [FB]));first|done|rfl|omega))⟩
    ·have hlt:Y.length≤k:=by omega
     rw [show D++i4 (fe s.type) k Y=i4 (fe s.type) (k+k) X by rw [← h1,qi hlt,qi (by omega)]]
     simp only [↓wR,RA,simprocAttr,TF,ae,h5,e3];repeat (simp (disch:=omega) only [ah,bh,bf,bg,be];try simp only [↓wR,RA,simprocAttr,TF,ae,h5,e3])
     exact ⟨k+k,⟨by omega,by omega⟩,by omega,by (first|rfl|trivial|omega|((try (simp (disch:=omega) only [ah]));(try (simp only [FB]));first|done|rfl|omega)),by (first|rfl|trivial|omega|((try (simp (disch:=omega) only [ah]));(try (simp only [FB]));first|done|rfl|omega))⟩
  ·have hle:X.length≤k:=by omega
   rw [qi hle]
   simp only [↓wR,RA,simprocAttr,TF,ae,h,gn,fy,fp]
theorem aa5 (s:aw) (N:Nat) (X:List bn) (hN:N=X.length) (hs:N≤1048576) (hV:∀ x ∈ X,tx s.type x) :
 gp PP 80 [.sl 0 0 N 4,(.fn (.func 81) [] [.ptr 1 0])] (bb [some (.row (cellsOf ak true ((X))) 0 0 44),some (.row [.vl false 1 (s.owner.map (ai.val false)),.sc (.int .u16 s.type.toNat),.sc (.int .u16 s.cls.toNat),.sc (.int .u32 s.b7.toNat),.vl false 4 (s.data.map (ak.val false))] 0 2 58)])
  (fun r st'=>r = .fc []∧st'=bb [some (.row (cellsOf ak true ((dg (fe s.type) X))) 0 0 44),some (.row [.vl false 1 (s.owner.map (ai.val false)),.sc (.int .u16 s.type.toNat),.sc (.int .u16 s.cls.toNat),.sc (.int .u32 s.b7.toNat),.vl false 4 (s.data.map (ak.val false))] 0 2 58)]):=by
 refine ct _ rfl ?_ (fun r st' h=>h)
 refine bm (T:=[]) (aq.nil PP) mixed Tryz.func80 rfl (by kernel_rfl) (by kernel_rfl) (by kernel_rfl) (by kernel_rfl) ?_;unfold Tryz.f80
 simp only [↓wR,RA,simprocAttr,TF,ae]
 refine ee (aax s N X hN hs hV) ?_
 rintro _ _ ⟨rfl,rfl⟩
 simp only [↓wR,RA,simprocAttr,TF,ae,cx,gn,fy,fp]
end Go.Proofs.YtifjogffkafalaaGreat
end
