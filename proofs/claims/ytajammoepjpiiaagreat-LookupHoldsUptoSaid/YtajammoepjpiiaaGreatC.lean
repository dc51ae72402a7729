/- Proved: where the arguments are together of bulk at most 1048576, the law LookupHolds returns true (each set that is answered holds), and what it was given reads afterwards as it did before. No other conditions. -/
import Derived.WalkKit
import Derived.CallsIn
import Derived.RangeFuncIn
import Derived.RangeFuncLeaves
import Derived.Orders
import Derived.OrdersIn
import Derived.Scope
import Derived.RangeFuncOwn
import Derived.Stop.SameAnswer
import Derived.Laws.Externs
import Derived.Lib.Bytealg
import Derived.ProofKit
import Derived.OpenShut
import Derived.ReadAgain
import Derived.Deep.Slices
import Derived.ChangeSame
import Derived.Test.YtajammoepjpiiaaGreatProg
import Derived.KernelRfl
import Derived.Test.YtajammoepjpiiaaGreatRows
import Derived.Maps.RangeRun
import Derived.JoinedCond
import Derived.Test.YtajammoepjpiiaaGreatC5
set_option linter.unusedSimpArgs false
set_option linter.unusedVariables false
namespace Go.Vm
noncomputable section
theorem Du {P:Program} (w:World):∀ (ns:List Int) (a:Addr) (i:Nat) (acc:ByteArray),(∀ (j:Nat) x,ns[j]? = some x→(load (a.add (i+j))).run P w = .ok (.int .u8 x) w) →
 (Extern.Bytes.loadBytes (a.add i) ns.length acc).run P w = .ok ⟨acc.data++(ns.map fun n=>UInt8.ofNat n.toNat).toArray⟩ w
 | [],a,i,acc,_=>by simp [Extern.Bytes.loadBytes]
 |x::l,a,i,acc,h=>by
  have h0:=h 0 x rfl
  rw [Nat.add_zero] at h0
  have e:(a.add i).add 1=a.add (i+1):=by
   unfold Addr.add
   by_cases hj:i=0
   ·subst hj;simp
   ·simp [hj];omega
  have ih:=Du (P:=P) w l a (i+1) (acc.push x.toNat.toUInt8) (fun j y hy=>by
   have:=h (j+1) y (by simpa using hy)
   rw [show i+1+j=i+(j+1) from by omega];exact this)
  simp only [List.length_cons,Extern.Bytes.loadBytes,Sem.run_bind,h0,Result.andThen]
  rw [e,ih]
  congr 1
  apply ByteArray.ext
  simp [ByteArray.push,Nat.toUInt8]
theorem Yi {l:List Int} {l':List Value} (h:l'=l.map (Value.int .u8)) (j:Nat) (x:Int) (hx:l[j]? = some x):l'[j]? = some (.int .u8 x):=by rw [h,List.getElem?_map,hx];rfl
theorem Dd {P:Program} {g st bk w} {a:AV} {v:Value} {l:List AV} {bs:List UInt8} (hok:Ok g st.h w) (hr:Rel g w a v) (h:cellsIn 1 a st=some (l,bk)) (hb:bytesOf l=some bs) :
 (Extern.Bytes.bytesOf v).run P w = .ok ⟨bs.toArray⟩ w:=by
 obtain ⟨_,_,n,news,hsrc,hrl⟩:=yd (P:=P) hok hr h
 obtain ⟨ns,e1,e2⟩:=Eo _ _ _ hrl hb
 obtain ⟨r1,r2⟩:=hsrc.run w rfl
 cases v with
 |slice p len cap=>
  have hn:n=len:=by simp [Builtin.lenOf] at r1;exact r1.symm
  subst hn
  cases p with
  |none=>
   have:news=[]:=by simpa [Builtin.firstCells] using r2
   subst this
   have:ns=[]:=by simpa using e1.symm
   subst this
   subst e2
   rfl
  |some a=>
   simp only [Builtin.firstCells,Nat.mul_one] at r2
   unfold loadCells at r2
   obtain ⟨l',q1,q2,q3⟩:=loadCellsFrom_ok a n 0 #[] _ _ r2
   have hl':l'=news:=by simpa using q2.symm
   subst hl'
   have hlen:ns.length=n:=by rw [← q1,e1,List.length_map]
   have:=Du (P:=P) w ns a 0 .empty (fun j x hx=>by
    exact q3 j _ (Yi e1 j x hx))
   rw [hlen] at this
   have e0:a.add 0=a:=by simp [Addr.add]
   rw [e0] at this
   show (Extern.Bytes.loadBytes a n .empty).run P w=_
   rw [this,e2]
   congr 2
   simp [ByteArray.empty,ByteArray.emptyWithCapacity]
   rfl
 |string s=>
  have hn:n=s.size:=by simp [Builtin.lenOf] at r1;exact r1.symm
  subst hn
  simp only [Builtin.firstCells,Sem.run_pure,Result.ok.injEq,and_true] at r2
  have h1:=congrArg Array.toList r2
  rw [e1] at h1
  show Result.ok s w=_
  congr 1
  apply ByteArray.ext
  apply Array.ext'
  rw [e2]
  have h2:=congrArg (List.map fun v:Value=>match v with|.int _ n=>UInt8.ofNat n.toNat|_=>0) h1
  simp only [List.map_map,Array.toList_map] at h2
  have h3:(s.extract 0 s.size).data.toList=s.data.toList:=by simp
  rw [h3] at h2
  have h4:(List.map ((fun v:Value=>match v with|.int _ n=>UInt8.ofNat n.toNat|_=>0) ∘ fun b:UInt8=>Value.int .u8 (b.toNat:Int)) s.data.toList)=s.data.toList:=by
   rw [show ((fun v:Value=>match v with|.int _ n=>UInt8.ofNat n.toNat|_=>0) ∘ fun b:UInt8=>Value.int .u8 (b.toNat:Int))=id from by funext b;simp]
   simp
  rw [h4] at h2
  rw [h2]
  simp
 |_=>simp [Builtin.lenOf,stuck] at r1
def qw (args:List AV):M AV:=
 match args with
 | [a]=>.pure a
 |_=>.fail
def fk (args:List AV):M AV:=
 match args with
 | [a,b]=>(cellsIn 1 a).bind fun x=>(cellsIn 1 b).bind fun y=>
  match bytesOf x with
  |some x=>
   match bytesOf y with
   |some y=>.pure (.sc (goInt (Lib.compareBytes x y)))
   |none=>.fail
  |none=>.fail
 |_=>.fail
def ed {α:Type} (m:M α):Prop:=∀ st v bk,m st=some (v,bk)→bk.h=st.h∧bk.nx=st.nx
theorem ed.pure {α:Type} (a : α):ed (M.pure a):=fun st v bk h=>by cases h;exact ⟨rfl,rfl⟩
theorem ed.fail {α:Type}:ed (M.fail:M α):=fun st v bk h=>by cases h
theorem ed.bind {α β:Type} {m:M α} {f : α→M β} (hm:ed m) (h:∀ x,ed (f x)):ed (m.bind f):=fun st v bk hb=>by
 obtain ⟨x,s1,h1,h2⟩:=bind_some hb
 have h3:=hm _ _ _ h1
 have h4:=h x _ _ _ h2
 exact ⟨h4.1.trans h3.1,h4.2.trans h3.2⟩
theorem ed.c8 (id:Nat):ed (Vm.c8 id):=fun _st _v _st1 h=>(gh h).2
theorem ed.cond {α:Type} {b:Bool} {x y:M α} (hx:ed x) (hy:ed y):ed (bif b then x else y):=by cases b<;>assumption
theorem ed.cellsIn (sz:Nat) (v:AV):ed (Vm.cellsIn sz v):=by
 unfold Vm.cellsIn zh
 repeat' (first|exact ed.pure _|exact ed.fail|apply ed.cond|(refine ed.bind (ed.c8 _) fun x=>?_)|split)
theorem kb (args:List AV):ag (qw args):=by
 unfold qw;split
 ·exact ag.pure _
 ·exact ag.fail
theorem i5 (args:List AV):ag (fk args):=by
 unfold fk;split
 ·exact ag.bind (ag.cellsIn _ _) fun x=>ag.bind (ag.cellsIn _ _) fun y=>by
   split
   ·split
    ·exact ag.pure _
    ·exact ag.fail
   ·exact ag.fail
 ·exact ag.fail
theorem Bt (args:List AV):ed (fk args):=by
 unfold fk;split
 ·exact ed.bind (ed.cellsIn _ _) fun x=>ed.bind (ed.cellsIn _ _) fun y=>by
   split
   ·split
    ·exact ed.pure _
    ·exact ed.fail
   ·exact ed.fail
 ·exact ed.fail
theorem nb {P:Program} {f:Nat} {fn:Func} (hf:P.funcs[f]? = some fn) (h1:(fn.name == "runtime.NumGoroutine")=false) (h2:fn.body.isNone=true) (h3:Extern.findNext fn=none) (h4:Extern.find fn=some Extern.AbiNoEscape.same) (args:List AV) :
 Af P f args (qw args):=by
 intro g st w vs r st' hok hfree hlow hrel hm
 refine .inl ?_
 unfold qw at hm
 split at hm
 ·rename_i a
  cases hm
  obtain ⟨v,rfl,hv⟩:=Cg hrel
  refine ⟨v,w,g,?_,.refl _ _ _ _ _,hok,hv⟩
  rw [run_callFunc_extern hf h1 h2 h3 h4]
  rfl
 ·cases hm
theorem i6 {P:Program} {f:Nat} {fn:Func} (hf:P.funcs[f]? = some fn) (h1:(fn.name == "runtime.NumGoroutine")=false) (h2:fn.body.isNone=true) (h3:Extern.findNext fn=none) (h4:Extern.find fn=some Extern.BytealgCompare.compare) (args:List AV) :
 Af P f args (fk args):=by
 intro g st w vs r st' hok hfree hlow hrel hm
 refine .inl ?_
 have hst:=Bt _ _ _ _ hm
 unfold fk at hm
 split at hm
 ·rename_i a c
  obtain ⟨x,s1,e1,hm⟩:=bind_some hm
  obtain ⟨y,s2,e2,hm⟩:=bind_some hm
  cases hx:bytesOf x with
  |none=>rw [hx] at hm;cases hm
  |some bx=>
  cases hy:bytesOf y with
  |none=>rw [hx,hy] at hm;cases hm
  |some yb=>
  rw [hx,hy] at hm
  cases hm
  have hh:=ed.cellsIn _ _ _ _ _ e1
  match vs,hrel with
  | [v,u],hrel=>
   have r1:=Dd (P:=P) hok hrel.head e1 hx
   have r2:=Dd (P:=P) (st:=s1) (by rw [hh.1];exact hok) hrel.tail.head e2 hy
   refine ⟨goInt (Lib.compareBytes bx yb),w,g,?_,?_,?_,.sc _⟩
   ·rw [run_callFunc_extern hf h1 h2 h3 h4]
    have:(Extern.BytealgCompare.compare #[v,u]).run P w = .ok (goInt (Lib.compareBytes bx yb)) w:=by
     change Sem.run P (do pure (goInt (Extern.BytealgCompare.cmp (← Extern.Bytes.bytesOf v) (← Extern.Bytes.bytesOf u)))) w=_
     simp only [Sem.run_bind,r1,r2,Result.andThen,Sem.run_pure]
     rw [Lib.cmp_eq]
    show ((Extern.BytealgCompare.compare #[v,u]).run P w).andThen _=_
    rw [this]
    rfl
   ·rw [hst.1,hst.2];exact .refl _ _ _ _ _
   ·rw [hst.1];exact hok
  | [],hrel=>have:=hrel.1;simp at this
  | [v],hrel=>have:=hrel.1;simp at this
  |_::_::_::_,hrel=>have:=hrel.1;simp at this
 ·cases hm
def mf (l:List (Nat × Bool × (List AV→M AV))):fc:=fun f=>List.rec (motive:=fun _=>Option (Bool × (List AV→M AV))) none (fun p _ ih=>bif Nat.beq p.1 f then some p.2 else ih) l
theorem mn {P:Program}:lh P (mf [])∧g6 (mf []):=⟨(fun f p h=>by cases h),(fun f p h=>by cases h)⟩
theorem dk {P:Program} {f:Nat} {b:Bool} {m:List AV→M AV} {l:List (Nat × Bool × (List AV→M AV))} (h1:∀ args,Af P f args (m args)) (h2:∀ args,ag (m args)) (h:lh P (mf l)∧g6 (mf l)) :
 lh P (mf ((f,b,m)::l))∧g6 (mf ((f,b,m)::l)):=by
 have key:∀ g p,mf ((f,b,m)::l) g=some p→(g=f∧p=(b,m))∨mf l g=some p:=by
  intro g p hp
  change (bif Nat.beq f g then some (b,m) else mf l g)=some p at hp
  by_cases e:f=g
  ·subst e
   rw [Nat.beq_refl,cond_true] at hp
   cases hp
   exact .inl ⟨rfl,rfl⟩
  ·rw [ni e,cond_false] at hp
   exact .inr hp
 refine ⟨fun g p hp args=>?_,fun g p hp args=>?_⟩
 ·rcases key g p hp with ⟨rfl,rfl⟩|hp
  ·exact h1 args
  ·exact h.1 g p hp args
 ·rcases key g p hp with ⟨rfl,rfl⟩|hp
  ·exact h2 args
  ·exact h.2 g p hp args
theorem Hk {P:Program} {look:fc} (hl:lh P look) {f:Nat} {p:Bool × (List AV→M AV)} (hp:look f=some p) (he:mc P f=true) {args:List AV} {ρ:Type} (R:RC ρ) (fr:Bool) (x : ρ) {r:AV} {st':St} (h:p.2 args (br [])=some (r,st')) (hx:R.get fr st'.h r=some x) :
 be P f args (R.E fr x):=by
 intro K w vs hK hrel
 have hok:Ok (gK w.heap.size K) (br []).h w:=⟨Nat.le_refl _,fun o x hx=>by simp [br,qp,Tr.get_nil] at hx,fun o o' x x' b base base' _ hx=>by simp [br,qp,Tr.get_nil] at hx,hK⟩
 have fin:∀ v w' g',Step (gK w.heap.size K) (br []).h w (br []).nx st'.nx g' st'.h w'→Ok g' st'.h w'→Rel g' w' r v→Aj w w'∧Rel (gK w.heap.size (acw K w w')) w' (R.E fr x) v:=by
  intro v w' g' s hok' hr
  have hnone:∀ o base b,(Tr.get (br []).h o).isSome=true→(gK w.heap.size K).inj o≠some (b,base):=fun o base b ho=>by simp [br,qp,Tr.get_nil] at ho
  refine ⟨⟨s.size,fun b hb=>s.frame b hb (fun o base ho=>hnone o base b ho),s.os,s.tape,s.output⟩,?_⟩
  refine R.ok hok' ⟨fun b j hk=>?_,fun o cells k e' e ho b base hi j hj=>?_⟩ (fun _=>?_) hr hx
  ·rcases s.pz b j hk with h5|h5|⟨o,base,h5,_⟩
   ·exact .inl h5
   ·exact .inr ⟨h5,hok'.K b j hk⟩
   ·simp [br,qp,Tr.get_nil] at h5
  ·obtain ⟨b',base',h5,_,h6⟩:=hok'.obj o _ ho
   rw [hi] at h5;cases h5
   rcases s.own o b base (by rw [ho];rfl) hi with h7|⟨o',base',h7,_⟩
   ·exact .inr ⟨h7,h6.lt⟩
   ·simp [br,qp,Tr.get_nil] at h7
  ·exact Nat.le_of_eq s.ext.b0.symm
 rcases hl f p hp args (gK w.heap.size K) (br []) w vs r st' hok (fun _ _ _=>rfl) (fun o x hx=>by simp [br,qp,Tr.get_nil] at hx) hrel h with ⟨v,w',g',q1,q2,q3,q4⟩|⟨q1,q2⟩
 ·rw [vd he] at q1;cases q1
 ·refine .inr ⟨q1,q2.mono ?_⟩
  rintro e w' ⟨v,g',rfl,p2,p3,p4⟩
  exact ⟨v,rfl,fin v w' g' p2 p3 p4⟩
end
end Go.Vm
namespace Go.Vm
noncomputable section
def aus (c:AV):Bool:=
 match c with
 |.sc v=>match v with
  |.agg _=>false
  |_=>true
 |.agg _=>false
 |_=>true
def Fp (sz:Nat):Nat→List AV→List AV
 |0,_=>[]
 |n+1,l=>.agg (l.take sz)::Fp sz n (l.drop sz)
def Ob (sz n:Nat) (l:List AV):Option (List AV):=bif Nat.beq sz 1 then (bif l.all aus then some l else none) else some (Fp sz n l)
def Bm (f:AV→M AV) (l:List AV):M (List AV):=List.rec (motive:=fun _=>M (List AV)) (M.pure []) (fun a _ ih=>(f a).bind fun x=>ih.bind fun l=>M.pure (x::l)) l
def Yq (fr:Bool) (r:List AV→M (List AV)) (off len sz:Nat) (x:bf):M AV:=
 match x with
 |.row cells _ _ _=>bif Nat.ble (off+len * sz) cells.length then (r ((cells.drop off).take (len * sz))).bind fun l=>(M.of (Ob sz len l)).bind fun es=>M.pure (.vl fr sz es) else M.fail
 |_=>M.fail
def aco (fr:Bool) (f:AV→M AV) (a:AV):M AV:=
 match a with
 |.sc _=>M.pure a
 |.agg l=>(Bm f l).bind fun l=>M.pure (.agg l)
 |.fv l=>(Bm f l).bind fun l=>M.pure (.fv l)
 |.vl loc sz es=>bif loc || !fr then (Bm f es).bind fun l=>M.pure (.vl fr sz l) else M.fail
 |.sl o off len sz=>(c8 o).bind (Yq fr (Bm f) off len sz)
 |.ez=>M.pure a
 |_=>M.fail
def deep (fr:Bool) (n:Nat):AV→M AV:=Nat.rec (motive:=fun _=>AV→M AV) (fun _=>M.fail) (fun _ ih=>aco fr ih) n
theorem Xe {c:AV} (h:aus c=true):c.cells=[c]:=by
 cases c with
 |sc v=>cases v<;>first|rfl|cases h
 |agg l=>cases h
 |_=>rfl
theorem Mk {sz:Nat}:∀ (n:Nat) (l:List AV),l.length=n * sz→(Fp sz n l).flatMap AV.cells=l∧(Fp sz n l).length=n∧∀ e ∈ Fp sz n l,e.cells.length=sz
 |0,l,h=>by
  have:l=[]:=List.eq_nil_of_length_eq_zero (by simpa using h)
  subst this
  exact ⟨rfl,rfl,fun e he=>by cases he⟩
 |n+1,l,h=>by
  rw [Nat.succ_mul] at h
  obtain ⟨h1,h2,h3⟩:=Mk (sz:=sz) n (l.drop sz) (by rw [List.length_drop];omega)
  refine ⟨?_,by simp [Fp,h2],fun e he=>?_⟩
  ·rw [Fp,List.flatMap_cons,h1]
   show l.take sz++l.drop sz=l
   exact List.take_append_drop sz l
  ·rcases List.mem_cons.1 he with rfl|he
   ·show (l.take sz).length=sz
    rw [List.length_take];omega
   ·exact h3 e he
theorem ac8 {sz n:Nat} {l es:List AV} (hl:l.length=n * sz) (h:Ob sz n l=some es):es.flatMap AV.cells=l∧es.length=n∧∀ e ∈ es,e.cells.length=sz:=by
 unfold Ob at h
 cases hb:Nat.beq sz 1 with
 |false=>rw [hb] at h;cases h;exact Mk n l hl
 |true=>
  rw [hb,cond_true] at h
  have h1:=Nat.eq_of_beq_eq_true hb
  subst h1
  cases ha:l.all aus with
  |false=>rw [ha] at h;cases h
  |true=>
   rw [ha] at h
   cases h
   rw [List.all_eq_true] at ha
   refine ⟨?_,by omega,fun e he=>by rw [Xe (ha e he)];rfl⟩
   clear hl
   induction l with
   |nil=>rfl
   |cons a l ih=>rw [List.flatMap_cons,Xe (ha a (by simp)),ih (fun x hx=>ha x (by simp [hx]))];rfl
structure Gx (fr:Bool) (h:Tr bf) (a x:AV):Prop where
 len:x.cells.length=a.cells.length
 rel:∀ {g w K b0 v},Ok g h w→sm g h K→(fr=true→b0≤g.b0)→Rel g w a v→Rel (gK b0 K) w x v
 cel:∀ {g w K b0 vs},Ok g h w→sm g h K→(fr=true→b0≤g.b0)→bq g w a.cells vs→bq (gK b0 K) w x.cells vs
structure G3 (fr:Bool) (h:Tr bf) (l l':List AV):Prop where
 len:l'.length=l.length
 size:∀ sz,(∀ e ∈ l,e.cells.length=sz)→∀ e ∈ l',e.cells.length=sz
 rel:∀ {g w K b0 vs},Ok g h w→sm g h K→(fr=true→b0≤g.b0)→bq g w l vs→bq (gK b0 K) w l' vs
 cel:∀ {g w K b0 vs},Ok g h w→sm g h K→(fr=true→b0≤g.b0)→bq g w (l.flatMap AV.cells) vs→bq (gK b0 K) w (l'.flatMap AV.cells) vs
theorem G3.nil {fr h}:G3 fr h [] [] where
 len:=rfl
 size _ _ e he:=by cases he
 rel _ _ _ hr:=⟨hr.1,fun i a v ha=>by simp at ha⟩
 cel _ _ _ hr:=⟨hr.1,fun i a v ha=>by simp at ha⟩
theorem ayo {g w a l vs} (h:bq g w (a::l) vs):∃ v us,vs=v::us∧Rel g w a v∧bq g w l us:=by
 match vs,h with
 | [],h=>have:=h.1;simp at this
 |v::us,h=>exact ⟨v,us,rfl,h.head,h.tail⟩
theorem G3.cons {fr h a x l l'} (h1:Gx fr h a x) (h2:G3 fr h l l'):G3 fr h (a::l) (x::l') where
 len:=by simp [h2.len]
 size sz hs e he:=by
  rcases List.mem_cons.1 he with rfl|he
  ·rw [h1.len];exact hs a (by simp)
  ·exact h2.size sz (fun e he=>hs e (by simp [he])) e he
 rel hok hl hb hr:=by
  obtain ⟨v,us,rfl,q1,q2⟩:=ayo hr
  exact bq.cons (h1.rel hok hl hb q1) (h2.rel hok hl hb q2)
 cel hok hl hb hr:=by
  rw [List.flatMap_cons] at hr ⊢
  obtain ⟨u,u',rfl,q1,q2⟩:=hr.split
  exact (h1.cel hok hl hb q1).append (h2.cel hok hl hb q2)
theorem Gx.one {fr h a x} (ha:a.cells=[a]) (hx:x.cells=[x]) (rel:∀ {g w K b0 v},Ok g h w→sm g h K→(fr=true→b0≤g.b0)→Rel g w a v→Rel (gK b0 K) w x v):Gx fr h a x where
 len:=by rw [ha,hx];rfl
 rel:=rel
 cel hok hl hb hr:=by
  rw [ha] at hr
  rw [hx]
  obtain ⟨v,rfl,h1⟩:=Cg hr
  exact bq.one (rel hok hl hb h1)
theorem ac6 {fr b0 K w sz} {es:List AV} {vs:List Value} {b off cap:Nat} (hr:bq (gK b0 K) w (es.flatMap AV.cells) vs) (hsz:∀ e ∈ es,e.cells.length=sz) (hcap:es.length≤cap) (hb:fr=true→b0≤b)
 (hc:∀ j v,vs[j]? = some v→K b (off+j)∧w.cell? ⟨b,off+j,none⟩=some v):Rel (gK b0 K) w (.vl fr sz es) (.slice (some ⟨b,off,none⟩) es.length cap):=
 Rel.vl (g:=gK b0 K) (w:=w) fr sz es b off cap (fun j=>vs.getD j undef) hsz hb hcap
  (fun j a ha=>by
   obtain ⟨v,hv,_⟩:=hr.get ha
   have:=hc j v hv
   exact ⟨this.1,by rw [this.2,List.getD_eq_getElem?_getD,hv];rfl⟩)
  (fun j a ha=>by
   obtain ⟨v,hv,hrel⟩:=hr.get ha
   show Rel _ _ a (vs.getD j undef)
   rw [List.getD_eq_getElem?_getD,hv];exact hrel)
theorem azi {fr h loc sz} {es es':List AV} (hd:G3 fr h es es') (hb:(loc || !fr)=true):Gx fr h (.vl loc sz es) (.vl fr sz es'):=by
 refine Gx.one rfl rfl fun {g w K b0 v} hok hl hb0 hr=>?_
 cases hr with
 |kn=>have:=hd.len;rw [List.eq_nil_of_length_eq_zero this];exact .kn _ _
 |uq _ _ a=>have:=hd.len;rw [List.eq_nil_of_length_eq_zero this];exact .uq _ _ a
 |vl _ _ _ b off cap c hsz hloc hcap hc hrel=>
  have hloc':fr=true→b0≤b:=fun e=>by
   rw [e] at hb
   simp at hb
   have:=hloc hb
   have:=hb0 e
   omega
  have hlist:bq g w (es.flatMap AV.cells) (jh 0 (es.flatMap AV.cells).length c):=by
   refine ⟨by simp [jh],fun i a v ha hv=>?_⟩
   have hi:=(List.getElem?_eq_some_iff.1 ha).1
   simp only [jh,List.getElem?_map,List.getElem?_range hi,Option.map_some,Option.some.injEq,Nat.zero_add] at hv
   subst hv
   exact hrel i a ha
  have q1:=hd.cel (b0:=b0) hok hl hb0 hlist
  rw [← hd.len]
  refine ac6 q1 (hd.size sz hsz) (by rw [hd.len];exact hcap) hloc' (fun j v hv=>?_)
  have hj:j<(es.flatMap AV.cells).length:=by
   have:=(List.getElem?_eq_some_iff.1 hv).1;simpa [jh] using this
  simp only [jh,List.getElem?_map,List.getElem?_range hj,Option.map_some,Option.some.injEq,Nat.zero_add] at hv
  subst hv
  have:=hc j _ (List.getElem?_eq_getElem hj)
  exact ⟨hl.K _ _ this.1,this.2⟩
theorem azc {fr h o off len sz k st et} {cells l es:List AV} (ho:h.get o=some (.row cells k st et)) (hle:off+len * sz≤cells.length) (hd:G3 fr h ((cells.drop off).take (len * sz)) l) (he:Ob sz len l=some es):Gx fr h (.sl o off len sz) (.vl fr sz es):=by
 have hlen:((cells.drop off).take (len * sz)).length=len * sz:=by simp;omega
 obtain ⟨e1,e2,e3⟩:=ac8 (hd.len.trans hlen) he
 refine Gx.one rfl rfl fun {g w K b0 v} hok hl hb0 hr=>?_
 cases hr with
 |w5 _ _ _ a=>rw [List.eq_nil_of_length_eq_zero e2];exact .uq _ _ a
 |xq _ _ _=>rw [List.eq_nil_of_length_eq_zero e2];exact .kn _ _
 |sl _ _ _ _ b base cap hi hcap hm hroom=>
  obtain ⟨b',base',hi',hbb,hrow⟩:=hok.obj o _ ho
  rw [hi] at hi';cases hi'
  obtain ⟨cs,fz,r1,r2,r3,_⟩:=hrow
  have hpart:bq g w ((cells.drop off).take (len * sz)) (jh (base+off) (len * sz) (fun j=>cs.getD j undef)):=by
   refine ⟨by simp [jh];omega,fun i a v ha hv=>?_⟩
   rw [List.getElem?_take,List.getElem?_drop] at ha
   by_cases hil:i<len * sz
   ·rw [if_pos hil] at ha
    obtain ⟨u,hu,hrel⟩:=r3 _ a ha
    simp only [jh,List.getElem?_map,List.getElem?_range hil,Option.map_some,Option.some.injEq] at hv
    subst hv
    rw [Array.getD_eq_getD_getElem?,Nat.add_assoc,hu]
    exact hrel
   ·rw [if_neg hil] at ha;cases ha
  have q1:=hd.rel (b0:=b0) hok hl hb0 hpart
  rw [← e1] at q1
  rw [← e2]
  refine ac6 q1 e3 (by omega) (fun e=>by have:=hb0 e;omega) (fun j v hv=>?_)
  have hj:j<len * sz:=by
   have:=(List.getElem?_eq_some_iff.1 hv).1;simpa [jh] using this
  simp only [jh,List.getElem?_map,List.getElem?_range hj,Option.map_some,Option.some.injEq] at hv
  obtain ⟨u,hu,_⟩:=r3 (off+j) (cells[off+j]'(by omega)) (by simp)
  have hrows:=hl.rows o cells k st et ho b base hi (off+j) (by omega)
  rw [← Nat.add_assoc] at hrows hu
  refine ⟨hrows,?_⟩
  rw [m8 r1,hu,← hv,Array.getD_eq_getD_getElem?,hu]
  rfl
def acd (fr:Bool) (f:AV→M AV):Prop:=∀ a st x bk,f a st=some (x,bk)→bk.h=st.h∧bk.nx=st.nx∧Gx fr st.h a x
theorem zu {fr} {f:AV→M AV} (hf:acd fr f):∀ (l:List AV) (st:St) (l':List AV) (bk:St),Bm f l st=some (l',bk)→bk.h=st.h∧bk.nx=st.nx∧G3 fr st.h l l'
 | [],st,l',bk,h=>by cases h;exact ⟨rfl,rfl,.nil⟩
 |a::l,st,l',bk,h=>by
  change (M.bind (f a) fun x=>M.bind (Bm f l) fun l=>M.pure (x::l)) st=_ at h
  obtain ⟨x,s1,h1,h⟩:=bind_some h
  obtain ⟨q,s2,h2,h⟩:=bind_some h
  cases h
  obtain ⟨e1,e2,e3⟩:=hf a st x s1 h1
  obtain ⟨e4,e5,e6⟩:=zu hf l s1 q _ h2
  rw [e1] at e6
  exact ⟨e4.trans e1,e5.trans e2,.cons e3 e6⟩
theorem aua {g g' w vs} {l:List Value} (h:bq g w (l.map .sc) vs):bq g' w (l.map .sc) vs:=
 ⟨h.1,fun i a v ha hv=>by
  have h1:=h.2 i a v ha hv
  rw [List.getElem?_map,Option.map_eq_some_iff] at ha
  obtain ⟨u,_,rfl⟩:=ha
  cases h1
  exact .sc _⟩
theorem amc {fr} {f:AV→M AV} (hf:acd fr f):acd fr (aco fr f):=by
 intro a st x bk h
 cases a with
 |sc v=>
  cases h
  exact ⟨rfl,rfl,rfl,(fun _ _ _ hr=>by cases hr;exact .sc _),fun _ _ _ hr=>aua hr⟩
 |ez=>cases h;exact ⟨rfl,rfl,.one rfl rfl fun _ _ _ hr=>by cases hr;exact .ez _⟩
 |agg l=>
  change ((Bm f l).bind fun l=>M.pure (AV.agg l)) st=some (x,bk) at h
  obtain ⟨l',s1,h1,h⟩:=bind_some h
  cases h
  obtain ⟨e1,e2,e3⟩:=zu hf l st l' _ h1
  refine ⟨e1,e2,e3.len,fun {g w K b0 v} hok hl hb hr=>?_,fun hok hl hb hr=>e3.rel hok hl hb hr⟩
  cases hr with
  |agg _ vs hs hh=>
   have q:=e3.rel (b0:=b0) hok hl hb (vs:=vs.toList) ⟨by simpa using hs,fun i a v ha hv=>hh i a v ha (by simpa using hv)⟩
   exact .agg _ vs (by rw [hs,e3.len]) (fun i a v ha hv=>q.2 i a v ha (by simpa using hv))
 |fv l=>
  change ((Bm f l).bind fun l=>M.pure (AV.fv l)) st=some (x,bk) at h
  obtain ⟨l',s1,h1,h⟩:=bind_some h
  cases h
  obtain ⟨e1,e2,e3⟩:=zu hf l st l' _ h1
  refine ⟨e1,e2,.one rfl rfl fun {g w K b0 v} hok hl hb hr=>?_⟩
  cases hr with
  |fv _ vs hs hh=>
   have q:=e3.rel (b0:=b0) hok hl hb (vs:=vs.toList) ⟨by simpa using hs,fun i a v ha hv=>hh i a v ha (by simpa using hv)⟩
   exact .fv _ vs (by rw [hs,e3.len]) (fun i a v ha hv=>q.2 i a v ha (by simpa using hv))
 |vl loc sz es=>
  change (bif loc || !fr then (Bm f es).bind fun l=>M.pure (AV.vl fr sz l) else M.fail) st=some (x,bk) at h
  cases hb:(loc || !fr) with
  |false=>rw [hb] at h;cases h
  |true=>
   rw [hb,cond_true] at h
   obtain ⟨l',s1,h1,h⟩:=bind_some h
   cases h
   obtain ⟨e1,e2,e3⟩:=zu hf es st l' _ h1
   exact ⟨e1,e2,azi e3 hb⟩
 |sl o off len sz=>
  change ((c8 o).bind (Yq fr (Bm f) off len sz)) st=_ at h
  obtain ⟨ob,s1,h1,h⟩:=bind_some h
  obtain ⟨ho,hs1⟩:=gh h1
  cases ob with
  |row cells k s e=>
   change (bif Nat.ble (off+len * sz) cells.length then (Bm f ((cells.drop off).take (len * sz))).bind fun l=>(M.of (Ob sz len l)).bind fun es=>M.pure (AV.vl fr sz es) else M.fail) s1=some (x,bk) at h
   cases hle:Nat.ble (off+len * sz) cells.length with
   |false=>rw [hle] at h;cases h
   |true=>
    rw [hle,cond_true] at h
    obtain ⟨l,s2,h2,h⟩:=bind_some h
    obtain ⟨es,s3,h3,h⟩:=bind_some h
    cases h
    obtain ⟨h4,rfl⟩:=nc h3
    obtain ⟨e1,e2,e3⟩:=zu hf _ s1 l _ h2
    rw [hs1.1] at e1 e3
    rw [hs1.2] at e2
    exact ⟨e1,e2,azc ho (Nat.le_of_ble_eq_true hle) e3 h4⟩
  |_=>cases h
 |_=>cases h
theorem Mc (fr:Bool):∀ n,acd fr (deep fr n)
 |0=>fun _ _ _ _ h=>by cases h
 |n+1=>amc (Mc fr n)
theorem Ie {f:AV→M AV} (hf:∀ a,ag (f a)):∀ l,ag (Bm f l)
 | []=>ag.pure _
 |a::l=>ag.bind (hf a) fun _=>ag.bind (Ie hf l) fun _=>ag.pure _
theorem ada {fr} {f:AV→M AV} (hf:∀ a,ag (f a)) (a:AV):ag (aco fr f a):=by
 unfold aco Yq
 repeat' (first|exact ag.pure _|exact ag.fail|exact ag.of _|exact ag.c8 _|exact Ie hf _|apply ag.cond|(refine ag.bind ?_ fun x=>?_)|split)
theorem Rc (fr:Bool):∀ n a,ag (deep fr n a)
 |0,_=>ag.fail
 |n+1,a=>ada (Rc fr n) a
namespace Lit
abbrev I (k:IntKind) (n:Int):AV:=.sc (.int k n)
abbrev B (b:Bool):AV:=.sc (.bool b)
abbrev S (l:List UInt8):AV:=.sc (.string ⟨⟨l⟩⟩)
abbrev N:AV:=.sc (.slice none 0 0)
abbrev G (l:List AV):AV:=.agg l
abbrev T (l:List AV):AV:=.fv l
abbrev V (loc:Bool) (sz:Nat) (es:List AV):AV:=.vl loc sz es
abbrev Z:AV:=.ez
end Lit
abbrev Yr:=List (List AV × AV)
def aci (ds:List AV):Yr→Option AV
 | []=>none
 |p::r=>bif lq.eqL p.1 ds then some p.2 else aci ds r
theorem aa5 {ds:List AV} {r:AV}:∀ {l:Yr},aci ds l=some r→(ds,r) ∈ l
 | [],h=>by cases h
 |p::l,h=>by
  unfold aci at h
  cases hb:lq.eqL p.1 ds with
  |false=>rw [hb] at h;exact List.mem_cons_of_mem _ (aa5 h)
  |true=>
   rw [hb] at h
   cases h
   rw [← B8 hb]
   exact List.mem_cons_self
def tp (n:Nat) (l:Yr) (args:List AV):M AV:=(Bm (deep false n) args).bind fun ds=>M.of (aci ds l)
theorem jv (n:Nat) (l:Yr) (args:List AV):ag (tp n l args):=ag.bind (Ie (Rc false n) _) fun _=>ag.of _
def fj (P:Program) (f:Nat) (l:Yr):Prop:=∀ p ∈ l,p.2.fresh=true∧be P f p.1 p.2
theorem fj.nil {P f}:fj P f []:=fun p hp=>by cases hp
theorem fj.cons {P f a r l} (hf:r.fresh=true) (h:be P f a r) (hl:fj P f l):fj P f ((a,r)::l):=fun p hp=>by
 rcases List.mem_cons.1 hp with rfl|hp
 ·exact ⟨hf,h⟩
 ·exact hl p hp
theorem ly {P:Program} {f n:Nat} {l:Yr} (h:fj P f l) (args:List AV):Af P f args (tp n l args):=by
 intro g st w vs r st' hok hfree _ hrel hm
 obtain ⟨ds,s1,h1,hm⟩:=bind_some hm
 obtain ⟨h2,rfl⟩:=nc hm
 obtain ⟨hfr,hp⟩:=h _ (aa5 h2)
 obtain ⟨e1,e2,e3⟩:=zu (Mc false n) args st ds _ h1
 have hargs:=e3.rel (b0:=w.heap.size) (K:=fun b _=>b<w.heap.size) hok ⟨fun b j hk=>hok.K b j hk,fun o cells k s e ho b base hi j hj=>by
  obtain ⟨b',base',h5,_,h6⟩:=hok.obj o _ ho
  rw [hi] at h5;cases h5
  exact h6.lt⟩ (fun h=>by cases h) hrel
 rw [e1,e2]
 have hX:∀ v w',Aj w w'∧Rel (gK w.heap.size (acw (fun b _=>b<w.heap.size) w w')) w' r v→Aj w w'∧Rel (g.more w w') w' r v:=fun v w' hv=>⟨hv.1,hv.2.fresh hfr hok.size (fun b j hk hle=>by
  rcases hk with hk|hk
  ·omega
  ·exact .inr hk)⟩
 rcases hp (fun b _=>b<w.heap.size) w vs (fun _ _ h=>h) hargs with ⟨v,q1,q2⟩|⟨q1,q2⟩
 ·obtain ⟨q,hr⟩:=hX v w q2
  have:=D5 (lo:=st.nx) (hi:=st.nx) hok q
  exact .inl ⟨v,w,_,q1,this.1,this.2,hr⟩
 ·refine .inr ⟨q1,q2.mono ?_⟩
  rintro e w' ⟨v,rfl,h3⟩
  obtain ⟨q,hr⟩:=hX v w' h3
  have:=D5 (lo:=st.nx) (hi:=st.nx) hok q
  exact ⟨v,_,rfl,this.1,this.2,hr⟩
def ao1 (n:Nat):RC AV where
 E _ x:=x
 D fr h a:=match deep fr n a { h:=h,nx:=0,rl:=[],wl:=[] } with
  |some p=>some p.1
  |none=>none
 ok:=by
  intro fr g h w K b0 a v x hok hl hb hr hd
  split at hd
  ·rename_i p hp
   cases hd
   exact ((Mc fr n) a _ p.1 p.2 hp).2.2.rel hok hl hb hr
  ·cases hd
def awp (n:Nat) (o:Option (AV × St)) (x:AV):Bool:=
 match o with
 |some p=>match (ao1 n).get true p.2.h p.1 with
  |some y=>lq y x && x.fresh
  |none=>false
 |none=>false
theorem ey {P:Program} {look:fc} (hl:lh P look) {f n:Nat} (he:mc P f=true) {args:List AV} {x:AV} (h:awp n (match look f with|some p=>p.2 args (br [])|none=>none) x=true):x.fresh=true∧be P f args x:=by
 unfold awp at h
 cases hp:look f with
 |none=>rw [hp] at h;cases h
 |some p=>
  rw [hp] at h
  dsimp only at h
  cases hq:p.2 args (br []) with
  |none=>rw [hq] at h;cases h
  |some q=>
   rw [hq] at h
   dsimp only at h
   cases hy:(ao1 n).get true q.2.h q.1 with
   |none=>rw [hy] at h;cases h
   |some y=>
    rw [hy] at h
    simp only [Bool.and_eq_true] at h
    have hx:=Jy h.1
    subst hx
    exact ⟨h.2,Hk hl hp he (ao1 n) true y (r:=q.1) (st':=q.2) hq hy⟩
end
end Go.Vm
section
namespace Go.Proofs.YtajammoepjpiiaaGreat.known21
open Go.Vm Go.Vm.Lit
set_option maxRecDepth 1000000
noncomputable def pv0:AV:=(V false 8 [(G [(N),(I .u16 (6)),(I .u16 (1)),(I .u32 (60)),(V false 1 [(V false 1 [(S [110,115]),(S [114,111,111,116])]),(V false 1 [(S [110,115]),(S [114,111,111,116])])]),(V false 1 [(I .u32 (1)),(I .u32 (2)),(I .u32 (3)),(I .u32 (4)),(I .u32 (30))]),(N),(N)]),(G [(N),(I .u16 (2)),(I .u16 (1)),(I .u32 (60)),(V false 1 [(V false 1 [(S [110,115]),(S [114,111,111,116])])]),(N),(N),(N)]),(G [(V false 1 [(S [110,115]),(S [114,111,111,116])]),(I .u16 (1)),(I .u16 (1)),(I .u32 (60)),(N),(N),(N),(V false 1 [(I .u8 (10)),(I .u8 (0)),(I .u8 (0)),(I .u8 (1))])]),(G [(V false 1 [(S [97])]),(I .u16 (2)),(I .u16 (1)),(I .u32 (60)),(V false 1 [(V false 1 [(S [110,115]),(S [97])])]),(N),(N),(N)]),(G [(V false 1 [(S [110,115]),(S [97])]),(I .u16 (1)),(I .u16 (1)),(I .u32 (60)),(N),(N),(N),(V false 1 [(I .u8 (10)),(I .u8 (0)),(I .u8 (0)),(I .u8 (2))])])])
noncomputable def pv1:AV:=(T [(G [(V true 1 []),(V true 5 [(G [(V true 1 []),(I .u16 (2)),(I .u16 (1)),(I .u32 (60)),(V true 4 [(G [(V true 1 [(V true 1 [(S [110,115]),(S [114,111,111,116])])]),(N),(N),(N)])])]),(G [(V true 1 []),(I .u16 (6)),(I .u16 (1)),(I .u32 (60)),(V true 4 [(G [(V true 1 [(V true 1 [(S [110,115]),(S [114,111,111,116])]),(V true 1 [(S [110,115]),(S [114,111,111,116])])]),(V true 1 [(I .u32 (1)),(I .u32 (2)),(I .u32 (3)),(I .u32 (4)),(I .u32 (30))]),(N),(N)])])]),(G [(V true 1 [(S [97])]),(I .u16 (2)),(I .u16 (1)),(I .u32 (60)),(V true 4 [(G [(V true 1 [(V true 1 [(S [110,115]),(S [97])])]),(N),(N),(N)])])]),(G [(V true 1 [(S [110,115]),(S [97])]),(I .u16 (1)),(I .u16 (1)),(I .u32 (60)),(V true 4 [(G [(N),(N),(N),(V true 1 [(I .u8 (10)),(I .u8 (0)),(I .u8 (0)),(I .u8 (2))])])])]),(G [(V true 1 [(S [110,115]),(S [114,111,111,116])]),(I .u16 (1)),(I .u16 (1)),(I .u32 (60)),(V true 4 [(G [(N),(N),(N),(V true 1 [(I .u8 (10)),(I .u8 (0)),(I .u8 (0)),(I .u8 (1))])])])])])]),(I .i64 (0))])
noncomputable def pb0:fc:=mf [(194,true,qw),(191,true,fk)]
theorem Hh:lh PP pb0∧g6 pb0:=
 dk (fun args=>nb (fn:=(PP.funcs[194]?).getD default) (by kernel_rfl) (by kernel_rfl) (by kernel_rfl) (by kernel_rfl) (by kernel_rfl) args) (fun args=>kb args) (dk (fun args=>i6 (fn:=(PP.funcs[191]?).getD default) (by kernel_rfl) (by kernel_rfl) (by kernel_rfl) (by kernel_rfl) (by kernel_rfl) args) (fun args=>i5 args) (mn))
noncomputable def pa0:List AV:=[(N),pv0]
noncomputable def pr0:AV:=pv1
theorem pm0:pr0.fresh=true∧be PP 70 pa0 pr0:=
 ey (n:=60) (i9 Hh.1 Hh.2 mixed 100000 60).1 (by kernel_rfl) (by kernel_rfl)
noncomputable def pv2:AV:=(V false 8 [(G [(V false 1 [(S [97])]),(I .u16 (6)),(I .u16 (1)),(I .u32 (60)),(V false 1 [(V false 1 [(S [110,115]),(S [97])]),(V false 1 [(S [110,115]),(S [97])])]),(V false 1 [(I .u32 (1)),(I .u32 (2)),(I .u32 (3)),(I .u32 (4)),(I .u32 (30))]),(N),(N)]),(G [(V false 1 [(S [97])]),(I .u16 (2)),(I .u16 (1)),(I .u32 (60)),(V false 1 [(V false 1 [(S [110,115]),(S [97])])]),(N),(N),(N)]),(G [(V false 1 [(S [110,115]),(S [97])]),(I .u16 (1)),(I .u16 (1)),(I .u32 (60)),(N),(N),(N),(V false 1 [(I .u8 (10)),(I .u8 (0)),(I .u8 (0)),(I .u8 (2))])])])
noncomputable def pv3:AV:=(T [(G [(V true 1 [(S [97])]),(V true 5 [(G [(V true 1 [(S [97])]),(I .u16 (2)),(I .u16 (1)),(I .u32 (60)),(V true 4 [(G [(V true 1 [(V true 1 [(S [110,115]),(S [97])])]),(N),(N),(N)])])]),(G [(V true 1 [(S [97])]),(I .u16 (6)),(I .u16 (1)),(I .u32 (60)),(V true 4 [(G [(V true 1 [(V true 1 [(S [110,115]),(S [97])]),(V true 1 [(S [110,115]),(S [97])])]),(V true 1 [(I .u32 (1)),(I .u32 (2)),(I .u32 (3)),(I .u32 (4)),(I .u32 (30))]),(N),(N)])])]),(G [(V true 1 [(S [110,115]),(S [97])]),(I .u16 (1)),(I .u16 (1)),(I .u32 (60)),(V true 4 [(G [(N),(N),(N),(V true 1 [(I .u8 (10)),(I .u8 (0)),(I .u8 (0)),(I .u8 (2))])])])])])]),(I .i64 (0))])
noncomputable def pa1:List AV:=[(V false 1 [(S [97])]),pv2]
noncomputable def pr1:AV:=pv3
theorem pm1:pr1.fresh=true∧be PP 70 pa1 pr1:=
 ey (n:=60) (i9 Hh.1 Hh.2 mixed 100000 60).1 (by kernel_rfl) (by kernel_rfl)
noncomputable def pv4:AV:=(V false 8 [(G [(V false 1 [(S [97])]),(I .u16 (2)),(I .u16 (1)),(I .u32 (60)),(V false 1 [(V false 1 [(S [110,115]),(S [97])])]),(N),(N),(N)]),(G [(V false 1 [(S [97])]),(I .u16 (6)),(I .u16 (1)),(I .u32 (60)),(V false 1 [(V false 1 [(S [110,115]),(S [97])]),(V false 1 [(S [110,115]),(S [97])])]),(V false 1 [(I .u32 (1)),(I .u32 (2)),(I .u32 (3)),(I .u32 (4)),(I .u32 (30))]),(N),(N)]),(G [(V false 1 [(S [110,115]),(S [97])]),(I .u16 (1)),(I .u16 (1)),(I .u32 (60)),(N),(N),(N),(V false 1 [(I .u8 (10)),(I .u8 (0)),(I .u8 (0)),(I .u8 (2))])]),(G [(V false 1 [(S [119,119,119]),(S [97])]),(I .u16 (5)),(I .u16 (1)),(I .u32 (60)),(V false 1 [(V false 1 [(S [109]),(S [97])])]),(N),(N),(N)]),(G [(V false 1 [(S [109]),(S [97])]),(I .u16 (1)),(I .u16 (1)),(I .u32 (60)),(N),(N),(N),(V false 1 [(I .u8 (10)),(I .u8 (0)),(I .u8 (0)),(I .u8 (9))])]),(G [(V false 1 [(S [120]),(S [97])]),(I .u16 (5)),(I .u16 (1)),(I .u32 (60)),(V false 1 [(V false 1 [(S [120]),(S [97])])]),(N),(N),(N)]),(G [(V false 1 [(S [111]),(S [97])]),(I .u16 (5)),(I .u16 (1)),(I .u32 (60)),(V false 1 [(V false 1 [(S [110,115]),(S [114,111,111,116])])]),(N),(N),(N)])])
noncomputable def pv5:AV:=(T [(G [(V true 1 [(S [97])]),(V true 5 [(G [(V true 1 [(S [97])]),(I .u16 (2)),(I .u16 (1)),(I .u32 (60)),(V true 4 [(G [(V true 1 [(V true 1 [(S [110,115]),(S [97])])]),(N),(N),(N)])])]),(G [(V true 1 [(S [97])]),(I .u16 (6)),(I .u16 (1)),(I .u32 (60)),(V true 4 [(G [(V true 1 [(V true 1 [(S [110,115]),(S [97])]),(V true 1 [(S [110,115]),(S [97])])]),(V true 1 [(I .u32 (1)),(I .u32 (2)),(I .u32 (3)),(I .u32 (4)),(I .u32 (30))]),(N),(N)])])]),(G [(V true 1 [(S [109]),(S [97])]),(I .u16 (1)),(I .u16 (1)),(I .u32 (60)),(V true 4 [(G [(N),(N),(N),(V true 1 [(I .u8 (10)),(I .u8 (0)),(I .u8 (0)),(I .u8 (9))])])])]),(G [(V true 1 [(S [110,115]),(S [97])]),(I .u16 (1)),(I .u16 (1)),(I .u32 (60)),(V true 4 [(G [(N),(N),(N),(V true 1 [(I .u8 (10)),(I .u8 (0)),(I .u8 (0)),(I .u8 (2))])])])]),(G [(V true 1 [(S [111]),(S [97])]),(I .u16 (5)),(I .u16 (1)),(I .u32 (60)),(V true 4 [(G [(V true 1 [(V true 1 [(S [110,115]),(S [114,111,111,116])])]),(N),(N),(N)])])]),(G [(V true 1 [(S [119,119,119]),(S [97])]),(I .u16 (5)),(I .u16 (1)),(I .u32 (60)),(V true 4 [(G [(V true 1 [(V true 1 [(S [109]),(S [97])])]),(N),(N),(N)])])]),(G [(V true 1 [(S [120]),(S [97])]),(I .u16 (5)),(I .u16 (1)),(I .u32 (60)),(V true 4 [(G [(V true 1 [(V true 1 [(S [120]),(S [97])])]),(N),(N),(N)])])])])]),(I .i64 (0))])
noncomputable def pa2:List AV:=[(V false 1 [(S [97])]),pv4]
noncomputable def pr2:AV:=pv5
theorem pm2:pr2.fresh=true∧be PP 70 pa2 pr2:=
 ey (n:=60) (i9 Hh.1 Hh.2 mixed 100000 60).1 (by kernel_rfl) (by kernel_rfl)
noncomputable def pv6:AV:=(G [(V true 2 [(G [(V true 1 []),(V true 5 [(G [(V true 1 []),(I .u16 (2)),(I .u16 (1)),(I .u32 (60)),(V true 4 [(G [(V true 1 [(V true 1 [(S [110,115]),(S [114,111,111,116])])]),(N),(N),(N)])])]),(G [(V true 1 []),(I .u16 (6)),(I .u16 (1)),(I .u32 (60)),(V true 4 [(G [(V true 1 [(V true 1 [(S [110,115]),(S [114,111,111,116])]),(V true 1 [(S [110,115]),(S [114,111,111,116])])]),(V true 1 [(I .u32 (1)),(I .u32 (2)),(I .u32 (3)),(I .u32 (4)),(I .u32 (30))]),(N),(N)])])]),(G [(V true 1 [(S [97])]),(I .u16 (2)),(I .u16 (1)),(I .u32 (60)),(V true 4 [(G [(V true 1 [(V true 1 [(S [110,115]),(S [97])])]),(N),(N),(N)])])]),(G [(V true 1 [(S [110,115]),(S [97])]),(I .u16 (1)),(I .u16 (1)),(I .u32 (60)),(V true 4 [(G [(N),(N),(N),(V true 1 [(I .u8 (10)),(I .u8 (0)),(I .u8 (0)),(I .u8 (2))])])])]),(G [(V true 1 [(S [110,115]),(S [114,111,111,116])]),(I .u16 (1)),(I .u16 (1)),(I .u32 (60)),(V true 4 [(G [(N),(N),(N),(V true 1 [(I .u8 (10)),(I .u8 (0)),(I .u8 (0)),(I .u8 (1))])])])])])]),(G [(V true 1 [(S [97])]),(V true 5 [(G [(V true 1 [(S [97])]),(I .u16 (2)),(I .u16 (1)),(I .u32 (60)),(V true 4 [(G [(V true 1 [(V true 1 [(S [110,115]),(S [97])])]),(N),(N),(N)])])]),(G [(V true 1 [(S [97])]),(I .u16 (6)),(I .u16 (1)),(I .u32 (60)),(V true 4 [(G [(V true 1 [(V true 1 [(S [110,115]),(S [97])]),(V true 1 [(S [110,115]),(S [97])])]),(V true 1 [(I .u32 (1)),(I .u32 (2)),(I .u32 (3)),(I .u32 (4)),(I .u32 (30))]),(N),(N)])])]),(G [(V true 1 [(S [109]),(S [97])]),(I .u16 (1)),(I .u16 (1)),(I .u32 (60)),(V true 4 [(G [(N),(N),(N),(V true 1 [(I .u8 (10)),(I .u8 (0)),(I .u8 (0)),(I .u8 (9))])])])]),(G [(V true 1 [(S [110,115]),(S [97])]),(I .u16 (1)),(I .u16 (1)),(I .u32 (60)),(V true 4 [(G [(N),(N),(N),(V true 1 [(I .u8 (10)),(I .u8 (0)),(I .u8 (0)),(I .u8 (2))])])])]),(G [(V true 1 [(S [111]),(S [97])]),(I .u16 (5)),(I .u16 (1)),(I .u32 (60)),(V true 4 [(G [(V true 1 [(V true 1 [(S [110,115]),(S [114,111,111,116])])]),(N),(N),(N)])])]),(G [(V true 1 [(S [119,119,119]),(S [97])]),(I .u16 (5)),(I .u16 (1)),(I .u32 (60)),(V true 4 [(G [(V true 1 [(V true 1 [(S [109]),(S [97])])]),(N),(N),(N)])])]),(G [(V true 1 [(S [120]),(S [97])]),(I .u16 (5)),(I .u16 (1)),(I .u32 (60)),(V true 4 [(G [(V true 1 [(V true 1 [(S [120]),(S [97])])]),(N),(N),(N)])])])])])]),(V true 2 [(G [(I .u32 (167772161)),(V true 1 [(I .i64 (0))])]),(G [(I .u32 (167772162)),(V true 1 [(I .i64 (1))])])]),(V true 1 [(I .u32 (167772161))])])
noncomputable def pb1:fc:=mf [(194,true,qw),(191,true,fk),(70,false,tp 60 [(pa0,pr0),(pa1,pr1),(pa2,pr2)])]
theorem aw9:lh PP pb1∧g6 pb1:=
 dk (fun args=>nb (fn:=(PP.funcs[194]?).getD default) (by kernel_rfl) (by kernel_rfl) (by kernel_rfl) (by kernel_rfl) (by kernel_rfl) args) (fun args=>kb args) (dk (fun args=>i6 (fn:=(PP.funcs[191]?).getD default) (by kernel_rfl) (by kernel_rfl) (by kernel_rfl) (by kernel_rfl) (by kernel_rfl) args) (fun args=>i5 args) (dk (fun args=>ly (fj.cons pm0.1 pm0.2 (fj.cons pm1.1 pm1.2 (fj.cons pm2.1 pm2.2 (fj.nil)))) args) (fun args=>jv 60 _ args) (mn)))
noncomputable def pa3:List AV:=[]
noncomputable def pr3:AV:=pv6
theorem pm3:pr3.fresh=true∧be PP 60 pa3 pr3:=
 ey (n:=60) (i9 aw9.1 aw9.2 mixed 100000 60).1 (by kernel_rfl) (by kernel_rfl)
noncomputable def Bg:AV:=(G [(V false 2 [(G [(V false 1 []),(V false 5 [(G [(V false 1 []),(I .u16 (2)),(I .u16 (1)),(I .u32 (60)),(V false 4 [(G [(V false 1 [(V false 1 [(S [110,115]),(S [114,111,111,116])])]),(N),(N),(N)])])]),(G [(V false 1 []),(I .u16 (6)),(I .u16 (1)),(I .u32 (60)),(V false 4 [(G [(V false 1 [(V false 1 [(S [110,115]),(S [114,111,111,116])]),(V false 1 [(S [110,115]),(S [114,111,111,116])])]),(V false 1 [(I .u32 (1)),(I .u32 (2)),(I .u32 (3)),(I .u32 (4)),(I .u32 (30))]),(N),(N)])])]),(G [(V false 1 [(S [97])]),(I .u16 (2)),(I .u16 (1)),(I .u32 (60)),(V false 4 [(G [(V false 1 [(V false 1 [(S [110,115]),(S [97])])]),(N),(N),(N)])])]),(G [(V false 1 [(S [110,115]),(S [97])]),(I .u16 (1)),(I .u16 (1)),(I .u32 (60)),(V false 4 [(G [(N),(N),(N),(V false 1 [(I .u8 (10)),(I .u8 (0)),(I .u8 (0)),(I .u8 (2))])])])]),(G [(V false 1 [(S [110,115]),(S [114,111,111,116])]),(I .u16 (1)),(I .u16 (1)),(I .u32 (60)),(V false 4 [(G [(N),(N),(N),(V false 1 [(I .u8 (10)),(I .u8 (0)),(I .u8 (0)),(I .u8 (1))])])])])])]),(G [(V false 1 [(S [97])]),(V false 5 [(G [(V false 1 [(S [97])]),(I .u16 (2)),(I .u16 (1)),(I .u32 (60)),(V false 4 [(G [(V false 1 [(V false 1 [(S [110,115]),(S [97])])]),(N),(N),(N)])])]),(G [(V false 1 [(S [97])]),(I .u16 (6)),(I .u16 (1)),(I .u32 (60)),(V false 4 [(G [(V false 1 [(V false 1 [(S [110,115]),(S [97])]),(V false 1 [(S [110,115]),(S [97])])]),(V false 1 [(I .u32 (1)),(I .u32 (2)),(I .u32 (3)),(I .u32 (4)),(I .u32 (30))]),(N),(N)])])]),(G [(V false 1 [(S [109]),(S [97])]),(I .u16 (1)),(I .u16 (1)),(I .u32 (60)),(V false 4 [(G [(N),(N),(N),(V false 1 [(I .u8 (10)),(I .u8 (0)),(I .u8 (0)),(I .u8 (9))])])])]),(G [(V false 1 [(S [110,115]),(S [97])]),(I .u16 (1)),(I .u16 (1)),(I .u32 (60)),(V false 4 [(G [(N),(N),(N),(V false 1 [(I .u8 (10)),(I .u8 (0)),(I .u8 (0)),(I .u8 (2))])])])]),(G [(V false 1 [(S [111]),(S [97])]),(I .u16 (5)),(I .u16 (1)),(I .u32 (60)),(V false 4 [(G [(V false 1 [(V false 1 [(S [110,115]),(S [114,111,111,116])])]),(N),(N),(N)])])]),(G [(V false 1 [(S [119,119,119]),(S [97])]),(I .u16 (5)),(I .u16 (1)),(I .u32 (60)),(V false 4 [(G [(V false 1 [(V false 1 [(S [109]),(S [97])])]),(N),(N),(N)])])]),(G [(V false 1 [(S [120]),(S [97])]),(I .u16 (5)),(I .u16 (1)),(I .u32 (60)),(V false 4 [(G [(V false 1 [(V false 1 [(S [120]),(S [97])])]),(N),(N),(N)])])])])])]),(V false 2 [(G [(I .u32 (167772161)),(V false 1 [(I .i64 (0))])]),(G [(I .u32 (167772162)),(V false 1 [(I .i64 (1))])])]),(V false 1 [(I .u32 (167772161))])])
noncomputable def pa4:List AV:=[Bg]
noncomputable def pr4:AV:=(I .i64 (0))
theorem pm4:pr4.fresh=true∧be PP 16 pa4 pr4:=
 ey (n:=60) (i9 Hh.1 Hh.2 mixed 100000 60).1 (by kernel_rfl) (by kernel_rfl)
noncomputable def pb2:fc:=mf [(194,true,qw),(191,true,fk),(16,false,tp 60 [(pa4,pr4)])]
theorem tk:lh PP pb2∧g6 pb2:=
 dk (fun args=>nb (fn:=(PP.funcs[194]?).getD default) (by kernel_rfl) (by kernel_rfl) (by kernel_rfl) (by kernel_rfl) (by kernel_rfl) args) (fun args=>kb args) (dk (fun args=>i6 (fn:=(PP.funcs[191]?).getD default) (by kernel_rfl) (by kernel_rfl) (by kernel_rfl) (by kernel_rfl) (by kernel_rfl) args) (fun args=>i5 args) (dk (fun args=>ly (fj.cons pm4.1 pm4.2 (fj.nil)) args) (fun args=>jv 60 _ args) (mn)))
noncomputable def pa5:List AV:=[Bg,(V false 1 [(S [119,119,119]),(S [97])]),(I .u16 (1))]
noncomputable def pr5:AV:=(I .i64 (0))
theorem pm5:pr5.fresh=true∧be PP 62 pa5 pr5:=
 ey (n:=60) (i9 tk.1 tk.2 mixed 100000 60).1 (by kernel_rfl) (by kernel_rfl)
noncomputable def pv8:AV:=(T [(G [(I .i64 (0)),(B false),(V true 5 [(G [(V true 1 [(S [119,119,119]),(S [97])]),(I .u16 (5)),(I .u16 (1)),(I .u32 (60)),(V true 4 [(G [(V true 1 [(V true 1 [(S [109]),(S [97])])]),(N),(N),(N)])])]),(G [(V true 1 [(S [109]),(S [97])]),(I .u16 (1)),(I .u16 (1)),(I .u32 (60)),(V true 4 [(G [(N),(N),(N),(V true 1 [(I .u8 (10)),(I .u8 (0)),(I .u8 (0)),(I .u8 (9))])])])])]),(N),(N)]),(I .i64 (0))])
noncomputable def pb3:fc:=mf [(194,true,qw),(191,true,fk),(62,false,tp 60 [(pa5,pr5)])]
theorem axg:lh PP pb3∧g6 pb3:=
 dk (fun args=>nb (fn:=(PP.funcs[194]?).getD default) (by kernel_rfl) (by kernel_rfl) (by kernel_rfl) (by kernel_rfl) (by kernel_rfl) args) (fun args=>kb args) (dk (fun args=>i6 (fn:=(PP.funcs[191]?).getD default) (by kernel_rfl) (by kernel_rfl) (by kernel_rfl) (by kernel_rfl) (by kernel_rfl) args) (fun args=>i5 args) (dk (fun args=>ly (fj.cons pm5.1 pm5.2 (fj.nil)) args) (fun args=>jv 60 _ args) (mn)))
noncomputable def pa6:List AV:=[Bg,(V false 1 [(S [119,119,119]),(S [97])]),(I .u16 (1))]
noncomputable def pr6:AV:=pv8
theorem pm6:pr6.fresh=true∧be PP 26 pa6 pr6:=
 ey (n:=60) (i9 axg.1 axg.2 mixed 100000 60).1 (by kernel_rfl) (by kernel_rfl)
noncomputable def pa7:List AV:=[Bg,(V false 1 [(S [111]),(S [97])]),(I .u16 (1))]
noncomputable def pr7:AV:=(I .i64 (0))
theorem pm7:pr7.fresh=true∧be PP 62 pa7 pr7:=
 ey (n:=60) (i9 tk.1 tk.2 mixed 100000 60).1 (by kernel_rfl) (by kernel_rfl)
noncomputable def pv9:AV:=(T [(G [(I .i64 (0)),(B false),(V true 5 [(G [(V true 1 [(S [111]),(S [97])]),(I .u16 (5)),(I .u16 (1)),(I .u32 (60)),(V true 4 [(G [(V true 1 [(V true 1 [(S [110,115]),(S [114,111,111,116])])]),(N),(N),(N)])])]),(G [(V true 1 [(S [110,115]),(S [114,111,111,116])]),(I .u16 (1)),(I .u16 (1)),(I .u32 (60)),(V true 4 [(G [(N),(N),(N),(V true 1 [(I .u8 (10)),(I .u8 (0)),(I .u8 (0)),(I .u8 (1))])])])])]),(N),(N)]),(I .i64 (0))])
noncomputable def pb4:fc:=mf [(194,true,qw),(191,true,fk),(62,false,tp 60 [(pa7,pr7)])]
theorem ace:lh PP pb4∧g6 pb4:=
 dk (fun args=>nb (fn:=(PP.funcs[194]?).getD default) (by kernel_rfl) (by kernel_rfl) (by kernel_rfl) (by kernel_rfl) (by kernel_rfl) args) (fun args=>kb args) (dk (fun args=>i6 (fn:=(PP.funcs[191]?).getD default) (by kernel_rfl) (by kernel_rfl) (by kernel_rfl) (by kernel_rfl) (by kernel_rfl) args) (fun args=>i5 args) (dk (fun args=>ly (fj.cons pm7.1 pm7.2 (fj.nil)) args) (fun args=>jv 60 _ args) (mn)))
noncomputable def pa8:List AV:=[Bg,(V false 1 [(S [111]),(S [97])]),(I .u16 (1))]
noncomputable def pr8:AV:=pv9
theorem pm8:pr8.fresh=true∧be PP 26 pa8 pr8:=
 ey (n:=60) (i9 ace.1 ace.2 mixed 100000 60).1 (by kernel_rfl) (by kernel_rfl)
noncomputable def aFl:AV:=(T [(V true 1 [(V true 1 [(S [111]),(S [97])]),(V true 1 [(S [110,115]),(S [114,111,111,116])])]),(V true 1 [(I .i64 (1)),(I .i64 (0))]),(I .i64 (0))])
noncomputable def pa9:List AV:=[Bg,(V false 1 [(S [111]),(S [97])]),(I .u16 (1))]
noncomputable def pr9:AV:=aFl
theorem pm9:pr9.fresh=true∧be PP 27 pa9 pr9:=
 ey (n:=60) (i9 ace.1 ace.2 mixed 100000 60).1 (by kernel_rfl) (by kernel_rfl)
noncomputable def aAy:List AV:=[Bg,(V false 1 [(S [120]),(S [97])]),(I .u16 (1))]
noncomputable def auz:AV:=(I .i64 (0))
theorem aAp:auz.fresh=true∧be PP 62 aAy auz:=
 ey (n:=60) (i9 tk.1 tk.2 mixed 100000 60).1 (by kernel_rfl) (by kernel_rfl)
noncomputable def aFw:AV:=(T [(G [(I .i64 (2)),(B false),(N),(N),(N)]),(I .i64 (0))])
noncomputable def pb5:fc:=mf [(194,true,qw),(191,true,fk),(62,false,tp 60 [(aAy,auz)])]
theorem awx:lh PP pb5∧g6 pb5:=
 dk (fun args=>nb (fn:=(PP.funcs[194]?).getD default) (by kernel_rfl) (by kernel_rfl) (by kernel_rfl) (by kernel_rfl) (by kernel_rfl) args) (fun args=>kb args) (dk (fun args=>i6 (fn:=(PP.funcs[191]?).getD default) (by kernel_rfl) (by kernel_rfl) (by kernel_rfl) (by kernel_rfl) (by kernel_rfl) args) (fun args=>i5 args) (dk (fun args=>ly (fj.cons aAp.1 aAp.2 (fj.nil)) args) (fun args=>jv 60 _ args) (mn)))
noncomputable def aBs:List AV:=[Bg,(V false 1 [(S [120]),(S [97])]),(I .u16 (1))]
noncomputable def aub:AV:=aFw
theorem aBm:aub.fresh=true∧be PP 26 aBs aub:=
 ey (n:=60) (i9 awx.1 awx.2 mixed 100000 60).1 (by kernel_rfl) (by kernel_rfl)
noncomputable def az6:List AV:=[Bg,(V false 1 [(S [120]),(S [97])]),(I .u16 (5))]
noncomputable def awk:AV:=(I .i64 (0))
theorem aA0:awk.fresh=true∧be PP 62 az6 awk:=
 ey (n:=60) (i9 tk.1 tk.2 mixed 100000 60).1 (by kernel_rfl) (by kernel_rfl)
noncomputable def aFh:AV:=(T [(G [(I .i64 (0)),(B false),(V true 5 [(G [(V true 1 [(S [120]),(S [97])]),(I .u16 (5)),(I .u16 (1)),(I .u32 (60)),(V true 4 [(G [(V true 1 [(V true 1 [(S [120]),(S [97])])]),(N),(N),(N)])])])]),(N),(N)]),(I .i64 (0))])
noncomputable def pb6:fc:=mf [(194,true,qw),(191,true,fk),(62,false,tp 60 [(az6,awk)])]
theorem aw4:lh PP pb6∧g6 pb6:=
 dk (fun args=>nb (fn:=(PP.funcs[194]?).getD default) (by kernel_rfl) (by kernel_rfl) (by kernel_rfl) (by kernel_rfl) (by kernel_rfl) args) (fun args=>kb args) (dk (fun args=>i6 (fn:=(PP.funcs[191]?).getD default) (by kernel_rfl) (by kernel_rfl) (by kernel_rfl) (by kernel_rfl) (by kernel_rfl) args) (fun args=>i5 args) (dk (fun args=>ly (fj.cons aA0.1 aA0.2 (fj.nil)) args) (fun args=>jv 60 _ args) (mn)))
noncomputable def aB9:List AV:=[Bg,(V false 1 [(S [120]),(S [97])]),(I .u16 (5))]
noncomputable def at5:AV:=aFh
theorem aCe:at5.fresh=true∧be PP 26 aB9 at5:=
 ey (n:=60) (i9 aw4.1 aw4.2 mixed 100000 60).1 (by kernel_rfl) (by kernel_rfl)
noncomputable def aCq:List AV:=[Bg,(V false 1 [(S [113]),(S [97])]),(I .u16 (1))]
noncomputable def av0:AV:=(I .i64 (0))
theorem aCr:av0.fresh=true∧be PP 62 aCq av0:=
 ey (n:=60) (i9 tk.1 tk.2 mixed 100000 60).1 (by kernel_rfl) (by kernel_rfl)
noncomputable def aFp:AV:=(T [(G [(I .i64 (3)),(B false),(N),(V true 5 [(G [(V true 1 [(S [97])]),(I .u16 (6)),(I .u16 (1)),(I .u32 (30)),(V true 4 [(G [(V true 1 [(V true 1 [(S [110,115]),(S [97])]),(V true 1 [(S [110,115]),(S [97])])]),(V true 1 [(I .u32 (1)),(I .u32 (2)),(I .u32 (3)),(I .u32 (4)),(I .u32 (30))]),(N),(N)])])])]),(N)]),(I .i64 (0))])
noncomputable def pb7:fc:=mf [(194,true,qw),(191,true,fk),(62,false,tp 60 [(aCq,av0)])]
theorem aw1:lh PP pb7∧g6 pb7:=
 dk (fun args=>nb (fn:=(PP.funcs[194]?).getD default) (by kernel_rfl) (by kernel_rfl) (by kernel_rfl) (by kernel_rfl) (by kernel_rfl) args) (fun args=>kb args) (dk (fun args=>i6 (fn:=(PP.funcs[191]?).getD default) (by kernel_rfl) (by kernel_rfl) (by kernel_rfl) (by kernel_rfl) (by kernel_rfl) args) (fun args=>i5 args) (dk (fun args=>ly (fj.cons aCr.1 aCr.2 (fj.nil)) args) (fun args=>jv 60 _ args) (mn)))
noncomputable def aBx:List AV:=[Bg,(V false 1 [(S [113]),(S [97])]),(I .u16 (1))]
noncomputable def auk:AV:=aFp
theorem aBd:auk.fresh=true∧be PP 26 aBx auk:=
 ey (n:=60) (i9 aw1.1 aw1.2 mixed 100000 60).1 (by kernel_rfl) (by kernel_rfl)
noncomputable def aAu:List AV:=[Bg,(V false 1 [(S [109]),(S [97])]),(I .u16 (16))]
noncomputable def aty:AV:=(I .i64 (0))
theorem aAm:aty.fresh=true∧be PP 62 aAu aty:=
 ey (n:=60) (i9 tk.1 tk.2 mixed 100000 60).1 (by kernel_rfl) (by kernel_rfl)
noncomputable def aFi:AV:=(T [(G [(I .i64 (0)),(B false),(N),(V true 5 [(G [(V true 1 [(S [97])]),(I .u16 (6)),(I .u16 (1)),(I .u32 (30)),(V true 4 [(G [(V true 1 [(V true 1 [(S [110,115]),(S [97])]),(V true 1 [(S [110,115]),(S [97])])]),(V true 1 [(I .u32 (1)),(I .u32 (2)),(I .u32 (3)),(I .u32 (4)),(I .u32 (30))]),(N),(N)])])])]),(N)]),(I .i64 (0))])
noncomputable def pb8:fc:=mf [(194,true,qw),(191,true,fk),(62,false,tp 60 [(aAu,aty)])]
theorem awt:lh PP pb8∧g6 pb8:=
 dk (fun args=>nb (fn:=(PP.funcs[194]?).getD default) (by kernel_rfl) (by kernel_rfl) (by kernel_rfl) (by kernel_rfl) (by kernel_rfl) args) (fun args=>kb args) (dk (fun args=>i6 (fn:=(PP.funcs[191]?).getD default) (by kernel_rfl) (by kernel_rfl) (by kernel_rfl) (by kernel_rfl) (by kernel_rfl) args) (fun args=>i5 args) (dk (fun args=>ly (fj.cons aAm.1 aAm.2 (fj.nil)) args) (fun args=>jv 60 _ args) (mn)))
noncomputable def aBt:List AV:=[Bg,(V false 1 [(S [109]),(S [97])]),(I .u16 (16))]
noncomputable def awf:AV:=aFi
theorem aCd:awf.fresh=true∧be PP 26 aBt awf:=
 ey (n:=60) (i9 awt.1 awt.2 mixed 100000 60).1 (by kernel_rfl) (by kernel_rfl)
noncomputable def aB5:List AV:=[Bg,(V false 1 [(S [97])]),(I .u16 (255))]
noncomputable def at8:AV:=(I .i64 (6))
theorem aBa:at8.fresh=true∧be PP 62 aB5 at8:=
 ey (n:=60) (i9 tk.1 tk.2 mixed 100000 60).1 (by kernel_rfl) (by kernel_rfl)
noncomputable def aFj:AV:=(T [(G [(I .i64 (0)),(B false),(N),(N),(N)]),(I .i64 (6))])
noncomputable def pb9:fc:=mf [(194,true,qw),(191,true,fk),(62,false,tp 60 [(aB5,at8)])]
theorem axo:lh PP pb9∧g6 pb9:=
 dk (fun args=>nb (fn:=(PP.funcs[194]?).getD default) (by kernel_rfl) (by kernel_rfl) (by kernel_rfl) (by kernel_rfl) (by kernel_rfl) args) (fun args=>kb args) (dk (fun args=>i6 (fn:=(PP.funcs[191]?).getD default) (by kernel_rfl) (by kernel_rfl) (by kernel_rfl) (by kernel_rfl) (by kernel_rfl) args) (fun args=>i5 args) (dk (fun args=>ly (fj.cons aBa.1 aBa.2 (fj.nil)) args) (fun args=>jv 60 _ args) (mn)))
noncomputable def aCc:List AV:=[Bg,(V false 1 [(S [97])]),(I .u16 (255))]
noncomputable def auw:AV:=aFj
theorem aBh:auw.fresh=true∧be PP 26 aCc auw:=
 ey (n:=60) (i9 axo.1 axo.2 mixed 100000 60).1 (by kernel_rfl) (by kernel_rfl)
noncomputable def aCh:List AV:=[Bg,(V false 1 [(S [119,119,119]),(S [97])]),(I .u16 (5))]
noncomputable def auj:AV:=(I .i64 (0))
theorem aBf:auj.fresh=true∧be PP 62 aCh auj:=
 ey (n:=60) (i9 tk.1 tk.2 mixed 100000 60).1 (by kernel_rfl) (by kernel_rfl)
noncomputable def aFu:AV:=(G [(V false 1 [(S [119,119,119]),(S [97])]),(I .u16 (5)),(I .u16 (1)),(I .u32 (60)),(V false 4 [(G [(V false 1 [(V false 1 [(S [109]),(S [97])])]),(N),(N),(N)])])])
noncomputable def aAz:fc:=mf [(194,true,qw),(191,true,fk),(62,false,tp 60 [(aCh,auj)])]
theorem aq7:lh PP aAz∧g6 aAz:=
 dk (fun args=>nb (fn:=(PP.funcs[194]?).getD default) (by kernel_rfl) (by kernel_rfl) (by kernel_rfl) (by kernel_rfl) (by kernel_rfl) args) (fun args=>kb args) (dk (fun args=>i6 (fn:=(PP.funcs[191]?).getD default) (by kernel_rfl) (by kernel_rfl) (by kernel_rfl) (by kernel_rfl) (by kernel_rfl) args) (fun args=>i5 args) (dk (fun args=>ly (fj.cons aBf.1 aBf.2 (fj.nil)) args) (fun args=>jv 60 _ args) (mn)))
noncomputable def aAr:List AV:=[Bg,aFu]
noncomputable def avs:AV:=(B true)
theorem aA4:avs.fresh=true∧be PP 29 aAr avs:=
 ey (n:=60) (i9 aq7.1 aq7.2 mixed 100000 60).1 (by kernel_rfl) (by kernel_rfl)
noncomputable def base:fc:=mf [(194,true,qw),(191,true,fk),(60,false,tp 60 [(pa3,pr3)]),(26,false,tp 60 [(pa6,pr6),(pa8,pr8),(aBs,aub),(aB9,at5),(aBx,auk),(aBt,awf),(aCc,auw)]),(27,false,tp 60 [(pa9,pr9)]),(29,false,tp 60 [(aAr,avs)])]
theorem apj:lh PP base∧g6 base:=
 dk (fun args=>nb (fn:=(PP.funcs[194]?).getD default) (by kernel_rfl) (by kernel_rfl) (by kernel_rfl) (by kernel_rfl) (by kernel_rfl) args) (fun args=>kb args) (dk (fun args=>i6 (fn:=(PP.funcs[191]?).getD default) (by kernel_rfl) (by kernel_rfl) (by kernel_rfl) (by kernel_rfl) (by kernel_rfl) args) (fun args=>i5 args) (dk (fun args=>ly (fj.cons pm3.1 pm3.2 (fj.nil)) args) (fun args=>jv 60 _ args) (dk (fun args=>ly (fj.cons pm6.1 pm6.2 (fj.cons pm8.1 pm8.2 (fj.cons aBm.1 aBm.2 (fj.cons aCe.1 aCe.2 (fj.cons aBd.1 aBd.2 (fj.cons aCd.1 aCd.2 (fj.cons aBh.1 aBh.2 (fj.nil)))))))) args) (fun args=>jv 60 _ args) (dk (fun args=>ly (fj.cons pm9.1 pm9.2 (fj.nil)) args) (fun args=>jv 60 _ args) (dk (fun args=>ly (fj.cons aA4.1 aA4.2 (fj.nil)) args) (fun args=>jv 60 _ args) (mn))))))
noncomputable def look:fc:=Wo PP base 100000 60
theorem aCs:lh PP look:=(i9 apj.1 apj.2 mixed 100000 60).1
noncomputable def aog (r:Option (AV × St)):Bool:=match r with|some p=>(match p.1 with|.sc v=>(match v with|.bool b=>b|_=>false)|_=>false)|none=>false
noncomputable def axh (f:Nat):Option (AV × St):=match look f with|some p=>p.2 [] (br [])|none=>none
set_option maxRecDepth 1000000
theorem runs:aog (axh 25)=true:=by kernel_rfl
theorem ao7 {r:Option (AV × St)} (h:aog r=true):∃ st,r=some (.sc (.bool true),st):=by
 unfold aog at h
 split at h
 ·rename_i p
  obtain ⟨a,st⟩:=p
  dsimp only at h
  split at h
  ·split at h
   ·subst h;exact ⟨st,rfl⟩
   ·cases h
  ·cases h
 ·cases h
theorem Tz:be PP 25 [] (.sc (.bool true)):=by
 obtain ⟨st,h⟩:=ao7 runs
 unfold axh at h
 cases hp:look 25 with
 |none=>rw [hp] at h;cases h
 |some p=>
  rw [hp] at h
  exact Hk aCs hp (by kernel_rfl) (r1 bp) true true h rfl
end Go.Proofs.YtajammoepjpiiaaGreat.known21
namespace Go.Proofs.YtajammoepjpiiaaGreat
open Go.Vm
theorem ae3:be PP 25 [] (.sc (.bool true)):=known21.Tz
end Go.Proofs.YtajammoepjpiiaaGreat
end
section
namespace Go.Proofs.YtajammoepjpiiaaGreat
open Go.Vm Go.ChangeShapes Go.WideShapes Go.ChangeAt
mutual
theorem Wv {H:Type}:∀ d:DataW H,Rows.uptoBulk d=l0 d
 |.lit l=>by cases l<;>simp only [Rows.uptoBulk,l0]
 |.nil=>by simp only [Rows.uptoBulk,l0]
 |.ptr d=>by simp only [Rows.uptoBulk,l0,Wv d]
 |.slice a b=>by simp only [Rows.uptoBulk,l0,Nh a,Nh b]
 |.agg a=>by simp only [Rows.uptoBulk,l0,Nh a]
 |.iface _ d=>by simp only [Rows.uptoBulk,l0,Wv d]
 |.map e=>by simp only [Rows.uptoBulk,l0,aqw e]
 |.held _=>by simp only [Rows.uptoBulk,l0]
theorem Nh {H:Type}:∀ l:List (DataW H),Rows.uptoBulkAll l=nr l
 | []=>by simp only [Rows.uptoBulkAll,nr]
 |d::r=>by simp only [Rows.uptoBulkAll,nr,Wv d,Nh r]
theorem aqw {H:Type}:∀ l:List (Lit × DataW H),Rows.uptoBulkEntries l=Vc l
 | []=>by simp only [Rows.uptoBulkEntries,Vc]
 |x::r=>by simp only [Rows.uptoBulkEntries,Vc,az7 x,aqw r]
theorem az7 {H:Type}:∀ x:Lit × DataW H,Rows.uptoBulkEntry x=aoj x
 |(l,d)=>by cases l<;>simp only [Rows.uptoBulkEntry,aoj,Wv d]
end
theorem aqu {H:Type} {l:List (DataW H)} (h:Rows.uptoSmall H l=true):nr l≤1048576:=by
 have:=of_decide_eq_true h
 rwa [Nh] at this
theorem amm {H:Type} {enc:TypeId × Value→H} {C:Checked} {os:Os} {f:FuncId} {fn:Func} {s:OpenSpec} {k:(H:Type)→List (DataW H)→Bool} (hk:s.cond=some k) {conds:List PathCond} {apart:Bool} (modest:Bool) (i:Input) (fuel:Nat)
 (hv:(World.plainHolding C.prog os i).variablesB C.prog=true)
 (hr:((World.plainHolding C.prog os i).heap.toList.drop C.prog.globals.size).take ((begin C.prog (fun _ _=>0) default).world.heap.size - C.prog.globals.size) =
  (begin C.prog (fun _ _=>0) default).world.heap.toList.drop C.prog.globals.size)
 (hok:Input.okWideB C.prog (World.plainHolding C.prog os i) f ⟨#[],i.args,[]⟩=true)
 (hx:(match DataW.whole enc C.prog (World.plainHolding C.prog os i).memory fn.params.toList s.vars apart i.args.toList fuel with
  |some x=>conds.all (PathCond.test C.prog ⟨fn.params.toList,x.1,s.bare.plain.varTypes C.prog,x.2.1⟩) && k H (x.1++x.2.1)
  |none=>false)=true)
 (hsz:s.bare.sizedB enc C.prog fn apart (World.plainHolding C.prog os i).memory i.args fuel=true) :
 ∃ (w:World) (tape:Tape) (i:Input),w.os=os∧(w.forCall tape i).Shaped C.prog∧i.vars=[]∧Input.okWide C.prog (w.forCall tape i) .any w.heap.size f i ∧
  s.pre6 enc C.prog fn conds apart (w.forCall tape i).memory i.args∧({ modest:=modest }:Assume).holds C.prog (lone (Frame.enter C.prog f i.args .normal) [] (w.forCall tape i)):=by
 cases hd:DataW.whole enc C.prog (World.plainHolding C.prog os i).memory fn.params.toList s.vars apart i.args.toList fuel with
 |none=>rw [hd] at hx;cases hx
 |some x=>
  rw [hd] at hx
  simp only [Bool.and_eq_true] at hx
  exact OpenSpec.witness hk modest i fuel hv hr hok hd hx.1 hx.2 hsz
end Go.Proofs.YtajammoepjpiiaaGreat
end
section
set_option maxRecDepth 2000000
namespace Go.Proofs.YtajammoepjpiiaaGreat.lookupHolds
open Go.Vm Go.ChangeShapes Go.WideShapes Go.ChangeAt
theorem aDo:ak PP [known21,awo,lOf,aCg,Is,apz,dv]:=(ak.cons (ai (fun x r h=>by cases h;exact ae3)) (ak.cons (ai aol) (ak.cons (ai ahl) (ak.cons (ai asi) (ak.cons (ai A2) (ak.cons (ai ah9) (ak.cons (ai fg) (ak.nil PP))))))))
theorem Tz (x:bd × Name × UInt16 × Unit) (h:(Jb x.1+(qj x.2.1+(Jq x.2.2.1+0)))≤1048576):be PP 6 ((aC cb (aC ar (aC cw a0))).E x) (.sc (.bool true)):=
 bb aDo Tryz.func6 (by kernel_rfl) (by kernel_rfl) (by kernel_rfl) (Nat.le_of_ble_eq_true (by kernel_rfl)) (r1 bp) true true (aqd x.1 x.2.1 x.2.2.1 (ajj (by omega)) (amk (by omega)))
theorem own:ownKnob PP.godebug=none:=by kernel_rfl
theorem ayc:PP.underlying 4=some .bool:=by kernel_rfl
theorem lifted (os:Os) (started:os.Started) (H:Type) (enc:TypeId × Value→H) (F:Stop.Interp) :
 ReturnsInHanded {} Tryz.checked os 6 .any ((Rows.OpenSpec.upto Rows.lookupHoldsSpec).pre6 enc Tryz.prog Tryz.f6 Rows.lookupHoldsUptoRow.domain false) (((Rows.OpenSpec.upto Rows.lookupHoldsSpec).at F).post enc Tryz.prog Tryz.f6 false true false false):=by
 refine returnsInHanded_of_cond (C:=Tryz.checked) (k:=Rows.uptoSmall) rfl own started (by kernel_rfl) Tryz.func6
  (amm (enc:=enc) (C:=Tryz.checked) rfl false ⟨#[],Tryz.f6.params.map fun t=>((PP.info? t).bind (·.zero)).getD undef,[]⟩ 8 (by kernel_rfl) (by kernel_rfl) (by kernel_rfl) (by kernel_rfl) (by kernel_rfl)) ?_
 intro W base args ds gs before hval hW _ hk _
 exact att (by kernel_rfl) (by kernel_rfl) (abq (by kernel_rfl)) (tb:=4) (by kernel_rfl) rfl (by kernel_rfl) ayc (aoa (by kernel_rfl))
  (fun H ds hl=>by match ds,(show ds.length=3 from hl) with | [_,_,_],_=>rfl) (A:=(aC cb (aC ar (aC cw a0)))) (Sz (by kernel_rfl) ays (Sz (by kernel_rfl) Ws (Sz (by kernel_rfl) arf (ayk PP)))) (N:=some 1048576) (fun x hx=>Tz x (hx _ rfl)) enc W base args ds gs before hval hW (fun n hn=>by cases hn;exact aqu hk)
theorem over:Rows.lookupHoldsUptoRow.holds Tryz.pinned (Rows.OpenSpec.upto Rows.lookupHoldsSpec):=
 OpenClaim.holds_of_cond 6 Tryz.f6 rfl rfl rfl rfl rfl rfl rfl ⟨rfl,rfl,rfl,rfl,rfl⟩ rfl rfl rfl rfl rfl (by kernel_rfl) Tryz.func6 (by kernel_rfl)
  (of_decide_eq_true (by kernel_rfl)) (by unfold Func.isWrapper;first|(rw [if_pos (by decide +kernel)];kernel_rfl)|(rw [if_neg (by decide +kernel)];exact ⟨rfl,rfl⟩))
  (fun os started H enc _ F=>lifted os started H enc F)
theorem proved : Rows.LookupHoldsUptoSaid := over
end Go.Proofs.YtajammoepjpiiaaGreat.lookupHolds
end
