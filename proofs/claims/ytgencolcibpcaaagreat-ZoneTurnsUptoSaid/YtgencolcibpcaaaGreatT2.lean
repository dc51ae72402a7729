/- A piece of the proof. Proved: where the arguments are together of bulk at most 1048576, the law ZoneTurns returns true (a zone with a set more, and without one), and what it was given reads afterwards as it did before. No other conditions. -/
import Derived.WalkKit
import Derived.CallsIn
import Derived.RangeFuncIn
import Derived.RangeFuncLeaves
import Derived.Orders
import Derived.OrdersIn
import Derived.Scope
import Derived.RangeFuncOwn
import Derived.Stop.SameAnswer
import Derived.Laws.Externs
import Derived.Lib.Bytealg
import Derived.ProofKit
import Derived.OpenShut
import Derived.ReadAgain
import Derived.Deep.Slices
import Derived.ChangeSame
import Derived.Test.YtgencolcibpcaaaGreatProg
import Derived.KernelRfl
import Derived.Test.YtgencolcibpcaaaGreatRows
import Derived.JoinedCond
import Derived.Test.YtgencolcibpcaaaGreatT1
set_option linter.unusedSimpArgs false
set_option linter.unusedVariables false
set_option linter.unusedSectionVars false
namespace Go.Vm
variable [TK]
noncomputable section
theorem cf.one {g w a v} (h:Rel g w a v):cf g w [a] [v]:=cf.cons h (cf.nil _ _)
theorem Sc {g w a vs} (h:cf g w [a] vs):∃ v,vs=[v]∧Rel g w a v:=by
 match vs,h with
 | [v],h=>exact ⟨v,rfl,h.head⟩
 | [],h=>have:=h.1;simp at this
 |_::_::_,h=>have:=h.1;simp at this
def aCo {α:Type} (ofV:Value→Option α) (l:List AV):Option α:=
 match l with
 | [a]=>a.exact.bind ofV
 |_=>none
def Xj {α:Type} (kd:LK) (jc : α→Value) (ofV:Value→Option α) (h1:∀ x,ofV (jc x)=some x) (h2:∀ v x,ofV v=some x→v=jc x) (h3:∀ x,(jc x).cells = #[jc x]) (h4:∀ x,(jc x).oneCell'=true) (h5:∀ x,m9 (jc x)=kd):dm α where
 kd:=kd
 Js _ _ _ _ _ _ _ hc hr:=by
  simp at hc;subst hc
  have:=hr.exact rfl
  subst this
  exact h5 _
 sz:=1
 agg:=false
 cells _ x:=[.sc (jc x)]
 dec _ _ l:=aCo ofV l
 len _ _:=rfl
 rt _ _ _ x _:=h1 x
 one _ _ x:=⟨_,rfl,by simp [AV.cells,h3],rfl⟩
 pl _ x c hc:=by simp at hc;subst hc;exact ⟨fun τ=>by simp [AV.dp],by simp [AV.names],h4 x,rfl⟩
 fr x c hc:=by simp at hc;subst hc;rfl
 ok:=by
  intro fr g h w K b0 l vs x _ _ _ hr hd
  match l,hd with
  | [a],hd=>
   obtain ⟨u,rfl,hu⟩:=Sc hr
   cases a with
   |sc v=>
    have:=hu.exact rfl
    subst this
    have:=h2 _ _ hd
    subst this
    exact cf.one (.sc _)
   |_=>cases hd
def avg (k:IntKind) (v:Value):Option Int:=
 match v with
 |.int k' n=>bif decide (k'=k) then some n else none
 |_=>none
def bh (k:IntKind):dm Int:=Xj (.int k) (fun n=>.int k n) (avg k) (fun x=>by simp [avg]) (fun v x h=>by
 cases v<;>simp [avg] at h
 rename_i k' n
 by_cases e:k'=k
 ·subst e;simp at h;rw [h]
 ·simp [e] at h) (fun x=>rfl) (fun x=>rfl) (fun x=>rfl)
def bo:dm Bool:=Xj .bool (fun b=>.bool b) pa (fun x=>rfl) (fun v x h=>by cases v<;>simp [pa] at h;rw [h]) (fun x=>rfl) (fun x=>rfl) (fun x=>rfl)
def aj:dm ByteArray:=Xj .str (fun s=>.string s) strOf (fun x=>rfl) (fun v x h=>by cases v<;>simp [strOf] at h;rw [h]) (fun x=>rfl) (fun x=>rfl) (fun x=>rfl)
def u8V (v:Value):Option UInt8:=
 match v with
 |.int k n=>bif decide (k = .u8) && decide (0≤n) && decide (n<256) then some (UInt8.ofNat n.toNat) else none
 |_=>none
def bu:dm UInt8:=Xj (.int .u8) (fun n=>.int .u8 n.toNat) u8V (fun x=>by
 have:=x.toNat_lt
 simp [u8V,show (x.toNat:Int)<256 by omega]) (fun v x h=>by
 cases v<;>simp [u8V] at h
 rename_i k n
 cases hb:(decide (k = .u8) && decide (0≤n) && decide (n<256)) with
 |false=>rw [hb] at h;cases h
 |true=>
  rw [hb] at h
  simp at hb h
  obtain ⟨⟨rfl,h0⟩,h1⟩:=hb
  subst h
  congr 1
  rw [UInt8.toNat_ofNat']
  omega) (fun x=>rfl) (fun x=>rfl) (fun x=>rfl)
def auz (v:Value):Option UInt16:=
 match v with
 |.int k n=>bif decide (k = .u16) && decide (0≤n) && decide (n<65536) then some (UInt16.ofNat n.toNat) else none
 |_=>none
def cg:dm UInt16:=Xj (.int .u16) (fun n=>.int .u16 n.toNat) auz (fun x=>by
 have:=x.toNat_lt
 simp [auz,show (x.toNat:Int)<65536 by omega]) (fun v x h=>by
 cases v<;>simp [auz] at h
 rename_i k n
 cases hb:(decide (k = .u16) && decide (0≤n) && decide (n<65536)) with
 |false=>rw [hb] at h;cases h
 |true=>
  rw [hb] at h
  simp at hb h
  obtain ⟨⟨rfl,h0⟩,h1⟩:=hb
  subst h
  congr 1
  rw [UInt16.toNat_ofNat']
  omega) (fun x=>rfl) (fun x=>rfl) (fun x=>rfl)
def avn (v:Value):Option UInt32:=
 match v with
 |.int k n=>bif decide (k = .u32) && decide (0≤n) && decide (n<4294967296) then some (UInt32.ofNat n.toNat) else none
 |_=>none
def cw:dm UInt32:=Xj (.int .u32) (fun n=>.int .u32 n.toNat) avn (fun x=>by
 have:=x.toNat_lt
 simp [avn,show (x.toNat:Int)<4294967296 by omega]) (fun v x h=>by
 cases v<;>simp [avn] at h
 rename_i k n
 cases hb:(decide (k = .u32) && decide (0≤n) && decide (n<4294967296)) with
 |false=>rw [hb] at h;cases h
 |true=>
  rw [hb] at h
  simp at hb h
  obtain ⟨⟨rfl,h0⟩,h1⟩:=hb
  subst h
  congr 1
  rw [UInt32.toNat_ofNat']
  omega) (fun x=>rfl) (fun x=>rfl) (fun x=>rfl)
theorem aA7 {g w l n es v} (h:Rel g w (.vl l n es) v):m9 v = .no:=by cases h<;>rfl
def cq {α:Type} (C:dm α):dm (List α) where
 sz:=1
 kd:=.no
 Js _ _ _ _ _ _ _ hc hr:=by simp at hc;subst hc;exact aA7 hr
 agg:=false
 cells l xs:=[.vl l C.sz (xs.map (C.val l))]
 dec:=awa C
 len _ _:=rfl
 rt:=by
  intro fr h l x hl
  simp only [awa,jj]
  cases hb:(Nat.beq C.sz C.sz && (l || !fr)) with
  |false=>cases fr<;>simp_all
  |true=>rw [cond_true,Vt C fr h l hl]
 one _ _ x:=⟨_,rfl,rfl,rfl⟩
 pl l xs c hc:=by
  simp at hc;subst hc
  exact ⟨fun τ=>by rw [AV.dp,Sd (fun c hc=>by obtain ⟨x,_,rfl⟩:=List.mem_map.1 hc;exact O5 C τ l x)],by simp [AV.names],rfl,rfl⟩
 fr xs c hc:=by
  simp at hc;subst hc
  simp only [AV.fresh,Bool.true_and]
  exact Ak (fun c hc=>by obtain ⟨x,_,rfl⟩:=List.mem_map.1 hc;exact Mw C x)
 ok:=by
  intro fr g h w K b0 l vs x hok hl hb hr hd
  match l,hd with
  | [a],hd=>
   obtain ⟨u,rfl,hu⟩:=Sc hr
   exact cf.one (axf C hok hl hb hu hd)
def m4 {α β:Type} (A:dm α) (B:dm β):dm (α × β) where
 sz:=A.sz+B.sz
 kd:=bif Nat.beq A.sz 1 then A.kd else B.kd
 Js e _ _ l x c v hc hr:=by
  rcases Nat.lt_or_ge 0 A.sz with h|h
  ·have ha:A.sz=1:=by omega
   have hb:B.cells l x.2=[]:=List.eq_nil_of_length_eq_zero (by rw [B.len];omega)
   rw [hb,List.append_nil] at hc
   rw [ha]
   exact A.Js ha hc hr
  ·have ha:A.sz=0:=by omega
   have hb:A.cells l x.1=[]:=List.eq_nil_of_length_eq_zero (by rw [A.len];omega)
   rw [hb,List.nil_append] at hc
   rw [ha]
   exact B.Js (by omega) hc hr
 agg:=true
 cells l p:=A.cells l p.1++B.cells l p.2
 dec fr h l:=match A.dec fr h (l.take A.sz),B.dec fr h (l.drop A.sz) with
  |some x,some y=>some (x,y)
  |_,_=>none
 len l p:=by simp [A.len,B.len]
 rt:=by
  intro fr h l p hl
  have h1:(A.cells l p.1++B.cells l p.2).take A.sz=A.cells l p.1:=by rw [← A.len l p.1,List.take_left]
  have h2:(A.cells l p.1++B.cells l p.2).drop A.sz=B.cells l p.2:=by rw [← A.len l p.1,List.drop_left]
  simp only [h1,h2,A.rt fr h l _ hl,B.rt fr h l _ hl]
 one e:=by cases e
 pl l p c hc:=by rcases List.mem_append.1 hc with h|h;exact A.pl l _ c h;exact B.pl l _ c h
 fr p c hc:=by rcases List.mem_append.1 hc with h|h;exact A.fr _ c h;exact B.fr _ c h
 ok:=by
  intro fr g h w K b0 l vs x hok hl hb hr hd
  split at hd
  ·rename_i x1 y1 hx hy
   simp at hd;subst hd
   have:=(A.ok hok hl hb (hr.take A.sz) hx).append (B.ok hok hl hb (hr.drop A.sz) hy)
   rwa [List.take_append_drop] at this
  ·cases hd
def Db {α β:Type} (C:dm α) (f : β → α) (i : α → β) (h1:∀ y,i (f y)=y) (h2:∀ x,f (i x)=x):dm β where
 sz:=C.sz
 kd:=C.kd
 Js e _ _ _ _ _ _ hc hr:=C.Js e hc hr
 agg:=C.agg
 cells l y:=C.cells l (f y)
 dec fr h l:=(C.dec fr h l).map i
 len l y:=C.len l (f y)
 rt fr h l y hl:=by rw [C.rt fr h l _ hl];simp [h1]
 one e l y:=C.one e l (f y)
 pl l y:=C.pl l (f y)
 fr y:=C.fr (f y)
 ok:=by
  intro fr g h w K b0 l vs x hok hl hb hr hd
  rw [Option.map_eq_some_iff] at hd
  obtain ⟨y,hy,rfl⟩:=hd
  rw [h2]
  exact C.ok hok hl hb hr hy
structure AC (α:Type) where
 E : α→List AV
 D:Tr bq→List AV→Option α
 rt:∀ h x,D h (E x)=some x
 ok:∀ {g h w K b0 l vs x},Ok g h w→wk g h K→cf g w l vs→D h l=some x→cf (gK b0 K) w (E x) vs
def AC.get {α:Type} (A:AC α) (h:Tr bq) (l:List AV):Option α:=A.D h l
def a0:AC Unit where
 E _:=[]
 D _ l:=match l with
  | []=>some ()
  |_=>none
 rt _ _:=rfl
 ok:=by
  intro g h w K b0 l vs x _ _ hr hd
  match l,hd with
  | [],_=>
   have:=hr.1
   simp at this
   subst this
   exact cf.nil _ _
def aC {α β:Type} (C:dm α) (R:AC β):AC (α × β) where
 E p:=C.val false p.1::R.E p.2
 D h l:=match l with
  | []=>none
  |a::r=>match C.jf false h a,R.D h r with
   |some x,some y=>some (x,y)
   |_,_=>none
 rt h p:=by simp only [C.Od false h false p.1 (fun e=>by cases e),R.rt]
 ok:=by
  intro g h w K b0 l vs x hok hl hr hd
  match l,hd with
  |a::r,hd=>
   simp only at hd
   split at hd
   ·rename_i x1 y1 hx hy
    simp at hd;subst hd
    match vs,hr with
    | [],hr=>have:=hr.1;simp at this
    |v::vs,hr=>exact cf.cons (C.Yr hok hl (fun e=>by cases e) hr.head hx) (R.ok hok hl hr.tail hy)
   ·cases hd
structure RC (α:Type) where
 E:Bool → α→AV
 D:Bool→Tr bq→AV→Option α
 ok:∀ {fr g h w K b0 a v x},Ok g h w→wk g h K→(fr=true→b0≤g.b0)→Rel g w a v→D fr h a=some x→Rel (gK b0 K) w (E fr x) v
def RC.get {α:Type} (R:RC α) (fr:Bool) (h:Tr bq) (a:AV):Option α:=R.D fr h a
def r1 {α:Type} (C:dm α):RC α where
 E:=C.val
 D:=C.jf
 ok hok hl hb hr hd:=C.Yr hok hl hb hr hd
def Jk (a:AV):Option (List AV):=
 match a with
 |.fo l=>some l
 |.sc v=>match v with
  |.tuple vs=>some (vs.toList.map .sc)
  |_=>none
 |_=>none
theorem ak2 {g w a v l} (hr:Rel g w a v) (h:Jk a=some l):∃ vs,v = .tuple vs∧cf g w l vs.toList:=by
 cases hr with
 |fo l' vs hs hh=>
  simp [Jk] at h;subst h
  exact ⟨vs,rfl,⟨by simpa using hs,fun i a v ha hv=>hh i a v ha (by simpa using hv)⟩⟩
 |sc v=>
  cases v<;>simp [Jk] at h
  subst h
  exact ⟨_,rfl,cf.E4 g w _⟩
 |_=>cases h
theorem aki {g w l} {vs:Array Value} (h:cf g w l vs.toList):Rel g w (.fo l) (.tuple vs):=
 .fo l vs (by simpa using h.1) (fun i a v ha hv=>h.2 i a v ha (by simpa using hv))
def r2 {α β:Type} (A:dm α) (B:dm β):RC (α × β) where
 E l p:=.fo [A.val l p.1,B.val l p.2]
 D fr h a:=match Jk a with
  |some [a,b]=>match A.jf fr h a,B.jf fr h b with
   |some x,some y=>some (x,y)
   |_,_=>none
  |_=>none
 ok:=by
  intro fr g h w K b0 a v x hok hl hb hr hd
  cases ht:Jk a with
  |none=>rw [ht] at hd;cases hd
  |some l=>
   rw [ht] at hd
   obtain ⟨vs,rfl,hrel⟩:=ak2 hr ht
   match l,hd with
   | [a,b],hd=>
    simp only at hd
    split at hd
    ·rename_i x1 y1 hx hy
     simp at hd;subst hd
     obtain ⟨vl⟩:=vs
     match vl,hrel with
     | [u,v],hrel=>exact aki (cf.cons (A.Yr hok hl hb hrel.head hx) (cf.one (B.Yr hok hl hb hrel.tail.head hy)))
     | [],hrel=>have:=hrel.1;simp at this
     | [_],hrel=>have:=hrel.1;simp at this
     |_::_::_::_,hrel=>have:=hrel.1;simp at this
    ·cases hd
def r3 {α β γ:Type} (A:dm α) (B:dm β) (C:dm γ):RC (α × β × γ) where
 E l p:=.fo [A.val l p.1,B.val l p.2.1,C.val l p.2.2]
 D fr h a:=match Jk a with
  |some [a,b,c]=>match A.jf fr h a,B.jf fr h b,C.jf fr h c with
   |some x,some y,some z=>some (x,y,z)
   |_,_,_=>none
  |_=>none
 ok:=by
  intro fr g h w K b0 a v x hok hl hb hr hd
  cases ht:Jk a with
  |none=>rw [ht] at hd;cases hd
  |some l=>
   rw [ht] at hd
   obtain ⟨vs,rfl,hrel⟩:=ak2 hr ht
   match l,hd with
   | [a,b,c],hd=>
    simp only at hd
    split at hd
    ·rename_i x1 y1 z1 hx hy hz
     simp at hd;subst hd
     obtain ⟨vl⟩:=vs
     match vl,hrel with
     | [u,v,t],hrel=>exact aki (cf.cons (A.Yr hok hl hb hrel.head hx) (cf.cons (B.Yr hok hl hb hrel.tail.head hy) (cf.one (C.Yr hok hl hb hrel.tail.tail.head hz))))
     | [],hrel=>have:=hrel.1;simp at this
     | [_],hrel=>have:=hrel.1;simp at this
     | [_,_],hrel=>have:=hrel.1;simp at this
     |_::_::_::_::_,hrel=>have:=hrel.1;simp at this
    ·cases hd
structure A6 (w w':World):Prop where
 size:w.heap.size≤w'.heap.size
 heap:∀ b,b<w.heap.size→w'.heap[b]? = w.heap[b]?
 os:w'.os=w.os
 tape:w'.tape=w.tape
 output:w'.output=w.output
def Nq (K:Nat→Nat→Prop) (w w':World):Nat→Nat→Prop:=fun b j=>K b j∨(w.heap.size≤b∧b<w'.heap.size)
def akr (P:Program) (f:Nat) (vs:List Value) (w:World) (X:Value→World→Prop):Prop:=
 (∃ v,(callFunc f vs.toArray).run P w = .ok (.value v) w∧X v w) ∨
 ((callFunc f vs.toArray).run P w = .ok (.enter f vs.toArray) w∧Calls P f vs.toArray w (fun e w'=>∃ v,e = .returned v∧X v w'))
def bk (P:Program) (f:Nat) (args:List AV) (r:AV):Prop:=
 ∀ (K:Nat→Nat→Prop) (w:World) (vs:List Value),(∀ b j,K b j→b<w.heap.size)→cf (gK w.heap.size K) w args vs →
  akr P f vs w (fun v w'=>A6 w w'∧Rel (gK w.heap.size (Nq K w w')) w' r v)
theorem Wt {P:Program} [KP P] {g w nt} {L:SL} {tmps:Array Value} {st:St} (hok:Ok g st.h w) (hs:ja g w nt L tmps):∀ (rs:List ResultVar) (l:List AV),th P L st rs=some l →
 ∃ vs,(rs.mapM (v7 tmps)).run P w = .ok vs w∧cf g w l vs:=by
 intro rs
 induction rs with
 |nil=>intro l h;simp [th] at h;subst h;exact ⟨[],by simp,cf.nil _ _⟩
 |cons r rs ih=>
  intro l h
  cases r with
  |tmp t=>
   simp only [th,Option.map_eq_some_iff] at h
   obtain ⟨l',h1,rfl⟩:=h
   obtain ⟨vs,h2,h3⟩:=ih l' h1
   refine ⟨tmps.getD t undef::vs,?_,cf.cons (hs.2 t) h3⟩
   simp only [List.mapM_cons,Sem.run_bind,v7,Sem.run_pure,Result.andThen_ok,h2]
  |cell c t=>
   simp only [th] at h
   split at h
   ·rename_i v st' hl
    rw [Option.map_eq_some_iff] at h
    obtain ⟨l',h1,rfl⟩:=h
    obtain ⟨vs,h2,h3⟩:=ih l' h1
    have hrel:=hs.2 c
    have hptr:∃ ad,tmps.getD c undef = .pointer (some ad):=by
     generalize lk L c=x at hrel hl
     generalize tmps.getD c undef=v at hrel
     cases hrel<;>first|exact ⟨_,rfl⟩|cases hl
    obtain ⟨ad,had⟩:=hptr
    obtain ⟨u,h4,h5⟩:=ane (P:=P) hok hrel hl had
    refine ⟨u::vs,?_,cf.cons h5 h3⟩
    have h6:(v7 tmps (.cell c t)).run P w = .ok u w:=by simp [v7,had,asAddr,h4]
    simp only [List.mapM_cons,Sem.run_bind,h6,Result.andThen_ok,h2]
    rfl
   ·cases h
theorem Wm {P:Program} [KP P] {g w} {fn:Func} {tmps:Array Value} {l:List AV} {vs:List Value} (h:(fn.results.toList.mapM (v7 tmps)).run P w = .ok vs w) (q4:cf g w l vs) :
 ∃ v,(results fn tmps).run P w = .ok v w∧Rel g w (pack l) v:=by
 have hmap:(fn.results.mapM (v7 tmps)).run P w = .ok vs.toArray w:=by
  rw [Array.mapM_eq_mapM_toList]
  simp [h]
 rw [an6]
 simp only [Sem.run_bind,hmap,Result.andThen_ok,Sem.run_pure]
 refine ⟨_,rfl,?_⟩
 match l,vs,q4 with
 | [a1],[v1],q4=>simpa [pack] using q4.head
 | [],[],q4=>simp [pack];exact .fo _ _ rfl (fun i a v h _=>by simp at h)
 |a1::a2::l,v1::v2::vs,q4=>
  simp [pack]
  exact .fo _ _ (by have:=q4.1;simp at this ⊢;omega) (fun i a v h1 h2=>q4.2 i a v h1 (by simpa using h2))
 | [],v::vs,q4=>have:=q4.1;simp at this
 |a::l,[],q4=>have:=q4.1;simp at this
 | [a1],v1::v2::vs,q4=>have:=q4.1;simp at this
 |a1::a2::l,[v1],q4=>have:=q4.1;simp at this
theorem Wg {P:Program} [KP P] {T:ff} (hT:ar P T) (hm:P.follows .mixedOrders=true) {f:Nat} {fn:Func} {body:Code} (hf:P.funcs[f]? = some fn) (hb:fn.body=some body) (he:po P f=true) (hs:ek fn.ntmps body=true)
 {args:List AV} (hl:args.length≤fn.ntmps) {ρ:Type} (R:RC ρ) (fr:Bool) (x : ρ)
 (h:wl P T 0 body (da P fn.results.toList (fun r st=>R.get fr st.h r=some x)) (cj 0 args) (bj [])):bk P f args (R.E fr x):=by
 intro K w vs hK hrel
 refine .inr ⟨wx he _ _,yn (ro:=none) (n:=0) (callsIn_of_wp_marks hf hb trivial ?_)⟩
 let B:fv:={ b0:=w.heap.size,w,K,O:=fun _=>False,a9:=0,pb:=fun _=>none,n0:=w.heap.size }
 have hcur:kf B (gK w.heap.size K) (bj []) w:=by
  refine ⟨⟨Nat.le_refl _,fun o x hx=>?_,fun o o' x x' b base base' _ hx=>?_,hK⟩,fun o _ _=>rfl,⟨rfl,(fun o ho=>(by rcases ho with ho|ho;cases ho;exact ho.elim)),fun _ _ h=>h,fun _ _ _=>rfl,Nat.le_refl _,rfl,rfl,rfl,fun _ _ _=>rfl,fun o b base ho=>?_,fun _ _ h=>.inl h,fun b cs e fr h=>⟨cs,fr,h,rfl⟩,fun b l h=>⟨l,h⟩,fun _ _ _ _ _ _=>rfl⟩,Nat.zero_le _⟩
  ·simp [bj,m8,Tr.get_nil] at hx
  ·simp [bj,m8,Tr.get_nil] at hx
  ·simp [bj,m8,Tr.get_nil] at ho
 refine wpIn_mono (aoe hT hm (N:=0) (B:=B) (nt:=fn.ntmps) (fun _ h=>h) (by show (0:Nat)≤1000;omega) (Nat.le_refl _) body hs _ _ _ (gK w.heap.size K) w _ h hcur (Ea hrel hl) (Marks.nil _ _ _ _)) ?_
 rintro ex a w' ⟨e,L,st,g,rfl,hq,hc,hr,hd⟩
 have fin:Hb (th P L st fn.results.toList) (fun r st=>R.get fr st.h r=some x) st→bodyPostM (i9 none) 0 P fn (fun e w'=>∃ v,e = .returned v∧A6 w w'∧Rel (gK w.heap.size (Nq K w w')) w' (R.E fr x) v) .ret a w':=by
  intro hq
  show LeavesInM (i9 none) 0 P fn a.tmps _ a.defers .returning w'
  unfold Hb at hq
  cases hres:th P L st fn.results.toList with
  |none=>rw [hres] at hq;exact hq.elim
  |some l=>
   rw [hres] at hq
   have hbs:=hc.base
   obtain ⟨bs,e1,e2,e3⟩:=hd
   have e1:=e1.trans (List.append_nil _)
   rw [e1]
   refine Hm (Good:=fun u=>Ok g st.h u∧A6 w u∧(∀ a v,Rel g w' a v→Rel g u a v)∧u.heap.size=w'.heap.size) (S:=fun b=>w.heap.size≤b∧je g st.h b) ?_ ?_ bs w'
    ⟨hc.ok,⟨hbs.size,fun b hlt=>hbs.frame b hlt (fun h=>h),hbs.os,hbs.tape,hbs.output⟩,fun _ _ h=>h,rfl⟩ e2 (fun b hb=>⟨⟨(e3 b hb).1,(e3 b hb).2.2⟩,(e3 b hb).2.1⟩)
   ·rintro u b ⟨g1,g2,g3,g4⟩ ⟨hb1,hb2⟩ hb3
    have hput:=Ok.Hn (ds':=none) g1 hb3 hb2
    exact ⟨hput.1,⟨by rw [mq];exact g2.size,fun c hc=>(fi u _ (by omega)).trans (g2.heap c hc),g2.os,g2.tape,g2.output⟩,fun a v h=>hput.2 a v (g3 a v h),by rw [mq];exact g4⟩
   ·rintro u ⟨g1,g2,g3,g4⟩
    obtain ⟨us,h1,h2⟩:=Wt (P:=P) g1 ⟨hr.1,fun t=>g3 _ _ (hr.2 t)⟩ fn.results.toList l hres
    obtain ⟨v,h3,h4⟩:=Wm h1 h2
    refine ⟨v,h3,v,rfl,g2,?_⟩
    refine R.ok g1 ⟨fun b j hk=>?_,fun o cells k s e ho b base hi j hj=>?_⟩ (fun _=>?_) h4 hq
    ·rcases hbs.ov b j hk with h5|h5|h5
     ·exact .inl h5
     ·exact .inr ⟨h5,g1.K b j hk⟩
     ·exact h5.elim
    ·obtain ⟨b',base',h5,_,h6⟩:=g1.obj o _ ho
     rw [hi] at h5;cases h5
     rcases hbs.own o b base (by rw [ho];rfl) hi with h7|h7
     ·exact .inr ⟨h7,h6.lt⟩
     ·exact h7.elim
    ·rw [hbs.b0];exact Nat.le_refl _
 cases e with
 |normal=>exact fin hq
 |ret=>exact fin hq
 |exit id=>exact hq.elim
theorem Rel.lift {b0 K g w a v} (h:Rel (gK b0 K) w a v) (hb:g.b0≤b0) (hK:∀ b j,K b j→g.K b j):Rel g w a v:=by
 have hno:∀ o p,(gK b0 K).inj o≠some p:=fun o p e=>by cases e
 generalize hg:gK b0 K=g0 at h hno
 have hK':∀ b j,g0.K b j→g.K b j:=by subst hg;exact hK
 have hb':g.b0≤g0.b0:=by subst hg;exact hb
 clear hg
 induction h with
 |sc x=>exact .sc x
 |agg l vs hs _ ih=>exact .agg l vs hs ih
 |fo l vs hs _ ih=>exact .fo l vs hs ih
 |vl loc sz es b off cap c hsz hl hcap h _ hw ih=>exact .vl loc sz es b off cap c hsz (fun e=>Nat.le_trans hb' (hl e)) hcap (fun j a hj=>⟨hK' _ _ (h j a hj).1,(h j a hj).2⟩) ih (fun e=>⟨fun j=>hK' _ _ ((hw e).K j),(hw e).jb,(hw e).none,(hw e).cm⟩)
 |k8 loc sz=>exact .k8 loc sz
 |tq loc sz a=>exact .tq loc sz a
 |sl o off len sz b base cap hi hc hm hr=>exact (hno _ _ hi).elim
 |uy o off sz a=>exact .uy o off sz a
 |vt o off sz=>exact .vt o off sz
 |ez a=>exact .ez a
 |ptr o off b base hi=>exact (hno _ _ hi).elim
 |fy l b off c h _ ih=>exact .fy l b off c (fun j a hj=>⟨hK' _ _ (h j a hj).1,(h j a hj).2⟩) ih
 |fn f first captured va vb hs _ hs' _ ih ih'=>exact .fn f first captured va vb hs ih hs' ih'
 |mp o b base hi=>exact (hno _ _ hi).elim
 |ry t a v _ ih=>exact .ry t a v ih
 |yl o b base hi=>exact (hno _ _ hi).elim
 |bad v=>exact .bad v
theorem Es {l:List AV} (h:AV.fresh.go l=true):∀ a ∈ l,a.fresh=true:=by
 induction l with
 |nil=>intro a ha;cases ha
 |cons x l ih=>
  simp only [AV.fresh.go,Bool.and_eq_true] at h
  intro a ha
  rcases List.mem_cons.1 ha with rfl|ha
  ·exact h.1
  ·exact ih h.2 a ha
theorem ahn {a:AV} (h:a.fresh=true):∀ c ∈ a.cells,c.fresh=true:=by
 cases a with
 |agg l=>exact Es h
 |sc v=>intro c hc;simp only [AV.cells,List.mem_map] at hc;obtain ⟨x,_,rfl⟩:=hc;rfl
 |_=>intro c hc;simp only [AV.cells,List.mem_singleton] at hc;subst hc;exact h
theorem Rel.fresh {b0 K g w a v} (h:Rel (gK b0 K) w a v) (hf:a.fresh=true) (hb:g.b0≤b0) (hK:∀ b j,K b j→b0≤b→g.K b j):Rel g w a v:=by
 generalize hg:gK b0 K=g0 at h
 have hK':∀ b j,g0.K b j→g0.b0≤b→g.K b j:=by subst hg;exact hK
 have hb':g.b0≤g0.b0:=by subst hg;exact hb
 clear hg hb hK
 induction h with
 |sc x=>exact .sc x
 |agg l vs hs _ ih=>exact .agg l vs hs (fun i a v ha hv=>ih i a v ha hv (Es hf a (List.mem_of_getElem? ha)))
 |fo l vs hs _ ih=>exact .fo l vs hs (fun i a v ha hv=>ih i a v ha hv (Es hf a (List.mem_of_getElem? ha)))
 |vl loc sz es b off cap c hsz hl hcap h _ hw ih=>
  simp only [AV.fresh,Bool.and_eq_true] at hf
  have hbb:=hl hf.1
  refine .vl loc sz es b off cap c hsz (fun e=>Nat.le_trans hb' hbb) hcap (fun j a hj=>⟨hK' _ _ (h j a hj).1 hbb,(h j a hj).2⟩) (fun j a hj=>ih j a hj ?_) (fun e=>⟨fun j=>hK' _ _ ((hw e).K j) hbb,(hw e).jb,(hw e).none,(hw e).cm⟩)
  obtain ⟨e,he,hc⟩:=List.mem_flatMap.1 (List.mem_of_getElem? hj)
  exact ahn (Es hf.2 e he) a hc
 |k8 loc sz=>exact .k8 loc sz
 |tq loc sz a=>exact .tq loc sz a
 |sl o off len sz b base cap hi hc hm hr=>cases hf
 |uy o off sz a=>cases hf
 |vt o off sz=>cases hf
 |ez a=>exact .ez a
 |ptr o off b base hi=>cases hf
 |fy l b off c h _ ih=>cases hf
 |fn f first captured va vb hs _ hs' _ ih ih'=>
  simp only [AV.fresh,Bool.and_eq_true] at hf
  exact .fn f first captured va vb hs (fun i a v ha hv=>ih i a v ha hv (Es hf.1 a (List.mem_of_getElem? ha))) hs' (fun i a v ha hv=>ih' i a v ha hv (Es hf.2 a (List.mem_of_getElem? ha)))
 |mp o b base hi=>cases hf
 |ry t a v _ ih=>exact .ry t a v (ih hf)
 |yl o b base hi=>cases hf
 |bad v=>cases hf
def Gh.more (g:Gh) (w w':World):Gh:={ g with K:=Nq g.K w w' }
theorem Ud {g h w w'} {lo hi:Nat} (hok:Ok g h w) (q:A6 w w'):Step g h w lo hi (g.more w w') h w'∧Ok (g.more w w') h w':=by
 have hext:Ext g w (g.more w w') w':=by
  refine ⟨rfl,fun _ _ h=>h,fun _ _ h=>.inl h,fun b j hj=>pf (q.heap b (hok.K b j hj)),fun b cs e fr hb=>⟨cs,fr,(q.heap b (cb hb)).trans hb,rfl⟩,fun b l hb=>⟨l,(q.heap b (cb hb)).trans hb⟩,fun b cs e fr hb _=>q.heap b (cb hb)⟩
 refine ⟨⟨hext,q.size,q.os,q.tape,q.output,fun b hb _=>q.heap b hb,fun _ h _=>h,fun o b base ho hi=>.inr ⟨o,base,ho,hi⟩,fun b j hk=>?_⟩,⟨Nat.le_trans hok.size q.size,fun o x hx=>?_,hok.sep,fun b j hk=>?_⟩⟩
 ·rcases hk with hk|hk
  ·exact .inl hk
  ·exact .inr (.inl hk.1)
 ·refine (hok.oi o x hx).imp id ?_
  rintro ⟨b,base,h1,h2,h3⟩
  refine ⟨b,base,h1,h2,h3.ext hext (q.heap b h3.lt) (fun j hk=>?_)⟩
  rcases hk with hk|hk
  ·exact hk
  ·have:=h3.lt;omega
 ·rcases hk with hk|hk
  ·exact Nat.lt_of_lt_of_le (hok.K b j hk) q.size
  ·exact hk.2
noncomputable def c8 {α:Type} (A:AC α) (F : α→Option AV) (args:List AV):M AV:=fun st=>
 match A.get .nil args with
 |some x=>(F x).map fun r=>(r,st)
 |none=>
  match A.get st.h args with
  |some x=>
   match F x with
   |some r=>bif r.fresh then some (r,st) else some (r,{ st with h:=.nil })
   |none=>none
  |none=>none
theorem ak {P:Program} [KP P] {f:Nat} {α:Type} {A:AC α} {F : α→Option AV} (h:∀ x r,F x=some r→bk P f (A.E x) r) (args:List AV):Ei P f args (c8 A F args):=by
 intro g st w vs r st' hok hfree hrel hm
 have go:∀ (X:Value→World→Prop),akr P f vs w X→(∀ v w',X v w'→A6 w w'∧Rel (g.more w w') w' r v)→st'=st →
  (∃ v w' g',(callFunc f vs.toArray).run P w = .ok (.value v) w'∧Step g st.h w st.nx st'.nx g' st'.h w'∧Ok g' st'.h w'∧Rel g' w' r v) ∨
  ((callFunc f vs.toArray).run P w = .ok (.enter f vs.toArray) w∧Calls P f vs.toArray w (fun e w'=>∃ v g',e = .returned v∧Step g st.h w st.nx st'.nx g' st'.h w'∧Ok g' st'.h w'∧Rel g' w' r v)):=by
  intro X hx hX e
  subst e
  rcases hx with ⟨v,h1,h2⟩|⟨h1,h2⟩
  ·obtain ⟨q,hr⟩:=hX v w h2
   have:=Ud (lo:=st'.nx) (hi:=st'.nx) hok q
   exact .inl ⟨v,w,_,h1,this.1,this.2,hr⟩
  ·refine .inr ⟨h1,h2.mono ?_⟩
   rintro e w' ⟨v,rfl,h3⟩
   obtain ⟨q,hr⟩:=hX v w' h3
   have:=Ud (lo:=st'.nx) (hi:=st'.nx) hok q
   exact ⟨v,_,rfl,this.1,this.2,hr⟩
 unfold c8 at hm
 cases h1:A.get .nil args with
 |some x=>
  rw [h1] at hm
  simp only [Option.map_eq_some_iff] at hm
  obtain ⟨r',h2,h3⟩:=hm
  cases h3
  have hargs:=A.ok (b0:=w.heap.size) (hok.part (hm:=.nil) (fun o x hx=>by rw [Tr.get_nil] at hx;cases hx)) (wk.nil g g.K (fun _ _ h=>h)) hrel h1
  refine go _ (h x r h2 g.K w vs hok.K hargs) (fun v w' hv=>⟨hv.1,hv.2.lift hok.size (fun b j hk=>hk)⟩) rfl
 |none=>
  rw [h1] at hm
  simp only at hm
  cases h2:A.get st.h args with
  |none=>rw [h2] at hm;cases hm
  |some x=>
   rw [h2] at hm
   simp only at hm
   cases h3:F x with
   |none=>rw [h3] at hm;cases hm
   |some r'=>
    rw [h3] at hm
    simp only at hm
    cases h4:r'.fresh with
    |false=>
     rw [h4] at hm
     cases hm
     obtain ⟨K1,eK⟩:∃ K1:Nat→Nat→Prop,(fun b j=>g.K b j∨((∃ o base,(st.h.get o).isSome=true∧g.inj o=some (b,base))∧b<w.heap.size))=K1:=⟨_,rfl⟩
     have hK1:∀ b j,K1 b j↔(g.K b j∨((∃ o base,(st.h.get o).isSome=true∧g.inj o=some (b,base))∧b<w.heap.size)):=fun b j=>by rw [← eK]
     have hK1s:∀ b j,K1 b j→b<w.heap.size:=fun b j hk=>((hK1 b j).1 hk).elim (hok.K b j) (fun q=>q.2)
     have hargs:=A.ok (b0:=w.heap.size) (K:=K1) hok ⟨fun b j hk=>(hK1 b j).2 (.inl hk),fun o cells k s e ho b base hi j hj=>by
      obtain ⟨b',base',h5,_,h6⟩:=hok.obj o _ ho
      rw [hi] at h5;cases h5
      exact (hK1 _ _).2 (.inr ⟨⟨o,base,by rw [ho];rfl,hi⟩,h6.lt⟩)⟩ hrel h2
     have fin:∀ (v:Value) (w':World),A6 w w'∧Rel (gK w.heap.size (Nq K1 w w')) w' r v →
      Step g st.h w st.nx st.nx { g with K:=Nq K1 w w' } .nil w'∧Ok { g with K:=Nq K1 w w' } .nil w'∧Rel { g with K:=Nq K1 w w' } w' r v:=by
      rintro v w' ⟨q,hr⟩
      refine ⟨⟨⟨rfl,fun _ _ h=>h,fun b j h=>.inl ((hK1 b j).2 (.inl h)),fun b j hj=>pf (q.heap b (hok.K b j hj)),fun b cs e fr hb=>⟨cs,fr,(q.heap b (cb hb)).trans hb,rfl⟩,fun b l hb=>⟨l,(q.heap b (cb hb)).trans hb⟩,fun b cs e fr hb _=>q.heap b (cb hb)⟩,
       q.size,q.os,q.tape,q.output,fun b hb _=>q.heap b hb,fun _ h _=>h,fun o b base ho hi=>(by rw [Tr.get_nil] at ho;cases ho),fun b j hk=>?_⟩,
       ⟨Nat.le_trans hok.size q.size,fun o x hx=>(by rw [Tr.get_nil] at hx;cases hx),fun o o' x x' b base base' _ hx=>(by rw [Tr.get_nil] at hx;cases hx),fun b j hk=>?_⟩,hr.lift hok.size (fun b j hk=>hk)⟩
      ·rcases hk with hk|hk
       ·rcases (hK1 b j).1 hk with hk|⟨hk,_⟩
        ·exact .inl hk
        ·exact .inr (.inr hk)
       ·exact .inr (.inl hk.1)
      ·rcases hk with hk|hk
       ·exact Nat.lt_of_lt_of_le (hK1s b j hk) q.size
       ·exact hk.2
     rcases h x r h3 K1 w vs hK1s hargs with ⟨v,p1,p2⟩|⟨p1,p2⟩
     ·have q:=fin v w p2
      exact .inl ⟨v,w,_,p1,q.1,q.2.1,q.2.2⟩
     ·refine .inr ⟨p1,p2.mono ?_⟩
      rintro e w' ⟨v,rfl,p3⟩
      have q:=fin v w' p3
      exact ⟨v,_,rfl,q.1,q.2.1,q.2.2⟩
    |true=>
     rw [h4] at hm
     cases hm
     have hargs:=A.ok (b0:=w.heap.size) (K:=fun b _=>b<w.heap.size) hok ⟨fun b j hk=>hok.K b j hk,fun o cells k s e ho b base hi j hj=>by
      obtain ⟨b',base',h5,_,h6⟩:=hok.obj o _ ho
      rw [hi] at h5;cases h5
      exact h6.lt⟩ hrel h2
     refine go _ (h x r h3 (fun b _=>b<w.heap.size) w vs (fun _ _ h=>h) hargs) (fun v w' hv=>⟨hv.1,hv.2.fresh h4 hok.size (fun b j hk hle=>?_)⟩) rfl
     rcases hk with hk|hk
     ·omega
     ·exact .inr hk
theorem ar.nil (P:Program):ar P []:=fun f b m h=>by cases h
theorem ar.cons {P:Program} [KP P] {f:Nat} {b:Bool} {m:List AV→M AV} {T:ff} (h:∀ args,Ei P f args (m args)) (hT:ar P T):ar P ((f,b,m)::T):=by
 intro f' b' m' hf args
 simp only [ff.find] at hf
 by_cases e:f=f'
 ·subst e
  simp only [Nat.beq_refl,cond_true,Option.some.injEq] at hf
  cases hf
  exact h args
 ·rw [qa e,cond_false] at hf
  exact hT f' b' m' hf args
def aog (g:Gh) (st:St) (w:World):fv:={ ld g st.h w st.nx (fun _=>False) with n0:=w.heap.size }
theorem kf.ofC {g st w} (hok:Ok g st.h w) (hfr:∀ o,st.nx≤o→g.inj o=none):kf (aog g st w) g st w:=
 ⟨hok,fun o h1 _=>hfr o h1,⟨rfl,fun _o _ho=>rfl,fun _ _ h=>h,fun _ _ _=>rfl,Nat.le_refl _,rfl,rfl,rfl,fun _ _ _=>rfl,fun o _b base ho hi=>.inr (.inr ⟨o,base,ho,hi⟩),fun _ _ h=>.inl h,
  fun _b cs _e fr h=>⟨cs,fr,h,rfl⟩,fun _b l h=>⟨l,h⟩,fun _ _ _ _ _ _=>rfl⟩,Nat.le_refl _⟩
theorem kf.aBm {g st w g' st' w'} (h:kf (aog g st w) g' st' w') (hfr:∀ o,st.nx≤o→g.inj o=none):Step g st.h w st.nx st'.nx g' st'.h w':=by
 have b:=h.base
 have pins:∀ o,o<st.nx→g'.inj o=g.inj o:=fun o ho=>b.pins o (.inl ho)
 refine ⟨⟨b.b0,fun o p hp=>?_,b.K,b.cell,b.jb,b.lp,b.whole⟩,b.size,b.os,b.tape,b.output,fun c hc hn=>b.frame c hc (fun hO=>?_),fun o ho hr=>?_,fun o c base ho hi=>?_,fun c j hk=>?_⟩
 ·by_cases h1:st.nx≤o
  ·rw [hfr o h1] at hp;cases hp
  ·rw [pins o (by omega)];exact hp
 ·rcases hO with hO|⟨o,base,h1,h2⟩
  ·exact hO
  ·exact hn o base h1 h2
 ·by_cases h1:o<st.nx
  ·rw [pins o h1];exact ho
  ·exact h.fresh o (by omega) (fun hf=>hf)
 ·rcases b.own o c base ho hi with h1|h1|h1
  ·exact .inl h1
  ·exact h1.elim
  ·exact .inr h1
 ·rcases b.ov c j hk with h1|h1|h1|h1
  ·exact .inl h1
  ·exact .inr (.inl h1)
  ·exact h1.elim
  ·exact .inr (.inr h1)
theorem ct {P:Program} [KP P] {T:ff} (hT:ar P T) (hm:P.follows .mixedOrders=true) {f:Nat} {fn:Func} {body:Code} (hf:P.funcs[f]? = some fn) (hb:fn.body=some body) (he:po P f=true) (hs:ek fn.ntmps body=true)
 {args:List AV} (hl:Nat.ble args.length fn.ntmps=true) {st:St} (hp:Nat.ble st.nx 1000=true) {R:AV→St→Prop}
 (h:wl P T st.nx body (da P fn.results.toList R) (cj 0 args) st):ib P f args st R:=by
 intro g w vs hok hfr hrel
 refine .inr ⟨wx he _ _,yn (ro:=none) (n:=0) (callsIn_of_wp_marks hf hb trivial ?_)⟩
 have hcur:=kf.ofC (w:=w) hok hfr
 refine wpIn_mono (aoe hT hm (N:=0) (B:=aog g st w) (nt:=fn.ntmps) (fun _ h=>h) (Nat.le_of_ble_eq_true hp) (Nat.le_refl _) body hs _ _ _ g w _ h hcur (Ea hrel (Nat.le_of_ble_eq_true hl)) (Marks.nil _ _ _ _)) ?_
 rintro ex a w' ⟨e,L,st',g',rfl,hq,hc,hr,hd⟩
 have fin:Hb (th P L st' fn.results.toList) R st'→bodyPostM (i9 none) 0 P fn (fun e w'=>∃ v g' r st',e = .returned v∧R r st'∧st.nx≤st'.nx∧Step g st.h w st.nx st'.nx g' st'.h w'∧Ok g' st'.h w'∧Rel g' w' r v) .ret a w':=by
  intro hq
  show LeavesInM (i9 none) 0 P fn a.tmps _ a.defers .returning w'
  unfold Hb at hq
  cases hres:th P L st' fn.results.toList with
  |none=>rw [hres] at hq;exact hq.elim
  |some l=>
   rw [hres] at hq
   obtain ⟨bs,e1,e2,e3⟩:=hd
   have e1:=e1.trans (List.append_nil _)
   rw [e1]
   refine Hm (Good:=fun u=>Ok g' st'.h u∧Step g st.h w st.nx st'.nx g' st'.h u∧(∀ a v,Rel g' w' a v→Rel g' u a v)) (S:=fun b=>w.heap.size≤b∧je g' st'.h b) ?_ ?_ bs w'
    ⟨hc.ok,hc.aBm hfr,fun _ _ h=>h⟩ e2 (fun b hb=>⟨⟨(e3 b hb).1,(e3 b hb).2.2⟩,(e3 b hb).2.1⟩)
   ·rintro u b ⟨g1,g2,g3⟩ ⟨hb1,hb2⟩ hb3
    have hput:=Ok.Hn (ds':=none) g1 hb3 hb2
    exact ⟨hput.1,Step.avk (ds':=none) hok g2 hb1,fun a v h=>hput.2 a v (g3 a v h)⟩
   ·rintro u ⟨g1,g2,g3⟩
    obtain ⟨us,h1,h2⟩:=Wt (P:=P) g1 ⟨hr.1,fun t=>g3 _ _ (hr.2 t)⟩ fn.results.toList l hres
    obtain ⟨v,h3,h4⟩:=Wm h1 h2
    exact ⟨v,h3,v,g',_,st',rfl,hq,hc.a9,g2,g1,h4⟩
 cases e with
 |normal=>exact fin hq
 |ret=>exact fin hq
 |exit id=>exact hq.elim
def tg (D:List Nat) (nx i:Nat):Nat:=match D[i]? with|some o=>o|none=>nx+(i - D.length)
def Kp (D:List Nat) (nx n0 i:Nat):Option Nat:=bif Nat.blt i n0 then some (tg D nx i) else none
def zq (D:List Nat) (nx n0:Nat) (h0:Tr bq):List Nat→Tr bq→Tr bq
 | [],h=>h
 |i::r,h=>zq D nx n0 h0 r (Tr.set depth h (tg D nx i) ((h0.get i).bind (bq.dp (Kp D nx n0))))
def s9 (D:List Nat) (st st0:St):St:={ h:=zq D st.nx st0.nx st0.h (eg 0 st0.nx) st.h,nx:=st.nx+(st0.nx - D.length),rl:=[],wl:=[] }
theorem A1 {D:List Nat} {nx i o:Nat} (h:D[i]? = some o):tg D nx i=o:=by unfold tg;rw [h]
theorem C7 {D:List Nat} {nx i:Nat} (h:D.length≤i):tg D nx i=nx+(i - D.length):=by unfold tg;rw [List.getElem?_eq_none h]
theorem axy {D:List Nat} {nx:Nat} (hD:D.Nodup) (hlt:∀ o ∈ D,o<nx) {i j:Nat} (h:tg D nx i=tg D nx j):i=j:=by
 rcases Nat.lt_or_ge i D.length with hi|hi<;>rcases Nat.lt_or_ge j D.length with hj|hj
 ·rw [A1 (List.getElem?_eq_getElem hi),A1 (List.getElem?_eq_getElem hj)] at h
  exact (List.getElem_inj hD).1 h
 ·rw [A1 (List.getElem?_eq_getElem hi),C7 hj] at h
  have:=hlt _ (List.getElem_mem hi);omega
 ·rw [C7 hi,A1 (List.getElem?_eq_getElem hj)] at h
  have:=hlt _ (List.getElem_mem hj);omega
 ·rw [C7 hi,C7 hj] at h;omega
theorem azt {D:List Nat} {nx n0 i:Nat} (hlt:∀ o ∈ D,o<nx) (hi:i<n0):tg D nx i≤nx+n0:=by
 rcases Nat.lt_or_ge i D.length with h|h
 ·rw [A1 (List.getElem?_eq_getElem h)];have:=hlt _ (List.getElem_mem h);omega
 ·rw [C7 h];omega
theorem Jc {D:List Nat} {nx n0:Nat} {h0:Tr bq} {o:Nat}:∀ (l:List Nat) (h:Tr bq),(∀ i ∈ l,tg D nx i≤dk)→(∀ i ∈ l,tg D nx i≠o)→(zq D nx n0 h0 l h).get o=h.get o
 | [],h,_,_=>rfl
 |i::r,h,hl,ho=>by
  rw [zq,Jc r _ (fun j hj=>hl j (by simp [hj])) (fun j hj=>ho j (by simp [hj])),jo _ _ _ _ (hl i (by simp)),if_neg (fun e=>ho i (by simp) e.symm)]
theorem X5 {D:List Nat} {nx n0:Nat} {h0:Tr bq} (hinj:∀ i j,tg D nx i=tg D nx j→i=j) {i:Nat}:∀ (l:List Nat) (h:Tr bq),(∀ j ∈ l,tg D nx j≤dk)→i ∈ l→(zq D nx n0 h0 l h).get (tg D nx i)=(h0.get i).bind (bq.dp (Kp D nx n0))
 | [],_,_,hi=>by cases hi
 |j::r,h,hl,hi=>by
  rw [zq]
  by_cases hr:i ∈ r
  ·exact X5 hinj r _ (fun k hk=>hl k (by simp [hk])) hr
  ·have hij:i=j:=by rcases List.mem_cons.1 hi with e|e;exact e;exact (hr e).elim
   subst hij
   rw [Jc r _ (fun k hk=>hl k (by simp [hk])) (fun k hk e=>hr (hinj k i e ▸ hk)),jo _ _ _ _ (hl i (by simp)),if_pos rfl]
theorem avs {n i:Nat} (h:i<n):i ∈ eg 0 n:=(mh n 0 i).2 ⟨Nat.zero_le _,by omega⟩
theorem Ua {n i:Nat} (h:i ∈ eg 0 n):i<n:=by have:=((mh n 0 i).1 h).2;omega
theorem ac7:∀ (l:List Nat) (o i:Nat),idx l o i=none→o ∉ l
 | [],o,i,_=>by simp
 |a::l,o,i,h=>by
  rw [Jj] at h
  split at h
  ·cases h
  ·rename_i ne
   have:=ac7 l o (i+1) h
   simp only [List.mem_cons,not_or]
   exact ⟨fun e=>ne e.symm,this⟩
theorem agd {D:List Nat} {g g0':Gh} {st st0':St} {h0:Tr bq} {w w':World} {r:AV} {v:Value} (hD:D.Nodup) (hlt:∀ o ∈ D,o<st.nx) (hp:∀ o ∈ D,(st.h.get o).isSome=true)
 (hok:Ok g st.h w) (hfr:∀ o,st.nx≤o→g.inj o=none) (hk:D.length≤st0'.nx) (hb:st.nx+st0'.nx≤dk)
 (s0:Step (g.dp D) h0 w D.length st0'.nx g0' st0'.h w') (ok0:Ok g0' st0'.h w') (hr:Rel g0' w' r v) :
 ∃ g',st.nx≤(s9 D st st0').nx∧Step g st.h w st.nx (s9 D st st0').nx g' (s9 D st st0').h w'∧Ok g' (s9 D st st0').h w'∧Rel g' w' (r.dp (Kp D st.nx st0'.nx)) v:=by
 obtain ⟨n0,hn0⟩:∃ n0,n0=st0'.nx:=⟨_,rfl⟩
 have hinj:=fun i j=>axy (nx:=st.nx) hD hlt (i:=i) (j:=j)
 have hule:∀ i ∈ eg 0 st0'.nx,tg D st.nx i≤dk:=fun i hi=>Nat.le_trans (azt hlt (Ua hi)) hb
 have hin:∀ i,i<st0'.nx→(s9 D st st0').h.get (tg D st.nx i)=(st0'.h.get i).bind (bq.dp (Kp D st.nx st0'.nx)):=fun i hi=>X5 hinj _ _ hule (avs hi)
 have hout:∀ o,(∀ i,i<st0'.nx→tg D st.nx i≠o)→(s9 D st st0').h.get o=st.h.get o:=fun o ho=>Jc _ _ hule (fun i hi=>ho i (Ua hi))
 have hren:∀ i,(g.dp D).inj i=(D[i]?).bind g.inj:=fun _=>rfl
 have hold:∀ i b base,(g.dp D).inj i=some (b,base)→∃ o ∈ D,g.inj o=some (b,base)∧(st.h.get o).isSome=true:=fun i b base hi=>by
  rw [hren] at hi
  cases hd:D[i]? with
  |none=>rw [hd] at hi;cases hi
  |some o=>rw [hd] at hi;exact ⟨o,List.mem_of_getElem? hd,hi,hp o (List.mem_of_getElem? hd)⟩
 have hno:∀ i,st0'.nx≤i→g0'.inj i=none:=fun i hi=>s0.fresh i (by rw [hren,List.getElem?_eq_none (by omega)];rfl) (by omega)
 let g':Gh:={ b0:=g.b0,inj:=fun o=>if o<st.nx then g.inj o else g0'.inj (D.length+(o - st.nx)),K:=g0'.K }
 have gl:∀ o,o<st.nx→g'.inj o=g.inj o:=fun o ho=>if_pos ho
 have gg:∀ o,st.nx≤o→g'.inj o=g0'.inj (D.length+(o - st.nx)):=fun o ho=>if_neg (by omega)
 have F1:∀ i,g'.inj (tg D st.nx i)=g0'.inj i:=fun i=>by
  rcases Nat.lt_or_ge i D.length with hi|hi
  ·have hd:=List.getElem?_eq_getElem hi
   rw [A1 hd,gl _ (hlt _ (List.getElem_mem hi))]
   have h1:(g.dp D).inj i=g.inj D[i]:=by rw [hren,hd];rfl
   cases hg:g.inj D[i] with
   |some p=>exact (s0.ext.inj i p (h1.trans hg)).symm
   |none=>exact (s0.fresh i (h1.trans hg) (by omega)).symm
  ·rw [C7 hi,gg _ (by omega)]
   congr 1;omega
 let N:List Nat:=(List.range (st.nx+st0'.nx)).map fun o=>if o<st.nx then (idx D o 0).getD st0'.nx else D.length+(o - st.nx)
 have hNg:∀ p,p<st.nx+st0'.nx→N[p]? = some (if p<st.nx then (idx D p 0).getD st0'.nx else D.length+(p - st.nx)):=fun p hp=>by
  simp only [N,List.getElem?_map,List.getElem?_range hp,Option.map_some]
 have hidx:∀ i o,D[i]? = some o→idx D o 0=some i:=fun i o hi=>by
  cases hx:idx D o 0 with
  |some p=>
   have h1:=Eo D o p hx
   obtain ⟨hi',ei⟩:=List.getElem?_eq_some_iff.1 hi
   obtain ⟨hp',ep⟩:=List.getElem?_eq_some_iff.1 h1
   rw [(List.getElem_inj hD).1 (ei.trans ep.symm)]
  |none=>exact absurd (List.mem_of_getElem? hi) (ac7 D o 0 hx)
 have hτ:∀ o p,Kp D st.nx st0'.nx o=some p→N[p]? = some o:=fun i p h=>by
  unfold Kp at h
  cases hlt2:Nat.blt i st0'.nx with
  |false=>rw [hlt2] at h;cases h
  |true=>
   rw [hlt2] at h
   cases h
   have hi:i<st0'.nx:=Nat.le_of_ble_eq_true hlt2
   rcases Nat.lt_or_ge i D.length with hi2|hi2
   ·have hd:=List.getElem?_eq_getElem hi2
    rw [A1 hd,hNg _ (by have:=hlt _ (List.getElem_mem hi2);omega),if_pos (hlt _ (List.getElem_mem hi2)),hidx i _ hd];rfl
   ·rw [C7 hi2,hNg _ (by omega),if_neg (by omega)]
    congr 1;omega
 have hext:Ext (g0'.dp N) w' g' w':=by
  refine ⟨s0.ext.b0.symm,fun p q hq=>?_,fun _ _ h=>h,fun _ _ _=>rfl,fun b cs e fr h=>⟨cs,fr,h,rfl⟩,fun b l h=>⟨l,h⟩,fun _ _ _ _ _ _=>rfl⟩
  have hq':(N[p]?).bind g0'.inj=some q:=hq
  rcases Nat.lt_or_ge p (st.nx+st0'.nx) with hpl|hpl
  ·rw [hNg p hpl,Option.bind_some] at hq'
   by_cases hpn:p<st.nx
   ·rw [if_pos hpn] at hq'
    cases hx:idx D p 0 with
    |none=>rw [hx,Option.getD_none,hno _ (Nat.le_refl _)] at hq';cases hq'
    |some i=>
     rw [hx,Option.getD_some] at hq'
     rw [← A1 (nx:=st.nx) (Eo D p i hx),F1];exact hq'
   ·rw [if_neg hpn] at hq'
    rw [gg p (by omega)];exact hq'
  ·have:N[p]? = none:=List.getElem?_eq_none (by simp only [N,List.length_map,List.length_range];exact hpl)
   rw [this] at hq';cases hq'
 have himg:∀ o,(∃ i,i<st0'.nx∧tg D st.nx i=o)∨(∀ i,i<st0'.nx→tg D st.nx i≠o):=fun o=>by
  by_cases h:∃ i,i<st0'.nx∧tg D st.nx i=o
  ·exact .inl h
  ·exact .inr fun i hi e=>h ⟨i,hi,e⟩
 have ew:∀ i x,i<st0'.nx→(s9 D st st0').h.get (tg D st.nx i)=some x→∃ y,st0'.h.get i=some y∧y.dp (Kp D st.nx st0'.nx)=some x:=fun i x hi hx=>by
  rw [hin i hi] at hx
  cases hy:st0'.h.get i with
  |none=>rw [hy] at hx;cases hx
  |some y=>rw [hy] at hx;exact ⟨y,rfl,hx⟩
 have hfar:∀ o b base,(∀ i,i<st0'.nx→tg D st.nx i≠o)→g'.inj o=some (b,base)→o<st.nx∧o ∉ D∧g.inj o=some (b,base):=fun o b base ho hi=>by
  rcases Nat.lt_or_ge o st.nx with h1|h1
  ·refine ⟨h1,fun hd=>?_,by rw [← gl o h1];exact hi⟩
   obtain ⟨i,hil,e⟩:=List.getElem_of_mem hd
   exact ho i (by omega) (by rw [A1 (List.getElem?_eq_getElem hil)];exact e)
  ·rw [gg o h1] at hi
   rcases Nat.lt_or_ge (D.length+(o - st.nx)) st0'.nx with h2|h2
   ·exact (ho _ h2 (by rw [C7 (by omega)];omega)).elim
   ·rw [hno _ h2] at hi;cases hi
 have hsame:∀ o x b base,o ∉ D→st.h.get o=some x→g.inj o=some (b,base)→b<w.heap.size→w'.heap[b]? = w.heap[b]? ∧ (∀ i base',g0'.inj i=some (b,base')→(st0'.h.get i).isSome=true→False)∧(∀ j,g0'.K b j→g.K b j):=fun o x b base ho hx hi hbs=>by
  have hnot:∀ i base',(g.dp D).inj i≠some (b,base'):=fun i base' e=>by
   obtain ⟨o2,hd,hi2,hs2⟩:=hold i b base' e
   obtain ⟨x2,hx2⟩:=Option.isSome_iff_exists.1 hs2
   exact hok.sep o o2 x x2 b base base' (fun e=>ho (e ▸ hd)) hx hx2 hi hi2
  refine ⟨s0.frame b hbs fun i base' _=>hnot i base',fun i base' e hs=>?_,fun j hj=>?_⟩
  ·rcases s0.own i b base' hs e with h1|⟨o',base2,_,h2⟩
   ·omega
   ·exact hnot o' base2 h2
  ·rcases s0.ov b j hj with h1|h1|⟨o',base2,_,h2⟩
   ·exact h1
   ·omega
   ·exact (hnot o' base2 h2).elim
 have hblk:∀ o x b base,st.h.get o=some x→g.inj o=some (b,base)→ng g w b base x:=fun o x b base hx hi=>by
  rcases hok.oi o x hx with ⟨h1,_⟩|⟨b',base',h1,_,h2⟩
  ·rw [h1] at hi;cases hi
  ·rw [h1] at hi;cases hi;exact h2
 have hsz:∀ b base x,ng g w b base x→b<w.heap.size:=fun b base x hx=>by
  have hs:∃ q,w.heap[b]? = some q:=by
   cases x with
   |row cells k st et=>obtain ⟨cs,fr,h1,_⟩:=hx;exact ⟨_,h1⟩
   |map es=>obtain ⟨_,ms,clock,h1,_⟩:=hx;exact ⟨_,h1⟩
   |loop slots nt params assign body state pending=>obtain ⟨_,l,h1,_⟩:=hx;exact ⟨_,h1⟩
  obtain ⟨q,hq⟩:=hs
  exact (Array.getElem?_eq_some_iff.1 hq).1
 have hE:Ext g w g' w':=by
  refine ⟨rfl,fun o p hp=>?_,fun b j h=>s0.ext.K b j h,fun b j h=>s0.ext.cell b j h,s0.ext.jb,s0.ext.lp,s0.ext.whole⟩
  rcases Nat.lt_or_ge o st.nx with h1|h1
  ·rw [gl o h1];exact hp
  ·rw [hfr o h1] at hp;cases hp
 refine ⟨g',Nat.le_add_right _ _,⟨hE,s0.size,s0.os,s0.tape,s0.output,fun b hbs hn=>?_,fun o ho hr2=>?_,fun o b base ho hi=>?_,fun b j hK=>?_⟩,⟨?_,fun o x hx=>?_,fun o o' x x' b base base' hne hx hx' hi hi'=>?_,ok0.K⟩,(hr.dp hτ).ext hext⟩
 ·refine s0.frame b hbs fun i base _ e=>?_
  obtain ⟨o,_,h1,h2⟩:=hold i b base e
  exact hn o base h2 h1
 ·rcases Nat.lt_or_ge o st.nx with h1|h1
  ·rw [gl o h1];exact ho
  ·rw [gg o h1]
   exact hno _ (by simp only [s9] at hr2;omega)
 ·rcases himg o with ⟨i,hi0,rfl⟩|ho2
  ·obtain ⟨x,hx⟩:=Option.isSome_iff_exists.1 ho
   obtain ⟨y,hy,_⟩:=ew i x hi0 hx
   rw [F1] at hi
   rcases s0.own i b base (by rw [hy];rfl) hi with h1|⟨o',base',_,h2⟩
   ·exact .inl h1
   ·obtain ⟨o2,_,h3,h4⟩:=hold o' b base' h2
    exact .inr ⟨o2,base',h4,h3⟩
  ·obtain ⟨_,_,h3⟩:=hfar o b base ho2 hi
   rw [hout o ho2] at ho
   exact .inr ⟨o,base,ho,h3⟩
 ·rcases s0.ov b j hK with h1|h1|⟨o',base',_,h2⟩
  ·exact .inl h1
  ·exact .inr (.inl h1)
  ·obtain ⟨o2,_,h3,h4⟩:=hold o' b base' h2
   exact .inr (.inr ⟨o2,base',h4,h3⟩)
 ·exact Nat.le_trans hok.size s0.size
 ·rcases himg o with ⟨i,hi0,rfl⟩|ho2
  ·obtain ⟨y,hy,hyx⟩:=ew i x hi0 hx
   refine (ok0.oi i y hy).imp (fun q=>⟨by rw [F1];exact q.1,by obtain ⟨s1,e1,rfl⟩:=q.2;simp only [bq.dp,AV.dp.go,Option.some.injEq] at hyx;exact ⟨s1,e1,hyx.symm⟩⟩) ?_
   rintro ⟨b,base,q1,q2,q3⟩
   refine ⟨b,base,by rw [F1];exact q1,by show g.b0≤b;have:=s0.ext.b0;have e:g0'.b0=g.b0:=this;omega,(q3.dp hτ hyx).ext hext rfl (fun j hj=>hj)⟩
  ·rw [hout o ho2] at hx
   cases hg:g'.inj o with
   |none=>
    refine .inl ⟨rfl,?_⟩
    rcases Nat.lt_or_ge o st.nx with h1|h1
    ·rw [gl o h1] at hg
     rcases hok.oi o x hx with ⟨_,h2⟩|⟨b,base,h2,_⟩
     ·exact h2
     ·rw [hg] at h2;cases h2
    ·rcases hok.oi o x hx with ⟨_,h2⟩|⟨b,base,h2,_⟩
     ·exact h2
     ·rw [hfr o h1] at h2;cases h2
   |some p=>
    obtain ⟨b,base⟩:=p
    obtain ⟨h1,h2,h3⟩:=hfar o b base ho2 hg
    have hor:=hblk o x b base hx h3
    obtain ⟨e1,_,e3⟩:=hsame o x b base h2 hx h3 (hsz b base x hor)
    refine .inr ⟨b,base,rfl,?_,hor.ext hE e1 e3⟩
    rcases hok.oi o x hx with ⟨h4,_⟩|⟨b',base',h4,h5,_⟩
    ·rw [h4] at h3;cases h3
    ·rw [h4] at h3;cases h3;exact h5
 ·rcases himg o with ⟨i,hi0,rfl⟩|ho2<;>rcases himg o' with ⟨i',hi0',rfl⟩|ho2'
  ·obtain ⟨y,hy,_⟩:=ew i x hi0 hx
   obtain ⟨y',hy',_⟩:=ew i' x' hi0' hx'
   rw [F1] at hi hi'
   exact ok0.sep i i' y y' b base base' (fun e=>hne (by rw [e])) hy hy' hi hi'
  ·obtain ⟨y,hy,_⟩:=ew i x hi0 hx
   obtain ⟨h1,h2,h3⟩:=hfar o' b base' ho2' hi'
   rw [hout o' ho2'] at hx'
   rw [F1] at hi
   exact (hsame o' x' b base' h2 hx' h3 (hsz b base' x' (hblk o' x' b base' hx' h3))).2.1 i base hi (by rw [hy];rfl)
  ·obtain ⟨y,hy,_⟩:=ew i' x' hi0' hx'
   obtain ⟨h1,h2,h3⟩:=hfar o b base ho2 hi
   rw [hout o ho2] at hx
   rw [F1] at hi'
   exact (hsame o x b base h2 hx h3 (hsz b base x (hblk o x b base hx h3))).2.1 i' base' hi' (by rw [hy];rfl)
  ·obtain ⟨h1,h2,h3⟩:=hfar o b base ho2 hi
   obtain ⟨h1',h2',h3'⟩:=hfar o' b base' ho2' hi'
   rw [hout o ho2] at hx
   rw [hout o' ho2'] at hx'
   exact hok.sep o o' x x' b base base' hne hx hx' h3 h3'
theorem afx {P:Program} [KP P] {f:Nat} {args:List AV} {st:St} {R:AV→St→Prop} (D:List Nat) (hD:D.Nodup) (hlt:∀ o ∈ D,o<st.nx) (hp:∀ o ∈ D,(st.h.get o).isSome=true) (hl:D.length≤dk)
 (h:ib P f (AV.dp.go (fun o=>idx D o 0) args) (bj (jd st.h (fun o=>idx D o 0) D)) (fun r st'=>(D.length≤st'.nx∧st.nx+st'.nx≤dk)∧R (r.dp (Kp D st.nx st'.nx)) (s9 D st st'))):ib P f args st R:=by
 intro g w vs hok hfr hrel
 have hτ:∀ o p,(fun o=>idx D o 0) o=some p→D[p]? = some o:=fun o p h=>Eo _ o p h
 have hnx:(bj (jd st.h (fun o=>idx D o 0) D)).nx=D.length:=by simp only [bj,iq]
 have hinj:∀ i o,D[i]? = some o→(g.dp D).inj i=g.inj o:=fun i o h=>by simp [Gh.dp,h]
 have ew:∀ i x,(bj (jd st.h (fun o=>idx D o 0) D)).h.get i=some x→∃ o y,D[i]? = some o∧st.h.get o=some y∧y.dp (fun o=>idx D o 0)=some x:=by
  intro i x hx
  simp only [bj] at hx
  rw [tt _ _ _ (by rw [iq];omega),if_pos (Nat.zero_le _),Nat.sub_zero,uo] at hx
  cases hi:D[i]? with
  |none=>rw [hi] at hx;cases hx
  |some o=>
   rw [hi] at hx
   simp only [Option.map_some,Option.join_some] at hx
   cases hy:st.h.get o with
   |none=>rw [hy] at hx;cases hx
   |some y=>rw [hy] at hx;exact ⟨o,y,rfl,hy,hx⟩
 have hok0:Ok (g.dp D) (bj (jd st.h (fun o=>idx D o 0) D)).h w:=by
  refine ⟨hok.size,fun i x hx=>?_,fun i j x y b base base' hij hx hy hb hb'=>?_,hok.K⟩
  ·obtain ⟨o,y,h1,h2,h3⟩:=ew i x hx
   refine (hok.oi o y h2).imp (fun q=>⟨by rw [hinj i o h1];exact q.1,by obtain ⟨s0,e0,rfl⟩:=q.2;simp only [bq.dp,AV.dp.go,Option.some.injEq] at h3;exact ⟨s0,e0,h3.symm⟩⟩) ?_
   rintro ⟨b,base,q1,q2,q3⟩
   exact ⟨b,base,by rw [hinj i o h1];exact q1,q2,q3.dp hτ h3⟩
  ·obtain ⟨o,y1,h1,h2,_⟩:=ew i x hx
   obtain ⟨o',y2,h1',h2',_⟩:=ew j y hy
   rw [hinj i o h1] at hb
   rw [hinj j o' h1'] at hb'
   have hne:o≠o':=by
    intro e
    subst e
    obtain ⟨hi,ei⟩:=List.getElem?_eq_some_iff.1 h1
    obtain ⟨hj,ej⟩:=List.getElem?_eq_some_iff.1 h1'
    exact hij ((List.getElem_inj hD).1 (ei.trans ej.symm))
   exact hok.sep o o' _ _ b base base' hne h2 h2' hb hb'
 have hfr0:∀ o,(bj (jd st.h (fun o=>idx D o 0) D)).nx≤o→(g.dp D).inj o=none:=fun o ho=>by
  rw [hnx] at ho;simp [Gh.dp,List.getElem?_eq_none ho]
 have hrel0:cf (g.dp D) w (AV.dp.go (fun o=>idx D o 0) args) vs:=by
  rw [k5]
  refine ⟨by rw [List.length_map];exact hrel.1,fun i a v ha hv=>?_⟩
  rw [List.getElem?_map] at ha
  cases hx:args[i]? with
  |none=>rw [hx] at ha;cases ha
  |some a0=>rw [hx] at ha;cases ha;exact (hrel.2 i a0 v hx hv).dp hτ
 rcases h (g.dp D) w vs hok0 hfr0 hrel0 with ⟨v,w',g',r,st',q1,q2,q3,q4,q5,q6⟩|⟨q1,q2⟩
 ·rw [hnx] at q4
  obtain ⟨g'',p1,p2,p3,p4⟩:=agd hD hlt hp hok hfr q2.1.1 q2.1.2 q4 q5 q6
  exact .inl ⟨v,w',g'',_,_,q1,q2.2,p1,p2,p3,p4⟩
 ·refine .inr ⟨q1,q2.mono ?_⟩
  rintro e w' ⟨v,g',r,st',rfl,q2,q3,q4,q5,q6⟩
  rw [hnx] at q4
  obtain ⟨g'',p1,p2,p3,p4⟩:=agd hD hlt hp hok hfr q2.1.1 q2.1.2 q4 q5 q6
  exact ⟨v,g'',_,_,rfl,q2.2,p1,p2,p3,p4⟩
theorem Jf {P:Program} [KP P] {f:Nat} {args:List AV} {st:St} {R:AV→St→Prop} (D:List Nat) {args0:List AV} {objs0:List (Option bq)} {r0:AV} {objs1:List (Option bq)}
 (hc:ib P f args0 (bj objs0) (fun r st'=>r=r0∧st'=bj objs1)) (hD:D.Nodup)
 (hlt:(D.all fun o=>Nat.blt o st.nx)=true) (hp:(D.all fun o=>(st.h.get o).isSome)=true) (hl:D.length≤dk)
 (ha:AV.dp.go (fun o=>idx D o 0) args=args0) (hs:jd st.h (fun o=>idx D o 0) D=objs0) (hb:D.length≤objs1.length∧st.nx+objs1.length≤dk)
 (h:R (r0.dp (Kp D st.nx objs1.length)) (s9 D st (bj objs1))):ib P f args st R:=by
 refine afx D hD (fun o ho=>Nat.le_of_ble_eq_true (List.all_eq_true.1 hlt o ho)) (fun o ho=>List.all_eq_true.1 hp o ho) hl ?_
 rw [ha,hs]
 intro g w vs hok hfr hrel
 rcases hc g w vs hok hfr hrel with ⟨v,w',g',r,st',q1,⟨rfl,rfl⟩,q3⟩|⟨q1,q2⟩
 ·exact .inl ⟨v,w',g',_,_,q1,⟨hb,h⟩,q3⟩
 ·refine .inr ⟨q1,q2.mono ?_⟩
  rintro e w' ⟨v,g',r,st',e1,⟨rfl,rfl⟩,q3⟩
  exact ⟨v,g',_,_,e1,⟨hb,h⟩,q3⟩
end
end Go.Vm
namespace Go.Vm
variable [TK]
noncomputable section
section code
variable (P : Program) (T : ff) (a9 : Nat) (Q : QL) (L : SL) (st : St)
theorem akp:wl P T a9 .skip Q L st=Q .normal L st:=id rfl
theorem Zs (i ops d):wl P T a9 (.region i ops d) Q L st=Ev P T ops d (Q .normal) L st:=id rfl
theorem aqh (a b):wl P T a9 (.seq a b) Q L st=wl P T a9 a (Hf (wl P T a9 b) Q) L st:=id rfl
theorem aj8 (c a b):wl P T a9 (.cond c a b) Q L st=vu (ee L c) (wl P T a9 a Q) (wl P T a9 b Q) L st:=id rfl
theorem aca (i b):wl P T a9 (.block i b) Q L st=wl P T a9 b (J1 i Q) L st:=id rfl
theorem ajw (b):wl P T a9 (.loop b) Q L st=su a9 (wl P T a9 b) Q L st:=id rfl
theorem ak6 (i):wl P T a9 (.exit i) Q L st=Q (.exit i) L st:=id rfl
theorem asd:wl P T a9 .ret Q L st=Q .ret L st:=id rfl
theorem ap9 (W):Hf W Q .normal L st=W Q L st:=id rfl
theorem aqq (W i):Hf W Q (.exit i) L st=Q (.exit i) L st:=id rfl
theorem ar7 (W):Hf W Q .ret L st=Q .ret L st:=id rfl
theorem ao8 (i):J1 i Q .normal L st=Q .normal L st:=id rfl
theorem aqr (i):J1 i Q .ret L st=Q .ret L st:=id rfl
theorem ar4 (i j):J1 i Q (.exit j) L st=bif Nat.beq j i then Q .normal L st else Q (.exit j) L st:=id rfl
theorem aj3 (keep X):wy a9 keep X Q .normal L st=X (dj a9 keep L st) (fp a9 keep L st):=id rfl
theorem ajm (keep X i):wy a9 keep X Q (.exit i) L st=Q (.exit i) L st:=id rfl
theorem akn (keep X):wy a9 keep X Q .ret L st=Q .ret L st:=id rfl
theorem ap8 (rs R):da P rs R .normal L st=Hb (th P L st rs) R st:=id rfl
theorem aqa (rs R):da P rs R .ret L st=Hb (th P L st rs) R st:=id rfl
theorem Zi (ops K):Ev P T ops false K L st=opsL P T ops ops.toList K L st:=id rfl
theorem acb (ops K):opsL P T ops [] K L st=K L st:=id rfl
theorem Z8 (ops o r K):opsL P T ops (o::r) K L st=x9 ops o.guard (Xf P T o (opsL P T ops r K)) (Hy o.dst (opsL P T ops r K)) L st:=id rfl
theorem aga (ops K recs):Fi P T ops [] K recs L st=(dz (Region.before ops) 0 recs=true∧K L st):=id rfl
theorem Zb (ops o r K recs):Fi P T ops (o::r) K recs L st=x9 ops o.guard (gp P T o recs (Fi P T ops r K)) (Hy o.dst (Fi P T ops r K (recs++[⟨[],[]⟩]))) L st:=id rfl
theorem Uu (ops X Y):x9 ops none X Y L st=X L st:=id rfl
theorem Te (ops j c X Y):x9 ops (some (j,c)) X Y L st=Fm (lk L (vp ops j)) c X Y L st:=id rfl
theorem afp (b:Bool) (X Y:SL→St→Prop):Fm (.sc (.bool b)) true X Y L st=vu (.sc (.bool b)) X Y L st:=by cases b<;>simp [Fm,Ae,Cv,Gl,vu,qq,AV.bool,AV.exact,pa]
theorem adh (b:Bool) (X Y:SL→St→Prop):Fm (.sc (.bool b)) false X Y L st=vu (.sc (.bool b)) Y X L st:=by cases b<;>simp [Fm,Ae,Cv,Gl,vu,qq,AV.bool,AV.exact,pa]
theorem afd (c:Bool) (X Y:SL→St→Prop):Fm (.sc undef) c X Y L st=Y L st:=by simp [Fm,Ae,Cv,Gl,AV.exact,undef]
theorem akt (o K):Xf P T o K L st=Im (i5 P T o (ee L) st) P o L st K:=id rfl
theorem acw (v o K st'):Im (some (v,st')) P o L st K=K (oq o.dst v L) st':=id rfl
theorem afc (K d r):dv K d L r st=K (oq d r L) st:=id rfl
theorem adm (ro F o recs K v gu):E9 ro F o recs K L st (some (v,gu))=((G0 st.nx F=true∧Nat.ble gu.nx dk=true)∧same (re st.h F) gu.h (bif ro then F else []) ∧
 K (recs++[⟨F,(bif ro then [] else F)++eg st.nx (gu.nx - st.nx)⟩]) (oq o.dst v L) { h:=ux gu.h (F++eg st.nx (gu.nx - st.nx)) st.h,nx:=gu.nx,rl:=[],wl:=[] }):=id rfl
theorem Zp (d K):Hy d K L st=K (oq d (.sc undef) L) st:=id rfl
theorem di (b X Y):vu (.sc (.bool b)) X Y L st=((b=true→X L st)∧(b=false→Y L st)):=id rfl
theorem H0 (X Y):vu (.sc (.bool true)) X Y L st=X L st:=by simp [vu,qq,AV.bool,AV.exact,pa]
theorem Ij (X Y):vu (.sc (.bool false)) X Y L st=Y L st:=by simp [vu,qq,AV.bool,AV.exact,pa]
theorem Yy (v d K):Iz (some (v,st)) d L K=K (oq d v L) st:=id rfl
theorem X7 (d v):oq (some d) v L=(d,v)::L:=id rfl
theorem Z3 (v):oq none v L=L:=id rfl
theorem apb (l R):Hb (some l) R st=R (pack l) st:=id rfl
theorem aox (d v):lk ((d,v)::L) d=v:=by simp [lk]
theorem ajp (d t v) (h:(d == t)=false):lk ((d,v)::L) t=lk L t:=by
 have e:d≠t:=by simpa using h
 rw [u9,if_neg e]
theorem av2 (t):ee L (.tmp t)=lk L t:=id rfl
theorem awy (v):ee L (.const v) = .sc v:=id rfl
theorem aww (f):ee L (.func f) = .sc (.func (.func f) #[] #[]):=id rfl
theorem aru:th P L st []=some []:=id rfl
theorem ass (t r):th P L st (.tmp t::r)=(th P L st r).map (lk L t :: ·):=id rfl
theorem aoz (a t r):th P L st (.cell a t::r)=match r9 P t (lk L a) st with|some (v,_)=>(th P L st r).map (v :: ·)|none=>none:=id rfl
end code
section ops
variable (P : Program) (T : ff) (ρ : Operand → AV) (d : Option Tmp) (ty : TypeId) (pos : String) (af : Array Edge) (gd : Option (Nat × Bool))
theorem J4 (x):i5 P T ⟨d,.move x,ty,pos,af,gd⟩ ρ=mono (M.pure (ρ x)):=id rfl
theorem Fz (x):i5 P T ⟨d,.assign x,ty,pos,af,gd⟩ ρ=mono (M.pure (ρ x)):=id rfl
theorem Je (t a):i5 P T ⟨d,.load t a,ty,pos,af,gd⟩ ρ=mono (r9 P t (ρ a)):=id rfl
theorem zu (s x f):i5 P T ⟨d,.fieldAddr s x f,ty,pos,af,gd⟩ ρ=mono (sn P s (ρ x) f):=id rfl
theorem Qe (op t x y u):i5 P T ⟨d,.binOp op t x y u,ty,pos,af,gd⟩ ρ=mono (J9 P ρ ⟨d,.binOp op t x y u,ty,pos,af,gd⟩ op t x y):=id rfl
theorem Kh (c a b):i5 P T ⟨d,.pick c a b,ty,pos,af,gd⟩ ρ=mono (Fs (ρ c) (ρ a) (ρ b)):=id rfl
theorem Hg (t a x):i5 P T ⟨d,.store t a x,ty,pos,af,gd⟩ ρ=mono (w9 P t (ρ a) (ρ x)):=id rfl
theorem Dw (t i):i5 P T ⟨d,.extract t i,ty,pos,af,gd⟩ ρ=mono (v9 (ρ t) i):=id rfl
theorem As (t x i):i5 P T ⟨d,.indexAddr t x i,ty,pos,af,gd⟩ ρ=mono (so P t (ρ x) (ρ i)):=id rfl
theorem Cd (x):i5 P T ⟨d,.nilCheck x,ty,pos,af,gd⟩ ρ=mono (qh (ρ x)):=id rfl
theorem Qa (t):i5 P T ⟨d,.alloc t,ty,pos,af,gd⟩ ρ=mono (Cj P t):=id rfl
theorem Ym (t x):i5 P T ⟨d,.box t x,ty,pos,af,gd⟩ ρ=mono (I8 t (ρ x)):=id rfl
theorem Hl (t ps):i5 P T ⟨d,.build t ps,ty,pos,af,gd⟩ ρ=mono (yz P t (ps.toList.map fun p=>(p.1,ρ p.2))):=id rfl
theorem yr (t n ps):i5 P T ⟨d,.buildSlice t n ps,ty,pos,af,gd⟩ ρ=mono (oy P t n (ps.toList.map fun p=>(p.1,ρ p.2))):=id rfl
theorem G7 (t l c):i5 P T ⟨d,.makeSlice t l c,ty,pos,af,gd⟩ ρ=mono (ve P t (ρ l) (ρ c)):=id rfl
theorem Hv (f a b):i5 P T ⟨d,.makeFunc f a b,ty,pos,af,gd⟩ ρ=mono (M.pure (.fn f (a.toList.map ρ) (b.toList.map ρ))):=id rfl
theorem D0 (s u x):i5 P T ⟨d,.convert s u x,ty,pos,af,gd⟩ ρ=mono (wa P ρ ⟨d,.convert s u x,ty,pos,af,gd⟩ s u (ρ x)):=id rfl
theorem Qu (s x f):i5 P T ⟨d,.field s x f,ty,pos,af,gd⟩ ρ=mono (Ew P s (ρ x) f):=id rfl
theorem Re (t x i):i5 P T ⟨d,.index t x i,ty,pos,af,gd⟩ ρ=mono (Cb P ρ ⟨d,.index t x i,ty,pos,af,gd⟩ t x i):=id rfl
theorem Qy (t x l h m):i5 P T ⟨d,.slice t x l h m,ty,pos,af,gd⟩ ρ=mono (Bt P ρ ⟨d,.slice t x l h m,ty,pos,af,gd⟩ t x l h m):=id rfl
theorem Ni (x ts):i5 P T ⟨d,.call { callee:=.builtin .len,args:=#[x],argTypes:=ts },ty,pos,af,gd⟩ ρ=mono (vn ((ts[0]?).bind P.underlying) (ρ x)):=id rfl
theorem Fv (s x ts):i5 P T ⟨d,.call { callee:=.builtin .append,args:=#[s,x],argTypes:=ts },ty,pos,af,gd⟩ ρ=mono (qw P ts[0]? ((ts[1]?).bind P.underlying) (ρ s) (ρ x)):=id rfl
theorem Uh (f args ts):i5 P T ⟨d,.call { callee:=.value f,args,argTypes:=ts },ty,pos,af,gd⟩ ρ=wv T (ρ f) (args.toList.map ρ):=id rfl
end ops
section monad
variable {α β : Type} (s : St)
theorem avu (m:M α):mono m s=match m s with|none=>none|some (a,s')=>bif decide (s.nx≤s'.nx) then some (a,s') else none:=by
 have:∀ a b,Nat.ble a b=decide (a≤b):=fun a b=>by rw [Bool.eq_iff_iff];simp
 unfold mono
 cases m s with
 |none=>rfl
 |some p=>simp only [this]
theorem awh (m:M α) (f : α→M β):(m.bind f) s=match m s with|none=>none|some (a,s')=>f a s':=id rfl
theorem av4 (a : α):(M.pure a) s=some (a,s):=id rfl
theorem awo:(M.fail:M α) s=none:=id rfl
theorem avv (a : α):(M.of (some a)) s=some (a,s):=id rfl
theorem awj (b:Bool) (m m':M α):(bif b then m else m') s=bif b then m s else m' s:=by cases b<;>rfl
theorem awz (o:Nat):ew o s=match s.h.get o with|some x=>some (x,{ s with rl:=o::s.rl })|none=>none:=id rfl
theorem aws (x:bq):j3 x s=bif decide (s.nx≤dk) then some (s.nx,{ s with h:=s.h.set depth s.nx (some x),nx:=s.nx+1,wl:=s.nx::s.wl }) else none:=by
 have:Nat.ble s.nx dk=decide (s.nx≤dk):=by rw [Bool.eq_iff_iff];simp
 unfold j3;rw [this]
theorem av0 (o:Nat) (x:bq):qf o x s=match s.h.get o with|some _=>bif decide (o≤dk) then some ((),{ s with h:=s.h.set depth o (some x),wl:=o::s.wl }) else none|none=>none:=by
 have:Nat.ble o dk=decide (o≤dk):=by rw [Bool.eq_iff_iff];simp
 unfold qf;rw [this];rfl
theorem avw (o:Nat):Kg o s=match s.h.get o with|some _=>bif decide (o≤dk) then some ((),{ s with h:=s.h.set depth o none,wl:=o::s.wl }) else none|none=>none:=by
 have:Nat.ble o dk=decide (o≤dk):=by rw [Bool.eq_iff_iff];simp
 unfold Kg;rw [this];rfl
theorem ae1 (t:Tr bq) (n m:Nat) (x:Option bq) (h:n≤16777214):(Tr.set depth t n x).get m=if m=n then x else t.get m:=jo t n m x h
theorem ad1 (n:Nat):(Tr.nil:Tr bq).get n=none:=id rfl
theorem atm (a b:Nat):Nat.ble a b=decide (a≤b):=by rw [Bool.eq_iff_iff];simp
theorem aAd (a b:Nat):Nat.blt a b=decide (a<b):=by rw [Bool.eq_iff_iff];simp
theorem ang (a b:Nat):Nat.beq a b=decide (a=b):=by rw [Bool.eq_iff_iff];simp
end monad
theorem P3 {a:AV} {x y x' y':Prop} (h1:x→x') (h2:y→y') (h:qq a x y):qq a x' y':=by
 unfold qq at *
 split at h
 ·exact ⟨fun e=>h1 (h.1 e),fun e=>h2 (h.2 e)⟩
 ·exact h.elim
theorem Ao {ops L gd} {x y x' y':Prop} (h1:x→x') (h2:y→y') (h:guarded ops L gd x y):guarded ops L gd x' y':=by
 unfold guarded at *
 split at h
 ·exact h1 h
 ·unfold Ae at *
  split at h
  ·exact ⟨fun e=>h1 (h.1 e),fun e=>h2 (h.2 e)⟩
  ·exact h.elim
theorem ib.mono {P f args st} {R R':AV→St→Prop} (h:∀ r st,R r st→R' r st) (hc:ib P f args st R):ib P f args st R':=by
 intro g w vs h1 h2 h3
 rcases hc g w vs h1 h2 h3 with ⟨v,w',g',r,st',q1,q2,q3⟩|⟨q1,q2⟩
 ·exact .inl ⟨v,w',g',r,st',q1,h _ _ q2,q3⟩
 ·refine .inr ⟨q1,q2.mono ?_⟩
  rintro e w' ⟨v,g',r,st',p1,p2,p3⟩
  exact ⟨v,g',r,st',p1,h _ _ p2,p3⟩
theorem anp {P o L st} {K K':SL→St→Prop} (h:∀ L st,K L st→K' L st) (hc:Ov P o L st K):Ov P o L st K':=by
 unfold Ov aoa at *
 split at hc
 ·split at hc
  ·exact ib.mono (fun r st hk=>h _ _ hk) hc
  ·exact hc.elim
 ·exact hc.elim
theorem Gj {P T ops} {K K':SL→St→Prop} (h:∀ L st,K L st→K' L st):∀ (l:List Oper) (L:SL) (st:St),opsL P T ops l K L st→opsL P T ops l K' L st
 | [],L,st,hh=>h L st hh
 |o::r,L,st,hh=>Ao (fun q=>by
  unfold Xf Im at *
  split at q
  ·exact Gj h r _ _ q
  ·exact anp (fun L st=>Gj h r L st) q) (fun q=>Gj h r _ _ q) hh
theorem Gq {P T ops} {K K':SL→St→Prop} (h:∀ L st,K L st→K' L st):∀ (l:List Oper) (recs:List Rec) (L:SL) (st:St),Fi P T ops l K recs L st→Fi P T ops l K' recs L st
 | [],recs,L,st,hh=>⟨hh.1,h L st hh.2⟩
 |o::r,recs,L,st,hh=>Ao (fun q=>by
  unfold gp lj E9 at *
  split at q
  ·exact ⟨q.1,q.2.1,Gq h r _ _ _ q.2.2⟩
  ·exact q.elim) (fun q=>Gq h r _ _ _ q) hh
theorem F7 {P T ops} {K K':SL→St→Prop} (h:∀ L st,K L st→K' L st):∀ (l:List Oper) (recs:List Rec) (L:SL) (st:St),N7 P T ops l K recs L st→N7 P T ops l K' recs L st
 | [],recs,L,st,hh=>⟨hh.1,h L st hh.2⟩
 |o::r,recs,L,st,hh=>Ao (fun q=>Um (fun _ _ _ k=>F7 h r _ _ _ k) q) (fun q=>F7 h r _ _ _ q) hh
theorem yu {P T l a9 ops} {R:Iy} (hR:∀ p args (X X':Ex→St→Prop) st,(∀ e st,X e st→X' e st)→R p args X st→R p args X' st) {K K':Option Ex→SL→St→Prop} (h:∀ pe L st,K pe L st→K' pe L st) :
 ∀ (ls:List Oper) (pe:Option Ex) (L:SL) (st:St),F0 P T l R a9 ops ls K pe L st→F0 P T l R a9 ops ls K' pe L st
 | [],pe,L,st,hh=>h pe L st hh
 |o::r,pe,L,st,hh=>Ao (fun q=>by
  unfold opI Xb at *
  split at q
  ·unfold Iz at *
   split at q
   ·exact yu hR h r _ _ _ q
   ·exact q.elim
  ·obtain ⟨h0,keep,q⟩:=q
   refine ⟨h0,keep,hR _ _ _ _ _ (fun e st q=>?_) q⟩
   cases e with
   |normal=>exact yu hR h r _ _ _ q
   |ret=>exact yu hR h r _ _ _ q
   |exit id=>exact yu hR h r _ _ _ q) (fun q=>yu hR h r _ _ _ q) hh
theorem Sg {P:Program} {T:ff} {l a9:Nat} {R:Iy} (hR:∀ p args (X X':Ex→St→Prop) st,(∀ e st,X e st→X' e st)→R p args X st→R p args X' st) :
 ∀ (c:Code) (Q Q':QI),(∀ e pe L st,Q e pe L st→Q' e pe L st)→∀ pe L st,px P T l R a9 c Q pe L st→px P T l R a9 c Q' pe L st:=by
 intro c
 induction c with
 |skip=>intro Q Q' h pe L st hh;exact h _ _ _ _ hh
 |label l=>intro Q Q' h pe L st hh;exact h _ _ _ _ hh
 |exit i=>intro Q Q' h pe L st hh;exact h _ _ _ _ hh
 |ret=>intro Q Q' h pe L st hh;exact h _ _ _ _ hh
 |region i ops draw=>
  intro Q Q' h pe L st hh
  cases draw with
  |false=>exact yu hR (h _) _ _ _ _ hh
  |true=>exact ⟨hh.1,hh.2.imp (Gq (h _ _) _ _ _ _) (F7 (h _ _) _ _ _ _)⟩
 |seq a b iha ihb=>
  intro Q Q' h pe L st hh
  refine iha _ _ ?_ pe L st hh
  intro e pe L st q
  cases e with
  |normal=>exact ihb _ _ h pe L st q
  |_=>exact h _ _ _ _ q
 |cond c a b iha ihb=>intro Q Q' h pe L st hh;exact P3 (iha _ _ h pe L st) (ihb _ _ h pe L st) hh
 |block i b ih=>
  intro Q Q' h pe L st hh
  refine ih _ _ ?_ pe L st hh
  intro e pe L st q
  cases e with
  |exit j=>
   simp only [Rk] at *
   cases hb:Nat.beq j i with
   |true=>rw [hb] at q;exact h _ _ _ _ q
   |false=>rw [hb] at q;exact h _ _ _ _ q
  |_=>exact h _ _ _ _ q
 |loop b ih=>
  intro Q Q' h pe L st hh
  obtain ⟨h0,keep,hh⟩:=hh
  refine ⟨h0,keep,fun X hX=>hh X fun vs os q=>hX vs os (ih _ _ ?_ _ _ _ q)⟩
  intro e pe L st q
  cases e with
  |normal=>exact q
  |_=>exact h _ _ _ _ q
 |scope b ih=>intro _ _ _ _ _ _ hh;exact hh.elim
 |rangeFunc=>intro _ _ _ _ _ _ hh;exact hh.elim
 |goto=>intro _ _ _ _ _ _ hh;exact hh.elim
 |refuse=>intro _ _ _ _ _ _ hh;exact hh.elim
theorem auh {P:Program} {T:ff}:∀ (c:Code) (a9:Nat) (Q Q':QL),(∀ e L st,Q e L st→Q' e L st)→∀ L st,wl P T a9 c Q L st→wl P T a9 c Q' L st:=by
 intro c
 induction c with
 |skip=>intro a9 Q Q' h L st hh;exact h _ _ _ hh
 |label l=>intro a9 Q Q' h L st hh;exact h _ _ _ hh
 |exit i=>intro a9 Q Q' h L st hh;exact h _ _ _ hh
 |ret=>intro a9 Q Q' h L st hh;exact h _ _ _ hh
 |region i ops draw=>
  intro a9 Q Q' h L st hh
  cases draw with
  |false=>exact Gj (h _) _ _ _ hh
  |true=>exact ⟨hh.1,hh.2.imp (Gq (h _) _ _ _ _) (F7 (h _) _ _ _ _)⟩
 |seq a b iha ihb=>
  intro a9 Q Q' h L st hh
  refine iha _ _ _ ?_ L st hh
  intro e L st q
  cases e with
  |normal=>exact ihb _ _ _ h L st q
  |_=>exact h _ _ _ q
 |cond c a b iha ihb=>intro a9 Q Q' h L st hh;exact P3 (iha _ _ _ h L st) (ihb _ _ _ h L st) hh
 |block i b ih=>
  intro a9 Q Q' h L st hh
  refine ih _ _ _ ?_ L st hh
  intro e L st q
  cases e with
  |exit j=>
   simp only [J1] at *
   cases hb:Nat.beq j i with
   |true=>rw [hb] at q;exact h _ _ _ q
   |false=>rw [hb] at q;exact h _ _ _ q
  |_=>exact h _ _ _ q
 |loop b ih=>
  intro a9 Q Q' h L st hh
  obtain ⟨keep,hh⟩:=hh
  refine ⟨keep,fun X hX=>hh X fun vs os q=>hX vs os (ih _ _ _ ?_ _ _ q)⟩
  intro e L st q
  cases e with
  |normal=>exact q
  |_=>exact h _ _ _ q
 |scope b ih=>intro a9 Q Q' h L st hh;exact ih _ _ _ h L st hh
 |rangeFunc f ps a b iha ihb=>
  intro a9 Q Q' h L st hh
  obtain ⟨keep,h0,hh⟩:=hh
  refine ⟨keep,h0,?_⟩
  unfold N4 at *
  split at hh
  ·unfold Ml at *
   split at hh
   ·refine ⟨hh.1,fun l=>Sg (fun p args X X' st hX hr=>⟨hr.1,hr.2.1,iha _ _ _ (fun e L st q=>(by
     cases e with
     |normal=>exact ihb _ _ _ (fun e _ st q=>hX e st q) _ _ q
     |_=>exact q.elim)) _ _ hr.2.2⟩) _ _ _ (fun e pe L st q=>(by
     cases e with
     |exit id=>exact q.elim
     |normal=>
      cases pe with
      |none=>exact h _ _ _ q
      |some e=>exact h _ _ _ q
     |ret=>
      cases pe with
      |none=>exact h _ _ _ q
      |some e=>exact h _ _ _ q)) _ _ _ (hh.2 l)⟩
   ·exact hh.elim
  ·exact hh.elim
 |goto=>intro _ _ _ _ _ _ hh;exact hh.elim
 |refuse=>intro _ _ _ _ _ _ hh;exact hh.elim
theorem Ck {P:Program} {T:ff} {a9:Nat} (c:Code) (Q Q':QL) (h:∀ e L st,Q e L st→Q' e L st) (L:SL) (st:St) (hh:wl P T a9 c Q L st):wl P T a9 c Q' L st:=auh c a9 Q Q' h L st hh
theorem c7 {α:Type} {P:Program} {T:ff} {a9:Nat} {b:Code} {Q:QL} {L:SL} {st:St} (keep:List Nat) (V : α→List AV) (O : α→List (Option bq)) (I : α→Prop) (μ : α→Nat) (x : α) (hx:I x)
 (hv:dj a9 keep L st=V x) (ho:fp a9 keep L st=O x)
 (step:∀ x,I x→wl P T a9 b (wy a9 keep (fun vs os=>∃ y,I y ∧ μ y < μ x∧vs=V y∧os=O y) Q) (i4 keep (V x)) (bj (O x))):su a9 (wl P T a9 b) Q L st:=
 su.of keep V O I μ x hx hv ho (fun _ _ h=>Ck b _ _ h) step
section cods
theorem om {α:Type} (C:dm α) (l:Bool) (xs:List α):(cq C).val l xs = .vl l C.sz (xs.map (C.val l)):=id rfl
theorem Ez {α:Type} (C:dm α):(cq C).sz=1:=id rfl
theorem Yl:aj.sz=1:=id rfl
theorem adi:bu.sz=1:=id rfl
theorem Lm:cg.sz=1:=id rfl
theorem Df:cw.sz=1:=id rfl
theorem Cz (k:IntKind):(bh k).sz=1:=id rfl
theorem I7:bo.sz=1:=id rfl
theorem C9 (l:Bool) (x:UInt8):bu.val l x = .sc (.int .u8 x.toNat):=id rfl
theorem V0 (l:Bool) (x:UInt16):cg.val l x = .sc (.int .u16 x.toNat):=id rfl
theorem U0 (l:Bool) (x:UInt32):cw.val l x = .sc (.int .u32 x.toNat):=id rfl
theorem Vw (k:IntKind) (l:Bool) (x:Int):(bh k).val l x = .sc (.int k x):=id rfl
theorem Qv (l:Bool) (x:Bool):bo.val l x = .sc (.bool x):=id rfl
theorem akh (o i:Nat):idx [] o i=none:=id rfl
theorem af2 {α:Type} (C:dm α) (τ:Nat→Option Nat) (l:Bool):AV.dp τ ∘ C.val l=C.val l:=by funext x;exact O5 C τ l x
theorem Ti (l:Bool) (x:ByteArray):aj.val l x = .sc (.string x):=id rfl
theorem Bw {α:Type} (C:dm α) (fr:Bool) (h:Tr bq) (a:AV) (h1:a.known=true) (h2:a.isAgg=C.agg):C.jf fr h a=C.dec fr h a.cells:=by
 unfold dm.jf;rw [h1,h2];simp
theorem Yu (fr:Bool) (h:Tr bq) (n:UInt32):cw.jf fr h (.sc (.int .u32 n.toNat))=some n:=cw.Od fr h true n (fun _=>rfl)
theorem aad (fr:Bool) (h:Tr bq) (n:UInt16):cg.jf fr h (.sc (.int .u16 n.toNat))=some n:=cg.Od fr h true n (fun _=>rfl)
theorem S1 (k:IntKind) (fr:Bool) (h:Tr bq) (n:Int):(bh k).jf fr h (.sc (.int k n))=some n:=(bh k).Od fr h true n (fun _=>rfl)
theorem P6 (fr:Bool) (h:Tr bq) (b:Bool):bo.jf fr h (.sc (.bool b))=some b:=bo.Od fr h true b (fun _=>rfl)
theorem Tj (fr:Bool) (h:Tr bq) (s:ByteArray):aj.jf fr h (.sc (.string s))=some s:=aj.Od fr h true s (fun _=>rfl)
theorem Bd {α:Type} (C:dm α) (fr:Bool) (h:Tr bq) (a:AV) (h1:a.known=true) (h2:a.isAgg=false) (h3:a.cells=[a]):(cq C).jf fr h a=jj C fr h a:=by
 rw [Bw _ _ _ _ h1 h2,h3];rfl
theorem axc {α:Type} (C:dm α) (fr:Bool) (h:Tr bq) (l:Bool) (xs:List α) (hl:(l || !fr)=true):(cq C).jf fr h (.vl l C.sz (xs.map (C.val l)))=some xs:=by
 refine (cq C).Od fr h l xs ?_
 cases fr<;>simp_all
theorem adq {α:Type} (C:dm α) (fr:Bool) (h:Tr bq):jj C fr h (.sc (.slice none 0 0))=some []:=id rfl
theorem u5 {α:Type} (C:dm α) (fr:Bool) (h:Tr bq) (l:Bool) (xs:List α) (n:Nat) (hn:n=C.sz) (hl:(l || !fr)=true):jj C fr h (.vl l n (xs.map (C.val l)))=some xs:=by
 subst hn
 have:(cq C).jf fr h (.vl l C.sz (xs.map (C.val l)))=some xs:=axc C fr h l xs hl
 rwa [Bd C fr h _ rfl rfl rfl] at this
theorem ajl {α:Type} (C:dm α) (fr:Bool) (h:Tr bq) (o off len n:Nat):jj C fr h (.sl o off len n)=bif decide (n=C.sz) then (h.get o).bind (kj C fr h off len) else none:=by
 show (bif Nat.beq n C.sz then _ else _)=_
 rw [ang]
theorem Ve {α:Type} (C:dm α) (fr:Bool) (h:Tr bq) (off len:Nat) (cells:List AV) (k s:Nat) (e:TypeId) :
 kj C fr h off len (.row cells k s e)=bif decide (off+len * C.sz≤cells.length) && x5 fr C.sz C.kd s off cells.length len e then xg C fr h len ((cells.drop off).take (len * C.sz)) else none:=by
 show (bif Nat.ble _ _ && _ then _ else _)=_
 rw [atm]
theorem ale (sz kd st off len n et):x5 false sz kd st off len n et=true:=id rfl
theorem asb {α:Type} (C:dm α) (fr:Bool) (h:Tr bq) (n:Nat) (l:List AV):xg C fr h (n+1) l=match C.dec fr h (l.take C.sz),xg C fr h n (l.drop C.sz) with|some x,some xs=>some (x::xs)|_,_=>none:=id rfl
theorem ar8 {α:Type} (C:dm α) (fr:Bool) (h:Tr bq) (l:List AV):xg C fr h 0 l=some []:=id rfl
theorem T9 (fr:Bool) (h:Tr bq) (n:Int) (h0 : 0≤n) (h1:n<256):bu.dec fr h [.sc (.int .u8 n)]=some (UInt8.ofNat n.toNat):=by
 show u8V (.int .u8 n)=_;simp [u8V,h0,h1]
theorem azo {α β:Type} (A:dm α) (B:dm β) (l:Bool) (p : α × β):(r2 A B).E l p = .fo [A.val l p.1,B.val l p.2]:=id rfl
theorem aAv {α:Type} (A:dm α) (l:Bool) (x : α):(r1 A).E l x=A.val l x:=id rfl
theorem aet (T:ff) (g:Nat) (a b:Array Value) (args:List AV):wv T (.sc (.func (.func g) a b)) args=vq T g (a.toList.map .sc++args++b.toList.map .sc):=id rfl
theorem aeb (T:ff) (g:Nat) (a b:List AV) (args:List AV):wv T (.fn (.func g) a b) args=vq T g (a++args++b):=id rfl
theorem aab (f:Nat) (b:Bool) (m:List AV→M AV) (T:ff) (args:List AV):vq ((f,b,m)::T) f args=mono (m args):=by simp [vq,ff.find]
theorem Vk (f g:Nat) (b:Bool) (m:List AV→M AV) (T:ff) (args:List AV) (h:(f == g)=false):vq ((f,b,m)::T) g args=vq T g args:=by
 have:f≠g:=by simpa using h
 simp [vq,ff.find,qa this]
theorem aec {α:Type} (A:AC α) (F : α→Option AV) (args:List AV) (st:St):c8 A F args st=match A.get .nil args with|some x=>(F x).map fun r=>(r,st)|none=>match A.get st.h args with|some x=>(match F x with|some r=>bif r.fresh then some (r,st) else some (r,{ st with h:=.nil })|none=>none)|none=>none:=id rfl
theorem azx {α β:Type} (A:dm α) (B:dm β) (fr:Bool) (h:Tr bq) (a b:AV):(r2 A B).get fr h (.fo [a,b])=match A.jf fr h a,B.jf fr h b with|some x,some y=>some (x,y)|_,_=>none:=id rfl
theorem aAa (h:Tr bq):a0.get h []=some ():=id rfl
theorem aAx {α β:Type} (C:dm α) (R:AC β) (h:Tr bq) (a:AV) (r:List AV):(aC C R).get h (a::r)=match C.jf false h a,R.get h r with|some x,some y=>some (x,y)|_,_=>none:=id rfl
theorem aA1 {α:Type} (A:dm α) (fr:Bool) (h:Tr bq) (a:AV):(r1 A).get fr h a=A.jf fr h a:=id rfl
end cods
section
variable (P : Program)
theorem Yf (pl:Nat→Option (Nat × Nat)) (cells:List AV):vw pl cells []=some cells:=id rfl
theorem Ue (pl:Nat→Option (Nat × Nat)) (cells:List AV) (i:Nat) (v:AV) (rest:List (Nat × AV)):vw pl cells ((i,v)::rest)=match pl i with
 |none=>none
 |some (off,size)=>bif !v.known || !(Nat.beq v.cells.length size) || !(Nat.ble (off+size) cells.length) then none else vw pl (cells.take off++v.cells++cells.drop (off+size)) rest:=id rfl
def zv (t:TypeId):Option (List AV × List (Nat × Nat)):=
 match gi P t,P.underlying t with
 |some z,some (.struct fields)=>(Hw P fields).map fun pl=>(z.cells.toList.map .sc,pl)
 |_,_=>none
theorem U2 (t:TypeId) (ps:List (Nat × AV)):yz P t ps=match zv P t with
 |some (z,pl)=>.of ((vw (fun i=>pl[i]?) z ps).map .agg)
 |none=>yz P t ps:=by
 cases hb:zv P t with
 |none=>rfl
 |some q=>
  obtain ⟨z,pl⟩:=q
  simp only [zv] at hb
  split at hb
  ·rename_i z' fs hz hu
   cases hp:Hw P fs with
   |none=>simp [hp] at hb
   |some pl'=>
    simp [hp] at hb
    obtain ⟨rfl,rfl⟩:=hb
    simp [yz,hz,hu,hp]
  ·cases hb
def Dy (t:TypeId):Option (TypeId × Nat × List AV):=
 match pn P t with
 |none=>none
 |some e=>
  match dt P e,gi P e with
  |some sz,some z=>bif Nat.beq z.cells.size sz then some (e,sz,z.cells.toList.map .sc) else none
  |_,_=>none
theorem Gf (t:TypeId) (len:Nat) (ps:List (Nat × AV)):oy P t len ps=match Dy P t with
 |some (e,sz,z)=>
  match vw (fun i=>some (i * sz,sz)) (List.replicate len z).flatten ps with
  |some cells=>bif Nat.ble (len * sz) 16777216 && Nat.ble len 16777216 then ub e sz len cells else .fail
  |none=>.fail
 |none=>oy P t len ps:=by
 cases hb:Dy P t with
 |none=>rfl
 |some q=>
  obtain ⟨e,sz,z⟩:=q
  simp only [Dy] at hb
  split at hb
  ·cases hb
  ·rename_i e' he
   split at hb
   ·rename_i sz' z' hs hz
    cases hq:Nat.beq z'.cells.size sz' with
    |false=>simp [hq] at hb
    |true=>
     simp [hq] at hb
     obtain ⟨rfl,rfl,rfl⟩:=hb
     simp only [oy,he,hs,hz,hq,Bool.and_true]
     rfl
   ·cases hb
end
section ranges
variable (P : Program) (T : ff) (l a9 : Nat) (R : Iy) (Q : QI) (pe : Option Ex) (L : SL) (st : St)
theorem ago (f:Operand) (ps:Array Tmp) (a b:Code) (Q:QL):wl P T a9 (.rangeFunc f ps a b) Q L st=asy P T f ps.toList (fun p=>wl P T p a) (fun p=>wl P T p b) a9 Q L st:=id rfl
theorem aed:px P T l R a9 .skip Q pe L st=Q .normal pe L st:=id rfl
theorem Ub (i:Nat) (ops:Array Oper):px P T l R a9 (.region i ops false) Q pe L st=F0 P T l R a9 ops ops.toList (Q .normal) pe L st:=id rfl
theorem ak7 (a b:Code):px P T l R a9 (.seq a b) Q pe L st=px P T l R a9 a (ad6 (px P T l R a9 b) Q) pe L st:=id rfl
theorem ab3 (c:Operand) (a b:Code):px P T l R a9 (.cond c a b) Q pe L st=Cp (ee L c) (px P T l R a9 a Q) (px P T l R a9 b Q) pe L st:=id rfl
theorem Z6 (i:Nat) (a:Code):px P T l R a9 (.block i a) Q pe L st=px P T l R a9 a (Rk i Q) pe L st:=id rfl
theorem aea (i:Nat):px P T l R a9 (.exit i) Q pe L st=Q (.exit i) pe L st:=id rfl
theorem ald:px P T l R a9 .ret Q pe L st=Q .ret pe L st:=id rfl
theorem arn (W:QI→Option Ex→SL→St→Prop):ad6 W Q .normal pe L st=W Q pe L st:=id rfl
theorem apr (W:QI→Option Ex→SL→St→Prop) (i:Nat):ad6 W Q (.exit i) pe L st=Q (.exit i) pe L st:=id rfl
theorem arh (W:QI→Option Ex→SL→St→Prop):ad6 W Q .ret pe L st=Q .ret pe L st:=id rfl
theorem aq2 (i:Nat):Rk i Q .normal pe L st=Q .normal pe L st:=id rfl
theorem ast (i:Nat):Rk i Q .ret pe L st=Q .ret pe L st:=id rfl
theorem aq4 (i j:Nat):Rk i Q (.exit j) pe L st=if j=i then Q .normal pe L st else Q (.exit j) pe L st:=by
 show (bif Nat.beq j i then _ else _)=_
 rw [ang];by_cases h:j=i<;>simp [h]
theorem ajh (Q':QL):Al Q' Q .normal pe L st=(pe=none∧Q' .normal L st):=id rfl
theorem aj2 (Q':QL) (i:Nat):Al Q' Q (.exit i) pe L st=Q (.exit i) pe L st:=id rfl
theorem ajo (Q':QL):Al Q' Q .ret pe L st=Q .ret pe L st:=id rfl
theorem ajc (Q:QL) (L0:SL):acj Q L0 .normal none L st=Q .normal L0 st:=id rfl
theorem ajb (Q:QL) (L0:SL) (e:Ex):acj Q L0 .ret (some e) L st=Q e L0 st:=id rfl
theorem adg (ops:Array Oper) (K:Option Ex→SL→St→Prop):F0 P T l R a9 ops [] K pe L st=K pe L st:=id rfl
theorem Xz (ops:Array Oper) (o:Oper) (r:List Oper) (K:Option Ex→SL→St→Prop):F0 P T l R a9 ops (o::r) K pe L st=Jy ops o.guard (opI P T l R a9 o (F0 P T l R a9 ops r K)) (V2 o.dst (F0 P T l R a9 ops r K)) pe L st:=id rfl
theorem U7 (ops:Array Oper) (X Y:Option Ex→SL→St→Prop):Jy ops none X Y pe L st=X pe L st:=id rfl
theorem T0 (ops:Array Oper) (j:Nat) (c:Bool) (X Y:Option Ex→SL→St→Prop):Jy ops (some (j,c)) X Y pe L st=af8 (lk L (vp ops j)) c X Y pe L st:=id rfl
theorem agj (b:Bool) (X Y:Option Ex→SL→St→Prop):af8 (.sc (.bool b)) true X Y pe L st=Cp (.sc (.bool b)) X Y pe L st:=by cases b<;>simp [af8,Ae,Cv,Gl,Cp,qq,AV.bool,AV.exact,pa]
theorem akv (X Y:Option Ex→SL→St→Prop):Cp (.sc (.bool true)) X Y pe L st=X pe L st:=by simp [Cp,qq,AV.bool,AV.exact,pa]
theorem ajd (X Y:Option Ex→SL→St→Prop):Cp (.sc (.bool false)) X Y pe L st=Y pe L st:=by simp [Cp,qq,AV.bool,AV.exact,pa]
theorem wt (b:Bool) (X Y:Option Ex→SL→St→Prop):Cp (.sc (.bool b)) X Y pe L st=((b=true→X pe L st)∧(b=false→Y pe L st)):=by simp [Cp,qq,AV.bool,AV.exact,pa]
theorem Tx (d:Option Tmp) (K:Option Ex→SL→St→Prop):V2 d K pe L st=K pe (oq d (.sc undef) L) st:=id rfl
theorem ary (o:Oper) (K:Option Ex→SL→St→Prop):opI P T l R a9 o K pe L st=Xb P T R a9 o K pe L st (yieldOf l o L):=id rfl
theorem aqt (o:Oper) (K:Option Ex→SL→St→Prop):Xb P T R a9 o K pe L st none=Iz (i5 P T o (ee L) st) o.dst L (K pe):=id rfl
theorem ac3 (d:Option Tmp) (K:Option Ex→SL→St→Prop):afe d L K .normal st=K none (oq d (.sc (.bool true)) L) st:=id rfl
theorem ab1 (d:Option Tmp) (K:Option Ex→SL→St→Prop):afe d L K .ret st=K (some .ret) (oq d (.sc (.bool false)) L) st:=id rfl
theorem ak3 (B:QL→SL→St→Prop) (X:Ex→St→Prop):av9 B X .normal L st=B (fun e _ st=>X e st) L st:=id rfl
theorem Yo (k:Nat) (va vb:Array Value):Br l (.sc (.func (.yield k) va vb))=(Nat.beq k l && Nat.beq va.size 0 && Nat.beq vb.size 0):=id rfl
theorem Qt:B0 [] [] L=L:=id rfl
theorem Nh (t:Nat) (ts:List Nat) (v:AV) (vs:List AV):B0 (t::ts) (v::vs) L=B0 ts vs ((t,v)::L):=id rfl
theorem avi {α:Type} {b:Code} (keep:List Nat) (V : α→List AV) (O : α→List (Option bq)) (I : α→Prop) (μ : α→Nat) (x : α) (hx:I x) (hR:∀ p args (X X':Ex→St→Prop) st,(∀ e st,X e st→X' e st)→R p args X st→R p args X' st)
 (hv:dj a9 keep L st=V x) (ho:fp a9 keep L st=O x)
 (step:∀ x,I x→px P T l R a9 b (Al (wy a9 keep (fun vs os=>∃ y,I y ∧ μ y < μ x∧vs=V y∧os=O y) (fun _ _ _=>False)) Q) none (i4 keep (V x)) (bj (O x))):px P T l R a9 (.loop b) Q none L st:=
 ⟨rfl,su.of (B:=fun Q' L st=>px P T l R a9 b (Al Q' Q) none L st) keep V O I μ x hx hv ho (fun Q1 Q2 h L st hh=>Sg hR b _ _ (fun e pe L st q=>by
  cases e with
  |normal=>exact ⟨q.1,h _ _ _ q.2⟩
  |ret=>exact q
  |exit i=>exact q) none L st hh) step⟩
theorem Ra {ps:List Tmp} {a b:Code} {L0:SL}:∀ p args (X X':Ex→St→Prop) st,(∀ e st,X e st→X' e st)→oe ps (fun p=>wl P T p a) (fun p=>wl P T p b) L0 p args X st→oe ps (fun p=>wl P T p a) (fun p=>wl P T p b) L0 p args X' st:=
 fun p args X X' st hX hr=>⟨hr.1,hr.2.1,Ck _ _ _ (fun e L st q=>by
  cases e with
  |normal=>exact Ck _ _ _ (fun e _ st q=>hX e st q) _ _ q
  |_=>exact q.elim) _ _ hr.2.2⟩
end ranges
section yields
variable {lp : Nat} {L : SL} {d : Option Tmp} {ty : TypeId} {pos : String} {af : Array Edge} {gd : Option (Nat × Bool)}
theorem M1 (x):yieldOf lp ⟨d,.move x,ty,pos,af,gd⟩ L=none:=id rfl
theorem I1 (x):yieldOf lp ⟨d,.assign x,ty,pos,af,gd⟩ L=none:=id rfl
theorem Ob (t a):yieldOf lp ⟨d,.load t a,ty,pos,af,gd⟩ L=none:=id rfl
theorem D6 (s x f):yieldOf lp ⟨d,.fieldAddr s x f,ty,pos,af,gd⟩ L=none:=id rfl
theorem K7 (op t x y u):yieldOf lp ⟨d,.binOp op t x y u,ty,pos,af,gd⟩ L=none:=id rfl
theorem Me (c a b):yieldOf lp ⟨d,.pick c a b,ty,pos,af,gd⟩ L=none:=id rfl
theorem Kr (t a x):yieldOf lp ⟨d,.store t a x,ty,pos,af,gd⟩ L=none:=id rfl
theorem D7 (t x i):yieldOf lp ⟨d,.indexAddr t x i,ty,pos,af,gd⟩ L=none:=id rfl
theorem K2 (t):yieldOf lp ⟨d,.alloc t,ty,pos,af,gd⟩ L=none:=id rfl
theorem Nc (op t x):yieldOf lp ⟨d,.unOp op t x,ty,pos,af,gd⟩ L=none:=id rfl
theorem Ri (x ts):yieldOf lp ⟨d,.call { callee:=.builtin .len,args:=#[x],argTypes:=ts },ty,pos,af,gd⟩ L=none:=id rfl
theorem M8 (f:Operand) (args:Array Operand) (ts:Array TypeId):yieldOf lp ⟨d,.call { callee:=.value f,args:=args,argTypes:=ts },ty,pos,af,gd⟩ L=bif Br lp (ee L f) then some args else none:=id rfl
end yields
end
end Go.Vm
namespace Go.Vm
variable [TK]
noncomputable section
abbrev Name:=List ByteArray
structure bt where
 names:List Name
 nums:List UInt32
 texts:List ByteArray
 raw:List UInt8
def mkD (a:List Name) (b:List UInt32) (c:List ByteArray) (e:List UInt8):bt:=⟨a,b,c,e⟩
theorem aj9 (d:bt):mkD d.names d.nums d.texts d.raw=d:=id rfl
noncomputable def au:dm Name:=cq aj
noncomputable def aq:dm bt:=Db (m4 (cq au) (m4 (cq cw) (m4 au (cq bu)))) (fun d=>(d.names,d.nums,d.texts,d.raw)) (fun p=>⟨p.1,p.2.1,p.2.2.1,p.2.2.2⟩) (fun _=>rfl) (fun _=>rfl)
theorem cr (l:Bool) (n:Name):au.val l n = .vl l 1 (n.map (aj.val l)):=id rfl
theorem xc:au.sz=1:=id rfl
theorem Tp:aq.sz=4:=id rfl
theorem gw (l:Bool) (d:bt):aq.val l d = .agg [.vl l 1 (d.names.map (au.val l)),.vl l 1 (d.nums.map (cw.val l)),.vl l 1 (d.texts.map (aj.val l)),.vl l 1 (d.raw.map (bu.val l))]:=id rfl
theorem Qo (fr:Bool) (h:Tr bq) (x1 x2 x3 x4:AV) :
 aq.jf fr h (.agg [x1,x2,x3,x4])=match jj au fr h x1,jj cw fr h x2,jj aj fr h x3,jj bu fr h x4 with
  |some a,some b,some c,some e=>some (mkD a b c e)
  |_,_,_,_=>none:=by
 rw [Bw _ _ _ _ rfl rfl]
 have h1:aq.dec fr h (AV.agg [x1,x2,x3,x4]).cells=Option.map (fun p=>(⟨p.1,p.2.1,p.2.2.1,p.2.2.2⟩:bt)) ((m4 (cq au) (m4 (cq cw) (m4 au (cq bu)))).dec fr h [x1,x2,x3,x4]):=rfl
 have d2:∀ {α β:Type} (A:dm α) (B:dm β) (l:List AV),(m4 A B).dec fr h l=match A.dec fr h (l.take A.sz),B.dec fr h (l.drop A.sz) with|some x,some y=>some (x,y)|_,_=>none:=fun _ _ _=>rfl
 have l1:∀ {α:Type} (C:dm α) (x:AV),(cq C).dec fr h [x]=jj C fr h x:=fun _ _=>rfl
 have n1:∀ x,au.dec fr h [x]=jj aj fr h x:=fun _=>rfl
 rw [h1]
 simp only [d2,Ez,xc,List.take_succ_cons,List.take_zero,List.drop_succ_cons,List.drop_zero,l1,n1]
 cases jj au fr h x1<;>cases jj cw fr h x2<;>cases jj aj fr h x3<;>cases jj bu fr h x4<;>rfl
theorem Li {α:Type} (C:dm α) (fr:Bool) (h:Tr bq) (l:Bool) (n:Nat) (es:List AV):(cq C).jf fr h (.vl l n es)=jj C fr h (.vl l n es):=Bd C fr h _ rfl rfl rfl
theorem Ns {α:Type} (C:dm α) (fr:Bool) (h:Tr bq) (o off len n:Nat):(cq C).jf fr h (.sl o off len n)=jj C fr h (.sl o off len n):=Bd C fr h _ rfl rfl rfl
theorem D3 {α:Type} (C:dm α) (fr:Bool) (h:Tr bq):(cq C).jf fr h (.sc (.slice none 0 0))=some []:=by
 rw [Bd C fr h _ rfl rfl rfl];rfl
theorem Gy (fr:Bool) (h:Tr bq) (l:Bool) (n:Nat) (es:List AV):au.jf fr h (.vl l n es)=jj aj fr h (.vl l n es):=Bd aj fr h _ rfl rfl rfl
theorem G5 (fr:Bool) (h:Tr bq) (o off len n:Nat):au.jf fr h (.sl o off len n)=jj aj fr h (.sl o off len n):=Bd aj fr h _ rfl rfl rfl
theorem E8 (fr:Bool) (h:Tr bq):au.jf fr h (.sc (.slice none 0 0))=some []:=D3 aj fr h
theorem Ff (l:List UInt8):l.map Bm=l.map (bu.val false):=id rfl
theorem Lq {α:Type} (C:dm α) (b:Bool) (l:List α):AV.names.go (l.map (C.val b))=[]:=Ha (fun c hc=>by
 obtain ⟨x,_,rfl⟩:=List.mem_map.1 hc
 exact Oc C b x)
theorem xr:∀ (l:List UInt8) (b:Bool),bytesOf (l.map (bu.val b))=some l
 | [],_=>rfl
 |c::l,b=>by
  rw [List.map_cons,C9,bytesOf,xr l b]
  simp
end
end Go.Vm
section
namespace Go.Vm.Cx
open Go.Vm
variable [TK]
noncomputable section
theorem Zd {P:Program} (w:World):∀ (ns:List Int) (a:Addr) (i:Nat) (acc:ByteArray),(∀ (j:Nat) x,ns[j]? = some x→(load (a.add (i+j))).run P w = .ok (.int .u8 x) w) →
 (Extern.Bytes.loadBytes (a.add i) ns.length acc).run P w = .ok ⟨acc.data++(ns.map fun n=>UInt8.ofNat n.toNat).toArray⟩ w
 | [],a,i,acc,_=>by simp [Extern.Bytes.loadBytes]
 |x::l,a,i,acc,h=>by
  have h0:=h 0 x rfl
  rw [Nat.add_zero] at h0
  have e:(a.add i).add 1=a.add (i+1):=by
   unfold Addr.add
   by_cases hj:i=0
   ·subst hj;simp
   ·simp [hj];omega
  have ih:=Zd (P:=P) w l a (i+1) (acc.push x.toNat.toUInt8) (fun j y hy=>by
   have:=h (j+1) y (by simpa using hy)
   rw [show i+1+j=i+(j+1) from by omega];exact this)
  simp only [List.length_cons,Extern.Bytes.loadBytes,Sem.run_bind,h0,Result.andThen]
  rw [e,ih]
  congr 1
  apply ByteArray.ext
  simp [ByteArray.push,Nat.toUInt8]
theorem aw2 {l:List Int} {l':List Value} (h:l'=l.map (Value.int .u8)) (j:Nat) (x:Int) (hx:l[j]? = some x):l'[j]? = some (.int .u8 x):=by rw [h,List.getElem?_map,hx];rfl
theorem X6 {P:Program} {g st gu w} {a:AV} {v:Value} {l:List AV} {bs:List UInt8} (hok:Ok g st.h w) (hr:Rel g w a v) (h:cellsIn 1 a st=some (l,gu)) (hb:bytesOf l=some bs) :
 (Extern.Bytes.bytesOf v).run P w = .ok ⟨bs.toArray⟩ w:=by
 obtain ⟨_,_,n,news,hsrc,hrl⟩:=Ar (P:=P) hok hr h
 obtain ⟨ns,e1,e2⟩:=Jg _ _ _ hrl hb
 obtain ⟨r1,r2⟩:=hsrc.run w rfl
 cases v with
 |slice p len cap=>
  have hn:n=len:=by simp [Builtin.lenOf] at r1;exact r1.symm
  subst hn
  cases p with
  |none=>
   have:news=[]:=by simpa [Builtin.firstCells] using r2
   subst this
   have:ns=[]:=by simpa using e1.symm
   subst this
   subst e2
   rfl
  |some a=>
   simp only [Builtin.firstCells,Nat.mul_one] at r2
   unfold loadCells at r2
   obtain ⟨l',q1,q2,q3⟩:=loadCellsFrom_ok a n 0 #[] _ _ r2
   have hl':l'=news:=by simpa using q2.symm
   subst hl'
   have hlen:ns.length=n:=by rw [← q1,e1,List.length_map]
   have:=Zd (P:=P) w ns a 0 .empty (fun j x hx=>by
    exact q3 j _ (aw2 e1 j x hx))
   rw [hlen] at this
   have e0:a.add 0=a:=by simp [Addr.add]
   rw [e0] at this
   show (Extern.Bytes.loadBytes a n .empty).run P w=_
   rw [this,e2]
   congr 2
   simp [ByteArray.empty,ByteArray.emptyWithCapacity]
   rfl
 |string s=>
  have hn:n=s.size:=by simp [Builtin.lenOf] at r1;exact r1.symm
  subst hn
  simp only [Builtin.firstCells,Sem.run_pure,Result.ok.injEq,and_true] at r2
  have h1:=congrArg Array.toList r2
  rw [e1] at h1
  show Result.ok s w=_
  congr 1
  apply ByteArray.ext
  apply Array.ext'
  rw [e2]
  have h2:=congrArg (List.map fun v:Value=>match v with|.int _ n=>UInt8.ofNat n.toNat|_=>0) h1
  simp only [List.map_map,Array.toList_map] at h2
  have h3:(s.extract 0 s.size).data.toList=s.data.toList:=by simp
  rw [h3] at h2
  have h4:(List.map ((fun v:Value=>match v with|.int _ n=>UInt8.ofNat n.toNat|_=>0) ∘ fun b:UInt8=>Value.int .u8 (b.toNat:Int)) s.data.toList)=s.data.toList:=by
   rw [show ((fun v:Value=>match v with|.int _ n=>UInt8.ofNat n.toNat|_=>0) ∘ fun b:UInt8=>Value.int .u8 (b.toNat:Int))=id from by funext b;simp]
   simp
  rw [h4] at h2
  rw [h2]
  simp
 |_=>simp [Builtin.lenOf,stuck] at r1
def aC0 (args:List AV):M AV:=
 match args with
 | [a]=>.pure a
 |_=>.fail
def pw (args:List AV):M AV:=
 match args with
 | [a,b]=>(cellsIn 1 a).bind fun x=>(cellsIn 1 b).bind fun y=>
  match bytesOf x with
  |some x=>
   match bytesOf y with
   |some y=>.pure (.sc (goInt (Lib.compareBytes x y)))
   |none=>.fail
  |none=>.fail
 |_=>.fail
def kl {α:Type} (m:M α):Prop:=∀ st v gu,m st=some (v,gu)→gu.h=st.h∧gu.nx=st.nx
theorem kl.pure {α:Type} (a : α):kl (M.pure a):=fun st v gu h=>by cases h;exact ⟨rfl,rfl⟩
theorem kl.fail {α:Type}:kl (M.fail:M α):=fun st v gu h=>by cases h
theorem kl.bind {α β:Type} {m:M α} {f : α→M β} (hm:kl m) (h:∀ x,kl (f x)):kl (m.bind f):=fun st v gu hb=>by
 obtain ⟨x,s1,h1,h2⟩:=bind_some hb
 have h3:=hm _ _ _ h1
 have h4:=h x _ _ _ h2
 exact ⟨h4.1.trans h3.1,h4.2.trans h3.2⟩
theorem kl.ew (id:Nat):kl (Vm.ew id):=fun _st _v _st1 h=>(iw h).2
theorem kl.cond {α:Type} {b:Bool} {x y:M α} (hx:kl x) (hy:kl y):kl (bif b then x else y):=by cases b<;>assumption
theorem kl.cellsIn (sz:Nat) (v:AV):kl (Vm.cellsIn sz v):=by
 unfold Vm.cellsIn Ke
 repeat' (first|exact kl.pure _|exact kl.fail|apply kl.cond|(refine kl.bind (kl.ew _) fun x=>?_)|split)
theorem Wf (args:List AV):kl (pw args):=by
 unfold pw;split
 ·exact kl.bind (kl.cellsIn _ _) fun x=>kl.bind (kl.cellsIn _ _) fun y=>by
   split
   ·split
    ·exact kl.pure _
    ·exact kl.fail
   ·exact kl.fail
 ·exact kl.fail
theorem Nm {P:Program} {f:Nat} {fn:Func} (hf:P.funcs[f]? = some fn) (h1:(fn.name == "runtime.NumGoroutine")=false) (h2:fn.body.isNone=true) (h3:Extern.findNext fn=none) (h4:Extern.find fn=some Extern.BytealgCompare.compare) (args:List AV) :
 Ei P f args (pw args):=by
 intro g st w vs r st' hok hfree hrel hm
 refine .inl ?_
 have hst:=Wf _ _ _ _ hm
 unfold pw at hm
 split at hm
 ·rename_i a c
  obtain ⟨x,s1,e1,hm⟩:=bind_some hm
  obtain ⟨y,s2,e2,hm⟩:=bind_some hm
  cases hx:bytesOf x with
  |none=>rw [hx] at hm;cases hm
  |some bx=>
  cases hy:bytesOf y with
  |none=>rw [hx,hy] at hm;cases hm
  |some yb=>
  rw [hx,hy] at hm
  cases hm
  have hh:=kl.cellsIn _ _ _ _ _ e1
  match vs,hrel with
  | [v,u],hrel=>
   have r1:=X6 (P:=P) hok hrel.head e1 hx
   have r2:=X6 (P:=P) (st:=s1) (by rw [hh.1];exact hok) hrel.tail.head e2 hy
   refine ⟨goInt (Lib.compareBytes bx yb),w,g,?_,?_,?_,.sc _⟩
   ·rw [run_callFunc_extern hf h1 h2 h3 h4]
    have:(Extern.BytealgCompare.compare #[v,u]).run P w = .ok (goInt (Lib.compareBytes bx yb)) w:=by
     change Sem.run P (do pure (goInt (Extern.BytealgCompare.cmp (← Extern.Bytes.bytesOf v) (← Extern.Bytes.bytesOf u)))) w=_
     simp only [Sem.run_bind,r1,r2,Result.andThen,Sem.run_pure]
     rw [Lib.cmp_eq]
    show ((Extern.BytealgCompare.compare #[v,u]).run P w).andThen _=_
    rw [this]
    rfl
   ·rw [hst.1,hst.2];exact .refl _ _ _ _ _
   ·rw [hst.1];exact hok
  | [],hrel=>have:=hrel.1;simp at this
  | [v],hrel=>have:=hrel.1;simp at this
  |_::_::_::_,hrel=>have:=hrel.1;simp at this
 ·cases hm
end
end Go.Vm.Cx
end
section
set_option linter.unnecessarySimpa false
namespace Go.Vm
variable [TK]
noncomputable section
def roT (o:Option (Bool × (List AV→M AV))):Bool:=match o with|some (b,_)=>b|none=>false
theorem avy (b m):roT (some (b,m))=b:=id rfl
theorem fg {o:Oper} {L:SL} {x:Operand} (h:x ∈ o.op.operands):dq o L x=ee L x:=by
 cases x with
 |tmp t=>
  show (bif o.op.operands.any (fun x=>match x with|.tmp u=>Nat.beq u t|_=>false) then lk L t else .bad)=lk L t
  have:o.op.operands.any (fun x=>match x with|.tmp u=>Nat.beq u t|_=>false)=true:=by
   rw [Array.any_eq_true']
   exact ⟨_,h,by simp⟩
  rw [this];rfl
 |const v=>rfl
 |global g=>rfl
 |func f=>rfl
theorem ig {o:Oper} {L:SL} {l:List Operand} (h:∀ x ∈ l,x ∈ o.op.operands):l.map (dq o L)=l.map (ee L):=List.map_congr_left fun x hx=>fg (h x hx)
theorem Qc {o:Oper} {L:SL} {l:List (Nat × Operand)} (h:∀ x ∈ l,x.2 ∈ o.op.operands):l.map (fun p=>(p.1,dq o L p.2))=l.map (fun p=>(p.1,ee L p.2)):=List.map_congr_left fun x hx=>by rw [fg (h x hx)]
def gb (ro:Bool) (F:List Nat) (o:Oper) (recs:List Rec) (K:List Rec→SL→St→Prop) (L:SL) (st:St) (m:M AV):Prop:=E9 ro F o recs K L st (m { h:=re st.h F,nx:=st.nx,rl:=[],wl:=[] })
theorem Zh (ro F o recs K L st m):gb ro F o recs K L st m=E9 ro F o recs K L st (m { h:=re st.h F,nx:=st.nx,rl:=[],wl:=[] }):=id rfl
section ops
variable (P : Program) (T : ff) (L : SL) (st : St) (recs : List Rec) (K : List Rec → SL → St → Prop) (d : Option Tmp) (ty : TypeId) (pos : String) (af : Array Edge) (gd : Option (Nat × Bool))
theorem afl (x):gp P T ⟨d,.move x,ty,pos,af,gd⟩ recs K L st=gb (true) ([]) ⟨d,.move x,ty,pos,af,gd⟩ recs K L st (mono (M.pure (ee L x))):=by
 unfold gp lj mb gb
 simp only [jw,cond_true]
 have hm:∀ y,y ∈ ([x]:List Operand)→dq ⟨d,.move x,ty,pos,af,gd⟩ L y=ee L y:=fun y hy=>fg (by simpa [Op.operands,Call.operands] using hy)
 have hmap:([x]:List Operand).map (dq ⟨d,.move x,ty,pos,af,gd⟩ L)=([x]:List Operand).map (ee L):=ig (fun y hy=>by simpa [Op.operands,Call.operands] using hy)
 have ho:(⟨d,.move x,ty,pos,af,gd⟩:Oper).op.operands.toList=[x]:=by simp [Op.operands,Call.operands]
 rw [J4,hm x (by simp)]
 rfl
theorem U4 (x):gp P T ⟨d,.assign x,ty,pos,af,gd⟩ recs K L st=gb (true) ([]) ⟨d,.assign x,ty,pos,af,gd⟩ recs K L st (mono (M.pure (ee L x))):=by
 unfold gp lj mb gb
 simp only [jw,cond_true]
 have hm:∀ y,y ∈ ([x]:List Operand)→dq ⟨d,.assign x,ty,pos,af,gd⟩ L y=ee L y:=fun y hy=>fg (by simpa [Op.operands,Call.operands] using hy)
 have hmap:([x]:List Operand).map (dq ⟨d,.assign x,ty,pos,af,gd⟩ L)=([x]:List Operand).map (ee L):=ig (fun y hy=>by simpa [Op.operands,Call.operands] using hy)
 have ho:(⟨d,.assign x,ty,pos,af,gd⟩:Oper).op.operands.toList=[x]:=by simp [Op.operands,Call.operands]
 rw [Fz,hm x (by simp)]
 rfl
theorem aei (t a):gp P T ⟨d,.load t a,ty,pos,af,gd⟩ recs K L st=gb (true) ((ee L a).names) ⟨d,.load t a,ty,pos,af,gd⟩ recs K L st (mono (r9 P t (ee L a))):=by
 unfold gp lj mb gb
 simp only [jw,cond_false]
 have hm:∀ y,y ∈ ([a]:List Operand)→dq ⟨d,.load t a,ty,pos,af,gd⟩ L y=ee L y:=fun y hy=>fg (by simpa [Op.operands,Call.operands] using hy)
 have hmap:([a]:List Operand).map (dq ⟨d,.load t a,ty,pos,af,gd⟩ L)=([a]:List Operand).map (ee L):=ig (fun y hy=>by simpa [Op.operands,Call.operands] using hy)
 have ho:(⟨d,.load t a,ty,pos,af,gd⟩:Oper).op.operands.toList=[a]:=by simp [Op.operands,Call.operands]
 rw [Je,hm a (by simp)]
 rfl
theorem Kz (s x f):gp P T ⟨d,.fieldAddr s x f,ty,pos,af,gd⟩ recs K L st=gb (true) ([]) ⟨d,.fieldAddr s x f,ty,pos,af,gd⟩ recs K L st (mono (sn P s (ee L x) f)):=by
 unfold gp lj mb gb
 simp only [jw,cond_true]
 have hm:∀ y,y ∈ ([x]:List Operand)→dq ⟨d,.fieldAddr s x f,ty,pos,af,gd⟩ L y=ee L y:=fun y hy=>fg (by simpa [Op.operands,Call.operands] using hy)
 have hmap:([x]:List Operand).map (dq ⟨d,.fieldAddr s x f,ty,pos,af,gd⟩ L)=([x]:List Operand).map (ee L):=ig (fun y hy=>by simpa [Op.operands,Call.operands] using hy)
 have ho:(⟨d,.fieldAddr s x f,ty,pos,af,gd⟩:Oper).op.operands.toList=[x]:=by simp [Op.operands,Call.operands]
 rw [zu,hm x (by simp)]
 rfl
theorem Ya (op t x y u):gp P T ⟨d,.binOp op t x y u,ty,pos,af,gd⟩ recs K L st=gb (true) ([]) ⟨d,.binOp op t x y u,ty,pos,af,gd⟩ recs K L st (mono (J9 P (dq ⟨d,.binOp op t x y u,ty,pos,af,gd⟩ L) ⟨d,.binOp op t x y u,ty,pos,af,gd⟩ op t x y)):=by
 unfold gp lj mb gb
 simp only [jw,cond_true]
 have hm:∀ y,y ∈ ([x,y]:List Operand)→dq ⟨d,.binOp op t x y u,ty,pos,af,gd⟩ L y=ee L y:=fun y hy=>fg (by simpa [Op.operands,Call.operands] using hy)
 have hmap:([x,y]:List Operand).map (dq ⟨d,.binOp op t x y u,ty,pos,af,gd⟩ L)=([x,y]:List Operand).map (ee L):=ig (fun y hy=>by simpa [Op.operands,Call.operands] using hy)
 have ho:(⟨d,.binOp op t x y u,ty,pos,af,gd⟩:Oper).op.operands.toList=[x,y]:=by simp [Op.operands,Call.operands]
 rfl
theorem ac9 (c a b):gp P T ⟨d,.pick c a b,ty,pos,af,gd⟩ recs K L st=gb (true) ([]) ⟨d,.pick c a b,ty,pos,af,gd⟩ recs K L st (mono (Fs (ee L c) (ee L a) (ee L b))):=by
 unfold gp lj mb gb
 simp only [jw,cond_true]
 have hm:∀ y,y ∈ ([c,a,b]:List Operand)→dq ⟨d,.pick c a b,ty,pos,af,gd⟩ L y=ee L y:=fun y hy=>fg (by simpa [Op.operands,Call.operands] using hy)
 have hmap:([c,a,b]:List Operand).map (dq ⟨d,.pick c a b,ty,pos,af,gd⟩ L)=([c,a,b]:List Operand).map (ee L):=ig (fun y hy=>by simpa [Op.operands,Call.operands] using hy)
 have ho:(⟨d,.pick c a b,ty,pos,af,gd⟩:Oper).op.operands.toList=[c,a,b]:=by simp [Op.operands,Call.operands]
 rw [Kh,hm c (by simp),hm a (by simp),hm b (by simp)]
 rfl
theorem Xv (t a x):gp P T ⟨d,.store t a x,ty,pos,af,gd⟩ recs K L st=gb (false) ((ee L a).names) ⟨d,.store t a x,ty,pos,af,gd⟩ recs K L st (mono (w9 P t (ee L a) (ee L x))):=by
 unfold gp lj mb gb
 simp only [jw,cond_false]
 have hm:∀ y,y ∈ ([a,x]:List Operand)→dq ⟨d,.store t a x,ty,pos,af,gd⟩ L y=ee L y:=fun y hy=>fg (by simpa [Op.operands,Call.operands] using hy)
 have hmap:([a,x]:List Operand).map (dq ⟨d,.store t a x,ty,pos,af,gd⟩ L)=([a,x]:List Operand).map (ee L):=ig (fun y hy=>by simpa [Op.operands,Call.operands] using hy)
 have ho:(⟨d,.store t a x,ty,pos,af,gd⟩:Oper).op.operands.toList=[a,x]:=by simp [Op.operands,Call.operands]
 rw [Hg,hm a (by simp),hm x (by simp)]
 rfl
theorem Q5 (t i):gp P T ⟨d,.extract t i,ty,pos,af,gd⟩ recs K L st=gb (true) ([]) ⟨d,.extract t i,ty,pos,af,gd⟩ recs K L st (mono (v9 (ee L t) i)):=by
 unfold gp lj mb gb
 simp only [jw,cond_true]
 have hm:∀ y,y ∈ ([t]:List Operand)→dq ⟨d,.extract t i,ty,pos,af,gd⟩ L y=ee L y:=fun y hy=>fg (by simpa [Op.operands,Call.operands] using hy)
 have hmap:([t]:List Operand).map (dq ⟨d,.extract t i,ty,pos,af,gd⟩ L)=([t]:List Operand).map (ee L):=ig (fun y hy=>by simpa [Op.operands,Call.operands] using hy)
 have ho:(⟨d,.extract t i,ty,pos,af,gd⟩:Oper).op.operands.toList=[t]:=by simp [Op.operands,Call.operands]
 rw [Dw,hm t (by simp)]
 rfl
theorem Km (t x i):gp P T ⟨d,.indexAddr t x i,ty,pos,af,gd⟩ recs K L st=gb (true) ([]) ⟨d,.indexAddr t x i,ty,pos,af,gd⟩ recs K L st (mono (so P t (ee L x) (ee L i))):=by
 unfold gp lj mb gb
 simp only [jw,cond_true]
 have hm:∀ y,y ∈ ([x,i]:List Operand)→dq ⟨d,.indexAddr t x i,ty,pos,af,gd⟩ L y=ee L y:=fun y hy=>fg (by simpa [Op.operands,Call.operands] using hy)
 have hmap:([x,i]:List Operand).map (dq ⟨d,.indexAddr t x i,ty,pos,af,gd⟩ L)=([x,i]:List Operand).map (ee L):=ig (fun y hy=>by simpa [Op.operands,Call.operands] using hy)
 have ho:(⟨d,.indexAddr t x i,ty,pos,af,gd⟩:Oper).op.operands.toList=[x,i]:=by simp [Op.operands,Call.operands]
 rw [As,hm x (by simp),hm i (by simp)]
 rfl
theorem Nf (x):gp P T ⟨d,.nilCheck x,ty,pos,af,gd⟩ recs K L st=gb (true) ([]) ⟨d,.nilCheck x,ty,pos,af,gd⟩ recs K L st (mono (qh (ee L x))):=by
 unfold gp lj mb gb
 simp only [jw,cond_true]
 have hm:∀ y,y ∈ ([x]:List Operand)→dq ⟨d,.nilCheck x,ty,pos,af,gd⟩ L y=ee L y:=fun y hy=>fg (by simpa [Op.operands,Call.operands] using hy)
 have hmap:([x]:List Operand).map (dq ⟨d,.nilCheck x,ty,pos,af,gd⟩ L)=([x]:List Operand).map (ee L):=ig (fun y hy=>by simpa [Op.operands,Call.operands] using hy)
 have ho:(⟨d,.nilCheck x,ty,pos,af,gd⟩:Oper).op.operands.toList=[x]:=by simp [Op.operands,Call.operands]
 rw [Cd,hm x (by simp)]
 rfl
theorem Xy (t):gp P T ⟨d,.alloc t,ty,pos,af,gd⟩ recs K L st=gb (true) (reach st.h ga [] []) ⟨d,.alloc t,ty,pos,af,gd⟩ recs K L st (mono (Cj P t)):=by
 unfold gp lj mb gb
 simp only [jw,cond_false]
 have hm:∀ y,y ∈ ([]:List Operand)→dq ⟨d,.alloc t,ty,pos,af,gd⟩ L y=ee L y:=fun y hy=>fg (by simpa [Op.operands,Call.operands] using hy)
 have hmap:([]:List Operand).map (dq ⟨d,.alloc t,ty,pos,af,gd⟩ L)=([]:List Operand).map (ee L):=ig (fun y hy=>by simpa [Op.operands,Call.operands] using hy)
 have ho:(⟨d,.alloc t,ty,pos,af,gd⟩:Oper).op.operands.toList=[]:=by simp [Op.operands,Call.operands]
 rw [ho,hmap]
 rfl
theorem Ye (t ps):gp P T ⟨d,.build t ps,ty,pos,af,gd⟩ recs K L st=gb (true) (reach st.h ga (AV.names.go ((ps.toList.map (·.2)).map (ee L))) []) ⟨d,.build t ps,ty,pos,af,gd⟩ recs K L st (mono (yz P t (ps.toList.map fun p=>(p.1,ee L p.2)))):=by
 unfold gp lj mb gb
 simp only [jw,cond_false]
 have hm:∀ y,y ∈ ((ps.toList.map (·.2)):List Operand)→dq ⟨d,.build t ps,ty,pos,af,gd⟩ L y=ee L y:=fun y hy=>fg (by simpa [Op.operands,Call.operands] using hy)
 have hmap:((ps.toList.map (·.2)):List Operand).map (dq ⟨d,.build t ps,ty,pos,af,gd⟩ L)=((ps.toList.map (·.2)):List Operand).map (ee L):=ig (fun y hy=>by simpa [Op.operands,Call.operands] using hy)
 have ho:(⟨d,.build t ps,ty,pos,af,gd⟩:Oper).op.operands.toList=(ps.toList.map (·.2)):=by simp [Op.operands,Call.operands]
 rw [ho,hmap]
 rw [Hl,Qc (fun x hx=>by simp [Op.operands];exact ⟨_,by simpa using hx⟩)]
 rfl
theorem Hs (t n ps):gp P T ⟨d,.buildSlice t n ps,ty,pos,af,gd⟩ recs K L st=gb (true) (reach st.h ga (AV.names.go ((ps.toList.map (·.2)).map (ee L))) []) ⟨d,.buildSlice t n ps,ty,pos,af,gd⟩ recs K L st (mono (oy P t n (ps.toList.map fun p=>(p.1,ee L p.2)))):=by
 unfold gp lj mb gb
 simp only [jw,cond_false]
 have hm:∀ y,y ∈ ((ps.toList.map (·.2)):List Operand)→dq ⟨d,.buildSlice t n ps,ty,pos,af,gd⟩ L y=ee L y:=fun y hy=>fg (by simpa [Op.operands,Call.operands] using hy)
 have hmap:((ps.toList.map (·.2)):List Operand).map (dq ⟨d,.buildSlice t n ps,ty,pos,af,gd⟩ L)=((ps.toList.map (·.2)):List Operand).map (ee L):=ig (fun y hy=>by simpa [Op.operands,Call.operands] using hy)
 have ho:(⟨d,.buildSlice t n ps,ty,pos,af,gd⟩:Oper).op.operands.toList=(ps.toList.map (·.2)):=by simp [Op.operands,Call.operands]
 rw [ho,hmap]
 rw [yr,Qc (fun x hx=>by simp [Op.operands];exact ⟨_,by simpa using hx⟩)]
 rfl
theorem Qx (s u x):gp P T ⟨d,.convert s u x,ty,pos,af,gd⟩ recs K L st=gb (true) (reach st.h ga (AV.names.go ([x].map (ee L))) []) ⟨d,.convert s u x,ty,pos,af,gd⟩ recs K L st (mono (wa P (dq ⟨d,.convert s u x,ty,pos,af,gd⟩ L) ⟨d,.convert s u x,ty,pos,af,gd⟩ s u (ee L x))):=by
 unfold gp lj mb gb
 simp only [jw,cond_false]
 have hm:∀ y,y ∈ ([x]:List Operand)→dq ⟨d,.convert s u x,ty,pos,af,gd⟩ L y=ee L y:=fun y hy=>fg (by simpa [Op.operands,Call.operands] using hy)
 have hmap:([x]:List Operand).map (dq ⟨d,.convert s u x,ty,pos,af,gd⟩ L)=([x]:List Operand).map (ee L):=ig (fun y hy=>by simpa [Op.operands,Call.operands] using hy)
 have ho:(⟨d,.convert s u x,ty,pos,af,gd⟩:Oper).op.operands.toList=[x]:=by simp [Op.operands,Call.operands]
 rw [ho,hmap]
 rw [D0,hm x (by simp)]
 rfl
theorem Zk (t x i):gp P T ⟨d,.index t x i,ty,pos,af,gd⟩ recs K L st=gb (true) (reach st.h ga (AV.names.go ([x,i].map (ee L))) []) ⟨d,.index t x i,ty,pos,af,gd⟩ recs K L st (mono (Cb P (dq ⟨d,.index t x i,ty,pos,af,gd⟩ L) ⟨d,.index t x i,ty,pos,af,gd⟩ t x i)):=by
 unfold gp lj mb gb
 simp only [jw,cond_false]
 have hm:∀ y,y ∈ ([x,i]:List Operand)→dq ⟨d,.index t x i,ty,pos,af,gd⟩ L y=ee L y:=fun y hy=>fg (by simpa [Op.operands,Call.operands] using hy)
 have hmap:([x,i]:List Operand).map (dq ⟨d,.index t x i,ty,pos,af,gd⟩ L)=([x,i]:List Operand).map (ee L):=ig (fun y hy=>by simpa [Op.operands,Call.operands] using hy)
 have ho:(⟨d,.index t x i,ty,pos,af,gd⟩:Oper).op.operands.toList=[x,i]:=by simp [Op.operands,Call.operands]
 rw [ho,hmap]
 rfl
theorem Yz (t x l h m):gp P T ⟨d,.slice t x l h m,ty,pos,af,gd⟩ recs K L st=gb (true) (reach st.h ga (AV.names.go ((#[x]++l.toArray++h.toArray++m.toArray).toList.map (ee L))) []) ⟨d,.slice t x l h m,ty,pos,af,gd⟩ recs K L st (mono (Bt P (dq ⟨d,.slice t x l h m,ty,pos,af,gd⟩ L) ⟨d,.slice t x l h m,ty,pos,af,gd⟩ t x l h m)):=by
 unfold gp lj mb gb
 simp only [jw,cond_false]
 have hm:∀ y,y ∈ ((#[x]++l.toArray++h.toArray++m.toArray).toList:List Operand)→dq ⟨d,.slice t x l h m,ty,pos,af,gd⟩ L y=ee L y:=fun y hy=>fg (by simpa [Op.operands,Call.operands] using hy)
 have hmap:((#[x]++l.toArray++h.toArray++m.toArray).toList:List Operand).map (dq ⟨d,.slice t x l h m,ty,pos,af,gd⟩ L)=((#[x]++l.toArray++h.toArray++m.toArray).toList:List Operand).map (ee L):=ig (fun y hy=>by simpa [Op.operands,Call.operands] using hy)
 have ho:(⟨d,.slice t x l h m,ty,pos,af,gd⟩:Oper).op.operands.toList=(#[x]++l.toArray++h.toArray++m.toArray).toList:=by simp [Op.operands,Call.operands]
 rw [ho,hmap]
 rfl
theorem aui (op t x):gp P T ⟨d,.unOp op t x,ty,pos,af,gd⟩ recs K L st=gb (true) (reach st.h ga (AV.names.go ([x].map (ee L))) []) ⟨d,.unOp op t x,ty,pos,af,gd⟩ recs K L st (mono (lx P (dq ⟨d,.unOp op t x,ty,pos,af,gd⟩ L) ⟨d,.unOp op t x,ty,pos,af,gd⟩ [x])):=by
 unfold gp lj mb gb
 simp only [jw,cond_false]
 have hm:∀ y,y ∈ ([x]:List Operand)→dq ⟨d,.unOp op t x,ty,pos,af,gd⟩ L y=ee L y:=fun y hy=>fg (by simpa [Op.operands,Call.operands] using hy)
 have hmap:([x]:List Operand).map (dq ⟨d,.unOp op t x,ty,pos,af,gd⟩ L)=([x]:List Operand).map (ee L):=ig (fun y hy=>by simpa [Op.operands,Call.operands] using hy)
 have ho:(⟨d,.unOp op t x,ty,pos,af,gd⟩:Oper).op.operands.toList=[x]:=by simp [Op.operands,Call.operands]
 rw [ho,hmap]
 rfl
theorem alf (x ts):gp P T ⟨d,.call { callee:=.builtin .len,args:=#[x],argTypes:=ts },ty,pos,af,gd⟩ recs K L st=gb (true) ([]) ⟨d,.call { callee:=.builtin .len,args:=#[x],argTypes:=ts },ty,pos,af,gd⟩ recs K L st (mono (vn ((ts[0]?).bind P.underlying) (ee L x))):=by
 unfold gp lj mb gb
 simp only [jw,cond_true]
 have hm:∀ y,y ∈ ([x]:List Operand)→dq ⟨d,.call { callee:=.builtin .len,args:=#[x],argTypes:=ts },ty,pos,af,gd⟩ L y=ee L y:=fun y hy=>fg (by simpa [Op.operands,Call.operands] using hy)
 have hmap:([x]:List Operand).map (dq ⟨d,.call { callee:=.builtin .len,args:=#[x],argTypes:=ts },ty,pos,af,gd⟩ L)=([x]:List Operand).map (ee L):=ig (fun y hy=>by simpa [Op.operands,Call.operands] using hy)
 have ho:(⟨d,.call { callee:=.builtin .len,args:=#[x],argTypes:=ts },ty,pos,af,gd⟩:Oper).op.operands.toList=[x]:=by simp [Op.operands,Call.operands]
 rw [Ni,hm x (by simp)]
 rfl
theorem Sq (s x ts):gp P T ⟨d,.call { callee:=.builtin .append,args:=#[s,x],argTypes:=ts },ty,pos,af,gd⟩ recs K L st=gb (false) (reach st.h ga (AV.names.go ([s,x].map (ee L))) []) ⟨d,.call { callee:=.builtin .append,args:=#[s,x],argTypes:=ts },ty,pos,af,gd⟩ recs K L st (mono (qw P ts[0]? ((ts[1]?).bind P.underlying) (ee L s) (ee L x))):=by
 unfold gp lj mb gb
 simp only [jw,cond_false]
 have hm:∀ y,y ∈ ([s,x]:List Operand)→dq ⟨d,.call { callee:=.builtin .append,args:=#[s,x],argTypes:=ts },ty,pos,af,gd⟩ L y=ee L y:=fun y hy=>fg (by simpa [Op.operands,Call.operands] using hy)
 have hmap:([s,x]:List Operand).map (dq ⟨d,.call { callee:=.builtin .append,args:=#[s,x],argTypes:=ts },ty,pos,af,gd⟩ L)=([s,x]:List Operand).map (ee L):=ig (fun y hy=>by simpa [Op.operands,Call.operands] using hy)
 have ho:(⟨d,.call { callee:=.builtin .append,args:=#[s,x],argTypes:=ts },ty,pos,af,gd⟩:Oper).op.operands.toList=[s,x]:=by simp [Op.operands,Call.operands]
 rw [ho,hmap]
 rw [Fv,hm s (by simp),hm x (by simp)]
 rfl
theorem acr (f args ts):gp P T ⟨d,.call { callee:=.value f,args,argTypes:=ts },ty,pos,af,gd⟩ recs K L st=gb (ox T (ee L) ⟨d,.call { callee:=.value f,args,argTypes:=ts },ty,pos,af,gd⟩) (reach st.h ga (AV.names.go ((f::args.toList).map (ee L))) []) ⟨d,.call { callee:=.value f,args,argTypes:=ts },ty,pos,af,gd⟩ recs K L st (wv T (ee L f) (args.toList.map (ee L))):=by
 unfold gp lj mb gb
 simp only [jw,cond_false]
 have h1:⟨d,.call { callee:=.value f,args,argTypes:=ts },ty,pos,af,gd⟩=(⟨d,.call { callee:=.value f,args,argTypes:=ts },ty,pos,af,gd⟩:Oper):=rfl
 have hf:dq ⟨d,.call { callee:=.value f,args,argTypes:=ts },ty,pos,af,gd⟩ L f=ee L f:=fg (by simp [Op.operands,Call.operands])
 have ha:args.toList.map (dq ⟨d,.call { callee:=.value f,args,argTypes:=ts },ty,pos,af,gd⟩ L)=args.toList.map (ee L):=ig (fun x hx=>by simp [Op.operands,Call.operands];exact .inr (by simpa using hx))
 have hr:ox T (dq ⟨d,.call { callee:=.value f,args,argTypes:=ts },ty,pos,af,gd⟩ L) ⟨d,.call { callee:=.value f,args,argTypes:=ts },ty,pos,af,gd⟩=ox T (ee L) ⟨d,.call { callee:=.value f,args,argTypes:=ts },ty,pos,af,gd⟩:=by simp only [ox,hf]
 have ho:(⟨d,.call { callee:=.value f,args,argTypes:=ts },ty,pos,af,gd⟩:Oper).op.operands.toList.map (dq ⟨d,.call { callee:=.value f,args,argTypes:=ts },ty,pos,af,gd⟩ L)=(f::args.toList).map (ee L):=by
  show ((#[f]++args).toList).map _=_
  simp only [Array.toList_append,List.map_append,ha,List.map_cons,hf]
  rfl
 rw [hr,ho]
 show E9 _ _ _ _ _ _ _ (wv T (dq _ L f) (args.toList.map (dq _ L)) _)=_
 rw [hf,ha]
theorem wc (f args ts g a b) (h:ee L f = .fn (.func g) a b):ox T (ee L) ⟨d,.call { callee:=.value f,args,argTypes:=ts },ty,pos,af,gd⟩=roT (T.find g):=by simp only [ox,h];rfl
theorem Qr (n args ts):ox T (ee L) ⟨d,.call { callee:=.value (.func n),args,argTypes:=ts },ty,pos,af,gd⟩=roT (T.find n):=by simp only [ox,ee];rfl
end ops
theorem Yq (P T ops K L st):Ev P T ops true K L st=(Mq ops=true∧(Fi P T ops ops.toList K [] L st∨N7 P T ops ops.toList K [] L st)):=id rfl
theorem X9 (n):G0 n []=true:=id rfl
theorem Uy (n o r):G0 n (o::r)=(Nat.blt o n && G0 n r):=id rfl
theorem ag2 (h h'):same h h' []=True:=id rfl
theorem Y0 (h h' o r):same h h' (o::r)=(h.get o=h'.get o∧same h h' r):=id rfl
theorem Zt (h):re h [] = .nil:=id rfl
theorem Tn (h o r):re h (o::r)=Tr.set depth (re h r) o (h.get o):=id rfl
theorem Vy (h1 h):ux h1 [] h=h:=id rfl
theorem P4 (h1 o r h):ux h1 (o::r) h=Tr.set depth (ux h1 r h) o (h1.get o):=id rfl
theorem Yi (t ts v vs):i4 (t::ts) (v::vs)=(t,v)::i4 ts vs:=id rfl
theorem Yc (P T f ps A B p Q L0 st0):asi P T f ps A B p Q L0 st0=(Nat.ble p 1000=true∧N4 P T ps A B p Q L0 st0 (I0 (ee L0 f))):=id rfl
theorem aci (P T ps A B p Q L0 st0 g caps):N4 P T ps A B p Q L0 st0 (some (g,caps))=Ml P T ps A B p Q L0 st0 caps (Cw P g):=id rfl
theorem aeu (P T ps A B p Q L0 st0 caps nt code):Ml P T ps A B p Q L0 st0 caps (some (nt,code))=(Nat.ble (caps.length+1) nt=true∧∀ l:Nat,px P T l (oe ps A B L0) p code (acj Q L0) none (cj 0 (.sc (.func (.yield l) #[] #[])::caps)) st0):=id rfl
theorem Yx (g c):I0 (.fn (.func g) [] c)=some (g,c):=id rfl
theorem Gc {P:Program} {T:ff} {l:Nat} {a9:Nat} {L:SL} {st:St} {Q:QI} {ps:List Tmp} {ra rb:Code} {L0:SL} {α:Type} {b:Code} (keep:List Nat) (V : α→List AV) (O : α→List (Option bq)) (I : α→Prop) (μ : α→Nat) (x : α) (hx:I x)
 (hv:dj a9 keep L st=V x) (ho:fp a9 keep L st=O x)
 (step:∀ x,I x→px P T l (oe ps (fun p=>wl P T p ra) (fun p=>wl P T p rb) L0) a9 b (Al (wy a9 keep (fun vs os=>∃ y,I y ∧ μ y < μ x∧vs=V y∧os=O y) (fun _ _ _=>False)) Q) none (i4 keep (V x)) (bj (O x))):px P T l (oe ps (fun p=>wl P T p ra) (fun p=>wl P T p rb) L0) a9 (.loop b) Q none L st:=
 avi (keep:=keep) (V:=V) (O:=O) (I:=I) (μ:=μ) (x:=x) (hx:=hx) (hR:=Ra P T) (hv:=hv) (ho:=ho) (step:=step)
theorem zp {P:Program} {T:ff} {R:Iy} {a9:Nat} {L:SL} {st:St} {o:Oper} {K:Option Ex→SL→St→Prop} {args:Array Operand} (keep:List Nat) (h:Af R (fp a9 keep L st).length args o.dst K (i4 keep (dj a9 keep L st)) (bj (fp a9 keep L st))):Xb P T R a9 o K none L st (some args):=⟨rfl,keep,h⟩
theorem Wc (P:Program):∀ s:Sem Value,ev P (do pure (Next.value (← s)))=(ev P s).map Next.value:=by
 intro s
 induction s with
 |pure b=>rfl
 |program k ih=>exact ih P
 |choose q k ih=>
  simp only [bind,Sem.bind,ev]
  split
  ·exact ih 0
  ·rfl
 |mark m k ih=>exact ih
 |_=>rfl
def af3 (m:M AV):M AV:=m
def aee (a:AV) (m:M AV):M AV:=
 match a.bool with
 |some b=>M.pure (.sc (.bool (!b)))
 |none=>m
theorem ao9 (b:Bool) (m:M AV):aee (.sc (.bool b)) m=M.pure (.sc (.bool (!b))):=id rfl
theorem ayj {a:AV} {b:Bool} (h:a.bool=some b):a = .sc (.bool b):=by
 unfold AV.bool AV.exact pa at h
 cases a with
 |sc v=>cases v<;>simp at h;rw [h]
 |_=>cases h
theorem T4 (P:Program) (ρ:Operand→AV) (d ty pos af gd) (t:TypeId) (x:Operand):lx P ρ ⟨d,.unOp .not t x,ty,pos,af,gd⟩ [x]=aee (ρ x) (af3 (lx P ρ ⟨d,.unOp .not t x,ty,pos,af,gd⟩ [x])):=by
 unfold aee
 split
 ·rename_i b hb
  have hx:=ayj hb
  have h2:execOp (fun z=>((ρ z).jc).getD undef) ⟨d,.unOp .not t x,ty,pos,af,gd⟩=(do pure (Next.value (← Op.unary .not (.bool b)))):=by
   simp only [execOp,hx,AV.jc,Option.getD_some]
  unfold lx mi uj
  simp only [List.all_cons,List.all_nil,hx,AV.jc,Option.isSome_some,Bool.and_true,cond_true]
  rw [h2,Wc]
  rfl
 ·rfl
theorem Xq (P:Program) (T:ff) (ρ:Operand→AV) (d ty pos af gd) (t:TypeId) (x:Operand):i5 P T ⟨d,.unOp .not t x,ty,pos,af,gd⟩ ρ=mono (aee (ρ x) (af3 (lx P ρ ⟨d,.unOp .not t x,ty,pos,af,gd⟩ [x]))):=by
 exact congrArg mono (T4 ..)
theorem akz (P:Program) (T:ff) (L:SL) (st:St) (recs:List Rec) (K:List Rec→SL→St→Prop) (d ty pos af gd) (t x):gp P T ⟨d,.unOp .not t x,ty,pos,af,gd⟩ recs K L st=gb true (reach st.h ga (AV.names.go ([x].map (ee L))) []) ⟨d,.unOp .not t x,ty,pos,af,gd⟩ recs K L st (mono (aee (ee L x) (af3 (lx P (dq ⟨d,.unOp .not t x,ty,pos,af,gd⟩ L) ⟨d,.unOp .not t x,ty,pos,af,gd⟩ [x])))):=by
 rw [aui]
 have h:=T4 P (dq ⟨d,.unOp .not t x,ty,pos,af,gd⟩ L) d ty pos af gd t x
 rw [fg (by simp [Op.operands])] at h
 rw [← h]
theorem Sk (l:List UInt8):bytesOf (l.map Bm)=some l:=by rw [Ff,xr]
theorem Q0 (a b:ByteArray):Cx.pw [.sc (.string a),.sc (.string b)]=M.pure (.sc (goInt (Lib.compareBytes a.data.toList b.data.toList))):=by
 unfold Cx.pw cellsIn
 simp only [Nat.beq_refl,cond_true]
 unfold M.bind M.pure
 simp only [Sk]
 rfl
theorem Oe {α:Type} (C:dm α) (f:Bool) (h:C.sz=1) (ha:C.agg=false) (l:List α):(l.map (C.val f)).flatMap AV.cells=l.map (C.val f):=by
 induction l with
 |nil=>rfl
 |cons x l ih=>
  simp only [List.map_cons,List.flatMap_cons,ih]
  obtain ⟨c,h1,h2,_⟩:=C.one ha f x
  have:C.val f x=c:=by simp [dm.val,ha,h1]
  rw [this,h2];rfl
theorem P5 (f g:Bool) (a b:List UInt8):Cx.pw [.vl f 1 (a.map (bu.val f)),.vl g 1 (b.map (bu.val g))]=M.pure (.sc (goInt (Lib.compareBytes a b))):=by
 unfold Cx.pw cellsIn
 simp only [Nat.beq_refl,cond_true,Oe bu _ rfl rfl]
 unfold M.bind M.pure
 simp only [xr]
 rfl
theorem Rg {L:SL} {d ty pos af gd} {op t u x y}:dq ⟨d,.binOp op t x y u,ty,pos,af,gd⟩ L x=ee L x:=fg (by simp [Op.operands])
theorem Q7 {L:SL} {d ty pos af gd} {op t u x y}:dq ⟨d,.binOp op t x y u,ty,pos,af,gd⟩ L y=ee L y:=fg (by simp [Op.operands])
theorem P7 {L:SL} {d ty pos af gd} {i t x}:dq ⟨d,.index t x i,ty,pos,af,gd⟩ L x=ee L x:=fg (by simp [Op.operands])
theorem Rj {L:SL} {d ty pos af gd} {i t x}:dq ⟨d,.index t x i,ty,pos,af,gd⟩ L i=ee L i:=fg (by simp [Op.operands])
theorem Vf {L:SL} {d ty pos af gd} {h l m t x}:dq ⟨d,.slice t x l h m,ty,pos,af,gd⟩ L x=ee L x:=fg (by simp [Op.operands])
theorem Uv {L:SL} {d ty pos af gd} {h l m t x}:dq ⟨d,.slice t x l (some h) m,ty,pos,af,gd⟩ L h=ee L h:=fg (by simp [Op.operands])
def ajx (P:Program) (ρ:Operand→AV) (o:Oper) (l:List Operand):M AV:=lx P ρ o l
def ach (u:Option TypeDesc) (a ix:AV) (m:M AV):M AV:=
 match u with
 |some .string=>
  match a with
  |.sc (.string s)=>
   match ix with
   |.sc (.int _ n)=>
    match (bif decide (0≤n) then s.data.toList[n.toNat]? else none) with
    |some b=>M.pure (.sc (.int .u8 b.toNat))
    |none=>m
   |_=>m
  |_=>m
 |_=>m
theorem ade (s:ByteArray) (k:IntKind) (n:Int) (m:M AV):ach (some .string) (.sc (.string s)) (.sc (.int k n)) m=match (bif decide (0≤n) then s.data.toList[n.toNat]? else none) with|some b=>M.pure (.sc (.int .u8 b.toNat))|none=>m:=id rfl
theorem N2 (P:Program) (ρ:Operand→AV) (d ty pos af gd) (t:TypeId) (x i:Operand):lx P ρ ⟨d,.index t x i,ty,pos,af,gd⟩ [x,i]=ach (P.underlying t) (ρ x) (ρ i) (ajx P ρ ⟨d,.index t x i,ty,pos,af,gd⟩ [x,i]):=by
 unfold ach
 split
 ·rename_i hu
  split
  ·rename_i s hx
   split
   ·rename_i k n hi
    split
    ·rename_i b hb
     cases h0:decide (0≤n) with
     |false=>rw [h0] at hb;cases hb
     |true=>
     rw [h0,cond_true] at hb
     have h0 : 0≤n:=by simpa using h0
     have hb':s[n.toNat]? = some b:=by
      obtain ⟨h1,h2⟩:=List.getElem?_eq_some_iff.1 hb
      simp at h1
      rw [getElem?_pos s n.toNat (by simpa using h1)]
      rw [← h2];rfl
     have h2:execOp (fun z=>((ρ z).jc).getD undef) ⟨d,.index t x i,ty,pos,af,gd⟩=(do pure (Next.value (← Instr.index t (.string s) (.int k n)))):=by
      simp only [execOp,hx,hi,AV.jc,Option.getD_some]
     unfold lx mi uj
     simp only [List.all_cons,List.all_nil,hx,hi,AV.jc,Option.isSome_some,Bool.and_true,cond_true]
     rw [h2,Wc]
     have h3:ev P (Instr.index t (.string s) (.int k n))=some (.int .u8 b.toNat):=by
      simp [Instr.index,asIntOf,underlying,program,ev,hu,h0,hb',bind,Sem.bind,pure]
     rw [h3]
     rfl
    ·rfl
   ·rfl
  ·rfl
 ·rfl
theorem Ki (a n:Nat):(a:Int).fdiv (n:Int)=((a / n:Nat):Int):=by
 rw [Int.fdiv_eq_ediv_of_nonneg _ (by omega)];rfl
theorem ay7 (a:Nat):(a:Int).fdiv 2=((a / 2:Nat):Int):=Ki a 2
theorem acp (a:Nat):(a:Int).fdiv 256=((a / 256:Nat):Int):=Ki a 256
theorem Vj (a:Nat):(a:Int).fdiv 65536=((a / 65536:Nat):Int):=Ki a 65536
theorem Kk (a:Nat):(a:Int).fdiv 16777216=((a / 16777216:Nat):Int):=Ki a 16777216
theorem agm (f:Nat) (m) (T:ff):ff.find ((f,m)::T) f=some m:=by simp [ff.find]
theorem Zc (f g:Nat) (m) (T:ff) (h:(f == g)=false):ff.find ((f,m)::T) g=ff.find T g:=by
 have e:f≠g:=by simpa using h
 simp [ff.find,qa e]
end
end Go.Vm
end
namespace Go.Vm
variable [TK]
noncomputable section
def Ca (P:Program) (t:TypeId):Option (Nat × Nat × Nat):=
 match pn P t with
 |some e=>
  match dt P e,k9 P e,gi P e with
  |some sz,some bytes,some z=>bif Nat.blt 0 sz && Nat.blt 0 bytes && Nat.beq z.cells.size sz then some (e,sz,bytes) else none
  |_,_,_=>none
 |none=>none
def aez (q:Option (Nat × Nat × Nat)) (s x:AV):M AV:=
 match q with
 |some (e,sz,bytes)=>(cellsIn sz x).bind (tj e sz bytes s)
 |none=>M.fail
theorem arx (e sz bytes s x):aez (some (e,sz,bytes)) s x=(cellsIn sz x).bind (tj e sz bytes s):=id rfl
theorem S8 (P:Program) (t e:TypeId) (s x:AV):qw P (some t) (some (.slice e)) s x=aez (Ca P t) s x:=by
 unfold qw aez Ca
 simp only [Option.bind_some]
 cases pn P t with
 |none=>rfl
 |some e=>
  simp only
  cases dt P e with
  |none=>rfl
  |some sz=>
   cases k9 P e with
   |none=>rfl
   |some bytes=>
    cases gi P e with
    |none=>rfl
    |some z=>
     simp only
     cases (Nat.blt 0 sz && Nat.blt 0 bytes && Nat.beq z.cells.size sz)<;>rfl
theorem Ts (P:Program) (t:TypeId) (s x:AV):qw P (some t) (some .string) s x=aez (Ca P t) s x:=by
 unfold qw aez Ca
 simp only [Option.bind_some]
 cases pn P t with
 |none=>rfl
 |some e=>
  simp only
  cases dt P e with
  |none=>rfl
  |some sz=>
   cases k9 P e with
   |none=>rfl
   |some bytes=>
    cases gi P e with
    |none=>rfl
    |some z=>
     simp only
     cases (Nat.blt 0 sz && Nat.blt 0 bytes && Nat.beq z.cells.size sz)<;>rfl
theorem Qi (e sz bytes new):tj e sz bytes (.sc (.slice none 0 0)) new=bif new.isEmpty then M.pure (.sc (.slice none 0 0)) else bif Nat.ble (new.length * bytes) 140737488355328 then ub e sz (new.length / sz) new else M.fail:=id rfl
theorem Tk (e sz bytes o off len sz' new):tj e sz bytes (.sl o off len sz') new=bif Nat.beq sz sz' then (ew o).bind (Gg e sz bytes o off len new) else M.fail:=id rfl
theorem Ps (e sz bytes o off len new cells k st et):Gg e sz bytes o off len new (.row cells k st et)=(bif Nat.beq et e && new.all AV.one && Nat.ble (off+len * sz) cells.length && Nat.ble ((len * sz+new.length) * bytes) 140737488355328 then
 bif Nat.ble k (off+len * sz) then
  (Kg o).bind fun _=>(j3 (.row ((cells.take (off+len * sz)).drop off++new) (k - off) (n7 (l9 off (len * sz) cells.length) st) et)).bind fun id=>M.pure (.sl id 0 (len+new.length / sz) sz)
 else bif new.isEmpty then M.pure (.sl o off len sz)
 else M.fail
 else M.fail):=id rfl
theorem awv:n7 true 0=0:=id rfl
theorem ak0 (n):l9 0 n n=true:=by simp [l9]
theorem ajj (n m):l9 0 n m=Nat.beq n m:=id rfl
def cellsOf {α:Type} (C:dm α) (f:Bool) (xs:List α):List AV:=xs.flatMap (C.cells f)
theorem Qd {α:Type} (C:dm α) (f):cellsOf C f []=[]:=id rfl
theorem jv {α:Type} (C:dm α) (f) (xs:List α):(cellsOf C f xs).length=xs.length * C.sz:=by
 induction xs with
 |nil=>simp [cellsOf]
 |cons x xs ih=>
  simp only [cellsOf] at ih
  simp [cellsOf,C.len,ih,Nat.succ_mul];omega
theorem xk {α:Type} (C:dm α) (f) (xs ys:List α):cellsOf C f (xs++ys)=cellsOf C f xs++cellsOf C f ys:=by simp [cellsOf]
theorem Qb {α:Type} (C:dm α) (f) (x : α):cellsOf C f [x]=C.cells f x:=by simp [cellsOf]
theorem xj {α:Type} (C:dm α) (f) (xs:List α):(cellsOf C f xs).all AV.one=true:=by
 rw [List.all_eq_true]
 intro c hc
 obtain ⟨x,_,hx⟩:=List.mem_flatMap.1 hc
 exact (C.pl f x c hx).one
theorem Kl {α:Type} (C:dm α) (f) (xs:List α):AV.names.go (cellsOf C f xs)=[]:=Ha (fun c hc=>by
 obtain ⟨x,_,hx⟩:=List.mem_flatMap.1 hc
 exact (C.pl f x c hx).names)
theorem Q9 {α:Type} (C:dm α) (τ) (f) (xs:List α):(cellsOf C f xs).map (AV.dp τ)=cellsOf C f xs:=by
 rw [← k5]
 exact Sd (fun c hc=>by
  obtain ⟨x,_,hx⟩:=List.mem_flatMap.1 hc
  exact (C.pl f x c hx).dp τ)
theorem Aw {α:Type} (C:dm α) (f) (xs:List α) (i:Nat):(cellsOf C f xs).drop (i * C.sz)=cellsOf C f (xs.drop i):=by
 induction xs generalizing i with
 |nil=>simp [cellsOf]
 |cons x xs ih=>
  cases i with
  |zero=>simp
  |succ i=>
   have:(i+1) * C.sz=C.sz+i * C.sz:=by rw [Nat.succ_mul];omega
   rw [this,← List.drop_drop]
   have h1:(cellsOf C f (x::xs)).drop C.sz=cellsOf C f xs:=by
    have h2:cellsOf C f (x::xs)=C.cells f x++cellsOf C f xs:=by simp [cellsOf]
    rw [h2,← C.len f x,List.drop_left]
   rw [h1,ih,List.drop_succ_cons]
theorem F2 {α:Type} (C:dm α) (f) (xs:List α) (i:Nat):(cellsOf C f xs).take (i * C.sz)=cellsOf C f (xs.take i):=by
 induction xs generalizing i with
 |nil=>simp [cellsOf]
 |cons x xs ih=>
  cases i with
  |zero=>simp [cellsOf]
  |succ i=>
   have h2:cellsOf C f (x::xs)=C.cells f x++cellsOf C f xs:=by simp [cellsOf]
   have:(i+1) * C.sz=(C.cells f x).length+i * C.sz:=by rw [Nat.succ_mul,C.len];omega
   rw [h2,this,List.take_length_add_append,ih,List.take_succ_cons]
   simp [cellsOf]
theorem zx {α:Type} (C:dm α) (f) (x : α) (xs:List α):cellsOf C f (x::xs)=C.cells f x++cellsOf C f xs:=by simp [cellsOf]
theorem Ce {α:Type} {xs:List α} {i:Nat} {x : α} (h:xs[i]? = some x):xs.drop i=x::xs.drop (i+1):=by
 obtain ⟨h1,h2⟩:=List.getElem?_eq_some_iff.1 h
 rw [← h2];exact List.drop_eq_getElem_cons h1
theorem Rx {α:Type} (C:dm α) (f) (xs:List α):(xs.map (C.val f)).flatMap AV.cells=cellsOf C f xs:=by
 rw [List.flatMap_map];congr 1;funext x;exact C.yw f x
def A9 (fr:Bool) (st sz:Nat) (kd:LK) (et:TypeId):Bool:=!fr || (Nat.beq st 0 && Nk sz kd et)
theorem awb (st sz kd et):A9 false st sz kd et=true:=id rfl
theorem awk (sz kd et):A9 true 0 sz kd et=Nk sz kd et:=id rfl
theorem Wd {fr:Bool} {st n sz:Nat} {kd:LK} {et:TypeId} (h:A9 fr st sz kd et=true):x5 fr sz kd st 0 (n * sz) n et=true:=by
 cases fr with
 |false=>rfl
 |true=>
  simp only [A9,Bool.not_true,Bool.false_or,Bool.and_eq_true] at h
  simp [x5,h.1,h.2]
theorem ku {α:Type} (C:dm α) (fr:Bool) (h:Tr bq) (f:Bool) (xs:List α) (k st et) (n:Nat) (hn:n=xs.length) (hf:(f || !fr)=true) (hro:A9 fr st C.sz C.kd et=true):kj C fr h 0 n (.row (cellsOf C f xs) k st et)=some xs:=by
 subst hn
 simp only [kj,Nat.zero_add,jv,Nat.ble_self_eq_true,Bool.true_and,Wd hro,cond_true,List.drop_zero]
 have:(cellsOf C f xs).take (xs.length * C.sz)=cellsOf C f xs:=List.take_of_length_le (by rw [jv];exact Nat.le_refl _)
 rw [this]
 exact Y8 C fr h f (fun e=>by subst e;simpa using hf) xs
theorem Ux {α:Type} (C:dm α) (fr h k st et) (hro:A9 fr st C.sz C.kd et=true):kj C fr h 0 0 (.row [] k st et)=some []:=by
 have h0:x5 fr C.sz C.kd st 0 0 0 et=true:=by have:=Wd (n:=0) hro;rwa [Nat.zero_mul] at this
 have h1:Nat.ble 0 0=true:=rfl
 simp [kj,xg,h0,h1]
def qy {α:Type} (C:dm α) (fr:Bool) (h:Tr bq):List AV→Option (List α)
 | []=>some []
 |a::l=>match C.dec fr h [a],qy C fr h l with
  |some x,some xs=>some (x::xs)
  |_,_=>none
def azp {α:Type} (a b:Option (List α)):Option (List α):=match a,b with|some x,some y=>some (x++y)|_,_=>none
def awr {α:Type} (a:Option α) (b:Option (List α)):Option (List α):=match a,b with|some x,some y=>some (x::y)|_,_=>none
theorem asx {α:Type} (a b:List α):azp (some a) (some b)=some (a++b):=id rfl
theorem aji {α:Type} (a : α) (b:List α):awr (some a) (some b)=some (a::b):=id rfl
theorem Ro {α:Type} (C:dm α) (fr h):qy C fr h []=some []:=id rfl
theorem G6 {α:Type} (C:dm α) (fr h a l):qy C fr h (a::l)=awr (C.dec fr h [a]) (qy C fr h l):=id rfl
theorem Rw {α:Type} (C:dm α) (fr h):∀ a b,qy C fr h (a++b)=azp (qy C fr h a) (qy C fr h b)
 | [],b=>by
  simp only [List.nil_append,Ro]
  cases qy C fr h b<;>rfl
 |x::a,b=>by
  simp only [List.cons_append,G6,Rw C fr h a b]
  cases C.dec fr h [x]<;>cases qy C fr h a<;>cases qy C fr h b<;>rfl
theorem adk {α:Type} (C:dm α) (hz:C.sz=1) (fr h):∀ cells:List AV,xg C fr h cells.length cells=qy C fr h cells
 | []=>rfl
 |a::l=>by
  have h1:(a::l).take C.sz=[a]:=by rw [hz];rfl
  have h2:(a::l).drop C.sz=l:=by rw [hz];rfl
  simp only [List.length_cons,xg,h1,h2,adk C hz fr h l]
  rfl
theorem wm {α:Type} (C:dm α) (hz:C.sz=1) (fr h n cells k st et) (hn:n=cells.length) (hro:A9 fr st 1 C.kd et=true):kj C fr h 0 n (.row cells k st et)=qy C fr h cells:=by
 subst hn
 have h0:x5 fr 1 C.kd st 0 cells.length cells.length et=true:=by have:=Wd (n:=cells.length) hro;rwa [Nat.mul_one] at this
 simp only [kj,hz,Nat.mul_one,Nat.zero_add,Nat.ble_self_eq_true,Bool.true_and,h0,cond_true,List.drop_zero,List.take_length]
 exact adk C hz fr h cells
theorem E2 {α:Type} (C:dm α) (hz:C.sz=1) (ha:C.agg=false) (fr h f) (hf:fr=true→f=true):∀ l:List α,qy C fr h (l.map (C.val f))=some l
 | []=>rfl
 |x::l=>by
  obtain ⟨c,h1,_⟩:=C.one ha f x
  have hv:C.val f x=c:=by simp [dm.val,ha,h1]
  have hd:=C.rt fr h f x hf
  rw [h1] at hd
  rw [List.map_cons,G6,E2 C hz ha fr h f hf l,hv,hd];rfl
theorem aek {α β:Type} (f : α → β) (l:List α) (n:Nat):(l.map f).take n=(l.take n).map f:=List.map_take.symm
theorem ags {α β:Type} (f : α → β) (l:List α) (n:Nat):(l.map f).drop n=(l.drop n).map f:=List.map_drop.symm
theorem Fu {α β:Type} (f : α → β) (l:List α):(l.map f).isEmpty=l.isEmpty:=by cases l<;>rfl
theorem Gb {α:Type} (l:List α) (x : α):(l++[x]).isEmpty=false:=by cases l<;>rfl
theorem Ix (a b:List AV):AV.names.go (a++b)=AV.names.go a++AV.names.go b:=by
 induction a with
 |nil=>rfl
 |cons x a ih=>simp only [List.cons_append,AV.names.go,ih,List.append_assoc]
theorem rtT {α:Type} (C:dm α) (h:Tr bq) (x : α):C.jf true h (C.val true x)=some x:=C.Od true h true x (fun _=>rfl)
theorem rtF {α:Type} (C:dm α) (h:Tr bq) (l:Bool) (x : α):C.jf false h (C.val l x)=some x:=C.Od false h l x (fun e=>by cases e)
theorem adu (s:ByteArray):s.data.toList.length=s.size:=by simp
theorem aje {α:Type} {l:List α} {n:Nat} (h:l.length≤n):l.take n=l:=List.take_of_length_le h
theorem azc {α:Type} (C:dm α) (fr:Bool) (h:Tr bq) (x : α):C.jf fr h (C.val fr x)=some x:=C.Od fr h fr x (fun e=>e)
theorem bf {a b:Nat} (h:a≤b):decide (a≤b)=true:=by simpa using h
theorem bg {a b:Nat} (h:a<b):decide (a<b)=true:=by simpa using h
theorem be {a b:Int} (h:a≤b):decide (a≤b)=true:=by simpa using h
theorem bb {a b:Int} (h:a<b):decide (a<b)=true:=by simpa using h
theorem ag (x:Int) (h0 : -9223372036854775808≤x) (h1:x<9223372036854775808):IntKind.i64.wrap x=x:=by
 simp [IntKind.wrap,IntKind.bits,IntKind.signed];omega
theorem arq (n:Nat):IntKind.u8.wrap (n:Int)=((UInt8.ofNat n).toNat:Int):=by simp [IntKind.wrap,IntKind.bits,IntKind.signed]
theorem aw {p:Prop} [Decidable p] {X Y:SL→St→Prop} {L st}:vu (.sc (.bool (decide p))) X Y L st=((p→X L st)∧(¬ p→Y L st)):=by
 by_cases h:p<;>simp [h,H0,Ij]
theorem cp {a b:Int} {X Y:SL→St→Prop} {L st}:vu (.sc (.bool (a == b))) X Y L st=(((a == b)=true∧a=b→X L st)∧((a == b)=false∧a≠b→Y L st)):=by
 by_cases h:a=b
 ·subst h;simp [H0]
 ·have:(a == b)=false:=by simpa using h
  simp [h,this,Ij]
theorem c9 {a b:Int} {X Y:SL→St→Prop} {L st}:vu (.sc (.bool (a != b))) X Y L st=(((a != b)=true∧a≠b→X L st)∧((a != b)=false∧a=b→Y L st)):=by
 by_cases h:a=b
 ·subst h;simp [Ij]
 ·have:(a != b)=true:=by simpa using h
  simp [h,this,H0]
theorem Za (P:Program) (T:ff) (ρ:Operand→AV) (d ty pos af gd) (x ts):i5 P T ⟨d,.call { callee:=.builtin .cap,args:=#[x],argTypes:=ts },ty,pos,af,gd⟩ ρ=mono (Jq ((ts[0]?).bind P.underlying) (ρ x)):=id rfl
theorem Y1 (e a n c):Jq (some (.slice e)) (.sc (.slice a n c))=M.pure (.sc (goInt c)):=id rfl
def aus (P:Program) (q:Option (Nat × Nat × Nat)) (s x:AV):M AV:=
 match q with
 |some (e,sz,bytes)=>
  match Eu P e sz x with
  |some new=>tj e sz bytes s new
  |none=>M.fail
 |none=>M.fail
theorem ash (P:Program) (e sz bytes s x):aus P (some (e,sz,bytes)) s x=match Eu P e sz x with|some new=>tj e sz bytes s new|none=>M.fail:=id rfl
theorem Ss (P:Program) (t:TypeId) (k:IntKind) (s x:AV):qw P (some t) (some (.int k)) s x=aus P (Ca P t) s x:=by
 unfold qw aus Ca
 simp only [Option.bind_some]
 cases pn P t with
 |none=>rfl
 |some e=>
  simp only
  cases dt P e with
  |none=>rfl
  |some sz=>
   cases k9 P e with
   |none=>rfl
   |some bytes=>
    cases gi P e with
    |none=>rfl
    |some z=>
     simp only
     cases (Nat.blt 0 sz && Nat.blt 0 bytes && Nat.beq z.cells.size sz)<;>rfl
def acg (z:Option Value) (sz:Nat) (n:Int):Option (List AV):=
 match z with
 |some z=>bif decide (0≤n) && decide (n≤1073741824) && Nat.beq z.cells.size sz then some ((List.replicate n.toNat (z.cells.toList.map AV.sc)).flatten) else none
 |none=>none
theorem ac0 (z sz n):acg (some z) sz n=bif decide (0≤n) && decide (n≤1073741824) && Nat.beq z.cells.size sz then some ((List.replicate n.toNat (z.cells.toList.map AV.sc)).flatten) else none:=id rfl
theorem Yk (P:Program) (e sz:Nat) (k:IntKind) (n:Int):Eu P e sz (.sc (.int k n))=acg (gi P e) sz n:=by
 simp only [Eu,acg,xd,AV.int,AV.exact,Option.bind_some,intOf,Option.map_some]
 cases gi P e<;>rfl
theorem akq {α:Type} (n:Nat) (x : α):(List.replicate n [x]).flatten=List.replicate n x:=by
 induction n with
 |zero=>rfl
 |succ n ih=>simp [List.replicate_succ,ih]
theorem Qs {α:Type} {n:Nat} {x : α} (h : 0<n):(List.replicate n x).isEmpty=false:=by
 cases n with
 |zero=>omega
 |succ n=>rfl
theorem nc0:((0:Nat):Int)=0:=id rfl
theorem nc1:((1:Nat):Int)=1:=id rfl
theorem as1 (n:Nat):List.replicate n (AV.sc (.int .u8 0))=(List.replicate n (0:UInt8)).map (bu.val false):=by rw [List.map_replicate];rfl
def aov (P:Program) (u:Option TypeDesc) (x hi:AV) (m:M AV):M AV:=
 match u with
 |some (.slice e)=>
  match dt P e with
  |some _=>
   match x with
   |.sc (.slice none 0 0)=>
    match hi with
    |.sc (.int .i64 0)=>M.pure (.sc (.slice none 0 0))
    |_=>m
   |_=>m
  |none=>m
 |_=>m
theorem asu (P:Program) (e m) (h:(dt P e).isSome=true):aov P (some (.slice e)) (.sc (.slice none 0 0)) (.sc (.int .i64 0)) m=M.pure (.sc (.slice none 0 0)):=by
 obtain ⟨n,hn⟩:=Option.isSome_iff_exists.1 h
 simp only [aov,hn]
theorem G2 (P:Program) (ρ:Operand→AV) (d ty pos af gd) (t:TypeId) (x h:Operand):lx P ρ ⟨d,.slice t x none (some h) none,ty,pos,af,gd⟩ (.slice t x none (some h) none:Op).operands.toList=aov P (P.underlying t) (ρ x) (ρ h) (ajx P ρ ⟨d,.slice t x none (some h) none,ty,pos,af,gd⟩ (.slice t x none (some h) none:Op).operands.toList):=by
 unfold aov
 split
 ·rename_i e hu
  split
  ·rename_i n hn
   split
   ·rename_i hx
    split
    ·rename_i hh
     have h2:execOp (fun z=>((ρ z).jc).getD undef) ⟨d,.slice t x none (some h) none,ty,pos,af,gd⟩=(do pure (Next.value (← Instr.sliceAt t (.slice none 0 0) none (some (.int .i64 0)) none))):=by
      simp only [execOp,hx,hh,AV.jc,Option.getD_some,Option.map_some,Option.map_none]
     have hi:∃ i,P.info? e=some i:=by
      unfold dt at hn
      cases hq:P.info? e with
      |none=>rw [hq] at hn;cases hn
      |some i=>exact ⟨i,rfl⟩
     obtain ⟨i,hi⟩:=hi
     have h3:ev P (Instr.sliceAt t (.slice none 0 0) none (some (.int .i64 0)) none)=some (.slice none 0 0):=by
      simp [Instr.sliceAt,Instr.slice,Instr.sliceBounds,Instr.sliceBound,asIntOf,underlying,program,ev,hu,sizeOf,typeInfo,hi,bind,Sem.bind,pure]
     unfold lx mi uj
     simp only [Op.operands]
     simp [hx,hh,AV.jc]
     rw [h2,Wc,h3]
     rfl
    ·rfl
   ·rfl
  ·rfl
 ·rfl
def as6 {α:Type} (o sz:Nat) (l:List α):AV:=bif l.isEmpty then .sc (.slice none 0 0) else .sl o 0 l.length sz
def alk (cells:List AV) (k st:Nat) (et:TypeId):List (Option bq):=bif cells.isEmpty then [] else [some (.row cells k st et)]
theorem ar9 {α:Type} {o sz} {l:List α} (h:l.isEmpty=false):as6 o sz l = .sl o 0 l.length sz:=by simp [as6,h]
theorem Xo {α:Type} (o sz) (l:List α) (c : α):as6 o sz (l++[c]) = .sl o 0 (l.length+1) sz:=by rw [ar9 (Gb l c)];simp
theorem ap2 {cells:List AV} {k st et} (h:cells.isEmpty=false):alk cells k st et=[some (.row cells k st et)]:=by simp [alk,h]
theorem ato {α:Type} {f : α→AV} {l:List α} {k st et} (h:l.isEmpty=false):alk (l.map f) k st et=[some (.row (l.map f) k st et)]:=ap2 (by rw [Fu,h])
theorem Z1 {α:Type} (f : α→AV) (l:List α) (c : α) (k st et):alk ((l++[c]).map f) k st et=[some (.row (l.map f++[f c]) k st et)]:=by rw [ato (Gb l c)];simp
theorem dx {α:Type} {l:List α} {i:Nat} (h:decide ((i:Int)<(l.length:Int))=true):∃ c,l[i]? = some c∧l.drop i=c::l.drop (i+1)∧i<l.length:=by
 have h1:i<l.length:=by simp at h;omega
 exact ⟨l[i],List.getElem?_eq_getElem h1,List.drop_eq_getElem_cons h1,h1⟩
theorem fl {α:Type} {l:List α} {i:Nat} (h:decide ((i:Int)<(l.length:Int))=false):l.drop i=[]:=by
 have h1:¬ i<l.length:=by simp at h;omega
 exact List.drop_eq_nil_of_le (by omega)
def x8 (D:List Nat):Nat→List (Option bq)→List (Option bq)
 |_,[]=>[]
 |i,x::r=>(bif By i D then x else none)::x8 D (i+1) r
def z6 (D:List Nat):Nat→List (Option bq)→List (Option bq)
 |_,[]=>[]
 |i,x::r=>(bif By i D then none else x)::z6 D (i+1) r
theorem Z7 (D):∀ (i:Nat) (os:List (Option bq)),(x8 D i os).length=os.length
 |_,[]=>rfl
 |i,x::r=>by simp [x8,Z7 D (i+1) r]
theorem My (D):∀ (i:Nat) (os:List (Option bq)),(z6 D i os).length=os.length
 |_,[]=>rfl
 |i,x::r=>by simp [z6,My D (i+1) r]
theorem Y2 (D):∀ (os:List (Option bq)) (i j:Nat),((x8 D i os)[j]?).join=if (i+j) ∈ D then (os[j]?).join else none
 | [],i,j=>by simp [x8]
 |x::r,i,0=>by
  simp only [x8,List.getElem?_cons_zero,Option.join_some,Nat.add_zero]
  cases hb:By i D with
  |true=>rw [if_pos ((yg i D).1 hb)];rfl
  |false=>rw [if_neg (fun h=>by rw [(yg i D).2 h] at hb;cases hb)];rfl
 |x::r,i,j+1=>by
  simp only [x8,List.getElem?_cons_succ]
  rw [Y2 D r (i+1) j,show i+1+j=i+(j+1) from by omega]
theorem Z5 (D):∀ (os:List (Option bq)) (i j:Nat),((z6 D i os)[j]?).join=if (i+j) ∈ D then none else (os[j]?).join
 | [],i,j=>by simp [z6]
 |x::r,i,0=>by
  simp only [z6,List.getElem?_cons_zero,Option.join_some,Nat.add_zero]
  cases hb:By i D with
  |true=>rw [if_pos ((yg i D).1 hb)];rfl
  |false=>rw [if_neg (fun h=>by rw [(yg i D).2 h] at hb;cases hb)];rfl
 |x::r,i,j+1=>by
  simp only [z6,List.getElem?_cons_succ]
  rw [Z5 D r (i+1) j,show i+1+j=i+(j+1) from by omega]
theorem W5 (os:List (Option bq)) (h:os.length≤dk) (o:Nat):(bj os).h.get o=(os[o]?).join:=by
 simp only [bj]
 rw [tt _ _ _ (by omega),if_pos (Nat.zero_le _),Nat.sub_zero]
inductive fe (h:Tr bq):AV→AV→Prop
 |same (a:AV):fe h a a
 |data {α:Type} (C:dm α) (fr:Bool) (x : α) (a:AV) (hd:C.jf fr h a=some x):fe h a (C.val fr x)
 |bad (a:AV):fe h a .bad
 |nil (o off sz:Nat):fe h (.sc (.slice none 0 0)) (.sl o off 0 sz)
 |lu (loc:Bool) (sz:Nat):fe h (.sc (.slice none 0 0)) (.vl loc sz [])
inductive ef (h:Tr bq):List AV→List AV→Prop
 |nil:ef h [] []
 |cons {a b:AV} {l m:List AV} (h1:fe h a b) (h2:ef h l m):ef h (a::l) (b::m)
theorem ef.len {h l m} (hl:ef h l m):m.length=l.length:=by
 induction hl with
 |nil=>rfl
 |cons _ _ ih=>simp [ih]
theorem ef.refl (h):∀ l,ef h l l
 | []=>.nil
 |a::l=>.cons (.same a) (ef.refl h l)
theorem ef.get {h l m} (hl:ef h l m):∀ (i:Nat) b,m[i]? = some b→∃ a,l[i]? = some a∧fe h a b:=by
 induction hl with
 |nil=>intro i b hb;simp at hb
 |cons h1 h2 ih=>
  intro i b hb
  cases i with
  |zero=>simp at hb;subst hb;exact ⟨_,rfl,h1⟩
  |succ i=>exact ih i b (by simpa using hb)
inductive b9 (h:Tr bq):List (Option bq)→List (Option bq)→Prop
 |nil:b9 h [] []
 |ghost {st et m} (h2:b9 h [] m):b9 h [] (some (.row [] 0 st et)::m)
 |same {x l m} (h2:b9 h l m):b9 h (x::l) (x::m)
 |gone {x l m} (h2:b9 h l m):b9 h (x::l) (none::m)
 |row {cells cells' k st et l m} (h1:ef h cells cells') (h2:b9 h l m):b9 h (some (.row cells k st et)::l) (some (.row cells' k st et)::m)
theorem b9.refl (h):∀ l,b9 h l l
 | []=>.nil
 |x::l=>.same (b9.refl h l)
theorem b9.len {h l m} (hl:b9 h l m):l.length≤m.length:=by induction hl<;>simp_all
theorem b9.get {h l m} (hl:b9 h l m):∀ (i:Nat) y,(m[i]?).join=some y→(l[i]?).join=some y∨(∃ cells cells' k st et,y = .row cells' k st et∧(l[i]?).join=some (.row cells k st et)∧ef h cells cells')∨(l.length≤i∧Hx y):=by
 induction hl with
 |nil=>intro i y hy;simp at hy
 | @ghost st et m h2 ih=>
  intro i y hy
  cases i with
  |zero=>simp at hy;subst hy;exact .inr (.inr ⟨Nat.le_refl _,st,et,rfl⟩)
  |succ i=>exact .inr (.inr ⟨Nat.zero_le _,(by
   rcases ih i y (by simpa using hy) with h|⟨_,_,_,_,_,_,h,_⟩|h
   ·simp at h
   ·simp at h
   ·exact h.2)⟩)
 |same h2 ih=>
  intro i y hy
  cases i with
  |zero=>exact .inl hy
  |succ i=>exact (ih i y (by simpa using hy)).imp id (Or.imp id (fun h=>⟨Nat.succ_le_succ h.1,h.2⟩))
 |gone h2 ih=>
  intro i y hy
  cases i with
  |zero=>simp at hy
  |succ i=>exact (ih i y (by simpa using hy)).imp id (Or.imp id (fun h=>⟨Nat.succ_le_succ h.1,h.2⟩))
 |row h1 h2 ih=>
  intro i y hy
  cases i with
  |zero=>simp at hy;subst hy;exact .inr (.inl ⟨_,_,_,_,_,rfl,rfl,h1⟩)
  |succ i=>exact (ih i y (by simpa using hy)).imp id (Or.imp id (fun h=>⟨Nat.succ_le_succ h.1,h.2⟩))
theorem ji.lax {vs vs':List AV} {os os':List (Option bq)} {a9:Nat} (D:List Nat) (hlen':os'.length≤dk) (hv:ef (bj (x8 D 0 os)).h vs vs') (ho:b9 (bj (x8 D 0 os)).h (z6 D 0 os) os'):ji a9 vs os vs' os':=by
 have holen:os.length≤os'.length:=by have:=ho.len;rw [My] at this;exact this
 have hlen:os.length≤dk:=Nat.le_trans holen hlen'
 refine ⟨hv.len,fun q=>Nat.le_trans q holen,fun g w us hok hfree hr=>?_⟩
 obtain ⟨hD,ehD⟩:∃ hD,(bj (x8 D 0 os)).h=hD:=⟨_,rfl⟩
 rw [ehD] at hv ho
 have ew:∀ o,(bj os).h.get o=(os[o]?).join:=W5 os hlen
 have hgetD:∀ o,hD.get o=if o ∈ D then (os[o]?).join else none:=fun o=>by
  rw [← ehD,W5 _ (by rw [Z7];exact hlen),Y2,Nat.zero_add]
 have hget':∀ o y,(bj os').h.get o=some y→(o ∉ D∧((bj os).h.get o=some y∨∃ cells cells' k st et,y = .row cells' k st et∧(bj os).h.get o=some (.row cells k st et)∧ef hD cells cells'))∨(os.length≤o∧Hx y):=fun o y hy=>by
  rw [W5 _ hlen'] at hy
  have hmid:∀ z,((z6 D 0 os)[o]?).join=some z→o ∉ D∧(os[o]?).join=some z:=fun z hz=>by
   rw [Z5,Nat.zero_add] at hz
   by_cases hd:o ∈ D
   ·rw [if_pos hd] at hz;cases hz
   ·rw [if_neg hd] at hz;exact ⟨hd,hz⟩
  rw [ew]
  rcases ho.get o y hy with h1|⟨cells,cells',k,st,et,h1,h2,h3⟩|h1
  ·exact .inl ⟨(hmid _ h1).1,.inl (hmid _ h1).2⟩
  ·exact .inl ⟨(hmid _ h2).1,.inr ⟨cells,cells',k,st,et,h1,(hmid _ h2).2,h3⟩⟩
  ·rw [My] at h1;exact .inr h1
 have hsub:∀ o x,hD.get o=some x→o ∈ D∧(bj os).h.get o=some x:=fun o x hx=>by
  rw [hgetD] at hx
  by_cases hd:o ∈ D
  ·rw [if_pos hd] at hx;rw [ew];exact ⟨hd,hx⟩
  ·rw [if_neg hd] at hx;cases hx
 have hokD:Ok g hD w:=hok.part (fun o x hx=>(hsub o x hx).2)
 obtain ⟨K',eK⟩:∃ K':Nat→Nat→Prop,(fun b j=>g.K b j∨∃ o base cells k s e,hD.get o=some (.row cells k s e)∧g.inj o=some (b,base)∧∃ i,(s=0∨i<cells.length)∧j=base+i)=K':=⟨_,rfl⟩
 have hK':∀ b j,K' b j↔(g.K b j∨∃ o base cells k s e,hD.get o=some (.row cells k s e)∧g.inj o=some (b,base)∧∃ i,(s=0∨i<cells.length)∧j=base+i):=fun b j=>by rw [← eK]
 have hlend:wk g hD K':=⟨fun b j h=>(hK' b j).2 (.inl h),fun o cells k s e h b base hi j hj=>(hK' _ _).2 (.inr ⟨o,base,cells,k,s,e,h,hi,j,hj,rfl⟩)⟩
 have hlax:∀ {a b:AV} {v:Value},fe hD a b→Rel g w a v→Rel { g with K:=K' } w b v:=fun {a b v} hl hrel=>by
  have hup:Rel { g with K:=K' } w a v:=Rel.ext (g:=g) (w:=w) (g':={ g with K:=K' }) (w':=w) ⟨rfl,fun _ _ h=>h,fun b j h=>(hK' b j).2 (.inl h),fun _ _ _=>rfl,fun b cs e fr h=>⟨cs,fr,h,rfl⟩,fun b l h=>⟨l,h⟩,fun _ _ _ _ _ _=>rfl⟩ hrel
  cases hl with
  |same=>exact hup
  |data C fr x a hd=>exact (C.Yr hokD hlend (fun _=>Nat.le_refl g.b0) hrel hd).lift (Nat.le_refl _) (fun _ _ h=>h)
  |bad=>exact .bad _
  |nil o off sz=>obtain rfl:=hup.exact rfl;exact .vt _ _ _
  |lu loc sz=>obtain rfl:=hup.exact rfl;exact .k8 _ _
 refine ⟨{ g with K:=K' },⟨hok.size,fun o y hy=>?_,fun o o' x x' b base base' hne hx hx' hb hb'=>?_,fun b j hk=>?_⟩,⟨by rw [hv.len];exact hr.1,fun i b v hb hv'=>?_⟩,rfl,fun o q=>hfree o (Nat.le_trans holen q),fun _ _=>rfl,fun b j h=>(hK' b j).2 (.inl h),fun o b base ho' hi'=>?_,fun b j hk=>?_⟩
 ·rcases hget' o y hy with ⟨hnd,hy⟩|⟨hge,hgh⟩
  case inr=>exact .inl ⟨hfree o hge,hgh⟩
  have hKo:∀ b base,g.inj o=some (b,base)→((bj os).h.get o).isSome=true→∀ j,K' b j→g.K b j:=fun b base hi hs j hk=>by
   rcases (hK' b j).1 hk with h|⟨o2,base2,cells,k,s,e,h1,h2,_⟩
   ·exact h
   ·exfalso
    obtain ⟨hd2,h1'⟩:=hsub o2 _ h1
    obtain ⟨x,hx⟩:=Option.isSome_iff_exists.1 hs
    exact hok.sep o o2 x _ b base base2 (fun e=>hnd (by rw [e];exact hd2)) hx h1' hi h2
  have hext:Ext g w { g with K:=K' } w:=⟨rfl,fun _ _ h=>h,fun b j h=>(hK' b j).2 (.inl h),fun _ _ _=>rfl,fun b cs e fr h=>⟨cs,fr,h,rfl⟩,fun b l h=>⟨l,h⟩,fun _ _ _ _ _ _=>rfl⟩
  rcases hy with hy|⟨cells,cells',k,st,et,rfl,hy,hcl⟩
  ·refine (hok.oi o y hy).imp id ?_
   rintro ⟨b,base,h1,h2,h3⟩
   exact ⟨b,base,h1,h2,h3.ext hext rfl (fun j hj=>hKo b base h1 (by rw [hy];rfl) j hj)⟩
  ·refine (hok.oi o _ hy).imp (fun q=>⟨q.1,by
    obtain ⟨s0,e0,he⟩:=q.2
    simp only [bq.row.injEq] at he
    obtain ⟨rfl,rfl,rfl,rfl⟩:=he
    cases hcl
    exact ⟨_,_,rfl⟩⟩) ?_
   rintro ⟨b,base,h1,h2,cs,fr,r1,r2,r3,r4,r5,r6,r7⟩
   refine ⟨b,base,h1,h2,cs,fr,r1,by rw [hcl.len];exact r2,fun j c hc=>?_,r4,fun j hj=>r5 j (hKo b base h1 (by rw [hy];rfl) j hj),r6,fun e=>by rw [hcl.len];exact r7.1 e,fun e=>by rw [hcl.len];exact r7.2 e⟩
   obtain ⟨a,ha,hla⟩:=hcl.get j c hc
   obtain ⟨u,hu,hru⟩:=r3 j a ha
   exact ⟨u,hu,hlax hla hru⟩
 ·have q:∀ o y p,(bj os').h.get o=some y→g.inj o=some p→∃ z,(bj os).h.get o=some z:=fun o y p hy hp=>by
   rcases hget' o y hy with ⟨_,h|⟨_,_,_,_,_,_,h,_⟩⟩|⟨h,_⟩
   ·exact ⟨_,h⟩
   ·exact ⟨_,h⟩
   ·rw [hfree o h] at hp;cases hp
  obtain ⟨z,hz⟩:=q o x _ hx hb
  obtain ⟨z',hz'⟩:=q o' x' _ hx' hb'
  exact hok.sep o o' z z' b base base' hne hz hz' hb hb'
 ·rcases (hK' b j).1 hk with h|⟨o,base,cells,k,s,e,h1,h2,_⟩
  ·exact hok.K b j h
  ·obtain ⟨b',base',h3,_,h4⟩:=hokD.obj o _ h1
   rw [h2] at h3;cases h3
   exact h4.lt
 ·obtain ⟨a,ha,hla⟩:=hv.get i b hb
  exact hlax hla (hr.2 i a v ha hv')
 ·obtain ⟨y,hy⟩:=Option.isSome_iff_exists.1 ho'
  rcases hget' o y hy with ⟨_,h|⟨_,_,_,_,_,_,h,_⟩⟩|⟨h,_⟩
  ·exact ⟨o,base,by rw [h];rfl,hi'⟩
  ·exact ⟨o,base,by rw [h];rfl,hi'⟩
  ·have:g.inj o=some (b,base):=hi'
   rw [hfree o h] at this;cases this
 ·rcases (hK' b j).1 hk with h|⟨o,base,cells,k,s,e,h1,h2,_⟩
  ·exact .inl h
  ·exact .inr ⟨o,base,by rw [(hsub o _ h1).2];rfl,h2⟩
theorem Y3 {α:Type} {P:Program} {T:ff} {a9:Nat} {b:Code} {Q:QL} {L:SL} {st:St} (keep:List Nat) (V : α→List AV) (O : α→List (Option bq)) (I : α→Prop) (μ : α→Nat) (x : α) (hx:I x)
 (hv:ji a9 (dj a9 keep L st) (fp a9 keep L st) (V x) (O x))
 (step:∀ x,I x→wl P T a9 b (wy a9 keep (fun vs os=>∃ y,I y ∧ μ y < μ x∧ji a9 vs os (V y) (O y)) Q) (i4 keep (V x)) (bj (O x))):su a9 (wl P T a9 b) Q L st:=
 su.atf keep V O I μ x hx hv (fun _ _ h=>Ck b _ _ h) step
theorem fj {α:Type} {P:Program} {T:ff} {a9:Nat} {b:Code} {Q:QL} {L:SL} {st:St} (keep:List Nat) (V : α→List AV) (O : α→List (Option bq)) (I : α→Prop) (μ : α→Nat) (x : α) (hx:I x)
 (hv:ji a9 (dj a9 keep L st) (fp a9 keep L st) (V x) (O x))
 (step:∀ x,I x→wl P T a9 b (wy a9 keep (fun vs os=>∃ y,I y ∧ μ y < μ x∧vs=V y∧os=O y) Q) (i4 keep (V x)) (bj (O x))):su a9 (wl P T a9 b) Q L st:=
 Y3 keep V O I μ x hx hv (fun x hi=>Ck b _ _ (fun e L' st' hq=>by
  cases e with
  |normal=>
   obtain ⟨y,h1,h2,h3,h4⟩:=hq
   refine ⟨y,h1,h2,?_⟩
   rw [h3,h4];exact .refl _ _ _
  |exit id=>exact hq
  |ret=>exact hq) _ _ (step x hi))
theorem Hi (f) (l):(List.map (aj.val f) l).flatMap AV.cells=l.map (aj.val f):=Oe aj f rfl rfl l
theorem Vl (f) (l):(List.map (aj.val f) l).all AV.one=true:=by rw [← Hi f l,Rx];exact xj _ _ _
theorem Kv (fr h n cells k st et) (hn:n=cells.length) (hro:A9 fr st 1 .str et=true):kj aj fr h 0 n (.row cells k st et)=qy aj fr h cells:=wm aj rfl fr h n cells k st et hn hro
theorem Z0:aj.kd = .str:=id rfl
theorem P9 (fr h f) (l):qy aj fr h (List.map (aj.val f) l)=some l:=by
 have e:List.map (aj.val f) l=List.map (aj.val true) l:=by cases f<;>rfl
 rw [e];exact E2 aj rfl rfl fr h true (fun _=>rfl) l
theorem I4 (f) (l):(List.map (bu.val f) l).flatMap AV.cells=l.map (bu.val f):=Oe bu f rfl rfl l
theorem Z2 (f) (l):(List.map (bu.val f) l).all AV.one=true:=by rw [← I4 f l,Rx];exact xj _ _ _
theorem L9 (fr h n cells k st et) (hn:n=cells.length) (hro:A9 fr st 1 (.int .u8) et=true):kj bu fr h 0 n (.row cells k st et)=qy bu fr h cells:=wm bu rfl fr h n cells k st et hn hro
theorem acd:bu.kd=(.int .u8):=id rfl
theorem Vc (fr h f) (l):qy bu fr h (List.map (bu.val f) l)=some l:=by
 have e:List.map (bu.val f) l=List.map (bu.val true) l:=by cases f<;>rfl
 rw [e];exact E2 bu rfl rfl fr h true (fun _=>rfl) l
theorem He (f) (l):(List.map (cw.val f) l).flatMap AV.cells=l.map (cw.val f):=Oe cw f rfl rfl l
theorem Sy (f) (l):(List.map (cw.val f) l).all AV.one=true:=by rw [← He f l,Rx];exact xj _ _ _
theorem K0 (fr h n cells k st et) (hn:n=cells.length) (hro:A9 fr st 1 (.int .u32) et=true):kj cw fr h 0 n (.row cells k st et)=qy cw fr h cells:=wm cw rfl fr h n cells k st et hn hro
theorem Zm:cw.kd=(.int .u32):=id rfl
theorem Qh (fr h f) (l):qy cw fr h (List.map (cw.val f) l)=some l:=by
 have e:List.map (cw.val f) l=List.map (cw.val true) l:=by cases f<;>rfl
 rw [e];exact E2 cw rfl rfl fr h true (fun _=>rfl) l
theorem Ig (fr h n cells k st et) (hn:n=cells.length) (hro:A9 fr st 1 .no et=true):kj au fr h 0 n (.row cells k st et)=qy au fr h cells:=wm au rfl fr h n cells k st et hn hro
theorem Mz (fr h f) (l) (hf:(f || !fr)=true):qy au fr h (List.map (au.val f) l)=some l:=E2 au rfl rfl fr h f (fun e=>by subst e;simpa using hf) l
theorem Nz (fr h l n xs) (hn:n=1) (hl:(l || !fr)=true):jj aj fr h (.vl l n (xs.map (aj.val false)))=some xs:=by
 cases l with
 |true=>exact u5 aj fr h true xs n hn hl
 |false=>exact u5 aj fr h false xs n hn hl
theorem Up:aj.val true=aj.val false:=id rfl
theorem Rb (fr h l n xs) (hn:n=1) (hl:(l || !fr)=true):jj bu fr h (.vl l n (xs.map (bu.val false)))=some xs:=by
 cases l with
 |true=>exact u5 bu fr h true xs n hn hl
 |false=>exact u5 bu fr h false xs n hn hl
theorem Zr:bu.val true=bu.val false:=id rfl
theorem Nw (fr h l n xs) (hn:n=1) (hl:(l || !fr)=true):jj cw fr h (.vl l n (xs.map (cw.val false)))=some xs:=by
 cases l with
 |true=>exact u5 cw fr h true xs n hn hl
 |false=>exact u5 cw fr h false xs n hn hl
theorem Tb:cw.val true=cw.val false:=id rfl
theorem Yn (fr h) (c:UInt8):bu.dec fr h [.sc (.int .u8 c.toNat)]=some c:=bu.rt fr h true c (fun _=>rfl)
theorem Vb (fr h) (c:UInt16):cg.dec fr h [.sc (.int .u16 c.toNat)]=some c:=cg.rt fr h true c (fun _=>rfl)
theorem Tv (fr h) (c:UInt32):cw.dec fr h [.sc (.int .u32 c.toNat)]=some c:=cw.rt fr h true c (fun _=>rfl)
theorem aae (a b:List AV):AV.fresh.go (a++b)=(AV.fresh.go a && AV.fresh.go b):=by
 induction a with
 |nil=>rfl
 |cons x a ih=>simp only [List.cons_append,AV.fresh.go,ih,Bool.and_assoc]
theorem agc (f) (l:List UInt8):AV.fresh.go (l.map (bu.val f))=true:=by
 induction l with
 |nil=>rfl
 |cons x l ih=>simp only [List.map_cons,AV.fresh.go,ih];rfl
theorem Pq (f) (c:Name):(au.val f c).one=true:=id rfl
theorem Ku (f) (c:Name):(au.val f c).cells=[au.val f c]:=id rfl
theorem Y6 (fr h a):(cq bu).dec fr h [a]=jj bu fr h a:=id rfl
theorem Ng (fr h n cells k st et) (hn:n=cells.length) (hro:A9 fr st 1 .no et=true):kj (cq bu) fr h 0 n (.row cells k st et)=qy (cq bu) fr h cells:=wm (cq bu) rfl fr h n cells k st et hn hro
structure lf (B:fv) (nt:NT) (L:SL) (st:St) (g:Gh) (a:Act) (w:World):Prop where
 cur:kf B g st w
 sl:ja g w nt L a.tmps
 Is:Marks B.D B.n0 st.h g w a.defers
theorem sq.n0 {B:fv} {n d g h w} (q:sq B g h w):sq { B with n0:=n,D:=d } g h w:=⟨q.b0,q.pins,q.K,q.cell,q.size,q.os,q.tape,q.output,q.frame,q.own,q.ov,q.jb,q.lp,q.whole⟩
theorem sq.aBe {B:fv} {n d g h w} (q:sq { B with n0:=n,D:=d } g h w):sq B g h w:=⟨q.b0,q.pins,q.K,q.cell,q.size,q.os,q.tape,q.output,q.frame,q.own,q.ov,q.jb,q.lp,q.whole⟩
theorem kf.n0 {B:fv} {n d g st w} (q:kf B g st w):kf { B with n0:=n,D:=d } g st w:=⟨q.ok,q.fresh,q.base.n0,q.a9⟩
theorem piece {P:Program} [KP P] {T:ff} (hT:ar P T) (hm:P.follows .mixedOrders=true) {N:Nat} {B:fv} {nt:NT} (hnf:B.mw) (hp:B.a9≤1000) (hn0:B.n0≤B.w.heap.size) {c:Code} (hs:ek nt c=true) {Q:QL} {L:SL} {st:St} {g:Gh} {a:Act} {w:World}
 (h:wl P T B.a9 c Q L st) (hh:lf B nt L st g a w) :
 c.wpIn (i9 none) N P (fun ex a' w'=>∃ e L' st' g',ex=rq e∧Q e L' st'∧lf B nt L' st' g' a' w'∧sq (ld g st.h w B.a9 (fun _=>False)) g' st'.h w') a w:=by
 have hc1:kf { ld g st.h w B.a9 (fun _=>False) with n0:=B.n0,D:=B.D } g st w:=(hh.cur.Pr B.a9 (fun _=>False) hh.cur.a9 (fun o h=>(hnf o h).elim)).n0
 refine wpIn_mono (aoe hT hm (N:=N) (B:={ ld g st.h w B.a9 (fun _=>False) with n0:=B.n0,D:=B.D }) (nt:=nt) (fun _ h=>h) hp (Nat.le_trans hn0 hh.cur.base.size) c hs Q L st g w a h hc1 hh.sl hh.Is) ?_
 rintro ex a' w' ⟨e,L',st',g',rfl,hq,hc',hr',hd'⟩
 have hb:=hc'.base.aBe (B:=ld g st.h w B.a9 (fun _=>False))
 exact ⟨e,L',st',g',rfl,hq,⟨⟨hc'.ok,fun o h1 _=>hc'.fresh o h1 (fun h=>h),hh.cur.base.comp hb (Nat.le_refl _) (fun o h=>(hnf o h).elim) (fun _ h=>h.elim),hc'.a9⟩,hr',hd'⟩,hb⟩
structure aCz (g:Gh) (w:World) (g':Gh) (w':World):Prop where
 b0:g'.b0=g.b0
 K:∀ b j,g.K b j→g'.K b j
 cell:∀ b j,g.K b j→w'.cell? ⟨b,j,none⟩=w.cell? ⟨b,j,none⟩
 jb:∀ (b:Nat) (cs:Array Value) (e:TypeId) (fr:Nat × Nat),w.heap[b]? = some (Obj.cells cs e fr)→∃ (cs':Array Value) (fr':Nat × Nat),w'.heap[b]? = some (Obj.cells cs' e fr')∧cs'.size=cs.size
 lp:∀ (b:Nat) (l:Loop),w.heap[b]? = some (Obj.loop l)→∃ l',w'.heap[b]? = some (Obj.loop l')
 whole:∀ (b:Nat) (cs:Array Value) (e:TypeId) (fr:Nat × Nat),w.heap[b]? = some (Obj.cells cs e fr)→(∀ j,g.K b j)→w'.heap[b]? = w.heap[b]?
theorem lf.canon {B:fv} {nt L st g a w} (hnf:B.mw) (hp:B.a9≤1000) (keep:List Nat) (h:lf B nt L st g a w):lf B nt (i4 keep (dj B.a9 keep L st)) (bj (fp B.a9 keep L st)) (g.dp (ij B.a9 keep L st)) a w:=
 ⟨(Fj hnf hp keep h.cur h.sl).1,(Fj hnf hp keep h.cur h.sl).2,Cn hp keep h.Is⟩
theorem anh {P:Program} [KP P] {N:Nat} {F:Fence} {c:Code} {Q:Exit→Act→World→Prop} {α:Type} (I : α→Act→World→Prop) (μ : α→Nat)
 (h:∀ x a w,I x a w→c.wpIn F N P (Exit.then (fun a' w'=>∃ y,μ y < μ x∧I y a' w') Q) a w) (x : α) (a:Act) (w:World) (hi:I x a w):(Code.loop c).wpIn F N P Q a w:=by
 refine zw fun X hX=>?_
 have key:∀ n x a w,μ x=n→I x a w→X a w:=by
  intro n
  induction n using Nat.strongRecOn with
  |_ n ih=>
   intro x a w hn hi
   refine hX a w (wpIn_mono (h x a w hi) ?_)
   intro ex a' w' hq
   cases ex with
   |normal=>
    obtain ⟨y,h1,h2⟩:=hq
    exact ih (μ y) (by omega) y a' w' rfl h2
   |exit id=>exact hq
   |goto l=>exact hq
   |ret=>exact hq
   |panic ch=>exact hq
   |outgrown=>exact hq
 exact key _ x a w rfl hi
theorem Fc {P:Program} [KP P] {f:Nat} {fn:Func} {body:Code} (hf:P.funcs[f]? = some fn) (hb:fn.body=some body) (he:po P f=true)
 {args:List AV} (hl:args.length≤fn.ntmps) {ρ:Type} (R:RC ρ) (fr:Bool) (x : ρ)
 (h:∀ (B:fv) (g:Gh) (a:Act) (w:World),B.mw→B.a9=0→(∀ b,¬ B.O b)→B.n0≤B.w.heap.size→lf B fn.ntmps (cj 0 args) (bj []) g a w→body.wpIn (i9 none) 0 P (Fin B fn.ntmps (da P fn.results.toList (fun r st=>R.get fr st.h r=some x))) a w):bk P f args (R.E fr x):=by
 intro K w vs hK hrel
 refine .inr ⟨wx he _ _,yn (ro:=none) (n:=0) (callsIn_of_wp_marks hf hb trivial ?_)⟩
 let B:fv:={ b0:=w.heap.size,w,K,O:=fun _=>False,a9:=0,pb:=fun _=>none,n0:=w.heap.size }
 have hcur:kf B (gK w.heap.size K) (bj []) w:=by
  refine ⟨⟨Nat.le_refl _,fun o x hx=>?_,fun o o' x x' b base base' _ hx=>?_,hK⟩,fun o _ _=>rfl,⟨rfl,(fun o ho=>(by rcases ho with ho|ho;cases ho;exact ho.elim)),fun _ _ h=>h,fun _ _ _=>rfl,Nat.le_refl _,rfl,rfl,rfl,fun _ _ _=>rfl,fun o b base ho=>?_,fun _ _ h=>.inl h,fun b cs e fr h=>⟨cs,fr,h,rfl⟩,fun b l h=>⟨l,h⟩,fun _ _ _ _ _ _=>rfl⟩,Nat.zero_le _⟩
  ·simp [bj,m8,Tr.get_nil] at hx
  ·simp [bj,m8,Tr.get_nil] at hx
  ·simp [bj,m8,Tr.get_nil] at ho
 refine wpIn_mono (h B (gK w.heap.size K) _ w (fun _ h=>h) rfl (fun _ h=>h) (Nat.le_refl _) ⟨hcur,Ea hrel hl,Marks.nil _ _ _ _⟩) ?_
 rintro ex a w' ⟨e,L,st,g,rfl,hq,hc,hr,hd⟩
 have fin:Hb (th P L st fn.results.toList) (fun r st=>R.get fr st.h r=some x) st→bodyPostM (i9 none) 0 P fn (fun e w'=>∃ v,e = .returned v∧A6 w w'∧Rel (gK w.heap.size (Nq K w w')) w' (R.E fr x) v) .ret a w':=by
  intro hq
  show LeavesInM (i9 none) 0 P fn a.tmps _ a.defers .returning w'
  unfold Hb at hq
  cases hres:th P L st fn.results.toList with
  |none=>rw [hres] at hq;exact hq.elim
  |some l=>
   rw [hres] at hq
   have hbs:=hc.base
   obtain ⟨bs,e1,e2,e3⟩:=hd
   have e1:=e1.trans (List.append_nil _)
   rw [e1]
   refine Hm (Good:=fun u=>Ok g st.h u∧A6 w u∧(∀ a v,Rel g w' a v→Rel g u a v)∧u.heap.size=w'.heap.size) (S:=fun b=>w.heap.size≤b∧je g st.h b) ?_ ?_ bs w'
    ⟨hc.ok,⟨hbs.size,fun b hlt=>hbs.frame b hlt (fun h=>h),hbs.os,hbs.tape,hbs.output⟩,fun _ _ h=>h,rfl⟩ e2 (fun b hb=>⟨⟨(e3 b hb).1,(e3 b hb).2.2⟩,(e3 b hb).2.1⟩)
   ·rintro u b ⟨g1,g2,g3,g4⟩ ⟨hb1,hb2⟩ hb3
    have hput:=Ok.Hn (ds':=none) g1 hb3 hb2
    exact ⟨hput.1,⟨by rw [mq];exact g2.size,fun c hc=>(fi u _ (by omega)).trans (g2.heap c hc),g2.os,g2.tape,g2.output⟩,fun a v h=>hput.2 a v (g3 a v h),by rw [mq];exact g4⟩
   ·rintro u ⟨g1,g2,g3,g4⟩
    obtain ⟨us,h1,h2⟩:=Wt (P:=P) g1 ⟨hr.1,fun t=>g3 _ _ (hr.2 t)⟩ fn.results.toList l hres
    obtain ⟨v,h3,h4⟩:=Wm h1 h2
    refine ⟨v,h3,v,rfl,g2,?_⟩
    refine R.ok g1 ⟨fun b j hk=>?_,fun o cells k s e ho b base hi j hj=>?_⟩ (fun _=>?_) h4 hq
    ·rcases hbs.ov b j hk with h5|h5|h5
     ·exact .inl h5
     ·exact .inr ⟨h5,g1.K b j hk⟩
     ·exact h5.elim
    ·obtain ⟨b',base',h5,_,h6⟩:=g1.obj o _ ho
     rw [hi] at h5;cases h5
     rcases hbs.own o b base (by rw [ho];rfl) hi with h7|h7
     ·exact .inr ⟨h7,h6.lt⟩
     ·exact h7.elim
    ·rw [hbs.b0];exact Nat.le_refl _
 cases e with
 |normal=>exact fin hq
 |ret=>exact fin hq
 |exit id=>exact hq.elim
def nw (S:Nat→Prop) (M:Nat) (w:World) (k:LK) (v:Value):Prop:=
 (∃ a,v = .slice a 0 0)∨∃ (b off n cap:Nat) (cs:Array Value) (e:TypeId),v = .slice (some ⟨b,off,none⟩) n cap∧S b∧(n≤cap∧cap≤maxLen)∧w.heap[b]? = some (.cells cs e (0,0))∧TK.sz e=some 1∧off+cap≤cs.size ∧
  ∀ (j:Nat) x,j<cap→cs[off+j]? = some x→m9 x=k∧∀ s,x = .string s→s.size≤M
def my (S:Nat→Prop) (N:Nat) (w:World) (sz:Nat) (E:World→List Value→Prop) (v:Value):Prop:=
 (∃ a,v = .slice a 0 0)∨∃ (b off n cap:Nat) (cs:Array Value) (e:TypeId),v = .slice (some ⟨b,off,none⟩) n cap∧n≤N∧S b∧(n≤cap∧cap≤maxLen)∧w.heap[b]? = some (.cells cs e (0,0))∧TK.sz e=some sz∧off % sz=0∧off+cap * sz≤cs.size ∧
  ∀ j,j<n→E w ((List.range sz).map fun i=>cs.getD (off+j * sz+i) undef)
theorem nw.slice {S M w k v} (h:nw S M w k v):m9 v = .no:=by
 rcases h with ⟨a,rfl⟩|⟨b,off,n,cap,cs,e,rfl,_⟩<;>rfl
theorem my.slice {S N w sz E v} (h:my S N w sz E v):m9 v = .no:=by
 rcases h with ⟨a,rfl⟩|⟨b,off,n,cap,cs,e,rfl,_⟩<;>rfl
def Kept (S:Nat→Prop) (m:Nat) (xx:Bool) (w':World) (e:TypeId) (j:Nat) (x x':Value):Prop:=
 x'=x∨(m9 x ≠ .no∧m9 x'=m9 x∧∀ s',x' = .string s'→∃ s,x = .string s∧s'.size≤s.size+m)∨((xx=true∧TK.sz e=some 4)∧((j % 4≠2∧x' = .slice none 0 0)∨(j % 4=2∧nw S (4+m) w' .str x')))
structure jk (S:Nat→Prop) (m:Nat) (xx:Bool) (w w':World):Prop where
 size:w.heap.size≤w'.heap.size
 os:w'.os=w.os
 tape:w'.tape=w.tape
 output:w'.output=w.output
 low:∀ b,b<w.heap.size→¬ S b→w'.heap[b]? = w.heap[b]?
 obj:∀ (b:Nat) o,w.heap[b]? = some o→(∀ cs e fr,o ≠ .cells cs e fr)→w'.heap[b]? = some o
 cells:∀ (b:Nat) (cs:Array Value) (e:TypeId) (fr:Nat × Nat),w.heap[b]? = some (.cells cs e fr)→∃ cs',w'.heap[b]? = some (.cells cs' e fr)∧cs'.size=cs.size ∧
  ∀ (j:Nat) x x',cs[j]? = some x→cs'[j]? = some x'→Kept S m xx w' e j x x'
theorem jk.refl (S:Nat→Prop) (m:Nat) (xx:Bool) (w:World):jk S m xx w w where
 size:=Nat.le_refl _
 os:=rfl
 tape:=rfl
 output:=rfl
 low _ _ _:=rfl
 obj _ _ h _:=h
 cells _ cs _ _ h:=⟨cs,h,rfl,fun j x x' h1 h2=>.inl (by rw [h1] at h2;cases h2;rfl)⟩
theorem jk.quiet (S:Nat→Prop) (m:Nat) (xx:Bool) {w w':World} (hs:w.heap.size≤w'.heap.size) (ho:w'.os=w.os) (ht:w'.tape=w.tape) (hu:w'.output=w.output) (hh:∀ b,b<w.heap.size→w'.heap[b]? = w.heap[b]?):jk S m xx w w' where
 size:=hs
 os:=ho
 tape:=ht
 output:=hu
 low b hb _:=hh b hb
 obj b o h _:=(hh b (cb h)).trans h
 cells b cs e fr h:=⟨cs,(hh b (cb h)).trans h,rfl,fun j x x' h1 h2=>.inl (by rw [h1] at h2;cases h2;rfl)⟩
theorem nw.mono {S M M' w k v} (h:nw S M w k v) (hM:M≤M'):nw S M' w k v:=by
 rcases h with h|⟨b,off,n,cap,cs,e,h0,h1,h2,h3,h4,h5,h6⟩
 ·exact .inl h
 ·exact .inr ⟨b,off,n,cap,cs,e,h0,h1,h2,h3,h4,h5,fun j x hj hx=>⟨(h6 j x hj hx).1,fun s hs=>Nat.le_trans ((h6 j x hj hx).2 s hs) hM⟩⟩
theorem nw.s6 {S m M xx w w' k v} (hk:k ≠ .no) (h:jk S m xx w w') (hl:nw S M w k v):nw S (M+m) w' k v:=by
 rcases hl with hl|⟨b,off,n,cap,cs,e,rfl,h1,h2,h3,h4,h5,h6⟩
 ·exact .inl hl
 ·obtain ⟨cs',q1,q2,q3⟩:=h.cells b cs e _ h3
  refine .inr ⟨b,off,n,cap,cs',e,rfl,h1,h2,q1,h4,by omega,fun j x' hj hx'=>?_⟩
  have hlt:off+j<cs.size:=by omega
  have hx:=Array.getElem?_eq_getElem hlt
  obtain ⟨hk',hm'⟩:=h6 j _ hj hx
  rcases q3 _ _ _ hx hx' with q|⟨_,q,qs⟩|⟨q,_⟩
  ·rw [q];exact ⟨hk',fun s hs=>by have:=hm' s hs;omega⟩
  ·refine ⟨by rw [q];exact hk',fun s hs=>?_⟩
   obtain ⟨s0,e1,e2⟩:=qs s hs
   have:=hm' s0 e1;omega
  ·have:=q.2;rw [h4] at this;cases this
theorem Kept.mono {S:Nat→Prop} {m m':Nat} {xx:Bool} {w:World} {e:TypeId} {j:Nat} {x y:Value} (hm:m≤m') (h:Kept S m xx w e j x y):Kept S m' xx w e j x y:=by
 rcases h with h|⟨h1,h2,h3⟩|⟨h1,h2⟩
 ·exact .inl h
 ·exact .inr (.inl ⟨h1,h2,fun s' hs=>by obtain ⟨s,e1,e2⟩:=h3 s' hs;exact ⟨s,e1,by omega⟩⟩)
 ·exact .inr (.inr ⟨h1,h2.imp id (fun q=>⟨q.1,q.2.mono (by omega)⟩)⟩)
theorem Kept.any {S:Nat→Prop} {m:Nat} {xx:Bool} {w:World} {e:TypeId} {j:Nat} {x y:Value} (h:Kept S m false w e j x y):Kept S m xx w e j x y:=by
 rcases h with h|h|⟨⟨h,_⟩,_⟩
 ·exact .inl h
 ·exact .inr (.inl h)
 ·cases h
theorem jk.mono {S m m' xx w w'} (hm:m≤m') (h:jk S m xx w w'):jk S m' xx w w':=
 ⟨h.size,h.os,h.tape,h.output,h.low,h.obj,fun b cs e fr hb=>by
  obtain ⟨cs',q1,q2,q3⟩:=h.cells b cs e fr hb
  exact ⟨cs',q1,q2,fun j x x' hx hx'=>(q3 j x x' hx hx').mono hm⟩⟩
theorem jk.any {S m xx w w'} (h:jk S m false w w'):jk S m xx w w':=
 ⟨h.size,h.os,h.tape,h.output,h.low,h.obj,fun b cs e fr hb=>by
  obtain ⟨cs',q1,q2,q3⟩:=h.cells b cs e fr hb
  exact ⟨cs',q1,q2,fun j x x' hx hx'=>(q3 j x x' hx hx').any⟩⟩
theorem Kept.trans {S:Nat→Prop} {m1 m2:Nat} {xx:Bool} {w1 w2:World} {e:TypeId} {j:Nat} {x y z:Value} (h1:Kept S m1 xx w1 e j x y) (ho:jk S m2 xx w1 w2) (h2:Kept S m2 xx w2 e j y z):Kept S (m1+m2) xx w2 e j x z:=by
 rcases h1 with rfl|⟨a1,a2,a3⟩|⟨a1,a2⟩
 ·exact h2.mono (by omega)
 ·rcases h2 with rfl|⟨b1,b2,b3⟩|b
  ·exact .inr (.inl ⟨a1,a2,fun s' hs=>by obtain ⟨s,e1,e2⟩:=a3 s' hs;exact ⟨s,e1,by omega⟩⟩)
  ·refine .inr (.inl ⟨a1,b2.trans a2,fun s' hs=>?_⟩)
   obtain ⟨s1,e1,e2⟩:=b3 s' hs
   obtain ⟨s,e3,e4⟩:=a3 s1 e1
   exact ⟨s,e3,by omega⟩
  ·exact .inr (.inr ⟨b.1,b.2.imp id (fun q=>⟨q.1,q.2.mono (by omega)⟩)⟩)
 ·rcases h2 with rfl|⟨b1,b2,b3⟩|b
  ·refine .inr (.inr ⟨a1,a2.imp id (fun q=>⟨q.1,(q.2.s6 (by decide) ho).mono (by omega)⟩)⟩)
  ·rcases a2 with ⟨_,rfl⟩|⟨_,q⟩
   ·exact absurd rfl b1
   ·exact absurd q.slice b1
  ·exact .inr (.inr ⟨b.1,b.2.imp id (fun q=>⟨q.1,q.2.mono (by omega)⟩)⟩)
theorem jk.trans {S m1 m2 xx w1 w2 w3} (h1:jk S m1 xx w1 w2) (h2:jk S m2 xx w2 w3):jk S (m1+m2) xx w1 w3 where
 size:=Nat.le_trans h1.size h2.size
 os:=h2.os.trans h1.os
 tape:=h2.tape.trans h1.tape
 output:=h2.output.trans h1.output
 low b hb hS:=(h2.low b (Nat.lt_of_lt_of_le hb h1.size) hS).trans (h1.low b hb hS)
 obj b o h hn:=h2.obj b o (h1.obj b o h hn) hn
 cells b cs e fr h:=by
  obtain ⟨cs1,a1,a2,a3⟩:=h1.cells b cs e fr h
  obtain ⟨cs2,b1,b2,b3⟩:=h2.cells b cs1 e fr a1
  refine ⟨cs2,b1,b2.trans a2,fun j x z hx hz=>?_⟩
  have hlt:j<cs1.size:=by rw [a2];exact (Array.getElem?_eq_some_iff.1 hx).1
  have hy:=Array.getElem?_eq_getElem hlt
  exact (a3 j x _ hx hy).trans h2 (b3 j _ z hy hz)
def Oy (S:Nat→Prop) (sz:Nat) (E:Nat→World→List Value→Prop):Prop:=
 ∀ {m M:Nat} {xx:Bool} {w w':World} {e:TypeId} {j0:Nat} {l l':List Value},4≤M→jk S m xx w w'→TK.sz e=some sz→j0 % sz=0→l.length=sz→l'.length=sz→(∀ (i:Nat) x x',l[i]? = some x→l'[i]? = some x'→Kept S m xx w' e (j0+i) x x')→E M w l→E (M+m) w' l'
theorem my.s6 {S N m M xx w w' sz E v} (hE:Oy S sz E) (hM : 4≤M) (h:jk S m xx w w') (hl:my S N w sz (E M) v):my S N w' sz (E (M+m)) v:=by
 rcases hl with hl|⟨b,off,n,cap,cs,e,rfl,h0,h1,h2,h3,h4,h5,h6,h7⟩
 ·exact .inl hl
 ·obtain ⟨cs',q1,q2,q3⟩:=h.cells b cs e _ h3
  refine .inr ⟨b,off,n,cap,cs',e,rfl,h0,h1,h2,q1,h4,h5,by omega,fun j hj=>?_⟩
  have hle:(j+1) * sz≤cap * sz:=Nat.mul_le_mul_right _ (by omega)
  rw [Nat.succ_mul] at hle
  refine hE (j0:=off+j * sz) hM h h4 (by rw [Nat.add_mul_mod_self_right];exact h5) (by simp) (by simp) (fun i x x' hx hx'=>?_) (h7 j hj)
  rw [List.getElem?_map,Option.map_eq_some_iff] at hx hx'
  obtain ⟨i1,e1,rfl⟩:=hx
  obtain ⟨i2,e2,rfl⟩:=hx'
  obtain ⟨hi,rfl⟩:=List.getElem?_eq_some_iff.1 e1
  obtain ⟨_,rfl⟩:=List.getElem?_eq_some_iff.1 e2
  simp only [List.length_range] at hi
  simp only [List.getElem_range]
  have hlt:off+j * sz+i<cs.size:=by omega
  refine q3 _ _ _ ?_ ?_
  ·rw [Array.getD_eq_getD_getElem?,Array.getElem?_eq_getElem hlt];rfl
  ·rw [Array.getD_eq_getD_getElem?,Array.getElem?_eq_getElem (by omega)];rfl
def abi (S:Nat→Prop) (M:Nat) (w:World) (l:List Value):Prop:=∃ v,l=[v]∧nw S M w .str v
def Oj (S:Nat→Prop) (Nn M:Nat) (w:World) (l:List Value):Prop:=∃ a b c d,l=[a,b,c,d]∧my S Nn w 1 (abi S M) a∧nw S M w (.int .u32) b∧nw S M w .str c∧nw S M w (.int .u8) d
def Mf (S:Nat→Prop) (Nn Nd M:Nat) (w:World) (l:List Value):Prop:=∃ o t c u d,l=[o,t,c,u,d]∧nw S M w .str o∧m9 t = .int .u16∧m9 c = .int .u16∧m9 u = .int .u32∧my S Nd w 4 (Oj S Nn M) d
theorem Kept.same {S m xx w' e j x x' sz} (h:Kept S m xx w' e j x x') (hs:TK.sz e=some sz) (hz:sz≠4) (hx:m9 x = .no):x'=x:=by
 rcases h with h|⟨h,_⟩|⟨h,_⟩
 ·exact h
 ·exact absurd hx h
 ·have h:=h.2;rw [hs] at h;cases h;exact absurd rfl hz
theorem Kept.kind {S m xx w' e j x x' sz k} (h:Kept S m xx w' e j x x') (hs:TK.sz e=some sz) (hz:sz≠4) (hx:m9 x=k):m9 x'=k:=by
 rcases h with rfl|⟨_,h,_⟩|⟨h,_⟩
 ·exact hx
 ·rw [h];exact hx
 ·have h:=h.2;rw [hs] at h;cases h;exact absurd rfl hz
theorem ahi (S:Nat→Prop):Oy S 1 (abi S):=by
 rintro m M xx w w' e j0 l l' hM ho hs hj h1 h2 hk ⟨v,rfl,hv⟩
 match l',h2 with
 | [v'],_=>
  have:=(hk 0 v v' rfl rfl).same hs (by decide) hv.slice
  subst this
  exact ⟨_,rfl,hv.s6 (by decide) ho⟩
theorem Yb {S N m M xx w w' v} (hM : 4≤M) (h:jk S m xx w w') (hl:my S N w 1 (abi S M) v):my S N w' 1 (abi S (M+m)) v:=hl.s6 (ahi S) hM h
theorem ah3 (S:Nat→Prop) (Nn:Nat):Oy S 4 (Oj S Nn):=by
 rintro m M xx w w' e j0 l l' hM ho hs hj h1 h2 hk ⟨a,b,c,d,rfl,ha,hb,hc,hd⟩
 match l',h2 with
 | [a',b',c',d'],_=>
  refine ⟨a',b',c',d',rfl,?_,?_,?_,?_⟩
  ·rcases hk 0 a a' rfl rfl with rfl|⟨q,_⟩|⟨_,⟨_,rfl⟩|⟨q,_⟩⟩
   ·exact Yb hM ho ha
   ·exact absurd ha.slice q
   ·exact .inl ⟨none,rfl⟩
   ·omega
  ·rcases hk 1 b b' rfl rfl with rfl|⟨q,_⟩|⟨_,⟨_,rfl⟩|⟨q,_⟩⟩
   ·exact hb.s6 (by decide) ho
   ·exact absurd hb.slice q
   ·exact .inl ⟨none,rfl⟩
   ·omega
  ·rcases hk 2 c c' rfl rfl with rfl|⟨q,_⟩|⟨_,⟨q,rfl⟩|⟨_,q⟩⟩
   ·exact hc.s6 (by decide) ho
   ·exact absurd hc.slice q
   ·exact .inl ⟨none,rfl⟩
   ·exact q.mono (by omega)
  ·rcases hk 3 d d' rfl rfl with rfl|⟨q,_⟩|⟨_,⟨_,rfl⟩|⟨q,_⟩⟩
   ·exact hd.s6 (by decide) ho
   ·exact absurd hd.slice q
   ·exact .inl ⟨none,rfl⟩
   ·omega
theorem Mm {S N Nn m M xx w w' v} (hM : 4≤M) (h:jk S m xx w w') (hl:my S N w 4 (Oj S Nn M) v):my S N w' 4 (Oj S Nn (M+m)) v:=hl.s6 (ah3 S Nn) hM h
theorem anb (S:Nat→Prop) (Nn Nd:Nat):Oy S 5 (Mf S Nn Nd):=by
 rintro m M xx w w' e j0 l l' hM ho hs hj h1 h2 hk ⟨o,t,c,u,d,rfl,hO,ht,hc,hu,hd⟩
 match l',h2 with
 | [o',t',c',u',d'],_=>
  have e1:=(hk 0 o o' rfl rfl).same hs (by decide) hO.slice
  have e2:=(hk 4 d d' rfl rfl).same hs (by decide) hd.slice
  subst e1 e2
  exact ⟨_,t',c',u',_,rfl,hO.s6 (by decide) ho,(hk 1 t t' rfl rfl).kind hs (by decide) ht,(hk 2 c c' rfl rfl).kind hs (by decide) hc,(hk 3 u u' rfl rfl).kind hs (by decide) hu,Mm hM ho hd⟩
theorem Bl {S N Nn Nd m M xx w w' v} (hM : 4≤M) (h:jk S m xx w w') (hl:my S N w 5 (Mf S Nn Nd M) v):my S N w' 5 (Mf S Nn Nd (M+m)) v:=hl.s6 (anb S Nn Nd) hM h
theorem Wv {α:Type} (C:dm α) (hz:C.sz=1) (ha:C.agg=false) {k:LK} (hk:C.kd=k) (hn:k ≠ .no) {M:Nat} {g:Gh} {w:World} {l:Bool} {xs:List α} {v:Value} (hM:∀ x ∈ xs,∀ c ∈ C.cells l x,∀ s,c = .sc (.string s)→s.size≤M) (hx:∀ x ∈ xs,∀ c ∈ C.cells l x,∃ u,c = .sc u) {S:Nat→Prop} (hS:∀ b,g.b0≤b→(∀ j,g.K b j)→S b) (hr:Rel g w (.vl true 1 (xs.map (C.val l))) v):nw S M w k v:=by
 generalize hes:xs.map (C.val l)=es at hr
 cases hr with
 |k8=>exact .inl ⟨none,rfl⟩
 |tq _ _ a=>exact .inl ⟨some a,rfl⟩
 |vl _ _ _ b off cap c hsz hl hcap h hrel hw=>
  obtain ⟨w1,⟨cs,e,w2,w3,w4,w5,w6⟩,w7,w8⟩:=hw rfl
  rcases Nat.eq_zero_or_pos es.length with h0|h0
  ·have:=w7 rfl h0
   subst this
   rw [h0];exact .inl ⟨_,rfl⟩
  ·refine .inr ⟨b,off,es.length,cap,cs,e,rfl,hS b (hl rfl) w1,⟨hcap,w8⟩,w2,w4,by omega,fun j x hj hxj=>?_⟩
   have hfl:es.flatMap AV.cells=xs.flatMap (C.cells l):=by rw [← hes,List.flatMap_map];congr 1;funext x;exact C.yw l x
   have hlen:(es.flatMap AV.cells).length=es.length * 1:=Hd es hsz
   have h00:(es.flatMap AV.cells)[0]? = some ((es.flatMap AV.cells)[0]'(by omega)):=List.getElem?_eq_getElem _
   have hm:(es.flatMap AV.cells)[0]'(by omega) ∈ xs.flatMap (C.cells l):=by rw [← hfl];exact List.getElem_mem _
   obtain ⟨y,_,hy⟩:=List.mem_flatMap.1 hm
   have hc0:=C.Js hz hy (hrel 0 _ h00)
   rcases w6 rfl j x hj hxj with q|⟨q,qt⟩
   ·rw [hc0,hk] at q;exact absurd q hn
   ·refine ⟨by rw [q,hc0,hk],fun s hs=>?_⟩
    by_cases hjn:j<es.length
    ·have hcj:(es.flatMap AV.cells)[j]? = some ((es.flatMap AV.cells)[j]'(by omega)):=List.getElem?_eq_getElem _
     have hmj:(es.flatMap AV.cells)[j]'(by omega) ∈ xs.flatMap (C.cells l):=by rw [← hfl];exact List.getElem_mem _
     obtain ⟨y2,hy2,hy3⟩:=List.mem_flatMap.1 hmj
     obtain ⟨u,hu⟩:=hx y2 hy2 _ hy3
     have hrj:=hrel j _ hcj
     rw [hu] at hrj
     have:=hrj.exact rfl
     have hcx:c j=x:=by
      have h9:=(h j _ hcj).2
      rw [jn w2,hxj] at h9
      exact (Option.some.inj h9).symm
     rw [hcx,hs] at this
     exact hM y2 hy2 _ hy3 s (by rw [hu,← this])
    ·have:=qt (by omega)
     rw [hs] at this
     have:s.size=0:=Nat.eq_of_beq_eq_true this
     omega
theorem V3 {α:Type} (C:dm α) {N sz:Nat} (hz:C.sz=sz) {E:World→List Value→Prop} {g:Gh} {w:World} {l:Bool} {xs:List α} {v:Value} (hN:xs.length≤N) (hE:∀ x ∈ xs,∀ vs,cf g w (C.cells l x) vs→E w vs) {S:Nat→Prop} (hS:∀ b,g.b0≤b→(∀ j,g.K b j)→S b) (hr:Rel g w (.vl true sz (xs.map (C.val l))) v):my S N w sz E v:=by
 generalize hes:xs.map (C.val l)=es at hr
 cases hr with
 |k8=>exact .inl ⟨none,rfl⟩
 |tq _ _ a=>exact .inl ⟨some a,rfl⟩
 |vl _ _ _ b off cap c hsz hl hcap h hrel hw=>
  obtain ⟨w1,⟨cs,e,w2,w3,w4,w5,w6⟩,w7,w8⟩:=hw rfl
  refine .inr ⟨b,off,es.length,cap,cs,e,rfl,by rw [← hes,List.length_map];exact hN,hS b (hl rfl) w1,⟨hcap,w8⟩,w2,w4,w5,w3,fun j hj=>?_⟩
  have hj':j<xs.length:=by rw [← hes,List.length_map] at hj;exact hj
  refine hE (xs[j]) (List.getElem_mem hj') _ ⟨by rw [C.len];simp [hz],fun i a u ha hu=>?_⟩
  rw [List.getElem?_map,Option.map_eq_some_iff] at hu
  obtain ⟨i1,e1,rfl⟩:=hu
  obtain ⟨hi,rfl⟩:=List.getElem?_eq_some_iff.1 e1
  simp only [List.length_range] at hi
  simp only [List.getElem_range]
  have hcell:(es.flatMap AV.cells)[j * sz+i]? = some a:=by
   have hfl:es.flatMap AV.cells=xs.flatMap (C.cells l):=by rw [← hes,List.flatMap_map];congr 1;funext x;exact C.yw l x
   have hd:∀ (ys:List α) (m:Nat),(ys.flatMap (C.cells l)).drop (m * C.sz)=(ys.drop m).flatMap (C.cells l):=by
    intro ys
    induction ys with
    |nil=>intro m;simp
    |cons y ys ih=>
     intro m
     cases m with
     |zero=>simp
     |succ m=>
      rw [show (m+1) * C.sz=(C.cells l y).length+m * C.sz from by rw [C.len,Nat.succ_mul];omega,← List.drop_drop,List.flatMap_cons,List.drop_left,ih,List.drop_succ_cons]
   have h1:=hd xs j
   rw [hz] at h1
   rw [hfl,← List.getElem?_drop,h1,List.drop_eq_getElem_cons hj',List.flatMap_cons,List.getElem?_append_left (by rw [C.len];omega)]
   exact ha
  have h1:=h (j * sz+i) a hcell
  have h2:=hrel (j * sz+i) a hcell
  have h3:cs.getD (off+j * sz+i) undef=c (j * sz+i):=by
   have:=h1.2
   rw [jn w2] at this
   rw [Nat.add_assoc,Array.getD_eq_getD_getElem?,this];rfl
  rw [h3];exact h2
end
end Go.Vm
namespace Go.Vm
variable [TK]
structure Lp (w:World) (b:Nat) (cs:Array Value) (e:TypeId) (off m k:Nat) (wr:World):Prop where
 size:wr.heap.size=w.heap.size
 os:wr.os=w.os
 tape:wr.tape=w.tape
 output:wr.output=w.output
 other:∀ c,c≠b→wr.heap[c]? = w.heap[c]?
 row:∃ cs',wr.heap[b]? = some (.cells cs' e (0,0))∧cs'.size=cs.size∧∀ (j:Nat) x x',cs[j]? = some x→cs'[j]? = some x' →
  x'=x∨(off≤j∧j<off+k∧m9 x ≠ .no∧m9 x'=m9 x∧∀ s',x' = .string s'→∃ s,x = .string s∧s'.size≤s.size+m)
theorem Lp.start {w b cs e off m} (h:w.heap[b]? = some (.cells cs e (0,0))):Lp w b cs e off m 0 w where
 size:=rfl
 os:=rfl
 tape:=rfl
 output:=rfl
 other _ _:=rfl
 row:=⟨cs,h,rfl,fun j x x' h1 h2=>.inl (by rw [h1] at h2;cases h2;rfl)⟩
theorem Lp.frozen {w b cs e off m k wr} (h:Lp w b cs e off m k wr) (j:Nat):wr.frozen? ⟨b,j,none⟩=false:=by
 obtain ⟨cs',h1,_⟩:=h.row
 unfold World.frozen?
 simp only [h1]
 simp
theorem Lp.cell {w b cs e off m k wr x} (h:Lp w b cs e off m k wr) (hx:cs[off+k]? = some x):wr.cell? ⟨b,off+k,none⟩=some x:=by
 obtain ⟨cs',h1,h2,h3⟩:=h.row
 rw [jn h1]
 have hlt:off+k<cs'.size:=by rw [h2];exact (Array.getElem?_eq_some_iff.1 hx).1
 have hx':=Array.getElem?_eq_getElem hlt
 rcases h3 _ _ _ hx hx' with q|⟨_,q,_⟩
 ·rw [hx',q]
 ·omega
theorem Lp.step {w b cs e off m k wr x v} (h:Lp w b cs e off m k wr) (hx:cs[off+k]? = some x) (h1:m9 x ≠ .no) (h2:m9 v=m9 x) (h3:∀ s',v = .string s'→∃ s,x = .string s∧s'.size≤s.size+m) :
 Lp w b cs e off m (k+1) (wr.setCell ⟨b,off+k,none⟩ v):=by
 obtain ⟨cs',r1,r2,r3⟩:=h.row
 have hb:=cb r1
 refine ⟨by simp [World.setCell,h.size],h.os,h.tape,h.output,fun c hc=>?_,cs'.setIfInBounds (off+k) v,?_,by simp [r2],fun j y y' hy hy'=>?_⟩
 ·rw [← h.other c hc]
  simp only [World.setCell]
  rw [Array.getElem?_modify,if_neg (fun e=>hc e.symm)]
 ·simp only [World.setCell]
  rw [Array.getElem?_modify,if_pos rfl,r1]
  rfl
 ·rw [Array.getElem?_setIfInBounds] at hy'
  by_cases hj:off+k=j
  ·subst hj
   rw [hx] at hy;cases hy
   have hlt:off+k<cs'.size:=by rw [r2];exact (Array.getElem?_eq_some_iff.1 hx).1
   rw [if_pos rfl,if_pos hlt] at hy';cases hy'
   exact .inr ⟨by omega,by omega,h1,h2,h3⟩
  ·rw [if_neg hj] at hy'
   exact (r3 j y y' hy hy').imp id (fun q=>⟨q.1,by omega,q.2.2⟩)
theorem Lp.s6 {S w b cs e off m k wr} (h:Lp w b cs e off m k wr) (hw:w.heap[b]? = some (.cells cs e (0,0))) (hn:S b):jk S m false w wr where
 size:=by rw [h.size];exact Nat.le_refl _
 os:=h.os
 tape:=h.tape
 output:=h.output
 low c _ hc:=h.other c (fun e=>hc (e ▸ hn))
 obj c o hc hn:=by
  by_cases e:c=b
  ·subst e;rw [hw] at hc;cases hc;exact absurd rfl (hn _ _ _)
  ·rw [h.other c e];exact hc
 cells c cs0 e0 fr0 hc:=by
  by_cases e:c=b
  ·subst e
   rw [hw] at hc;cases hc
   obtain ⟨cs',r1,r2,r3⟩:=h.row
   exact ⟨cs',r1,r2,fun j x x' hx hx'=>(r3 j x x' hx hx').imp id (fun q=>.inl ⟨q.2.2.1,q.2.2.2.1,q.2.2.2.2⟩)⟩
  ·exact ⟨cs0,(h.other c e).trans hc,rfl,fun j x x' hx hx'=>.inl (by rw [hx] at hx';cases hx';rfl)⟩
theorem nw.form {S M w k v} (h:nw S M w k v):∃ base n cap,v = .slice base n cap∧n≤cap∧cap≤maxLen∧(base=none→cap=0):=by
 rcases h with ⟨a,rfl⟩|⟨b,off,n,cap,cs,e,rfl,h1,⟨h2,h3⟩,_⟩
 ·exact ⟨a,0,0,rfl,Nat.le_refl _,Nat.zero_le _,fun _=>rfl⟩
 ·exact ⟨_,n,cap,rfl,h2,h3,fun e=>by cases e⟩
def M0 (S:Nat→Prop) (m k:Nat) (w:World) (v:Value) (wr:World):Prop:=
 (∃ a,v = .slice a 0 0∧wr=w)∨∃ (b off n cap:Nat) (cs:Array Value) (e:TypeId),v = .slice (some ⟨b,off,none⟩) n cap∧S b∧w.heap[b]? = some (.cells cs e (0,0))∧Lp w b cs e off m k wr
theorem M0.start {S m M w k v} (h:nw S M w k v):M0 S m 0 w v w:=by
 rcases h with ⟨a,rfl⟩|⟨b,off,n,cap,cs,e,rfl,h1,_,h3,_⟩
 ·exact .inl ⟨a,rfl,rfl⟩
 ·exact .inr ⟨b,off,n,cap,cs,e,rfl,h1,h3,.start h3⟩
theorem M0.s6 {S m k w v wr} (h:M0 S m k w v wr):jk S m false w wr:=by
 rcases h with ⟨a,_,rfl⟩|⟨b,off,n,cap,cs,e,_,h1,h3,h⟩
 ·exact .refl _ _ _ _
 ·exact h.s6 h3 h1
theorem M0.at {S m M k w kd base n cap wr} (hk:kd ≠ .no) (hv:nw S M w kd (.slice base n cap)) (h:M0 S m k w (.slice base n cap) wr) (hlt:k<cap) :
 ∃ b off x,base=some ⟨b,off,none⟩∧wr.cell? ⟨b,off+k,none⟩=some x∧wr.frozen? ⟨b,off+k,none⟩=false∧m9 x=kd∧(∀ s,x = .string s→s.size≤M) ∧
  ∀ v',m9 v'=kd→(∀ s',v' = .string s'→∃ s,x = .string s∧s'.size≤s.size+m)→M0 S m (k+1) w (.slice base n cap) (wr.setCell ⟨b,off+k,none⟩ v'):=by
 rcases hv with ⟨a,e⟩|⟨b,off,n',cap',cs,e,he,h1,_,h3,h4,h5,h6⟩
 ·cases e;omega
 cases he
 rcases h with ⟨a,e,_⟩|⟨b',off',n',cap',cs',e',he',q1,q3,q⟩
 ·cases e;omega
 cases he'
 rw [h3] at q3;cases q3
 have hl:off+k<cs.size:=by omega
 have hx:=Array.getElem?_eq_getElem hl
 obtain ⟨r1,r2⟩:=h6 k _ hlt hx
 exact ⟨b,off,_,rfl,q.cell hx,q.frozen _,r1,r2,fun v' e1 e2=>.inr ⟨b,off,n,cap,cs,e,rfl,h1,h3,q.step hx (by rw [r1];exact hk) (by rw [r1];exact e1) e2⟩⟩
theorem my.form {S N w sz E v} (h:my S N w sz E v):∃ base n cap,v = .slice base n cap∧n≤N∧n≤cap∧cap≤maxLen∧(base=none→cap=0):=by
 rcases h with ⟨a,rfl⟩|⟨b,off,n,cap,cs,e,rfl,h0,h1,⟨h2,h3⟩,_⟩
 ·exact ⟨a,0,0,rfl,Nat.zero_le _,Nat.le_refl _,Nat.zero_le _,fun _=>rfl⟩
 ·exact ⟨_,n,cap,rfl,h0,h2,h3,fun e=>by cases e⟩
theorem my.at {S N w sz E base n cap} (h:my S N w sz E (.slice base n cap)) {j:Nat} (hj:j<n) :
 ∃ b off cs e,base=some ⟨b,off,none⟩∧S b∧w.heap[b]? = some (.cells cs e (0,0))∧TK.sz e=some sz∧off % sz=0∧off+cap * sz≤cs.size∧(j+1) * sz≤cap * sz∧E w ((List.range sz).map fun i=>cs.getD (off+j * sz+i) undef):=by
 rcases h with ⟨a,e⟩|⟨b,off,n',cap',cs,e,he,h0,h1,⟨h2,h3⟩,h4,h5,h6,h7,h8⟩
 ·cases e;omega
 ·cases he
  exact ⟨b,off,cs,e,rfl,h1,h4,h5,h6,h7,Nat.mul_le_mul_right _ (by omega),h8 j hj⟩
theorem cell_of {w:World} {b j:Nat} {cs:Array Value} {e:TypeId} {fr:Nat × Nat} (h:w.heap[b]? = some (.cells cs e fr)) (hj:j<cs.size):w.cell? ⟨b,j,none⟩=some (cs.getD j undef):=by
 rw [jn h,Array.getD_eq_getD_getElem?,Array.getElem?_eq_getElem hj];rfl
theorem Lw {w:World} {b:Nat} {cs:Array Value} {e:TypeId} (h:w.heap[b]? = some (.cells cs e (0,0))) (j:Nat):w.frozen? ⟨b,j,none⟩=false:=by
 unfold World.frozen?
 simp only [h]
 simp
theorem jk.set {S:Nat→Prop} {w:World} {b:Nat} {cs:Array Value} {e:TypeId} {j:Nat} {x v:Value} (h:w.heap[b]? = some (.cells cs e (0,0))) (hn:S b) (hx:cs[j]? = some x) (h1:m9 x ≠ .no) (h2:m9 v=m9 x) (h3:∀ s,v ≠ .string s) :
 jk S 0 false w (w.setCell ⟨b,j,none⟩ v)∧(w.setCell ⟨b,j,none⟩ v).heap[b]? = some (.cells (cs.setIfInBounds j v) e (0,0)):=by
 refine ⟨((Lp.start (off:=j) (m:=0) h).step (k:=0) hx h1 h2 (fun s' q=>absurd q (h3 s'))).s6 h hn,?_⟩
 simp only [World.setCell]
 rw [Array.getElem?_modify,if_pos rfl,h]
 rfl
theorem my.room {S N w sz E base n cap} (h:my S N w sz E (.slice base n cap)) {j:Nat} (hj:j<cap) :
 ∃ b off cs e,base=some ⟨b,off,none⟩∧S b∧w.heap[b]? = some (.cells cs e (0,0))∧TK.sz e=some sz∧off % sz=0∧off+cap * sz≤cs.size∧(j+1) * sz≤cap * sz:=by
 rcases h with ⟨a,e⟩|⟨b,off,n',cap',cs,e,he,h0,h1,⟨h2,h3⟩,h4,h5,h6,h7,h8⟩
 ·cases e;omega
 ·cases he
  exact ⟨b,off,cs,e,rfl,h1,h4,h5,h6,h7,Nat.mul_le_mul_right _ (by omega)⟩
theorem afa {w:World} {b:Nat} {cs:Array Value} {e:TypeId} (h:w.heap[b]? = some (.cells cs e (0,0))) (o:Obj) (j:Nat):(w.alloc o).frozen? ⟨b,j,none⟩=false:=
 Lw ((Go.RowKit.Below.heap_alloc w o b (cb h)).trans h) j
theorem Ee {w:World} {b:Nat} {cs:Array Value} {e:TypeId} {fr:Nat × Nat} (h:w.heap[b]? = some (.cells cs e fr)) (o:Obj) {j:Nat} (hj:j<cs.size):(w.alloc o).cell? ⟨b,j,none⟩=some (cs.getD j undef):=
 cell_of ((Go.RowKit.Below.heap_alloc w o b (cb h)).trans h) hj
theorem jk.alloc {S m xx w} (o:Obj):jk S m xx w (w.alloc o):=by
 have hold:∀ b,b<w.heap.size→(w.alloc o).heap[b]? = w.heap[b]? := fun b hb=>Go.RowKit.Below.heap_alloc w o b hb
 refine ⟨(by show w.heap.size≤(w.heap.push o).size;simp),rfl,rfl,rfl,fun b hb _=>hold b hb,fun b x hb _=>(hold b (cb hb)).trans hb,fun b cs e fr hb=>⟨cs,(hold b (cb hb)).trans hb,rfl,fun j x x' h1 h2=>.inl (by rw [h1] at h2;cases h2;rfl)⟩⟩
theorem rk (w:World) {b c:Nat} (j:Nat) (v:Value) (h:c≠b):(w.setCell ⟨b,j,none⟩ v).heap[c]? = w.heap[c]? := by
 simp only [World.setCell]
 rw [Array.getElem?_modify,if_neg (fun e=>h e.symm)]
theorem jk.al4 {S:Nat→Prop} {w:World} {b:Nat} {cs:Array Value} {e:TypeId} {j:Nat} {v:Value} (h:w.heap[b]? = some (.cells cs e (0,0))) (hn:S b) (hsz:TK.sz e=some 4)
 (hv:(j % 4≠2∧v = .slice none 0 0)∨(j % 4=2∧nw S 4 (w.setCell ⟨b,j,none⟩ v) .str v)) :
 jk S 0 true w (w.setCell ⟨b,j,none⟩ v)∧(w.setCell ⟨b,j,none⟩ v).heap[b]? = some (.cells (cs.setIfInBounds j v) e (0,0)):=by
 have hb:(w.setCell ⟨b,j,none⟩ v).heap[b]? = some (.cells (cs.setIfInBounds j v) e (0,0)):=by
  simp only [World.setCell]
  rw [Array.getElem?_modify,if_pos rfl,h]
  rfl
 refine ⟨⟨by simp [World.setCell],rfl,rfl,rfl,fun c _ hc=>rk w j v (fun e=>hc (e ▸ hn)),fun c o hc hno=>?_,fun c cs0 e0 fr0 hc=>?_⟩,hb⟩
 ·by_cases e1:c=b
  ·subst e1;rw [h] at hc;cases hc;exact absurd rfl (hno _ _ _)
  ·rw [rk w j v e1];exact hc
 ·by_cases e1:c=b
  ·subst e1
   rw [h] at hc;cases hc
   refine ⟨_,hb,by simp,fun i x x' hx hx'=>?_⟩
   rw [Array.getElem?_setIfInBounds] at hx'
   by_cases hi:j=i
   ·subst hi
    have hlt:=(Array.getElem?_eq_some_iff.1 hx).1
    rw [if_pos rfl,if_pos hlt] at hx';cases hx'
    exact .inr (.inr ⟨⟨rfl,hsz⟩,hv⟩)
   ·rw [if_neg hi,hx] at hx';cases hx'
    exact .inl rfl
  ·exact ⟨cs0,(rk w j v e1).trans hc,rfl,fun i x x' hx hx'=>.inl (by rw [hx] at hx';cases hx';rfl)⟩
theorem jk.spare {S:Nat→Prop} {w:World} {b j:Nat} {cs:Array Value} {e t:TypeId} {s:ByteArray} (h:w.heap[b]? = some (.cells cs e (0,0))) (hn:S b) (hsz:TK.sz e=some 4) (hS:S w.heap.size) (hj:j % 4=0) (ht:TK.sz t=some 1) (hs:s.size≤4) :
 jk S 0 true w (((((w.alloc (.cells #[.string s] t)).setCell ⟨b,j,none⟩ (.slice none 0 0)).setCell ⟨b,j+1,none⟩ (.slice none 0 0)).setCell ⟨b,j+2,none⟩ (.slice (some ⟨w.heap.size,0,none⟩) 1 1)).setCell ⟨b,j+3,none⟩ (.slice none 0 0)):=by
 have hne:w.heap.size≠b:=by have:=cb h;omega
 have h0:(w.alloc (.cells #[.string s] t)).heap[b]? = _:=(Go.RowKit.Below.heap_alloc w _ b (cb h)).trans h
 have j3:(w.alloc (.cells #[.string s] t)).heap[w.heap.size]? = some (.cells #[.string s] t (0,0)):=B9 w _
 have q1:=jk.al4 (j:=j) (v:=.slice none 0 0) h0 hn hsz (.inl ⟨by omega,rfl⟩)
 have q2:=jk.al4 (j:=j+1) (v:=.slice none 0 0) q1.2 hn hsz (.inl ⟨by omega,rfl⟩)
 have q3:=jk.al4 (j:=j+2) (v:=.slice (some ⟨w.heap.size,0,none⟩) 1 1) q2.2 hn hsz (.inr ⟨by omega,.inr ⟨w.heap.size,0,1,1,#[.string s],t,rfl,hS,⟨Nat.le_refl _,by decide⟩,?_,ht,Nat.le_refl _,fun i x hi hx=>?_⟩⟩)
 have q4:=jk.al4 (j:=j+3) (v:=.slice none 0 0) q3.2 hn hsz (.inl ⟨by omega,rfl⟩)
 ·exact ((((jk.alloc (S:=S) (m:=0) (xx:=true) _).trans q1.1).trans q2.1).trans q3.1).trans q4.1
 ·rw [rk _ _ _ hne,rk _ _ _ hne,rk _ _ _ hne]
  exact j3
 ·have hi0:i=0:=by omega
  subst hi0
  cases hx
  exact ⟨rfl,fun s' e=>by cases e;exact hs⟩
theorem jk.stay {S m w w'} (h:jk S m false w w') {b j:Nat} {x:Value} (hx:w.cell? ⟨b,j,none⟩=some x) (hn:m9 x = .no):w'.cell? ⟨b,j,none⟩=some x:=by
 unfold World.cell? at hx
 split at hx
 ·rename_i cs e fr hb
  simp at hx
  obtain ⟨cs',q1,q2,q3⟩:=h.cells b cs e fr hb
  have hlt:j<cs'.size:=by rw [q2];exact (Array.getElem?_eq_some_iff.1 hx).1
  have hx':=Array.getElem?_eq_getElem hlt
  rw [jn q1]
  rcases q3 j x _ hx hx' with q|⟨q,_⟩|⟨⟨q,_⟩,_⟩
  ·rw [hx',q]
  ·exact absurd hn q
  ·cases q
 ·cases hx
theorem jk.aB0 {S m xx w w'} (h:jk S m xx w w') {b j sz:Nat} {cs:Array Value} {e:TypeId} {fr:Nat × Nat} {x:Value} (hb:w.heap[b]? = some (.cells cs e fr)) (hs:TK.sz e=some sz) (hz:sz≠4) (hx:cs[j]? = some x) (hn:m9 x = .no):w'.cell? ⟨b,j,none⟩=some x:=by
 obtain ⟨cs',q1,q2,q3⟩:=h.cells b cs e fr hb
 have hlt:j<cs'.size:=by rw [q2];exact (Array.getElem?_eq_some_iff.1 hx).1
 have hx':=Array.getElem?_eq_getElem hlt
 rw [jn q1,hx',(q3 j x _ hx hx').same hs hz hn]
end Go.Vm
namespace Go.Vm
variable [TK]
noncomputable section
def n5:Nat→Code→Code
 |0,_=>.skip
 |1,.seq a _=>a
 |n+2,.seq a b=>.seq a (n5 (n+1) b)
 |_,c=>c
def jx:Nat→Code→Code
 |0,c=>c
 |n+1,.seq _ b=>jx n b
 |_+1,_=>.skip
def Ly:Nat→Code→Bool
 |0,_=>true
 |n+1,.seq _ b=>Ly n b
 |_+1,_=>false
theorem j7 {P:Program} {T:ff} {a9:Nat} {a b:Code} {Q:QL} {L:SL} {st:St}:wl P T a9 (n5 1 (.seq a b)) Q L st=wl P T a9 a Q L st:=rfl
theorem pr {P:Program} {T:ff} {a9 n:Nat} {a b:Code} {Q:QL} {L:SL} {st:St}:wl P T a9 (n5 (n+2) (.seq a b)) Q L st=wl P T a9 a (Hf (wl P T a9 (n5 (n+1) b)) Q) L st:=rfl
theorem kp {P:Program} {T:ff} {a9 n:Nat} {c:Code} {Q:QL} {L:SL} {st:St}:wl P T a9 (n5 n (jx 0 c)) Q L st=wl P T a9 (n5 n c) Q L st:=rfl
theorem ko {P:Program} {T:ff} {a9 n m:Nat} {a b:Code} {Q:QL} {L:SL} {st:St}:wl P T a9 (n5 n (jx (m+1) (.seq a b))) Q L st=wl P T a9 (n5 n (jx m b)) Q L st:=rfl
theorem np {P:Program} {T:ff} {a9:Nat} {c:Code} {Q:QL} {L:SL} {st:St}:wl P T a9 (jx 0 c) Q L st=wl P T a9 c Q L st:=rfl
theorem nm {P:Program} {T:ff} {a9 m:Nat} {a b:Code} {Q:QL} {L:SL} {st:St}:wl P T a9 (jx (m+1) (.seq a b)) Q L st=wl P T a9 (jx m b) Q L st:=rfl
def Ga (X:SL→St→Prop) (Y:QL):QL:=fun e L st=>
 match e with
 |.normal=>X L st
 |e=>Y e L st
theorem tl {X:SL→St→Prop} {Y:QL} {L st}:Ga X Y .normal L st=X L st:=rfl
theorem vg {X:SL→St→Prop} {Y:QL} {L st}:Ga X Y .ret L st=Y .ret L st:=rfl
theorem u0 {X:SL→St→Prop} {Y:QL} {L st} (i:Nat):Ga X Y (.exit i) L st=Y (.exit i) L st:=rfl
def noQ:QL:=fun _ _ _=>False
theorem M4 {P:Program} [KP P] {T:ff} (hT:ar P T) (hm:P.follows .mixedOrders=true) {N:Nat} {B:fv} {nt:NT} (hnf:B.mw) (hp:B.a9≤1000) (hn0:B.n0≤B.w.heap.size) {X:Exit→Act→World→Prop} {Q:QL} :
 ∀ (n:Nat) (c:Code),Ly (n+1) c=true→ek nt c=true →
  (∀ e L' st' g' a' w',Q e L' st'→lf B nt L' st' g' a' w'→match e with|.normal=>(jx (n+1) c).wpIn (i9 none) N P X a' w'|e=>X (rq e) a' w') →
  ∀ L st g a w,wl P T B.a9 (n5 (n+1) c) Q L st→lf B nt L st g a w→c.wpIn (i9 none) N P X a w:=by
 intro n
 induction n with
 |zero=>
  intro c hsp hs hX L st g a w h hh
  cases c with
  |seq x y=>
   simp only [ek,Bool.and_eq_true] at hs
   refine wpIn_seq (wpIn_mono (piece hT hm (N:=N) hnf hp hn0 hs.1 h hh) ?_)
   rintro ex a' w' ⟨e,L',st',g',rfl,hq,hh',_⟩
   have:=hX e L' st' g' a' w' hq hh'
   cases e with
   |normal=>exact this
   |ret=>exact this
   |exit id=>exact this
  |_=>cases hsp
 |succ n ih=>
  intro c hsp hs hX L st g a w h hh
  cases c with
  |seq x y=>
   simp only [ek,Bool.and_eq_true] at hs
   refine wpIn_seq (wpIn_mono (piece hT hm (N:=N) hnf hp hn0 hs.1 (Q:=Hf (wl P T B.a9 (n5 (n+1) y)) Q) h hh) ?_)
   rintro ex a' w' ⟨e,L',st',g',rfl,hq,hh',_⟩
   cases e with
   |normal=>exact ih y hsp hs.2 hX L' st' g' a' w' hq hh'
   |ret=>exact hX .ret L' st' g' a' w' hq hh'
   |exit id=>exact hX (.exit id) L' st' g' a' w' hq hh'
  |_=>cases hsp
theorem aqx {P:Program} [KP P] {T:ff} (hT:ar P T) (hm:P.follows .mixedOrders=true) {N:Nat} {B:fv} {nt:NT} (hnf:B.mw) (hp:B.a9≤1000) (hn0:B.n0≤B.w.heap.size) {X:Exit→Act→World→Prop} {Q:QL} {c:Code} (hs:ek nt c=true)
 (hX:∀ e L' st' g' a' w',Q e L' st'→lf B nt L' st' g' a' w'→X (rq e) a' w') {L st g a w} (h:wl P T B.a9 c Q L st) (hh:lf B nt L st g a w):c.wpIn (i9 none) N P X a w:=by
 refine wpIn_mono (piece hT hm (N:=N) hnf hp hn0 hs h hh) ?_
 rintro ex a' w' ⟨e,L',st',g',rfl,hq,hh',_⟩
 exact hX e L' st' g' a' w' hq hh'
def ym (w:World):Nat→Nat→Prop:=fun b _=>b<w.heap.size
def abe (w:World) (D:List Deferred):fv:={ b0:=w.heap.size,w,K:=ym w,O:=fun _=>False,a9:=0,pb:=fun _=>none,n0:=w.heap.size,D }
theorem I3 (w D):(abe w D).mw:=fun _ h=>h
structure Dm (S:Nat→Prop) (w1:World) (D:List Deferred) (ds:List Deferred) (w:World):Prop where
 size:w1.heap.size≤w.heap.size
 low:∀ b,b<w1.heap.size→¬ S b→w.heap[b]? = w1.heap[b]?
 obj:∀ (b:Nat) o,w1.heap[b]? = some o→(∀ cs e fr,o ≠ .cells cs e fr)→w.heap[b]? = some o
 os:w.os=w1.os
 tape:w.tape=w1.tape
 output:w.output=w1.output
 Is:∃ bs:List Nat,ds=bs.map mark++D∧bs.Nodup∧∀ b ∈ bs,w1.heap.size≤b∧w.heap[b]? = some (.deferred (some []))
theorem Dm.start (S:Nat→Prop) (w:World) (D:List Deferred):Dm S w D D w:=⟨Nat.le_refl _,fun _ _ _=>rfl,fun _ _ h _=>h,rfl,rfl,rfl,[],rfl,List.nodup_nil,fun b h=>by cases h⟩
theorem Dm.later {S:Nat→Prop} {w1 D ds w nt L st g a w'} (h:Dm S w1 D ds w) (hh:lf (abe w ds) nt L st g a w'):Dm S w1 D a.defers w':=by
 have hb:=hh.cur.base
 have hf:∀ b,b<w.heap.size→w'.heap[b]? = w.heap[b]? := fun b h=>hb.frame b h (fun h=>h)
 refine ⟨Nat.le_trans h.size hb.size,fun b hlt hn=>(hf b (Nat.lt_of_lt_of_le hlt h.size)).trans (h.low b hlt hn),fun b o ho hn=>?_,hb.os.trans h.os,hb.tape.trans h.tape,hb.output.trans h.output,?_⟩
 ·have:=h.obj b o ho hn
  exact (hf b (cb this)).trans this
 ·obtain ⟨bs,e1,e2,e3⟩:=h.Is
  obtain ⟨cs,c1,c2,c3⟩:=hh.Is
  refine ⟨cs++bs,by rw [c1,List.map_append,List.append_assoc];exact congrArg _ e1,?_,fun b hb=>?_⟩
  ·rw [List.nodup_append]
   refine ⟨c2,e2,fun x hx y hy e=>?_⟩
   subst e
   have h1:w.heap.size≤x:=(c3 x hx).1
   have h2:=cb (e3 x hy).2
   omega
  ·rcases List.mem_append.1 hb with hb|hb
   ·exact ⟨Nat.le_trans h.size (c3 b hb).1,(c3 b hb).2.1⟩
   ·have:=(e3 b hb).2
    exact ⟨(e3 b hb).1,(hf b (cb this)).trans this⟩
theorem Dm.s6 {S:Nat→Prop} {w1 D ds w m xx w'} (h:Dm S w1 D ds w) (ho:jk S m xx w w'):Dm S w1 D ds w':=by
 refine ⟨Nat.le_trans h.size ho.size,fun b hlt hn=>(ho.low b (Nat.lt_of_lt_of_le hlt h.size) hn).trans (h.low b hlt hn),fun b o hb hn=>ho.obj b o (h.obj b o hb hn) hn,ho.os.trans h.os,ho.tape.trans h.tape,ho.output.trans h.output,?_⟩
 obtain ⟨bs,e1,e2,e3⟩:=h.Is
 exact ⟨bs,e1,e2,fun b hb=>⟨(e3 b hb).1,ho.obj b _ (e3 b hb).2 (fun cs e fr q=>by cases q)⟩⟩
theorem O6 {nt:NT} {Ls:SL} {a:Act} {w:World} (hnt:uf nt a.tmps) (hr:∀ t,Rel (gK w.heap.size (ym w)) w (lk Ls t) (a.tmps.getD t undef)):lf (abe w a.defers) nt Ls (bj []) (gK w.heap.size (ym w)) a w:=by
 refine ⟨⟨⟨Nat.le_refl _,fun o x hx=>?_,fun o o' x x' b base base' _ hx=>?_,fun _ _ h=>h⟩,fun o _ _=>rfl,⟨rfl,(fun o ho=>(by rcases ho with ho|ho;cases ho;exact ho.elim)),fun _ _ h=>h,fun _ _ _=>rfl,Nat.le_refl _,rfl,rfl,rfl,fun _ _ _=>rfl,fun o b base ho=>?_,fun _ _ h=>.inl h,fun b cs e fr h=>⟨cs,fr,h,rfl⟩,fun b l h=>⟨l,h⟩,fun _ _ _ _ _ _=>rfl⟩,Nat.zero_le _⟩,⟨hnt,hr⟩,Marks.start _ _ _ _ _⟩
 ·simp [bj,m8,Tr.get_nil] at hx
 ·simp [bj,m8,Tr.get_nil] at hx
 ·simp [bj,m8,Tr.get_nil] at ho
theorem at7 {g:Gh} {w:World} {f:Nat→Value}:∀ {ts:List Nat} {vs:List AV},cf g w vs (ts.map f)→∀ t,Rel g w (lk (i4 ts vs) t) (f t)
 | [],vs,h,t=>by cases vs<;>exact .bad _
 |t0::ts,[],h,t=>.bad _
 |t0::ts,v::vs,h,t=>by
  rw [i4,u9]
  by_cases e:t0=t
  ·subst e;rw [if_pos rfl];exact h.head
  ·rw [if_neg e];exact at7 h.tail t
theorem lf.read {B:fv} {nt L st g a w} (hh:lf B nt L st g a w) {α:Type} (A:AC α) (ts:List Nat) {x : α} (hd:A.get st.h (ts.map (lk L))=some x):cf (gK w.heap.size (ym w)) w (A.E x) (ts.map fun t=>a.tmps.getD t undef):=by
 refine A.ok (b0:=w.heap.size) (K:=ym w) hh.cur.ok ⟨fun b j hk=>hh.cur.ok.K b j hk,fun o cells k s e ho b base hi j hj=>?_⟩ ⟨by simp,fun i x v hx hv=>?_⟩ hd
 ·obtain ⟨b',base',h5,_,h6⟩:=hh.cur.ok.obj o _ ho
  rw [hi] at h5;cases h5
  exact h6.lt
 ·rw [List.getElem?_map,Option.map_eq_some_iff] at hx hv
  obtain ⟨t,e1,rfl⟩:=hx
  obtain ⟨t',e2,rfl⟩:=hv
  rw [e1] at e2;cases e2
  exact hh.sl.2 t
def D4 (n:Nat) (ts:List Nat) (tmps:Array Value):NT:=⟨n,ts.map fun t=>(t,tmps.getD t undef)⟩
theorem akl {nt:NT} {tmps:Array Value} (ts:List Nat) (h:uf nt tmps):uf (D4 nt.n ts tmps) tmps:=⟨h.size,fun p hp=>by obtain ⟨t,_,rfl⟩:=List.mem_map.1 hp;rfl⟩
theorem ako {n:Nat} {ts:List Nat} {tmps tmps':Array Value} (h:uf (D4 n ts tmps) tmps') {t:Nat} (ht:t ∈ ts):tmps'.getD t undef=tmps.getD t undef:=h.fix _ (List.mem_map.2 ⟨t,ht,rfl⟩)
theorem ae4 {n:Nat} {ts:List Nat} {tmps tmps':Array Value} (h:uf (D4 n ts tmps) tmps') {us:List Nat} (hu:∀ u ∈ us,u ∈ ts):us.map (fun t=>tmps'.getD t undef)=us.map (fun t=>tmps.getD t undef):=List.map_congr_left fun t ht=>ako h (hu t ht)
theorem Rel.stay {b0 b1:Nat} {K K':Nat→Nat→Prop} {w w':World} {a:AV} {v:Value} (hb0:∀ b,b0≤b→(∀ j,K b j)→b1≤b) (hK:∀ b j,K b j→K' b j) (hh:∀ b j,K b j→w'.heap[b]? = w.heap[b]?) (h:Rel (gK b0 K) w a v):Rel (gK b1 K') w' a v:=by
 have hno:∀ o p,(gK b0 K).inj o≠some p:=fun o p e=>by cases e
 generalize hg:gK b0 K=g0 at h hno
 have hK0:∀ b j,g0.K b j→K b j:=by subst hg;exact fun _ _ h=>h
 have hb:g0.b0=b0:=by subst hg;rfl
 clear hg
 have hc:∀ (b j:Nat),g0.K b j→w'.cell? ⟨b,j,none⟩=w.cell? ⟨b,j,none⟩:=fun b j hk=>pf (hh b j (hK0 b j hk))
 induction h with
 |sc x=>exact .sc x
 |agg l vs hs _ ih=>exact .agg l vs hs ih
 |fo l vs hs _ ih=>exact .fo l vs hs ih
 |vl loc sz es b off cap c hsz hl hcap h _ hw ih=>
  refine .vl loc sz es b off cap c hsz (fun e=>hb0 b (by rw [← hb];exact hl e) (fun j=>hK0 _ _ ((hw e).K j))) hcap (fun j a hj=>⟨hK _ _ (hK0 _ _ (h j a hj).1),(hc _ _ (h j a hj).1).trans (h j a hj).2⟩) ih (fun e=>?_)
  obtain ⟨w1,⟨cs,e,w2,w3⟩,w4,w5⟩:=hw e
  exact ⟨fun j=>hK _ _ (hK0 _ _ (w1 j)),⟨cs,e,(hh b 0 (hK0 _ _ (w1 0))).trans w2,w3⟩,w4,w5⟩
 |k8 loc sz=>exact .k8 loc sz
 |tq loc sz a=>exact .tq loc sz a
 |sl o off len sz b base cap hi hc hm hr=>exact (hno _ _ hi).elim
 |uy o off sz a=>exact .uy o off sz a
 |vt o off sz=>exact .vt o off sz
 |ez a=>exact .ez a
 |ptr o off b base hi=>exact (hno _ _ hi).elim
 |fy l b off c h _ ih=>exact .fy l b off c (fun j a hj=>⟨hK _ _ (hK0 _ _ (h j a hj).1),(hc _ _ (h j a hj).1).trans (h j a hj).2⟩) ih
 |fn f first captured va vb hs _ hs' _ ih ih'=>exact .fn f first captured va vb hs ih hs' ih'
 |mp o b base hi=>exact (hno _ _ hi).elim
 |ry t a v _ ih=>exact .ry t a v ih
 |yl o b base hi=>exact (hno _ _ hi).elim
 |bad v=>exact .bad v
theorem Rel.low {S:Nat→Prop} {w1 D ds w} (h:Dm S w1 D ds w) (hS:∀ b,b<w1.heap.size→¬ S b) {a:AV} {v:Value} (hr:Rel (gK w1.heap.size (ym w1)) w1 a v):Rel (gK w.heap.size (ym w)) w a v:=
 hr.stay (K:=ym w1) (K':=ym w) (fun b h1 h2=>absurd (h2 0) (Nat.not_lt.2 h1)) (fun b _ (hk:b<w1.heap.size)=>Nat.lt_of_lt_of_le hk h.size) (fun b _ (hk:b<w1.heap.size)=>h.low b hk (hS b hk))
theorem cf.low {S:Nat→Prop} {w1 D ds w} (h:Dm S w1 D ds w) (hS:∀ b,b<w1.heap.size→¬ S b) {l:List AV} {vs:List Value} (hr:cf (gK w1.heap.size (ym w1)) w1 l vs):cf (gK w.heap.size (ym w)) w l vs:=⟨hr.1,fun i a v ha hv=>(hr.2 i a v ha hv).low h hS⟩
theorem Dm.fin {B:fv} {nt0 nt:NT} {L st g a1 w1} (hp:B.a9=0) (hnf:B.mw) (hn0:B.n0≤B.w.heap.size) (h1:lf B nt L st g a1 w1) {S:Nat→Prop} {a:Act} {w:World} (hm:Dm S w1 a1.defers a.defers w) (hS:∀ b,b<w1.heap.size→¬ S b) (hO:∀ b,¬ B.O b) {r:Nat} {v:Value} (hnt:uf nt0 a.tmps) (hv:a.tmps.getD r undef=v) {Q:QL} {e:Ex} (hq:Q e [(r,.sc v)] (bj [])):Fin B nt0 Q (rq e) a w:=by
 have hb:=h1.cur.base
 have hok:=h1.cur.ok
 have hlow:∀ b,b<w1.heap.size→w.heap[b]? = w1.heap[b]? := fun b hlt=>hm.low b hlt (hS b hlt)
 have hKl:∀ b j,B.K b j→b<w1.heap.size:=fun b j hk=>hok.K b j (hb.K b j hk)
 refine Fin.mk' (g:={ b0:=B.b0,inj:=fun _=>none,K:=B.K }) hq ⟨⟨?_,fun o x hx=>?_,fun o o' x x' b base base' _ hx=>?_,fun b j hk=>Nat.lt_of_lt_of_le (hKl b j hk) hm.size⟩,fun o _ _=>rfl,⟨rfl,fun o ho=>?_,fun _ _ h=>h,fun b j hk=>?_,Nat.le_trans hb.size hm.size,hm.os.trans hb.os,hm.tape.trans hb.tape,hm.output.trans hb.output,fun b hlt hn=>?_,fun o b base ho=>?_,fun _ _ h=>.inl h,fun b cs e fr h=>?_,fun b l h=>?_,fun b cs e fr h hk=>?_⟩,by rw [hp];exact Nat.zero_le _⟩ ⟨hnt,fun t=>?_⟩ ?_
 ·have:=hok.size;rw [hb.b0] at this;exact Nat.le_trans this hm.size
 ·simp [bj,m8,Tr.get_nil] at hx
 ·simp [bj,m8,Tr.get_nil] at hx
 ·rcases ho with ho|ho
  ·rw [hp] at ho;cases ho
  ·exact (hnf o ho).elim
 ·exact (pf (hlow b (hKl b j hk))).trans (hb.cell b j hk)
 ·have hlt1:=Nat.lt_of_lt_of_le hlt hb.size
  exact (hlow b hlt1).trans (hb.frame b hlt hn)
 ·simp [bj,m8,Tr.get_nil] at ho
 ·obtain ⟨cs',fr',q1,q2⟩:=hb.jb b cs e fr h
  exact ⟨cs',fr',(hlow b (cb q1)).trans q1,q2⟩
 ·obtain ⟨l',q1⟩:=hb.lp b l h
  exact ⟨l',(hlow b (cb q1)).trans q1⟩
 ·have q1:=hb.whole b cs e fr h hk
  exact (hlow b (cb (q1.trans h))).trans q1
 ·rw [u9]
  by_cases e:r=t
  ·subst e;rw [if_pos rfl,hv];exact .sc _
  ·rw [if_neg e];exact .bad _
 ·obtain ⟨bs,e1,e2,e3⟩:=hm.Is
  obtain ⟨cs,c1,c2,c3⟩:=h1.Is
  refine ⟨bs++cs,by rw [e1,c1,List.map_append,List.append_assoc],?_,fun b hb'=>?_⟩
  ·rw [List.nodup_append]
   refine ⟨e2,c2,fun x hx y hy e=>?_⟩
   subst e
   have h2:=cb (c3 x hy).2.1
   have h3:=(e3 x hx).1
   omega
  ·have hun:je { b0:=B.b0,inj:=fun _=>none,K:=B.K } (bj []).h b:=fun o base ho=>by simp [bj,m8,Tr.get_nil] at ho
   rcases List.mem_append.1 hb' with hb'|hb'
   ·exact ⟨Nat.le_trans hn0 (Nat.le_trans hb.size (e3 b hb').1),(e3 b hb').2,hun⟩
   ·have q:=c3 b hb'
    exact ⟨q.1,(hlow b (cb q.2.1)).trans q.2.1,hun⟩
def alu (x:Operand):Option Nat:=
 match x with
 |.tmp t=>some t
 |_=>none
def ao7 (o:Oper):Option (Option Nat × Nat × List Nat):=
 match o.op,o.guard with
 |.call { callee:=.value (.func f),args,.. },none=>(args.toList.mapM alu).map fun ts=>(o.dst,f,ts)
 |_,_=>none
def Ju (ops:Array Oper) (n:Nat):Option (Option Nat × Nat × List Nat):=
 match ops.toList.drop n with
 | [o]=>ao7 o
 |_=>none
theorem akj:∀ {l:List Operand} {ts:List Nat},l.mapM alu=some ts→l=ts.map Operand.tmp
 | [],ts,h=>by simp at h;subst h;rfl
 |x::l,ts,h=>by
  simp only [List.mapM_cons,Option.bind_eq_bind,Option.bind_eq_some_iff] at h
  obtain ⟨t,h1,us,h2,h3⟩:=h
  cases h3
  cases x with
  |tmp u=>simp only [alu,Option.some.injEq] at h1;subst h1;rw [List.map_cons,akj h2]
  |_=>cases h1
theorem ah2 {ops:Array Oper} {n f:Nat} {d:Option Nat} {args:List Nat} (h:Ju ops n=some (d,f,args)):∃ c ts pos af ty,ops.toList.drop n=[⟨d,.call { callee:=.value (.func f),args:=(args.map Operand.tmp).toArray,argTypes:=ts },ty,pos,af,none⟩]∧c=():=by
 unfold Ju at h
 split at h
 ·rename_i o ho
  obtain ⟨dst,op,ty,pos,af,gd⟩:=o
  unfold ao7 at h
  split at h
  ·rename_i f' aa ats h1 h2
   simp only [Option.map_eq_some_iff,Prod.mk.injEq] at h
   obtain ⟨ts,h3,rfl,rfl,rfl⟩:=h
   subst h1 h2
   refine ⟨(),ats,pos,af,ty,?_,rfl⟩
   rw [ho,← akj h3]
  ·cases h
 ·cases h
theorem ah0 {P:Program} [KP P] {T:ff} (hT:ar P T) {B:fv} {nt:NT} (hnf:B.mw) {N id n:Nat} {ops:Array Oper} {K:SL→St→Prop} {X:Exit→Act→World→Prop} {L st g a w} (hs:ek nt (.region id ops false)=true)
 {f:Nat} {args:List Nat} {d:Option Nat} (hl:Ju ops n=some (d,f,args)) (he:po P f=true)
 (h:opsL P T ops (ops.toList.take n) K L st) (hh:lf B nt L st g a w)
 (hK:∀ L' st' g' a' w',K L' st'→lf B nt L' st' g' a' w'→Calls P f (args.map fun t=>a'.tmps.getD t undef).toArray w' (fun e w''=>∃ r,e = .returned r∧∀ a'',a''.defers=a'.defers→uf nt a''.tmps→(∀ dd,d=some dd→a''.tmps.getD dd undef=r)→X .normal a'' w'')) :
 (Code.region id ops false).wpIn (i9 none) N P X a w:=by
 simp only [ek,Bool.and_eq_true] at hs
 obtain ⟨hd,hg⟩:=hs
 obtain ⟨_,ts,pos,af,ty,hl,_⟩:=ah2 hl
 have key:∀ (l:List Oper) (is:List Nat),(∀ o ∈ l,o ∈ ops)→is.map (fun i=>ops[i]?)=(l++ops.toList.drop n).map some→∀ L st g a w,opsL P T ops l K L st→lf B nt L st g a w→wpOpsIn (i9 none) N P ops X is a w:=by
  intro l
  induction l with
  |nil=>
   intro is _ his L st g a w h hh
   rw [hl,List.nil_append] at his
   match is,his with
   | [i],his=>
    simp only [List.map_cons,List.map_nil,List.cons.injEq,and_true] at his
    have hK':=hK L st g a w h hh
    have ho:(⟨d,.call { callee:=.value (.func f),args:=(args.map Operand.tmp).toArray,argTypes:=ts },ty,pos,af,none⟩:Oper) ∈ ops:=by
     have:(⟨d,.call { callee:=.value (.func f),args:=(args.map Operand.tmp).toArray,argTypes:=ts },ty,pos,af,none⟩:Oper) ∈ ops.toList.drop n:=by rw [hl];exact List.mem_singleton.2 rfl
     exact Array.mem_toList_iff.1 (List.mem_of_mem_drop this)
    simp only [wpOpsIn,his]
    have hw:Region.wanted (⟨d,.call { callee:=.value (.func f),args:=(args.map Operand.tmp).toArray,argTypes:=ts },ty,pos,af,none⟩:Oper) (yielded ops a.tmps)=true:=by simp [Region.wanted]
    rw [hw,if_pos rfl]
    refine ⟨m5 none P _ a w,?_⟩
    rw [Oper.semAt_eq _ _ _ (by intro c e;cases e)]
    have hrun:(execOp a.eval (⟨d,.call { callee:=.value (.func f),args:=(args.map Operand.tmp).toArray,argTypes:=ts },ty,pos,af,none⟩:Oper)).run P w=(callFunc f (args.map fun t=>a.tmps.getD t undef).toArray).run P w:=by
     rw [Ji (h:=f) (first:=#[]) (captured:=#[]) (f:=.func f) rfl rfl]
     congr 2
     apply Array.ext'
     simp [Act.eval]
    rw [hrun,wx he]
    refine ⟨(fun h=>(by cases h)),(tx (ro:=none) (n:=N - 1) hK').mono ?_⟩
    rintro e w' ⟨r,rfl,hX⟩
    have hdd:=fun dd (e:d=some dd)=>te hd ho dd e
    show wpOpsIn (i9 none) N P ops X [] (a.put d r) w'
    refine hX _ (put_defers _ _ _) (hh.sl.1.put hdd) (fun dd e=>?_)
    subst e
    have:=(NT.Mc (hdd dd rfl)).1
    show (a.tmps.setIfInBounds dd r).getD dd undef=r
    rw [Array.getD_eq_getD_getElem?,Array.getElem?_setIfInBounds,if_pos rfl,if_pos (by rw [hh.sl.1.size];exact this)];rfl
   | [],his=>cases his
   |_::_::_,his=>simp at his
  |cons o l ih=>
   intro is hmem his L st g a w h hh
   obtain ⟨hc,hr,hdf⟩:=hh
   cases is with
   |nil=>cases his
   |cons i is=>
    simp only [List.cons_append,List.map_cons,List.cons.injEq] at his
    obtain ⟨hi,his⟩:=his
    have ho:=hmem o (by simp)
    simp only [wpOpsIn,hi]
    rcases I9 hr (Jr hg ho) h with ⟨hw,h1⟩|⟨hw,h1⟩
    ·rw [hw,if_pos rfl]
     unfold Xf Im at h1
     cases hop:i5 P T o (ee L) st with
     |none=>
      rw [hop] at h1
      refine agu hc.ok (fun o ho=>hc.fresh o ho (hnf o)) hr.eval h1 none N _ _ ?_
      rintro u w' ⟨g',v,st',q0,q1,q2,q3,q4⟩
      exact ih is (fun o ho=>hmem o (by simp [ho])) his _ st' g' _ w' q0 ⟨hc.step (hnf.Hc _ _) ⟨q1,q2⟩ q3,(hr.ext q2.ext).put q4 (te hd ho),by rw [put_defers];exact hdf.step q2⟩
     |some p=>
      obtain ⟨v,st'⟩:=p
      rw [hop] at h1
      refine Sm hT hc.ok (hc.free (hnf.Hc _ _)) hr.eval hop none N _ _ ?_
      rintro u w' ⟨g',q1,q2,q3⟩
      exact ih is (fun o ho=>hmem o (by simp [ho])) his _ st' g' _ w' h1 ⟨hc.step (hnf.Hc _ _) ⟨F5 hop,q1⟩ q2,(hr.ext q1.ext).put q3 (te hd ho),by rw [put_defers];exact hdf.step q1⟩
    ·rw [hw,if_neg (by simp)]
     refine ⟨m5 none P o a w,?_⟩
     exact ih is (fun o ho=>hmem o (by simp [ho])) his _ st g _ w h1 ⟨hc,hr.put (.sc _) (te hd ho),by rw [put_defers];exact hdf⟩
 refine wpIn_region ?_
 exact key (ops.toList.take n) (List.range ops.size) (fun o ho=>Array.mem_toList_iff.1 (List.mem_of_mem_take ho)) (by rw [List.take_append_drop];exact N8 ops) L st g a w h hh
def sw:Nat→Code→Code
 |0,.seq a _=>a
 |n+1,.seq _ b=>sw n b
 |_,_=>.skip
def J2:Code→Array Oper
 |.region _ ops _=>ops
 |_=>#[]
def idC:Code→Nat
 |.region i _ _=>i
 |_=>0
theorem uz {a b:Code}:sw 0 (.seq a b)=a:=rfl
theorem u4 {n:Nat} {a b:Code}:sw (n+1) (.seq a b)=sw n b:=rfl
theorem xt {i ops d}:J2 (.region i ops d)=ops:=rfl
theorem Tw:∀ {n:Nat} {c:Code},Ly (n+1) c=true→jx n c = .seq (sw n c) (jx (n+1) c)
 |0,.seq a b,_=>rfl
 |n+1,.seq a b,h=>Tw (n:=n) (c:=b) h
theorem ajg (n:Nat) (ts:List Nat) (x y:Array Value) (t:Nat):(D4 n ts x).has t=(D4 n ts y).has t:=by
 unfold NT.has D4
 rw [List.all_map,List.all_map]
 rfl
theorem Gs {n:Nat} {ts:List Nat} {x y:Array Value}:∀ {c:Code},ek (D4 n ts x) c=true→ek (D4 n ts y) c=true:=by
 intro c
 induction c with
 |region i ops d=>
  intro h
  simp only [ek,C6,wi,ajg n ts y x] at h ⊢
  exact h
 |seq a b iha ihb=>intro h;simp only [ek,Bool.and_eq_true] at h ⊢;exact ⟨iha h.1,ihb h.2⟩
 |cond c a b iha ihb=>intro h;simp only [ek,Bool.and_eq_true] at h ⊢;exact ⟨iha h.1,ihb h.2⟩
 |block i b ih=>intro h;exact ih h
 |loop b ih=>intro h;exact ih h
 |scope b ih=>intro h;exact ih h
 |rangeFunc f ps a b iha ihb=>
  intro h
  simp only [ek,Bool.and_eq_true,ajg n ts y x] at h ⊢
  exact ⟨⟨⟨⟨h.1.1.1.1,iha h.1.1.1.2⟩,ihb h.1.1.2⟩,h.1.2⟩,h.2⟩
 |_=>intro _;rfl
theorem X8 {P:Program} [KP P] {T:ff} (hT:ar P T) {B:fv} {nt:NT} (hnf:B.mw) {N k n:Nat} {c:Code} (hsp:Ly (k+1) c=true) (hreg:sw k c = .region (idC (sw k c)) (J2 (sw k c)) false) (hs:ek nt (sw k c)=true)
 {d:Option Nat} {f:Nat} {args:List Nat} (hcall:Ju (J2 (sw k c)) n=some (d,f,args)) (he:po P f=true) {K:SL→St→Prop} {L st g a w} (h:opsL P T (J2 (sw k c)) ((J2 (sw k c)).toList.take n) K L st) (hh:lf B nt L st g a w) {X:Exit→Act→World→Prop}
 (hK:∀ L' st' g' a' w',K L' st'→lf B nt L' st' g' a' w'→Calls P f (args.map fun t=>a'.tmps.getD t undef).toArray w' (fun e w''=>∃ r,e = .returned r∧∀ a'',a''.defers=a'.defers→uf nt a''.tmps→(∀ dd,d=some dd→a''.tmps.getD dd undef=r)→(jx (k+1) c).wpIn (i9 none) N P X a'' w'')) :
 (jx k c).wpIn (i9 none) N P X a w:=by
 rw [Tw hsp]
 refine wpIn_seq ?_
 rw [hreg] at hs ⊢
 exact ah0 hT hnf hs hcall he h hh hK
end
end Go.Vm
namespace Go.Vm
variable [TK]
theorem lf.exact {B:fv} {nt L st g a w} (hh:lf B nt L st g a w) {t:Nat} {x:Value} (h:lk L t = .sc x):a.tmps.getD t undef=x:=by
 have:=hh.sl.2 t
 rw [h] at this
 exact this.exact rfl
theorem lf.box {B:fv} {nt L st g a w} (hh:lf B nt L st g a w) {t o k:Nat} {cells:List AV} {et:TypeId} (hl:lk L t = .ptr o 0) (ho:st.h.get o=some (.row cells k 2 et)) :
 ∃ b cs,a.tmps.getD t undef = .pointer (some ⟨b,0,none⟩)∧B.b0≤b∧w.heap[b]? = some (.cells cs et (0,0))∧cf g w cells cs.toList:=by
 have h1:=hh.sl.2 t
 rw [hl] at h1
 obtain ⟨v,hv⟩:∃ v,a.tmps.getD t undef=v:=⟨_,rfl⟩
 rw [hv] at h1 ⊢
 cases h1 with
 |ptr _ _ b base hi=>
  obtain ⟨b',base',q1,q2,cs,fr,q3,q4,q5,q6,q7,q8,q9,q10⟩:=hh.cur.ok.obj o _ ho
  rw [hi] at q1;cases q1
  have hf:=q8 (by decide)
  obtain ⟨e1,e2⟩:=q9 rfl
  subst hf e1
  refine ⟨b,cs,rfl,by rw [← hh.cur.base.b0];exact q2,q3,by simp [e2],fun i x v hx hv=>?_⟩
  obtain ⟨c,hc,hr⟩:=q5 i x hx
  rw [Nat.zero_add,← Array.getElem?_toList,hv] at hc
  cases hc;exact hr
theorem aj6 {g:Gh} {w:World} {b:Nat} {cs:Array Value} {e:TypeId} {fr:Nat × Nat} (h:w.heap[b]? = some (.cells cs e fr)) (hK:∀ j,g.K b j):Rel g w (.fy (cs.toList.map .sc)) (.pointer (some ⟨b,0,none⟩)):=by
 refine .fy _ b 0 (fun j=>cs.getD j undef) (fun j a ha=>⟨hK _,?_⟩) (fun j a ha=>?_)
 ·rw [List.getElem?_map,Option.map_eq_some_iff] at ha
  obtain ⟨x,hx,rfl⟩:=ha
  rw [Nat.zero_add]
  exact cell_of h (by have:=(List.getElem?_eq_some_iff.1 hx).1;simpa using this)
 ·rw [List.getElem?_map,Option.map_eq_some_iff] at ha
  obtain ⟨x,hx,rfl⟩:=ha
  rw [Array.getElem?_toList] at hx
  rw [Array.getD_eq_getD_getElem?,hx]
  exact .sc x
theorem au5 {g:Gh} {w:World} {tmps:Array Value}:∀ {Ls:SL},(∀ p ∈ Ls,Rel g w p.2 (tmps.getD p.1 undef))→∀ t,Rel g w (lk Ls t) (tmps.getD t undef)
 | [],_,t=>.bad _
 |p::Ls,h,t=>by
  rw [u9]
  by_cases e:p.1=t
  ·rw [if_pos e,← e];exact h p (by simp)
  ·rw [if_neg e];exact au5 (fun q hq=>h q (by simp [hq])) t
theorem lf.quiet {w0:World} {D:List Deferred} {nt L st g a w} (hh:lf (abe w0 D) nt L st g a w) (S:Nat→Prop) (m:Nat) (xx:Bool):jk S m xx w0 w:=by
 have hb:=hh.cur.base
 exact .quiet S m xx hb.size hb.os hb.tape hb.output (fun b h=>hb.frame b h (fun h=>h))
theorem lf.aBw {B:fv} {nt L st g a w} (hh:lf B nt L st g a w):wk g st.h (ym w):=⟨fun b j hk=>hh.cur.ok.K b j hk,fun o cells k s e ho b base hi j hj=>by
 obtain ⟨b',base',h5,_,h6⟩:=hh.cur.ok.obj o _ ho
 rw [hi] at h5;cases h5
 exact h6.lt⟩
theorem lf.awu {B:fv} {nt L st g a w} (hh:lf B nt L st g a w) {α:Type} (C:dm α) {x : α} {vs:List Value} (h:cf g w (C.cells true x) vs):cf (gK B.b0 (ym w)) w (C.cells true x) vs:=
 C.ok hh.cur.ok hh.aBw (fun _=>Nat.le_of_eq hh.cur.base.b0.symm) h (C.rt true st.h true x (fun _=>rfl))
theorem aw0 {S:Nat→Prop} {m M sz b:Nat} {xx:Bool} {w w':World} {cs:Array Value} {e:TypeId} {E:Nat→World→List Value→Prop} (hE:Oy S sz E) (hM : 4≤M) (ho:jk S m xx w w') (hb:w.heap[b]? = some (.cells cs e (0,0))) (hs:TK.sz e=some sz) (hl:cs.size=sz) (h:E M w cs.toList) :
 ∃ cs',w'.heap[b]? = some (.cells cs' e (0,0))∧cs'.size=sz∧E (M+m) w' cs'.toList:=by
 obtain ⟨cs',q1,q2,q3⟩:=ho.cells b cs e _ hb
 refine ⟨cs',q1,q2.trans hl,hE (j0:=0) hM ho hs (Nat.zero_mod _) (by simpa using hl) (by simp [q2,hl]) (fun i x x' hx hx'=>?_) h⟩
 rw [Array.getElem?_toList] at hx hx'
 rw [Nat.zero_add]
 exact q3 i x x' hx hx'
theorem aqy {nt:NT} {n:Nat} {tmps:Array Value} (h:uf nt tmps) (hn:nt.n=n):uf (n:NT) tmps:=⟨by rw [h.size,hn],fun p hp=>by cases hp⟩
end Go.Vm
namespace Go.Vm
variable [TK]
noncomputable section
section
variable (P : Program) (ρ : Operand → AV) (d : Option Tmp) (ty : TypeId) (pos : String) (af : Array Edge) (gd : Option (Nat × Bool)) (t u : TypeId) (x y : Operand)
theorem Mx (op:BinOp) (k k':IntKind) (a b:Int) (hx : ρ x = .sc (.int k a)) (hy : ρ y = .sc (.int k' b)) :
 rj P ρ ⟨d,.binOp op t x y u,ty,pos,af,gd⟩ op t (.sc (.int k a)) (.sc (.int k' b))=M.of ((ev P (binOp op t (.int k a) (.int k' b))).map .sc):=by
 have h1:∀ s:Sem Value,ev P (do pure (Next.value (← s)))=(ev P s).map Next.value:=by
  intro s
  induction s with
  |pure b=>rfl
  |program k ih=>exact ih P
  |choose q k ih=>
   simp only [bind,Sem.bind,ev]
   split
   ·exact ih 0
   ·rfl
  |mark m k ih=>exact ih
  |_=>rfl
 have h2:execOp (fun z=>((ρ z).jc).getD undef) ⟨d,.binOp op t x y u,ty,pos,af,gd⟩=(do pure (Next.value (← (do eqGuard op t x y (.int k a) (.int k' b);binOp op t (.int k a) (.int k' b))))):=by
  simp only [execOp,hx,hy,AV.jc,Option.getD_some]
 have h3:ev P (do eqGuard op t x y (.int k a) (.int k' b);binOp op t (.int k a) (.int k' b))=ev P (binOp op t (.int k a) (.int k' b)):=by
  cases op<;>rfl
 unfold rj uj
 simp only [AV.jc,Option.isSome_some,Bool.and_self,cond_true]
 rw [h2,h1,h3]
 cases ev P (binOp op t (.int k a) (.int k' b))<;>rfl
theorem arb (k k':IntKind) (a b:Int) (h : 0≤b):ev P (binOp .shl t (.int k a) (.int k' b))=some (.int k (k.wrap (a * 2 ^ (min b.toNat k.bits)))):=by
 have:¬ b<0:=by omega
 simp [binOp,Op.shift,this,En]
theorem ao0 (k k':IntKind) (a b:Int) (h : 0≤b):ev P (binOp .shr t (.int k a) (.int k' b))=some (.int k (a.fdiv (2 ^ (min b.toNat k.bits)))):=by
 have:¬ b<0:=by omega
 simp [binOp,Op.shift,this,En]
theorem aua {d:TypeDesc} (h:P.underlying t=some d):ev P (underlying t)=some d:=by
 rw [underlying]
 show ev P (match P.underlying t with|some d=>pure d|none=>_)=_
 rw [h];rfl
theorem Ln (op:BinOp) (a b:ByteArray) (hx : ρ x = .sc (.string a)) (hy : ρ y = .sc (.string b)) :
 rj P ρ ⟨d,.binOp op t x y u,ty,pos,af,gd⟩ op t (.sc (.string a)) (.sc (.string b))=M.of ((ev P (binOp op t (.string a) (.string b))).map .sc):=by
 have h1:∀ s:Sem Value,ev P (do pure (Next.value (← s)))=(ev P s).map Next.value:=by
  intro s
  induction s with
  |pure b=>rfl
  |program k ih=>exact ih P
  |choose q k ih=>
   simp only [bind,Sem.bind,ev]
   split
   ·exact ih 0
   ·rfl
  |mark m k ih=>exact ih
  |_=>rfl
 have h2:execOp (fun z=>((ρ z).jc).getD undef) ⟨d,.binOp op t x y u,ty,pos,af,gd⟩=(do pure (Next.value (← (do eqGuard op t x y (.string a) (.string b);binOp op t (.string a) (.string b))))):=by
  simp only [execOp,hx,hy,AV.jc,Option.getD_some]
 have h3:ev P (do eqGuard op t x y (.string a) (.string b);binOp op t (.string a) (.string b))=ev P (binOp op t (.string a) (.string b)):=by
  cases op<;>rfl
 unfold rj uj
 simp only [AV.jc,Option.isSome_some,Bool.and_self,cond_true]
 rw [h2,h1,h3]
 cases ev P (binOp op t (.string a) (.string b))<;>rfl
theorem str_eq (a b:ByteArray):(a.toList == b.toList)=decide (a=b):=by
 rw [ByteArray.toList_eq,ByteArray.toList_eq,Bool.eq_iff_iff]
 simp only [beq_iff_eq,decide_eq_true_eq]
 constructor
 ·intro h
  cases a;cases b
  congr 1
  exact Array.ext' h
 ·intro h;rw [h]
theorem S4 (a b:ByteArray):ev P (binOp .eql t (.string a) (.string b))=some (.bool (decide (a=b))):=by
 rw [← str_eq];rfl
theorem U8 (a b:ByteArray):ev P (binOp .neq t (.string a) (.string b))=some (.bool (!decide (a=b))):=by
 rw [← str_eq];rfl
end
def Oh (u:Option TypeDesc):Bool:=match u with|some (.slice _)=>true|_=>false
theorem ajr (e):Oh (some (.slice e))=true:=id rfl
theorem ak9 {u} (h:Oh u=true):∃ e,u=some (.slice e):=by
 unfold Oh at h;split at h
 ·exact ⟨_,rfl⟩
 ·cases h
theorem aju {P:Program} {t op x y} (h:Oh (P.underlying t)=true):Of P t op x y=O9 op x y:=by
 obtain ⟨e,he⟩:=ak9 h
 unfold Of;rw [he]
theorem Sr (P:Program) (ρ o op t l sz es b):rj P ρ o op t (.vl l sz es) b=Of P t op (.vl l sz es) b:=id rfl
theorem ajv (b):qc .eql b=M.pure (.sc (.bool b)):=id rfl
theorem Ib (P:Program) (ρ:Operand→AV) (d ty pos af gd) (t u:TypeId) (x y:Operand) (op:BinOp) (a b:Option Addr) (n c m k:Nat) (hx : ρ x = .sc (.slice a n c)) (hy : ρ y = .sc (.slice b m k)) :
 rj P ρ ⟨d,.binOp op t x y u,ty,pos,af,gd⟩ op t (.sc (.slice a n c)) (.sc (.slice b m k))=M.of ((ev P (binOp op t (.slice a n c) (.slice b m k))).map .sc):=by
 have h1:∀ s:Sem Value,ev P (do pure (Next.value (← s)))=(ev P s).map Next.value:=by
  intro s
  induction s with
  |pure b=>rfl
  |program k ih=>exact ih P
  |choose q k ih=>
   simp only [bind,Sem.bind,ev]
   split
   ·exact ih 0
   ·rfl
  |mark m k ih=>exact ih
  |_=>rfl
 have h2:execOp (fun z=>((ρ z).jc).getD undef) ⟨d,.binOp op t x y u,ty,pos,af,gd⟩=(do pure (Next.value (← (do eqGuard op t x y (.slice a n c) (.slice b m k);binOp op t (.slice a n c) (.slice b m k))))):=by
  simp only [execOp,hx,hy,AV.jc,Option.getD_some]
 have h3:ev P (do eqGuard op t x y (.slice a n c) (.slice b m k);binOp op t (.slice a n c) (.slice b m k))=ev P (binOp op t (.slice a n c) (.slice b m k)):=by
  cases op<;>rfl
 unfold rj uj
 simp only [AV.jc,Option.isSome_some,Bool.and_self,cond_true]
 rw [h2,h1,h3]
 cases ev P (binOp op t (.slice a n c) (.slice b m k))<;>rfl
theorem aba {P:Program} {t:TypeId} {a:Option Addr} {n c m k:Nat} (d:Nat) (h:Oh (P.underlying t)=true):ev P (Op.equalIn (d+1) t (.slice a n c) (.slice none m k))=some a.isNone:=by
 obtain ⟨e,he⟩:=ak9 h
 simp only [Op.equalIn]
 rw [B4,aua P t he]
 cases a<;>rfl
theorem L4 {P:Program} {t:TypeId} {a:Option Addr} {n c m k:Nat} (h:Oh (P.underlying t)=true):ev P (binOp .eql t (.slice a n c) (.slice none m k))=some (.bool a.isNone):=by
 show ev P (do pure (Value.bool (← Op.equalIn (9999+1) t (.slice a n c) (.slice none m k))))=_
 rw [B4,aba 9999 h]
 rfl
end
end Go.Vm
section
set_option maxRecDepth 4000
namespace Go.Vm
theorem wR:type_of% @akp∧type_of% @Zs∧type_of% @aqh∧type_of% @aj8∧type_of% @aca∧type_of% @ajw∧type_of% @ak6∧type_of% @asd∧type_of% @ap9∧type_of% @aqq∧type_of% @ar7∧type_of% @ao8∧type_of% @aqr∧type_of% @ar4∧type_of% @aj3∧type_of% @ajm∧type_of% @akn∧type_of% @ap8∧type_of% @aqa∧type_of% @Zi∧type_of% @acb∧type_of% @Z8∧type_of% @Uu∧type_of% @Te∧type_of% @afp∧type_of% @adh∧type_of% @afd∧type_of% @akt∧type_of% @acw∧type_of% @afc∧type_of% @Yq∧type_of% @aga∧type_of% @Zb∧type_of% @Zh∧type_of% @adm∧type_of% @Zp∧type_of% @Yy∧type_of% @apb∧type_of% @H0∧type_of% @Ij∧type_of% @ago∧type_of% @aed∧type_of% @Ub∧type_of% @ak7∧type_of% @ab3∧type_of% @Z6∧type_of% @aea∧type_of% @ald∧type_of% @arn∧type_of% @apr∧type_of% @arh∧type_of% @aq2∧type_of% @ast∧type_of% @aq4∧type_of% @ajh∧type_of% @aj2∧type_of% @ajo∧type_of% @ajc∧type_of% @ajb∧type_of% @adg∧type_of% @Xz∧type_of% @U7∧type_of% @T0∧type_of% @agj∧type_of% @akv∧type_of% @ajd∧type_of% @Tx∧type_of% @ary∧type_of% @aqt∧type_of% @ac3∧type_of% @ab1∧type_of% @ak3∧type_of% @Qt∧type_of% @Nh:=
 ⟨@akp,@Zs,@aqh,@aj8,@aca,@ajw,@ak6,@asd,@ap9,@aqq,@ar7,@ao8,@aqr,@ar4,@aj3,@ajm,@akn,@ap8,@aqa,@Zi,@acb,@Z8,@Uu,@Te,@afp,@adh,@afd,@akt,@acw,@afc,@Yq,@aga,@Zb,@Zh,@adm,@Zp,@Yy,@apb,@H0,@Ij,@ago,@aed,@Ub,@ak7,@ab3,@Z6,@aea,@ald,@arn,@apr,@arh,@aq2,@ast,@aq4,@ajh,@aj2,@ajo,@ajc,@ajb,@adg,@Xz,@U7,@T0,@agj,@akv,@ajd,@Tx,@ary,@aqt,@ac3,@ab1,@ak3,@Qt,@Nh⟩
theorem R0:type_of% @ags∧type_of% @as1∧type_of% @nc0∧type_of% @nc1∧type_of% @Int.sub_zero∧type_of% @Int.sub_self∧type_of% @Int.add_zero∧type_of% @Int.zero_add∧type_of% @Ss∧type_of% @ash∧type_of% @Yk∧type_of% @ac0∧type_of% @akq∧type_of% @Qs∧type_of% @List.length_replicate.{0}∧type_of% @Za∧type_of% @Y1∧type_of% @asu∧type_of% @G2∧type_of% @Re∧type_of% @N2∧type_of% @ade∧type_of% @acp∧type_of% @Vj∧type_of% @Kk∧type_of% @adu∧type_of% @aje∧type_of% @arq∧type_of% @Ro∧type_of% @G6∧type_of% @Rw∧type_of% @asx∧type_of% @aji∧type_of% @P9∧type_of% @Vc∧type_of% @Qh∧type_of% @Mz∧type_of% @Yn∧type_of% @Vb∧type_of% @Tv∧type_of% @List.length_append.{0}∧type_of% @rtT∧type_of% @rtF∧type_of% @Go.Vm.Bt.eq_1∧type_of% @Go.Vm.bounds.eq_1∧type_of% @Go.Vm.E3.eq_1∧type_of% @Go.Vm.E3.eq_2:=
 ⟨@ags,@as1,@nc0,@nc1,@Int.sub_zero,@Int.sub_self,@Int.add_zero,@Int.zero_add,@Ss,@ash,@Yk,@ac0,@akq,@Qs,@List.length_replicate.{0},@Za,@Y1,@asu,@G2,@Re,@N2,@ade,@acp,@Vj,@Kk,@adu,@aje,@arq,@Ro,@G6,@Rw,@asx,@aji,@P9,@Vc,@Qh,@Mz,@Yn,@Vb,@Tv,@List.length_append.{0},@rtT,@rtF,@Go.Vm.Bt.eq_1,@Go.Vm.bounds.eq_1,@Go.Vm.E3.eq_1,@Go.Vm.E3.eq_2⟩
theorem R1:type_of% @Go.Vm.Cb.eq_1∧type_of% @Go.Vm.Ew.eq_def∧type_of% @Go.Vm.ve.eq_1∧type_of% @Ix∧type_of% @Kl∧type_of% @Q9∧type_of% @xj∧type_of% @Ux∧type_of% @Nat.div_one∧type_of% @S8∧type_of% @Ts∧type_of% @arx∧type_of% @Qi∧type_of% @Tk∧type_of% @Ps∧type_of% @awv∧type_of% @ak0∧type_of% @ajj∧type_of% @awb∧type_of% @awk∧type_of% @ale∧type_of% @Z0∧type_of% @acd∧type_of% @Zm∧type_of% @Hi∧type_of% @I4∧type_of% @He∧type_of% @Vl∧type_of% @Z2∧type_of% @Sy∧type_of% @Up∧type_of% @Zr∧type_of% @Tb:=
 ⟨@Go.Vm.Cb.eq_1,@Go.Vm.Ew.eq_def,@Go.Vm.ve.eq_1,@Ix,@Kl,@Q9,@xj,@Ux,@Nat.div_one,@S8,@Ts,@arx,@Qi,@Tk,@Ps,@awv,@ak0,@ajj,@awb,@awk,@ale,@Z0,@acd,@Zm,@Hi,@I4,@He,@Vl,@Z2,@Sy,@Up,@Zr,@Tb⟩
theorem R2:type_of% @ajr∧type_of% @aju∧type_of% @Sr∧type_of% @ajv∧type_of% @Ib∧type_of% @L4∧type_of% @Option.isNone_none.{0}∧type_of% @Option.isNone_some.{0}∧type_of% @aj9∧type_of% @Pq∧type_of% @Ku∧type_of% @Nz∧type_of% @Rb∧type_of% @Nw∧type_of% @aae∧type_of% @agc∧type_of% @Y6∧type_of% @Ng∧type_of% @Kv∧type_of% @L9∧type_of% @K0∧type_of% @Ig∧type_of% @aek∧type_of% @Fu∧type_of% @List.isEmpty_cons.{0}∧type_of% @List.isEmpty_nil.{0}∧type_of% @List.flatMap_nil.{0,0}∧type_of% @Rg∧type_of% @Q7∧type_of% @P7∧type_of% @Rj∧type_of% @Vf∧type_of% @Uv∧type_of% @and_true∧type_of% @true_and∧type_of% @Q0∧type_of% @P5∧type_of% @Xq∧type_of% @akz∧type_of% @ao9∧type_of% @and_self:=
 ⟨@ajr,@aju,@Sr,@ajv,@Ib,@L4,@Option.isNone_none.{0},@Option.isNone_some.{0},@aj9,@Pq,@Ku,@Nz,@Rb,@Nw,@aae,@agc,@Y6,@Ng,@Kv,@L9,@K0,@Ig,@aek,@Fu,@List.isEmpty_cons.{0},@List.isEmpty_nil.{0},@List.flatMap_nil.{0,0},@Rg,@Q7,@P7,@Rj,@Vf,@Uv,@and_true,@true_and,@Q0,@P5,@Xq,@akz,@ao9,@and_self⟩
theorem R3:type_of% @List.size_toArray.{0}∧type_of% @Yi∧type_of% @Yc∧type_of% @aci∧type_of% @aeu∧type_of% @Yx∧type_of% @afl∧type_of% @U4∧type_of% @aei∧type_of% @Kz∧type_of% @Ya∧type_of% @ac9∧type_of% @Xv∧type_of% @Q5∧type_of% @Km∧type_of% @Nf∧type_of% @Xy∧type_of% @Ye∧type_of% @Hs∧type_of% @Qx∧type_of% @Zk∧type_of% @Yz∧type_of% @alf∧type_of% @Sq∧type_of% @acr∧type_of% @X9∧type_of% @Uy∧type_of% @ag2∧type_of% @Y0∧type_of% @Zt∧type_of% @Tn∧type_of% @Vy∧type_of% @P4∧type_of% @avy∧type_of% @agm∧type_of% @Zc∧type_of% @Qr∧type_of% @Ln∧type_of% @S4∧type_of% @U8∧type_of% @xr∧type_of% @Go.Vm.cellsIn.eq_1∧type_of% @Go.Vm.cellsIn.eq_2∧type_of% @Go.Vm.cellsIn.eq_5∧type_of% @Go.Vm.cellsIn.eq_6∧type_of% @Go.Vm.Ke.eq_1:=
 ⟨@List.size_toArray.{0},@Yi,@Yc,@aci,@aeu,@Yx,@afl,@U4,@aei,@Kz,@Ya,@ac9,@Xv,@Q5,@Km,@Nf,@Xy,@Ye,@Hs,@Qx,@Zk,@Yz,@alf,@Sq,@acr,@X9,@Uy,@ag2,@Y0,@Zt,@Tn,@Vy,@P4,@avy,@agm,@Zc,@Qr,@Ln,@S4,@U8,@xr,@Go.Vm.cellsIn.eq_1,@Go.Vm.cellsIn.eq_2,@Go.Vm.cellsIn.eq_5,@Go.Vm.cellsIn.eq_6,@Go.Vm.Ke.eq_1⟩
theorem R4:type_of% @Go.Vm.Ka.eq_1∧type_of% @Ff∧type_of% @Lq∧type_of% @Li∧type_of% @Ns∧type_of% @D3∧type_of% @Gy∧type_of% @G5∧type_of% @E8∧type_of% @M1∧type_of% @I1∧type_of% @Ob∧type_of% @D6∧type_of% @K7∧type_of% @Me∧type_of% @Kr∧type_of% @D7∧type_of% @K2∧type_of% @Nc∧type_of% @Ri∧type_of% @M8∧type_of% @Yo∧type_of% @xc∧type_of% @Tp∧type_of% @Qo∧type_of% @adq∧type_of% @u5∧type_of% @ajl∧type_of% @asb∧type_of% @ar8∧type_of% @T9∧type_of% @U2∧type_of% @Gf∧type_of% @Yf∧type_of% @Ue:=
 ⟨@Go.Vm.Ka.eq_1,@Ff,@Lq,@Li,@Ns,@D3,@Gy,@G5,@E8,@M1,@I1,@Ob,@D6,@K7,@Me,@Kr,@D7,@K2,@Nc,@Ri,@M8,@Yo,@xc,@Tp,@Qo,@adq,@u5,@ajl,@asb,@ar8,@T9,@U2,@Gf,@Yf,@Ue⟩
theorem R5:type_of% @Go.Vm.ub.eq_1∧type_of% @List.flatten_cons.{0}∧type_of% @List.flatten_nil.{0}∧type_of% @List.replicate_succ.{0}∧type_of% @List.replicate_zero.{0}∧type_of% @X7∧type_of% @Z3∧type_of% @aox∧type_of% @ajp∧type_of% @av2∧type_of% @awy∧type_of% @aww∧type_of% @J4∧type_of% @Fz∧type_of% @Je∧type_of% @zu∧type_of% @Qe∧type_of% @Kh∧type_of% @Hg∧type_of% @Dw∧type_of% @As∧type_of% @Cd∧type_of% @Qa∧type_of% @Ym∧type_of% @Hl∧type_of% @yr∧type_of% @G7∧type_of% @Hv∧type_of% @D0∧type_of% @Qu∧type_of% @Qy∧type_of% @Ni∧type_of% @Fv∧type_of% @Uh∧type_of% @Mx∧type_of% @arb∧type_of% @ao0∧type_of% @Go.IntKind.bits.eq_6∧type_of% @Go.IntKind.bits.eq_8∧type_of% @Nat.min_def∧type_of% @avu∧type_of% @awh:=
 ⟨@Go.Vm.ub.eq_1,@List.flatten_cons.{0},@List.flatten_nil.{0},@List.replicate_succ.{0},@List.replicate_zero.{0},@X7,@Z3,@aox,@ajp,@av2,@awy,@aww,@J4,@Fz,@Je,@zu,@Qe,@Kh,@Hg,@Dw,@As,@Cd,@Qa,@Ym,@Hl,@yr,@G7,@Hv,@D0,@Qu,@Qy,@Ni,@Fv,@Uh,@Mx,@arb,@ao0,@Go.IntKind.bits.eq_6,@Go.IntKind.bits.eq_8,@Nat.min_def,@avu,@awh⟩
theorem R6:type_of% @av4∧type_of% @awo∧type_of% @avv∧type_of% @awj∧type_of% @awz∧type_of% @aws∧type_of% @av0∧type_of% @avw∧type_of% @ae1∧type_of% @ad1∧type_of% @atm∧type_of% @aAd∧type_of% @ang∧type_of% @Go.Vm.I8.eq_1∧type_of% @Go.Vm.Cj.eq_1∧type_of% @Go.Vm.w9.eq_def∧type_of% @Go.Vm.yc.eq_1∧type_of% @Go.Vm.Fs.eq_1∧type_of% @Go.Vm.v9.eq_1∧type_of% @Go.Vm.qh.eq_1∧type_of% @Go.Vm.qh.eq_2∧type_of% @Go.Vm.AV.known.eq_2∧type_of% @Go.Value.oneCell'.eq_3∧type_of% @Go.Vm.AV.cells.eq_1∧type_of% @Go.Vm.AV.cells.eq_2∧type_of% @Go.Vm.AV.cells.eq_3∧type_of% @Go.Value.cells.eq_1∧type_of% @Go.Value.cells.eq_2∧type_of% @Go.Vm.AV.one.eq_4∧type_of% @Go.Vm.AV.one.eq_5∧type_of% @Go.Vm.sn.eq_1∧type_of% @Go.Vm.r9.eq_1∧type_of% @Go.Vm.r9.eq_2∧type_of% @Go.Vm.B8.eq_1∧type_of% @Go.Vm.pk.eq_1∧type_of% @Go.Vm.vn.eq_2∧type_of% @Go.Vm.vn.eq_6∧type_of% @Go.Vm.kn.eq_1:=
 ⟨@av4,@awo,@avv,@awj,@awz,@aws,@av0,@avw,@ae1,@ad1,@atm,@aAd,@ang,@Go.Vm.I8.eq_1,@Go.Vm.Cj.eq_1,@Go.Vm.w9.eq_def,@Go.Vm.yc.eq_1,@Go.Vm.Fs.eq_1,@Go.Vm.v9.eq_1,@Go.Vm.qh.eq_1,@Go.Vm.qh.eq_2,@Go.Vm.AV.known.eq_2,@Go.Value.oneCell'.eq_3,@Go.Vm.AV.cells.eq_1,@Go.Vm.AV.cells.eq_2,@Go.Vm.AV.cells.eq_3,@Go.Value.cells.eq_1,@Go.Value.cells.eq_2,@Go.Vm.AV.one.eq_4,@Go.Vm.AV.one.eq_5,@Go.Vm.sn.eq_1,@Go.Vm.r9.eq_1,@Go.Vm.r9.eq_2,@Go.Vm.B8.eq_1,@Go.Vm.pk.eq_1,@Go.Vm.vn.eq_2,@Go.Vm.vn.eq_6,@Go.Vm.kn.eq_1⟩
theorem R7:type_of% @Go.Vm.kn.eq_3∧type_of% @Go.Vm.kn.eq_4∧type_of% @Go.Vm.J9.eq_1∧type_of% @Go.Vm.Ou.eq_1∧type_of% @Go.Vm.abq.eq_1∧type_of% @Go.Vm.nb.eq_1∧type_of% @Go.Vm.nb.eq_2∧type_of% @Go.Vm.nb.eq_3∧type_of% @Go.Vm.nb.eq_4∧type_of% @Go.Vm.nb.eq_5∧type_of% @Go.Vm.nb.eq_6∧type_of% @Go.Vm.nb.eq_7∧type_of% @Go.Vm.nb.eq_8∧type_of% @Go.Vm.nb.eq_9∧type_of% @Go.Vm.nb.eq_10∧type_of% @Go.Vm.AV.int.eq_1∧type_of% @Go.Vm.AV.bool.eq_1∧type_of% @Go.Vm.AV.exact.eq_1∧type_of% @Go.Vm.AV.exact.eq_2∧type_of% @Go.Vm.intOf.eq_1∧type_of% @Go.Vm.intOf.eq_2∧type_of% @Go.Vm.pa.eq_1∧type_of% @Go.Vm.so.eq_1∧type_of% @Go.Vm.yy.eq_1∧type_of% @Go.Vm.yy.eq_2∧type_of% @Go.Vm.xd.eq_1∧type_of% @Go.Vm.Dk.eq_1∧type_of% @Go.Vm.pn.eq_1∧type_of% @Go.Vm.wa.eq_1∧type_of% @Go.Vm.rz.eq_1∧type_of% @Go.Vm.rz.eq_3∧type_of% @Go.Vm.rz.eq_9∧type_of% @Go.Vm.Ll.eq_1∧type_of% @Go.Vm.Se.eq_1∧type_of% @Go.Vm.Uj.eq_1∧type_of% @Go.Vm.isSlice.eq_3∧type_of% @Go.Vm.isSlice.eq_4∧type_of% @Go.Vm.Ox.eq_1∧type_of% @Go.goInt.eq_1∧type_of% @aru∧type_of% @ass∧type_of% @aoz:=
 ⟨@Go.Vm.kn.eq_3,@Go.Vm.kn.eq_4,@Go.Vm.J9.eq_1,@Go.Vm.Ou.eq_1,@Go.Vm.abq.eq_1,@Go.Vm.nb.eq_1,@Go.Vm.nb.eq_2,@Go.Vm.nb.eq_3,@Go.Vm.nb.eq_4,@Go.Vm.nb.eq_5,@Go.Vm.nb.eq_6,@Go.Vm.nb.eq_7,@Go.Vm.nb.eq_8,@Go.Vm.nb.eq_9,@Go.Vm.nb.eq_10,@Go.Vm.AV.int.eq_1,@Go.Vm.AV.bool.eq_1,@Go.Vm.AV.exact.eq_1,@Go.Vm.AV.exact.eq_2,@Go.Vm.intOf.eq_1,@Go.Vm.intOf.eq_2,@Go.Vm.pa.eq_1,@Go.Vm.so.eq_1,@Go.Vm.yy.eq_1,@Go.Vm.yy.eq_2,@Go.Vm.xd.eq_1,@Go.Vm.Dk.eq_1,@Go.Vm.pn.eq_1,@Go.Vm.wa.eq_1,@Go.Vm.rz.eq_1,@Go.Vm.rz.eq_3,@Go.Vm.rz.eq_9,@Go.Vm.Ll.eq_1,@Go.Vm.Se.eq_1,@Go.Vm.Uj.eq_1,@Go.Vm.isSlice.eq_3,@Go.Vm.isSlice.eq_4,@Go.Vm.Ox.eq_1,@Go.goInt.eq_1,@aru,@ass,@aoz⟩
theorem R8:type_of% @Go.Vm.pack.eq_1∧type_of% @Go.Vm.pack.eq_2∧type_of% @Go.Vm.cj.eq_1∧type_of% @Go.Vm.cj.eq_2∧type_of% @Go.Vm.bj.eq_1∧type_of% @Go.Vm.m8.eq_1∧type_of% @Go.Vm.m8.eq_2∧type_of% @Go.Vm.vp.eq_1∧type_of% @om∧type_of% @Ez∧type_of% @Yl∧type_of% @adi∧type_of% @Df∧type_of% @Cz∧type_of% @C9∧type_of% @V0∧type_of% @U0∧type_of% @Vw∧type_of% @Qv∧type_of% @Ti∧type_of% @Go.Vm.dj.eq_1∧type_of% @Go.Vm.fp.eq_1∧type_of% @Go.Vm.ij.eq_1∧type_of% @Go.Vm.oj.eq_1∧type_of% @Go.Vm.oj.eq_2∧type_of% @Go.Vm.reach.eq_2∧type_of% @Go.Vm.reach.eq_3∧type_of% @Go.Vm.ga.eq_1∧type_of% @Go.Vm.eg.eq_1∧type_of% @Go.Vm.eg.eq_2∧type_of% @Go.Vm.AV.names.eq_1∧type_of% @Go.Vm.AV.names.eq_2∧type_of% @Go.Vm.AV.names.eq_3∧type_of% @Go.Vm.AV.names.eq_4∧type_of% @Go.Vm.AV.names.eq_5∧type_of% @Go.Vm.AV.names.eq_9∧type_of% @Go.Vm.AV.names.go.eq_1∧type_of% @Go.Vm.AV.names.go.eq_2∧type_of% @Go.Vm.bq.names.eq_1∧type_of% @Go.Vm.AV.dp.eq_1∧type_of% @Go.Vm.AV.dp.eq_2∧type_of% @Go.Vm.AV.dp.eq_3∧type_of% @Go.Vm.AV.dp.eq_4∧type_of% @Go.Vm.AV.dp.eq_5∧type_of% @Go.Vm.AV.dp.eq_6∧type_of% @Go.Vm.AV.dp.eq_7∧type_of% @Go.Vm.AV.dp.eq_11:=
 ⟨@Go.Vm.pack.eq_1,@Go.Vm.pack.eq_2,@Go.Vm.cj.eq_1,@Go.Vm.cj.eq_2,@Go.Vm.bj.eq_1,@Go.Vm.m8.eq_1,@Go.Vm.m8.eq_2,@Go.Vm.vp.eq_1,@om,@Ez,@Yl,@adi,@Df,@Cz,@C9,@V0,@U0,@Vw,@Qv,@Ti,@Go.Vm.dj.eq_1,@Go.Vm.fp.eq_1,@Go.Vm.ij.eq_1,@Go.Vm.oj.eq_1,@Go.Vm.oj.eq_2,@Go.Vm.reach.eq_2,@Go.Vm.reach.eq_3,@Go.Vm.ga.eq_1,@Go.Vm.eg.eq_1,@Go.Vm.eg.eq_2,@Go.Vm.AV.names.eq_1,@Go.Vm.AV.names.eq_2,@Go.Vm.AV.names.eq_3,@Go.Vm.AV.names.eq_4,@Go.Vm.AV.names.eq_5,@Go.Vm.AV.names.eq_9,@Go.Vm.AV.names.go.eq_1,@Go.Vm.AV.names.go.eq_2,@Go.Vm.bq.names.eq_1,@Go.Vm.AV.dp.eq_1,@Go.Vm.AV.dp.eq_2,@Go.Vm.AV.dp.eq_3,@Go.Vm.AV.dp.eq_4,@Go.Vm.AV.dp.eq_5,@Go.Vm.AV.dp.eq_6,@Go.Vm.AV.dp.eq_7,@Go.Vm.AV.dp.eq_11⟩
theorem R9:type_of% @Go.Vm.bq.dp.eq_1∧type_of% @Jj∧type_of% @akh∧type_of% @Go.Vm.jd.eq_1∧type_of% @Go.Vm.jd.eq_2∧type_of% @Go.Vm.i4.eq_2∧type_of% @k5∧type_of% @Option.bind_some.{0,0}∧type_of% @Option.bind_none.{0,0}∧type_of% @Option.map_some.{0,0}∧type_of% @Option.getD_some.{0}∧type_of% @Option.getD_none.{0}∧type_of% @Option.isSome_some.{0}∧type_of% @List.getElem?_cons_zero.{0}∧type_of% @List.getElem?_toArray.{0}∧type_of% @Go.Vm.dk.eq_1∧type_of% @List.drop_zero.{0}∧type_of% @List.drop_succ_cons.{0}∧type_of% @List.drop_nil.{0}∧type_of% @List.take_succ_cons.{0}∧type_of% @List.take_zero.{0}∧type_of% @List.length_cons.{0}∧type_of% @List.length_nil.{0}∧type_of% @List.length_map.{0,0}∧type_of% @List.getElem?_cons_succ.{0}∧type_of% @List.getElem?_nil.{0}∧type_of% @List.getElem?_map.{0,0}∧type_of% @List.getElem?_drop.{0}∧type_of% @List.map_cons.{0,0}∧type_of% @List.map_nil.{0,0}∧type_of% @List.nil_append.{0}∧type_of% @List.cons_append.{0}∧type_of% @List.append_nil.{0}∧type_of% @List.all_cons.{0}∧type_of% @List.all_nil.{0}∧type_of% @cond_true.{1}∧type_of% @cond_false.{1}∧type_of% @decide_true∧type_of% @decide_false∧type_of% @Bool.and_true∧type_of% @Bool.true_and∧type_of% @Bool.and_self∧type_of% @Bool.not_true∧type_of% @Bool.not_false∧type_of% @BEq.rfl.{0}∧type_of% @Nat.zero_le∧type_of% @Nat.le_refl∧type_of% @Nat.add_zero∧type_of% @Nat.zero_add∧type_of% @Nat.mul_one∧type_of% @Int.toNat_natCast∧type_of% @Int.natCast_nonneg:=
 ⟨@Go.Vm.bq.dp.eq_1,@Jj,@akh,@Go.Vm.jd.eq_1,@Go.Vm.jd.eq_2,@Go.Vm.i4.eq_2,@k5,@Option.bind_some.{0,0},@Option.bind_none.{0,0},@Option.map_some.{0,0},@Option.getD_some.{0},@Option.getD_none.{0},@Option.isSome_some.{0},@List.getElem?_cons_zero.{0},@List.getElem?_toArray.{0},@Go.Vm.dk.eq_1,@List.drop_zero.{0},@List.drop_succ_cons.{0},@List.drop_nil.{0},@List.take_succ_cons.{0},@List.take_zero.{0},@List.length_cons.{0},@List.length_nil.{0},@List.length_map.{0,0},@List.getElem?_cons_succ.{0},@List.getElem?_nil.{0},@List.getElem?_map.{0,0},@List.getElem?_drop.{0},@List.map_cons.{0,0},@List.map_nil.{0,0},@List.nil_append.{0},@List.cons_append.{0},@List.append_nil.{0},@List.all_cons.{0},@List.all_nil.{0},@cond_true.{1},@cond_false.{1},@decide_true,@decide_false,@Bool.and_true,@Bool.true_and,@Bool.and_self,@Bool.not_true,@Bool.not_false,@BEq.rfl.{0},@Nat.zero_le,@Nat.le_refl,@Nat.add_zero,@Nat.zero_add,@Nat.mul_one,@Int.toNat_natCast,@Int.natCast_nonneg⟩
theorem R10:type_of% @Nat.sub_self∧type_of% @List.contains_nil.{0}∧type_of% @List.contains_cons.{0}∧type_of% @Bool.or_false∧type_of% @Bool.false_or∧type_of% @Bool.or_true∧type_of% @Bool.true_or∧type_of% @List.map_map.{0,0,0}∧type_of% @af2∧type_of% @O5∧type_of% @Oc∧type_of% @M2∧type_of% @Yu∧type_of% @aad∧type_of% @S1∧type_of% @P6∧type_of% @Tj∧type_of% @aA1∧type_of% @azx∧type_of% @aAa∧type_of% @aAx∧type_of% @aAv∧type_of% @azo∧type_of% @aet∧type_of% @aeb∧type_of% @aab∧type_of% @Vk∧type_of% @aec∧type_of% @Go.Vm.AV.fresh.eq_1∧type_of% @Go.Vm.AV.fresh.eq_2∧type_of% @Go.Vm.AV.fresh.eq_3∧type_of% @Go.Vm.AV.fresh.eq_4∧type_of% @Go.Vm.AV.fresh.go.eq_1∧type_of% @Go.Vm.AV.fresh.go.eq_2∧type_of% @List.map_append.{0,0}:=
 ⟨@Nat.sub_self,@List.contains_nil.{0},@List.contains_cons.{0},@Bool.or_false,@Bool.false_or,@Bool.or_true,@Bool.true_or,@List.map_map.{0,0,0},@af2,@O5,@Oc,@M2,@Yu,@aad,@S1,@P6,@Tj,@aA1,@azx,@aAa,@aAx,@aAv,@azo,@aet,@aeb,@aab,@Vk,@aec,@Go.Vm.AV.fresh.eq_1,@Go.Vm.AV.fresh.eq_2,@Go.Vm.AV.fresh.eq_3,@Go.Vm.AV.fresh.eq_4,@Go.Vm.AV.fresh.go.eq_1,@Go.Vm.AV.fresh.go.eq_2,@List.map_append.{0,0}⟩
theorem RA:type_of% R0∧type_of% R1∧type_of% R2∧type_of% R3∧type_of% R4∧type_of% R5∧type_of% R6∧type_of% R7∧type_of% R8∧type_of% R9∧type_of% R10:=
 ⟨R0,R1,R2,R3,R4,R5,R6,R7,R8,R9,R10⟩
theorem FB:type_of% @List.cons.injEq.{0}∧type_of% @Xo∧type_of% @Z1∧type_of% @List.length_append.{0}∧type_of% @List.length_cons.{0}∧type_of% @List.length_nil.{0}∧type_of% @List.map_append.{0,0}∧type_of% @List.map_cons.{0,0}∧type_of% @List.map_nil.{0,0}∧type_of% @and_true∧type_of% @true_and∧type_of% @and_self∧type_of% @AV.sc.injEq∧type_of% @AV.sl.injEq∧type_of% @bq.row.injEq∧type_of% @Option.some.injEq.{0}∧type_of% @Value.int.injEq∧type_of% @Nat.zero_add:=
 ⟨@List.cons.injEq.{0},@Xo,@Z1,@List.length_append.{0},@List.length_cons.{0},@List.length_nil.{0},@List.map_append.{0,0},@List.map_cons.{0,0},@List.map_nil.{0,0},@and_true,@true_and,@and_self,@AV.sc.injEq,@AV.sl.injEq,@bq.row.injEq,@Option.some.injEq.{0},@Value.int.injEq,@Nat.zero_add⟩
end Go.Vm
end
