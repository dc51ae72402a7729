/- A piece of the proof. Proved: where the arguments are together of bulk at most 1048576, the law SetCalls returns true (what a set is made of), and what it was given reads afterwards as it did before. No other conditions. -/
import Derived.WalkKit
import Derived.CallsIn
import Derived.RangeFuncIn
import Derived.RangeFuncLeaves
import Derived.Orders
import Derived.OrdersIn
import Derived.Scope
import Derived.RangeFuncOwn
import Derived.Stop.SameAnswer
import Derived.Laws.Externs
import Derived.Lib.Bytealg
import Derived.ProofKit
import Derived.OpenShut
import Derived.ReadAgain
import Derived.Deep.Slices
import Derived.ChangeSame
import Derived.Test.YtgencolcibpcaaaProg
import Derived.KernelRfl
import Derived.Test.YtgencolcibpcaaaRows
import Derived.Maps.RangeRun
import Derived.JoinedCond
import Derived.Test.YtgencolcibpcaaaC1
set_option linter.unusedSimpArgs false
set_option linter.unusedVariables false
set_option linter.unusedSectionVars false
namespace Go.Vm
variable [TK]
noncomputable section
theorem be.one {g w a v} (h:Rel g w a v):be g w [a] [v]:=be.cons h (be.nil _ _)
theorem J9 {g w a vs} (h:be g w [a] vs):∃ v,vs=[v]∧Rel g w a v:=by
 match vs,h with
 | [v],h=>exact ⟨v,rfl,h.head⟩
 | [],h=>have:=h.1;simp at this
 |_::_::_,h=>have:=h.1;simp at this
def ap2 {α:Type} (Z0:Value→Option α) (l:List AV):Option α:=
 match l with
 | [a]=>a.exact.bind Z0
 |_=>none
def Nv {α:Type} (kd:LK) (ft : α→Value) (Z0:Value→Option α) (h1:∀ x,Z0 (ft x)=some x) (h2:∀ v x,Z0 v=some x→v=ft x) (h3:∀ x,(ft x).cells = #[ft x]) (h4:∀ x,(ft x).oneCell'=true) (h5:∀ x,ke (ft x)=kd):cq α where
 kd:=kd
 Dy _ _ _ _ _ _ _ hc hr:=by
  simp at hc;subst hc
  have:=hr.exact rfl
  subst this
  exact h5 _
 sz:=1
 agg:=false
 cells _ x:=[.sc (ft x)]
 dec _ _ l:=ap2 Z0 l
 len _ _:=rfl
 rt _ _ _ x _:=h1 x
 one _ _ x:=⟨_,rfl,by simp [AV.cells,h3],rfl⟩
 pl _ x c hc:=by simp at hc;subst hc;exact ⟨fun τ=>by simp [AV.cr],by simp [AV.names],h4 x,rfl⟩
 fr x c hc:=by simp at hc;subst hc;rfl
 ok:=by
  intro fr g h w K b0 l vs x _ _ _ hr hd
  match l,hd with
  | [a],hd=>
   obtain ⟨u,rfl,hu⟩:=J9 hr
   cases a with
   |sc v=>
    have:=hu.exact rfl
    subst this
    have:=h2 _ _ hd
    subst this
    exact be.one (.sc _)
   |_=>cases hd
def aht (k:IntKind) (v:Value):Option Int:=
 match v with
 |.int k' n=>bif decide (k'=k) then some n else none
 |_=>none
def bz (k:IntKind):cq Int:=Nv (.int k) (fun n=>.int k n) (aht k) (fun x=>by simp [aht]) (fun v x h=>by
 cases v<;>simp [aht] at h
 rename_i k' n
 by_cases e:k'=k
 ·subst e;simp at h;rw [h]
 ·simp [e] at h) (fun x=>rfl) (fun x=>rfl) (fun x=>rfl)
def cp:cq Bool:=Nv .bool (fun b=>.bool b) pk (fun x=>rfl) (fun v x h=>by cases v<;>simp [pk] at h;rw [h]) (fun x=>rfl) (fun x=>rfl) (fun x=>rfl)
def ai:cq ByteArray:=Nv .str (fun s=>.string s) strOf (fun x=>rfl) (fun v x h=>by cases v<;>simp [strOf] at h;rw [h]) (fun x=>rfl) (fun x=>rfl) (fun x=>rfl)
def u8V (v:Value):Option UInt8:=
 match v with
 |.int k n=>bif decide (k = .u8) && decide (0≤n) && decide (n<256) then some (UInt8.ofNat n.toNat) else none
 |_=>none
def aw:cq UInt8:=Nv (.int .u8) (fun n=>.int .u8 n.toNat) u8V (fun x=>by
 have:=x.toNat_lt
 simp [u8V,show (x.toNat:Int)<256 by omega]) (fun v x h=>by
 cases v<;>simp [u8V] at h
 rename_i k n
 cases hb:(decide (k = .u8) && decide (0≤n) && decide (n<256)) with
 |false=>rw [hb] at h;cases h
 |true=>
  rw [hb] at h
  simp at hb h
  obtain ⟨⟨rfl,h0⟩,h1⟩:=hb
  subst h
  congr 1
  rw [UInt8.toNat_ofNat']
  omega) (fun x=>rfl) (fun x=>rfl) (fun x=>rfl)
def aio (v:Value):Option UInt16:=
 match v with
 |.int k n=>bif decide (k = .u16) && decide (0≤n) && decide (n<65536) then some (UInt16.ofNat n.toNat) else none
 |_=>none
def b9:cq UInt16:=Nv (.int .u16) (fun n=>.int .u16 n.toNat) aio (fun x=>by
 have:=x.toNat_lt
 simp [aio,show (x.toNat:Int)<65536 by omega]) (fun v x h=>by
 cases v<;>simp [aio] at h
 rename_i k n
 cases hb:(decide (k = .u16) && decide (0≤n) && decide (n<65536)) with
 |false=>rw [hb] at h;cases h
 |true=>
  rw [hb] at h
  simp at hb h
  obtain ⟨⟨rfl,h0⟩,h1⟩:=hb
  subst h
  congr 1
  rw [UInt16.toNat_ofNat']
  omega) (fun x=>rfl) (fun x=>rfl) (fun x=>rfl)
def aia (v:Value):Option UInt32:=
 match v with
 |.int k n=>bif decide (k = .u32) && decide (0≤n) && decide (n<4294967296) then some (UInt32.ofNat n.toNat) else none
 |_=>none
def bh:cq UInt32:=Nv (.int .u32) (fun n=>.int .u32 n.toNat) aia (fun x=>by
 have:=x.toNat_lt
 simp [aia,show (x.toNat:Int)<4294967296 by omega]) (fun v x h=>by
 cases v<;>simp [aia] at h
 rename_i k n
 cases hb:(decide (k = .u32) && decide (0≤n) && decide (n<4294967296)) with
 |false=>rw [hb] at h;cases h
 |true=>
  rw [hb] at h
  simp at hb h
  obtain ⟨⟨rfl,h0⟩,h1⟩:=hb
  subst h
  congr 1
  rw [UInt32.toNat_ofNat']
  omega) (fun x=>rfl) (fun x=>rfl) (fun x=>rfl)
theorem aon {g w l n es v} (h:Rel g w (.vl l n es) v):ke v = .no:=by cases h<;>rfl
def bw {α:Type} (C:cq α):cq (List α) where
 sz:=1
 kd:=.no
 Dy _ _ _ _ _ _ _ hc hr:=by simp at hc;subst hc;exact aon hr
 agg:=false
 cells l xs:=[.vl l C.sz (xs.map (C.val l))]
 dec:=aiz C
 len _ _:=rfl
 rt:=by
  intro fr h l x hl
  simp only [aiz,gp]
  cases hb:(Nat.beq C.sz C.sz && (l || !fr)) with
  |false=>cases fr<;>simp_all
  |true=>rw [cond_true,Lc C fr h l hl]
 one _ _ x:=⟨_,rfl,rfl,rfl⟩
 pl l xs c hc:=by
  simp at hc;subst hc
  exact ⟨fun τ=>by rw [AV.cr,Kh (fun c hc=>by obtain ⟨x,_,rfl⟩:=List.mem_map.1 hc;exact Hj C τ l x)],by simp [AV.names],rfl,rfl⟩
 fr xs c hc:=by
  simp at hc;subst hc
  simp only [AV.fresh,Bool.true_and]
  exact Gl (fun c hc=>by obtain ⟨x,_,rfl⟩:=List.mem_map.1 hc;exact ads C x)
 ok:=by
  intro fr g h w K b0 l vs x hok hl hb hr hd
  match l,hd with
  | [a],hd=>
   obtain ⟨u,rfl,hu⟩:=J9 hr
   exact be.one (ak4 C hok hl hb hu hd)
def js {α β:Type} (A:cq α) (B:cq β):cq (α × β) where
 sz:=A.sz+B.sz
 kd:=bif Nat.beq A.sz 1 then A.kd else B.kd
 Dy e _ _ l x c v hc hr:=by
  rcases Nat.lt_or_ge 0 A.sz with h|h
  ·have ha:A.sz=1:=by omega
   have hb:B.cells l x.2=[]:=List.eq_nil_of_length_eq_zero (by rw [B.len];omega)
   rw [hb,List.append_nil] at hc
   rw [ha]
   exact A.Dy ha hc hr
  ·have ha:A.sz=0:=by omega
   have hb:A.cells l x.1=[]:=List.eq_nil_of_length_eq_zero (by rw [A.len];omega)
   rw [hb,List.nil_append] at hc
   rw [ha]
   exact B.Dy (by omega) hc hr
 agg:=true
 cells l p:=A.cells l p.1++B.cells l p.2
 dec fr h l:=match A.dec fr h (l.take A.sz),B.dec fr h (l.drop A.sz) with
  |some x,some y=>some (x,y)
  |_,_=>none
 len l p:=by simp [A.len,B.len]
 rt:=by
  intro fr h l p hl
  have h1:(A.cells l p.1++B.cells l p.2).take A.sz=A.cells l p.1:=by rw [← A.len l p.1,List.take_left]
  have h2:(A.cells l p.1++B.cells l p.2).drop A.sz=B.cells l p.2:=by rw [← A.len l p.1,List.drop_left]
  simp only [h1,h2,A.rt fr h l _ hl,B.rt fr h l _ hl]
 one e:=by cases e
 pl l p c hc:=by rcases List.mem_append.1 hc with h|h;exact A.pl l _ c h;exact B.pl l _ c h
 fr p c hc:=by rcases List.mem_append.1 hc with h|h;exact A.fr _ c h;exact B.fr _ c h
 ok:=by
  intro fr g h w K b0 l vs x hok hl hb hr hd
  split at hd
  ·rename_i x1 y1 hx hy
   simp at hd;subst hd
   have:=(A.ok hok hl hb (hr.take A.sz) hx).append (B.ok hok hl hb (hr.drop A.sz) hy)
   rwa [List.take_append_drop] at this
  ·cases hd
def z5 {α β:Type} (C:cq α) (f : β → α) (i : α → β) (h1:∀ y,i (f y)=y) (h2:∀ x,f (i x)=x):cq β where
 sz:=C.sz
 kd:=C.kd
 Dy e _ _ _ _ _ _ hc hr:=C.Dy e hc hr
 agg:=C.agg
 cells l y:=C.cells l (f y)
 dec fr h l:=(C.dec fr h l).map i
 len l y:=C.len l (f y)
 rt fr h l y hl:=by rw [C.rt fr h l _ hl];simp [h1]
 one e l y:=C.one e l (f y)
 pl l y:=C.pl l (f y)
 fr y:=C.fr (f y)
 ok:=by
  intro fr g h w K b0 l vs x hok hl hb hr hd
  rw [Option.map_eq_some_iff] at hd
  obtain ⟨y,hy,rfl⟩:=hd
  rw [h2]
  exact C.ok hok hl hb hr hy
structure AC (α:Type) where
 E : α→List AV
 D:Tr ay→List AV→Option α
 rt:∀ h x,D h (E x)=some x
 ok:∀ {g h w K b0 l vs x},Ok g h w→s8 g h K→be g w l vs→D h l=some x→be (gK b0 K) w (E x) vs
def AC.get {α:Type} (A:AC α) (h:Tr ay) (l:List AV):Option α:=A.D h l
def a0:AC Unit where
 E _:=[]
 D _ l:=match l with
  | []=>some ()
  |_=>none
 rt _ _:=rfl
 ok:=by
  intro g h w K b0 l vs x _ _ hr hd
  match l,hd with
  | [],_=>
   have:=hr.1
   simp at this
   subst this
   exact be.nil _ _
def aC {α β:Type} (C:cq α) (R:AC β):AC (α × β) where
 E p:=C.val false p.1::R.E p.2
 D h l:=match l with
  | []=>none
  |a::r=>match C.fw false h a,R.D h r with
   |some x,some y=>some (x,y)
   |_,_=>none
 rt h p:=by simp only [C.Gr false h false p.1 (fun e=>by cases e),R.rt]
 ok:=by
  intro g h w K b0 l vs x hok hl hr hd
  match l,hd with
  |a::r,hd=>
   simp only at hd
   split at hd
   ·rename_i x1 y1 hx hy
    simp at hd;subst hd
    match vs,hr with
    | [],hr=>have:=hr.1;simp at this
    |v::vs,hr=>exact be.cons (C.Mx hok hl (fun e=>by cases e) hr.head hx) (R.ok hok hl hr.tail hy)
   ·cases hd
structure RC (α:Type) where
 E:Bool → α→AV
 D:Bool→Tr ay→AV→Option α
 ok:∀ {fr g h w K b0 a v x},Ok g h w→s8 g h K→(fr=true→b0≤g.b0)→Rel g w a v→D fr h a=some x→Rel (gK b0 K) w (E fr x) v
def RC.get {α:Type} (R:RC α) (fr:Bool) (h:Tr ay) (a:AV):Option α:=R.D fr h a
def r1 {α:Type} (C:cq α):RC α where
 E:=C.val
 D:=C.fw
 ok hok hl hb hr hd:=C.Mx hok hl hb hr hd
def Dl (a:AV):Option (List AV):=
 match a with
 |.gw l=>some l
 |.sc v=>match v with
  |.tuple vs=>some (vs.toList.map .sc)
  |_=>none
 |_=>none
theorem aaj {g w a v l} (hr:Rel g w a v) (h:Dl a=some l):∃ vs,v = .tuple vs∧be g w l vs.toList:=by
 cases hr with
 |gw l' vs hs hh=>
  simp [Dl] at h;subst h
  exact ⟨vs,rfl,⟨by simpa using hs,fun i a v ha hv=>hh i a v ha (by simpa using hv)⟩⟩
 |sc v=>
  cases v<;>simp [Dl] at h
  subst h
  exact ⟨_,rfl,be.Av g w _⟩
 |_=>cases h
theorem aao {g w l} {vs:Array Value} (h:be g w l vs.toList):Rel g w (.gw l) (.tuple vs):=
 .gw l vs (by simpa using h.1) (fun i a v ha hv=>h.2 i a v ha (by simpa using hv))
def r2 {α β:Type} (A:cq α) (B:cq β):RC (α × β) where
 E l p:=.gw [A.val l p.1,B.val l p.2]
 D fr h a:=match Dl a with
  |some [a,b]=>match A.fw fr h a,B.fw fr h b with
   |some x,some y=>some (x,y)
   |_,_=>none
  |_=>none
 ok:=by
  intro fr g h w K b0 a v x hok hl hb hr hd
  cases ht:Dl a with
  |none=>rw [ht] at hd;cases hd
  |some l=>
   rw [ht] at hd
   obtain ⟨vs,rfl,hrel⟩:=aaj hr ht
   match l,hd with
   | [a,b],hd=>
    simp only at hd
    split at hd
    ·rename_i x1 y1 hx hy
     simp at hd;subst hd
     obtain ⟨vl⟩:=vs
     match vl,hrel with
     | [u,v],hrel=>exact aao (be.cons (A.Mx hok hl hb hrel.head hx) (be.one (B.Mx hok hl hb hrel.tail.head hy)))
     | [],hrel=>have:=hrel.1;simp at this
     | [_],hrel=>have:=hrel.1;simp at this
     |_::_::_::_,hrel=>have:=hrel.1;simp at this
    ·cases hd
def r3 {α β γ:Type} (A:cq α) (B:cq β) (C:cq γ):RC (α × β × γ) where
 E l p:=.gw [A.val l p.1,B.val l p.2.1,C.val l p.2.2]
 D fr h a:=match Dl a with
  |some [a,b,c]=>match A.fw fr h a,B.fw fr h b,C.fw fr h c with
   |some x,some y,some z=>some (x,y,z)
   |_,_,_=>none
  |_=>none
 ok:=by
  intro fr g h w K b0 a v x hok hl hb hr hd
  cases ht:Dl a with
  |none=>rw [ht] at hd;cases hd
  |some l=>
   rw [ht] at hd
   obtain ⟨vs,rfl,hrel⟩:=aaj hr ht
   match l,hd with
   | [a,b,c],hd=>
    simp only at hd
    split at hd
    ·rename_i x1 y1 z1 hx hy hz
     simp at hd;subst hd
     obtain ⟨vl⟩:=vs
     match vl,hrel with
     | [u,v,t],hrel=>exact aao (be.cons (A.Mx hok hl hb hrel.head hx) (be.cons (B.Mx hok hl hb hrel.tail.head hy) (be.one (C.Mx hok hl hb hrel.tail.tail.head hz))))
     | [],hrel=>have:=hrel.1;simp at this
     | [_],hrel=>have:=hrel.1;simp at this
     | [_,_],hrel=>have:=hrel.1;simp at this
     |_::_::_::_::_,hrel=>have:=hrel.1;simp at this
    ·cases hd
structure wa (w w':World):Prop where
 size:w.heap.size≤w'.heap.size
 heap:∀ b,b<w.heap.size→w'.heap[b]? = w.heap[b]?
 os:w'.os=w.os
 tape:w'.tape=w.tape
 output:w'.output=w.output
def Fk (K:Nat→Nat→Prop) (w w':World):Nat→Nat→Prop:=fun b j=>K b j∨(w.heap.size≤b∧b<w'.heap.size)
def aap (P:Program) (f:Nat) (vs:List Value) (w:World) (X:Value→World→Prop):Prop:=
 (∃ v,(callFunc f vs.toArray).run P w = .ok (.value v) w∧X v w) ∨
 ((callFunc f vs.toArray).run P w = .ok (.enter f vs.toArray) w∧Calls P f vs.toArray w (fun e w'=>∃ v,e = .returned v∧X v w'))
def bp (P:Program) (f:Nat) (args:List AV) (r:AV):Prop:=
 ∀ (K:Nat→Nat→Prop) (w:World) (vs:List Value),(∀ b j,K b j→b<w.heap.size)→be (gK w.heap.size K) w args vs →
  aap P f vs w (fun v w'=>wa w w'∧Rel (gK w.heap.size (Fk K w w')) w' r v)
theorem Oa {P:Program} [KP P] {g w nt} {L:SL} {tmps:Array Value} {st:St} (hok:Ok g st.h w) (hs:ga g w nt L tmps):∀ (rs:List ResultVar) (l:List AV),o9 P L st rs=some l →
 ∃ vs,(rs.mapM (sh tmps)).run P w = .ok vs w∧be g w l vs:=by
 intro rs
 induction rs with
 |nil=>intro l h;simp [o9] at h;subst h;exact ⟨[],by simp,be.nil _ _⟩
 |cons r rs ih=>
  intro l h
  cases r with
  |tmp t=>
   simp only [o9,Option.map_eq_some_iff] at h
   obtain ⟨l',h1,rfl⟩:=h
   obtain ⟨vs,h2,h3⟩:=ih l' h1
   refine ⟨tmps.getD t undef::vs,?_,be.cons (hs.2 t) h3⟩
   simp only [List.mapM_cons,Sem.run_bind,sh,Sem.run_pure,Result.andThen_ok,h2]
  |cell c t=>
   simp only [o9] at h
   split at h
   ·rename_i v st' hl
    rw [Option.map_eq_some_iff] at h
    obtain ⟨l',h1,rfl⟩:=h
    obtain ⟨vs,h2,h3⟩:=ih l' h1
    have hrel:=hs.2 c
    have hptr:∃ ad,tmps.getD c undef = .pointer (some ad):=by
     generalize lk L c=x at hrel hl
     generalize tmps.getD c undef=v at hrel
     cases hrel<;>first|exact ⟨_,rfl⟩|cases hl
    obtain ⟨ad,had⟩:=hptr
    obtain ⟨u,h4,h5⟩:=aav (P:=P) hok hrel hl had
    refine ⟨u::vs,?_,be.cons h5 h3⟩
    have h6:(sh tmps (.cell c t)).run P w = .ok u w:=by simp [sh,had,asAddr,h4]
    simp only [List.mapM_cons,Sem.run_bind,h6,Result.andThen_ok,h2]
    rfl
   ·cases h
theorem Nt {P:Program} [KP P] {g w} {fn:Func} {tmps:Array Value} {l:List AV} {vs:List Value} (h:(fn.results.toList.mapM (sh tmps)).run P w = .ok vs w) (q4:be g w l vs) :
 ∃ v,(results fn tmps).run P w = .ok v w∧Rel g w (pack l) v:=by
 have hmap:(fn.results.mapM (sh tmps)).run P w = .ok vs.toArray w:=by
  rw [Array.mapM_eq_mapM_toList]
  simp [h]
 rw [abg]
 simp only [Sem.run_bind,hmap,Result.andThen_ok,Sem.run_pure]
 refine ⟨_,rfl,?_⟩
 match l,vs,q4 with
 | [a1],[v1],q4=>simpa [pack] using q4.head
 | [],[],q4=>simp [pack];exact .gw _ _ rfl (fun i a v h _=>by simp at h)
 |a1::a2::l,v1::v2::vs,q4=>
  simp [pack]
  exact .gw _ _ (by have:=q4.1;simp at this ⊢;omega) (fun i a v h1 h2=>q4.2 i a v h1 (by simpa using h2))
 | [],v::vs,q4=>have:=q4.1;simp at this
 |a::l,[],q4=>have:=q4.1;simp at this
 | [a1],v1::v2::vs,q4=>have:=q4.1;simp at this
 |a1::a2::l,[v1],q4=>have:=q4.1;simp at this
theorem Oj {P:Program} [KP P] {T:du} (hT:ak P T) (hm:P.follows .mixedOrders=true) {f:Nat} {fn:Func} {body:Code} (hf:P.funcs[f]? = some fn) (hb:fn.body=some body) (he:m7 P f=true) (hs:dq fn.ntmps body=true)
 {args:List AV} (hl:args.length≤fn.ntmps) {ρ:Type} (R:RC ρ) (fr:Bool) (x : ρ)
 (h:wl P T 0 body (dk P fn.results.toList (fun r st=>R.get fr st.h r=some x)) (cw 0 args) (bk [])):bp P f args (R.E fr x):=by
 intro K w vs hK hrel
 refine .inr ⟨s6 he _ _,tx (ro:=none) (n:=0) (callsIn_of_wp_marks hf hb trivial ?_)⟩
 let B:ed:={ b0:=w.heap.size,w,K,O:=fun _=>False,ar:=0,pb:=fun _=>none,n0:=w.heap.size }
 have hcur:iz B (gK w.heap.size K) (bk []) w:=by
  refine ⟨⟨Nat.le_refl _,fun o x hx=>?_,fun o o' x x' b base base' _ hx=>?_,hK⟩,fun o _ _=>rfl,⟨rfl,(fun o ho=>(by rcases ho with ho|ho;cases ho;exact ho.elim)),fun _ _ h=>h,fun _ _ _=>rfl,Nat.le_refl _,rfl,rfl,rfl,fun _ _ _=>rfl,fun o b base ho=>?_,fun _ _ h=>.inl h,fun b cs e fr h=>⟨cs,fr,h,rfl⟩,fun b l h=>⟨l,h⟩,fun _ _ _ _ _ _=>rfl⟩,Nat.zero_le _⟩
  ·simp [bk,kr,Tr.get_nil] at hx
  ·simp [bk,kr,Tr.get_nil] at hx
  ·simp [bk,kr,Tr.get_nil] at ho
 refine wpIn_mono (aco hT hm (N:=0) (B:=B) (nt:=fn.ntmps) (fun _ h=>h) (by show (0:Nat)≤1000;omega) (Nat.le_refl _) body hs _ _ _ (gK w.heap.size K) w _ h hcur (zj hrel hl) (Marks.nil _ _ _ _)) ?_
 rintro ex a w' ⟨e,L,st,g,rfl,hq,hc,hr,hd⟩
 have fin:B6 (o9 P L st fn.results.toList) (fun r st=>R.get fr st.h r=some x) st→bodyPostM (gk none) 0 P fn (fun e w'=>∃ v,e = .returned v∧wa w w'∧Rel (gK w.heap.size (Fk K w w')) w' (R.E fr x) v) .ret a w':=by
  intro hq
  show LeavesInM (gk none) 0 P fn a.tmps _ a.defers .returning w'
  unfold B6 at hq
  cases hres:o9 P L st fn.results.toList with
  |none=>rw [hres] at hq;exact hq.elim
  |some l=>
   rw [hres] at hq
   have hbs:=hc.base
   obtain ⟨bs,e1,e2,e3⟩:=hd
   have e1:=e1.trans (List.append_nil _)
   rw [e1]
   refine Ck (Good:=fun u=>Ok g st.h u∧wa w u∧(∀ a v,Rel g w' a v→Rel g u a v)∧u.heap.size=w'.heap.size) (S:=fun b=>w.heap.size≤b∧gi g st.h b) ?_ ?_ bs w'
    ⟨hc.ok,⟨hbs.size,fun b hlt=>hbs.frame b hlt (fun h=>h),hbs.os,hbs.tape,hbs.output⟩,fun _ _ h=>h,rfl⟩ e2 (fun b hb=>⟨⟨(e3 b hb).1,(e3 b hb).2.2⟩,(e3 b hb).2.1⟩)
   ·rintro u b ⟨g1,g2,g3,g4⟩ ⟨hb1,hb2⟩ hb3
    have hput:=Ok.Ce (ds':=none) g1 hb3 hb2
    exact ⟨hput.1,⟨by rw [kf];exact g2.size,fun c hc=>(dw u _ (by omega)).trans (g2.heap c hc),g2.os,g2.tape,g2.output⟩,fun a v h=>hput.2 a v (g3 a v h),by rw [kf];exact g4⟩
   ·rintro u ⟨g1,g2,g3,g4⟩
    obtain ⟨us,h1,h2⟩:=Oa (P:=P) g1 ⟨hr.1,fun t=>g3 _ _ (hr.2 t)⟩ fn.results.toList l hres
    obtain ⟨v,h3,h4⟩:=Nt h1 h2
    refine ⟨v,h3,v,rfl,g2,?_⟩
    refine R.ok g1 ⟨fun b j hk=>?_,fun o cells k s e ho b base hi j hj=>?_⟩ (fun _=>?_) h4 hq
    ·rcases hbs.lz b j hk with h5|h5|h5
     ·exact .inl h5
     ·exact .inr ⟨h5,g1.K b j hk⟩
     ·exact h5.elim
    ·obtain ⟨b',base',h5,_,h6⟩:=g1.obj o _ ho
     rw [hi] at h5;cases h5
     rcases hbs.own o b base (by rw [ho];rfl) hi with h7|h7
     ·exact .inr ⟨h7,h6.lt⟩
     ·exact h7.elim
    ·rw [hbs.b0];exact Nat.le_refl _
 cases e with
 |normal=>exact fin hq
 |ret=>exact fin hq
 |exit id=>exact hq.elim
theorem Rel.lift {b0 K g w a v} (h:Rel (gK b0 K) w a v) (hb:g.b0≤b0) (hK:∀ b j,K b j→g.K b j):Rel g w a v:=by
 have hno:∀ o p,(gK b0 K).inj o≠some p:=fun o p e=>by cases e
 generalize hg:gK b0 K=g0 at h hno
 have hK':∀ b j,g0.K b j→g.K b j:=by subst hg;exact hK
 have hb':g.b0≤g0.b0:=by subst hg;exact hb
 clear hg
 induction h with
 |sc x=>exact .sc x
 |agg l vs hs _ ih=>exact .agg l vs hs ih
 |gw l vs hs _ ih=>exact .gw l vs hs ih
 |vl loc sz es b off cap c hsz hl hcap h _ hw ih=>exact .vl loc sz es b off cap c hsz (fun e=>Nat.le_trans hb' (hl e)) hcap (fun j a hj=>⟨hK' _ _ (h j a hj).1,(h j a hj).2⟩) ih (fun e=>⟨fun j=>hK' _ _ ((hw e).K j),(hw e).ja,(hw e).none,(hw e).cm⟩)
 |jh loc sz=>exact .jh loc sz
 |o0 loc sz a=>exact .o0 loc sz a
 |sl o off len sz b base cap hi hc hm hr=>exact (hno _ _ hi).elim
 |pv o off sz a=>exact .pv o off sz a
 |qn o off sz=>exact .qn o off sz
 |ez a=>exact .ez a
 |ptr o off b base hi=>exact (hno _ _ hi).elim
 |er l b off c h _ ih=>exact .er l b off c (fun j a hj=>⟨hK' _ _ (h j a hj).1,(h j a hj).2⟩) ih
 |fn f first captured va vb hs _ hs' _ ih ih'=>exact .fn f first captured va vb hs ih hs' ih'
 |mp o b base hi=>exact (hno _ _ hi).elim
 |nm t a v _ ih=>exact .nm t a v ih
 |yl o b base hi=>exact (hno _ _ hi).elim
 |bad v=>exact .bad v
theorem zw {l:List AV} (h:AV.fresh.go l=true):∀ a ∈ l,a.fresh=true:=by
 induction l with
 |nil=>intro a ha;cases ha
 |cons x l ih=>
  simp only [AV.fresh.go,Bool.and_eq_true] at h
  intro a ha
  rcases List.mem_cons.1 ha with rfl|ha
  ·exact h.1
  ·exact ih h.2 a ha
theorem Yo {a:AV} (h:a.fresh=true):∀ c ∈ a.cells,c.fresh=true:=by
 cases a with
 |agg l=>exact zw h
 |sc v=>intro c hc;simp only [AV.cells,List.mem_map] at hc;obtain ⟨x,_,rfl⟩:=hc;rfl
 |_=>intro c hc;simp only [AV.cells,List.mem_singleton] at hc;subst hc;exact h
theorem Rel.fresh {b0 K g w a v} (h:Rel (gK b0 K) w a v) (hf:a.fresh=true) (hb:g.b0≤b0) (hK:∀ b j,K b j→b0≤b→g.K b j):Rel g w a v:=by
 generalize hg:gK b0 K=g0 at h
 have hK':∀ b j,g0.K b j→g0.b0≤b→g.K b j:=by subst hg;exact hK
 have hb':g.b0≤g0.b0:=by subst hg;exact hb
 clear hg hb hK
 induction h with
 |sc x=>exact .sc x
 |agg l vs hs _ ih=>exact .agg l vs hs (fun i a v ha hv=>ih i a v ha hv (zw hf a (List.mem_of_getElem? ha)))
 |gw l vs hs _ ih=>exact .gw l vs hs (fun i a v ha hv=>ih i a v ha hv (zw hf a (List.mem_of_getElem? ha)))
 |vl loc sz es b off cap c hsz hl hcap h _ hw ih=>
  simp only [AV.fresh,Bool.and_eq_true] at hf
  have hbb:=hl hf.1
  refine .vl loc sz es b off cap c hsz (fun e=>Nat.le_trans hb' hbb) hcap (fun j a hj=>⟨hK' _ _ (h j a hj).1 hbb,(h j a hj).2⟩) (fun j a hj=>ih j a hj ?_) (fun e=>⟨fun j=>hK' _ _ ((hw e).K j) hbb,(hw e).ja,(hw e).none,(hw e).cm⟩)
  obtain ⟨e,he,hc⟩:=List.mem_flatMap.1 (List.mem_of_getElem? hj)
  exact Yo (zw hf.2 e he) a hc
 |jh loc sz=>exact .jh loc sz
 |o0 loc sz a=>exact .o0 loc sz a
 |sl o off len sz b base cap hi hc hm hr=>cases hf
 |pv o off sz a=>cases hf
 |qn o off sz=>cases hf
 |ez a=>exact .ez a
 |ptr o off b base hi=>cases hf
 |er l b off c h _ ih=>cases hf
 |fn f first captured va vb hs _ hs' _ ih ih'=>
  simp only [AV.fresh,Bool.and_eq_true] at hf
  exact .fn f first captured va vb hs (fun i a v ha hv=>ih i a v ha hv (zw hf.1 a (List.mem_of_getElem? ha))) hs' (fun i a v ha hv=>ih' i a v ha hv (zw hf.2 a (List.mem_of_getElem? ha)))
 |mp o b base hi=>cases hf
 |nm t a v _ ih=>exact .nm t a v (ih hf)
 |yl o b base hi=>cases hf
 |bad v=>cases hf
def Gh.more (g:Gh) (w w':World):Gh:={ g with K:=Fk g.K w w' }
theorem K9 {g h w w'} {lo hi:Nat} (hok:Ok g h w) (q:wa w w'):Step g h w lo hi (g.more w w') h w'∧Ok (g.more w w') h w':=by
 have hext:Ext g w (g.more w w') w':=by
  refine ⟨rfl,fun _ _ h=>h,fun _ _ h=>.inl h,fun b j hj=>ly (q.heap b (hok.K b j hj)),fun b cs e fr hb=>⟨cs,fr,(q.heap b (a9 hb)).trans hb,rfl⟩,fun b l hb=>⟨l,(q.heap b (a9 hb)).trans hb⟩,fun b cs e fr hb _=>q.heap b (a9 hb)⟩
 refine ⟨⟨hext,q.size,q.os,q.tape,q.output,fun b hb _=>q.heap b hb,fun _ h _=>h,fun o b base ho hi=>.inr ⟨o,base,ho,hi⟩,fun b j hk=>?_⟩,⟨Nat.le_trans hok.size q.size,fun o x hx=>?_,hok.sep,fun b j hk=>?_⟩⟩
 ·rcases hk with hk|hk
  ·exact .inl hk
  ·exact .inr (.inl hk.1)
 ·refine (hok.lr o x hx).imp id ?_
  rintro ⟨b,base,h1,h2,h3⟩
  refine ⟨b,base,h1,h2,h3.ext hext (q.heap b h3.lt) (fun j hk=>?_)⟩
  rcases hk with hk|hk
  ·exact hk
  ·have:=h3.lt;omega
 ·rcases hk with hk|hk
  ·exact Nat.lt_of_lt_of_le (hok.K b j hk) q.size
  ·exact hk.2
noncomputable def de {α:Type} (A:AC α) (F : α→Option AV) (args:List AV):M AV:=fun st=>
 match A.get .nil args with
 |some x=>(F x).map fun r=>(r,st)
 |none=>
  match A.get st.h args with
  |some x=>
   match F x with
   |some r=>bif r.fresh then some (r,st) else some (r,{ st with h:=.nil })
   |none=>none
  |none=>none
theorem aj {P:Program} [KP P] {f:Nat} {α:Type} {A:AC α} {F : α→Option AV} (h:∀ x r,F x=some r→bp P f (A.E x) r) (args:List AV):Bu P f args (de A F args):=by
 intro g st w vs r st' hok hfree hrel hm
 have go:∀ (X:Value→World→Prop),aap P f vs w X→(∀ v w',X v w'→wa w w'∧Rel (g.more w w') w' r v)→st'=st →
  (∃ v w' g',(callFunc f vs.toArray).run P w = .ok (.value v) w'∧Step g st.h w st.nx st'.nx g' st'.h w'∧Ok g' st'.h w'∧Rel g' w' r v) ∨
  ((callFunc f vs.toArray).run P w = .ok (.enter f vs.toArray) w∧Calls P f vs.toArray w (fun e w'=>∃ v g',e = .returned v∧Step g st.h w st.nx st'.nx g' st'.h w'∧Ok g' st'.h w'∧Rel g' w' r v)):=by
  intro X hx hX e
  subst e
  rcases hx with ⟨v,h1,h2⟩|⟨h1,h2⟩
  ·obtain ⟨q,hr⟩:=hX v w h2
   have:=K9 (lo:=st'.nx) (hi:=st'.nx) hok q
   exact .inl ⟨v,w,_,h1,this.1,this.2,hr⟩
  ·refine .inr ⟨h1,h2.mono ?_⟩
   rintro e w' ⟨v,rfl,h3⟩
   obtain ⟨q,hr⟩:=hX v w' h3
   have:=K9 (lo:=st'.nx) (hi:=st'.nx) hok q
   exact ⟨v,_,rfl,this.1,this.2,hr⟩
 unfold de at hm
 cases h1:A.get .nil args with
 |some x=>
  rw [h1] at hm
  simp only [Option.map_eq_some_iff] at hm
  obtain ⟨r',h2,h3⟩:=hm
  cases h3
  have hargs:=A.ok (b0:=w.heap.size) (hok.part (hm:=.nil) (fun o x hx=>by rw [Tr.get_nil] at hx;cases hx)) (s8.nil g g.K (fun _ _ h=>h)) hrel h1
  refine go _ (h x r h2 g.K w vs hok.K hargs) (fun v w' hv=>⟨hv.1,hv.2.lift hok.size (fun b j hk=>hk)⟩) rfl
 |none=>
  rw [h1] at hm
  simp only at hm
  cases h2:A.get st.h args with
  |none=>rw [h2] at hm;cases hm
  |some x=>
   rw [h2] at hm
   simp only at hm
   cases h3:F x with
   |none=>rw [h3] at hm;cases hm
   |some r'=>
    rw [h3] at hm
    simp only at hm
    cases h4:r'.fresh with
    |false=>
     rw [h4] at hm
     cases hm
     obtain ⟨K1,eK⟩:∃ K1:Nat→Nat→Prop,(fun b j=>g.K b j∨((∃ o base,(st.h.get o).isSome=true∧g.inj o=some (b,base))∧b<w.heap.size))=K1:=⟨_,rfl⟩
     have hK1:∀ b j,K1 b j↔(g.K b j∨((∃ o base,(st.h.get o).isSome=true∧g.inj o=some (b,base))∧b<w.heap.size)):=fun b j=>by rw [← eK]
     have hK1s:∀ b j,K1 b j→b<w.heap.size:=fun b j hk=>((hK1 b j).1 hk).elim (hok.K b j) (fun q=>q.2)
     have hargs:=A.ok (b0:=w.heap.size) (K:=K1) hok ⟨fun b j hk=>(hK1 b j).2 (.inl hk),fun o cells k s e ho b base hi j hj=>by
      obtain ⟨b',base',h5,_,h6⟩:=hok.obj o _ ho
      rw [hi] at h5;cases h5
      exact (hK1 _ _).2 (.inr ⟨⟨o,base,by rw [ho];rfl,hi⟩,h6.lt⟩)⟩ hrel h2
     have fin:∀ (v:Value) (w':World),wa w w'∧Rel (gK w.heap.size (Fk K1 w w')) w' r v →
      Step g st.h w st.nx st.nx { g with K:=Fk K1 w w' } .nil w'∧Ok { g with K:=Fk K1 w w' } .nil w'∧Rel { g with K:=Fk K1 w w' } w' r v:=by
      rintro v w' ⟨q,hr⟩
      refine ⟨⟨⟨rfl,fun _ _ h=>h,fun b j h=>.inl ((hK1 b j).2 (.inl h)),fun b j hj=>ly (q.heap b (hok.K b j hj)),fun b cs e fr hb=>⟨cs,fr,(q.heap b (a9 hb)).trans hb,rfl⟩,fun b l hb=>⟨l,(q.heap b (a9 hb)).trans hb⟩,fun b cs e fr hb _=>q.heap b (a9 hb)⟩,
       q.size,q.os,q.tape,q.output,fun b hb _=>q.heap b hb,fun _ h _=>h,fun o b base ho hi=>(by rw [Tr.get_nil] at ho;cases ho),fun b j hk=>?_⟩,
       ⟨Nat.le_trans hok.size q.size,fun o x hx=>(by rw [Tr.get_nil] at hx;cases hx),fun o o' x x' b base base' _ hx=>(by rw [Tr.get_nil] at hx;cases hx),fun b j hk=>?_⟩,hr.lift hok.size (fun b j hk=>hk)⟩
      ·rcases hk with hk|hk
       ·rcases (hK1 b j).1 hk with hk|⟨hk,_⟩
        ·exact .inl hk
        ·exact .inr (.inr hk)
       ·exact .inr (.inl hk.1)
      ·rcases hk with hk|hk
       ·exact Nat.lt_of_lt_of_le (hK1s b j hk) q.size
       ·exact hk.2
     rcases h x r h3 K1 w vs hK1s hargs with ⟨v,p1,p2⟩|⟨p1,p2⟩
     ·have q:=fin v w p2
      exact .inl ⟨v,w,_,p1,q.1,q.2.1,q.2.2⟩
     ·refine .inr ⟨p1,p2.mono ?_⟩
      rintro e w' ⟨v,rfl,p3⟩
      have q:=fin v w' p3
      exact ⟨v,_,rfl,q.1,q.2.1,q.2.2⟩
    |true=>
     rw [h4] at hm
     cases hm
     have hargs:=A.ok (b0:=w.heap.size) (K:=fun b _=>b<w.heap.size) hok ⟨fun b j hk=>hok.K b j hk,fun o cells k s e ho b base hi j hj=>by
      obtain ⟨b',base',h5,_,h6⟩:=hok.obj o _ ho
      rw [hi] at h5;cases h5
      exact h6.lt⟩ hrel h2
     refine go _ (h x r h3 (fun b _=>b<w.heap.size) w vs (fun _ _ h=>h) hargs) (fun v w' hv=>⟨hv.1,hv.2.fresh h4 hok.size (fun b j hk hle=>?_)⟩) rfl
     rcases hk with hk|hk
     ·omega
     ·exact .inr hk
theorem ak.nil (P:Program):ak P []:=fun f b m h=>by cases h
theorem ak.cons {P:Program} [KP P] {f:Nat} {b:Bool} {m:List AV→M AV} {T:du} (h:∀ args,Bu P f args (m args)) (hT:ak P T):ak P ((f,b,m)::T):=by
 intro f' b' m' hf args
 simp only [du.find] at hf
 by_cases e:f=f'
 ·subst e
  simp only [Nat.beq_refl,cond_true,Option.some.injEq] at hf
  cases hf
  exact h args
 ·rw [nc e,cond_false] at hf
  exact hT f' b' m' hf args
def acs (g:Gh) (st:St) (w:World):ed:={ jf g st.h w st.nx (fun _=>False) with n0:=w.heap.size }
theorem iz.ofC {g st w} (hok:Ok g st.h w) (hfr:∀ o,st.nx≤o→g.inj o=none):iz (acs g st w) g st w:=
 ⟨hok,fun o h1 _=>hfr o h1,⟨rfl,fun _o _ho=>rfl,fun _ _ h=>h,fun _ _ _=>rfl,Nat.le_refl _,rfl,rfl,rfl,fun _ _ _=>rfl,fun o _b base ho hi=>.inr (.inr ⟨o,base,ho,hi⟩),fun _ _ h=>.inl h,
  fun _b cs _e fr h=>⟨cs,fr,h,rfl⟩,fun _b l h=>⟨l,h⟩,fun _ _ _ _ _ _=>rfl⟩,Nat.le_refl _⟩
theorem iz.ao7 {g st w g' st' w'} (h:iz (acs g st w) g' st' w') (hfr:∀ o,st.nx≤o→g.inj o=none):Step g st.h w st.nx st'.nx g' st'.h w':=by
 have b:=h.base
 have pins:∀ o,o<st.nx→g'.inj o=g.inj o:=fun o ho=>b.pins o (.inl ho)
 refine ⟨⟨b.b0,fun o p hp=>?_,b.K,b.cell,b.ja,b.lp,b.whole⟩,b.size,b.os,b.tape,b.output,fun c hc hn=>b.frame c hc (fun hO=>?_),fun o ho hr=>?_,fun o c base ho hi=>?_,fun c j hk=>?_⟩
 ·by_cases h1:st.nx≤o
  ·rw [hfr o h1] at hp;cases hp
  ·rw [pins o (by omega)];exact hp
 ·rcases hO with hO|⟨o,base,h1,h2⟩
  ·exact hO
  ·exact hn o base h1 h2
 ·by_cases h1:o<st.nx
  ·rw [pins o h1];exact ho
  ·exact h.fresh o (by omega) (fun hf=>hf)
 ·rcases b.own o c base ho hi with h1|h1|h1
  ·exact .inl h1
  ·exact h1.elim
  ·exact .inr h1
 ·rcases b.lz c j hk with h1|h1|h1|h1
  ·exact .inl h1
  ·exact .inr (.inl h1)
  ·exact h1.elim
  ·exact .inr (.inr h1)
theorem fu {P:Program} [KP P] {T:du} (hT:ak P T) (hm:P.follows .mixedOrders=true) {f:Nat} {fn:Func} {body:Code} (hf:P.funcs[f]? = some fn) (hb:fn.body=some body) (he:m7 P f=true) (hs:dq fn.ntmps body=true)
 {args:List AV} (hl:Nat.ble args.length fn.ntmps=true) {st:St} (hp:Nat.ble st.nx 1000=true) {R:AV→St→Prop}
 (h:wl P T st.nx body (dk P fn.results.toList R) (cw 0 args) st):i6 P f args st R:=by
 intro g w vs hok hfr hrel
 refine .inr ⟨s6 he _ _,tx (ro:=none) (n:=0) (callsIn_of_wp_marks hf hb trivial ?_)⟩
 have hcur:=iz.ofC (w:=w) hok hfr
 refine wpIn_mono (aco hT hm (N:=0) (B:=acs g st w) (nt:=fn.ntmps) (fun _ h=>h) (Nat.le_of_ble_eq_true hp) (Nat.le_refl _) body hs _ _ _ g w _ h hcur (zj hrel (Nat.le_of_ble_eq_true hl)) (Marks.nil _ _ _ _)) ?_
 rintro ex a w' ⟨e,L,st',g',rfl,hq,hc,hr,hd⟩
 have fin:B6 (o9 P L st' fn.results.toList) R st'→bodyPostM (gk none) 0 P fn (fun e w'=>∃ v g' r st',e = .returned v∧R r st'∧st.nx≤st'.nx∧Step g st.h w st.nx st'.nx g' st'.h w'∧Ok g' st'.h w'∧Rel g' w' r v) .ret a w':=by
  intro hq
  show LeavesInM (gk none) 0 P fn a.tmps _ a.defers .returning w'
  unfold B6 at hq
  cases hres:o9 P L st' fn.results.toList with
  |none=>rw [hres] at hq;exact hq.elim
  |some l=>
   rw [hres] at hq
   obtain ⟨bs,e1,e2,e3⟩:=hd
   have e1:=e1.trans (List.append_nil _)
   rw [e1]
   refine Ck (Good:=fun u=>Ok g' st'.h u∧Step g st.h w st.nx st'.nx g' st'.h u∧(∀ a v,Rel g' w' a v→Rel g' u a v)) (S:=fun b=>w.heap.size≤b∧gi g' st'.h b) ?_ ?_ bs w'
    ⟨hc.ok,hc.ao7 hfr,fun _ _ h=>h⟩ e2 (fun b hb=>⟨⟨(e3 b hb).1,(e3 b hb).2.2⟩,(e3 b hb).2.1⟩)
   ·rintro u b ⟨g1,g2,g3⟩ ⟨hb1,hb2⟩ hb3
    have hput:=Ok.Ce (ds':=none) g1 hb3 hb2
    exact ⟨hput.1,Step.ahm (ds':=none) hok g2 hb1,fun a v h=>hput.2 a v (g3 a v h)⟩
   ·rintro u ⟨g1,g2,g3⟩
    obtain ⟨us,h1,h2⟩:=Oa (P:=P) g1 ⟨hr.1,fun t=>g3 _ _ (hr.2 t)⟩ fn.results.toList l hres
    obtain ⟨v,h3,h4⟩:=Nt h1 h2
    exact ⟨v,h3,v,g',_,st',rfl,hq,hc.ar,g2,g1,h4⟩
 cases e with
 |normal=>exact fin hq
 |ret=>exact fin hq
 |exit id=>exact hq.elim
def nw (D:List Nat) (nx i:Nat):Nat:=match D[i]? with|some o=>o|none=>nx+(i - D.length)
def Bo (D:List Nat) (nx n0 i:Nat):Option Nat:=bif Nat.blt i n0 then some (nw D nx i) else none
def si (D:List Nat) (nx n0:Nat) (h0:Tr ay):List Nat→Tr ay→Tr ay
 | [],h=>h
 |i::r,h=>si D nx n0 h0 r (Tr.set depth h (nw D nx i) ((h0.get i).bind (ay.cr (Bo D nx n0))))
def nj (D:List Nat) (st st0:St):St:={ h:=si D st.nx st0.nx st0.h (dh 0 st0.nx) st.h,nx:=st.nx+(st0.nx - D.length),rl:=[],wl:=[] }
theorem u6 {D:List Nat} {nx i o:Nat} (h:D[i]? = some o):nw D nx i=o:=by unfold nw;rw [h]
theorem x5 {D:List Nat} {nx i:Nat} (h:D.length≤i):nw D nx i=nx+(i - D.length):=by unfold nw;rw [List.getElem?_eq_none h]
theorem akh {D:List Nat} {nx:Nat} (hD:D.Nodup) (hlt:∀ o ∈ D,o<nx) {i j:Nat} (h:nw D nx i=nw D nx j):i=j:=by
 rcases Nat.lt_or_ge i D.length with hi|hi<;>rcases Nat.lt_or_ge j D.length with hj|hj
 ·rw [u6 (List.getElem?_eq_getElem hi),u6 (List.getElem?_eq_getElem hj)] at h
  exact (List.getElem_inj hD).1 h
 ·rw [u6 (List.getElem?_eq_getElem hi),x5 hj] at h
  have:=hlt _ (List.getElem_mem hi);omega
 ·rw [x5 hi,u6 (List.getElem?_eq_getElem hj)] at h
  have:=hlt _ (List.getElem_mem hj);omega
 ·rw [x5 hi,x5 hj] at h;omega
theorem amo {D:List Nat} {nx n0 i:Nat} (hlt:∀ o ∈ D,o<nx) (hi:i<n0):nw D nx i≤nx+n0:=by
 rcases Nat.lt_or_ge i D.length with h|h
 ·rw [u6 (List.getElem?_eq_getElem h)];have:=hlt _ (List.getElem_mem h);omega
 ·rw [x5 h];omega
theorem Dw {D:List Nat} {nx n0:Nat} {h0:Tr ay} {o:Nat}:∀ (l:List Nat) (h:Tr ay),(∀ i ∈ l,nw D nx i≤cy)→(∀ i ∈ l,nw D nx i≠o)→(si D nx n0 h0 l h).get o=h.get o
 | [],h,_,_=>rfl
 |i::r,h,hl,ho=>by
  rw [si,Dw r _ (fun j hj=>hl j (by simp [hj])) (fun j hj=>ho j (by simp [hj])),gu _ _ _ _ (hl i (by simp)),if_neg (fun e=>ho i (by simp) e.symm)]
theorem P7 {D:List Nat} {nx n0:Nat} {h0:Tr ay} (hinj:∀ i j,nw D nx i=nw D nx j→i=j) {i:Nat}:∀ (l:List Nat) (h:Tr ay),(∀ j ∈ l,nw D nx j≤cy)→i ∈ l→(si D nx n0 h0 l h).get (nw D nx i)=(h0.get i).bind (ay.cr (Bo D nx n0))
 | [],_,_,hi=>by cases hi
 |j::r,h,hl,hi=>by
  rw [si]
  by_cases hr:i ∈ r
  ·exact P7 hinj r _ (fun k hk=>hl k (by simp [hk])) hr
  ·have hij:i=j:=by rcases List.mem_cons.1 hi with e|e;exact e;exact (hr e).elim
   subst hij
   rw [Dw r _ (fun k hk=>hl k (by simp [hk])) (fun k hk e=>hr (hinj k i e ▸ hk)),gu _ _ _ _ (hl i (by simp)),if_pos rfl]
theorem aha {n i:Nat} (h:i<n):i ∈ dh 0 n:=(j6 n 0 i).2 ⟨Nat.zero_le _,by omega⟩
theorem Lo {n i:Nat} (h:i ∈ dh 0 n):i<n:=by have:=((j6 n 0 i).1 h).2;omega
theorem W3:∀ (l:List Nat) (o i:Nat),idx l o i=none→o ∉ l
 | [],o,i,_=>by simp
 |a::l,o,i,h=>by
  rw [Ej] at h
  split at h
  ·cases h
  ·rename_i ne
   have:=W3 l o (i+1) h
   simp only [List.mem_cons,not_or]
   exact ⟨fun e=>ne e.symm,this⟩
theorem U9 {D:List Nat} {g g0':Gh} {st st0':St} {h0:Tr ay} {w w':World} {r:AV} {v:Value} (hD:D.Nodup) (hlt:∀ o ∈ D,o<st.nx) (hp:∀ o ∈ D,(st.h.get o).isSome=true)
 (hok:Ok g st.h w) (hfr:∀ o,st.nx≤o→g.inj o=none) (hk:D.length≤st0'.nx) (hb:st.nx+st0'.nx≤cy)
 (s0:Step (g.cr D) h0 w D.length st0'.nx g0' st0'.h w') (ok0:Ok g0' st0'.h w') (hr:Rel g0' w' r v) :
 ∃ g',st.nx≤(nj D st st0').nx∧Step g st.h w st.nx (nj D st st0').nx g' (nj D st st0').h w'∧Ok g' (nj D st st0').h w'∧Rel g' w' (r.cr (Bo D st.nx st0'.nx)) v:=by
 obtain ⟨n0,hn0⟩:∃ n0,n0=st0'.nx:=⟨_,rfl⟩
 have hinj:=fun i j=>akh (nx:=st.nx) hD hlt (i:=i) (j:=j)
 have hule:∀ i ∈ dh 0 st0'.nx,nw D st.nx i≤cy:=fun i hi=>Nat.le_trans (amo hlt (Lo hi)) hb
 have hin:∀ i,i<st0'.nx→(nj D st st0').h.get (nw D st.nx i)=(st0'.h.get i).bind (ay.cr (Bo D st.nx st0'.nx)):=fun i hi=>P7 hinj _ _ hule (aha hi)
 have hout:∀ o,(∀ i,i<st0'.nx→nw D st.nx i≠o)→(nj D st st0').h.get o=st.h.get o:=fun o ho=>Dw _ _ hule (fun i hi=>ho i (Lo hi))
 have hren:∀ i,(g.cr D).inj i=(D[i]?).bind g.inj:=fun _=>rfl
 have hold:∀ i b base,(g.cr D).inj i=some (b,base)→∃ o ∈ D,g.inj o=some (b,base)∧(st.h.get o).isSome=true:=fun i b base hi=>by
  rw [hren] at hi
  cases hd:D[i]? with
  |none=>rw [hd] at hi;cases hi
  |some o=>rw [hd] at hi;exact ⟨o,List.mem_of_getElem? hd,hi,hp o (List.mem_of_getElem? hd)⟩
 have hno:∀ i,st0'.nx≤i→g0'.inj i=none:=fun i hi=>s0.fresh i (by rw [hren,List.getElem?_eq_none (by omega)];rfl) (by omega)
 let g':Gh:={ b0:=g.b0,inj:=fun o=>if o<st.nx then g.inj o else g0'.inj (D.length+(o - st.nx)),K:=g0'.K }
 have gl:∀ o,o<st.nx→g'.inj o=g.inj o:=fun o ho=>if_pos ho
 have gg:∀ o,st.nx≤o→g'.inj o=g0'.inj (D.length+(o - st.nx)):=fun o ho=>if_neg (by omega)
 have F1:∀ i,g'.inj (nw D st.nx i)=g0'.inj i:=fun i=>by
  rcases Nat.lt_or_ge i D.length with hi|hi
  ·have hd:=List.getElem?_eq_getElem hi
   rw [u6 hd,gl _ (hlt _ (List.getElem_mem hi))]
   have h1:(g.cr D).inj i=g.inj D[i]:=by rw [hren,hd];rfl
   cases hg:g.inj D[i] with
   |some p=>exact (s0.ext.inj i p (h1.trans hg)).symm
   |none=>exact (s0.fresh i (h1.trans hg) (by omega)).symm
  ·rw [x5 hi,gg _ (by omega)]
   congr 1;omega
 let N:List Nat:=(List.range (st.nx+st0'.nx)).map fun o=>if o<st.nx then (idx D o 0).getD st0'.nx else D.length+(o - st.nx)
 have hNg:∀ p,p<st.nx+st0'.nx→N[p]? = some (if p<st.nx then (idx D p 0).getD st0'.nx else D.length+(p - st.nx)):=fun p hp=>by
  simp only [N,List.getElem?_map,List.getElem?_range hp,Option.map_some]
 have hidx:∀ i o,D[i]? = some o→idx D o 0=some i:=fun i o hi=>by
  cases hx:idx D o 0 with
  |some p=>
   have h1:=zz D o p hx
   obtain ⟨hi',ei⟩:=List.getElem?_eq_some_iff.1 hi
   obtain ⟨hp',ep⟩:=List.getElem?_eq_some_iff.1 h1
   rw [(List.getElem_inj hD).1 (ei.trans ep.symm)]
  |none=>exact absurd (List.mem_of_getElem? hi) (W3 D o 0 hx)
 have hτ:∀ o p,Bo D st.nx st0'.nx o=some p→N[p]? = some o:=fun i p h=>by
  unfold Bo at h
  cases hlt2:Nat.blt i st0'.nx with
  |false=>rw [hlt2] at h;cases h
  |true=>
   rw [hlt2] at h
   cases h
   have hi:i<st0'.nx:=Nat.le_of_ble_eq_true hlt2
   rcases Nat.lt_or_ge i D.length with hi2|hi2
   ·have hd:=List.getElem?_eq_getElem hi2
    rw [u6 hd,hNg _ (by have:=hlt _ (List.getElem_mem hi2);omega),if_pos (hlt _ (List.getElem_mem hi2)),hidx i _ hd];rfl
   ·rw [x5 hi2,hNg _ (by omega),if_neg (by omega)]
    congr 1;omega
 have hext:Ext (g0'.cr N) w' g' w':=by
  refine ⟨s0.ext.b0.symm,fun p q hq=>?_,fun _ _ h=>h,fun _ _ _=>rfl,fun b cs e fr h=>⟨cs,fr,h,rfl⟩,fun b l h=>⟨l,h⟩,fun _ _ _ _ _ _=>rfl⟩
  have hq':(N[p]?).bind g0'.inj=some q:=hq
  rcases Nat.lt_or_ge p (st.nx+st0'.nx) with hpl|hpl
  ·rw [hNg p hpl,Option.bind_some] at hq'
   by_cases hpn:p<st.nx
   ·rw [if_pos hpn] at hq'
    cases hx:idx D p 0 with
    |none=>rw [hx,Option.getD_none,hno _ (Nat.le_refl _)] at hq';cases hq'
    |some i=>
     rw [hx,Option.getD_some] at hq'
     rw [← u6 (nx:=st.nx) (zz D p i hx),F1];exact hq'
   ·rw [if_neg hpn] at hq'
    rw [gg p (by omega)];exact hq'
  ·have:N[p]? = none:=List.getElem?_eq_none (by simp only [N,List.length_map,List.length_range];exact hpl)
   rw [this] at hq';cases hq'
 have himg:∀ o,(∃ i,i<st0'.nx∧nw D st.nx i=o)∨(∀ i,i<st0'.nx→nw D st.nx i≠o):=fun o=>by
  by_cases h:∃ i,i<st0'.nx∧nw D st.nx i=o
  ·exact .inl h
  ·exact .inr fun i hi e=>h ⟨i,hi,e⟩
 have dg:∀ i x,i<st0'.nx→(nj D st st0').h.get (nw D st.nx i)=some x→∃ y,st0'.h.get i=some y∧y.cr (Bo D st.nx st0'.nx)=some x:=fun i x hi hx=>by
  rw [hin i hi] at hx
  cases hy:st0'.h.get i with
  |none=>rw [hy] at hx;cases hx
  |some y=>rw [hy] at hx;exact ⟨y,rfl,hx⟩
 have hfar:∀ o b base,(∀ i,i<st0'.nx→nw D st.nx i≠o)→g'.inj o=some (b,base)→o<st.nx∧o ∉ D∧g.inj o=some (b,base):=fun o b base ho hi=>by
  rcases Nat.lt_or_ge o st.nx with h1|h1
  ·refine ⟨h1,fun hd=>?_,by rw [← gl o h1];exact hi⟩
   obtain ⟨i,hil,e⟩:=List.getElem_of_mem hd
   exact ho i (by omega) (by rw [u6 (List.getElem?_eq_getElem hil)];exact e)
  ·rw [gg o h1] at hi
   rcases Nat.lt_or_ge (D.length+(o - st.nx)) st0'.nx with h2|h2
   ·exact (ho _ h2 (by rw [x5 (by omega)];omega)).elim
   ·rw [hno _ h2] at hi;cases hi
 have hsame:∀ o x b base,o ∉ D→st.h.get o=some x→g.inj o=some (b,base)→b<w.heap.size→w'.heap[b]? = w.heap[b]? ∧ (∀ i base',g0'.inj i=some (b,base')→(st0'.h.get i).isSome=true→False)∧(∀ j,g0'.K b j→g.K b j):=fun o x b base ho hx hi hbs=>by
  have hnot:∀ i base',(g.cr D).inj i≠some (b,base'):=fun i base' e=>by
   obtain ⟨o2,hd,hi2,hs2⟩:=hold i b base' e
   obtain ⟨x2,hx2⟩:=Option.isSome_iff_exists.1 hs2
   exact hok.sep o o2 x x2 b base base' (fun e=>ho (e ▸ hd)) hx hx2 hi hi2
  refine ⟨s0.frame b hbs fun i base' _=>hnot i base',fun i base' e hs=>?_,fun j hj=>?_⟩
  ·rcases s0.own i b base' hs e with h1|⟨o',base2,_,h2⟩
   ·omega
   ·exact hnot o' base2 h2
  ·rcases s0.lz b j hj with h1|h1|⟨o',base2,_,h2⟩
   ·exact h1
   ·omega
   ·exact (hnot o' base2 h2).elim
 have hblk:∀ o x b base,st.h.get o=some x→g.inj o=some (b,base)→kq g w b base x:=fun o x b base hx hi=>by
  rcases hok.lr o x hx with ⟨h1,_⟩|⟨b',base',h1,_,h2⟩
  ·rw [h1] at hi;cases hi
  ·rw [h1] at hi;cases hi;exact h2
 have hsz:∀ b base x,kq g w b base x→b<w.heap.size:=fun b base x hx=>by
  have hs:∃ q,w.heap[b]? = some q:=by
   cases x with
   |row cells k st et=>obtain ⟨cs,fr,h1,_⟩:=hx;exact ⟨_,h1⟩
   |map es=>obtain ⟨_,ms,clock,h1,_⟩:=hx;exact ⟨_,h1⟩
   |loop slots nt params assign body state pending=>obtain ⟨_,l,h1,_⟩:=hx;exact ⟨_,h1⟩
  obtain ⟨q,hq⟩:=hs
  exact (Array.getElem?_eq_some_iff.1 hq).1
 have hE:Ext g w g' w':=by
  refine ⟨rfl,fun o p hp=>?_,fun b j h=>s0.ext.K b j h,fun b j h=>s0.ext.cell b j h,s0.ext.ja,s0.ext.lp,s0.ext.whole⟩
  rcases Nat.lt_or_ge o st.nx with h1|h1
  ·rw [gl o h1];exact hp
  ·rw [hfr o h1] at hp;cases hp
 refine ⟨g',Nat.le_add_right _ _,⟨hE,s0.size,s0.os,s0.tape,s0.output,fun b hbs hn=>?_,fun o ho hr2=>?_,fun o b base ho hi=>?_,fun b j hK=>?_⟩,⟨?_,fun o x hx=>?_,fun o o' x x' b base base' hne hx hx' hi hi'=>?_,ok0.K⟩,(hr.cr hτ).ext hext⟩
 ·refine s0.frame b hbs fun i base _ e=>?_
  obtain ⟨o,_,h1,h2⟩:=hold i b base e
  exact hn o base h2 h1
 ·rcases Nat.lt_or_ge o st.nx with h1|h1
  ·rw [gl o h1];exact ho
  ·rw [gg o h1]
   exact hno _ (by simp only [nj] at hr2;omega)
 ·rcases himg o with ⟨i,hi0,rfl⟩|ho2
  ·obtain ⟨x,hx⟩:=Option.isSome_iff_exists.1 ho
   obtain ⟨y,hy,_⟩:=dg i x hi0 hx
   rw [F1] at hi
   rcases s0.own i b base (by rw [hy];rfl) hi with h1|⟨o',base',_,h2⟩
   ·exact .inl h1
   ·obtain ⟨o2,_,h3,h4⟩:=hold o' b base' h2
    exact .inr ⟨o2,base',h4,h3⟩
  ·obtain ⟨_,_,h3⟩:=hfar o b base ho2 hi
   rw [hout o ho2] at ho
   exact .inr ⟨o,base,ho,h3⟩
 ·rcases s0.lz b j hK with h1|h1|⟨o',base',_,h2⟩
  ·exact .inl h1
  ·exact .inr (.inl h1)
  ·obtain ⟨o2,_,h3,h4⟩:=hold o' b base' h2
   exact .inr (.inr ⟨o2,base',h4,h3⟩)
 ·exact Nat.le_trans hok.size s0.size
 ·rcases himg o with ⟨i,hi0,rfl⟩|ho2
  ·obtain ⟨y,hy,hyx⟩:=dg i x hi0 hx
   refine (ok0.lr i y hy).imp (fun q=>⟨by rw [F1];exact q.1,by obtain ⟨s1,e1,rfl⟩:=q.2;simp only [ay.cr,AV.cr.go,Option.some.injEq] at hyx;exact ⟨s1,e1,hyx.symm⟩⟩) ?_
   rintro ⟨b,base,q1,q2,q3⟩
   refine ⟨b,base,by rw [F1];exact q1,by show g.b0≤b;have:=s0.ext.b0;have e:g0'.b0=g.b0:=this;omega,(q3.cr hτ hyx).ext hext rfl (fun j hj=>hj)⟩
  ·rw [hout o ho2] at hx
   cases hg:g'.inj o with
   |none=>
    refine .inl ⟨rfl,?_⟩
    rcases Nat.lt_or_ge o st.nx with h1|h1
    ·rw [gl o h1] at hg
     rcases hok.lr o x hx with ⟨_,h2⟩|⟨b,base,h2,_⟩
     ·exact h2
     ·rw [hg] at h2;cases h2
    ·rcases hok.lr o x hx with ⟨_,h2⟩|⟨b,base,h2,_⟩
     ·exact h2
     ·rw [hfr o h1] at h2;cases h2
   |some p=>
    obtain ⟨b,base⟩:=p
    obtain ⟨h1,h2,h3⟩:=hfar o b base ho2 hg
    have hor:=hblk o x b base hx h3
    obtain ⟨e1,_,e3⟩:=hsame o x b base h2 hx h3 (hsz b base x hor)
    refine .inr ⟨b,base,rfl,?_,hor.ext hE e1 e3⟩
    rcases hok.lr o x hx with ⟨h4,_⟩|⟨b',base',h4,h5,_⟩
    ·rw [h4] at h3;cases h3
    ·rw [h4] at h3;cases h3;exact h5
 ·rcases himg o with ⟨i,hi0,rfl⟩|ho2<;>rcases himg o' with ⟨i',hi0',rfl⟩|ho2'
  ·obtain ⟨y,hy,_⟩:=dg i x hi0 hx
   obtain ⟨y',hy',_⟩:=dg i' x' hi0' hx'
   rw [F1] at hi hi'
   exact ok0.sep i i' y y' b base base' (fun e=>hne (by rw [e])) hy hy' hi hi'
  ·obtain ⟨y,hy,_⟩:=dg i x hi0 hx
   obtain ⟨h1,h2,h3⟩:=hfar o' b base' ho2' hi'
   rw [hout o' ho2'] at hx'
   rw [F1] at hi
   exact (hsame o' x' b base' h2 hx' h3 (hsz b base' x' (hblk o' x' b base' hx' h3))).2.1 i base hi (by rw [hy];rfl)
  ·obtain ⟨y,hy,_⟩:=dg i' x' hi0' hx'
   obtain ⟨h1,h2,h3⟩:=hfar o b base ho2 hi
   rw [hout o ho2] at hx
   rw [F1] at hi'
   exact (hsame o x b base h2 hx h3 (hsz b base x (hblk o x b base hx h3))).2.1 i' base' hi' (by rw [hy];rfl)
  ·obtain ⟨h1,h2,h3⟩:=hfar o b base ho2 hi
   obtain ⟨h1',h2',h3'⟩:=hfar o' b base' ho2' hi'
   rw [hout o ho2] at hx
   rw [hout o' ho2'] at hx'
   exact hok.sep o o' x x' b base base' hne hx hx' h3 h3'
theorem Vr {P:Program} [KP P] {f:Nat} {args:List AV} {st:St} {R:AV→St→Prop} (D:List Nat) (hD:D.Nodup) (hlt:∀ o ∈ D,o<st.nx) (hp:∀ o ∈ D,(st.h.get o).isSome=true) (hl:D.length≤cy)
 (h:i6 P f (AV.cr.go (fun o=>idx D o 0) args) (bk (gj st.h (fun o=>idx D o 0) D)) (fun r st'=>(D.length≤st'.nx∧st.nx+st'.nx≤cy)∧R (r.cr (Bo D st.nx st'.nx)) (nj D st st'))):i6 P f args st R:=by
 intro g w vs hok hfr hrel
 have hτ:∀ o p,(fun o=>idx D o 0) o=some p→D[p]? = some o:=fun o p h=>zz _ o p h
 have hnx:(bk (gj st.h (fun o=>idx D o 0) D)).nx=D.length:=by simp only [bk,fo]
 have hinj:∀ i o,D[i]? = some o→(g.cr D).inj i=g.inj o:=fun i o h=>by simp [Gh.cr,h]
 have dg:∀ i x,(bk (gj st.h (fun o=>idx D o 0) D)).h.get i=some x→∃ o y,D[i]? = some o∧st.h.get o=some y∧y.cr (fun o=>idx D o 0)=some x:=by
  intro i x hx
  simp only [bk] at hx
  rw [pq _ _ _ (by rw [fo];omega),if_pos (Nat.zero_le _),Nat.sub_zero,qd] at hx
  cases hi:D[i]? with
  |none=>rw [hi] at hx;cases hx
  |some o=>
   rw [hi] at hx
   simp only [Option.map_some,Option.join_some] at hx
   cases hy:st.h.get o with
   |none=>rw [hy] at hx;cases hx
   |some y=>rw [hy] at hx;exact ⟨o,y,rfl,hy,hx⟩
 have hok0:Ok (g.cr D) (bk (gj st.h (fun o=>idx D o 0) D)).h w:=by
  refine ⟨hok.size,fun i x hx=>?_,fun i j x y b base base' hij hx hy hb hb'=>?_,hok.K⟩
  ·obtain ⟨o,y,h1,h2,h3⟩:=dg i x hx
   refine (hok.lr o y h2).imp (fun q=>⟨by rw [hinj i o h1];exact q.1,by obtain ⟨s0,e0,rfl⟩:=q.2;simp only [ay.cr,AV.cr.go,Option.some.injEq] at h3;exact ⟨s0,e0,h3.symm⟩⟩) ?_
   rintro ⟨b,base,q1,q2,q3⟩
   exact ⟨b,base,by rw [hinj i o h1];exact q1,q2,q3.cr hτ h3⟩
  ·obtain ⟨o,y1,h1,h2,_⟩:=dg i x hx
   obtain ⟨o',y2,h1',h2',_⟩:=dg j y hy
   rw [hinj i o h1] at hb
   rw [hinj j o' h1'] at hb'
   have hne:o≠o':=by
    intro e
    subst e
    obtain ⟨hi,ei⟩:=List.getElem?_eq_some_iff.1 h1
    obtain ⟨hj,ej⟩:=List.getElem?_eq_some_iff.1 h1'
    exact hij ((List.getElem_inj hD).1 (ei.trans ej.symm))
   exact hok.sep o o' _ _ b base base' hne h2 h2' hb hb'
 have hfr0:∀ o,(bk (gj st.h (fun o=>idx D o 0) D)).nx≤o→(g.cr D).inj o=none:=fun o ho=>by
  rw [hnx] at ho;simp [Gh.cr,List.getElem?_eq_none ho]
 have hrel0:be (g.cr D) w (AV.cr.go (fun o=>idx D o 0) args) vs:=by
  rw [jb]
  refine ⟨by rw [List.length_map];exact hrel.1,fun i a v ha hv=>?_⟩
  rw [List.getElem?_map] at ha
  cases hx:args[i]? with
  |none=>rw [hx] at ha;cases ha
  |some a0=>rw [hx] at ha;cases ha;exact (hrel.2 i a0 v hx hv).cr hτ
 rcases h (g.cr D) w vs hok0 hfr0 hrel0 with ⟨v,w',g',r,st',q1,q2,q3,q4,q5,q6⟩|⟨q1,q2⟩
 ·rw [hnx] at q4
  obtain ⟨g'',p1,p2,p3,p4⟩:=U9 hD hlt hp hok hfr q2.1.1 q2.1.2 q4 q5 q6
  exact .inl ⟨v,w',g'',_,_,q1,q2.2,p1,p2,p3,p4⟩
 ·refine .inr ⟨q1,q2.mono ?_⟩
  rintro e w' ⟨v,g',r,st',rfl,q2,q3,q4,q5,q6⟩
  rw [hnx] at q4
  obtain ⟨g'',p1,p2,p3,p4⟩:=U9 hD hlt hp hok hfr q2.1.1 q2.1.2 q4 q5 q6
  exact ⟨v,g'',_,_,rfl,q2.2,p1,p2,p3,p4⟩
theorem vn {P:Program} [KP P] {f:Nat} {args:List AV} {st:St} {R:AV→St→Prop} (D:List Nat) {args0:List AV} {objs0:List (Option ay)} {r0:AV} {objs1:List (Option ay)}
 (hc:i6 P f args0 (bk objs0) (fun r st'=>r=r0∧st'=bk objs1)) (hD:D.Nodup)
 (hlt:(D.all fun o=>Nat.blt o st.nx)=true) (hp:(D.all fun o=>(st.h.get o).isSome)=true) (hl:D.length≤cy)
 (ha:AV.cr.go (fun o=>idx D o 0) args=args0) (hs:gj st.h (fun o=>idx D o 0) D=objs0) (hb:D.length≤objs1.length∧st.nx+objs1.length≤cy)
 (h:R (r0.cr (Bo D st.nx objs1.length)) (nj D st (bk objs1))):i6 P f args st R:=by
 refine Vr D hD (fun o ho=>Nat.le_of_ble_eq_true (List.all_eq_true.1 hlt o ho)) (fun o ho=>List.all_eq_true.1 hp o ho) hl ?_
 rw [ha,hs]
 intro g w vs hok hfr hrel
 rcases hc g w vs hok hfr hrel with ⟨v,w',g',r,st',q1,⟨rfl,rfl⟩,q3⟩|⟨q1,q2⟩
 ·exact .inl ⟨v,w',g',_,_,q1,⟨hb,h⟩,q3⟩
 ·refine .inr ⟨q1,q2.mono ?_⟩
  rintro e w' ⟨v,g',r,st',e1,⟨rfl,rfl⟩,q3⟩
  exact ⟨v,g',_,_,e1,⟨hb,h⟩,q3⟩
end
end Go.Vm
namespace Go.Vm
variable [TK]
noncomputable section
section code
variable (P : Program) (T : du) (ar : Nat) (Q : QL) (L : SL) (st : St)
theorem Zp:wl P T ar .skip Q L st=Q .normal L st:=id rfl
theorem Qp (i ops d):wl P T ar (.region i ops d) Q L st=zv P T ops d (Q .normal) L st:=id rfl
theorem aff (a b):wl P T ar (.seq a b) Q L st=wl P T ar a (J7 (wl P T ar b) Q) L st:=id rfl
theorem Zj (c a b):wl P T ar (.cond c a b) Q L st=rm (dr L c) (wl P T ar a Q) (wl P T ar b Q) L st:=id rfl
theorem Ux (i b):wl P T ar (.block i b) Q L st=wl P T ar b (Ka i Q) L st:=id rfl
theorem Y7 (b):wl P T ar (.loop b) Q L st=rn ar (wl P T ar b) Q L st:=id rfl
theorem Zz (i):wl P T ar (.exit i) Q L st=Q (.exit i) L st:=id rfl
theorem afk:wl P T ar .ret Q L st=Q .ret L st:=id rfl
theorem adx (W):J7 W Q .normal L st=W Q L st:=id rfl
theorem aef (W i):J7 W Q (.exit i) L st=Q (.exit i) L st:=id rfl
theorem adp (W):J7 W Q .ret L st=Q .ret L st:=id rfl
theorem afr (i):Ka i Q .normal L st=Q .normal L st:=id rfl
theorem afj (i):Ka i Q .ret L st=Q .ret L st:=id rfl
theorem ael (i j):Ka i Q (.exit j) L st=bif Nat.beq j i then Q .normal L st else Q (.exit j) L st:=id rfl
theorem Zt (keep X):zh ar keep X Q .normal L st=X (eg ar keep L st) (g8 ar keep L st):=id rfl
theorem Zw (keep X i):zh ar keep X Q (.exit i) L st=Q (.exit i) L st:=id rfl
theorem Zl (keep X):zh ar keep X Q .ret L st=Q .ret L st:=id rfl
theorem aes (rs R):dk P rs R .normal L st=B6 (o9 P L st rs) R st:=id rfl
theorem adv (rs R):dk P rs R .ret L st=B6 (o9 P L st rs) R st:=id rfl
theorem Pd (ops K):zv P T ops false K L st=opsL P T ops ops.toList K L st:=id rfl
theorem Uz (ops K):opsL P T ops [] K L st=K L st:=id rfl
theorem Qx (ops o r K):opsL P T ops (o::r) K L st=tw ops o.guard (Oi P T o (opsL P T ops r K)) (Cq o.dst (opsL P T ops r K)) L st:=id rfl
theorem Vf (ops K recs):Ay P T ops [] K recs L st=(eh (Region.before ops) 0 recs=true∧K L st):=id rfl
theorem Rh (ops o r K recs):Ay P T ops (o::r) K recs L st=tw ops o.guard (gn P T o recs (Ay P T ops r K)) (Cq o.dst (Ay P T ops r K (recs++[⟨[],[]⟩]))) L st:=id rfl
theorem M7 (ops X Y):tw ops none X Y L st=X L st:=id rfl
theorem Lh (ops j c X Y):tw ops (some (j,c)) X Y L st=z7 (lk L (sq ops j)) c X Y L st:=id rfl
theorem Uo (b:Bool) (X Y:SL→St→Prop):z7 (.sc (.bool b)) true X Y L st=rm (.sc (.bool b)) X Y L st:=by cases b<;>simp [z7,zk,B2,Ek,rm,ry,AV.bool,AV.exact,pk]
theorem U5 (b:Bool) (X Y:SL→St→Prop):z7 (.sc (.bool b)) false X Y L st=rm (.sc (.bool b)) Y X L st:=by cases b<;>simp [z7,zk,B2,Ek,rm,ry,AV.bool,AV.exact,pk]
theorem Uj (c:Bool) (X Y:SL→St→Prop):z7 (.sc undef) c X Y L st=Y L st:=by simp [z7,zk,B2,Ek,AV.exact,undef]
theorem aae (o K):Oi P T o K L st=C0 (g9 P T o (dr L) st) P o L st K:=id rfl
theorem V7 (v o K st'):C0 (some (v,st')) P o L st K=K (nb o.dst v L) st':=id rfl
theorem U0 (K d r):jj K d L r st=K (nb d r L) st:=id rfl
theorem Ts (ro F o recs K v dz):Aq ro F o recs K L st (some (v,dz))=((Bs st.nx F=true∧Nat.ble dz.nx cy=true)∧same (nl st.h F) dz.h (bif ro then F else []) ∧
 K (recs++[⟨F,(bif ro then [] else F)++dh st.nx (dz.nx - st.nx)⟩]) (nb o.dst v L) { h:=qm dz.h (F++dh st.nx (dz.nx - st.nx)) st.h,nx:=dz.nx,rl:=[],wl:=[] }):=id rfl
theorem Pu (d K):Cq d K L st=K (nb d (.sc undef) L) st:=id rfl
theorem fe (b X Y):rm (.sc (.bool b)) X Y L st=((b=true→X L st)∧(b=false→Y L st)):=id rfl
theorem Cu (X Y):rm (.sc (.bool true)) X Y L st=X L st:=by simp [rm,ry,AV.bool,AV.exact,pk]
theorem C3 (X Y):rm (.sc (.bool false)) X Y L st=Y L st:=by simp [rm,ry,AV.bool,AV.exact,pk]
theorem Qb (d v):nb (some d) v L=(d,v)::L:=id rfl
theorem Qo (v):nb none v L=L:=id rfl
theorem afm (l R):B6 (some l) R st=R (pack l) st:=id rfl
theorem afd (d v):lk ((d,v)::L) d=v:=by simp [lk]
theorem aaa (d t v) (h:(d == t)=false):lk ((d,v)::L) t=lk L t:=by
 have e:d≠t:=by simpa using h
 rw [qq,if_neg e]
theorem aje (t):dr L (.tmp t)=lk L t:=id rfl
theorem ajm (v):dr L (.const v) = .sc v:=id rfl
theorem ajr (f):dr L (.func f) = .sc (.func (.func f) #[] #[]):=id rfl
theorem af9:o9 P L st []=some []:=id rfl
theorem afh (t r):o9 P L st (.tmp t::r)=(o9 P L st r).map (lk L t :: ·):=id rfl
theorem adw (a t r):o9 P L st (.cell a t::r)=match og P t (lk L a) st with|some (v,_)=>(o9 P L st r).map (v :: ·)|none=>none:=id rfl
end code
section ops
variable (P : Program) (T : du) (ρ : Operand → AV) (d : Option Tmp) (ty : TypeId) (pos : String) (af : Array Edge) (gd : Option (Nat × Bool))
theorem Ep (x):g9 P T ⟨d,.move x,ty,pos,af,gd⟩ ρ=mono (M.pure (ρ x)):=id rfl
theorem A1 (x):g9 P T ⟨d,.assign x,ty,pos,af,gd⟩ ρ=mono (M.pure (ρ x)):=id rfl
theorem Dm (t a):g9 P T ⟨d,.load t a,ty,pos,af,gd⟩ ρ=mono (og P t (ρ a)):=id rfl
theorem vu (s x f):g9 P T ⟨d,.fieldAddr s x f,ty,pos,af,gd⟩ ρ=mono (ou P s (ρ x) f):=id rfl
theorem Iw (op t x y u):g9 P T ⟨d,.binOp op t x y u,ty,pos,af,gd⟩ ρ=mono (Dt P ρ ⟨d,.binOp op t x y u,ty,pos,af,gd⟩ op t x y):=id rfl
theorem Ee (c a b):g9 P T ⟨d,.pick c a b,ty,pos,af,gd⟩ ρ=mono (z8 (ρ c) (ρ a) (ρ b)):=id rfl
theorem Cg (t a x):g9 P T ⟨d,.store t a x,ty,pos,af,gd⟩ ρ=mono (s7 P t (ρ a) (ρ x)):=id rfl
theorem Fb (t i):g9 P T ⟨d,.extract t i,ty,pos,af,gd⟩ ρ=mono (uh (ρ t) i):=id rfl
theorem u5 (t x i):g9 P T ⟨d,.indexAddr t x i,ty,pos,af,gd⟩ ρ=mono (ot P t (ρ x) (ρ i)):=id rfl
theorem Js (t):g9 P T ⟨d,.alloc t,ty,pos,af,gd⟩ ρ=mono (wm P t):=id rfl
theorem Rr (t x):g9 P T ⟨d,.box t x,ty,pos,af,gd⟩ ρ=mono (D6 t (ρ x)):=id rfl
theorem B7 (t ps):g9 P T ⟨d,.build t ps,ty,pos,af,gd⟩ ρ=mono (uu P t (ps.toList.map fun p=>(p.1,ρ p.2))):=id rfl
theorem tz (t n ps):g9 P T ⟨d,.buildSlice t n ps,ty,pos,af,gd⟩ ρ=mono (l7 P t n (ps.toList.map fun p=>(p.1,ρ p.2))):=id rfl
theorem De (f a b):g9 P T ⟨d,.makeFunc f a b,ty,pos,af,gd⟩ ρ=mono (M.pure (.fn f (a.toList.map ρ) (b.toList.map ρ))):=id rfl
theorem za (s u x):g9 P T ⟨d,.convert s u x,ty,pos,af,gd⟩ ρ=mono (sf P ρ ⟨d,.convert s u x,ty,pos,af,gd⟩ s u (ρ x)):=id rfl
theorem Iy (s x f):g9 P T ⟨d,.field s x f,ty,pos,af,gd⟩ ρ=mono (zy P s (ρ x) f):=id rfl
theorem Ik (t x i):g9 P T ⟨d,.index t x i,ty,pos,af,gd⟩ ρ=mono (zu P ρ ⟨d,.index t x i,ty,pos,af,gd⟩ t x i):=id rfl
theorem Ig (t x l h m):g9 P T ⟨d,.slice t x l h m,ty,pos,af,gd⟩ ρ=mono (wy P ρ ⟨d,.slice t x l h m,ty,pos,af,gd⟩ t x l h m):=id rfl
theorem Po (x ts):g9 P T ⟨d,.call { callee:=.builtin .len,args:=#[x],argTypes:=ts },ty,pos,af,gd⟩ ρ=mono (sv ((ts[0]?).bind P.underlying) (ρ x)):=id rfl
theorem A0 (s x ts):g9 P T ⟨d,.call { callee:=.builtin .append,args:=#[s,x],argTypes:=ts },ty,pos,af,gd⟩ ρ=mono (ni P ts[0]? ((ts[1]?).bind P.underlying) (ρ s) (ρ x)):=id rfl
theorem Mh (f args ts):g9 P T ⟨d,.call { callee:=.value f,args,argTypes:=ts },ty,pos,af,gd⟩ ρ=ss T (ρ f) (args.toList.map ρ):=id rfl
end ops
section monad
variable {α β : Type} (s : St)
theorem aiw (m:M α):mono m s=match m s with|none=>none|some (a,s')=>bif decide (s.nx≤s'.nx) then some (a,s') else none:=by
 have:∀ a b,Nat.ble a b=decide (a≤b):=fun a b=>by rw [Bool.eq_iff_iff];simp
 unfold mono
 cases m s with
 |none=>rfl
 |some p=>simp only [this]
theorem ajh (m:M α) (f : α→M β):(m.bind f) s=match m s with|none=>none|some (a,s')=>f a s':=id rfl
theorem ai3 (a : α):(M.pure a) s=some (a,s):=id rfl
theorem ajl:(M.fail:M α) s=none:=id rfl
theorem ai0 (a : α):(M.of (some a)) s=some (a,s):=id rfl
theorem ajk (b:Bool) (m m':M α):(bif b then m else m') s=bif b then m s else m' s:=by cases b<;>rfl
theorem ajb (o:Nat):dg o s=match s.h.get o with|some x=>some (x,{ s with rl:=o::s.rl })|none=>none:=id rfl
theorem ajp (x:ay):ji x s=bif decide (s.nx≤cy) then some (s.nx,{ s with h:=s.h.set depth s.nx (some x),nx:=s.nx+1,wl:=s.nx::s.wl }) else none:=by
 have:Nat.ble s.nx cy=decide (s.nx≤cy):=by rw [Bool.eq_iff_iff];simp
 unfold ji;rw [this]
theorem ai8 (o:Nat) (x:ay):nh o x s=match s.h.get o with|some _=>bif decide (o≤cy) then some ((),{ s with h:=s.h.set depth o (some x),wl:=o::s.wl }) else none|none=>none:=by
 have:Nat.ble o cy=decide (o≤cy):=by rw [Bool.eq_iff_iff];simp
 unfold nh;rw [this];rfl
theorem ajc (o:Nat):Eh o s=match s.h.get o with|some _=>bif decide (o≤cy) then some ((),{ s with h:=s.h.set depth o none,wl:=o::s.wl }) else none|none=>none:=by
 have:Nat.ble o cy=decide (o≤cy):=by rw [Bool.eq_iff_iff];simp
 unfold Eh;rw [this];rfl
theorem Ue (t:Tr ay) (n m:Nat) (x:Option ay) (h:n≤16777214):(Tr.set depth t n x).get m=if m=n then x else t.get m:=gu t n m x h
theorem Ws (n:Nat):(Tr.nil:Tr ay).get n=none:=id rfl
theorem ahd (a b:Nat):Nat.ble a b=decide (a≤b):=by rw [Bool.eq_iff_iff];simp
theorem ann (a b:Nat):Nat.blt a b=decide (a<b):=by rw [Bool.eq_iff_iff];simp
theorem ag3 (a b:Nat):Nat.beq a b=decide (a=b):=by rw [Bool.eq_iff_iff];simp
end monad
theorem Jn {a:AV} {x y x' y':Prop} (h1:x→x') (h2:y→y') (h:ry a x y):ry a x' y':=by
 unfold ry at *
 split at h
 ·exact ⟨fun e=>h1 (h.1 e),fun e=>h2 (h.2 e)⟩
 ·exact h.elim
theorem vi {ops L gd} {x y x' y':Prop} (h1:x→x') (h2:y→y') (h:guarded ops L gd x y):guarded ops L gd x' y':=by
 unfold guarded at *
 split at h
 ·exact h1 h
 ·unfold zk at *
  split at h
  ·exact ⟨fun e=>h1 (h.1 e),fun e=>h2 (h.2 e)⟩
  ·exact h.elim
theorem i6.mono {P f args st} {R R':AV→St→Prop} (h:∀ r st,R r st→R' r st) (hc:i6 P f args st R):i6 P f args st R':=by
 intro g w vs h1 h2 h3
 rcases hc g w vs h1 h2 h3 with ⟨v,w',g',r,st',q1,q2,q3⟩|⟨q1,q2⟩
 ·exact .inl ⟨v,w',g',r,st',q1,h _ _ q2,q3⟩
 ·refine .inr ⟨q1,q2.mono ?_⟩
  rintro e w' ⟨v,g',r,st',p1,p2,p3⟩
  exact ⟨v,g',r,st',p1,h _ _ p2,p3⟩
theorem abp {P o L st} {K K':SL→St→Prop} (h:∀ L st,K L st→K' L st) (hc:Ht P o L st K):Ht P o L st K':=by
 unfold Ht abk at *
 split at hc
 ·split at hc
  ·exact i6.mono (fun r st hk=>h _ _ hk) hc
  ·exact hc.elim
 ·exact hc.elim
theorem A8 {P T ops} {K K':SL→St→Prop} (h:∀ L st,K L st→K' L st):∀ (l:List Oper) (L:SL) (st:St),opsL P T ops l K L st→opsL P T ops l K' L st
 | [],L,st,hh=>h L st hh
 |o::r,L,st,hh=>vi (fun q=>by
  unfold Oi C0 at *
  split at q
  ·exact A8 h r _ _ q
  ·exact abp (fun L st=>A8 h r L st) q) (fun q=>A8 h r _ _ q) hh
theorem Bl {P T ops} {K K':SL→St→Prop} (h:∀ L st,K L st→K' L st):∀ (l:List Oper) (recs:List Rec) (L:SL) (st:St),Ay P T ops l K recs L st→Ay P T ops l K' recs L st
 | [],recs,L,st,hh=>⟨hh.1,h L st hh.2⟩
 |o::r,recs,L,st,hh=>vi (fun q=>by
  unfold gn ku Aq at *
  split at q
  ·exact ⟨q.1,q.2.1,Bl h r _ _ _ q.2.2⟩
  ·exact q.elim) (fun q=>Bl h r _ _ _ q) hh
theorem Bg {P T ops} {K K':SL→St→Prop} (h:∀ L st,K L st→K' L st):∀ (l:List Oper) (recs:List Rec) (L:SL) (st:St),G0 P T ops l K recs L st→G0 P T ops l K' recs L st
 | [],recs,L,st,hh=>⟨hh.1,h L st hh.2⟩
 |o::r,recs,L,st,hh=>vi (fun q=>Lk (fun _ _ _ k=>Bg h r _ _ _ k) q) (fun q=>Bg h r _ _ _ q) hh
theorem ue {P T l ar ops} {R:Ez} (hR:∀ p args (X X':Ex→St→Prop) st,(∀ e st,X e st→X' e st)→R p args X st→R p args X' st) {K K':Option Ex→SL→St→Prop} (h:∀ pe L st,K pe L st→K' pe L st) :
 ∀ (ls:List Oper) (pe:Option Ex) (L:SL) (st:St),Ow P T l R ar ops ls K pe L st→Ow P T l R ar ops ls K' pe L st
 | [],pe,L,st,hh=>h pe L st hh
 |o::r,pe,L,st,hh=>vi (fun q=>by
  unfold opI aie at *
  split at q
  ·unfold Od at *
   split at q
   ·exact ue hR h r _ _ _ q
   ·exact q.elim
  ·obtain ⟨h0,keep,q⟩:=q
   refine ⟨h0,keep,hR _ _ _ _ _ (fun e st q=>?_) q⟩
   cases e with
   |normal=>exact ue hR h r _ _ _ q
   |ret=>exact ue hR h r _ _ _ q
   |exit id=>exact ue hR h r _ _ _ q) (fun q=>ue hR h r _ _ _ q) hh
theorem ahr {P:Program} {T:du} {l ar:Nat} {R:Ez} (hR:∀ p args (X X':Ex→St→Prop) st,(∀ e st,X e st→X' e st)→R p args X st→R p args X' st) :
 ∀ (c:Code) (Q Q':QI),(∀ e pe L st,Q e pe L st→Q' e pe L st)→∀ pe L st,Ji P T l R ar c Q pe L st→Ji P T l R ar c Q' pe L st:=by
 intro c
 induction c with
 |skip=>intro Q Q' h pe L st hh;exact h _ _ _ _ hh
 |label l=>intro Q Q' h pe L st hh;exact h _ _ _ _ hh
 |exit i=>intro Q Q' h pe L st hh;exact h _ _ _ _ hh
 |ret=>intro Q Q' h pe L st hh;exact h _ _ _ _ hh
 |region i ops draw=>
  intro Q Q' h pe L st hh
  cases draw with
  |false=>exact ue hR (h _) _ _ _ _ hh
  |true=>exact ⟨hh.1,hh.2.imp (Bl (h _ _) _ _ _ _) (Bg (h _ _) _ _ _ _)⟩
 |seq a b iha ihb=>
  intro Q Q' h pe L st hh
  refine iha _ _ ?_ pe L st hh
  intro e pe L st q
  cases e with
  |normal=>exact ihb _ _ h pe L st q
  |_=>exact h _ _ _ _ q
 |cond c a b iha ihb=>intro Q Q' h pe L st hh;exact Jn (iha _ _ h pe L st) (ihb _ _ h pe L st) hh
 |block i b ih=>
  intro Q Q' h pe L st hh
  refine ih _ _ ?_ pe L st hh
  intro e pe L st q
  cases e with
  |exit j=>
   simp only [ah0] at *
   cases hb:Nat.beq j i with
   |true=>rw [hb] at q;exact h _ _ _ _ q
   |false=>rw [hb] at q;exact h _ _ _ _ q
  |_=>exact h _ _ _ _ q
 |loop b ih=>
  intro Q Q' h pe L st hh
  obtain ⟨h0,keep,hh⟩:=hh
  refine ⟨h0,keep,fun X hX=>hh X fun vs os q=>hX vs os (ih _ _ ?_ _ _ _ q)⟩
  intro e pe L st q
  cases e with
  |normal=>exact q
  |_=>exact h _ _ _ _ q
 |scope b ih=>intro _ _ _ _ _ _ hh;exact hh.elim
 |rangeFunc=>intro _ _ _ _ _ _ hh;exact hh.elim
 |goto=>intro _ _ _ _ _ _ hh;exact hh.elim
 |refuse=>intro _ _ _ _ _ _ hh;exact hh.elim
theorem agr {P:Program} {T:du}:∀ (c:Code) (ar:Nat) (Q Q':QL),(∀ e L st,Q e L st→Q' e L st)→∀ L st,wl P T ar c Q L st→wl P T ar c Q' L st:=by
 intro c
 induction c with
 |skip=>intro ar Q Q' h L st hh;exact h _ _ _ hh
 |label l=>intro ar Q Q' h L st hh;exact h _ _ _ hh
 |exit i=>intro ar Q Q' h L st hh;exact h _ _ _ hh
 |ret=>intro ar Q Q' h L st hh;exact h _ _ _ hh
 |region i ops draw=>
  intro ar Q Q' h L st hh
  cases draw with
  |false=>exact A8 (h _) _ _ _ hh
  |true=>exact ⟨hh.1,hh.2.imp (Bl (h _) _ _ _ _) (Bg (h _) _ _ _ _)⟩
 |seq a b iha ihb=>
  intro ar Q Q' h L st hh
  refine iha _ _ _ ?_ L st hh
  intro e L st q
  cases e with
  |normal=>exact ihb _ _ _ h L st q
  |_=>exact h _ _ _ q
 |cond c a b iha ihb=>intro ar Q Q' h L st hh;exact Jn (iha _ _ _ h L st) (ihb _ _ _ h L st) hh
 |block i b ih=>
  intro ar Q Q' h L st hh
  refine ih _ _ _ ?_ L st hh
  intro e L st q
  cases e with
  |exit j=>
   simp only [Ka] at *
   cases hb:Nat.beq j i with
   |true=>rw [hb] at q;exact h _ _ _ q
   |false=>rw [hb] at q;exact h _ _ _ q
  |_=>exact h _ _ _ q
 |loop b ih=>
  intro ar Q Q' h L st hh
  obtain ⟨keep,hh⟩:=hh
  refine ⟨keep,fun X hX=>hh X fun vs os q=>hX vs os (ih _ _ _ ?_ _ _ q)⟩
  intro e L st q
  cases e with
  |normal=>exact q
  |_=>exact h _ _ _ q
 |scope b ih=>intro ar Q Q' h L st hh;exact ih _ _ _ h L st hh
 |rangeFunc f ps a b iha ihb=>
  intro ar Q Q' h L st hh
  obtain ⟨keep,h0,hh⟩:=hh
  refine ⟨keep,h0,?_⟩
  unfold Wf at *
  split at hh
  ·unfold Un at *
   split at hh
   ·refine ⟨hh.1,fun l=>ahr (fun p args X X' st hX hr=>⟨hr.1,hr.2.1,iha _ _ _ (fun e L st q=>(by
     cases e with
     |normal=>exact ihb _ _ _ (fun e _ st q=>hX e st q) _ _ q
     |_=>exact q.elim)) _ _ hr.2.2⟩) _ _ _ (fun e pe L st q=>(by
     cases e with
     |exit id=>exact q.elim
     |normal=>
      cases pe with
      |none=>exact h _ _ _ q
      |some e=>exact h _ _ _ q
     |ret=>
      cases pe with
      |none=>exact h _ _ _ q
      |some e=>exact h _ _ _ q)) _ _ _ (hh.2 l)⟩
   ·exact hh.elim
  ·exact hh.elim
 |goto=>intro _ _ _ _ _ _ hh;exact hh.elim
 |refuse=>intro _ _ _ _ _ _ hh;exact hh.elim
theorem Oc {P:Program} {T:du} {ar:Nat} (c:Code) (Q Q':QL) (h:∀ e L st,Q e L st→Q' e L st) (L:SL) (st:St) (hh:wl P T ar c Q L st):wl P T ar c Q' L st:=agr c ar Q Q' h L st hh
theorem dm {α:Type} {P:Program} {T:du} {ar:Nat} {b:Code} {Q:QL} {L:SL} {st:St} (keep:List Nat) (V : α→List AV) (O : α→List (Option ay)) (I : α→Prop) (μ : α→Nat) (x : α) (hx:I x)
 (hv:eg ar keep L st=V x) (ho:g8 ar keep L st=O x)
 (step:∀ x,I x→wl P T ar b (zh ar keep (fun vs os=>∃ y,I y ∧ μ y < μ x∧vs=V y∧os=O y) Q) (lq keep (V x)) (bk (O x))):rn ar (wl P T ar b) Q L st:=
 rn.of keep V O I μ x hx hv ho (fun _ _ h=>Oc b _ _ h) step
section cods
theorem nf {α:Type} (C:cq α) (l:Bool) (xs:List α):(bw C).val l xs = .vl l C.sz (xs.map (C.val l)):=id rfl
theorem C1 {α:Type} (C:cq α):(bw C).sz=1:=id rfl
theorem Rg:ai.sz=1:=id rfl
theorem T3:aw.sz=1:=id rfl
theorem Q4:b9.sz=1:=id rfl
theorem Bd:bh.sz=1:=id rfl
theorem Pf (k:IntKind):(bz k).sz=1:=id rfl
theorem Lx:cp.sz=1:=id rfl
theorem yh (l:Bool) (x:UInt8):aw.val l x = .sc (.int .u8 x.toNat):=id rfl
theorem M0 (l:Bool) (x:UInt16):b9.val l x = .sc (.int .u16 x.toNat):=id rfl
theorem M3 (l:Bool) (x:UInt32):bh.val l x = .sc (.int .u32 x.toNat):=id rfl
theorem M1 (k:IntKind) (l:Bool) (x:Int):(bz k).val l x = .sc (.int k x):=id rfl
theorem It (l:Bool) (x:Bool):cp.val l x = .sc (.bool x):=id rfl
theorem Z6 (o i:Nat):idx [] o i=none:=id rfl
theorem Us {α:Type} (C:cq α) (τ:Nat→Option Nat) (l:Bool):AV.cr τ ∘ C.val l=C.val l:=by funext x;exact Hj C τ l x
theorem Nf (l:Bool) (x:ByteArray):ai.val l x = .sc (.string x):=id rfl
theorem Ap {α:Type} (C:cq α) (fr:Bool) (h:Tr ay) (a:AV) (h1:a.known=true) (h2:a.isAgg=C.agg):C.fw fr h a=C.dec fr h a.cells:=by
 unfold cq.fw;rw [h1,h2];simp
theorem P8 (fr:Bool) (h:Tr ay) (n:UInt32):bh.fw fr h (.sc (.int .u32 n.toNat))=some n:=bh.Gr fr h true n (fun _=>rfl)
theorem Re (fr:Bool) (h:Tr ay) (n:UInt16):b9.fw fr h (.sc (.int .u16 n.toNat))=some n:=b9.Gr fr h true n (fun _=>rfl)
theorem Kx (k:IntKind) (fr:Bool) (h:Tr ay) (n:Int):(bz k).fw fr h (.sc (.int k n))=some n:=(bz k).Gr fr h true n (fun _=>rfl)
theorem Iz (fr:Bool) (h:Tr ay) (b:Bool):cp.fw fr h (.sc (.bool b))=some b:=cp.Gr fr h true b (fun _=>rfl)
theorem Mg (fr:Bool) (h:Tr ay) (s:ByteArray):ai.fw fr h (.sc (.string s))=some s:=ai.Gr fr h true s (fun _=>rfl)
theorem wq {α:Type} (C:cq α) (fr:Bool) (h:Tr ay) (a:AV) (h1:a.known=true) (h2:a.isAgg=false) (h3:a.cells=[a]):(bw C).fw fr h a=gp C fr h a:=by
 rw [Ap _ _ _ _ h1 h2,h3];rfl
theorem akl {α:Type} (C:cq α) (fr:Bool) (h:Tr ay) (l:Bool) (xs:List α) (hl:(l || !fr)=true):(bw C).fw fr h (.vl l C.sz (xs.map (C.val l)))=some xs:=by
 refine (bw C).Gr fr h l xs ?_
 cases fr<;>simp_all
theorem V3 {α:Type} (C:cq α) (fr:Bool) (h:Tr ay):gp C fr h (.sc (.slice none 0 0))=some []:=id rfl
theorem qv {α:Type} (C:cq α) (fr:Bool) (h:Tr ay) (l:Bool) (xs:List α) (n:Nat) (hn:n=C.sz) (hl:(l || !fr)=true):gp C fr h (.vl l n (xs.map (C.val l)))=some xs:=by
 subst hn
 have:(bw C).fw fr h (.vl l C.sz (xs.map (C.val l)))=some xs:=akl C fr h l xs hl
 rwa [wq C fr h _ rfl rfl rfl] at this
theorem Zf {α:Type} (C:cq α) (fr:Bool) (h:Tr ay) (o off len n:Nat):gp C fr h (.sl o off len n)=bif decide (n=C.sz) then (h.get o).bind (kh C fr h off len) else none:=by
 show (bif Nat.beq n C.sz then _ else _)=_
 rw [ag3]
theorem K7 {α:Type} (C:cq α) (fr:Bool) (h:Tr ay) (off len:Nat) (cells:List AV) (k s:Nat) (e:TypeId) :
 kh C fr h off len (.row cells k s e)=bif decide (off+len * C.sz≤cells.length) && tk fr C.sz C.kd s off cells.length len e then tc C fr h len ((cells.drop off).take (len * C.sz)) else none:=by
 show (bif Nat.ble _ _ && _ then _ else _)=_
 rw [ahd]
theorem Z8 (sz kd st off len n et):tk false sz kd st off len n et=true:=id rfl
theorem ad3 {α:Type} (C:cq α) (fr:Bool) (h:Tr ay) (n:Nat) (l:List AV):tc C fr h (n+1) l=match C.dec fr h (l.take C.sz),tc C fr h n (l.drop C.sz) with|some x,some xs=>some (x::xs)|_,_=>none:=id rfl
theorem afb {α:Type} (C:cq α) (fr:Bool) (h:Tr ay) (l:List AV):tc C fr h 0 l=some []:=id rfl
theorem Lr (fr:Bool) (h:Tr ay) (n:Int) (h0 : 0≤n) (h1:n<256):aw.dec fr h [.sc (.int .u8 n)]=some (UInt8.ofNat n.toNat):=by
 show u8V (.int .u8 n)=_;simp [u8V,h0,h1]
theorem amx {α β:Type} (A:cq α) (B:cq β) (l:Bool) (p : α × β):(r2 A B).E l p = .gw [A.val l p.1,B.val l p.2]:=id rfl
theorem al7 {α β γ:Type} (A:cq α) (B:cq β) (C:cq γ) (l:Bool) (p : α × β × γ):(r3 A B C).E l p = .gw [A.val l p.1,B.val l p.2.1,C.val l p.2.2]:=id rfl
theorem amy {α:Type} (A:cq α) (l:Bool) (x : α):(r1 A).E l x=A.val l x:=id rfl
theorem Th (T:du) (g:Nat) (a b:Array Value) (args:List AV):ss T (.sc (.func (.func g) a b)) args=rr T g (a.toList.map .sc++args++b.toList.map .sc):=id rfl
theorem W9 (T:du) (g:Nat) (a b:List AV) (args:List AV):ss T (.fn (.func g) a b) args=rr T g (a++args++b):=id rfl
theorem Qc (f:Nat) (b:Bool) (m:List AV→M AV) (T:du) (args:List AV):rr ((f,b,m)::T) f args=mono (m args):=by simp [rr,du.find]
theorem Lu (f g:Nat) (b:Bool) (m:List AV→M AV) (T:du) (args:List AV) (h:(f == g)=false):rr ((f,b,m)::T) g args=rr T g args:=by
 have:f≠g:=by simpa using h
 simp [rr,du.find,nc this]
theorem Wn {α:Type} (A:AC α) (F : α→Option AV) (args:List AV) (st:St):de A F args st=match A.get .nil args with|some x=>(F x).map fun r=>(r,st)|none=>match A.get st.h args with|some x=>(match F x with|some r=>bif r.fresh then some (r,st) else some (r,{ st with h:=.nil })|none=>none)|none=>none:=id rfl
theorem ang {α β:Type} (A:cq α) (B:cq β) (fr:Bool) (h:Tr ay) (a b:AV):(r2 A B).get fr h (.gw [a,b])=match A.fw fr h a,B.fw fr h b with|some x,some y=>some (x,y)|_,_=>none:=id rfl
theorem anc {α β γ:Type} (A:cq α) (B:cq β) (C:cq γ) (fr:Bool) (h:Tr ay) (a b c:AV):(r3 A B C).get fr h (.gw [a,b,c])=match A.fw fr h a,B.fw fr h b,C.fw fr h c with|some x,some y,some z=>some (x,y,z)|_,_,_=>none:=id rfl
theorem amp (h:Tr ay):a0.get h []=some ():=id rfl
theorem ams {α β:Type} (C:cq α) (R:AC β) (h:Tr ay) (a:AV) (r:List AV):(aC C R).get h (a::r)=match C.fw false h a,R.get h r with|some x,some y=>some (x,y)|_,_=>none:=id rfl
theorem aml {α:Type} (A:cq α) (fr:Bool) (h:Tr ay) (a:AV):(r1 A).get fr h a=A.fw fr h a:=id rfl
end cods
section
variable (P : Program)
theorem Qf (pl:Nat→Option (Nat × Nat)) (cells:List AV):ru pl cells []=some cells:=id rfl
theorem Mw (pl:Nat→Option (Nat × Nat)) (cells:List AV) (i:Nat) (v:AV) (rest:List (Nat × AV)):ru pl cells ((i,v)::rest)=match pl i with
 |none=>none
 |some (off,size)=>bif !v.known || !(Nat.beq v.cells.length size) || !(Nat.ble (off+size) cells.length) then none else ru pl (cells.take off++v.cells++cells.drop (off+size)) rest:=id rfl
def yn (t:TypeId):Option (List AV × List (Nat × Nat)):=
 match ff P t,P.underlying t with
 |some z,some (.struct fields)=>(Cr P fields).map fun pl=>(z.cells.toList.map .sc,pl)
 |_,_=>none
theorem Li (t:TypeId) (ps:List (Nat × AV)):uu P t ps=match yn P t with
 |some (z,pl)=>.of ((ru (fun i=>pl[i]?) z ps).map .agg)
 |none=>uu P t ps:=by
 cases hb:yn P t with
 |none=>rfl
 |some q=>
  obtain ⟨z,pl⟩:=q
  simp only [yn] at hb
  split at hb
  ·rename_i z' fs hz hu
   cases hp:Cr P fs with
   |none=>simp [hp] at hb
   |some pl'=>
    simp [hp] at hb
    obtain ⟨rfl,rfl⟩:=hb
    simp [uu,hz,hu,hp]
  ·cases hb
def u0 (t:TypeId):Option (TypeId × Nat × List AV):=
 match mc P t with
 |none=>none
 |some e=>
  match c8 P e,ff P e with
  |some sz,some z=>bif Nat.beq z.cells.size sz then some (e,sz,z.cells.toList.map .sc) else none
  |_,_=>none
theorem By (t:TypeId) (len:Nat) (ps:List (Nat × AV)):l7 P t len ps=match u0 P t with
 |some (e,sz,z)=>
  match ru (fun i=>some (i * sz,sz)) (List.replicate len z).flatten ps with
  |some cells=>bif Nat.ble (len * sz) 16777216 && Nat.ble len 16777216 then qa e sz len cells else .fail
  |none=>.fail
 |none=>l7 P t len ps:=by
 cases hb:u0 P t with
 |none=>rfl
 |some q=>
  obtain ⟨e,sz,z⟩:=q
  simp only [u0] at hb
  split at hb
  ·cases hb
  ·rename_i e' he
   split at hb
   ·rename_i sz' z' hs hz
    cases hq:Nat.beq z'.cells.size sz' with
    |false=>simp [hq] at hb
    |true=>
     simp [hq] at hb
     obtain ⟨rfl,rfl,rfl⟩:=hb
     simp only [l7,he,hs,hz,hq,Bool.and_true]
     rfl
   ·cases hb
end
section ranges
variable (P : Program) (T : du) (l ar : Nat) (R : Ez) (Q : QI) (pe : Option Ex) (L : SL) (st : St)
end ranges
section yields
variable {lp : Nat} {L : SL} {d : Option Tmp} {ty : TypeId} {pos : String} {af : Array Edge} {gd : Option (Nat × Bool)}
end yields
end
end Go.Vm
namespace Go.Vm
variable [TK]
noncomputable section
abbrev Name:=List ByteArray
structure au where
 names:List Name
 nums:List UInt32
 texts:List ByteArray
 raw:List UInt8
def mkD (a:List Name) (b:List UInt32) (c:List ByteArray) (e:List UInt8):au:=⟨a,b,c,e⟩
theorem Zc (d:au):mkD d.names d.nums d.texts d.raw=d:=id rfl
noncomputable def aq:cq Name:=bw ai
noncomputable def ag:cq au:=z5 (js (bw aq) (js (bw bh) (js aq (bw aw)))) (fun d=>(d.names,d.nums,d.texts,d.raw)) (fun p=>⟨p.1,p.2.1,p.2.2.1,p.2.2.2⟩) (fun _=>rfl) (fun _=>rfl)
theorem cx (l:Bool) (n:Name):aq.val l n = .vl l 1 (n.map (ai.val l)):=id rfl
theorem u2:aq.sz=1:=id rfl
theorem Er:ag.sz=4:=id rfl
theorem dy (l:Bool) (d:au):ag.val l d = .agg [.vl l 1 (d.names.map (aq.val l)),.vl l 1 (d.nums.map (bh.val l)),.vl l 1 (d.texts.map (ai.val l)),.vl l 1 (d.raw.map (aw.val l))]:=id rfl
theorem B8 (fr:Bool) (h:Tr ay) (x1 x2 x3 x4:AV) :
 ag.fw fr h (.agg [x1,x2,x3,x4])=match gp aq fr h x1,gp bh fr h x2,gp ai fr h x3,gp aw fr h x4 with
  |some a,some b,some c,some e=>some (mkD a b c e)
  |_,_,_,_=>none:=by
 rw [Ap _ _ _ _ rfl rfl]
 have h1:ag.dec fr h (AV.agg [x1,x2,x3,x4]).cells=Option.map (fun p=>(⟨p.1,p.2.1,p.2.2.1,p.2.2.2⟩:au)) ((js (bw aq) (js (bw bh) (js aq (bw aw)))).dec fr h [x1,x2,x3,x4]):=rfl
 have d2:∀ {α β:Type} (A:cq α) (B:cq β) (l:List AV),(js A B).dec fr h l=match A.dec fr h (l.take A.sz),B.dec fr h (l.drop A.sz) with|some x,some y=>some (x,y)|_,_=>none:=fun _ _ _=>rfl
 have l1:∀ {α:Type} (C:cq α) (x:AV),(bw C).dec fr h [x]=gp C fr h x:=fun _ _=>rfl
 have n1:∀ x,aq.dec fr h [x]=gp ai fr h x:=fun _=>rfl
 rw [h1]
 simp only [d2,C1,u2,List.take_succ_cons,List.take_zero,List.drop_succ_cons,List.drop_zero,l1,n1]
 cases gp aq fr h x1<;>cases gp bh fr h x2<;>cases gp ai fr h x3<;>cases gp aw fr h x4<;>rfl
theorem Hi {α:Type} (C:cq α) (fr:Bool) (h:Tr ay) (l:Bool) (n:Nat) (es:List AV):(bw C).fw fr h (.vl l n es)=gp C fr h (.vl l n es):=wq C fr h _ rfl rfl rfl
theorem Hb {α:Type} (C:cq α) (fr:Bool) (h:Tr ay) (o off len n:Nat):(bw C).fw fr h (.sl o off len n)=gp C fr h (.sl o off len n):=wq C fr h _ rfl rfl rfl
theorem Ew {α:Type} (C:cq α) (fr:Bool) (h:Tr ay):(bw C).fw fr h (.sc (.slice none 0 0))=some []:=by
 rw [wq C fr h _ rfl rfl rfl];rfl
theorem Bt (fr:Bool) (h:Tr ay) (l:Bool) (n:Nat) (es:List AV):aq.fw fr h (.vl l n es)=gp ai fr h (.vl l n es):=wq ai fr h _ rfl rfl rfl
theorem Bh (fr:Bool) (h:Tr ay) (o off len n:Nat):aq.fw fr h (.sl o off len n)=gp ai fr h (.sl o off len n):=wq ai fr h _ rfl rfl rfl
theorem Gd (l:List UInt8):l.map An=l.map (aw.val false):=id rfl
theorem F5 {α:Type} (C:cq α) (b:Bool) (l:List α):AV.names.go (l.map (C.val b))=[]:=Cl (fun c hc=>by
 obtain ⟨x,_,rfl⟩:=List.mem_map.1 hc
 exact Fw C b x)
theorem xo:∀ (l:List UInt8) (b:Bool),bytesOf (l.map (aw.val b))=some l
 | [],_=>rfl
 |c::l,b=>by
  rw [List.map_cons,yh,bytesOf,xo l b]
  simp
end
end Go.Vm
section
namespace Go.Vm.Cx
open Go.Vm
variable [TK]
noncomputable section
theorem ye {P:Program} (w:World):∀ (ns:List Int) (a:Addr) (i:Nat) (acc:ByteArray),(∀ (j:Nat) x,ns[j]? = some x→(load (a.add (i+j))).run P w = .ok (.int .u8 x) w) →
 (Extern.Bytes.loadBytes (a.add i) ns.length acc).run P w = .ok ⟨acc.data++(ns.map fun n=>UInt8.ofNat n.toNat).toArray⟩ w
 | [],a,i,acc,_=>by simp [Extern.Bytes.loadBytes]
 |x::l,a,i,acc,h=>by
  have h0:=h 0 x rfl
  rw [Nat.add_zero] at h0
  have e:(a.add i).add 1=a.add (i+1):=by
   unfold Addr.add
   by_cases hj:i=0
   ·subst hj;simp
   ·simp [hj];omega
  have ih:=ye (P:=P) w l a (i+1) (acc.push x.toNat.toUInt8) (fun j y hy=>by
   have:=h (j+1) y (by simpa using hy)
   rw [show i+1+j=i+(j+1) from by omega];exact this)
  simp only [List.length_cons,Extern.Bytes.loadBytes,Sem.run_bind,h0,Result.andThen]
  rw [e,ih]
  congr 1
  apply ByteArray.ext
  simp [ByteArray.push,Nat.toUInt8]
theorem Ny {l:List Int} {l':List Value} (h:l'=l.map (Value.int .u8)) (j:Nat) (x:Int) (hx:l[j]? = some x):l'[j]? = some (.int .u8 x):=by rw [h,List.getElem?_map,hx];rfl
theorem ya {P:Program} {g st dz w} {a:AV} {v:Value} {l:List AV} {bs:List UInt8} (hok:Ok g st.h w) (hr:Rel g w a v) (h:cellsIn 1 a st=some (l,dz)) (hb:bytesOf l=some bs) :
 (Extern.Bytes.bytesOf v).run P w = .ok ⟨bs.toArray⟩ w:=by
 obtain ⟨_,_,n,news,hsrc,hrl⟩:=so (P:=P) hok hr h
 obtain ⟨ns,e1,e2⟩:=zm _ _ _ hrl hb
 obtain ⟨r1,r2⟩:=hsrc.run w rfl
 cases v with
 |slice p len cap=>
  have hn:n=len:=by simp [Builtin.lenOf] at r1;exact r1.symm
  subst hn
  cases p with
  |none=>
   have:news=[]:=by simpa [Builtin.firstCells] using r2
   subst this
   have:ns=[]:=by simpa using e1.symm
   subst this
   subst e2
   rfl
  |some a=>
   simp only [Builtin.firstCells,Nat.mul_one] at r2
   unfold loadCells at r2
   obtain ⟨l',q1,q2,q3⟩:=loadCellsFrom_ok a n 0 #[] _ _ r2
   have hl':l'=news:=by simpa using q2.symm
   subst hl'
   have hlen:ns.length=n:=by rw [← q1,e1,List.length_map]
   have:=ye (P:=P) w ns a 0 .empty (fun j x hx=>by
    exact q3 j _ (Ny e1 j x hx))
   rw [hlen] at this
   have e0:a.add 0=a:=by simp [Addr.add]
   rw [e0] at this
   show (Extern.Bytes.loadBytes a n .empty).run P w=_
   rw [this,e2]
   congr 2
   simp [ByteArray.empty,ByteArray.emptyWithCapacity]
   rfl
 |string s=>
  have hn:n=s.size:=by simp [Builtin.lenOf] at r1;exact r1.symm
  subst hn
  simp only [Builtin.firstCells,Sem.run_pure,Result.ok.injEq,and_true] at r2
  have h1:=congrArg Array.toList r2
  rw [e1] at h1
  show Result.ok s w=_
  congr 1
  apply ByteArray.ext
  apply Array.ext'
  rw [e2]
  have h2:=congrArg (List.map fun v:Value=>match v with|.int _ n=>UInt8.ofNat n.toNat|_=>0) h1
  simp only [List.map_map,Array.toList_map] at h2
  have h3:(s.extract 0 s.size).data.toList=s.data.toList:=by simp
  rw [h3] at h2
  have h4:(List.map ((fun v:Value=>match v with|.int _ n=>UInt8.ofNat n.toNat|_=>0) ∘ fun b:UInt8=>Value.int .u8 (b.toNat:Int)) s.data.toList)=s.data.toList:=by
   rw [show ((fun v:Value=>match v with|.int _ n=>UInt8.ofNat n.toNat|_=>0) ∘ fun b:UInt8=>Value.int .u8 (b.toNat:Int))=id from by funext b;simp]
   simp
  rw [h4] at h2
  rw [h2]
  simp
 |_=>simp [Builtin.lenOf,stuck] at r1
def aoo (args:List AV):M AV:=
 match args with
 | [a]=>.pure a
 |_=>.fail
def lh (args:List AV):M AV:=
 match args with
 | [a,b]=>(cellsIn 1 a).bind fun x=>(cellsIn 1 b).bind fun y=>
  match bytesOf x with
  |some x=>
   match bytesOf y with
   |some y=>.pure (.sc (goInt (Lib.compareBytes x y)))
   |none=>.fail
  |none=>.fail
 |_=>.fail
def dj {α:Type} (m:M α):Prop:=∀ st v dz,m st=some (v,dz)→dz.h=st.h∧dz.nx=st.nx
theorem dj.pure {α:Type} (a : α):dj (M.pure a):=fun st v dz h=>by cases h;exact ⟨rfl,rfl⟩
theorem dj.fail {α:Type}:dj (M.fail:M α):=fun st v dz h=>by cases h
theorem dj.bind {α β:Type} {m:M α} {f : α→M β} (hm:dj m) (h:∀ x,dj (f x)):dj (m.bind f):=fun st v dz hb=>by
 obtain ⟨x,s1,h1,h2⟩:=bind_some hb
 have h3:=hm _ _ _ h1
 have h4:=h x _ _ _ h2
 exact ⟨h4.1.trans h3.1,h4.2.trans h3.2⟩
theorem dj.dg (id:Nat):dj (Vm.dg id):=fun _st _v _st1 h=>(fi h).2
theorem dj.cond {α:Type} {b:Bool} {x y:M α} (hx:dj x) (hy:dj y):dj (bif b then x else y):=by cases b<;>assumption
theorem dj.cellsIn (sz:Nat) (v:AV):dj (Vm.cellsIn sz v):=by
 unfold Vm.cellsIn Ah
 repeat' (first|exact dj.pure _|exact dj.fail|apply dj.cond|(refine dj.bind (dj.dg _) fun x=>?_)|split)
theorem xf (args:List AV):dj (lh args):=by
 unfold lh;split
 ·exact dj.bind (dj.cellsIn _ _) fun x=>dj.bind (dj.cellsIn _ _) fun y=>by
   split
   ·split
    ·exact dj.pure _
    ·exact dj.fail
   ·exact dj.fail
 ·exact dj.fail
theorem F7 {P:Program} {f:Nat} {fn:Func} (hf:P.funcs[f]? = some fn) (h1:(fn.name == "runtime.NumGoroutine")=false) (h2:fn.body.isNone=true) (h3:Extern.findNext fn=none) (h4:Extern.find fn=some Extern.BytealgCompare.compare) (args:List AV) :
 Bu P f args (lh args):=by
 intro g st w vs r st' hok hfree hrel hm
 refine .inl ?_
 have hst:=xf _ _ _ _ hm
 unfold lh at hm
 split at hm
 ·rename_i a c
  obtain ⟨x,s1,e1,hm⟩:=bind_some hm
  obtain ⟨y,s2,e2,hm⟩:=bind_some hm
  cases hx:bytesOf x with
  |none=>rw [hx] at hm;cases hm
  |some bx=>
  cases hy:bytesOf y with
  |none=>rw [hx,hy] at hm;cases hm
  |some yb=>
  rw [hx,hy] at hm
  cases hm
  have hh:=dj.cellsIn _ _ _ _ _ e1
  match vs,hrel with
  | [v,u],hrel=>
   have r1:=ya (P:=P) hok hrel.head e1 hx
   have r2:=ya (P:=P) (st:=s1) (by rw [hh.1];exact hok) hrel.tail.head e2 hy
   refine ⟨goInt (Lib.compareBytes bx yb),w,g,?_,?_,?_,.sc _⟩
   ·rw [run_callFunc_extern hf h1 h2 h3 h4]
    have:(Extern.BytealgCompare.compare #[v,u]).run P w = .ok (goInt (Lib.compareBytes bx yb)) w:=by
     change Sem.run P (do pure (goInt (Extern.BytealgCompare.cmp (← Extern.Bytes.bytesOf v) (← Extern.Bytes.bytesOf u)))) w=_
     simp only [Sem.run_bind,r1,r2,Result.andThen,Sem.run_pure]
     rw [Lib.cmp_eq]
    show ((Extern.BytealgCompare.compare #[v,u]).run P w).andThen _=_
    rw [this]
    rfl
   ·rw [hst.1,hst.2];exact .refl _ _ _ _ _
   ·rw [hst.1];exact hok
  | [],hrel=>have:=hrel.1;simp at this
  | [v],hrel=>have:=hrel.1;simp at this
  |_::_::_::_,hrel=>have:=hrel.1;simp at this
 ·cases hm
end
end Go.Vm.Cx
end
section
set_option linter.unnecessarySimpa false
namespace Go.Vm
variable [TK]
noncomputable section
def roT (o:Option (Bool × (List AV→M AV))):Bool:=match o with|some (b,_)=>b|none=>false
theorem ajg (b m):roT (some (b,m))=b:=id rfl
theorem ew {o:Oper} {L:SL} {x:Operand} (h:x ∈ o.op.operands):da o L x=dr L x:=by
 cases x with
 |tmp t=>
  show (bif o.op.operands.any (fun x=>match x with|.tmp u=>Nat.beq u t|_=>false) then lk L t else .bad)=lk L t
  have:o.op.operands.any (fun x=>match x with|.tmp u=>Nat.beq u t|_=>false)=true:=by
   rw [Array.any_eq_true']
   exact ⟨_,h,by simp⟩
  rw [this];rfl
 |const v=>rfl
 |global g=>rfl
 |func f=>rfl
theorem il {o:Oper} {L:SL} {l:List Operand} (h:∀ x ∈ l,x ∈ o.op.operands):l.map (da o L)=l.map (dr L):=List.map_congr_left fun x hx=>ew (h x hx)
theorem I4 {o:Oper} {L:SL} {l:List (Nat × Operand)} (h:∀ x ∈ l,x.2 ∈ o.op.operands):l.map (fun p=>(p.1,da o L p.2))=l.map (fun p=>(p.1,dr L p.2)):=List.map_congr_left fun x hx=>by rw [ew (h x hx)]
def fm (ro:Bool) (F:List Nat) (o:Oper) (recs:List Rec) (K:List Rec→SL→St→Prop) (L:SL) (st:St) (m:M AV):Prop:=Aq ro F o recs K L st (m { h:=nl st.h F,nx:=st.nx,rl:=[],wl:=[] })
theorem Qs (ro F o recs K L st m):fm ro F o recs K L st m=Aq ro F o recs K L st (m { h:=nl st.h F,nx:=st.nx,rl:=[],wl:=[] }):=id rfl
section ops
variable (P : Program) (T : du) (L : SL) (st : St) (recs : List Rec) (K : List Rec → SL → St → Prop) (d : Option Tmp) (ty : TypeId) (pos : String) (af : Array Edge) (gd : Option (Nat × Bool))
theorem Tl (x):gn P T ⟨d,.move x,ty,pos,af,gd⟩ recs K L st=fm (true) ([]) ⟨d,.move x,ty,pos,af,gd⟩ recs K L st (mono (M.pure (dr L x))):=by
 unfold gn ku l6 fm
 simp only [jk,cond_true]
 have hm:∀ y,y ∈ ([x]:List Operand)→da ⟨d,.move x,ty,pos,af,gd⟩ L y=dr L y:=fun y hy=>ew (by simpa [Op.operands,Call.operands] using hy)
 have hmap:([x]:List Operand).map (da ⟨d,.move x,ty,pos,af,gd⟩ L)=([x]:List Operand).map (dr L):=il (fun y hy=>by simpa [Op.operands,Call.operands] using hy)
 have ho:(⟨d,.move x,ty,pos,af,gd⟩:Oper).op.operands.toList=[x]:=by simp [Op.operands,Call.operands]
 rw [Ep,hm x (by simp)]
 rfl
theorem K8 (x):gn P T ⟨d,.assign x,ty,pos,af,gd⟩ recs K L st=fm (true) ([]) ⟨d,.assign x,ty,pos,af,gd⟩ recs K L st (mono (M.pure (dr L x))):=by
 unfold gn ku l6 fm
 simp only [jk,cond_true]
 have hm:∀ y,y ∈ ([x]:List Operand)→da ⟨d,.assign x,ty,pos,af,gd⟩ L y=dr L y:=fun y hy=>ew (by simpa [Op.operands,Call.operands] using hy)
 have hmap:([x]:List Operand).map (da ⟨d,.assign x,ty,pos,af,gd⟩ L)=([x]:List Operand).map (dr L):=il (fun y hy=>by simpa [Op.operands,Call.operands] using hy)
 have ho:(⟨d,.assign x,ty,pos,af,gd⟩:Oper).op.operands.toList=[x]:=by simp [Op.operands,Call.operands]
 rw [A1,hm x (by simp)]
 rfl
theorem Vq (t a):gn P T ⟨d,.load t a,ty,pos,af,gd⟩ recs K L st=fm (true) ((dr L a).names) ⟨d,.load t a,ty,pos,af,gd⟩ recs K L st (mono (og P t (dr L a))):=by
 unfold gn ku l6 fm
 simp only [jk,cond_false]
 have hm:∀ y,y ∈ ([a]:List Operand)→da ⟨d,.load t a,ty,pos,af,gd⟩ L y=dr L y:=fun y hy=>ew (by simpa [Op.operands,Call.operands] using hy)
 have hmap:([a]:List Operand).map (da ⟨d,.load t a,ty,pos,af,gd⟩ L)=([a]:List Operand).map (dr L):=il (fun y hy=>by simpa [Op.operands,Call.operands] using hy)
 have ho:(⟨d,.load t a,ty,pos,af,gd⟩:Oper).op.operands.toList=[a]:=by simp [Op.operands,Call.operands]
 rw [Dm,hm a (by simp)]
 rfl
theorem E1 (s x f):gn P T ⟨d,.fieldAddr s x f,ty,pos,af,gd⟩ recs K L st=fm (true) ([]) ⟨d,.fieldAddr s x f,ty,pos,af,gd⟩ recs K L st (mono (ou P s (dr L x) f)):=by
 unfold gn ku l6 fm
 simp only [jk,cond_true]
 have hm:∀ y,y ∈ ([x]:List Operand)→da ⟨d,.fieldAddr s x f,ty,pos,af,gd⟩ L y=dr L y:=fun y hy=>ew (by simpa [Op.operands,Call.operands] using hy)
 have hmap:([x]:List Operand).map (da ⟨d,.fieldAddr s x f,ty,pos,af,gd⟩ L)=([x]:List Operand).map (dr L):=il (fun y hy=>by simpa [Op.operands,Call.operands] using hy)
 have ho:(⟨d,.fieldAddr s x f,ty,pos,af,gd⟩:Oper).op.operands.toList=[x]:=by simp [Op.operands,Call.operands]
 rw [vu,hm x (by simp)]
 rfl
theorem Q3 (op t x y u):gn P T ⟨d,.binOp op t x y u,ty,pos,af,gd⟩ recs K L st=fm (true) ([]) ⟨d,.binOp op t x y u,ty,pos,af,gd⟩ recs K L st (mono (Dt P (da ⟨d,.binOp op t x y u,ty,pos,af,gd⟩ L) ⟨d,.binOp op t x y u,ty,pos,af,gd⟩ op t x y)):=by
 unfold gn ku l6 fm
 simp only [jk,cond_true]
 have hm:∀ y,y ∈ ([x,y]:List Operand)→da ⟨d,.binOp op t x y u,ty,pos,af,gd⟩ L y=dr L y:=fun y hy=>ew (by simpa [Op.operands,Call.operands] using hy)
 have hmap:([x,y]:List Operand).map (da ⟨d,.binOp op t x y u,ty,pos,af,gd⟩ L)=([x,y]:List Operand).map (dr L):=il (fun y hy=>by simpa [Op.operands,Call.operands] using hy)
 have ho:(⟨d,.binOp op t x y u,ty,pos,af,gd⟩:Oper).op.operands.toList=[x,y]:=by simp [Op.operands,Call.operands]
 rfl
theorem Wx (c a b):gn P T ⟨d,.pick c a b,ty,pos,af,gd⟩ recs K L st=fm (true) ([]) ⟨d,.pick c a b,ty,pos,af,gd⟩ recs K L st (mono (z8 (dr L c) (dr L a) (dr L b))):=by
 unfold gn ku l6 fm
 simp only [jk,cond_true]
 have hm:∀ y,y ∈ ([c,a,b]:List Operand)→da ⟨d,.pick c a b,ty,pos,af,gd⟩ L y=dr L y:=fun y hy=>ew (by simpa [Op.operands,Call.operands] using hy)
 have hmap:([c,a,b]:List Operand).map (da ⟨d,.pick c a b,ty,pos,af,gd⟩ L)=([c,a,b]:List Operand).map (dr L):=il (fun y hy=>by simpa [Op.operands,Call.operands] using hy)
 have ho:(⟨d,.pick c a b,ty,pos,af,gd⟩:Oper).op.operands.toList=[c,a,b]:=by simp [Op.operands,Call.operands]
 rw [Ee,hm c (by simp),hm a (by simp),hm b (by simp)]
 rfl
theorem Qy (t a x):gn P T ⟨d,.store t a x,ty,pos,af,gd⟩ recs K L st=fm (false) ((dr L a).names) ⟨d,.store t a x,ty,pos,af,gd⟩ recs K L st (mono (s7 P t (dr L a) (dr L x))):=by
 unfold gn ku l6 fm
 simp only [jk,cond_false]
 have hm:∀ y,y ∈ ([a,x]:List Operand)→da ⟨d,.store t a x,ty,pos,af,gd⟩ L y=dr L y:=fun y hy=>ew (by simpa [Op.operands,Call.operands] using hy)
 have hmap:([a,x]:List Operand).map (da ⟨d,.store t a x,ty,pos,af,gd⟩ L)=([a,x]:List Operand).map (dr L):=il (fun y hy=>by simpa [Op.operands,Call.operands] using hy)
 have ho:(⟨d,.store t a x,ty,pos,af,gd⟩:Oper).op.operands.toList=[a,x]:=by simp [Op.operands,Call.operands]
 rw [Cg,hm a (by simp),hm x (by simp)]
 rfl
theorem E6 (t x i):gn P T ⟨d,.indexAddr t x i,ty,pos,af,gd⟩ recs K L st=fm (true) ([]) ⟨d,.indexAddr t x i,ty,pos,af,gd⟩ recs K L st (mono (ot P t (dr L x) (dr L i))):=by
 unfold gn ku l6 fm
 simp only [jk,cond_true]
 have hm:∀ y,y ∈ ([x,i]:List Operand)→da ⟨d,.indexAddr t x i,ty,pos,af,gd⟩ L y=dr L y:=fun y hy=>ew (by simpa [Op.operands,Call.operands] using hy)
 have hmap:([x,i]:List Operand).map (da ⟨d,.indexAddr t x i,ty,pos,af,gd⟩ L)=([x,i]:List Operand).map (dr L):=il (fun y hy=>by simpa [Op.operands,Call.operands] using hy)
 have ho:(⟨d,.indexAddr t x i,ty,pos,af,gd⟩:Oper).op.operands.toList=[x,i]:=by simp [Op.operands,Call.operands]
 rw [u5,hm x (by simp),hm i (by simp)]
 rfl
theorem Pz (t):gn P T ⟨d,.alloc t,ty,pos,af,gd⟩ recs K L st=fm (true) (reach st.h ef [] []) ⟨d,.alloc t,ty,pos,af,gd⟩ recs K L st (mono (wm P t)):=by
 unfold gn ku l6 fm
 simp only [jk,cond_false]
 have hm:∀ y,y ∈ ([]:List Operand)→da ⟨d,.alloc t,ty,pos,af,gd⟩ L y=dr L y:=fun y hy=>ew (by simpa [Op.operands,Call.operands] using hy)
 have hmap:([]:List Operand).map (da ⟨d,.alloc t,ty,pos,af,gd⟩ L)=([]:List Operand).map (dr L):=il (fun y hy=>by simpa [Op.operands,Call.operands] using hy)
 have ho:(⟨d,.alloc t,ty,pos,af,gd⟩:Oper).op.operands.toList=[]:=by simp [Op.operands,Call.operands]
 rw [ho,hmap]
 rfl
theorem Rk (t ps):gn P T ⟨d,.build t ps,ty,pos,af,gd⟩ recs K L st=fm (true) (reach st.h ef (AV.names.go ((ps.toList.map (·.2)).map (dr L))) []) ⟨d,.build t ps,ty,pos,af,gd⟩ recs K L st (mono (uu P t (ps.toList.map fun p=>(p.1,dr L p.2)))):=by
 unfold gn ku l6 fm
 simp only [jk,cond_false]
 have hm:∀ y,y ∈ ((ps.toList.map (·.2)):List Operand)→da ⟨d,.build t ps,ty,pos,af,gd⟩ L y=dr L y:=fun y hy=>ew (by simpa [Op.operands,Call.operands] using hy)
 have hmap:((ps.toList.map (·.2)):List Operand).map (da ⟨d,.build t ps,ty,pos,af,gd⟩ L)=((ps.toList.map (·.2)):List Operand).map (dr L):=il (fun y hy=>by simpa [Op.operands,Call.operands] using hy)
 have ho:(⟨d,.build t ps,ty,pos,af,gd⟩:Oper).op.operands.toList=(ps.toList.map (·.2)):=by simp [Op.operands,Call.operands]
 rw [ho,hmap]
 rw [B7,I4 (fun x hx=>by simp [Op.operands];exact ⟨_,by simpa using hx⟩)]
 rfl
theorem C6 (t n ps):gn P T ⟨d,.buildSlice t n ps,ty,pos,af,gd⟩ recs K L st=fm (true) (reach st.h ef (AV.names.go ((ps.toList.map (·.2)).map (dr L))) []) ⟨d,.buildSlice t n ps,ty,pos,af,gd⟩ recs K L st (mono (l7 P t n (ps.toList.map fun p=>(p.1,dr L p.2)))):=by
 unfold gn ku l6 fm
 simp only [jk,cond_false]
 have hm:∀ y,y ∈ ((ps.toList.map (·.2)):List Operand)→da ⟨d,.buildSlice t n ps,ty,pos,af,gd⟩ L y=dr L y:=fun y hy=>ew (by simpa [Op.operands,Call.operands] using hy)
 have hmap:((ps.toList.map (·.2)):List Operand).map (da ⟨d,.buildSlice t n ps,ty,pos,af,gd⟩ L)=((ps.toList.map (·.2)):List Operand).map (dr L):=il (fun y hy=>by simpa [Op.operands,Call.operands] using hy)
 have ho:(⟨d,.buildSlice t n ps,ty,pos,af,gd⟩:Oper).op.operands.toList=(ps.toList.map (·.2)):=by simp [Op.operands,Call.operands]
 rw [ho,hmap]
 rw [tz,I4 (fun x hx=>by simp [Op.operands];exact ⟨_,by simpa using hx⟩)]
 rfl
theorem I6 (s u x):gn P T ⟨d,.convert s u x,ty,pos,af,gd⟩ recs K L st=fm (true) (reach st.h ef (AV.names.go ([x].map (dr L))) []) ⟨d,.convert s u x,ty,pos,af,gd⟩ recs K L st (mono (sf P (da ⟨d,.convert s u x,ty,pos,af,gd⟩ L) ⟨d,.convert s u x,ty,pos,af,gd⟩ s u (dr L x))):=by
 unfold gn ku l6 fm
 simp only [jk,cond_false]
 have hm:∀ y,y ∈ ([x]:List Operand)→da ⟨d,.convert s u x,ty,pos,af,gd⟩ L y=dr L y:=fun y hy=>ew (by simpa [Op.operands,Call.operands] using hy)
 have hmap:([x]:List Operand).map (da ⟨d,.convert s u x,ty,pos,af,gd⟩ L)=([x]:List Operand).map (dr L):=il (fun y hy=>by simpa [Op.operands,Call.operands] using hy)
 have ho:(⟨d,.convert s u x,ty,pos,af,gd⟩:Oper).op.operands.toList=[x]:=by simp [Op.operands,Call.operands]
 rw [ho,hmap]
 rw [za,hm x (by simp)]
 rfl
theorem Rc (t x l h m):gn P T ⟨d,.slice t x l h m,ty,pos,af,gd⟩ recs K L st=fm (true) (reach st.h ef (AV.names.go ((#[x]++l.toArray++h.toArray++m.toArray).toList.map (dr L))) []) ⟨d,.slice t x l h m,ty,pos,af,gd⟩ recs K L st (mono (wy P (da ⟨d,.slice t x l h m,ty,pos,af,gd⟩ L) ⟨d,.slice t x l h m,ty,pos,af,gd⟩ t x l h m)):=by
 unfold gn ku l6 fm
 simp only [jk,cond_false]
 have hm:∀ y,y ∈ ((#[x]++l.toArray++h.toArray++m.toArray).toList:List Operand)→da ⟨d,.slice t x l h m,ty,pos,af,gd⟩ L y=dr L y:=fun y hy=>ew (by simpa [Op.operands,Call.operands] using hy)
 have hmap:((#[x]++l.toArray++h.toArray++m.toArray).toList:List Operand).map (da ⟨d,.slice t x l h m,ty,pos,af,gd⟩ L)=((#[x]++l.toArray++h.toArray++m.toArray).toList:List Operand).map (dr L):=il (fun y hy=>by simpa [Op.operands,Call.operands] using hy)
 have ho:(⟨d,.slice t x l h m,ty,pos,af,gd⟩:Oper).op.operands.toList=(#[x]++l.toArray++h.toArray++m.toArray).toList:=by simp [Op.operands,Call.operands]
 rw [ho,hmap]
 rfl
theorem agv (op t x):gn P T ⟨d,.unOp op t x,ty,pos,af,gd⟩ recs K L st=fm (true) (reach st.h ef (AV.names.go ([x].map (dr L))) []) ⟨d,.unOp op t x,ty,pos,af,gd⟩ recs K L st (mono (ju P (da ⟨d,.unOp op t x,ty,pos,af,gd⟩ L) ⟨d,.unOp op t x,ty,pos,af,gd⟩ [x])):=by
 unfold gn ku l6 fm
 simp only [jk,cond_false]
 have hm:∀ y,y ∈ ([x]:List Operand)→da ⟨d,.unOp op t x,ty,pos,af,gd⟩ L y=dr L y:=fun y hy=>ew (by simpa [Op.operands,Call.operands] using hy)
 have hmap:([x]:List Operand).map (da ⟨d,.unOp op t x,ty,pos,af,gd⟩ L)=([x]:List Operand).map (dr L):=il (fun y hy=>by simpa [Op.operands,Call.operands] using hy)
 have ho:(⟨d,.unOp op t x,ty,pos,af,gd⟩:Oper).op.operands.toList=[x]:=by simp [Op.operands,Call.operands]
 rw [ho,hmap]
 rfl
theorem Ng (s x ts):gn P T ⟨d,.call { callee:=.builtin .append,args:=#[s,x],argTypes:=ts },ty,pos,af,gd⟩ recs K L st=fm (false) (reach st.h ef (AV.names.go ([s,x].map (dr L))) []) ⟨d,.call { callee:=.builtin .append,args:=#[s,x],argTypes:=ts },ty,pos,af,gd⟩ recs K L st (mono (ni P ts[0]? ((ts[1]?).bind P.underlying) (dr L s) (dr L x))):=by
 unfold gn ku l6 fm
 simp only [jk,cond_false]
 have hm:∀ y,y ∈ ([s,x]:List Operand)→da ⟨d,.call { callee:=.builtin .append,args:=#[s,x],argTypes:=ts },ty,pos,af,gd⟩ L y=dr L y:=fun y hy=>ew (by simpa [Op.operands,Call.operands] using hy)
 have hmap:([s,x]:List Operand).map (da ⟨d,.call { callee:=.builtin .append,args:=#[s,x],argTypes:=ts },ty,pos,af,gd⟩ L)=([s,x]:List Operand).map (dr L):=il (fun y hy=>by simpa [Op.operands,Call.operands] using hy)
 have ho:(⟨d,.call { callee:=.builtin .append,args:=#[s,x],argTypes:=ts },ty,pos,af,gd⟩:Oper).op.operands.toList=[s,x]:=by simp [Op.operands,Call.operands]
 rw [ho,hmap]
 rw [A0,hm s (by simp),hm x (by simp)]
 rfl
theorem Ti (f args ts):gn P T ⟨d,.call { callee:=.value f,args,argTypes:=ts },ty,pos,af,gd⟩ recs K L st=fm (l0 T (dr L) ⟨d,.call { callee:=.value f,args,argTypes:=ts },ty,pos,af,gd⟩) (reach st.h ef (AV.names.go ((f::args.toList).map (dr L))) []) ⟨d,.call { callee:=.value f,args,argTypes:=ts },ty,pos,af,gd⟩ recs K L st (ss T (dr L f) (args.toList.map (dr L))):=by
 unfold gn ku l6 fm
 simp only [jk,cond_false]
 have h1:⟨d,.call { callee:=.value f,args,argTypes:=ts },ty,pos,af,gd⟩=(⟨d,.call { callee:=.value f,args,argTypes:=ts },ty,pos,af,gd⟩:Oper):=rfl
 have hf:da ⟨d,.call { callee:=.value f,args,argTypes:=ts },ty,pos,af,gd⟩ L f=dr L f:=ew (by simp [Op.operands,Call.operands])
 have ha:args.toList.map (da ⟨d,.call { callee:=.value f,args,argTypes:=ts },ty,pos,af,gd⟩ L)=args.toList.map (dr L):=il (fun x hx=>by simp [Op.operands,Call.operands];exact .inr (by simpa using hx))
 have hr:l0 T (da ⟨d,.call { callee:=.value f,args,argTypes:=ts },ty,pos,af,gd⟩ L) ⟨d,.call { callee:=.value f,args,argTypes:=ts },ty,pos,af,gd⟩=l0 T (dr L) ⟨d,.call { callee:=.value f,args,argTypes:=ts },ty,pos,af,gd⟩:=by simp only [l0,hf]
 have ho:(⟨d,.call { callee:=.value f,args,argTypes:=ts },ty,pos,af,gd⟩:Oper).op.operands.toList.map (da ⟨d,.call { callee:=.value f,args,argTypes:=ts },ty,pos,af,gd⟩ L)=(f::args.toList).map (dr L):=by
  show ((#[f]++args).toList).map _=_
  simp only [Array.toList_append,List.map_append,ha,List.map_cons,hf]
  rfl
 rw [hr,ho]
 show Aq _ _ _ _ _ _ _ (ss T (da _ L f) (args.toList.map (da _ L)) _)=_
 rw [hf,ha]
theorem sj (f args ts g a b) (h:dr L f = .fn (.func g) a b):l0 T (dr L) ⟨d,.call { callee:=.value f,args,argTypes:=ts },ty,pos,af,gd⟩=roT (T.find g):=by simp only [l0,h];rfl
theorem Jq (n args ts):l0 T (dr L) ⟨d,.call { callee:=.value (.func n),args,argTypes:=ts },ty,pos,af,gd⟩=roT (T.find n):=by simp only [l0,dr];rfl
end ops
theorem Ro (P T ops K L st):zv P T ops true K L st=(Gw ops=true∧(Ay P T ops ops.toList K [] L st∨G0 P T ops ops.toList K [] L st)):=id rfl
theorem Q7 (n):Bs n []=true:=id rfl
theorem Np (n o r):Bs n (o::r)=(Nat.blt o n && Bs n r):=id rfl
theorem U8 (h h'):same h h' []=True:=id rfl
theorem Qw (h h' o r):same h h' (o::r)=(h.get o=h'.get o∧same h h' r):=id rfl
theorem O8 (h):nl h [] = .nil:=id rfl
theorem Ma (h o r):nl h (o::r)=Tr.set depth (nl h r) o (h.get o):=id rfl
theorem Lf (h1 h):qm h1 [] h=h:=id rfl
theorem Jl (h1 o r h):qm h1 (o::r) h=Tr.set depth (qm h1 r h) o (h1.get o):=id rfl
theorem Qv (t ts v vs):lq (t::ts) (v::vs)=(t,v)::lq ts vs:=id rfl
theorem Nx (P:Program):∀ s:Sem Value,ev P (do pure (Next.value (← s)))=(ev P s).map Next.value:=by
 intro s
 induction s with
 |pure b=>rfl
 |program k ih=>exact ih P
 |choose q k ih=>
  simp only [bind,Sem.bind,ev]
  split
  ·exact ih 0
  ·rfl
 |mark m k ih=>exact ih
 |_=>rfl
def Tm (m:M AV):M AV:=m
def Xj (a:AV) (m:M AV):M AV:=
 match a.bool with
 |some b=>M.pure (.sc (.bool (!b)))
 |none=>m
theorem aec (b:Bool) (m:M AV):Xj (.sc (.bool b)) m=M.pure (.sc (.bool (!b))):=id rfl
theorem alg {a:AV} {b:Bool} (h:a.bool=some b):a = .sc (.bool b):=by
 unfold AV.bool AV.exact pk at h
 cases a with
 |sc v=>cases v<;>simp at h;rw [h]
 |_=>cases h
theorem Nl (P:Program) (ρ:Operand→AV) (d ty pos af gd) (t:TypeId) (x:Operand):ju P ρ ⟨d,.unOp .not t x,ty,pos,af,gd⟩ [x]=Xj (ρ x) (Tm (ju P ρ ⟨d,.unOp .not t x,ty,pos,af,gd⟩ [x])):=by
 unfold Xj
 split
 ·rename_i b hb
  have hx:=alg hb
  have h2:execOp (fun z=>((ρ z).ft).getD undef) ⟨d,.unOp .not t x,ty,pos,af,gd⟩=(do pure (Next.value (← Op.unary .not (.bool b)))):=by
   simp only [execOp,hx,AV.ft,Option.getD_some]
  unfold ju j7 oz
  simp only [List.all_cons,List.all_nil,hx,AV.ft,Option.isSome_some,Bool.and_true,cond_true]
  rw [h2,Nx]
  rfl
 ·rfl
theorem Qi (P:Program) (T:du) (ρ:Operand→AV) (d ty pos af gd) (t:TypeId) (x:Operand):g9 P T ⟨d,.unOp .not t x,ty,pos,af,gd⟩ ρ=mono (Xj (ρ x) (Tm (ju P ρ ⟨d,.unOp .not t x,ty,pos,af,gd⟩ [x]))):=by
 exact congrArg mono (Nl ..)
theorem Z3 (P:Program) (T:du) (L:SL) (st:St) (recs:List Rec) (K:List Rec→SL→St→Prop) (d ty pos af gd) (t x):gn P T ⟨d,.unOp .not t x,ty,pos,af,gd⟩ recs K L st=fm true (reach st.h ef (AV.names.go ([x].map (dr L))) []) ⟨d,.unOp .not t x,ty,pos,af,gd⟩ recs K L st (mono (Xj (dr L x) (Tm (ju P (da ⟨d,.unOp .not t x,ty,pos,af,gd⟩ L) ⟨d,.unOp .not t x,ty,pos,af,gd⟩ [x])))):=by
 rw [agv]
 have h:=Nl P (da ⟨d,.unOp .not t x,ty,pos,af,gd⟩ L) d ty pos af gd t x
 rw [ew (by simp [Op.operands])] at h
 rw [← h]
theorem H4 {α:Type} (C:cq α) (f:Bool) (h:C.sz=1) (ha:C.agg=false) (l:List α):(l.map (C.val f)).flatMap AV.cells=l.map (C.val f):=by
 induction l with
 |nil=>rfl
 |cons x l ih=>
  simp only [List.map_cons,List.flatMap_cons,ih]
  obtain ⟨c,h1,h2,_⟩:=C.one ha f x
  have:C.val f x=c:=by simp [cq.val,ha,h1]
  rw [this,h2];rfl
theorem Jk (f g:Bool) (a b:List UInt8):Cx.lh [.vl f 1 (a.map (aw.val f)),.vl g 1 (b.map (aw.val g))]=M.pure (.sc (goInt (Lib.compareBytes a b))):=by
 unfold Cx.lh cellsIn
 simp only [Nat.beq_refl,cond_true,H4 aw _ rfl rfl]
 unfold M.bind M.pure
 simp only [xo]
 rfl
theorem Jj {L:SL} {d ty pos af gd} {op t u x y}:da ⟨d,.binOp op t x y u,ty,pos,af,gd⟩ L x=dr L x:=ew (by simp [Op.operands])
theorem I9 {L:SL} {d ty pos af gd} {op t u x y}:da ⟨d,.binOp op t x y u,ty,pos,af,gd⟩ L y=dr L y:=ew (by simp [Op.operands])
theorem L8 {L:SL} {d ty pos af gd} {h l m t x}:da ⟨d,.slice t x l h m,ty,pos,af,gd⟩ L x=dr L x:=ew (by simp [Op.operands])
theorem Mz {L:SL} {d ty pos af gd} {h l m t x}:da ⟨d,.slice t x l (some h) m,ty,pos,af,gd⟩ L h=dr L h:=ew (by simp [Op.operands])
def Zk (P:Program) (ρ:Operand→AV) (o:Oper) (l:List Operand):M AV:=ju P ρ o l
def Uu (u:Option TypeDesc) (a ix:AV) (m:M AV):M AV:=
 match u with
 |some .string=>
  match a with
  |.sc (.string s)=>
   match ix with
   |.sc (.int _ n)=>
    match (bif decide (0≤n) then s.data.toList[n.toNat]? else none) with
    |some b=>M.pure (.sc (.int .u8 b.toNat))
    |none=>m
   |_=>m
  |_=>m
 |_=>m
theorem Vt (s:ByteArray) (k:IntKind) (n:Int) (m:M AV):Uu (some .string) (.sc (.string s)) (.sc (.int k n)) m=match (bif decide (0≤n) then s.data.toList[n.toNat]? else none) with|some b=>M.pure (.sc (.int .u8 b.toNat))|none=>m:=id rfl
theorem Hc (P:Program) (ρ:Operand→AV) (d ty pos af gd) (t:TypeId) (x i:Operand):ju P ρ ⟨d,.index t x i,ty,pos,af,gd⟩ [x,i]=Uu (P.underlying t) (ρ x) (ρ i) (Zk P ρ ⟨d,.index t x i,ty,pos,af,gd⟩ [x,i]):=by
 unfold Uu
 split
 ·rename_i hu
  split
  ·rename_i s hx
   split
   ·rename_i k n hi
    split
    ·rename_i b hb
     cases h0:decide (0≤n) with
     |false=>rw [h0] at hb;cases hb
     |true=>
     rw [h0,cond_true] at hb
     have h0 : 0≤n:=by simpa using h0
     have hb':s[n.toNat]? = some b:=by
      obtain ⟨h1,h2⟩:=List.getElem?_eq_some_iff.1 hb
      simp at h1
      rw [getElem?_pos s n.toNat (by simpa using h1)]
      rw [← h2];rfl
     have h2:execOp (fun z=>((ρ z).ft).getD undef) ⟨d,.index t x i,ty,pos,af,gd⟩=(do pure (Next.value (← Instr.index t (.string s) (.int k n)))):=by
      simp only [execOp,hx,hi,AV.ft,Option.getD_some]
     unfold ju j7 oz
     simp only [List.all_cons,List.all_nil,hx,hi,AV.ft,Option.isSome_some,Bool.and_true,cond_true]
     rw [h2,Nx]
     have h3:ev P (Instr.index t (.string s) (.int k n))=some (.int .u8 b.toNat):=by
      simp [Instr.index,asIntOf,underlying,program,ev,hu,h0,hb',bind,Sem.bind,pure]
     rw [h3]
     rfl
    ·rfl
   ·rfl
  ·rfl
 ·rfl
theorem Dq (a n:Nat):(a:Int).fdiv (n:Int)=((a / n:Nat):Int):=by
 rw [Int.fdiv_eq_ediv_of_nonneg _ (by omega)];rfl
theorem aln (a:Nat):(a:Int).fdiv 2=((a / 2:Nat):Int):=Dq a 2
theorem Vl (a:Nat):(a:Int).fdiv 256=((a / 256:Nat):Int):=Dq a 256
theorem Ky (a:Nat):(a:Int).fdiv 65536=((a / 65536:Nat):Int):=Dq a 65536
theorem Eu (a:Nat):(a:Int).fdiv 16777216=((a / 16777216:Nat):Int):=Dq a 16777216
theorem Wy (f:Nat) (m) (T:du):du.find ((f,m)::T) f=some m:=by simp [du.find]
theorem Qq (f g:Nat) (m) (T:du) (h:(f == g)=false):du.find ((f,m)::T) g=du.find T g:=by
 have e:f≠g:=by simpa using h
 simp [du.find,nc e]
end
end Go.Vm
end
namespace Go.Vm
variable [TK]
noncomputable section
def wk (P:Program) (t:TypeId):Option (Nat × Nat × Nat):=
 match mc P t with
 |some e=>
  match c8 P e,jn P e,ff P e with
  |some sz,some bytes,some z=>bif Nat.blt 0 sz && Nat.blt 0 bytes && Nat.beq z.cells.size sz then some (e,sz,bytes) else none
  |_,_,_=>none
 |none=>none
def Tu (q:Option (Nat × Nat × Nat)) (s x:AV):M AV:=
 match q with
 |some (e,sz,bytes)=>(cellsIn sz x).bind (pg e sz bytes s)
 |none=>M.fail
theorem ae8 (e sz bytes s x):Tu (some (e,sz,bytes)) s x=(cellsIn sz x).bind (pg e sz bytes s):=id rfl
theorem M8 (P:Program) (t e:TypeId) (s x:AV):ni P (some t) (some (.slice e)) s x=Tu (wk P t) s x:=by
 unfold ni Tu wk
 simp only [Option.bind_some]
 cases mc P t with
 |none=>rfl
 |some e=>
  simp only
  cases c8 P e with
  |none=>rfl
  |some sz=>
   cases jn P e with
   |none=>rfl
   |some bytes=>
    cases ff P e with
    |none=>rfl
    |some z=>
     simp only
     cases (Nat.blt 0 sz && Nat.blt 0 bytes && Nat.beq z.cells.size sz)<;>rfl
theorem Lt (P:Program) (t:TypeId) (s x:AV):ni P (some t) (some .string) s x=Tu (wk P t) s x:=by
 unfold ni Tu wk
 simp only [Option.bind_some]
 cases mc P t with
 |none=>rfl
 |some e=>
  simp only
  cases c8 P e with
  |none=>rfl
  |some sz=>
   cases jn P e with
   |none=>rfl
   |some bytes=>
    cases ff P e with
    |none=>rfl
    |some z=>
     simp only
     cases (Nat.blt 0 sz && Nat.blt 0 bytes && Nat.beq z.cells.size sz)<;>rfl
theorem Jc (e sz bytes new):pg e sz bytes (.sc (.slice none 0 0)) new=bif new.isEmpty then M.pure (.sc (.slice none 0 0)) else bif Nat.ble (new.length * bytes) 140737488355328 then qa e sz (new.length / sz) new else M.fail:=id rfl
theorem Mv (e sz bytes o off len sz' new):pg e sz bytes (.sl o off len sz') new=bif Nat.beq sz sz' then (dg o).bind (Bw e sz bytes o off len new) else M.fail:=id rfl
theorem Jf (e sz bytes o off len new cells k st et):Bw e sz bytes o off len new (.row cells k st et)=(bif Nat.beq et e && new.all AV.one && Nat.ble (off+len * sz) cells.length && Nat.ble ((len * sz+new.length) * bytes) 140737488355328 then
 bif Nat.ble k (off+len * sz) then
  (Eh o).bind fun _=>(ji (.row ((cells.take (off+len * sz)).drop off++new) (k - off) (lb (jy off (len * sz) cells.length) st) et)).bind fun id=>M.pure (.sl id 0 (len+new.length / sz) sz)
 else bif new.isEmpty then M.pure (.sl o off len sz)
 else M.fail
 else M.fail):=id rfl
theorem aiy:lb true 0=0:=id rfl
theorem Y4 (n):jy 0 n n=true:=by simp [jy]
theorem aah (n m):jy 0 n m=Nat.beq n m:=id rfl
def cellsOf {α:Type} (C:cq α) (f:Bool) (xs:List α):List AV:=xs.flatMap (C.cells f)
theorem Jm {α:Type} (C:cq α) (f):cellsOf C f []=[]:=id rfl
theorem kn {α:Type} (C:cq α) (f) (xs:List α):(cellsOf C f xs).length=xs.length * C.sz:=by
 induction xs with
 |nil=>simp [cellsOf]
 |cons x xs ih=>
  simp only [cellsOf] at ih
  simp [cellsOf,C.len,ih,Nat.succ_mul];omega
theorem xr {α:Type} (C:cq α) (f) (xs ys:List α):cellsOf C f (xs++ys)=cellsOf C f xs++cellsOf C f ys:=by simp [cellsOf]
theorem Iv {α:Type} (C:cq α) (f) (x : α):cellsOf C f [x]=C.cells f x:=by simp [cellsOf]
theorem te {α:Type} (C:cq α) (f) (xs:List α):(cellsOf C f xs).all AV.one=true:=by
 rw [List.all_eq_true]
 intro c hc
 obtain ⟨x,_,hx⟩:=List.mem_flatMap.1 hc
 exact (C.pl f x c hx).one
theorem E5 {α:Type} (C:cq α) (f) (xs:List α):AV.names.go (cellsOf C f xs)=[]:=Cl (fun c hc=>by
 obtain ⟨x,_,hx⟩:=List.mem_flatMap.1 hc
 exact (C.pl f x c hx).names)
theorem Ij {α:Type} (C:cq α) (τ) (f) (xs:List α):(cellsOf C f xs).map (AV.cr τ)=cellsOf C f xs:=by
 rw [← jb]
 exact Kh (fun c hc=>by
  obtain ⟨x,_,hx⟩:=List.mem_flatMap.1 hc
  exact (C.pl f x c hx).cr τ)
theorem A2 {α:Type} (C:cq α) (f) (xs:List α) (i:Nat):(cellsOf C f xs).drop (i * C.sz)=cellsOf C f (xs.drop i):=by
 induction xs generalizing i with
 |nil=>simp [cellsOf]
 |cons x xs ih=>
  cases i with
  |zero=>simp
  |succ i=>
   have:(i+1) * C.sz=C.sz+i * C.sz:=by rw [Nat.succ_mul];omega
   rw [this,← List.drop_drop]
   have h1:(cellsOf C f (x::xs)).drop C.sz=cellsOf C f xs:=by
    have h2:cellsOf C f (x::xs)=C.cells f x++cellsOf C f xs:=by simp [cellsOf]
    rw [h2,← C.len f x,List.drop_left]
   rw [h1,ih,List.drop_succ_cons]
theorem Hg {α:Type} (C:cq α) (f) (xs:List α) (i:Nat):(cellsOf C f xs).take (i * C.sz)=cellsOf C f (xs.take i):=by
 induction xs generalizing i with
 |nil=>simp [cellsOf]
 |cons x xs ih=>
  cases i with
  |zero=>simp [cellsOf]
  |succ i=>
   have h2:cellsOf C f (x::xs)=C.cells f x++cellsOf C f xs:=by simp [cellsOf]
   have:(i+1) * C.sz=(C.cells f x).length+i * C.sz:=by rw [Nat.succ_mul,C.len];omega
   rw [h2,this,List.take_length_add_append,ih,List.take_succ_cons]
   simp [cellsOf]
theorem Af {α:Type} (C:cq α) (f) (x : α) (xs:List α):cellsOf C f (x::xs)=C.cells f x++cellsOf C f xs:=by simp [cellsOf]
theorem Cp {α:Type} {xs:List α} {i:Nat} {x : α} (h:xs[i]? = some x):xs.drop i=x::xs.drop (i+1):=by
 obtain ⟨h1,h2⟩:=List.getElem?_eq_some_iff.1 h
 rw [← h2];exact List.drop_eq_getElem_cons h1
theorem Jz {α:Type} (C:cq α) (f) (xs:List α):(xs.map (C.val f)).flatMap AV.cells=cellsOf C f xs:=by
 rw [List.flatMap_map];congr 1;funext x;exact C.ui f x
def Aw (fr:Bool) (st sz:Nat) (kd:LK) (et:TypeId):Bool:=!fr || (Nat.beq st 0 && Io sz kd et)
theorem aix (st sz kd et):Aw false st sz kd et=true:=id rfl
theorem aiu (sz kd et):Aw true 0 sz kd et=Io sz kd et:=id rfl
theorem Nz {fr:Bool} {st n sz:Nat} {kd:LK} {et:TypeId} (h:Aw fr st sz kd et=true):tk fr sz kd st 0 (n * sz) n et=true:=by
 cases fr with
 |false=>rfl
 |true=>
  simp only [Aw,Bool.not_true,Bool.false_or,Bool.and_eq_true] at h
  simp [tk,h.1,h.2]
theorem l9 {α:Type} (C:cq α) (fr:Bool) (h:Tr ay) (f:Bool) (xs:List α) (k st et) (n:Nat) (hn:n=xs.length) (hf:(f || !fr)=true) (hro:Aw fr st C.sz C.kd et=true):kh C fr h 0 n (.row (cellsOf C f xs) k st et)=some xs:=by
 subst hn
 simp only [kh,Nat.zero_add,kn,Nat.ble_self_eq_true,Bool.true_and,Nz hro,cond_true,List.drop_zero]
 have:(cellsOf C f xs).take (xs.length * C.sz)=cellsOf C f xs:=List.take_of_length_le (by rw [kn];exact Nat.le_refl _)
 rw [this]
 exact P0 C fr h f (fun e=>by subst e;simpa using hf) xs
theorem Mk {α:Type} (C:cq α) (fr h k st et) (hro:Aw fr st C.sz C.kd et=true):kh C fr h 0 0 (.row [] k st et)=some []:=by
 have h0:tk fr C.sz C.kd st 0 0 0 et=true:=by have:=Nz (n:=0) hro;rwa [Nat.zero_mul] at this
 have h1:Nat.ble 0 0=true:=rfl
 simp [kh,tc,h0,h1]
def nn {α:Type} (C:cq α) (fr:Bool) (h:Tr ay):List AV→Option (List α)
 | []=>some []
 |a::l=>match C.dec fr h [a],nn C fr h l with
  |some x,some xs=>some (x::xs)
  |_,_=>none
def alz {α:Type} (a b:Option (List α)):Option (List α):=match a,b with|some x,some y=>some (x++y)|_,_=>none
def ajo {α:Type} (a:Option α) (b:Option (List α)):Option (List α):=match a,b with|some x,some y=>some (x::y)|_,_=>none
theorem adr {α:Type} (a b:List α):alz (some a) (some b)=some (a++b):=id rfl
theorem aab {α:Type} (a : α) (b:List α):ajo (some a) (some b)=some (a::b):=id rfl
theorem Jw {α:Type} (C:cq α) (fr h):nn C fr h []=some []:=id rfl
theorem A5 {α:Type} (C:cq α) (fr h a l):nn C fr h (a::l)=ajo (C.dec fr h [a]) (nn C fr h l):=id rfl
theorem J0 {α:Type} (C:cq α) (fr h):∀ a b,nn C fr h (a++b)=alz (nn C fr h a) (nn C fr h b)
 | [],b=>by
  simp only [List.nil_append,Jw]
  cases nn C fr h b<;>rfl
 |x::a,b=>by
  simp only [List.cons_append,A5,J0 C fr h a b]
  cases C.dec fr h [x]<;>cases nn C fr h a<;>cases nn C fr h b<;>rfl
theorem Wa {α:Type} (C:cq α) (hz:C.sz=1) (fr h):∀ cells:List AV,tc C fr h cells.length cells=nn C fr h cells
 | []=>rfl
 |a::l=>by
  have h1:(a::l).take C.sz=[a]:=by rw [hz];rfl
  have h2:(a::l).drop C.sz=l:=by rw [hz];rfl
  simp only [List.length_cons,tc,h1,h2,Wa C hz fr h l]
  rfl
theorem vm {α:Type} (C:cq α) (hz:C.sz=1) (fr h n cells k st et) (hn:n=cells.length) (hro:Aw fr st 1 C.kd et=true):kh C fr h 0 n (.row cells k st et)=nn C fr h cells:=by
 subst hn
 have h0:tk fr 1 C.kd st 0 cells.length cells.length et=true:=by have:=Nz (n:=cells.length) hro;rwa [Nat.mul_one] at this
 simp only [kh,hz,Nat.mul_one,Nat.zero_add,Nat.ble_self_eq_true,Bool.true_and,h0,cond_true,List.drop_zero,List.take_length]
 exact Wa C hz fr h cells
theorem A4 {α:Type} (C:cq α) (hz:C.sz=1) (ha:C.agg=false) (fr h f) (hf:fr=true→f=true):∀ l:List α,nn C fr h (l.map (C.val f))=some l
 | []=>rfl
 |x::l=>by
  obtain ⟨c,h1,_⟩:=C.one ha f x
  have hv:C.val f x=c:=by simp [cq.val,ha,h1]
  have hd:=C.rt fr h f x hf
  rw [h1] at hd
  rw [List.map_cons,A5,A4 C hz ha fr h f hf l,hv,hd];rfl
theorem Uf {α β:Type} (f : α → β) (l:List α) (n:Nat):(l.map f).take n=(l.take n).map f:=List.map_take.symm
theorem To {α β:Type} (f : α → β) (l:List α) (n:Nat):(l.map f).drop n=(l.drop n).map f:=List.map_drop.symm
theorem Ab {α β:Type} (f : α → β) (l:List α):(l.map f).isEmpty=l.isEmpty:=by cases l<;>rfl
theorem B0 {α:Type} (l:List α) (x : α):(l++[x]).isEmpty=false:=by cases l<;>rfl
theorem C5 (a b:List AV):AV.names.go (a++b)=AV.names.go a++AV.names.go b:=by
 induction a with
 |nil=>rfl
 |cons x a ih=>simp only [List.cons_append,AV.names.go,ih,List.append_assoc]
theorem rtT {α:Type} (C:cq α) (h:Tr ay) (x : α):C.fw true h (C.val true x)=some x:=C.Gr true h true x (fun _=>rfl)
theorem rtF {α:Type} (C:cq α) (h:Tr ay) (l:Bool) (x : α):C.fw false h (C.val l x)=some x:=C.Gr false h l x (fun e=>by cases e)
theorem Up (s:ByteArray):s.data.toList.length=s.size:=by simp
theorem aag {α:Type} {l:List α} {n:Nat} (h:l.length≤n):l.take n=l:=List.take_of_length_le h
theorem am6 {α:Type} (C:cq α) (fr:Bool) (h:Tr ay) (x : α):C.fw fr h (C.val fr x)=some x:=C.Gr fr h fr x (fun e=>e)
theorem cd {a b:Nat} (h:a≤b):decide (a≤b)=true:=by simpa using h
theorem cf {a b:Nat} (h:a<b):decide (a<b)=true:=by simpa using h
theorem cb {a b:Int} (h:a≤b):decide (a≤b)=true:=by simpa using h
theorem ca {a b:Int} (h:a<b):decide (a<b)=true:=by simpa using h
theorem ah (x:Int) (h0 : -9223372036854775808≤x) (h1:x<9223372036854775808):IntKind.i64.wrap x=x:=by
 simp [IntKind.wrap,IntKind.bits,IntKind.signed];omega
theorem ad5 (n:Nat):IntKind.u8.wrap (n:Int)=((UInt8.ofNat n).toNat:Int):=by simp [IntKind.wrap,IntKind.bits,IntKind.signed]
theorem bf {p:Prop} [Decidable p] {X Y:SL→St→Prop} {L st}:rm (.sc (.bool (decide p))) X Y L st=((p→X L st)∧(¬ p→Y L st)):=by
 by_cases h:p<;>simp [h,Cu,C3]
theorem ct {a b:Int} {X Y:SL→St→Prop} {L st}:rm (.sc (.bool (a == b))) X Y L st=(((a == b)=true∧a=b→X L st)∧((a == b)=false∧a≠b→Y L st)):=by
 by_cases h:a=b
 ·subst h;simp [Cu]
 ·have:(a == b)=false:=by simpa using h
  simp [h,this,C3]
theorem dp {a b:Int} {X Y:SL→St→Prop} {L st}:rm (.sc (.bool (a != b))) X Y L st=(((a != b)=true∧a≠b→X L st)∧((a != b)=false∧a=b→Y L st)):=by
 by_cases h:a=b
 ·subst h;simp [C3]
 ·have:(a != b)=true:=by simpa using h
  simp [h,this,Cu]
theorem Ri (P:Program) (T:du) (ρ:Operand→AV) (d ty pos af gd) (x ts):g9 P T ⟨d,.call { callee:=.builtin .cap,args:=#[x],argTypes:=ts },ty,pos,af,gd⟩ ρ=mono (D4 ((ts[0]?).bind P.underlying) (ρ x)):=id rfl
theorem Ql (e a n c):D4 (some (.slice e)) (.sc (.slice a n c))=M.pure (.sc (goInt c)):=id rfl
def agw (P:Program) (q:Option (Nat × Nat × Nat)) (s x:AV):M AV:=
 match q with
 |some (e,sz,bytes)=>
  match zx P e sz x with
  |some new=>pg e sz bytes s new
  |none=>M.fail
 |none=>M.fail
theorem agc (P:Program) (e sz bytes s x):agw P (some (e,sz,bytes)) s x=match zx P e sz x with|some new=>pg e sz bytes s new|none=>M.fail:=id rfl
theorem Na (P:Program) (t:TypeId) (k:IntKind) (s x:AV):ni P (some t) (some (.int k)) s x=agw P (wk P t) s x:=by
 unfold ni agw wk
 simp only [Option.bind_some]
 cases mc P t with
 |none=>rfl
 |some e=>
  simp only
  cases c8 P e with
  |none=>rfl
  |some sz=>
   cases jn P e with
   |none=>rfl
   |some bytes=>
    cases ff P e with
    |none=>rfl
    |some z=>
     simp only
     cases (Nat.blt 0 sz && Nat.blt 0 bytes && Nat.beq z.cells.size sz)<;>rfl
def S9 (z:Option Value) (sz:Nat) (n:Int):Option (List AV):=
 match z with
 |some z=>bif decide (0≤n) && decide (n≤1073741824) && Nat.beq z.cells.size sz then some ((List.replicate n.toNat (z.cells.toList.map AV.sc)).flatten) else none
 |none=>none
theorem Xa (z sz n):S9 (some z) sz n=bif decide (0≤n) && decide (n≤1073741824) && Nat.beq z.cells.size sz then some ((List.replicate n.toNat (z.cells.toList.map AV.sc)).flatten) else none:=id rfl
theorem Qj (P:Program) (e sz:Nat) (k:IntKind) (n:Int):zx P e sz (.sc (.int k n))=S9 (ff P e) sz n:=by
 simp only [zx,S9,ta,AV.int,AV.exact,Option.bind_some,intOf,Option.map_some]
 cases ff P e<;>rfl
theorem Zb {α:Type} (n:Nat) (x : α):(List.replicate n [x]).flatten=List.replicate n x:=by
 induction n with
 |zero=>rfl
 |succ n ih=>simp [List.replicate_succ,ih]
theorem Jb {α:Type} {n:Nat} {x : α} (h : 0<n):(List.replicate n x).isEmpty=false:=by
 cases n with
 |zero=>omega
 |succ n=>rfl
theorem nc0:((0:Nat):Int)=0:=id rfl
theorem nc1:((1:Nat):Int)=1:=id rfl
theorem af5 (n:Nat):List.replicate n (AV.sc (.int .u8 0))=(List.replicate n (0:UInt8)).map (aw.val false):=by rw [List.map_replicate];rfl
def ac5 (P:Program) (u:Option TypeDesc) (x hi:AV) (m:M AV):M AV:=
 match u with
 |some (.slice e)=>
  match c8 P e with
  |some _=>
   match x with
   |.sc (.slice none 0 0)=>
    match hi with
    |.sc (.int .i64 0)=>M.pure (.sc (.slice none 0 0))
    |_=>m
   |_=>m
  |none=>m
 |_=>m
theorem ad7 (P:Program) (e m) (h:(c8 P e).isSome=true):ac5 P (some (.slice e)) (.sc (.slice none 0 0)) (.sc (.int .i64 0)) m=M.pure (.sc (.slice none 0 0)):=by
 obtain ⟨n,hn⟩:=Option.isSome_iff_exists.1 h
 simp only [ac5,hn]
theorem Bm (P:Program) (ρ:Operand→AV) (d ty pos af gd) (t:TypeId) (x h:Operand):ju P ρ ⟨d,.slice t x none (some h) none,ty,pos,af,gd⟩ (.slice t x none (some h) none:Op).operands.toList=ac5 P (P.underlying t) (ρ x) (ρ h) (Zk P ρ ⟨d,.slice t x none (some h) none,ty,pos,af,gd⟩ (.slice t x none (some h) none:Op).operands.toList):=by
 unfold ac5
 split
 ·rename_i e hu
  split
  ·rename_i n hn
   split
   ·rename_i hx
    split
    ·rename_i hh
     have h2:execOp (fun z=>((ρ z).ft).getD undef) ⟨d,.slice t x none (some h) none,ty,pos,af,gd⟩=(do pure (Next.value (← Instr.sliceAt t (.slice none 0 0) none (some (.int .i64 0)) none))):=by
      simp only [execOp,hx,hh,AV.ft,Option.getD_some,Option.map_some,Option.map_none]
     have hi:∃ i,P.info? e=some i:=by
      unfold c8 at hn
      cases hq:P.info? e with
      |none=>rw [hq] at hn;cases hn
      |some i=>exact ⟨i,rfl⟩
     obtain ⟨i,hi⟩:=hi
     have h3:ev P (Instr.sliceAt t (.slice none 0 0) none (some (.int .i64 0)) none)=some (.slice none 0 0):=by
      simp [Instr.sliceAt,Instr.slice,Instr.sliceBounds,Instr.sliceBound,asIntOf,underlying,program,ev,hu,sizeOf,typeInfo,hi,bind,Sem.bind,pure]
     unfold ju j7 oz
     simp only [Op.operands]
     simp [hx,hh,AV.ft]
     rw [h2,Nx,h3]
     rfl
    ·rfl
   ·rfl
  ·rfl
 ·rfl
def ahz {α:Type} (o sz:Nat) (l:List α):AV:=bif l.isEmpty then .sc (.slice none 0 0) else .sl o 0 l.length sz
def acq (cells:List AV) (k st:Nat) (et:TypeId):List (Option ay):=bif cells.isEmpty then [] else [some (.row cells k st et)]
theorem af0 {α:Type} {o sz} {l:List α} (h:l.isEmpty=false):ahz o sz l = .sl o 0 l.length sz:=by simp [ahz,h]
theorem Pk {α:Type} (o sz) (l:List α) (c : α):ahz o sz (l++[c]) = .sl o 0 (l.length+1) sz:=by rw [af0 (B0 l c)];simp
theorem ae7 {cells:List AV} {k st et} (h:cells.isEmpty=false):acq cells k st et=[some (.row cells k st et)]:=by simp [acq,h]
theorem ahp {α:Type} {f : α→AV} {l:List α} {k st et} (h:l.isEmpty=false):acq (l.map f) k st et=[some (.row (l.map f) k st et)]:=ae7 (by rw [Ab,h])
theorem Qn {α:Type} (f : α→AV) (l:List α) (c : α) (k st et):acq ((l++[c]).map f) k st et=[some (.row (l.map f++[f c]) k st et)]:=by rw [ahp (B0 l c)];simp
theorem ey {α:Type} {l:List α} {i:Nat} (h:decide ((i:Int)<(l.length:Int))=true):∃ c,l[i]? = some c∧l.drop i=c::l.drop (i+1)∧i<l.length:=by
 have h1:i<l.length:=by simp at h;omega
 exact ⟨l[i],List.getElem?_eq_getElem h1,List.drop_eq_getElem_cons h1,h1⟩
theorem ij {α:Type} {l:List α} {i:Nat} (h:decide ((i:Int)<(l.length:Int))=false):l.drop i=[]:=by
 have h1:¬ i<l.length:=by simp at h;omega
 exact List.drop_eq_nil_of_le (by omega)
def tp (D:List Nat):Nat→List (Option ay)→List (Option ay)
 |_,[]=>[]
 |i,x::r=>(bif wz i D then x else none)::tp D (i+1) r
def vg (D:List Nat):Nat→List (Option ay)→List (Option ay)
 |_,[]=>[]
 |i,x::r=>(bif wz i D then none else x)::vg D (i+1) r
theorem Qe (D):∀ (i:Nat) (os:List (Option ay)),(tp D i os).length=os.length
 |_,[]=>rfl
 |i,x::r=>by simp [tp,Qe D (i+1) r]
theorem Ge (D):∀ (i:Nat) (os:List (Option ay)),(vg D i os).length=os.length
 |_,[]=>rfl
 |i,x::r=>by simp [vg,Ge D (i+1) r]
theorem Q9 (D):∀ (os:List (Option ay)) (i j:Nat),((tp D i os)[j]?).join=if (i+j) ∈ D then (os[j]?).join else none
 | [],i,j=>by simp [tp]
 |x::r,i,0=>by
  simp only [tp,List.getElem?_cons_zero,Option.join_some,Nat.add_zero]
  cases hb:wz i D with
  |true=>rw [if_pos ((ua i D).1 hb)];rfl
  |false=>rw [if_neg (fun h=>by rw [(ua i D).2 h] at hb;cases hb)];rfl
 |x::r,i,j+1=>by
  simp only [tp,List.getElem?_cons_succ]
  rw [Q9 D r (i+1) j,show i+1+j=i+(j+1) from by omega]
theorem Rb (D):∀ (os:List (Option ay)) (i j:Nat),((vg D i os)[j]?).join=if (i+j) ∈ D then none else (os[j]?).join
 | [],i,j=>by simp [vg]
 |x::r,i,0=>by
  simp only [vg,List.getElem?_cons_zero,Option.join_some,Nat.add_zero]
  cases hb:wz i D with
  |true=>rw [if_pos ((ua i D).1 hb)];rfl
  |false=>rw [if_neg (fun h=>by rw [(ua i D).2 h] at hb;cases hb)];rfl
 |x::r,i,j+1=>by
  simp only [vg,List.getElem?_cons_succ]
  rw [Rb D r (i+1) j,show i+1+j=i+(j+1) from by omega]
theorem N3 (os:List (Option ay)) (h:os.length≤cy) (o:Nat):(bk os).h.get o=(os[o]?).join:=by
 simp only [bk]
 rw [pq _ _ _ (by omega),if_pos (Nat.zero_le _),Nat.sub_zero]
inductive ek (h:Tr ay):AV→AV→Prop
 |same (a:AV):ek h a a
 |data {α:Type} (C:cq α) (fr:Bool) (x : α) (a:AV) (hd:C.fw fr h a=some x):ek h a (C.val fr x)
 |bad (a:AV):ek h a .bad
 |nil (o off sz:Nat):ek h (.sc (.slice none 0 0)) (.sl o off 0 sz)
 |ml (loc:Bool) (sz:Nat):ek h (.sc (.slice none 0 0)) (.vl loc sz [])
inductive dx (h:Tr ay):List AV→List AV→Prop
 |nil:dx h [] []
 |cons {a b:AV} {l m:List AV} (h1:ek h a b) (h2:dx h l m):dx h (a::l) (b::m)
theorem dx.len {h l m} (hl:dx h l m):m.length=l.length:=by
 induction hl with
 |nil=>rfl
 |cons _ _ ih=>simp [ih]
theorem dx.refl (h):∀ l,dx h l l
 | []=>.nil
 |a::l=>.cons (.same a) (dx.refl h l)
theorem dx.get {h l m} (hl:dx h l m):∀ (i:Nat) b,m[i]? = some b→∃ a,l[i]? = some a∧ek h a b:=by
 induction hl with
 |nil=>intro i b hb;simp at hb
 |cons h1 h2 ih=>
  intro i b hb
  cases i with
  |zero=>simp at hb;subst hb;exact ⟨_,rfl,h1⟩
  |succ i=>exact ih i b (by simpa using hb)
inductive bt (h:Tr ay):List (Option ay)→List (Option ay)→Prop
 |nil:bt h [] []
 |ghost {st et m} (h2:bt h [] m):bt h [] (some (.row [] 0 st et)::m)
 |same {x l m} (h2:bt h l m):bt h (x::l) (x::m)
 |gone {x l m} (h2:bt h l m):bt h (x::l) (none::m)
 |row {cells cells' k st et l m} (h1:dx h cells cells') (h2:bt h l m):bt h (some (.row cells k st et)::l) (some (.row cells' k st et)::m)
theorem bt.refl (h):∀ l,bt h l l
 | []=>.nil
 |x::l=>.same (bt.refl h l)
theorem bt.len {h l m} (hl:bt h l m):l.length≤m.length:=by induction hl<;>simp_all
theorem bt.get {h l m} (hl:bt h l m):∀ (i:Nat) y,(m[i]?).join=some y→(l[i]?).join=some y∨(∃ cells cells' k st et,y = .row cells' k st et∧(l[i]?).join=some (.row cells k st et)∧dx h cells cells')∨(l.length≤i∧Db y):=by
 induction hl with
 |nil=>intro i y hy;simp at hy
 | @ghost st et m h2 ih=>
  intro i y hy
  cases i with
  |zero=>simp at hy;subst hy;exact .inr (.inr ⟨Nat.le_refl _,st,et,rfl⟩)
  |succ i=>exact .inr (.inr ⟨Nat.zero_le _,(by
   rcases ih i y (by simpa using hy) with h|⟨_,_,_,_,_,_,h,_⟩|h
   ·simp at h
   ·simp at h
   ·exact h.2)⟩)
 |same h2 ih=>
  intro i y hy
  cases i with
  |zero=>exact .inl hy
  |succ i=>exact (ih i y (by simpa using hy)).imp id (Or.imp id (fun h=>⟨Nat.succ_le_succ h.1,h.2⟩))
 |gone h2 ih=>
  intro i y hy
  cases i with
  |zero=>simp at hy
  |succ i=>exact (ih i y (by simpa using hy)).imp id (Or.imp id (fun h=>⟨Nat.succ_le_succ h.1,h.2⟩))
 |row h1 h2 ih=>
  intro i y hy
  cases i with
  |zero=>simp at hy;subst hy;exact .inr (.inl ⟨_,_,_,_,_,rfl,rfl,h1⟩)
  |succ i=>exact (ih i y (by simpa using hy)).imp id (Or.imp id (fun h=>⟨Nat.succ_le_succ h.1,h.2⟩))
theorem jl.lax {vs vs':List AV} {os os':List (Option ay)} {ar:Nat} (D:List Nat) (hlen':os'.length≤cy) (hv:dx (bk (tp D 0 os)).h vs vs') (ho:bt (bk (tp D 0 os)).h (vg D 0 os) os'):jl ar vs os vs' os':=by
 have holen:os.length≤os'.length:=by have:=ho.len;rw [Ge] at this;exact this
 have hlen:os.length≤cy:=Nat.le_trans holen hlen'
 refine ⟨hv.len,fun q=>Nat.le_trans q holen,fun g w us hok hfree hr=>?_⟩
 obtain ⟨hD,ehD⟩:∃ hD,(bk (tp D 0 os)).h=hD:=⟨_,rfl⟩
 rw [ehD] at hv ho
 have dg:∀ o,(bk os).h.get o=(os[o]?).join:=N3 os hlen
 have hgetD:∀ o,hD.get o=if o ∈ D then (os[o]?).join else none:=fun o=>by
  rw [← ehD,N3 _ (by rw [Qe];exact hlen),Q9,Nat.zero_add]
 have hget':∀ o y,(bk os').h.get o=some y→(o ∉ D∧((bk os).h.get o=some y∨∃ cells cells' k st et,y = .row cells' k st et∧(bk os).h.get o=some (.row cells k st et)∧dx hD cells cells'))∨(os.length≤o∧Db y):=fun o y hy=>by
  rw [N3 _ hlen'] at hy
  have hmid:∀ z,((vg D 0 os)[o]?).join=some z→o ∉ D∧(os[o]?).join=some z:=fun z hz=>by
   rw [Rb,Nat.zero_add] at hz
   by_cases hd:o ∈ D
   ·rw [if_pos hd] at hz;cases hz
   ·rw [if_neg hd] at hz;exact ⟨hd,hz⟩
  rw [dg]
  rcases ho.get o y hy with h1|⟨cells,cells',k,st,et,h1,h2,h3⟩|h1
  ·exact .inl ⟨(hmid _ h1).1,.inl (hmid _ h1).2⟩
  ·exact .inl ⟨(hmid _ h2).1,.inr ⟨cells,cells',k,st,et,h1,(hmid _ h2).2,h3⟩⟩
  ·rw [Ge] at h1;exact .inr h1
 have hsub:∀ o x,hD.get o=some x→o ∈ D∧(bk os).h.get o=some x:=fun o x hx=>by
  rw [hgetD] at hx
  by_cases hd:o ∈ D
  ·rw [if_pos hd] at hx;rw [dg];exact ⟨hd,hx⟩
  ·rw [if_neg hd] at hx;cases hx
 have hokD:Ok g hD w:=hok.part (fun o x hx=>(hsub o x hx).2)
 obtain ⟨K',eK⟩:∃ K':Nat→Nat→Prop,(fun b j=>g.K b j∨∃ o base cells k s e,hD.get o=some (.row cells k s e)∧g.inj o=some (b,base)∧∃ i,(s=0∨i<cells.length)∧j=base+i)=K':=⟨_,rfl⟩
 have hK':∀ b j,K' b j↔(g.K b j∨∃ o base cells k s e,hD.get o=some (.row cells k s e)∧g.inj o=some (b,base)∧∃ i,(s=0∨i<cells.length)∧j=base+i):=fun b j=>by rw [← eK]
 have hlend:s8 g hD K':=⟨fun b j h=>(hK' b j).2 (.inl h),fun o cells k s e h b base hi j hj=>(hK' _ _).2 (.inr ⟨o,base,cells,k,s,e,h,hi,j,hj,rfl⟩)⟩
 have hlax:∀ {a b:AV} {v:Value},ek hD a b→Rel g w a v→Rel { g with K:=K' } w b v:=fun {a b v} hl hrel=>by
  have hup:Rel { g with K:=K' } w a v:=Rel.ext (g:=g) (w:=w) (g':={ g with K:=K' }) (w':=w) ⟨rfl,fun _ _ h=>h,fun b j h=>(hK' b j).2 (.inl h),fun _ _ _=>rfl,fun b cs e fr h=>⟨cs,fr,h,rfl⟩,fun b l h=>⟨l,h⟩,fun _ _ _ _ _ _=>rfl⟩ hrel
  cases hl with
  |same=>exact hup
  |data C fr x a hd=>exact (C.Mx hokD hlend (fun _=>Nat.le_refl g.b0) hrel hd).lift (Nat.le_refl _) (fun _ _ h=>h)
  |bad=>exact .bad _
  |nil o off sz=>obtain rfl:=hup.exact rfl;exact .qn _ _ _
  |ml loc sz=>obtain rfl:=hup.exact rfl;exact .jh _ _
 refine ⟨{ g with K:=K' },⟨hok.size,fun o y hy=>?_,fun o o' x x' b base base' hne hx hx' hb hb'=>?_,fun b j hk=>?_⟩,⟨by rw [hv.len];exact hr.1,fun i b v hb hv'=>?_⟩,rfl,fun o q=>hfree o (Nat.le_trans holen q),fun _ _=>rfl,fun b j h=>(hK' b j).2 (.inl h),fun o b base ho' hi'=>?_,fun b j hk=>?_⟩
 ·rcases hget' o y hy with ⟨hnd,hy⟩|⟨hge,hgh⟩
  case inr=>exact .inl ⟨hfree o hge,hgh⟩
  have hKo:∀ b base,g.inj o=some (b,base)→((bk os).h.get o).isSome=true→∀ j,K' b j→g.K b j:=fun b base hi hs j hk=>by
   rcases (hK' b j).1 hk with h|⟨o2,base2,cells,k,s,e,h1,h2,_⟩
   ·exact h
   ·exfalso
    obtain ⟨hd2,h1'⟩:=hsub o2 _ h1
    obtain ⟨x,hx⟩:=Option.isSome_iff_exists.1 hs
    exact hok.sep o o2 x _ b base base2 (fun e=>hnd (by rw [e];exact hd2)) hx h1' hi h2
  have hext:Ext g w { g with K:=K' } w:=⟨rfl,fun _ _ h=>h,fun b j h=>(hK' b j).2 (.inl h),fun _ _ _=>rfl,fun b cs e fr h=>⟨cs,fr,h,rfl⟩,fun b l h=>⟨l,h⟩,fun _ _ _ _ _ _=>rfl⟩
  rcases hy with hy|⟨cells,cells',k,st,et,rfl,hy,hcl⟩
  ·refine (hok.lr o y hy).imp id ?_
   rintro ⟨b,base,h1,h2,h3⟩
   exact ⟨b,base,h1,h2,h3.ext hext rfl (fun j hj=>hKo b base h1 (by rw [hy];rfl) j hj)⟩
  ·refine (hok.lr o _ hy).imp (fun q=>⟨q.1,by
    obtain ⟨s0,e0,he⟩:=q.2
    simp only [ay.row.injEq] at he
    obtain ⟨rfl,rfl,rfl,rfl⟩:=he
    cases hcl
    exact ⟨_,_,rfl⟩⟩) ?_
   rintro ⟨b,base,h1,h2,cs,fr,r1,r2,r3,r4,r5,r6,r7⟩
   refine ⟨b,base,h1,h2,cs,fr,r1,by rw [hcl.len];exact r2,fun j c hc=>?_,r4,fun j hj=>r5 j (hKo b base h1 (by rw [hy];rfl) j hj),r6,fun e=>by rw [hcl.len];exact r7.1 e,fun e=>by rw [hcl.len];exact r7.2 e⟩
   obtain ⟨a,ha,hla⟩:=hcl.get j c hc
   obtain ⟨u,hu,hru⟩:=r3 j a ha
   exact ⟨u,hu,hlax hla hru⟩
 ·have q:∀ o y p,(bk os').h.get o=some y→g.inj o=some p→∃ z,(bk os).h.get o=some z:=fun o y p hy hp=>by
   rcases hget' o y hy with ⟨_,h|⟨_,_,_,_,_,_,h,_⟩⟩|⟨h,_⟩
   ·exact ⟨_,h⟩
   ·exact ⟨_,h⟩
   ·rw [hfree o h] at hp;cases hp
  obtain ⟨z,hz⟩:=q o x _ hx hb
  obtain ⟨z',hz'⟩:=q o' x' _ hx' hb'
  exact hok.sep o o' z z' b base base' hne hz hz' hb hb'
 ·rcases (hK' b j).1 hk with h|⟨o,base,cells,k,s,e,h1,h2,_⟩
  ·exact hok.K b j h
  ·obtain ⟨b',base',h3,_,h4⟩:=hokD.obj o _ h1
   rw [h2] at h3;cases h3
   exact h4.lt
 ·obtain ⟨a,ha,hla⟩:=hv.get i b hb
  exact hlax hla (hr.2 i a v ha hv')
 ·obtain ⟨y,hy⟩:=Option.isSome_iff_exists.1 ho'
  rcases hget' o y hy with ⟨_,h|⟨_,_,_,_,_,_,h,_⟩⟩|⟨h,_⟩
  ·exact ⟨o,base,by rw [h];rfl,hi'⟩
  ·exact ⟨o,base,by rw [h];rfl,hi'⟩
  ·have:g.inj o=some (b,base):=hi'
   rw [hfree o h] at this;cases this
 ·rcases (hK' b j).1 hk with h|⟨o,base,cells,k,s,e,h1,h2,_⟩
  ·exact .inl h
  ·exact .inr ⟨o,base,by rw [(hsub o _ h1).2];rfl,h2⟩
theorem Pe {α:Type} {P:Program} {T:du} {ar:Nat} {b:Code} {Q:QL} {L:SL} {st:St} (keep:List Nat) (V : α→List AV) (O : α→List (Option ay)) (I : α→Prop) (μ : α→Nat) (x : α) (hx:I x)
 (hv:jl ar (eg ar keep L st) (g8 ar keep L st) (V x) (O x))
 (step:∀ x,I x→wl P T ar b (zh ar keep (fun vs os=>∃ y,I y ∧ μ y < μ x∧jl ar vs os (V y) (O y)) Q) (lq keep (V x)) (bk (O x))):rn ar (wl P T ar b) Q L st:=
 rn.ami keep V O I μ x hx hv (fun _ _ h=>Oc b _ _ h) step
theorem fj {α:Type} {P:Program} {T:du} {ar:Nat} {b:Code} {Q:QL} {L:SL} {st:St} (keep:List Nat) (V : α→List AV) (O : α→List (Option ay)) (I : α→Prop) (μ : α→Nat) (x : α) (hx:I x)
 (hv:jl ar (eg ar keep L st) (g8 ar keep L st) (V x) (O x))
 (step:∀ x,I x→wl P T ar b (zh ar keep (fun vs os=>∃ y,I y ∧ μ y < μ x∧vs=V y∧os=O y) Q) (lq keep (V x)) (bk (O x))):rn ar (wl P T ar b) Q L st:=
 Pe keep V O I μ x hx hv (fun x hi=>Oc b _ _ (fun e L' st' hq=>by
  cases e with
  |normal=>
   obtain ⟨y,h1,h2,h3,h4⟩:=hq
   refine ⟨y,h1,h2,?_⟩
   rw [h3,h4];exact .refl _ _ _
  |exit id=>exact hq
  |ret=>exact hq) _ _ (step x hi))
theorem B9 (f) (l):(List.map (ai.val f) l).flatMap AV.cells=l.map (ai.val f):=H4 ai f rfl rfl l
theorem L9 (f) (l):(List.map (ai.val f) l).all AV.one=true:=by rw [← B9 f l,Jz];exact te _ _ _
theorem E9 (fr h n cells k st et) (hn:n=cells.length) (hro:Aw fr st 1 .str et=true):kh ai fr h 0 n (.row cells k st et)=nn ai fr h cells:=vm ai rfl fr h n cells k st et hn hro
theorem Qa:ai.kd = .str:=id rfl
theorem Iq (fr h f) (l):nn ai fr h (List.map (ai.val f) l)=some l:=by
 have e:List.map (ai.val f) l=List.map (ai.val true) l:=by cases f<;>rfl
 rw [e];exact A4 ai rfl rfl fr h true (fun _=>rfl) l
theorem Eb (f) (l):(List.map (aw.val f) l).flatMap AV.cells=l.map (aw.val f):=H4 aw f rfl rfl l
theorem Ps (f) (l):(List.map (aw.val f) l).all AV.one=true:=by rw [← Eb f l,Jz];exact te _ _ _
theorem Fp (fr h n cells k st et) (hn:n=cells.length) (hro:Aw fr st 1 (.int .u8) et=true):kh aw fr h 0 n (.row cells k st et)=nn aw fr h cells:=vm aw rfl fr h n cells k st et hn hro
theorem W0:aw.kd=(.int .u8):=id rfl
theorem Mf (fr h f) (l):nn aw fr h (List.map (aw.val f) l)=some l:=by
 have e:List.map (aw.val f) l=List.map (aw.val true) l:=by cases f<;>rfl
 rw [e];exact A4 aw rfl rfl fr h true (fun _=>rfl) l
theorem Ch (f) (l):(List.map (bh.val f) l).flatMap AV.cells=l.map (bh.val f):=H4 bh f rfl rfl l
theorem Kr (f) (l):(List.map (bh.val f) l).all AV.one=true:=by rw [← Ch f l,Jz];exact te _ _ _
theorem Fe (fr h n cells k st et) (hn:n=cells.length) (hro:Aw fr st 1 (.int .u32) et=true):kh bh fr h 0 n (.row cells k st et)=nn bh fr h cells:=vm bh rfl fr h n cells k st et hn hro
theorem Qu:bh.kd=(.int .u32):=id rfl
theorem Ih (fr h f) (l):nn bh fr h (List.map (bh.val f) l)=some l:=by
 have e:List.map (bh.val f) l=List.map (bh.val true) l:=by cases f<;>rfl
 rw [e];exact A4 bh rfl rfl fr h true (fun _=>rfl) l
theorem C7 (fr h n cells k st et) (hn:n=cells.length) (hro:Aw fr st 1 .no et=true):kh aq fr h 0 n (.row cells k st et)=nn aq fr h cells:=vm aq rfl fr h n cells k st et hn hro
theorem Fz (fr h f) (l) (hf:(f || !fr)=true):nn aq fr h (List.map (aq.val f) l)=some l:=A4 aq rfl rfl fr h f (fun e=>by subst e;simpa using hf) l
theorem G9 (fr h l n xs) (hn:n=1) (hl:(l || !fr)=true):gp ai fr h (.vl l n (xs.map (ai.val false)))=some xs:=by
 cases l with
 |true=>exact qv ai fr h true xs n hn hl
 |false=>exact qv ai fr h false xs n hn hl
theorem My:ai.val true=ai.val false:=id rfl
theorem Is (fr h l n xs) (hn:n=1) (hl:(l || !fr)=true):gp aw fr h (.vl l n (xs.map (aw.val false)))=some xs:=by
 cases l with
 |true=>exact qv aw fr h true xs n hn hl
 |false=>exact qv aw fr h false xs n hn hl
theorem P9:aw.val true=aw.val false:=id rfl
theorem Gf (fr h l n xs) (hn:n=1) (hl:(l || !fr)=true):gp bh fr h (.vl l n (xs.map (bh.val false)))=some xs:=by
 cases l with
 |true=>exact qv bh fr h true xs n hn hl
 |false=>exact qv bh fr h false xs n hn hl
theorem Nh:bh.val true=bh.val false:=id rfl
theorem Qh (fr h) (c:UInt8):aw.dec fr h [.sc (.int .u8 c.toNat)]=some c:=aw.rt fr h true c (fun _=>rfl)
theorem Me (fr h) (c:UInt16):b9.dec fr h [.sc (.int .u16 c.toNat)]=some c:=b9.rt fr h true c (fun _=>rfl)
theorem Mp (fr h) (c:UInt32):bh.dec fr h [.sc (.int .u32 c.toNat)]=some c:=bh.rt fr h true c (fun _=>rfl)
theorem Qk (a b:List AV):AV.fresh.go (a++b)=(AV.fresh.go a && AV.fresh.go b):=by
 induction a with
 |nil=>rfl
 |cons x a ih=>simp only [List.cons_append,AV.fresh.go,ih,Bool.and_assoc]
theorem Xi (f) (l:List UInt8):AV.fresh.go (l.map (aw.val f))=true:=by
 induction l with
 |nil=>rfl
 |cons x l ih=>simp only [List.map_cons,AV.fresh.go,ih];rfl
theorem I8 (f) (c:Name):(aq.val f c).one=true:=id rfl
theorem Fa (f) (c:Name):(aq.val f c).cells=[aq.val f c]:=id rfl
theorem Pr (fr h a):(bw aw).dec fr h [a]=gp aw fr h a:=id rfl
theorem Gx (fr h n cells k st et) (hn:n=cells.length) (hro:Aw fr st 1 .no et=true):kh (bw aw) fr h 0 n (.row cells k st et)=nn (bw aw) fr h cells:=vm (bw aw) rfl fr h n cells k st et hn hro
structure jz (B:ed) (nt:NT) (L:SL) (st:St) (g:Gh) (a:Act) (w:World):Prop where
 cur:iz B g st w
 sl:ga g w nt L a.tmps
 Ra:Marks B.D B.n0 st.h g w a.defers
theorem oo.n0 {B:ed} {n d g h w} (q:oo B g h w):oo { B with n0:=n,D:=d } g h w:=⟨q.b0,q.pins,q.K,q.cell,q.size,q.os,q.tape,q.output,q.frame,q.own,q.lz,q.ja,q.lp,q.whole⟩
theorem oo.ao8 {B:ed} {n d g h w} (q:oo { B with n0:=n,D:=d } g h w):oo B g h w:=⟨q.b0,q.pins,q.K,q.cell,q.size,q.os,q.tape,q.output,q.frame,q.own,q.lz,q.ja,q.lp,q.whole⟩
theorem iz.n0 {B:ed} {n d g st w} (q:iz B g st w):iz { B with n0:=n,D:=d } g st w:=⟨q.ok,q.fresh,q.base.n0,q.ar⟩
theorem piece {P:Program} [KP P] {T:du} (hT:ak P T) (hm:P.follows .mixedOrders=true) {N:Nat} {B:ed} {nt:NT} (hnf:B.ld) (hp:B.ar≤1000) (hn0:B.n0≤B.w.heap.size) {c:Code} (hs:dq nt c=true) {Q:QL} {L:SL} {st:St} {g:Gh} {a:Act} {w:World}
 (h:wl P T B.ar c Q L st) (hh:jz B nt L st g a w) :
 c.wpIn (gk none) N P (fun ex a' w'=>∃ e L' st' g',ex=qp e∧Q e L' st'∧jz B nt L' st' g' a' w'∧oo (jf g st.h w B.ar (fun _=>False)) g' st'.h w') a w:=by
 have hc1:iz { jf g st.h w B.ar (fun _=>False) with n0:=B.n0,D:=B.D } g st w:=(hh.cur.Je B.ar (fun _=>False) hh.cur.ar (fun o h=>(hnf o h).elim)).n0
 refine wpIn_mono (aco hT hm (N:=N) (B:={ jf g st.h w B.ar (fun _=>False) with n0:=B.n0,D:=B.D }) (nt:=nt) (fun _ h=>h) hp (Nat.le_trans hn0 hh.cur.base.size) c hs Q L st g w a h hc1 hh.sl hh.Ra) ?_
 rintro ex a' w' ⟨e,L',st',g',rfl,hq,hc',hr',hd'⟩
 have hb:=hc'.base.ao8 (B:=jf g st.h w B.ar (fun _=>False))
 exact ⟨e,L',st',g',rfl,hq,⟨⟨hc'.ok,fun o h1 _=>hc'.fresh o h1 (fun h=>h),hh.cur.base.comp hb (Nat.le_refl _) (fun o h=>(hnf o h).elim) (fun _ h=>h.elim),hc'.ar⟩,hr',hd'⟩,hb⟩
structure aqc (g:Gh) (w:World) (g':Gh) (w':World):Prop where
 b0:g'.b0=g.b0
 K:∀ b j,g.K b j→g'.K b j
 cell:∀ b j,g.K b j→w'.cell? ⟨b,j,none⟩=w.cell? ⟨b,j,none⟩
 ja:∀ (b:Nat) (cs:Array Value) (e:TypeId) (fr:Nat × Nat),w.heap[b]? = some (Obj.cells cs e fr)→∃ (cs':Array Value) (fr':Nat × Nat),w'.heap[b]? = some (Obj.cells cs' e fr')∧cs'.size=cs.size
 lp:∀ (b:Nat) (l:Loop),w.heap[b]? = some (Obj.loop l)→∃ l',w'.heap[b]? = some (Obj.loop l')
 whole:∀ (b:Nat) (cs:Array Value) (e:TypeId) (fr:Nat × Nat),w.heap[b]? = some (Obj.cells cs e fr)→(∀ j,g.K b j)→w'.heap[b]? = w.heap[b]?
theorem Jx {P:Program} [KP P] {f:Nat} {fn:Func} {body:Code} (hf:P.funcs[f]? = some fn) (hb:fn.body=some body) (he:m7 P f=true)
 {args:List AV} (hl:args.length≤fn.ntmps) {ρ:Type} (R:RC ρ) (fr:Bool) (x : ρ)
 (h:∀ (B:ed) (g:Gh) (a:Act) (w:World),B.ld→B.ar=0→(∀ b,¬ B.O b)→B.n0≤B.w.heap.size→jz B fn.ntmps (cw 0 args) (bk []) g a w→body.wpIn (gk none) 0 P (Fin B fn.ntmps (dk P fn.results.toList (fun r st=>R.get fr st.h r=some x))) a w):bp P f args (R.E fr x):=by
 intro K w vs hK hrel
 refine .inr ⟨s6 he _ _,tx (ro:=none) (n:=0) (callsIn_of_wp_marks hf hb trivial ?_)⟩
 let B:ed:={ b0:=w.heap.size,w,K,O:=fun _=>False,ar:=0,pb:=fun _=>none,n0:=w.heap.size }
 have hcur:iz B (gK w.heap.size K) (bk []) w:=by
  refine ⟨⟨Nat.le_refl _,fun o x hx=>?_,fun o o' x x' b base base' _ hx=>?_,hK⟩,fun o _ _=>rfl,⟨rfl,(fun o ho=>(by rcases ho with ho|ho;cases ho;exact ho.elim)),fun _ _ h=>h,fun _ _ _=>rfl,Nat.le_refl _,rfl,rfl,rfl,fun _ _ _=>rfl,fun o b base ho=>?_,fun _ _ h=>.inl h,fun b cs e fr h=>⟨cs,fr,h,rfl⟩,fun b l h=>⟨l,h⟩,fun _ _ _ _ _ _=>rfl⟩,Nat.zero_le _⟩
  ·simp [bk,kr,Tr.get_nil] at hx
  ·simp [bk,kr,Tr.get_nil] at hx
  ·simp [bk,kr,Tr.get_nil] at ho
 refine wpIn_mono (h B (gK w.heap.size K) _ w (fun _ h=>h) rfl (fun _ h=>h) (Nat.le_refl _) ⟨hcur,zj hrel hl,Marks.nil _ _ _ _⟩) ?_
 rintro ex a w' ⟨e,L,st,g,rfl,hq,hc,hr,hd⟩
 have fin:B6 (o9 P L st fn.results.toList) (fun r st=>R.get fr st.h r=some x) st→bodyPostM (gk none) 0 P fn (fun e w'=>∃ v,e = .returned v∧wa w w'∧Rel (gK w.heap.size (Fk K w w')) w' (R.E fr x) v) .ret a w':=by
  intro hq
  show LeavesInM (gk none) 0 P fn a.tmps _ a.defers .returning w'
  unfold B6 at hq
  cases hres:o9 P L st fn.results.toList with
  |none=>rw [hres] at hq;exact hq.elim
  |some l=>
   rw [hres] at hq
   have hbs:=hc.base
   obtain ⟨bs,e1,e2,e3⟩:=hd
   have e1:=e1.trans (List.append_nil _)
   rw [e1]
   refine Ck (Good:=fun u=>Ok g st.h u∧wa w u∧(∀ a v,Rel g w' a v→Rel g u a v)∧u.heap.size=w'.heap.size) (S:=fun b=>w.heap.size≤b∧gi g st.h b) ?_ ?_ bs w'
    ⟨hc.ok,⟨hbs.size,fun b hlt=>hbs.frame b hlt (fun h=>h),hbs.os,hbs.tape,hbs.output⟩,fun _ _ h=>h,rfl⟩ e2 (fun b hb=>⟨⟨(e3 b hb).1,(e3 b hb).2.2⟩,(e3 b hb).2.1⟩)
   ·rintro u b ⟨g1,g2,g3,g4⟩ ⟨hb1,hb2⟩ hb3
    have hput:=Ok.Ce (ds':=none) g1 hb3 hb2
    exact ⟨hput.1,⟨by rw [kf];exact g2.size,fun c hc=>(dw u _ (by omega)).trans (g2.heap c hc),g2.os,g2.tape,g2.output⟩,fun a v h=>hput.2 a v (g3 a v h),by rw [kf];exact g4⟩
   ·rintro u ⟨g1,g2,g3,g4⟩
    obtain ⟨us,h1,h2⟩:=Oa (P:=P) g1 ⟨hr.1,fun t=>g3 _ _ (hr.2 t)⟩ fn.results.toList l hres
    obtain ⟨v,h3,h4⟩:=Nt h1 h2
    refine ⟨v,h3,v,rfl,g2,?_⟩
    refine R.ok g1 ⟨fun b j hk=>?_,fun o cells k s e ho b base hi j hj=>?_⟩ (fun _=>?_) h4 hq
    ·rcases hbs.lz b j hk with h5|h5|h5
     ·exact .inl h5
     ·exact .inr ⟨h5,g1.K b j hk⟩
     ·exact h5.elim
    ·obtain ⟨b',base',h5,_,h6⟩:=g1.obj o _ ho
     rw [hi] at h5;cases h5
     rcases hbs.own o b base (by rw [ho];rfl) hi with h7|h7
     ·exact .inr ⟨h7,h6.lt⟩
     ·exact h7.elim
    ·rw [hbs.b0];exact Nat.le_refl _
 cases e with
 |normal=>exact fin hq
 |ret=>exact fin hq
 |exit id=>exact hq.elim
def ln (S:Nat→Prop) (M:Nat) (w:World) (k:LK) (v:Value):Prop:=
 (∃ a,v = .slice a 0 0)∨∃ (b off n cap:Nat) (cs:Array Value) (e:TypeId),v = .slice (some ⟨b,off,none⟩) n cap∧S b∧(n≤cap∧cap≤maxLen)∧w.heap[b]? = some (.cells cs e (0,0))∧TK.sz e=some 1∧off+cap≤cs.size ∧
  ∀ (j:Nat) x,j<cap→cs[off+j]? = some x→ke x=k∧∀ s,x = .string s→s.size≤M
def jr (S:Nat→Prop) (N:Nat) (w:World) (sz:Nat) (E:World→List Value→Prop) (v:Value):Prop:=
 (∃ a,v = .slice a 0 0)∨∃ (b off n cap:Nat) (cs:Array Value) (e:TypeId),v = .slice (some ⟨b,off,none⟩) n cap∧n≤N∧S b∧(n≤cap∧cap≤maxLen)∧w.heap[b]? = some (.cells cs e (0,0))∧TK.sz e=some sz∧off % sz=0∧off+cap * sz≤cs.size ∧
  ∀ j,j<n→E w ((List.range sz).map fun i=>cs.getD (off+j * sz+i) undef)
theorem ln.slice {S M w k v} (h:ln S M w k v):ke v = .no:=by
 rcases h with ⟨a,rfl⟩|⟨b,off,n,cap,cs,e,rfl,_⟩<;>rfl
theorem jr.slice {S N w sz E v} (h:jr S N w sz E v):ke v = .no:=by
 rcases h with ⟨a,rfl⟩|⟨b,off,n,cap,cs,e,rfl,_⟩<;>rfl
def Kept (S:Nat→Prop) (m:Nat) (xx:Bool) (w':World) (e:TypeId) (j:Nat) (x x':Value):Prop:=
 x'=x∨(ke x ≠ .no∧ke x'=ke x∧∀ s',x' = .string s'→∃ s,x = .string s∧s'.size≤s.size+m)∨((xx=true∧TK.sz e=some 4)∧((j % 4≠2∧x' = .slice none 0 0)∨(j % 4=2∧ln S (4+m) w' .str x')))
structure fy (S:Nat→Prop) (m:Nat) (xx:Bool) (w w':World):Prop where
 size:w.heap.size≤w'.heap.size
 os:w'.os=w.os
 tape:w'.tape=w.tape
 output:w'.output=w.output
 low:∀ b,b<w.heap.size→¬ S b→w'.heap[b]? = w.heap[b]?
 obj:∀ (b:Nat) o,w.heap[b]? = some o→(∀ cs e fr,o ≠ .cells cs e fr)→w'.heap[b]? = some o
 cells:∀ (b:Nat) (cs:Array Value) (e:TypeId) (fr:Nat × Nat),w.heap[b]? = some (.cells cs e fr)→∃ cs',w'.heap[b]? = some (.cells cs' e fr)∧cs'.size=cs.size ∧
  ∀ (j:Nat) x x',cs[j]? = some x→cs'[j]? = some x'→Kept S m xx w' e j x x'
theorem fy.refl (S:Nat→Prop) (m:Nat) (xx:Bool) (w:World):fy S m xx w w where
 size:=Nat.le_refl _
 os:=rfl
 tape:=rfl
 output:=rfl
 low _ _ _:=rfl
 obj _ _ h _:=h
 cells _ cs _ _ h:=⟨cs,h,rfl,fun j x x' h1 h2=>.inl (by rw [h1] at h2;cases h2;rfl)⟩
theorem fy.quiet (S:Nat→Prop) (m:Nat) (xx:Bool) {w w':World} (hs:w.heap.size≤w'.heap.size) (ho:w'.os=w.os) (ht:w'.tape=w.tape) (hu:w'.output=w.output) (hh:∀ b,b<w.heap.size→w'.heap[b]? = w.heap[b]?):fy S m xx w w' where
 size:=hs
 os:=ho
 tape:=ht
 output:=hu
 low b hb _:=hh b hb
 obj b o h _:=(hh b (a9 h)).trans h
 cells b cs e fr h:=⟨cs,(hh b (a9 h)).trans h,rfl,fun j x x' h1 h2=>.inl (by rw [h1] at h2;cases h2;rfl)⟩
theorem ln.mono {S M M' w k v} (h:ln S M w k v) (hM:M≤M'):ln S M' w k v:=by
 rcases h with h|⟨b,off,n,cap,cs,e,h0,h1,h2,h3,h4,h5,h6⟩
 ·exact .inl h
 ·exact .inr ⟨b,off,n,cap,cs,e,h0,h1,h2,h3,h4,h5,fun j x hj hx=>⟨(h6 j x hj hx).1,fun s hs=>Nat.le_trans ((h6 j x hj hx).2 s hs) hM⟩⟩
theorem ln.lu {S m M xx w w' k v} (hk:k ≠ .no) (h:fy S m xx w w') (hl:ln S M w k v):ln S (M+m) w' k v:=by
 rcases hl with hl|⟨b,off,n,cap,cs,e,rfl,h1,h2,h3,h4,h5,h6⟩
 ·exact .inl hl
 ·obtain ⟨cs',q1,q2,q3⟩:=h.cells b cs e _ h3
  refine .inr ⟨b,off,n,cap,cs',e,rfl,h1,h2,q1,h4,by omega,fun j x' hj hx'=>?_⟩
  have hlt:off+j<cs.size:=by omega
  have hx:=Array.getElem?_eq_getElem hlt
  obtain ⟨hk',hm'⟩:=h6 j _ hj hx
  rcases q3 _ _ _ hx hx' with q|⟨_,q,qs⟩|⟨q,_⟩
  ·rw [q];exact ⟨hk',fun s hs=>by have:=hm' s hs;omega⟩
  ·refine ⟨by rw [q];exact hk',fun s hs=>?_⟩
   obtain ⟨s0,e1,e2⟩:=qs s hs
   have:=hm' s0 e1;omega
  ·have:=q.2;rw [h4] at this;cases this
theorem Kept.mono {S:Nat→Prop} {m m':Nat} {xx:Bool} {w:World} {e:TypeId} {j:Nat} {x y:Value} (hm:m≤m') (h:Kept S m xx w e j x y):Kept S m' xx w e j x y:=by
 rcases h with h|⟨h1,h2,h3⟩|⟨h1,h2⟩
 ·exact .inl h
 ·exact .inr (.inl ⟨h1,h2,fun s' hs=>by obtain ⟨s,e1,e2⟩:=h3 s' hs;exact ⟨s,e1,by omega⟩⟩)
 ·exact .inr (.inr ⟨h1,h2.imp id (fun q=>⟨q.1,q.2.mono (by omega)⟩)⟩)
theorem Kept.any {S:Nat→Prop} {m:Nat} {xx:Bool} {w:World} {e:TypeId} {j:Nat} {x y:Value} (h:Kept S m false w e j x y):Kept S m xx w e j x y:=by
 rcases h with h|h|⟨⟨h,_⟩,_⟩
 ·exact .inl h
 ·exact .inr (.inl h)
 ·cases h
theorem fy.mono {S m m' xx w w'} (hm:m≤m') (h:fy S m xx w w'):fy S m' xx w w':=
 ⟨h.size,h.os,h.tape,h.output,h.low,h.obj,fun b cs e fr hb=>by
  obtain ⟨cs',q1,q2,q3⟩:=h.cells b cs e fr hb
  exact ⟨cs',q1,q2,fun j x x' hx hx'=>(q3 j x x' hx hx').mono hm⟩⟩
theorem fy.any {S m xx w w'} (h:fy S m false w w'):fy S m xx w w':=
 ⟨h.size,h.os,h.tape,h.output,h.low,h.obj,fun b cs e fr hb=>by
  obtain ⟨cs',q1,q2,q3⟩:=h.cells b cs e fr hb
  exact ⟨cs',q1,q2,fun j x x' hx hx'=>(q3 j x x' hx hx').any⟩⟩
theorem Kept.trans {S:Nat→Prop} {m1 m2:Nat} {xx:Bool} {w1 w2:World} {e:TypeId} {j:Nat} {x y z:Value} (h1:Kept S m1 xx w1 e j x y) (ho:fy S m2 xx w1 w2) (h2:Kept S m2 xx w2 e j y z):Kept S (m1+m2) xx w2 e j x z:=by
 rcases h1 with rfl|⟨a1,a2,a3⟩|⟨a1,a2⟩
 ·exact h2.mono (by omega)
 ·rcases h2 with rfl|⟨b1,b2,b3⟩|b
  ·exact .inr (.inl ⟨a1,a2,fun s' hs=>by obtain ⟨s,e1,e2⟩:=a3 s' hs;exact ⟨s,e1,by omega⟩⟩)
  ·refine .inr (.inl ⟨a1,b2.trans a2,fun s' hs=>?_⟩)
   obtain ⟨s1,e1,e2⟩:=b3 s' hs
   obtain ⟨s,e3,e4⟩:=a3 s1 e1
   exact ⟨s,e3,by omega⟩
  ·exact .inr (.inr ⟨b.1,b.2.imp id (fun q=>⟨q.1,q.2.mono (by omega)⟩)⟩)
 ·rcases h2 with rfl|⟨b1,b2,b3⟩|b
  ·refine .inr (.inr ⟨a1,a2.imp id (fun q=>⟨q.1,(q.2.lu (by decide) ho).mono (by omega)⟩)⟩)
  ·rcases a2 with ⟨_,rfl⟩|⟨_,q⟩
   ·exact absurd rfl b1
   ·exact absurd q.slice b1
  ·exact .inr (.inr ⟨b.1,b.2.imp id (fun q=>⟨q.1,q.2.mono (by omega)⟩)⟩)
theorem fy.trans {S m1 m2 xx w1 w2 w3} (h1:fy S m1 xx w1 w2) (h2:fy S m2 xx w2 w3):fy S (m1+m2) xx w1 w3 where
 size:=Nat.le_trans h1.size h2.size
 os:=h2.os.trans h1.os
 tape:=h2.tape.trans h1.tape
 output:=h2.output.trans h1.output
 low b hb hS:=(h2.low b (Nat.lt_of_lt_of_le hb h1.size) hS).trans (h1.low b hb hS)
 obj b o h hn:=h2.obj b o (h1.obj b o h hn) hn
 cells b cs e fr h:=by
  obtain ⟨cs1,a1,a2,a3⟩:=h1.cells b cs e fr h
  obtain ⟨cs2,b1,b2,b3⟩:=h2.cells b cs1 e fr a1
  refine ⟨cs2,b1,b2.trans a2,fun j x z hx hz=>?_⟩
  have hlt:j<cs1.size:=by rw [a2];exact (Array.getElem?_eq_some_iff.1 hx).1
  have hy:=Array.getElem?_eq_getElem hlt
  exact (a3 j x _ hx hy).trans h2 (b3 j _ z hy hz)
def Hn (S:Nat→Prop) (sz:Nat) (E:Nat→World→List Value→Prop):Prop:=
 ∀ {m M:Nat} {xx:Bool} {w w':World} {e:TypeId} {j0:Nat} {l l':List Value},4≤M→fy S m xx w w'→TK.sz e=some sz→j0 % sz=0→l.length=sz→l'.length=sz→(∀ (i:Nat) x x',l[i]? = some x→l'[i]? = some x'→Kept S m xx w' e (j0+i) x x')→E M w l→E (M+m) w' l'
theorem jr.lu {S N m M xx w w' sz E v} (hE:Hn S sz E) (hM : 4≤M) (h:fy S m xx w w') (hl:jr S N w sz (E M) v):jr S N w' sz (E (M+m)) v:=by
 rcases hl with hl|⟨b,off,n,cap,cs,e,rfl,h0,h1,h2,h3,h4,h5,h6,h7⟩
 ·exact .inl hl
 ·obtain ⟨cs',q1,q2,q3⟩:=h.cells b cs e _ h3
  refine .inr ⟨b,off,n,cap,cs',e,rfl,h0,h1,h2,q1,h4,h5,by omega,fun j hj=>?_⟩
  have hle:(j+1) * sz≤cap * sz:=Nat.mul_le_mul_right _ (by omega)
  rw [Nat.succ_mul] at hle
  refine hE (j0:=off+j * sz) hM h h4 (by rw [Nat.add_mul_mod_self_right];exact h5) (by simp) (by simp) (fun i x x' hx hx'=>?_) (h7 j hj)
  rw [List.getElem?_map,Option.map_eq_some_iff] at hx hx'
  obtain ⟨i1,e1,rfl⟩:=hx
  obtain ⟨i2,e2,rfl⟩:=hx'
  obtain ⟨hi,rfl⟩:=List.getElem?_eq_some_iff.1 e1
  obtain ⟨_,rfl⟩:=List.getElem?_eq_some_iff.1 e2
  simp only [List.length_range] at hi
  simp only [List.getElem_range]
  have hlt:off+j * sz+i<cs.size:=by omega
  refine q3 _ _ _ ?_ ?_
  ·rw [Array.getD_eq_getD_getElem?,Array.getElem?_eq_getElem hlt];rfl
  ·rw [Array.getD_eq_getD_getElem?,Array.getElem?_eq_getElem (by omega)];rfl
def Sz (S:Nat→Prop) (M:Nat) (w:World) (l:List Value):Prop:=∃ v,l=[v]∧ln S M w .str v
def tn (S:Nat→Prop) (Nn M:Nat) (w:World) (l:List Value):Prop:=∃ a b c d,l=[a,b,c,d]∧jr S Nn w 1 (Sz S M) a∧ln S M w (.int .u32) b∧ln S M w .str c∧ln S M w (.int .u8) d
def u1 (S:Nat→Prop) (Nn Nd M:Nat) (w:World) (l:List Value):Prop:=∃ o t c u d,l=[o,t,c,u,d]∧ln S M w .str o∧ke t = .int .u16∧ke c = .int .u16∧ke u = .int .u32∧jr S Nd w 4 (tn S Nn M) d
def Ki (S:Nat→Prop) (Nn M:Nat) (w:World) (l:List Value):Prop:=∃ o t c u d,l=o::t::c::u::d∧ln S M w .str o∧ke t = .int .u16∧ke c = .int .u16∧ke u = .int .u32∧tn S Nn M w d
theorem Kept.same {S m xx w' e j x x' sz} (h:Kept S m xx w' e j x x') (hs:TK.sz e=some sz) (hz:sz≠4) (hx:ke x = .no):x'=x:=by
 rcases h with h|⟨h,_⟩|⟨h,_⟩
 ·exact h
 ·exact absurd hx h
 ·have h:=h.2;rw [hs] at h;cases h;exact absurd rfl hz
theorem Kept.kind {S m xx w' e j x x' sz k} (h:Kept S m xx w' e j x x') (hs:TK.sz e=some sz) (hz:sz≠4) (hx:ke x=k):ke x'=k:=by
 rcases h with rfl|⟨_,h,_⟩|⟨h,_⟩
 ·exact hx
 ·rw [h];exact hx
 ·have h:=h.2;rw [hs] at h;cases h;exact absurd rfl hz
theorem Xx (S:Nat→Prop):Hn S 1 (Sz S):=by
 rintro m M xx w w' e j0 l l' hM ho hs hj h1 h2 hk ⟨v,rfl,hv⟩
 match l',h2 with
 | [v'],_=>
  have:=(hk 0 v v' rfl rfl).same hs (by decide) hv.slice
  subst this
  exact ⟨_,rfl,hv.lu (by decide) ho⟩
theorem Gg {S N m M xx w w' v} (hM : 4≤M) (h:fy S m xx w w') (hl:jr S N w 1 (Sz S M) v):jr S N w' 1 (Sz S (M+m)) v:=hl.lu (Xx S) hM h
theorem Xz (S:Nat→Prop) (Nn:Nat):Hn S 4 (tn S Nn):=by
 rintro m M xx w w' e j0 l l' hM ho hs hj h1 h2 hk ⟨a,b,c,d,rfl,ha,hb,hc,hd⟩
 match l',h2 with
 | [a',b',c',d'],_=>
  refine ⟨a',b',c',d',rfl,?_,?_,?_,?_⟩
  ·rcases hk 0 a a' rfl rfl with rfl|⟨q,_⟩|⟨_,⟨_,rfl⟩|⟨q,_⟩⟩
   ·exact Gg hM ho ha
   ·exact absurd ha.slice q
   ·exact .inl ⟨none,rfl⟩
   ·omega
  ·rcases hk 1 b b' rfl rfl with rfl|⟨q,_⟩|⟨_,⟨_,rfl⟩|⟨q,_⟩⟩
   ·exact hb.lu (by decide) ho
   ·exact absurd hb.slice q
   ·exact .inl ⟨none,rfl⟩
   ·omega
  ·rcases hk 2 c c' rfl rfl with rfl|⟨q,_⟩|⟨_,⟨q,rfl⟩|⟨_,q⟩⟩
   ·exact hc.lu (by decide) ho
   ·exact absurd hc.slice q
   ·exact .inl ⟨none,rfl⟩
   ·exact q.mono (by omega)
  ·rcases hk 3 d d' rfl rfl with rfl|⟨q,_⟩|⟨_,⟨_,rfl⟩|⟨q,_⟩⟩
   ·exact hd.lu (by decide) ho
   ·exact absurd hd.slice q
   ·exact .inl ⟨none,rfl⟩
   ·omega
theorem Bx {S N Nn m M xx w w' v} (hM : 4≤M) (h:fy S m xx w w') (hl:jr S N w 4 (tn S Nn M) v):jr S N w' 4 (tn S Nn (M+m)) v:=hl.lu (Xz S Nn) hM h
theorem tn.lu {S Nn m M xx w w' l} (hM : 4≤M) (h:fy S m xx w w') (hl:tn S Nn M w l):tn S Nn (M+m) w' l:=by
 obtain ⟨a,b,c,d,rfl,ha,hb,hc,hd⟩:=hl
 exact ⟨a,b,c,d,rfl,Gg hM h ha,hb.lu (by decide) h,hc.lu (by decide) h,hd.lu (by decide) h⟩
theorem u1.lu {S Nn Nd m M xx w w' l} (hM : 4≤M) (h:fy S m xx w w') (hl:u1 S Nn Nd M w l):u1 S Nn Nd (M+m) w' l:=by
 obtain ⟨o,t,c,u,d,rfl,ho,ht,hc,hu,hd⟩:=hl
 exact ⟨o,t,c,u,d,rfl,ho.lu (by decide) h,ht,hc,hu,Bx hM h hd⟩
theorem zl (S:Nat→Prop) (Nn Nd:Nat):Hn S 5 (u1 S Nn Nd):=by
 rintro m M xx w w' e j0 l l' hM ho hs hj h1 h2 hk ⟨o,t,c,u,d,rfl,hO,ht,hc,hu,hd⟩
 match l',h2 with
 | [o',t',c',u',d'],_=>
  have e1:=(hk 0 o o' rfl rfl).same hs (by decide) hO.slice
  have e2:=(hk 4 d d' rfl rfl).same hs (by decide) hd.slice
  subst e1 e2
  exact ⟨_,t',c',u',_,rfl,hO.lu (by decide) ho,(hk 1 t t' rfl rfl).kind hs (by decide) ht,(hk 2 c c' rfl rfl).kind hs (by decide) hc,(hk 3 u u' rfl rfl).kind hs (by decide) hu,Bx hM ho hd⟩
theorem Tc {S N Nn Nd m M xx w w' v} (hM : 4≤M) (h:fy S m xx w w') (hl:jr S N w 5 (u1 S Nn Nd M) v):jr S N w' 5 (u1 S Nn Nd (M+m)) v:=hl.lu (zl S Nn Nd) hM h
theorem acp (S:Nat→Prop) (Nn:Nat):Hn S 8 (Ki S Nn):=by
 rintro m M xx w w' e j0 l l' hM ho hs hj h1 h2 hk ⟨o,t,c,u,d,rfl,hO,ht,hc,hu,hd⟩
 obtain ⟨a1,a2,a3,a4,rfl,d1,d2,d3,d4⟩:=hd
 match l',h2 with
 | [o',t',c',u',b1,b2,b3,b4],_=>
  have e1:=(hk 0 o o' rfl rfl).same hs (by decide) hO.slice
  have e2:=(hk 4 a1 b1 rfl rfl).same hs (by decide) d1.slice
  have e3:=(hk 5 a2 b2 rfl rfl).same hs (by decide) d2.slice
  have e4:=(hk 6 a3 b3 rfl rfl).same hs (by decide) d3.slice
  have e5:=(hk 7 a4 b4 rfl rfl).same hs (by decide) d4.slice
  subst e1 e2 e3 e4 e5
  exact ⟨_,t',c',u',_,rfl,hO.lu (by decide) ho,(hk 1 t t' rfl rfl).kind hs (by decide) ht,(hk 2 c c' rfl rfl).kind hs (by decide) hc,(hk 3 u u' rfl rfl).kind hs (by decide) hu,tn.lu hM ho ⟨_,_,_,_,rfl,d1,d2,d3,d4⟩⟩
theorem Jt {S N Nn m M xx w w' v} (hM : 4≤M) (h:fy S m xx w w') (hl:jr S N w 8 (Ki S Nn M) v):jr S N w' 8 (Ki S Nn (M+m)) v:=hl.lu (acp S Nn) hM h
theorem Ox {α:Type} (C:cq α) (hz:C.sz=1) (ha:C.agg=false) {k:LK} (hk:C.kd=k) (hn:k ≠ .no) {M:Nat} {g:Gh} {w:World} {l:Bool} {xs:List α} {v:Value} (hM:∀ x ∈ xs,∀ c ∈ C.cells l x,∀ s,c = .sc (.string s)→s.size≤M) (hx:∀ x ∈ xs,∀ c ∈ C.cells l x,∃ u,c = .sc u) {S:Nat→Prop} (hS:∀ b,g.b0≤b→(∀ j,g.K b j)→S b) (hr:Rel g w (.vl true 1 (xs.map (C.val l))) v):ln S M w k v:=by
 generalize hes:xs.map (C.val l)=es at hr
 cases hr with
 |jh=>exact .inl ⟨none,rfl⟩
 |o0 _ _ a=>exact .inl ⟨some a,rfl⟩
 |vl _ _ _ b off cap c hsz hl hcap h hrel hw=>
  obtain ⟨w1,⟨cs,e,w2,w3,w4,w5,w6⟩,w7,w8⟩:=hw rfl
  rcases Nat.eq_zero_or_pos es.length with h0|h0
  ·have:=w7 rfl h0
   subst this
   rw [h0];exact .inl ⟨_,rfl⟩
  ·refine .inr ⟨b,off,es.length,cap,cs,e,rfl,hS b (hl rfl) w1,⟨hcap,w8⟩,w2,w4,by omega,fun j x hj hxj=>?_⟩
   have hfl:es.flatMap AV.cells=xs.flatMap (C.cells l):=by rw [← hes,List.flatMap_map];congr 1;funext x;exact C.ui l x
   have hlen:(es.flatMap AV.cells).length=es.length * 1:=B5 es hsz
   have h00:(es.flatMap AV.cells)[0]? = some ((es.flatMap AV.cells)[0]'(by omega)):=List.getElem?_eq_getElem _
   have hm:(es.flatMap AV.cells)[0]'(by omega) ∈ xs.flatMap (C.cells l):=by rw [← hfl];exact List.getElem_mem _
   obtain ⟨y,_,hy⟩:=List.mem_flatMap.1 hm
   have hc0:=C.Dy hz hy (hrel 0 _ h00)
   rcases w6 rfl j x hj hxj with q|⟨q,qt⟩
   ·rw [hc0,hk] at q;exact absurd q hn
   ·refine ⟨by rw [q,hc0,hk],fun s hs=>?_⟩
    by_cases hjn:j<es.length
    ·have hcj:(es.flatMap AV.cells)[j]? = some ((es.flatMap AV.cells)[j]'(by omega)):=List.getElem?_eq_getElem _
     have hmj:(es.flatMap AV.cells)[j]'(by omega) ∈ xs.flatMap (C.cells l):=by rw [← hfl];exact List.getElem_mem _
     obtain ⟨y2,hy2,hy3⟩:=List.mem_flatMap.1 hmj
     obtain ⟨u,hu⟩:=hx y2 hy2 _ hy3
     have hrj:=hrel j _ hcj
     rw [hu] at hrj
     have:=hrj.exact rfl
     have hcx:c j=x:=by
      have h9:=(h j _ hcj).2
      rw [ib w2,hxj] at h9
      exact (Option.some.inj h9).symm
     rw [hcx,hs] at this
     exact hM y2 hy2 _ hy3 s (by rw [hu,← this])
    ·have:=qt (by omega)
     rw [hs] at this
     have:s.size=0:=Nat.eq_of_beq_eq_true this
     omega
theorem Oo {α:Type} (C:cq α) {N sz:Nat} (hz:C.sz=sz) {E:World→List Value→Prop} {g:Gh} {w:World} {l:Bool} {xs:List α} {v:Value} (hN:xs.length≤N) (hE:∀ x ∈ xs,∀ vs,be g w (C.cells l x) vs→E w vs) {S:Nat→Prop} (hS:∀ b,g.b0≤b→(∀ j,g.K b j)→S b) (hr:Rel g w (.vl true sz (xs.map (C.val l))) v):jr S N w sz E v:=by
 generalize hes:xs.map (C.val l)=es at hr
 cases hr with
 |jh=>exact .inl ⟨none,rfl⟩
 |o0 _ _ a=>exact .inl ⟨some a,rfl⟩
 |vl _ _ _ b off cap c hsz hl hcap h hrel hw=>
  obtain ⟨w1,⟨cs,e,w2,w3,w4,w5,w6⟩,w7,w8⟩:=hw rfl
  refine .inr ⟨b,off,es.length,cap,cs,e,rfl,by rw [← hes,List.length_map];exact hN,hS b (hl rfl) w1,⟨hcap,w8⟩,w2,w4,w5,w3,fun j hj=>?_⟩
  have hj':j<xs.length:=by rw [← hes,List.length_map] at hj;exact hj
  refine hE (xs[j]) (List.getElem_mem hj') _ ⟨by rw [C.len];simp [hz],fun i a u ha hu=>?_⟩
  rw [List.getElem?_map,Option.map_eq_some_iff] at hu
  obtain ⟨i1,e1,rfl⟩:=hu
  obtain ⟨hi,rfl⟩:=List.getElem?_eq_some_iff.1 e1
  simp only [List.length_range] at hi
  simp only [List.getElem_range]
  have hcell:(es.flatMap AV.cells)[j * sz+i]? = some a:=by
   have hfl:es.flatMap AV.cells=xs.flatMap (C.cells l):=by rw [← hes,List.flatMap_map];congr 1;funext x;exact C.ui l x
   have hd:∀ (ys:List α) (m:Nat),(ys.flatMap (C.cells l)).drop (m * C.sz)=(ys.drop m).flatMap (C.cells l):=by
    intro ys
    induction ys with
    |nil=>intro m;simp
    |cons y ys ih=>
     intro m
     cases m with
     |zero=>simp
     |succ m=>
      rw [show (m+1) * C.sz=(C.cells l y).length+m * C.sz from by rw [C.len,Nat.succ_mul];omega,← List.drop_drop,List.flatMap_cons,List.drop_left,ih,List.drop_succ_cons]
   have h1:=hd xs j
   rw [hz] at h1
   rw [hfl,← List.getElem?_drop,h1,List.drop_eq_getElem_cons hj',List.flatMap_cons,List.getElem?_append_left (by rw [C.len];omega)]
   exact ha
  have h1:=h (j * sz+i) a hcell
  have h2:=hrel (j * sz+i) a hcell
  have h3:cs.getD (off+j * sz+i) undef=c (j * sz+i):=by
   have:=h1.2
   rw [ib w2] at this
   rw [Nat.add_assoc,Array.getD_eq_getD_getElem?,this];rfl
  rw [h3];exact h2
end
end Go.Vm
namespace Go.Vm
variable [TK]
structure Lp (w:World) (b:Nat) (cs:Array Value) (e:TypeId) (off m k:Nat) (wr:World):Prop where
 size:wr.heap.size=w.heap.size
 os:wr.os=w.os
 tape:wr.tape=w.tape
 output:wr.output=w.output
 other:∀ c,c≠b→wr.heap[c]? = w.heap[c]?
 row:∃ cs',wr.heap[b]? = some (.cells cs' e (0,0))∧cs'.size=cs.size∧∀ (j:Nat) x x',cs[j]? = some x→cs'[j]? = some x' →
  x'=x∨(off≤j∧j<off+k∧ke x ≠ .no∧ke x'=ke x∧∀ s',x' = .string s'→∃ s,x = .string s∧s'.size≤s.size+m)
theorem Lp.start {w b cs e off m} (h:w.heap[b]? = some (.cells cs e (0,0))):Lp w b cs e off m 0 w where
 size:=rfl
 os:=rfl
 tape:=rfl
 output:=rfl
 other _ _:=rfl
 row:=⟨cs,h,rfl,fun j x x' h1 h2=>.inl (by rw [h1] at h2;cases h2;rfl)⟩
theorem Lp.frozen {w b cs e off m k wr} (h:Lp w b cs e off m k wr) (j:Nat):wr.frozen? ⟨b,j,none⟩=false:=by
 obtain ⟨cs',h1,_⟩:=h.row
 unfold World.frozen?
 simp only [h1]
 simp
theorem Lp.cell {w b cs e off m k wr x} (h:Lp w b cs e off m k wr) (hx:cs[off+k]? = some x):wr.cell? ⟨b,off+k,none⟩=some x:=by
 obtain ⟨cs',h1,h2,h3⟩:=h.row
 rw [ib h1]
 have hlt:off+k<cs'.size:=by rw [h2];exact (Array.getElem?_eq_some_iff.1 hx).1
 have hx':=Array.getElem?_eq_getElem hlt
 rcases h3 _ _ _ hx hx' with q|⟨_,q,_⟩
 ·rw [hx',q]
 ·omega
theorem Lp.step {w b cs e off m k wr x v} (h:Lp w b cs e off m k wr) (hx:cs[off+k]? = some x) (h1:ke x ≠ .no) (h2:ke v=ke x) (h3:∀ s',v = .string s'→∃ s,x = .string s∧s'.size≤s.size+m) :
 Lp w b cs e off m (k+1) (wr.setCell ⟨b,off+k,none⟩ v):=by
 obtain ⟨cs',r1,r2,r3⟩:=h.row
 have hb:=a9 r1
 refine ⟨by simp [World.setCell,h.size],h.os,h.tape,h.output,fun c hc=>?_,cs'.setIfInBounds (off+k) v,?_,by simp [r2],fun j y y' hy hy'=>?_⟩
 ·rw [← h.other c hc]
  simp only [World.setCell]
  rw [Array.getElem?_modify,if_neg (fun e=>hc e.symm)]
 ·simp only [World.setCell]
  rw [Array.getElem?_modify,if_pos rfl,r1]
  rfl
 ·rw [Array.getElem?_setIfInBounds] at hy'
  by_cases hj:off+k=j
  ·subst hj
   rw [hx] at hy;cases hy
   have hlt:off+k<cs'.size:=by rw [r2];exact (Array.getElem?_eq_some_iff.1 hx).1
   rw [if_pos rfl,if_pos hlt] at hy';cases hy'
   exact .inr ⟨by omega,by omega,h1,h2,h3⟩
  ·rw [if_neg hj] at hy'
   exact (r3 j y y' hy hy').imp id (fun q=>⟨q.1,by omega,q.2.2⟩)
theorem Lp.lu {S w b cs e off m k wr} (h:Lp w b cs e off m k wr) (hw:w.heap[b]? = some (.cells cs e (0,0))) (hn:S b):fy S m false w wr where
 size:=by rw [h.size];exact Nat.le_refl _
 os:=h.os
 tape:=h.tape
 output:=h.output
 low c _ hc:=h.other c (fun e=>hc (e ▸ hn))
 obj c o hc hn:=by
  by_cases e:c=b
  ·subst e;rw [hw] at hc;cases hc;exact absurd rfl (hn _ _ _)
  ·rw [h.other c e];exact hc
 cells c cs0 e0 fr0 hc:=by
  by_cases e:c=b
  ·subst e
   rw [hw] at hc;cases hc
   obtain ⟨cs',r1,r2,r3⟩:=h.row
   exact ⟨cs',r1,r2,fun j x x' hx hx'=>(r3 j x x' hx hx').imp id (fun q=>.inl ⟨q.2.2.1,q.2.2.2.1,q.2.2.2.2⟩)⟩
  ·exact ⟨cs0,(h.other c e).trans hc,rfl,fun j x x' hx hx'=>.inl (by rw [hx] at hx';cases hx';rfl)⟩
theorem ln.form {S M w k v} (h:ln S M w k v):∃ base n cap,v = .slice base n cap∧n≤cap∧cap≤maxLen∧(base=none→cap=0):=by
 rcases h with ⟨a,rfl⟩|⟨b,off,n,cap,cs,e,rfl,h1,⟨h2,h3⟩,_⟩
 ·exact ⟨a,0,0,rfl,Nat.le_refl _,Nat.zero_le _,fun _=>rfl⟩
 ·exact ⟨_,n,cap,rfl,h2,h3,fun e=>by cases e⟩
def Gc (S:Nat→Prop) (m k:Nat) (w:World) (v:Value) (wr:World):Prop:=
 (∃ a,v = .slice a 0 0∧wr=w)∨∃ (b off n cap:Nat) (cs:Array Value) (e:TypeId),v = .slice (some ⟨b,off,none⟩) n cap∧S b∧w.heap[b]? = some (.cells cs e (0,0))∧Lp w b cs e off m k wr
theorem Gc.start {S m M w k v} (h:ln S M w k v):Gc S m 0 w v w:=by
 rcases h with ⟨a,rfl⟩|⟨b,off,n,cap,cs,e,rfl,h1,_,h3,_⟩
 ·exact .inl ⟨a,rfl,rfl⟩
 ·exact .inr ⟨b,off,n,cap,cs,e,rfl,h1,h3,.start h3⟩
theorem Gc.lu {S m k w v wr} (h:Gc S m k w v wr):fy S m false w wr:=by
 rcases h with ⟨a,_,rfl⟩|⟨b,off,n,cap,cs,e,_,h1,h3,h⟩
 ·exact .refl _ _ _ _
 ·exact h.lu h3 h1
theorem Gc.at {S m M k w kd base n cap wr} (hk:kd ≠ .no) (hv:ln S M w kd (.slice base n cap)) (h:Gc S m k w (.slice base n cap) wr) (hlt:k<cap) :
 ∃ b off x,base=some ⟨b,off,none⟩∧wr.cell? ⟨b,off+k,none⟩=some x∧wr.frozen? ⟨b,off+k,none⟩=false∧ke x=kd∧(∀ s,x = .string s→s.size≤M) ∧
  ∀ v',ke v'=kd→(∀ s',v' = .string s'→∃ s,x = .string s∧s'.size≤s.size+m)→Gc S m (k+1) w (.slice base n cap) (wr.setCell ⟨b,off+k,none⟩ v'):=by
 rcases hv with ⟨a,e⟩|⟨b,off,n',cap',cs,e,he,h1,_,h3,h4,h5,h6⟩
 ·cases e;omega
 cases he
 rcases h with ⟨a,e,_⟩|⟨b',off',n',cap',cs',e',he',q1,q3,q⟩
 ·cases e;omega
 cases he'
 rw [h3] at q3;cases q3
 have hl:off+k<cs.size:=by omega
 have hx:=Array.getElem?_eq_getElem hl
 obtain ⟨r1,r2⟩:=h6 k _ hlt hx
 exact ⟨b,off,_,rfl,q.cell hx,q.frozen _,r1,r2,fun v' e1 e2=>.inr ⟨b,off,n,cap,cs,e,rfl,h1,h3,q.step hx (by rw [r1];exact hk) (by rw [r1];exact e1) e2⟩⟩
theorem jr.form {S N w sz E v} (h:jr S N w sz E v):∃ base n cap,v = .slice base n cap∧n≤N∧n≤cap∧cap≤maxLen∧(base=none→cap=0):=by
 rcases h with ⟨a,rfl⟩|⟨b,off,n,cap,cs,e,rfl,h0,h1,⟨h2,h3⟩,_⟩
 ·exact ⟨a,0,0,rfl,Nat.zero_le _,Nat.le_refl _,Nat.zero_le _,fun _=>rfl⟩
 ·exact ⟨_,n,cap,rfl,h0,h2,h3,fun e=>by cases e⟩
theorem jr.at {S N w sz E base n cap} (h:jr S N w sz E (.slice base n cap)) {j:Nat} (hj:j<n) :
 ∃ b off cs e,base=some ⟨b,off,none⟩∧S b∧w.heap[b]? = some (.cells cs e (0,0))∧TK.sz e=some sz∧off % sz=0∧off+cap * sz≤cs.size∧(j+1) * sz≤cap * sz∧E w ((List.range sz).map fun i=>cs.getD (off+j * sz+i) undef):=by
 rcases h with ⟨a,e⟩|⟨b,off,n',cap',cs,e,he,h0,h1,⟨h2,h3⟩,h4,h5,h6,h7,h8⟩
 ·cases e;omega
 ·cases he
  exact ⟨b,off,cs,e,rfl,h1,h4,h5,h6,h7,Nat.mul_le_mul_right _ (by omega),h8 j hj⟩
theorem cell_of {w:World} {b j:Nat} {cs:Array Value} {e:TypeId} {fr:Nat × Nat} (h:w.heap[b]? = some (.cells cs e fr)) (hj:j<cs.size):w.cell? ⟨b,j,none⟩=some (cs.getD j undef):=by
 rw [ib h,Array.getD_eq_getD_getElem?,Array.getElem?_eq_getElem hj];rfl
theorem yk {w:World} {b:Nat} {cs:Array Value} {e:TypeId} (h:w.heap[b]? = some (.cells cs e (0,0))) (j:Nat):w.frozen? ⟨b,j,none⟩=false:=by
 unfold World.frozen?
 simp only [h]
 simp
theorem fy.set {S:Nat→Prop} {w:World} {b:Nat} {cs:Array Value} {e:TypeId} {j:Nat} {x v:Value} (h:w.heap[b]? = some (.cells cs e (0,0))) (hn:S b) (hx:cs[j]? = some x) (h1:ke x ≠ .no) (h2:ke v=ke x) (h3:∀ s,v ≠ .string s) :
 fy S 0 false w (w.setCell ⟨b,j,none⟩ v)∧(w.setCell ⟨b,j,none⟩ v).heap[b]? = some (.cells (cs.setIfInBounds j v) e (0,0)):=by
 refine ⟨((Lp.start (off:=j) (m:=0) h).step (k:=0) hx h1 h2 (fun s' q=>absurd q (h3 s'))).lu h hn,?_⟩
 simp only [World.setCell]
 rw [Array.getElem?_modify,if_pos rfl,h]
 rfl
theorem jr.room {S N w sz E base n cap} (h:jr S N w sz E (.slice base n cap)) {j:Nat} (hj:j<cap) :
 ∃ b off cs e,base=some ⟨b,off,none⟩∧S b∧w.heap[b]? = some (.cells cs e (0,0))∧TK.sz e=some sz∧off % sz=0∧off+cap * sz≤cs.size∧(j+1) * sz≤cap * sz:=by
 rcases h with ⟨a,e⟩|⟨b,off,n',cap',cs,e,he,h0,h1,⟨h2,h3⟩,h4,h5,h6,h7,h8⟩
 ·cases e;omega
 ·cases he
  exact ⟨b,off,cs,e,rfl,h1,h4,h5,h6,h7,Nat.mul_le_mul_right _ (by omega)⟩
theorem Wr {w:World} {b:Nat} {cs:Array Value} {e:TypeId} (h:w.heap[b]? = some (.cells cs e (0,0))) (o:Obj) (j:Nat):(w.alloc o).frozen? ⟨b,j,none⟩=false:=
 yk ((Go.RowKit.Below.heap_alloc w o b (a9 h)).trans h) j
theorem zq {w:World} {b:Nat} {cs:Array Value} {e:TypeId} {fr:Nat × Nat} (h:w.heap[b]? = some (.cells cs e fr)) (o:Obj) {j:Nat} (hj:j<cs.size):(w.alloc o).cell? ⟨b,j,none⟩=some (cs.getD j undef):=
 cell_of ((Go.RowKit.Below.heap_alloc w o b (a9 h)).trans h) hj
theorem fy.alloc {S m xx w} (o:Obj):fy S m xx w (w.alloc o):=by
 have hold:∀ b,b<w.heap.size→(w.alloc o).heap[b]? = w.heap[b]? := fun b hb=>Go.RowKit.Below.heap_alloc w o b hb
 refine ⟨(by show w.heap.size≤(w.heap.push o).size;simp),rfl,rfl,rfl,fun b hb _=>hold b hb,fun b x hb _=>(hold b (a9 hb)).trans hb,fun b cs e fr hb=>⟨cs,(hold b (a9 hb)).trans hb,rfl,fun j x x' h1 h2=>.inl (by rw [h1] at h2;cases h2;rfl)⟩⟩
theorem nr (w:World) {b c:Nat} (j:Nat) (v:Value) (h:c≠b):(w.setCell ⟨b,j,none⟩ v).heap[c]? = w.heap[c]? := by
 simp only [World.setCell]
 rw [Array.getElem?_modify,if_neg (fun e=>h e.symm)]
theorem fy.aa5 {S:Nat→Prop} {w:World} {b:Nat} {cs:Array Value} {e:TypeId} {j:Nat} {v:Value} (h:w.heap[b]? = some (.cells cs e (0,0))) (hn:S b) (hsz:TK.sz e=some 4)
 (hv:(j % 4≠2∧v = .slice none 0 0)∨(j % 4=2∧ln S 4 (w.setCell ⟨b,j,none⟩ v) .str v)) :
 fy S 0 true w (w.setCell ⟨b,j,none⟩ v)∧(w.setCell ⟨b,j,none⟩ v).heap[b]? = some (.cells (cs.setIfInBounds j v) e (0,0)):=by
 have hb:(w.setCell ⟨b,j,none⟩ v).heap[b]? = some (.cells (cs.setIfInBounds j v) e (0,0)):=by
  simp only [World.setCell]
  rw [Array.getElem?_modify,if_pos rfl,h]
  rfl
 refine ⟨⟨by simp [World.setCell],rfl,rfl,rfl,fun c _ hc=>nr w j v (fun e=>hc (e ▸ hn)),fun c o hc hno=>?_,fun c cs0 e0 fr0 hc=>?_⟩,hb⟩
 ·by_cases e1:c=b
  ·subst e1;rw [h] at hc;cases hc;exact absurd rfl (hno _ _ _)
  ·rw [nr w j v e1];exact hc
 ·by_cases e1:c=b
  ·subst e1
   rw [h] at hc;cases hc
   refine ⟨_,hb,by simp,fun i x x' hx hx'=>?_⟩
   rw [Array.getElem?_setIfInBounds] at hx'
   by_cases hi:j=i
   ·subst hi
    have hlt:=(Array.getElem?_eq_some_iff.1 hx).1
    rw [if_pos rfl,if_pos hlt] at hx';cases hx'
    exact .inr (.inr ⟨⟨rfl,hsz⟩,hv⟩)
   ·rw [if_neg hi,hx] at hx';cases hx'
    exact .inl rfl
  ·exact ⟨cs0,(nr w j v e1).trans hc,rfl,fun i x x' hx hx'=>.inl (by rw [hx] at hx';cases hx';rfl)⟩
theorem fy.spare {S:Nat→Prop} {w:World} {b j:Nat} {cs:Array Value} {e t:TypeId} {s:ByteArray} (h:w.heap[b]? = some (.cells cs e (0,0))) (hn:S b) (hsz:TK.sz e=some 4) (hS:S w.heap.size) (hj:j % 4=0) (ht:TK.sz t=some 1) (hs:s.size≤4) :
 fy S 0 true w (((((w.alloc (.cells #[.string s] t)).setCell ⟨b,j,none⟩ (.slice none 0 0)).setCell ⟨b,j+1,none⟩ (.slice none 0 0)).setCell ⟨b,j+2,none⟩ (.slice (some ⟨w.heap.size,0,none⟩) 1 1)).setCell ⟨b,j+3,none⟩ (.slice none 0 0)):=by
 have hne:w.heap.size≠b:=by have:=a9 h;omega
 have h0:(w.alloc (.cells #[.string s] t)).heap[b]? = _:=(Go.RowKit.Below.heap_alloc w _ b (a9 h)).trans h
 have ji:(w.alloc (.cells #[.string s] t)).heap[w.heap.size]? = some (.cells #[.string s] t (0,0)):=Aj w _
 have q1:=fy.aa5 (j:=j) (v:=.slice none 0 0) h0 hn hsz (.inl ⟨by omega,rfl⟩)
 have q2:=fy.aa5 (j:=j+1) (v:=.slice none 0 0) q1.2 hn hsz (.inl ⟨by omega,rfl⟩)
 have q3:=fy.aa5 (j:=j+2) (v:=.slice (some ⟨w.heap.size,0,none⟩) 1 1) q2.2 hn hsz (.inr ⟨by omega,.inr ⟨w.heap.size,0,1,1,#[.string s],t,rfl,hS,⟨Nat.le_refl _,by decide⟩,?_,ht,Nat.le_refl _,fun i x hi hx=>?_⟩⟩)
 have q4:=fy.aa5 (j:=j+3) (v:=.slice none 0 0) q3.2 hn hsz (.inl ⟨by omega,rfl⟩)
 ·exact ((((fy.alloc (S:=S) (m:=0) (xx:=true) _).trans q1.1).trans q2.1).trans q3.1).trans q4.1
 ·rw [nr _ _ _ hne,nr _ _ _ hne,nr _ _ _ hne]
  exact ji
 ·have hi0:i=0:=by omega
  subst hi0
  cases hx
  exact ⟨rfl,fun s' e=>by cases e;exact hs⟩
theorem fy.stay {S m w w'} (h:fy S m false w w') {b j:Nat} {x:Value} (hx:w.cell? ⟨b,j,none⟩=some x) (hn:ke x = .no):w'.cell? ⟨b,j,none⟩=some x:=by
 unfold World.cell? at hx
 split at hx
 ·rename_i cs e fr hb
  simp at hx
  obtain ⟨cs',q1,q2,q3⟩:=h.cells b cs e fr hb
  have hlt:j<cs'.size:=by rw [q2];exact (Array.getElem?_eq_some_iff.1 hx).1
  have hx':=Array.getElem?_eq_getElem hlt
  rw [ib q1]
  rcases q3 j x _ hx hx' with q|⟨q,_⟩|⟨⟨q,_⟩,_⟩
  ·rw [hx',q]
  ·exact absurd hn q
  ·cases q
 ·cases hx
end Go.Vm
namespace Go.Vm
variable [TK]
noncomputable section
def tq:Nat→Code→Code
 |0,_=>.skip
 |1,.seq a _=>a
 |n+2,.seq a b=>.seq a (tq (n+1) b)
 |_,c=>c
def mn:Nat→Code→Code
 |0,c=>c
 |n+1,.seq _ b=>mn n b
 |_+1,_=>.skip
def Kt:Nat→Code→Bool
 |0,_=>true
 |n+1,.seq _ b=>Kt n b
 |_+1,_=>false
theorem oq {P:Program} {T:du} {ar:Nat} {a b:Code} {Q:QL} {L:SL} {st:St}:wl P T ar (tq 1 (.seq a b)) Q L st=wl P T ar a Q L st:=rfl
theorem oj {P:Program} {T:du} {ar n:Nat} {a b:Code} {Q:QL} {L:SL} {st:St}:wl P T ar (tq (n+2) (.seq a b)) Q L st=wl P T ar a (J7 (wl P T ar (tq (n+1) b)) Q) L st:=rfl
theorem ov {P:Program} {T:du} {ar n:Nat} {c:Code} {Q:QL} {L:SL} {st:St}:wl P T ar (tq n (mn 0 c)) Q L st=wl P T ar (tq n c) Q L st:=rfl
theorem ow {P:Program} {T:du} {ar n m:Nat} {a b:Code} {Q:QL} {L:SL} {st:St}:wl P T ar (tq n (mn (m+1) (.seq a b))) Q L st=wl P T ar (tq n (mn m b)) Q L st:=rfl
theorem my {P:Program} {T:du} {ar:Nat} {c:Code} {Q:QL} {L:SL} {st:St}:wl P T ar (mn 0 c) Q L st=wl P T ar c Q L st:=rfl
theorem m6 {P:Program} {T:du} {ar m:Nat} {a b:Code} {Q:QL} {L:SL} {st:St}:wl P T ar (mn (m+1) (.seq a b)) Q L st=wl P T ar (mn m b) Q L st:=rfl
def Em (X:SL→St→Prop) (Y:QL):QL:=fun e L st=>
 match e with
 |.normal=>X L st
 |e=>Y e L st
theorem rj {X:SL→St→Prop} {Y:QL} {L st}:Em X Y .normal L st=X L st:=rfl
theorem rb {X:SL→St→Prop} {Y:QL} {L st}:Em X Y .ret L st=Y .ret L st:=rfl
theorem ri {X:SL→St→Prop} {Y:QL} {L st} (i:Nat):Em X Y (.exit i) L st=Y (.exit i) L st:=rfl
def noQ:QL:=fun _ _ _=>False
theorem Pj {P:Program} [KP P] {T:du} (hT:ak P T) (hm:P.follows .mixedOrders=true) {N:Nat} {B:ed} {nt:NT} (hnf:B.ld) (hp:B.ar≤1000) (hn0:B.n0≤B.w.heap.size) {X:Exit→Act→World→Prop} {Q:QL} :
 ∀ (n:Nat) (c:Code),Kt (n+1) c=true→dq nt c=true →
  (∀ e L' st' g' a' w',Q e L' st'→jz B nt L' st' g' a' w'→match e with|.normal=>(mn (n+1) c).wpIn (gk none) N P X a' w'|e=>X (qp e) a' w') →
  ∀ L st g a w,wl P T B.ar (tq (n+1) c) Q L st→jz B nt L st g a w→c.wpIn (gk none) N P X a w:=by
 intro n
 induction n with
 |zero=>
  intro c hsp hs hX L st g a w h hh
  cases c with
  |seq x y=>
   simp only [dq,Bool.and_eq_true] at hs
   refine wpIn_seq (wpIn_mono (piece hT hm (N:=N) hnf hp hn0 hs.1 h hh) ?_)
   rintro ex a' w' ⟨e,L',st',g',rfl,hq,hh',_⟩
   have:=hX e L' st' g' a' w' hq hh'
   cases e with
   |normal=>exact this
   |ret=>exact this
   |exit id=>exact this
  |_=>cases hsp
 |succ n ih=>
  intro c hsp hs hX L st g a w h hh
  cases c with
  |seq x y=>
   simp only [dq,Bool.and_eq_true] at hs
   refine wpIn_seq (wpIn_mono (piece hT hm (N:=N) hnf hp hn0 hs.1 (Q:=J7 (wl P T B.ar (tq (n+1) y)) Q) h hh) ?_)
   rintro ex a' w' ⟨e,L',st',g',rfl,hq,hh',_⟩
   cases e with
   |normal=>exact ih y hsp hs.2 hX L' st' g' a' w' hq hh'
   |ret=>exact hX .ret L' st' g' a' w' hq hh'
   |exit id=>exact hX (.exit id) L' st' g' a' w' hq hh'
  |_=>cases hsp
theorem ado {P:Program} [KP P] {T:du} (hT:ak P T) (hm:P.follows .mixedOrders=true) {N:Nat} {B:ed} {nt:NT} (hnf:B.ld) (hp:B.ar≤1000) (hn0:B.n0≤B.w.heap.size) {X:Exit→Act→World→Prop} {Q:QL} {c:Code} (hs:dq nt c=true)
 (hX:∀ e L' st' g' a' w',Q e L' st'→jz B nt L' st' g' a' w'→X (qp e) a' w') {L st g a w} (h:wl P T B.ar c Q L st) (hh:jz B nt L st g a w):c.wpIn (gk none) N P X a w:=by
 refine wpIn_mono (piece hT hm (N:=N) hnf hp hn0 hs h hh) ?_
 rintro ex a' w' ⟨e,L',st',g',rfl,hq,hh',_⟩
 exact hX e L' st' g' a' w' hq hh'
def rk (w:World):Nat→Nat→Prop:=fun b _=>b<w.heap.size
def S1 (w:World) (D:List Deferred):ed:={ b0:=w.heap.size,w,K:=rk w,O:=fun _=>False,ar:=0,pb:=fun _=>none,n0:=w.heap.size,D }
theorem Du (w D):(S1 w D).ld:=fun _ h=>h
structure yf (S:Nat→Prop) (w1:World) (D:List Deferred) (ds:List Deferred) (w:World):Prop where
 size:w1.heap.size≤w.heap.size
 low:∀ b,b<w1.heap.size→¬ S b→w.heap[b]? = w1.heap[b]?
 obj:∀ (b:Nat) o,w1.heap[b]? = some o→(∀ cs e fr,o ≠ .cells cs e fr)→w.heap[b]? = some o
 os:w.os=w1.os
 tape:w.tape=w1.tape
 output:w.output=w1.output
 Ra:∃ bs:List Nat,ds=bs.map mark++D∧bs.Nodup∧∀ b ∈ bs,w1.heap.size≤b∧w.heap[b]? = some (.deferred (some []))
theorem yf.start (S:Nat→Prop) (w:World) (D:List Deferred):yf S w D D w:=⟨Nat.le_refl _,fun _ _ _=>rfl,fun _ _ h _=>h,rfl,rfl,rfl,[],rfl,List.nodup_nil,fun b h=>by cases h⟩
theorem yf.later {S:Nat→Prop} {w1 D ds w nt L st g a w'} (h:yf S w1 D ds w) (hh:jz (S1 w ds) nt L st g a w'):yf S w1 D a.defers w':=by
 have hb:=hh.cur.base
 have hf:∀ b,b<w.heap.size→w'.heap[b]? = w.heap[b]? := fun b h=>hb.frame b h (fun h=>h)
 refine ⟨Nat.le_trans h.size hb.size,fun b hlt hn=>(hf b (Nat.lt_of_lt_of_le hlt h.size)).trans (h.low b hlt hn),fun b o ho hn=>?_,hb.os.trans h.os,hb.tape.trans h.tape,hb.output.trans h.output,?_⟩
 ·have:=h.obj b o ho hn
  exact (hf b (a9 this)).trans this
 ·obtain ⟨bs,e1,e2,e3⟩:=h.Ra
  obtain ⟨cs,c1,c2,c3⟩:=hh.Ra
  refine ⟨cs++bs,by rw [c1,List.map_append,List.append_assoc];exact congrArg _ e1,?_,fun b hb=>?_⟩
  ·rw [List.nodup_append]
   refine ⟨c2,e2,fun x hx y hy e=>?_⟩
   subst e
   have h1:w.heap.size≤x:=(c3 x hx).1
   have h2:=a9 (e3 x hy).2
   omega
  ·rcases List.mem_append.1 hb with hb|hb
   ·exact ⟨Nat.le_trans h.size (c3 b hb).1,(c3 b hb).2.1⟩
   ·have:=(e3 b hb).2
    exact ⟨(e3 b hb).1,(hf b (a9 this)).trans this⟩
theorem yf.lu {S:Nat→Prop} {w1 D ds w m xx w'} (h:yf S w1 D ds w) (ho:fy S m xx w w'):yf S w1 D ds w':=by
 refine ⟨Nat.le_trans h.size ho.size,fun b hlt hn=>(ho.low b (Nat.lt_of_lt_of_le hlt h.size) hn).trans (h.low b hlt hn),fun b o hb hn=>ho.obj b o (h.obj b o hb hn) hn,ho.os.trans h.os,ho.tape.trans h.tape,ho.output.trans h.output,?_⟩
 obtain ⟨bs,e1,e2,e3⟩:=h.Ra
 exact ⟨bs,e1,e2,fun b hb=>⟨(e3 b hb).1,ho.obj b _ (e3 b hb).2 (fun cs e fr q=>by cases q)⟩⟩
theorem Hr {nt:NT} {Ls:SL} {a:Act} {w:World} (hnt:px nt a.tmps) (hr:∀ t,Rel (gK w.heap.size (rk w)) w (lk Ls t) (a.tmps.getD t undef)):jz (S1 w a.defers) nt Ls (bk []) (gK w.heap.size (rk w)) a w:=by
 refine ⟨⟨⟨Nat.le_refl _,fun o x hx=>?_,fun o o' x x' b base base' _ hx=>?_,fun _ _ h=>h⟩,fun o _ _=>rfl,⟨rfl,(fun o ho=>(by rcases ho with ho|ho;cases ho;exact ho.elim)),fun _ _ h=>h,fun _ _ _=>rfl,Nat.le_refl _,rfl,rfl,rfl,fun _ _ _=>rfl,fun o b base ho=>?_,fun _ _ h=>.inl h,fun b cs e fr h=>⟨cs,fr,h,rfl⟩,fun b l h=>⟨l,h⟩,fun _ _ _ _ _ _=>rfl⟩,Nat.zero_le _⟩,⟨hnt,hr⟩,Marks.start _ _ _ _ _⟩
 ·simp [bk,kr,Tr.get_nil] at hx
 ·simp [bk,kr,Tr.get_nil] at hx
 ·simp [bk,kr,Tr.get_nil] at ho
theorem agt {g:Gh} {w:World} {f:Nat→Value}:∀ {ts:List Nat} {vs:List AV},be g w vs (ts.map f)→∀ t,Rel g w (lk (lq ts vs) t) (f t)
 | [],vs,h,t=>by cases vs<;>exact .bad _
 |t0::ts,[],h,t=>.bad _
 |t0::ts,v::vs,h,t=>by
  rw [lq,qq]
  by_cases e:t0=t
  ·subst e;rw [if_pos rfl];exact h.head
  ·rw [if_neg e];exact agt h.tail t
theorem jz.read {B:ed} {nt L st g a w} (hh:jz B nt L st g a w) {α:Type} (A:AC α) (ts:List Nat) {x : α} (hd:A.get st.h (ts.map (lk L))=some x):be (gK w.heap.size (rk w)) w (A.E x) (ts.map fun t=>a.tmps.getD t undef):=by
 refine A.ok (b0:=w.heap.size) (K:=rk w) hh.cur.ok ⟨fun b j hk=>hh.cur.ok.K b j hk,fun o cells k s e ho b base hi j hj=>?_⟩ ⟨by simp,fun i x v hx hv=>?_⟩ hd
 ·obtain ⟨b',base',h5,_,h6⟩:=hh.cur.ok.obj o _ ho
  rw [hi] at h5;cases h5
  exact h6.lt
 ·rw [List.getElem?_map,Option.map_eq_some_iff] at hx hv
  obtain ⟨t,e1,rfl⟩:=hx
  obtain ⟨t',e2,rfl⟩:=hv
  rw [e1] at e2;cases e2
  exact hh.sl.2 t
theorem jz.an9 {B:ed} {nt L st g a w} (hh:jz B nt L st g a w) {α:Type} (C:cq α) (fr:Bool) (t:Nat) {x : α} (hd:C.fw fr st.h (lk L t)=some x):Rel (gK B.b0 (rk w)) w (C.val fr x) (a.tmps.getD t undef):=by
 refine C.Mx (b0:=B.b0) (K:=rk w) hh.cur.ok ⟨fun b j hk=>hh.cur.ok.K b j hk,fun o cells k s e ho b base hi j hj=>?_⟩ (fun _=>Nat.le_of_eq hh.cur.base.b0.symm) (hh.sl.2 t) hd
 obtain ⟨b',base',h5,_,h6⟩:=hh.cur.ok.obj o _ ho
 rw [hi] at h5;cases h5
 exact h6.lt
def zc (n:Nat) (ts:List Nat) (tmps:Array Value):NT:=⟨n,ts.map fun t=>(t,tmps.getD t undef)⟩
theorem Z5 {nt:NT} {tmps:Array Value} (ts:List Nat) (h:px nt tmps):px (zc nt.n ts tmps) tmps:=⟨h.size,fun p hp=>by obtain ⟨t,_,rfl⟩:=List.mem_map.1 hp;rfl⟩
theorem H0 {n:Nat} {ts:List Nat} {tmps tmps':Array Value} (h:px (zc n ts tmps) tmps') {t:Nat} (ht:t ∈ ts):tmps'.getD t undef=tmps.getD t undef:=h.fix _ (List.mem_map.2 ⟨t,ht,rfl⟩)
theorem Tz {n:Nat} {ts:List Nat} {tmps tmps':Array Value} (h:px (zc n ts tmps) tmps') {us:List Nat} (hu:∀ u ∈ us,u ∈ ts):us.map (fun t=>tmps'.getD t undef)=us.map (fun t=>tmps.getD t undef):=List.map_congr_left fun t ht=>H0 h (hu t ht)
theorem Rel.stay {b0 b1:Nat} {K K':Nat→Nat→Prop} {w w':World} {a:AV} {v:Value} (hb0:∀ b,b0≤b→(∀ j,K b j)→b1≤b) (hK:∀ b j,K b j→K' b j) (hh:∀ b j,K b j→w'.heap[b]? = w.heap[b]?) (h:Rel (gK b0 K) w a v):Rel (gK b1 K') w' a v:=by
 have hno:∀ o p,(gK b0 K).inj o≠some p:=fun o p e=>by cases e
 generalize hg:gK b0 K=g0 at h hno
 have hK0:∀ b j,g0.K b j→K b j:=by subst hg;exact fun _ _ h=>h
 have hb:g0.b0=b0:=by subst hg;rfl
 clear hg
 have hc:∀ (b j:Nat),g0.K b j→w'.cell? ⟨b,j,none⟩=w.cell? ⟨b,j,none⟩:=fun b j hk=>ly (hh b j (hK0 b j hk))
 induction h with
 |sc x=>exact .sc x
 |agg l vs hs _ ih=>exact .agg l vs hs ih
 |gw l vs hs _ ih=>exact .gw l vs hs ih
 |vl loc sz es b off cap c hsz hl hcap h _ hw ih=>
  refine .vl loc sz es b off cap c hsz (fun e=>hb0 b (by rw [← hb];exact hl e) (fun j=>hK0 _ _ ((hw e).K j))) hcap (fun j a hj=>⟨hK _ _ (hK0 _ _ (h j a hj).1),(hc _ _ (h j a hj).1).trans (h j a hj).2⟩) ih (fun e=>?_)
  obtain ⟨w1,⟨cs,e,w2,w3⟩,w4,w5⟩:=hw e
  exact ⟨fun j=>hK _ _ (hK0 _ _ (w1 j)),⟨cs,e,(hh b 0 (hK0 _ _ (w1 0))).trans w2,w3⟩,w4,w5⟩
 |jh loc sz=>exact .jh loc sz
 |o0 loc sz a=>exact .o0 loc sz a
 |sl o off len sz b base cap hi hc hm hr=>exact (hno _ _ hi).elim
 |pv o off sz a=>exact .pv o off sz a
 |qn o off sz=>exact .qn o off sz
 |ez a=>exact .ez a
 |ptr o off b base hi=>exact (hno _ _ hi).elim
 |er l b off c h _ ih=>exact .er l b off c (fun j a hj=>⟨hK _ _ (hK0 _ _ (h j a hj).1),(hc _ _ (h j a hj).1).trans (h j a hj).2⟩) ih
 |fn f first captured va vb hs _ hs' _ ih ih'=>exact .fn f first captured va vb hs ih hs' ih'
 |mp o b base hi=>exact (hno _ _ hi).elim
 |nm t a v _ ih=>exact .nm t a v ih
 |yl o b base hi=>exact (hno _ _ hi).elim
 |bad v=>exact .bad v
theorem Rel.low {S:Nat→Prop} {w1 D ds w} (h:yf S w1 D ds w) (hS:∀ b,b<w1.heap.size→¬ S b) {a:AV} {v:Value} (hr:Rel (gK w1.heap.size (rk w1)) w1 a v):Rel (gK w.heap.size (rk w)) w a v:=
 hr.stay (K:=rk w1) (K':=rk w) (fun b h1 h2=>absurd (h2 0) (Nat.not_lt.2 h1)) (fun b _ (hk:b<w1.heap.size)=>Nat.lt_of_lt_of_le hk h.size) (fun b _ (hk:b<w1.heap.size)=>h.low b hk (hS b hk))
theorem be.low {S:Nat→Prop} {w1 D ds w} (h:yf S w1 D ds w) (hS:∀ b,b<w1.heap.size→¬ S b) {l:List AV} {vs:List Value} (hr:be (gK w1.heap.size (rk w1)) w1 l vs):be (gK w.heap.size (rk w)) w l vs:=⟨hr.1,fun i a v ha hv=>(hr.2 i a v ha hv).low h hS⟩
theorem yf.fin {B:ed} {nt0 nt:NT} {L st g a1 w1} (hp:B.ar=0) (hnf:B.ld) (hn0:B.n0≤B.w.heap.size) (h1:jz B nt L st g a1 w1) {S:Nat→Prop} {a:Act} {w:World} (hm:yf S w1 a1.defers a.defers w) (hS:∀ b,b<w1.heap.size→¬ S b) (hO:∀ b,¬ B.O b) {r:Nat} {v:Value} (hnt:px nt0 a.tmps) (hv:a.tmps.getD r undef=v) {Q:QL} {e:Ex} (hq:Q e [(r,.sc v)] (bk [])):Fin B nt0 Q (qp e) a w:=by
 have hb:=h1.cur.base
 have hok:=h1.cur.ok
 have hlow:∀ b,b<w1.heap.size→w.heap[b]? = w1.heap[b]? := fun b hlt=>hm.low b hlt (hS b hlt)
 have hKl:∀ b j,B.K b j→b<w1.heap.size:=fun b j hk=>hok.K b j (hb.K b j hk)
 refine Fin.mk' (g:={ b0:=B.b0,inj:=fun _=>none,K:=B.K }) hq ⟨⟨?_,fun o x hx=>?_,fun o o' x x' b base base' _ hx=>?_,fun b j hk=>Nat.lt_of_lt_of_le (hKl b j hk) hm.size⟩,fun o _ _=>rfl,⟨rfl,fun o ho=>?_,fun _ _ h=>h,fun b j hk=>?_,Nat.le_trans hb.size hm.size,hm.os.trans hb.os,hm.tape.trans hb.tape,hm.output.trans hb.output,fun b hlt hn=>?_,fun o b base ho=>?_,fun _ _ h=>.inl h,fun b cs e fr h=>?_,fun b l h=>?_,fun b cs e fr h hk=>?_⟩,by rw [hp];exact Nat.zero_le _⟩ ⟨hnt,fun t=>?_⟩ ?_
 ·have:=hok.size;rw [hb.b0] at this;exact Nat.le_trans this hm.size
 ·simp [bk,kr,Tr.get_nil] at hx
 ·simp [bk,kr,Tr.get_nil] at hx
 ·rcases ho with ho|ho
  ·rw [hp] at ho;cases ho
  ·exact (hnf o ho).elim
 ·exact (ly (hlow b (hKl b j hk))).trans (hb.cell b j hk)
 ·have hlt1:=Nat.lt_of_lt_of_le hlt hb.size
  exact (hlow b hlt1).trans (hb.frame b hlt hn)
 ·simp [bk,kr,Tr.get_nil] at ho
 ·obtain ⟨cs',fr',q1,q2⟩:=hb.ja b cs e fr h
  exact ⟨cs',fr',(hlow b (a9 q1)).trans q1,q2⟩
 ·obtain ⟨l',q1⟩:=hb.lp b l h
  exact ⟨l',(hlow b (a9 q1)).trans q1⟩
 ·have q1:=hb.whole b cs e fr h hk
  exact (hlow b (a9 (q1.trans h))).trans q1
 ·rw [qq]
  by_cases e:r=t
  ·subst e;rw [if_pos rfl,hv];exact .sc _
  ·rw [if_neg e];exact .bad _
 ·obtain ⟨bs,e1,e2,e3⟩:=hm.Ra
  obtain ⟨cs,c1,c2,c3⟩:=h1.Ra
  refine ⟨bs++cs,by rw [e1,c1,List.map_append,List.append_assoc],?_,fun b hb'=>?_⟩
  ·rw [List.nodup_append]
   refine ⟨e2,c2,fun x hx y hy e=>?_⟩
   subst e
   have h2:=a9 (c3 x hy).2.1
   have h3:=(e3 x hx).1
   omega
  ·have hun:gi { b0:=B.b0,inj:=fun _=>none,K:=B.K } (bk []).h b:=fun o base ho=>by simp [bk,kr,Tr.get_nil] at ho
   rcases List.mem_append.1 hb' with hb'|hb'
   ·exact ⟨Nat.le_trans hn0 (Nat.le_trans hb.size (e3 b hb').1),(e3 b hb').2,hun⟩
   ·have q:=c3 b hb'
    exact ⟨q.1,(hlow b (a9 q.2.1)).trans q.2.1,hun⟩
def aci (x:Operand):Option Nat:=
 match x with
 |.tmp t=>some t
 |_=>none
def adf (o:Oper):Option (Option Nat × Nat × List Nat):=
 match o.op,o.guard with
 |.call { callee:=.value (.func f),args,.. },none=>(args.toList.mapM aci).map fun ts=>(o.dst,f,ts)
 |_,_=>none
def Dp (ops:Array Oper) (n:Nat):Option (Option Nat × Nat × List Nat):=
 match ops.toList.drop n with
 | [o]=>adf o
 |_=>none
theorem Ze:∀ {l:List Operand} {ts:List Nat},l.mapM aci=some ts→l=ts.map Operand.tmp
 | [],ts,h=>by simp at h;subst h;rfl
 |x::l,ts,h=>by
  simp only [List.mapM_cons,Option.bind_eq_bind,Option.bind_eq_some_iff] at h
  obtain ⟨t,h1,us,h2,h3⟩:=h
  cases h3
  cases x with
  |tmp u=>simp only [aci,Option.some.injEq] at h1;subst h1;rw [List.map_cons,Ze h2]
  |_=>cases h1
theorem Xy {ops:Array Oper} {n f:Nat} {d:Option Nat} {args:List Nat} (h:Dp ops n=some (d,f,args)):∃ c ts pos af ty,ops.toList.drop n=[⟨d,.call { callee:=.value (.func f),args:=(args.map Operand.tmp).toArray,argTypes:=ts },ty,pos,af,none⟩]∧c=():=by
 unfold Dp at h
 split at h
 ·rename_i o ho
  obtain ⟨dst,op,ty,pos,af,gd⟩:=o
  unfold adf at h
  split at h
  ·rename_i f' aa ats h1 h2
   simp only [Option.map_eq_some_iff,Prod.mk.injEq] at h
   obtain ⟨ts,h3,rfl,rfl,rfl⟩:=h
   subst h1 h2
   refine ⟨(),ats,pos,af,ty,?_,rfl⟩
   rw [ho,← Ze h3]
  ·cases h
 ·cases h
theorem Xn {P:Program} [KP P] {T:du} (hT:ak P T) {B:ed} {nt:NT} (hnf:B.ld) {N id n:Nat} {ops:Array Oper} {K:SL→St→Prop} {X:Exit→Act→World→Prop} {L st g a w} (hs:dq nt (.region id ops false)=true)
 {f:Nat} {args:List Nat} {d:Option Nat} (hl:Dp ops n=some (d,f,args)) (he:m7 P f=true)
 (h:opsL P T ops (ops.toList.take n) K L st) (hh:jz B nt L st g a w)
 (hK:∀ L' st' g' a' w',K L' st'→jz B nt L' st' g' a' w'→Calls P f (args.map fun t=>a'.tmps.getD t undef).toArray w' (fun e w''=>∃ r,e = .returned r∧∀ a'',a''.defers=a'.defers→px nt a''.tmps→(∀ dd,d=some dd→a''.tmps.getD dd undef=r)→X .normal a'' w'')) :
 (Code.region id ops false).wpIn (gk none) N P X a w:=by
 simp only [dq,Bool.and_eq_true] at hs
 obtain ⟨hd,hg⟩:=hs
 obtain ⟨_,ts,pos,af,ty,hl,_⟩:=Xy hl
 have key:∀ (l:List Oper) (is:List Nat),(∀ o ∈ l,o ∈ ops)→is.map (fun i=>ops[i]?)=(l++ops.toList.drop n).map some→∀ L st g a w,opsL P T ops l K L st→jz B nt L st g a w→wpOpsIn (gk none) N P ops X is a w:=by
  intro l
  induction l with
  |nil=>
   intro is _ his L st g a w h hh
   rw [hl,List.nil_append] at his
   match is,his with
   | [i],his=>
    simp only [List.map_cons,List.map_nil,List.cons.injEq,and_true] at his
    have hK':=hK L st g a w h hh
    have ho:(⟨d,.call { callee:=.value (.func f),args:=(args.map Operand.tmp).toArray,argTypes:=ts },ty,pos,af,none⟩:Oper) ∈ ops:=by
     have:(⟨d,.call { callee:=.value (.func f),args:=(args.map Operand.tmp).toArray,argTypes:=ts },ty,pos,af,none⟩:Oper) ∈ ops.toList.drop n:=by rw [hl];exact List.mem_singleton.2 rfl
     exact Array.mem_toList_iff.1 (List.mem_of_mem_drop this)
    simp only [wpOpsIn,his]
    have hw:Region.wanted (⟨d,.call { callee:=.value (.func f),args:=(args.map Operand.tmp).toArray,argTypes:=ts },ty,pos,af,none⟩:Oper) (yielded ops a.tmps)=true:=by simp [Region.wanted]
    rw [hw,if_pos rfl]
    refine ⟨kl none P _ a w,?_⟩
    rw [Oper.semAt_eq _ _ _ (by intro c e;cases e)]
    have hrun:(execOp a.eval (⟨d,.call { callee:=.value (.func f),args:=(args.map Operand.tmp).toArray,argTypes:=ts },ty,pos,af,none⟩:Oper)).run P w=(callFunc f (args.map fun t=>a.tmps.getD t undef).toArray).run P w:=by
     rw [Ed (h:=f) (first:=#[]) (captured:=#[]) (f:=.func f) rfl rfl]
     congr 2
     apply Array.ext'
     simp [Act.eval]
    rw [hrun,s6 he]
    refine ⟨(fun h=>(by cases h)),(p0 (ro:=none) (n:=N - 1) hK').mono ?_⟩
    rintro e w' ⟨r,rfl,hX⟩
    have hdd:=fun dd (e:d=some dd)=>pf hd ho dd e
    show wpOpsIn (gk none) N P ops X [] (a.put d r) w'
    refine hX _ (put_defers _ _ _) (hh.sl.1.put hdd) (fun dd e=>?_)
    subst e
    have:=(NT.Fx (hdd dd rfl)).1
    show (a.tmps.setIfInBounds dd r).getD dd undef=r
    rw [Array.getD_eq_getD_getElem?,Array.getElem?_setIfInBounds,if_pos rfl,if_pos (by rw [hh.sl.1.size];exact this)];rfl
   | [],his=>cases his
   |_::_::_,his=>simp at his
  |cons o l ih=>
   intro is hmem his L st g a w h hh
   obtain ⟨hc,hr,hdf⟩:=hh
   cases is with
   |nil=>cases his
   |cons i is=>
    simp only [List.cons_append,List.map_cons,List.cons.injEq] at his
    obtain ⟨hi,his⟩:=his
    have ho:=hmem o (by simp)
    simp only [wpOpsIn,hi]
    rcases Dh hr (Ea hg ho) h with ⟨hw,h1⟩|⟨hw,h1⟩
    ·rw [hw,if_pos rfl]
     unfold Oi C0 at h1
     cases hop:g9 P T o (dr L) st with
     |none=>
      rw [hop] at h1
      refine Uy hc.ok (fun o ho=>hc.fresh o ho (hnf o)) hr.eval h1 none N _ _ ?_
      rintro u w' ⟨g',v,st',q0,q1,q2,q3,q4⟩
      exact ih is (fun o ho=>hmem o (by simp [ho])) his _ st' g' _ w' q0 ⟨hc.step (hnf.Cc _ _) ⟨q1,q2⟩ q3,(hr.ext q2.ext).put q4 (pf hd ho),by rw [put_defers];exact hdf.step q2⟩
     |some p=>
      obtain ⟨v,st'⟩:=p
      rw [hop] at h1
      refine Kd hT hc.ok (hc.free (hnf.Cc _ _)) hr.eval hop none N _ _ ?_
      rintro u w' ⟨g',q1,q2,q3⟩
      exact ih is (fun o ho=>hmem o (by simp [ho])) his _ st' g' _ w' h1 ⟨hc.step (hnf.Cc _ _) ⟨Am hop,q1⟩ q2,(hr.ext q1.ext).put q3 (pf hd ho),by rw [put_defers];exact hdf.step q1⟩
    ·rw [hw,if_neg (by simp)]
     refine ⟨kl none P o a w,?_⟩
     exact ih is (fun o ho=>hmem o (by simp [ho])) his _ st g _ w h1 ⟨hc,hr.put (.sc _) (pf hd ho),by rw [put_defers];exact hdf⟩
 refine wpIn_region ?_
 exact key (ops.toList.take n) (List.range ops.size) (fun o ho=>Array.mem_toList_iff.1 (List.mem_of_mem_take ho)) (by rw [List.take_append_drop];exact Fu ops) L st g a w h hh
def ox:Nat→Code→Code
 |0,.seq a _=>a
 |n+1,.seq _ b=>ox n b
 |_,_=>.skip
def Ei:Code→Array Oper
 |.region _ ops _=>ops
 |_=>#[]
def idC:Code→Nat
 |.region i _ _=>i
 |_=>0
theorem re {a b:Code}:ox 0 (.seq a b)=a:=rfl
theorem rh {n:Nat} {a b:Code}:ox (n+1) (.seq a b)=ox n b:=rfl
theorem tg {i ops d}:Ei (.region i ops d)=ops:=rfl
theorem K4:∀ {n:Nat} {c:Code},Kt (n+1) c=true→mn n c = .seq (ox n c) (mn (n+1) c)
 |0,.seq a b,_=>rfl
 |n+1,.seq a b,h=>K4 (n:=n) (c:=b) h
theorem Y9 (n:Nat) (ts:List Nat) (x y:Array Value) (t:Nat):(zc n ts x).has t=(zc n ts y).has t:=by
 unfold NT.has zc
 rw [List.all_map,List.all_map]
 rfl
theorem Bi {n:Nat} {ts:List Nat} {x y:Array Value}:∀ {c:Code},dq (zc n ts x) c=true→dq (zc n ts y) c=true:=by
 intro c
 induction c with
 |region i ops d=>
  intro h
  simp only [dq,yu,sd,Y9 n ts y x] at h ⊢
  exact h
 |seq a b iha ihb=>intro h;simp only [dq,Bool.and_eq_true] at h ⊢;exact ⟨iha h.1,ihb h.2⟩
 |cond c a b iha ihb=>intro h;simp only [dq,Bool.and_eq_true] at h ⊢;exact ⟨iha h.1,ihb h.2⟩
 |block i b ih=>intro h;exact ih h
 |loop b ih=>intro h;exact ih h
 |scope b ih=>intro h;exact ih h
 |rangeFunc f ps a b iha ihb=>
  intro h
  simp only [dq,Bool.and_eq_true,Y9 n ts y x] at h ⊢
  exact ⟨⟨⟨⟨h.1.1.1.1,iha h.1.1.1.2⟩,ihb h.1.1.2⟩,h.1.2⟩,h.2⟩
 |_=>intro _;rfl
theorem Pv {P:Program} [KP P] {T:du} (hT:ak P T) {B:ed} {nt:NT} (hnf:B.ld) {N k n:Nat} {c:Code} (hsp:Kt (k+1) c=true) (hreg:ox k c = .region (idC (ox k c)) (Ei (ox k c)) false) (hs:dq nt (ox k c)=true)
 {d:Option Nat} {f:Nat} {args:List Nat} (hcall:Dp (Ei (ox k c)) n=some (d,f,args)) (he:m7 P f=true) {K:SL→St→Prop} {L st g a w} (h:opsL P T (Ei (ox k c)) ((Ei (ox k c)).toList.take n) K L st) (hh:jz B nt L st g a w) {X:Exit→Act→World→Prop}
 (hK:∀ L' st' g' a' w',K L' st'→jz B nt L' st' g' a' w'→Calls P f (args.map fun t=>a'.tmps.getD t undef).toArray w' (fun e w''=>∃ r,e = .returned r∧∀ a'',a''.defers=a'.defers→px nt a''.tmps→(∀ dd,d=some dd→a''.tmps.getD dd undef=r)→(mn (k+1) c).wpIn (gk none) N P X a'' w'')) :
 (mn k c).wpIn (gk none) N P X a w:=by
 rw [K4 hsp]
 refine wpIn_seq ?_
 rw [hreg] at hs ⊢
 exact Xn hT hnf hs hcall he h hh hK
end
end Go.Vm
namespace Go.Vm
variable [TK]
theorem jz.exact {B:ed} {nt L st g a w} (hh:jz B nt L st g a w) {t:Nat} {x:Value} (h:lk L t = .sc x):a.tmps.getD t undef=x:=by
 have:=hh.sl.2 t
 rw [h] at this
 exact this.exact rfl
theorem jz.box {B:ed} {nt L st g a w} (hh:jz B nt L st g a w) {t o k:Nat} {cells:List AV} {et:TypeId} (hl:lk L t = .ptr o 0) (ho:st.h.get o=some (.row cells k 2 et)) :
 ∃ b cs,a.tmps.getD t undef = .pointer (some ⟨b,0,none⟩)∧B.b0≤b∧w.heap[b]? = some (.cells cs et (0,0))∧be g w cells cs.toList:=by
 have h1:=hh.sl.2 t
 rw [hl] at h1
 obtain ⟨v,hv⟩:∃ v,a.tmps.getD t undef=v:=⟨_,rfl⟩
 rw [hv] at h1 ⊢
 cases h1 with
 |ptr _ _ b base hi=>
  obtain ⟨b',base',q1,q2,cs,fr,q3,q4,q5,q6,q7,q8,q9,q10⟩:=hh.cur.ok.obj o _ ho
  rw [hi] at q1;cases q1
  have hf:=q8 (by decide)
  obtain ⟨e1,e2⟩:=q9 rfl
  subst hf e1
  refine ⟨b,cs,rfl,by rw [← hh.cur.base.b0];exact q2,q3,by simp [e2],fun i x v hx hv=>?_⟩
  obtain ⟨c,hc,hr⟩:=q5 i x hx
  rw [Nat.zero_add,← Array.getElem?_toList,hv] at hc
  cases hc;exact hr
theorem jz.u0 {B:ed} {nt L st g a w} (hh:jz B nt L st g a w) {S:Nat→Prop} {N t o k n sz:Nat} {cells:List AV} {et:TypeId} {E:World→List Value→Prop} (hS:∀ b,B.b0≤b→S b) (hN:n≤N) (hl:lk L t = .sl o 0 n sz) (ho:st.h.get o=some (.row cells k 0 et)) (hts:TK.sz et=some sz) (hlen:cells.length=n * sz)
 (hE:∀ j vs,j<n→be g w ((cells.drop (j * sz)).take sz) vs→E w vs):jr S N w sz E (a.tmps.getD t undef):=by
 have h1:=hh.sl.2 t
 rw [hl] at h1
 obtain ⟨v,hv⟩:∃ v,a.tmps.getD t undef=v:=⟨_,rfl⟩
 rw [hv] at h1 ⊢
 cases h1 with
 |pv _ _ _ a=>exact .inl ⟨some a,rfl⟩
 |qn _ _ _=>exact .inl ⟨none,rfl⟩
 |sl _ _ _ _ b base cap hi hc hm hr=>
  obtain ⟨b',base',q1,q2,cs,fr,q3,q4,q5,q6,q7,q8,q9,q10⟩:=hh.cur.ok.obj o _ ho
  rw [hi] at q1;cases q1
  have hf:=q8 (by decide)
  have hs:=q10 rfl
  have e1:=hs.1
  subst hf e1
  obtain ⟨cs1,e2,fr1,r1,r2⟩:=hr
  rw [q3] at r1;cases r1
  refine .inr ⟨b,0,n,cap,cs,et,rfl,hN,hS b (by rw [← hh.cur.base.b0];exact q2),⟨hc,hm⟩,q3,hts,by simp,by omega,fun j hj=>hE j _ hj ⟨by simp;have:=Nat.mul_le_mul_right sz (show j+1≤n by omega);rw [Nat.succ_mul] at this;omega,fun i x v hx hv=>?_⟩⟩
  rw [List.getElem?_take] at hx
  by_cases hil:i<sz
  ·rw [if_pos hil,List.getElem?_drop] at hx
   obtain ⟨c,hc,hr⟩:=q5 _ x hx
   rw [List.getElem?_map,List.getElem?_range hil] at hv
   simp only [Option.map_some,Option.some.injEq,Nat.zero_add] at hv hc
   rw [Array.getD_eq_getD_getElem?,hc] at hv
   simp only [Option.getD_some] at hv
   rw [← hv];exact hr
  ·rw [if_neg hil] at hx;cases hx
theorem Ou {g:Gh} {w:World} {b:Nat} {cs:Array Value} {e:TypeId} {fr:Nat × Nat} (h:w.heap[b]? = some (.cells cs e fr)) (hK:∀ j,g.K b j):Rel g w (.er (cs.toList.map .sc)) (.pointer (some ⟨b,0,none⟩)):=by
 refine .er _ b 0 (fun j=>cs.getD j undef) (fun j a ha=>⟨hK _,?_⟩) (fun j a ha=>?_)
 ·rw [List.getElem?_map,Option.map_eq_some_iff] at ha
  obtain ⟨x,hx,rfl⟩:=ha
  rw [Nat.zero_add]
  exact cell_of h (by have:=(List.getElem?_eq_some_iff.1 hx).1;simpa using this)
 ·rw [List.getElem?_map,Option.map_eq_some_iff] at ha
  obtain ⟨x,hx,rfl⟩:=ha
  rw [Array.getElem?_toList] at hx
  rw [Array.getD_eq_getD_getElem?,hx]
  exact .sc x
theorem ah3 {g:Gh} {w:World} {tmps:Array Value}:∀ {Ls:SL},(∀ p ∈ Ls,Rel g w p.2 (tmps.getD p.1 undef))→∀ t,Rel g w (lk Ls t) (tmps.getD t undef)
 | [],_,t=>.bad _
 |p::Ls,h,t=>by
  rw [qq]
  by_cases e:p.1=t
  ·rw [if_pos e,← e];exact h p (by simp)
  ·rw [if_neg e];exact ah3 (fun q hq=>h q (by simp [hq])) t
theorem jz.quiet {w0:World} {D:List Deferred} {nt L st g a w} (hh:jz (S1 w0 D) nt L st g a w) (S:Nat→Prop) (m:Nat) (xx:Bool):fy S m xx w0 w:=by
 have hb:=hh.cur.base
 exact .quiet S m xx hb.size hb.os hb.tape hb.output (fun b h=>hb.frame b h (fun h=>h))
theorem jz.aoc {B:ed} {nt L st g a w} (hh:jz B nt L st g a w):s8 g st.h (rk w):=⟨fun b j hk=>hh.cur.ok.K b j hk,fun o cells k s e ho b base hi j hj=>by
 obtain ⟨b',base',h5,_,h6⟩:=hh.cur.ok.obj o _ ho
 rw [hi] at h5;cases h5
 exact h6.lt⟩
theorem jz.abh {B:ed} {nt L st g a w} (hh:jz B nt L st g a w) {α:Type} (C:cq α) {x : α} {vs:List Value} (h:be g w (C.cells true x) vs):be (gK B.b0 (rk w)) w (C.cells true x) vs:=
 C.ok hh.cur.ok hh.aoc (fun _=>Nat.le_of_eq hh.cur.base.b0.symm) h (C.rt true st.h true x (fun _=>rfl))
theorem O2 {S:Nat→Prop} {m M sz b:Nat} {xx:Bool} {w w':World} {cs:Array Value} {e:TypeId} {E:Nat→World→List Value→Prop} (hE:Hn S sz E) (hM : 4≤M) (ho:fy S m xx w w') (hb:w.heap[b]? = some (.cells cs e (0,0))) (hs:TK.sz e=some sz) (hl:cs.size=sz) (h:E M w cs.toList) :
 ∃ cs',w'.heap[b]? = some (.cells cs' e (0,0))∧cs'.size=sz∧E (M+m) w' cs'.toList:=by
 obtain ⟨cs',q1,q2,q3⟩:=ho.cells b cs e _ hb
 refine ⟨cs',q1,q2.trans hl,hE (j0:=0) hM ho hs (Nat.zero_mod _) (by simpa using hl) (by simp [q2,hl]) (fun i x x' hx hx'=>?_) h⟩
 rw [Array.getElem?_toList] at hx hx'
 rw [Nat.zero_add]
 exact q3 i x x' hx hx'
theorem Dr {g:Gh} {w:World}:∀ {l vs:List Value},be g w (l.map .sc) vs→vs=l
 | [],[],_=>rfl
 | [],v::vs,h=>by have:=h.1;simp at this
 |x::l,[],h=>by have:=h.1;simp at this
 |x::l,v::vs,h=>by rw [h.head.exact rfl,Dr h.tail]
theorem afw {nt:NT} {n:Nat} {tmps:Array Value} (h:px nt tmps) (hn:nt.n=n):px (n:NT) tmps:=⟨by rw [h.size,hn],fun p hp=>by cases hp⟩
end Go.Vm
namespace Go.Vm
variable [TK]
noncomputable section
section
variable (P : Program) (ρ : Operand → AV) (d : Option Tmp) (ty : TypeId) (pos : String) (af : Array Edge) (gd : Option (Nat × Bool)) (t u : TypeId) (x y : Operand)
theorem Gp (op:BinOp) (k k':IntKind) (a b:Int) (hx : ρ x = .sc (.int k a)) (hy : ρ y = .sc (.int k' b)) :
 mg P ρ ⟨d,.binOp op t x y u,ty,pos,af,gd⟩ op t (.sc (.int k a)) (.sc (.int k' b))=M.of ((ev P (binOp op t (.int k a) (.int k' b))).map .sc):=by
 have h1:∀ s:Sem Value,ev P (do pure (Next.value (← s)))=(ev P s).map Next.value:=by
  intro s
  induction s with
  |pure b=>rfl
  |program k ih=>exact ih P
  |choose q k ih=>
   simp only [bind,Sem.bind,ev]
   split
   ·exact ih 0
   ·rfl
  |mark m k ih=>exact ih
  |_=>rfl
 have h2:execOp (fun z=>((ρ z).ft).getD undef) ⟨d,.binOp op t x y u,ty,pos,af,gd⟩=(do pure (Next.value (← (do eqGuard op t x y (.int k a) (.int k' b);binOp op t (.int k a) (.int k' b))))):=by
  simp only [execOp,hx,hy,AV.ft,Option.getD_some]
 have h3:ev P (do eqGuard op t x y (.int k a) (.int k' b);binOp op t (.int k a) (.int k' b))=ev P (binOp op t (.int k a) (.int k' b)):=by
  cases op<;>rfl
 unfold mg oz
 simp only [AV.ft,Option.isSome_some,Bool.and_self,cond_true]
 rw [h2,h1,h3]
 cases ev P (binOp op t (.int k a) (.int k' b))<;>rfl
theorem afu (k k':IntKind) (a b:Int) (h : 0≤b):ev P (binOp .shl t (.int k a) (.int k' b))=some (.int k (k.wrap (a * 2 ^ (min b.toNat k.bits)))):=by
 have:¬ b<0:=by omega
 simp [binOp,Op.shift,this,zt]
theorem af8 (k k':IntKind) (a b:Int) (h : 0≤b):ev P (binOp .shr t (.int k a) (.int k' b))=some (.int k (a.fdiv (2 ^ (min b.toNat k.bits)))):=by
 have:¬ b<0:=by omega
 simp [binOp,Op.shift,this,zt]
theorem Et (op:BinOp) (a b:Bool) (hx : ρ x = .sc (.bool a)) (hy : ρ y = .sc (.bool b)) :
 mg P ρ ⟨d,.binOp op t x y u,ty,pos,af,gd⟩ op t (.sc (.bool a)) (.sc (.bool b))=M.of ((ev P (binOp op t (.bool a) (.bool b))).map .sc):=by
 have h1:∀ s:Sem Value,ev P (do pure (Next.value (← s)))=(ev P s).map Next.value:=by
  intro s
  induction s with
  |pure b=>rfl
  |program k ih=>exact ih P
  |choose q k ih=>
   simp only [bind,Sem.bind,ev]
   split
   ·exact ih 0
   ·rfl
  |mark m k ih=>exact ih
  |_=>rfl
 have h2:execOp (fun z=>((ρ z).ft).getD undef) ⟨d,.binOp op t x y u,ty,pos,af,gd⟩=(do pure (Next.value (← (do eqGuard op t x y (.bool a) (.bool b);binOp op t (.bool a) (.bool b))))):=by
  simp only [execOp,hx,hy,AV.ft,Option.getD_some]
 have h3:ev P (do eqGuard op t x y (.bool a) (.bool b);binOp op t (.bool a) (.bool b))=ev P (binOp op t (.bool a) (.bool b)):=by
  cases op<;>rfl
 unfold mg oz
 simp only [AV.ft,Option.isSome_some,Bool.and_self,cond_true]
 rw [h2,h1,h3]
 cases ev P (binOp op t (.bool a) (.bool b))<;>rfl
theorem Wl {d:TypeDesc} (h:P.underlying t=some d):ev P (underlying t)=some d:=by
 rw [underlying]
 show ev P (match P.underlying t with|some d=>pure d|none=>_)=_
 rw [h];rfl
theorem S7 (n:Nat) (a b:Bool) (h:P.underlying t=some .bool):ev P (Op.equalIn (n+1) t (.bool a) (.bool b))=some (a == b):=by
 simp only [Op.equalIn]
 rw [r9,Wl P t h]
 rfl
theorem Jg (a b:Bool) (h:P.underlying t=some .bool):ev P (binOp .neq t (.bool a) (.bool b))=some (.bool (a != b)):=by
 show ev P (do pure (Value.bool (!(← Op.equalIn (9999+1) t (.bool a) (.bool b)))))=_
 rw [r9,S7 P t 9999 a b h]
 rfl
theorem Fi (op:BinOp) (a b:ByteArray) (hx : ρ x = .sc (.string a)) (hy : ρ y = .sc (.string b)) :
 mg P ρ ⟨d,.binOp op t x y u,ty,pos,af,gd⟩ op t (.sc (.string a)) (.sc (.string b))=M.of ((ev P (binOp op t (.string a) (.string b))).map .sc):=by
 have h1:∀ s:Sem Value,ev P (do pure (Next.value (← s)))=(ev P s).map Next.value:=by
  intro s
  induction s with
  |pure b=>rfl
  |program k ih=>exact ih P
  |choose q k ih=>
   simp only [bind,Sem.bind,ev]
   split
   ·exact ih 0
   ·rfl
  |mark m k ih=>exact ih
  |_=>rfl
 have h2:execOp (fun z=>((ρ z).ft).getD undef) ⟨d,.binOp op t x y u,ty,pos,af,gd⟩=(do pure (Next.value (← (do eqGuard op t x y (.string a) (.string b);binOp op t (.string a) (.string b))))):=by
  simp only [execOp,hx,hy,AV.ft,Option.getD_some]
 have h3:ev P (do eqGuard op t x y (.string a) (.string b);binOp op t (.string a) (.string b))=ev P (binOp op t (.string a) (.string b)):=by
  cases op<;>rfl
 unfold mg oz
 simp only [AV.ft,Option.isSome_some,Bool.and_self,cond_true]
 rw [h2,h1,h3]
 cases ev P (binOp op t (.string a) (.string b))<;>rfl
theorem str_eq (a b:ByteArray):(a.toList == b.toList)=decide (a=b):=by
 rw [ByteArray.toList_eq,ByteArray.toList_eq,Bool.eq_iff_iff]
 simp only [beq_iff_eq,decide_eq_true_eq]
 constructor
 ·intro h
  cases a;cases b
  congr 1
  exact Array.ext' h
 ·intro h;rw [h]
theorem Mo (a b:ByteArray):ev P (binOp .eql t (.string a) (.string b))=some (.bool (decide (a=b))):=by
 rw [← str_eq];rfl
theorem Ko (a b:ByteArray):ev P (binOp .neq t (.string a) (.string b))=some (.bool (!decide (a=b))):=by
 rw [← str_eq];rfl
end
def Hp (u:Option TypeDesc):Bool:=match u with|some (.slice _)=>true|_=>false
theorem Zo (e):Hp (some (.slice e))=true:=id rfl
theorem Zv {u} (h:Hp u=true):∃ e,u=some (.slice e):=by
 unfold Hp at h;split at h
 ·exact ⟨_,rfl⟩
 ·cases h
theorem aan {P:Program} {t op x y} (h:Hp (P.underlying t)=true):Hk P t op x y=Hm op x y:=by
 obtain ⟨e,he⟩:=Zv h
 unfold Hk;rw [he]
theorem Mb (P:Program) (ρ o op t l sz es b):mg P ρ o op t (.vl l sz es) b=Hk P t op (.vl l sz es) b:=id rfl
theorem Zq (b):mq .eql b=M.pure (.sc (.bool b)):=id rfl
theorem C2 (P:Program) (ρ:Operand→AV) (d ty pos af gd) (t u:TypeId) (x y:Operand) (op:BinOp) (a b:Option Addr) (n c m k:Nat) (hx : ρ x = .sc (.slice a n c)) (hy : ρ y = .sc (.slice b m k)) :
 mg P ρ ⟨d,.binOp op t x y u,ty,pos,af,gd⟩ op t (.sc (.slice a n c)) (.sc (.slice b m k))=M.of ((ev P (binOp op t (.slice a n c) (.slice b m k))).map .sc):=by
 have h1:∀ s:Sem Value,ev P (do pure (Next.value (← s)))=(ev P s).map Next.value:=by
  intro s
  induction s with
  |pure b=>rfl
  |program k ih=>exact ih P
  |choose q k ih=>
   simp only [bind,Sem.bind,ev]
   split
   ·exact ih 0
   ·rfl
  |mark m k ih=>exact ih
  |_=>rfl
 have h2:execOp (fun z=>((ρ z).ft).getD undef) ⟨d,.binOp op t x y u,ty,pos,af,gd⟩=(do pure (Next.value (← (do eqGuard op t x y (.slice a n c) (.slice b m k);binOp op t (.slice a n c) (.slice b m k))))):=by
  simp only [execOp,hx,hy,AV.ft,Option.getD_some]
 have h3:ev P (do eqGuard op t x y (.slice a n c) (.slice b m k);binOp op t (.slice a n c) (.slice b m k))=ev P (binOp op t (.slice a n c) (.slice b m k)):=by
  cases op<;>rfl
 unfold mg oz
 simp only [AV.ft,Option.isSome_some,Bool.and_self,cond_true]
 rw [h2,h1,h3]
 cases ev P (binOp op t (.slice a n c) (.slice b m k))<;>rfl
theorem Sq {P:Program} {t:TypeId} {a:Option Addr} {n c m k:Nat} (d:Nat) (h:Hp (P.underlying t)=true):ev P (Op.equalIn (d+1) t (.slice a n c) (.slice none m k))=some a.isNone:=by
 obtain ⟨e,he⟩:=Zv h
 simp only [Op.equalIn]
 rw [r9,Wl P t he]
 cases a<;>rfl
theorem F8 {P:Program} {t:TypeId} {a:Option Addr} {n c m k:Nat} (h:Hp (P.underlying t)=true):ev P (binOp .eql t (.slice a n c) (.slice none m k))=some (.bool a.isNone):=by
 show ev P (do pure (Value.bool (← Op.equalIn (9999+1) t (.slice a n c) (.slice none m k))))=_
 rw [r9,Sq 9999 h]
 rfl
end
end Go.Vm
section
set_option maxRecDepth 4000
namespace Go.Vm
theorem wR:type_of% @Zp∧type_of% @Qp∧type_of% @aff∧type_of% @Zj∧type_of% @Ux∧type_of% @Y7∧type_of% @Zz∧type_of% @afk∧type_of% @adx∧type_of% @aef∧type_of% @adp∧type_of% @afr∧type_of% @afj∧type_of% @ael∧type_of% @Zt∧type_of% @Zw∧type_of% @Zl∧type_of% @aes∧type_of% @adv∧type_of% @Pd∧type_of% @Uz∧type_of% @Qx∧type_of% @M7∧type_of% @Lh∧type_of% @Uo∧type_of% @U5∧type_of% @Uj∧type_of% @aae∧type_of% @V7∧type_of% @U0∧type_of% @Ro∧type_of% @Vf∧type_of% @Rh∧type_of% @Qs∧type_of% @Ts∧type_of% @Pu∧type_of% @afm∧type_of% @Cu∧type_of% @C3:=
 ⟨@Zp,@Qp,@aff,@Zj,@Ux,@Y7,@Zz,@afk,@adx,@aef,@adp,@afr,@afj,@ael,@Zt,@Zw,@Zl,@aes,@adv,@Pd,@Uz,@Qx,@M7,@Lh,@Uo,@U5,@Uj,@aae,@V7,@U0,@Ro,@Vf,@Rh,@Qs,@Ts,@Pu,@afm,@Cu,@C3⟩
theorem R0:type_of% @To∧type_of% @af5∧type_of% @nc0∧type_of% @nc1∧type_of% @Int.sub_zero∧type_of% @Int.sub_self∧type_of% @Int.add_zero∧type_of% @Na∧type_of% @agc∧type_of% @Qj∧type_of% @Xa∧type_of% @Zb∧type_of% @Jb∧type_of% @List.length_replicate.{0}∧type_of% @Ri∧type_of% @Ql∧type_of% @ad7∧type_of% @Bm∧type_of% @Ik∧type_of% @Hc∧type_of% @Vt∧type_of% @Vl∧type_of% @Ky∧type_of% @Eu∧type_of% @Up∧type_of% @aag∧type_of% @ad5∧type_of% @Jw∧type_of% @A5∧type_of% @J0∧type_of% @adr∧type_of% @aab∧type_of% @Iq∧type_of% @Mf∧type_of% @Ih∧type_of% @Fz∧type_of% @Qh∧type_of% @Me∧type_of% @Mp∧type_of% @List.length_append.{0}∧type_of% @rtT∧type_of% @rtF∧type_of% @Go.Vm.wy.eq_1∧type_of% @Go.Vm.bounds.eq_1∧type_of% @Go.Vm.Aa.eq_1∧type_of% @Go.Vm.Aa.eq_2:=
 ⟨@To,@af5,@nc0,@nc1,@Int.sub_zero,@Int.sub_self,@Int.add_zero,@Na,@agc,@Qj,@Xa,@Zb,@Jb,@List.length_replicate.{0},@Ri,@Ql,@ad7,@Bm,@Ik,@Hc,@Vt,@Vl,@Ky,@Eu,@Up,@aag,@ad5,@Jw,@A5,@J0,@adr,@aab,@Iq,@Mf,@Ih,@Fz,@Qh,@Me,@Mp,@List.length_append.{0},@rtT,@rtF,@Go.Vm.wy.eq_1,@Go.Vm.bounds.eq_1,@Go.Vm.Aa.eq_1,@Go.Vm.Aa.eq_2⟩
theorem R1:type_of% @Go.Vm.zu.eq_1∧type_of% @Go.Vm.zy.eq_def∧type_of% @C5∧type_of% @E5∧type_of% @Ij∧type_of% @te∧type_of% @Mk∧type_of% @Nat.div_one∧type_of% @M8∧type_of% @Lt∧type_of% @ae8∧type_of% @Jc∧type_of% @Mv∧type_of% @Jf∧type_of% @aiy∧type_of% @Y4∧type_of% @aah∧type_of% @aix∧type_of% @aiu∧type_of% @Z8∧type_of% @Qa∧type_of% @W0∧type_of% @Qu∧type_of% @B9∧type_of% @Eb∧type_of% @Ch∧type_of% @L9∧type_of% @Ps∧type_of% @Kr∧type_of% @My∧type_of% @P9∧type_of% @Nh:=
 ⟨@Go.Vm.zu.eq_1,@Go.Vm.zy.eq_def,@C5,@E5,@Ij,@te,@Mk,@Nat.div_one,@M8,@Lt,@ae8,@Jc,@Mv,@Jf,@aiy,@Y4,@aah,@aix,@aiu,@Z8,@Qa,@W0,@Qu,@B9,@Eb,@Ch,@L9,@Ps,@Kr,@My,@P9,@Nh⟩
theorem R2:type_of% @Zo∧type_of% @aan∧type_of% @Mb∧type_of% @Zq∧type_of% @C2∧type_of% @F8∧type_of% @Option.isNone_none.{0}∧type_of% @Option.isNone_some.{0}∧type_of% @Zc∧type_of% @I8∧type_of% @Fa∧type_of% @G9∧type_of% @Is∧type_of% @Gf∧type_of% @Qk∧type_of% @Xi∧type_of% @Pr∧type_of% @Gx∧type_of% @E9∧type_of% @Fp∧type_of% @Fe∧type_of% @C7∧type_of% @Uf∧type_of% @Ab∧type_of% @List.isEmpty_cons.{0}∧type_of% @List.isEmpty_nil.{0}∧type_of% @List.flatMap_nil.{0,0}∧type_of% @Jj∧type_of% @I9∧type_of% @L8∧type_of% @Mz∧type_of% @and_true∧type_of% @true_and∧type_of% @Jk∧type_of% @Qi∧type_of% @Z3∧type_of% @aec∧type_of% @and_self:=
 ⟨@Zo,@aan,@Mb,@Zq,@C2,@F8,@Option.isNone_none.{0},@Option.isNone_some.{0},@Zc,@I8,@Fa,@G9,@Is,@Gf,@Qk,@Xi,@Pr,@Gx,@E9,@Fp,@Fe,@C7,@Uf,@Ab,@List.isEmpty_cons.{0},@List.isEmpty_nil.{0},@List.flatMap_nil.{0,0},@Jj,@I9,@L8,@Mz,@and_true,@true_and,@Jk,@Qi,@Z3,@aec,@and_self⟩
theorem R3:type_of% @List.size_toArray.{0}∧type_of% @Qv∧type_of% @Tl∧type_of% @K8∧type_of% @Vq∧type_of% @E1∧type_of% @Q3∧type_of% @Wx∧type_of% @Qy∧type_of% @E6∧type_of% @Pz∧type_of% @Rk∧type_of% @C6∧type_of% @I6∧type_of% @Rc∧type_of% @Ng∧type_of% @Ti∧type_of% @Q7∧type_of% @Np∧type_of% @U8∧type_of% @Qw∧type_of% @O8∧type_of% @Ma∧type_of% @Lf∧type_of% @Jl∧type_of% @ajg∧type_of% @Wy∧type_of% @Qq∧type_of% @Jq∧type_of% @Fi∧type_of% @Mo∧type_of% @Ko∧type_of% @xo∧type_of% @Go.Vm.cellsIn.eq_1∧type_of% @Go.Vm.cellsIn.eq_2∧type_of% @Go.Vm.cellsIn.eq_5∧type_of% @Go.Vm.cellsIn.eq_6∧type_of% @Go.Vm.Ah.eq_1:=
 ⟨@List.size_toArray.{0},@Qv,@Tl,@K8,@Vq,@E1,@Q3,@Wx,@Qy,@E6,@Pz,@Rk,@C6,@I6,@Rc,@Ng,@Ti,@Q7,@Np,@U8,@Qw,@O8,@Ma,@Lf,@Jl,@ajg,@Wy,@Qq,@Jq,@Fi,@Mo,@Ko,@xo,@Go.Vm.cellsIn.eq_1,@Go.Vm.cellsIn.eq_2,@Go.Vm.cellsIn.eq_5,@Go.Vm.cellsIn.eq_6,@Go.Vm.Ah.eq_1⟩
theorem R4:type_of% @Go.Vm.Dj.eq_1∧type_of% @Gd∧type_of% @F5∧type_of% @Hi∧type_of% @Hb∧type_of% @Ew∧type_of% @Bt∧type_of% @Bh∧type_of% @u2∧type_of% @Er∧type_of% @B8∧type_of% @V3∧type_of% @qv∧type_of% @Zf∧type_of% @ad3∧type_of% @afb∧type_of% @Lr∧type_of% @Li∧type_of% @By∧type_of% @Qf∧type_of% @Mw:=
 ⟨@Go.Vm.Dj.eq_1,@Gd,@F5,@Hi,@Hb,@Ew,@Bt,@Bh,@u2,@Er,@B8,@V3,@qv,@Zf,@ad3,@afb,@Lr,@Li,@By,@Qf,@Mw⟩
theorem R5:type_of% @Go.Vm.qa.eq_1∧type_of% @List.flatten_cons.{0}∧type_of% @List.flatten_nil.{0}∧type_of% @List.replicate_succ.{0}∧type_of% @List.replicate_zero.{0}∧type_of% @Qb∧type_of% @Qo∧type_of% @afd∧type_of% @aaa∧type_of% @aje∧type_of% @ajm∧type_of% @ajr∧type_of% @Ep∧type_of% @A1∧type_of% @Dm∧type_of% @vu∧type_of% @Iw∧type_of% @Ee∧type_of% @Cg∧type_of% @Fb∧type_of% @u5∧type_of% @Js∧type_of% @Rr∧type_of% @B7∧type_of% @tz∧type_of% @De∧type_of% @za∧type_of% @Iy∧type_of% @Ig∧type_of% @Po∧type_of% @A0∧type_of% @Mh∧type_of% @Gp∧type_of% @Et∧type_of% @afu∧type_of% @af8∧type_of% @Jg∧type_of% @Go.IntKind.bits.eq_6∧type_of% @Go.IntKind.bits.eq_8∧type_of% @Nat.min_def∧type_of% @aiw∧type_of% @ajh:=
 ⟨@Go.Vm.qa.eq_1,@List.flatten_cons.{0},@List.flatten_nil.{0},@List.replicate_succ.{0},@List.replicate_zero.{0},@Qb,@Qo,@afd,@aaa,@aje,@ajm,@ajr,@Ep,@A1,@Dm,@vu,@Iw,@Ee,@Cg,@Fb,@u5,@Js,@Rr,@B7,@tz,@De,@za,@Iy,@Ig,@Po,@A0,@Mh,@Gp,@Et,@afu,@af8,@Jg,@Go.IntKind.bits.eq_6,@Go.IntKind.bits.eq_8,@Nat.min_def,@aiw,@ajh⟩
theorem R6:type_of% @ai3∧type_of% @ajl∧type_of% @ai0∧type_of% @ajk∧type_of% @ajb∧type_of% @ajp∧type_of% @ai8∧type_of% @ajc∧type_of% @Ue∧type_of% @Ws∧type_of% @ahd∧type_of% @ann∧type_of% @ag3∧type_of% @Go.Vm.D6.eq_1∧type_of% @Go.Vm.wm.eq_1∧type_of% @Go.Vm.s7.eq_def∧type_of% @Go.Vm.xg.eq_1∧type_of% @Go.Vm.z8.eq_1∧type_of% @Go.Vm.uh.eq_1∧type_of% @Go.Vm.AV.known.eq_2∧type_of% @Go.Value.oneCell'.eq_3∧type_of% @Go.Vm.AV.cells.eq_1∧type_of% @Go.Vm.AV.cells.eq_2∧type_of% @Go.Vm.AV.cells.eq_3∧type_of% @Go.Value.cells.eq_1∧type_of% @Go.Value.cells.eq_2∧type_of% @Go.Vm.AV.one.eq_4∧type_of% @Go.Vm.AV.one.eq_5∧type_of% @Go.Vm.ou.eq_1∧type_of% @Go.Vm.og.eq_1∧type_of% @Go.Vm.og.eq_2∧type_of% @Go.Vm.Cs.eq_1∧type_of% @Go.Vm.m8.eq_1∧type_of% @Go.Vm.sv.eq_2∧type_of% @Go.Vm.sv.eq_6∧type_of% @Go.Vm.i7.eq_1:=
 ⟨@ai3,@ajl,@ai0,@ajk,@ajb,@ajp,@ai8,@ajc,@Ue,@Ws,@ahd,@ann,@ag3,@Go.Vm.D6.eq_1,@Go.Vm.wm.eq_1,@Go.Vm.s7.eq_def,@Go.Vm.xg.eq_1,@Go.Vm.z8.eq_1,@Go.Vm.uh.eq_1,@Go.Vm.AV.known.eq_2,@Go.Value.oneCell'.eq_3,@Go.Vm.AV.cells.eq_1,@Go.Vm.AV.cells.eq_2,@Go.Vm.AV.cells.eq_3,@Go.Value.cells.eq_1,@Go.Value.cells.eq_2,@Go.Vm.AV.one.eq_4,@Go.Vm.AV.one.eq_5,@Go.Vm.ou.eq_1,@Go.Vm.og.eq_1,@Go.Vm.og.eq_2,@Go.Vm.Cs.eq_1,@Go.Vm.m8.eq_1,@Go.Vm.sv.eq_2,@Go.Vm.sv.eq_6,@Go.Vm.i7.eq_1⟩
theorem R7:type_of% @Go.Vm.i7.eq_3∧type_of% @Go.Vm.i7.eq_4∧type_of% @Go.Vm.Dt.eq_1∧type_of% @Go.Vm.Hz.eq_1∧type_of% @Go.Vm.W6.eq_1∧type_of% @Go.Vm.kp.eq_1∧type_of% @Go.Vm.kp.eq_2∧type_of% @Go.Vm.kp.eq_3∧type_of% @Go.Vm.kp.eq_4∧type_of% @Go.Vm.kp.eq_5∧type_of% @Go.Vm.kp.eq_6∧type_of% @Go.Vm.kp.eq_7∧type_of% @Go.Vm.kp.eq_8∧type_of% @Go.Vm.kp.eq_9∧type_of% @Go.Vm.kp.eq_10∧type_of% @Go.Vm.AV.int.eq_1∧type_of% @Go.Vm.AV.bool.eq_1∧type_of% @Go.Vm.AV.exact.eq_1∧type_of% @Go.Vm.AV.exact.eq_2∧type_of% @Go.Vm.intOf.eq_1∧type_of% @Go.Vm.intOf.eq_2∧type_of% @Go.Vm.pk.eq_1∧type_of% @Go.Vm.ot.eq_1∧type_of% @Go.Vm.uj.eq_1∧type_of% @Go.Vm.uj.eq_2∧type_of% @Go.Vm.ta.eq_1∧type_of% @Go.Vm.yv.eq_1∧type_of% @Go.Vm.mc.eq_1∧type_of% @Go.Vm.sf.eq_1∧type_of% @Go.Vm.n9.eq_1∧type_of% @Go.Vm.n9.eq_3∧type_of% @Go.Vm.n9.eq_9∧type_of% @Go.Vm.F3.eq_1∧type_of% @Go.Vm.Jy.eq_1∧type_of% @Go.Vm.Lj.eq_1∧type_of% @Go.Vm.isSlice.eq_3∧type_of% @Go.Vm.isSlice.eq_4∧type_of% @Go.Vm.H5.eq_1∧type_of% @Go.goInt.eq_1∧type_of% @af9∧type_of% @afh∧type_of% @adw:=
 ⟨@Go.Vm.i7.eq_3,@Go.Vm.i7.eq_4,@Go.Vm.Dt.eq_1,@Go.Vm.Hz.eq_1,@Go.Vm.W6.eq_1,@Go.Vm.kp.eq_1,@Go.Vm.kp.eq_2,@Go.Vm.kp.eq_3,@Go.Vm.kp.eq_4,@Go.Vm.kp.eq_5,@Go.Vm.kp.eq_6,@Go.Vm.kp.eq_7,@Go.Vm.kp.eq_8,@Go.Vm.kp.eq_9,@Go.Vm.kp.eq_10,@Go.Vm.AV.int.eq_1,@Go.Vm.AV.bool.eq_1,@Go.Vm.AV.exact.eq_1,@Go.Vm.AV.exact.eq_2,@Go.Vm.intOf.eq_1,@Go.Vm.intOf.eq_2,@Go.Vm.pk.eq_1,@Go.Vm.ot.eq_1,@Go.Vm.uj.eq_1,@Go.Vm.uj.eq_2,@Go.Vm.ta.eq_1,@Go.Vm.yv.eq_1,@Go.Vm.mc.eq_1,@Go.Vm.sf.eq_1,@Go.Vm.n9.eq_1,@Go.Vm.n9.eq_3,@Go.Vm.n9.eq_9,@Go.Vm.F3.eq_1,@Go.Vm.Jy.eq_1,@Go.Vm.Lj.eq_1,@Go.Vm.isSlice.eq_3,@Go.Vm.isSlice.eq_4,@Go.Vm.H5.eq_1,@Go.goInt.eq_1,@af9,@afh,@adw⟩
theorem R8:type_of% @Go.Vm.pack.eq_1∧type_of% @Go.Vm.pack.eq_2∧type_of% @Go.Vm.cw.eq_1∧type_of% @Go.Vm.cw.eq_2∧type_of% @Go.Vm.bk.eq_1∧type_of% @Go.Vm.kr.eq_1∧type_of% @Go.Vm.kr.eq_2∧type_of% @Go.Vm.sq.eq_1∧type_of% @nf∧type_of% @C1∧type_of% @Rg∧type_of% @T3∧type_of% @Bd∧type_of% @yh∧type_of% @M0∧type_of% @M3∧type_of% @M1∧type_of% @It∧type_of% @Nf∧type_of% @Go.Vm.eg.eq_1∧type_of% @Go.Vm.g8.eq_1∧type_of% @Go.Vm.fv.eq_1∧type_of% @Go.Vm.ll.eq_1∧type_of% @Go.Vm.ll.eq_2∧type_of% @Go.Vm.reach.eq_2∧type_of% @Go.Vm.reach.eq_3∧type_of% @Go.Vm.ef.eq_1∧type_of% @Go.Vm.dh.eq_1∧type_of% @Go.Vm.dh.eq_2∧type_of% @Go.Vm.AV.names.eq_1∧type_of% @Go.Vm.AV.names.eq_2∧type_of% @Go.Vm.AV.names.eq_3∧type_of% @Go.Vm.AV.names.eq_4∧type_of% @Go.Vm.AV.names.eq_5∧type_of% @Go.Vm.AV.names.eq_9∧type_of% @Go.Vm.AV.names.go.eq_1∧type_of% @Go.Vm.AV.names.go.eq_2∧type_of% @Go.Vm.ay.names.eq_1∧type_of% @Go.Vm.AV.cr.eq_1∧type_of% @Go.Vm.AV.cr.eq_2∧type_of% @Go.Vm.AV.cr.eq_3∧type_of% @Go.Vm.AV.cr.eq_4∧type_of% @Go.Vm.AV.cr.eq_5∧type_of% @Go.Vm.AV.cr.eq_7∧type_of% @Go.Vm.AV.cr.eq_11:=
 ⟨@Go.Vm.pack.eq_1,@Go.Vm.pack.eq_2,@Go.Vm.cw.eq_1,@Go.Vm.cw.eq_2,@Go.Vm.bk.eq_1,@Go.Vm.kr.eq_1,@Go.Vm.kr.eq_2,@Go.Vm.sq.eq_1,@nf,@C1,@Rg,@T3,@Bd,@yh,@M0,@M3,@M1,@It,@Nf,@Go.Vm.eg.eq_1,@Go.Vm.g8.eq_1,@Go.Vm.fv.eq_1,@Go.Vm.ll.eq_1,@Go.Vm.ll.eq_2,@Go.Vm.reach.eq_2,@Go.Vm.reach.eq_3,@Go.Vm.ef.eq_1,@Go.Vm.dh.eq_1,@Go.Vm.dh.eq_2,@Go.Vm.AV.names.eq_1,@Go.Vm.AV.names.eq_2,@Go.Vm.AV.names.eq_3,@Go.Vm.AV.names.eq_4,@Go.Vm.AV.names.eq_5,@Go.Vm.AV.names.eq_9,@Go.Vm.AV.names.go.eq_1,@Go.Vm.AV.names.go.eq_2,@Go.Vm.ay.names.eq_1,@Go.Vm.AV.cr.eq_1,@Go.Vm.AV.cr.eq_2,@Go.Vm.AV.cr.eq_3,@Go.Vm.AV.cr.eq_4,@Go.Vm.AV.cr.eq_5,@Go.Vm.AV.cr.eq_7,@Go.Vm.AV.cr.eq_11⟩
theorem R9:type_of% @Go.Vm.ay.cr.eq_1∧type_of% @Ej∧type_of% @Z6∧type_of% @Go.Vm.gj.eq_1∧type_of% @Go.Vm.gj.eq_2∧type_of% @Go.Vm.lq.eq_2∧type_of% @jb∧type_of% @Option.bind_some.{0,0}∧type_of% @Option.bind_none.{0,0}∧type_of% @Option.map_some.{0,0}∧type_of% @Option.getD_some.{0}∧type_of% @Option.isSome_some.{0}∧type_of% @List.getElem?_cons_zero.{0}∧type_of% @List.getElem?_toArray.{0}∧type_of% @Go.Vm.cy.eq_1∧type_of% @List.drop_zero.{0}∧type_of% @List.drop_succ_cons.{0}∧type_of% @List.drop_nil.{0}∧type_of% @List.take_succ_cons.{0}∧type_of% @List.take_zero.{0}∧type_of% @List.length_cons.{0}∧type_of% @List.length_nil.{0}∧type_of% @List.length_map.{0,0}∧type_of% @List.getElem?_cons_succ.{0}∧type_of% @List.getElem?_nil.{0}∧type_of% @List.getElem?_map.{0,0}∧type_of% @List.getElem?_drop.{0}∧type_of% @List.map_cons.{0,0}∧type_of% @List.map_nil.{0,0}∧type_of% @List.nil_append.{0}∧type_of% @List.cons_append.{0}∧type_of% @List.append_nil.{0}∧type_of% @List.all_cons.{0}∧type_of% @List.all_nil.{0}∧type_of% @cond_true.{1}∧type_of% @cond_false.{1}∧type_of% @decide_true∧type_of% @decide_false∧type_of% @Bool.and_true∧type_of% @Bool.true_and∧type_of% @Bool.and_self∧type_of% @Bool.not_true∧type_of% @Bool.not_false∧type_of% @BEq.rfl.{0}∧type_of% @Nat.zero_le∧type_of% @Nat.le_refl∧type_of% @Nat.add_zero∧type_of% @Nat.zero_add∧type_of% @Nat.mul_one∧type_of% @Int.toNat_natCast∧type_of% @Int.natCast_nonneg:=
 ⟨@Go.Vm.ay.cr.eq_1,@Ej,@Z6,@Go.Vm.gj.eq_1,@Go.Vm.gj.eq_2,@Go.Vm.lq.eq_2,@jb,@Option.bind_some.{0,0},@Option.bind_none.{0,0},@Option.map_some.{0,0},@Option.getD_some.{0},@Option.isSome_some.{0},@List.getElem?_cons_zero.{0},@List.getElem?_toArray.{0},@Go.Vm.cy.eq_1,@List.drop_zero.{0},@List.drop_succ_cons.{0},@List.drop_nil.{0},@List.take_succ_cons.{0},@List.take_zero.{0},@List.length_cons.{0},@List.length_nil.{0},@List.length_map.{0,0},@List.getElem?_cons_succ.{0},@List.getElem?_nil.{0},@List.getElem?_map.{0,0},@List.getElem?_drop.{0},@List.map_cons.{0,0},@List.map_nil.{0,0},@List.nil_append.{0},@List.cons_append.{0},@List.append_nil.{0},@List.all_cons.{0},@List.all_nil.{0},@cond_true.{1},@cond_false.{1},@decide_true,@decide_false,@Bool.and_true,@Bool.true_and,@Bool.and_self,@Bool.not_true,@Bool.not_false,@BEq.rfl.{0},@Nat.zero_le,@Nat.le_refl,@Nat.add_zero,@Nat.zero_add,@Nat.mul_one,@Int.toNat_natCast,@Int.natCast_nonneg⟩
theorem R10:type_of% @Nat.sub_self∧type_of% @List.contains_nil.{0}∧type_of% @List.contains_cons.{0}∧type_of% @Bool.or_false∧type_of% @Bool.false_or∧type_of% @Bool.or_true∧type_of% @Bool.true_or∧type_of% @List.map_map.{0,0,0}∧type_of% @Us∧type_of% @Hj∧type_of% @Fw∧type_of% @Ga∧type_of% @P8∧type_of% @Re∧type_of% @Kx∧type_of% @Iz∧type_of% @Mg∧type_of% @aml∧type_of% @ang∧type_of% @anc∧type_of% @amp∧type_of% @ams∧type_of% @amy∧type_of% @amx∧type_of% @al7∧type_of% @Th∧type_of% @W9∧type_of% @Qc∧type_of% @Lu∧type_of% @Wn∧type_of% @Go.Vm.AV.fresh.eq_1∧type_of% @Go.Vm.AV.fresh.eq_4∧type_of% @List.map_append.{0,0}:=
 ⟨@Nat.sub_self,@List.contains_nil.{0},@List.contains_cons.{0},@Bool.or_false,@Bool.false_or,@Bool.or_true,@Bool.true_or,@List.map_map.{0,0,0},@Us,@Hj,@Fw,@Ga,@P8,@Re,@Kx,@Iz,@Mg,@aml,@ang,@anc,@amp,@ams,@amy,@amx,@al7,@Th,@W9,@Qc,@Lu,@Wn,@Go.Vm.AV.fresh.eq_1,@Go.Vm.AV.fresh.eq_4,@List.map_append.{0,0}⟩
theorem RA:type_of% R0∧type_of% R1∧type_of% R2∧type_of% R3∧type_of% R4∧type_of% R5∧type_of% R6∧type_of% R7∧type_of% R8∧type_of% R9∧type_of% R10:=
 ⟨R0,R1,R2,R3,R4,R5,R6,R7,R8,R9,R10⟩
theorem FB:type_of% @List.cons.injEq.{0}∧type_of% @Pk∧type_of% @Qn∧type_of% @List.length_append.{0}∧type_of% @List.length_cons.{0}∧type_of% @List.length_nil.{0}∧type_of% @List.map_append.{0,0}∧type_of% @List.map_cons.{0,0}∧type_of% @List.map_nil.{0,0}∧type_of% @and_true∧type_of% @true_and∧type_of% @and_self∧type_of% @AV.sc.injEq∧type_of% @AV.sl.injEq∧type_of% @ay.row.injEq∧type_of% @Option.some.injEq.{0}∧type_of% @Value.int.injEq∧type_of% @Nat.zero_add:=
 ⟨@List.cons.injEq.{0},@Pk,@Qn,@List.length_append.{0},@List.length_cons.{0},@List.length_nil.{0},@List.map_append.{0,0},@List.map_cons.{0,0},@List.map_nil.{0,0},@and_true,@true_and,@and_self,@AV.sc.injEq,@AV.sl.injEq,@ay.row.injEq,@Option.some.injEq.{0},@Value.int.injEq,@Nat.zero_add⟩
end Go.Vm
end
