/- A piece of the proof. Proved: where the arguments are together of bulk at most 1048576, the law SetMakes returns true (which sets records make), and what it was given reads afterwards as it did before. No other conditions. -/
import Derived.WalkKit
import Derived.CallsIn
import Derived.RangeFuncIn
import Derived.RangeFuncLeaves
import Derived.Orders
import Derived.OrdersIn
import Derived.Scope
import Derived.RangeFuncOwn
import Derived.Stop.SameAnswer
import Derived.Laws.Externs
import Derived.Lib.Bytealg
import Derived.ProofKit
import Derived.OpenShut
import Derived.ReadAgain
import Derived.Deep.Slices
import Derived.ChangeSame
import Derived.Test.YtgencolcibpcaaaProg
import Derived.KernelRfl
import Derived.Test.YtgencolcibpcaaaRows
import Derived.Maps.RangeRun
import Derived.JoinedCond
import Derived.Test.YtgencolcibpcaaaM1
set_option linter.unusedSimpArgs false
set_option linter.unusedVariables false
set_option linter.unusedSectionVars false
namespace Go.Vm
variable [TK]
noncomputable section
theorem bb.one {g w a v} (h:Rel g w a v):bb g w [a] [v]:=bb.cons h (bb.nil _ _)
theorem E3 {g w a vs} (h:bb g w [a] vs):∃ v,vs=[v]∧Rel g w a v:=by
 match vs,h with
 | [v],h=>exact ⟨v,rfl,h.head⟩
 | [],h=>have:=h.1;simp at this
 |_::_::_,h=>have:=h.1;simp at this
def asb {α:Type} (ofV:Value→Option α) (l:List AV):Option α:=
 match l with
 | [a]=>a.exact.bind ofV
 |_=>none
def P9 {α:Type} (kd:LK) (fu : α→Value) (ofV:Value→Option α) (h1:∀ x,ofV (fu x)=some x) (h2:∀ v x,ofV v=some x→v=fu x) (h3:∀ x,(fu x).cells = #[fu x]) (h4:∀ x,(fu x).oneCell'=true) (h5:∀ x,mf (fu x)=kd):db α where
 kd:=kd
 Eh _ _ _ _ _ _ _ hc hr:=by
  simp at hc;subst hc
  have:=hr.exact rfl
  subst this
  exact h5 _
 sz:=1
 agg:=false
 cells _ x:=[.sc (fu x)]
 dec _ _ l:=asb ofV l
 len _ _:=rfl
 rt _ _ _ x _:=h1 x
 one _ _ x:=⟨_,rfl,by simp [AV.cells,h3],rfl⟩
 pl _ x c hc:=by simp at hc;subst hc;exact ⟨fun τ=>by simp [AV.bk],by simp [AV.names],h4 x,rfl⟩
 fr x c hc:=by simp at hc;subst hc;rfl
 ok:=by
  intro fr g h w K b0 l vs x _ _ _ hr hd
  match l,hd with
  | [a],hd=>
   obtain ⟨u,rfl,hu⟩:=E3 hr
   cases a with
   |sc v=>
    have:=hu.exact rfl
    subst this
    have:=h2 _ _ hd
    subst this
    exact bb.one (.sc _)
   |_=>cases hd
def aih (k:IntKind) (v:Value):Option Int:=
 match v with
 |.int k' n=>bif decide (k'=k) then some n else none
 |_=>none
def b9 (k:IntKind):db Int:=P9 (.int k) (fun n=>.int k n) (aih k) (fun x=>by simp [aih]) (fun v x h=>by
 cases v<;>simp [aih] at h
 rename_i k' n
 by_cases e:k'=k
 ·subst e;simp at h;rw [h]
 ·simp [e] at h) (fun x=>rfl) (fun x=>rfl) (fun x=>rfl)
def cz:db Bool:=P9 .bool (fun b=>.bool b) qd (fun x=>rfl) (fun v x h=>by cases v<;>simp [qd] at h;rw [h]) (fun x=>rfl) (fun x=>rfl) (fun x=>rfl)
def ai:db ByteArray:=P9 .str (fun s=>.string s) strOf (fun x=>rfl) (fun v x h=>by cases v<;>simp [strOf] at h;rw [h]) (fun x=>rfl) (fun x=>rfl) (fun x=>rfl)
def u8V (v:Value):Option UInt8:=
 match v with
 |.int k n=>bif decide (k = .u8) && decide (0≤n) && decide (n<256) then some (UInt8.ofNat n.toNat) else none
 |_=>none
def ay:db UInt8:=P9 (.int .u8) (fun n=>.int .u8 n.toNat) u8V (fun x=>by
 have:=x.toNat_lt
 simp [u8V,show (x.toNat:Int)<256 by omega]) (fun v x h=>by
 cases v<;>simp [u8V] at h
 rename_i k n
 cases hb:(decide (k = .u8) && decide (0≤n) && decide (n<256)) with
 |false=>rw [hb] at h;cases h
 |true=>
  rw [hb] at h
  simp at hb h
  obtain ⟨⟨rfl,h0⟩,h1⟩:=hb
  subst h
  congr 1
  rw [UInt8.toNat_ofNat']
  omega) (fun x=>rfl) (fun x=>rfl) (fun x=>rfl)
def ai9 (v:Value):Option UInt16:=
 match v with
 |.int k n=>bif decide (k = .u16) && decide (0≤n) && decide (n<65536) then some (UInt16.ofNat n.toNat) else none
 |_=>none
def cb:db UInt16:=P9 (.int .u16) (fun n=>.int .u16 n.toNat) ai9 (fun x=>by
 have:=x.toNat_lt
 simp [ai9,show (x.toNat:Int)<65536 by omega]) (fun v x h=>by
 cases v<;>simp [ai9] at h
 rename_i k n
 cases hb:(decide (k = .u16) && decide (0≤n) && decide (n<65536)) with
 |false=>rw [hb] at h;cases h
 |true=>
  rw [hb] at h
  simp at hb h
  obtain ⟨⟨rfl,h0⟩,h1⟩:=hb
  subst h
  congr 1
  rw [UInt16.toNat_ofNat']
  omega) (fun x=>rfl) (fun x=>rfl) (fun x=>rfl)
def ah3 (v:Value):Option UInt32:=
 match v with
 |.int k n=>bif decide (k = .u32) && decide (0≤n) && decide (n<4294967296) then some (UInt32.ofNat n.toNat) else none
 |_=>none
def bo:db UInt32:=P9 (.int .u32) (fun n=>.int .u32 n.toNat) ah3 (fun x=>by
 have:=x.toNat_lt
 simp [ah3,show (x.toNat:Int)<4294967296 by omega]) (fun v x h=>by
 cases v<;>simp [ah3] at h
 rename_i k n
 cases hb:(decide (k = .u32) && decide (0≤n) && decide (n<4294967296)) with
 |false=>rw [hb] at h;cases h
 |true=>
  rw [hb] at h
  simp at hb h
  obtain ⟨⟨rfl,h0⟩,h1⟩:=hb
  subst h
  congr 1
  rw [UInt32.toNat_ofNat']
  omega) (fun x=>rfl) (fun x=>rfl) (fun x=>rfl)
theorem aqz {g w l n es v} (h:Rel g w (.vl l n es) v):mf v = .no:=by cases h<;>rfl
def bc {α:Type} (C:db α):db (List α) where
 sz:=1
 kd:=.no
 Eh _ _ _ _ _ _ _ hc hr:=by simp at hc;subst hc;exact aqz hr
 agg:=false
 cells l xs:=[.vl l C.sz (xs.map (C.val l))]
 dec:=akt C
 len _ _:=rfl
 rt:=by
  intro fr h l x hl
  simp only [akt,jc]
  cases hb:(Nat.beq C.sz C.sz && (l || !fr)) with
  |false=>cases fr<;>simp_all
  |true=>rw [cond_true,Nw C fr h l hl]
 one _ _ x:=⟨_,rfl,rfl,rfl⟩
 pl l xs c hc:=by
  simp at hc;subst hc
  exact ⟨fun τ=>by rw [AV.bk,K0 (fun c hc=>by obtain ⟨x,_,rfl⟩:=List.mem_map.1 hc;exact A4 C τ l x)],by simp [AV.names],rfl,rfl⟩
 fr xs c hc:=by
  simp at hc;subst hc
  simp only [AV.fresh,Bool.true_and]
  exact G7 (fun c hc=>by obtain ⟨x,_,rfl⟩:=List.mem_map.1 hc;exact Sx C x)
 ok:=by
  intro fr g h w K b0 l vs x hok hl hb hr hd
  match l,hd with
  | [a],hd=>
   obtain ⟨u,rfl,hu⟩:=E3 hr
   exact bb.one (amh C hok hl hb hu hd)
def jz {α β:Type} (A:db α) (B:db β):db (α × β) where
 sz:=A.sz+B.sz
 kd:=bif Nat.beq A.sz 1 then A.kd else B.kd
 Eh e _ _ l x c v hc hr:=by
  rcases Nat.lt_or_ge 0 A.sz with h|h
  ·have ha:A.sz=1:=by omega
   have hb:B.cells l x.2=[]:=List.eq_nil_of_length_eq_zero (by rw [B.len];omega)
   rw [hb,List.append_nil] at hc
   rw [ha]
   exact A.Eh ha hc hr
  ·have ha:A.sz=0:=by omega
   have hb:A.cells l x.1=[]:=List.eq_nil_of_length_eq_zero (by rw [A.len];omega)
   rw [hb,List.nil_append] at hc
   rw [ha]
   exact B.Eh (by omega) hc hr
 agg:=true
 cells l p:=A.cells l p.1++B.cells l p.2
 dec fr h l:=match A.dec fr h (l.take A.sz),B.dec fr h (l.drop A.sz) with
  |some x,some y=>some (x,y)
  |_,_=>none
 len l p:=by simp [A.len,B.len]
 rt:=by
  intro fr h l p hl
  have h1:(A.cells l p.1++B.cells l p.2).take A.sz=A.cells l p.1:=by rw [← A.len l p.1,List.take_left]
  have h2:(A.cells l p.1++B.cells l p.2).drop A.sz=B.cells l p.2:=by rw [← A.len l p.1,List.drop_left]
  simp only [h1,h2,A.rt fr h l _ hl,B.rt fr h l _ hl]
 one e:=by cases e
 pl l p c hc:=by rcases List.mem_append.1 hc with h|h;exact A.pl l _ c h;exact B.pl l _ c h
 fr p c hc:=by rcases List.mem_append.1 hc with h|h;exact A.fr _ c h;exact B.fr _ c h
 ok:=by
  intro fr g h w K b0 l vs x hok hl hb hr hd
  split at hd
  ·rename_i x1 y1 hx hy
   simp at hd;subst hd
   have:=(A.ok hok hl hb (hr.take A.sz) hx).append (B.ok hok hl hb (hr.drop A.sz) hy)
   rwa [List.take_append_drop] at this
  ·cases hd
def Bn {α β:Type} (C:db α) (f : β → α) (i : α → β) (h1:∀ y,i (f y)=y) (h2:∀ x,f (i x)=x):db β where
 sz:=C.sz
 kd:=C.kd
 Eh e _ _ _ _ _ _ hc hr:=C.Eh e hc hr
 agg:=C.agg
 cells l y:=C.cells l (f y)
 dec fr h l:=(C.dec fr h l).map i
 len l y:=C.len l (f y)
 rt fr h l y hl:=by rw [C.rt fr h l _ hl];simp [h1]
 one e l y:=C.one e l (f y)
 pl l y:=C.pl l (f y)
 fr y:=C.fr (f y)
 ok:=by
  intro fr g h w K b0 l vs x hok hl hb hr hd
  rw [Option.map_eq_some_iff] at hd
  obtain ⟨y,hy,rfl⟩:=hd
  rw [h2]
  exact C.ok hok hl hb hr hy
structure AC (α:Type) where
 E : α→List AV
 D:Tr au→List AV→Option α
 rt:∀ h x,D h (E x)=some x
 ok:∀ {g h w K b0 l vs x},Ok g h w→uq g h K→bb g w l vs→D h l=some x→bb (gK b0 K) w (E x) vs
def AC.get {α:Type} (A:AC α) (h:Tr au) (l:List AV):Option α:=A.D h l
def a0:AC Unit where
 E _:=[]
 D _ l:=match l with
  | []=>some ()
  |_=>none
 rt _ _:=rfl
 ok:=by
  intro g h w K b0 l vs x _ _ hr hd
  match l,hd with
  | [],_=>
   have:=hr.1
   simp at this
   subst this
   exact bb.nil _ _
def aC {α β:Type} (C:db α) (R:AC β):AC (α × β) where
 E p:=C.val false p.1::R.E p.2
 D h l:=match l with
  | []=>none
  |a::r=>match C.gk false h a,R.D h r with
   |some x,some y=>some (x,y)
   |_,_=>none
 rt h p:=by simp only [C.D9 false h false p.1 (fun e=>by cases e),R.rt]
 ok:=by
  intro g h w K b0 l vs x hok hl hr hd
  match l,hd with
  |a::r,hd=>
   simp only at hd
   split at hd
   ·rename_i x1 y1 hx hy
    simp at hd;subst hd
    match vs,hr with
    | [],hr=>have:=hr.1;simp at this
    |v::vs,hr=>exact bb.cons (C.Jp hok hl (fun e=>by cases e) hr.head hx) (R.ok hok hl hr.tail hy)
   ·cases hd
structure RC (α:Type) where
 E:Bool → α→AV
 D:Bool→Tr au→AV→Option α
 ok:∀ {fr g h w K b0 a v x},Ok g h w→uq g h K→(fr=true→b0≤g.b0)→Rel g w a v→D fr h a=some x→Rel (gK b0 K) w (E fr x) v
def RC.get {α:Type} (R:RC α) (fr:Bool) (h:Tr au) (a:AV):Option α:=R.D fr h a
def r1 {α:Type} (C:db α):RC α where
 E:=C.val
 D:=C.gk
 ok hok hl hb hr hd:=C.Jp hok hl hb hr hd
def Ff (a:AV):Option (List AV):=
 match a with
 |.ja l=>some l
 |.sc v=>match v with
  |.tuple vs=>some (vs.toList.map .sc)
  |_=>none
 |_=>none
theorem aaz {g w a v l} (hr:Rel g w a v) (h:Ff a=some l):∃ vs,v = .tuple vs∧bb g w l vs.toList:=by
 cases hr with
 |ja l' vs hs hh=>
  simp [Ff] at h;subst h
  exact ⟨vs,rfl,⟨by simpa using hs,fun i a v ha hv=>hh i a v ha (by simpa using hv)⟩⟩
 |sc v=>
  cases v<;>simp [Ff] at h
  subst h
  exact ⟨_,rfl,bb.Bc g w _⟩
 |_=>cases h
theorem Zr {g w l} {vs:Array Value} (h:bb g w l vs.toList):Rel g w (.ja l) (.tuple vs):=
 .ja l vs (by simpa using h.1) (fun i a v ha hv=>h.2 i a v ha (by simpa using hv))
def r2 {α β:Type} (A:db α) (B:db β):RC (α × β) where
 E l p:=.ja [A.val l p.1,B.val l p.2]
 D fr h a:=match Ff a with
  |some [a,b]=>match A.gk fr h a,B.gk fr h b with
   |some x,some y=>some (x,y)
   |_,_=>none
  |_=>none
 ok:=by
  intro fr g h w K b0 a v x hok hl hb hr hd
  cases ht:Ff a with
  |none=>rw [ht] at hd;cases hd
  |some l=>
   rw [ht] at hd
   obtain ⟨vs,rfl,hrel⟩:=aaz hr ht
   match l,hd with
   | [a,b],hd=>
    simp only at hd
    split at hd
    ·rename_i x1 y1 hx hy
     simp at hd;subst hd
     obtain ⟨vl⟩:=vs
     match vl,hrel with
     | [u,v],hrel=>exact Zr (bb.cons (A.Jp hok hl hb hrel.head hx) (bb.one (B.Jp hok hl hb hrel.tail.head hy)))
     | [],hrel=>have:=hrel.1;simp at this
     | [_],hrel=>have:=hrel.1;simp at this
     |_::_::_::_,hrel=>have:=hrel.1;simp at this
    ·cases hd
def r3 {α β γ:Type} (A:db α) (B:db β) (C:db γ):RC (α × β × γ) where
 E l p:=.ja [A.val l p.1,B.val l p.2.1,C.val l p.2.2]
 D fr h a:=match Ff a with
  |some [a,b,c]=>match A.gk fr h a,B.gk fr h b,C.gk fr h c with
   |some x,some y,some z=>some (x,y,z)
   |_,_,_=>none
  |_=>none
 ok:=by
  intro fr g h w K b0 a v x hok hl hb hr hd
  cases ht:Ff a with
  |none=>rw [ht] at hd;cases hd
  |some l=>
   rw [ht] at hd
   obtain ⟨vs,rfl,hrel⟩:=aaz hr ht
   match l,hd with
   | [a,b,c],hd=>
    simp only at hd
    split at hd
    ·rename_i x1 y1 z1 hx hy hz
     simp at hd;subst hd
     obtain ⟨vl⟩:=vs
     match vl,hrel with
     | [u,v,t],hrel=>exact Zr (bb.cons (A.Jp hok hl hb hrel.head hx) (bb.cons (B.Jp hok hl hb hrel.tail.head hy) (bb.one (C.Jp hok hl hb hrel.tail.tail.head hz))))
     | [],hrel=>have:=hrel.1;simp at this
     | [_],hrel=>have:=hrel.1;simp at this
     | [_,_],hrel=>have:=hrel.1;simp at this
     |_::_::_::_::_,hrel=>have:=hrel.1;simp at this
    ·cases hd
structure xf (w w':World):Prop where
 size:w.heap.size≤w'.heap.size
 heap:∀ b,b<w.heap.size→w'.heap[b]? = w.heap[b]?
 os:w'.os=w.os
 tape:w'.tape=w.tape
 output:w'.output=w.output
def Hf (K:Nat→Nat→Prop) (w w':World):Nat→Nat→Prop:=fun b j=>K b j∨(w.heap.size≤b∧b<w'.heap.size)
def aah (P:Program) (f:Nat) (vs:List Value) (w:World) (X:Value→World→Prop):Prop:=
 (∃ v,(callFunc f vs.toArray).run P w = .ok (.value v) w∧X v w) ∨
 ((callFunc f vs.toArray).run P w = .ok (.enter f vs.toArray) w∧Calls P f vs.toArray w (fun e w'=>∃ v,e = .returned v∧X v w'))
def bw (P:Program) (f:Nat) (args:List AV) (r:AV):Prop:=
 ∀ (K:Nat→Nat→Prop) (w:World) (vs:List Value),(∀ b j,K b j→b<w.heap.size)→bb (gK w.heap.size K) w args vs →
  aah P f vs w (fun v w'=>xf w w'∧Rel (gK w.heap.size (Hf K w w')) w' r v)
theorem O6 {P:Program} [KP P] {g w nt} {L:SL} {tmps:Array Value} {st:St} (hok:Ok g st.h w) (hs:g8 g w nt L tmps):∀ (rs:List ResultVar) (l:List AV),qj P L st rs=some l →
 ∃ vs,(rs.mapM (ti tmps)).run P w = .ok vs w∧bb g w l vs:=by
 intro rs
 induction rs with
 |nil=>intro l h;simp [qj] at h;subst h;exact ⟨[],by simp,bb.nil _ _⟩
 |cons r rs ih=>
  intro l h
  cases r with
  |tmp t=>
   simp only [qj,Option.map_eq_some_iff] at h
   obtain ⟨l',h1,rfl⟩:=h
   obtain ⟨vs,h2,h3⟩:=ih l' h1
   refine ⟨tmps.getD t undef::vs,?_,bb.cons (hs.2 t) h3⟩
   simp only [List.mapM_cons,Sem.run_bind,ti,Sem.run_pure,Result.andThen_ok,h2]
  |cell c t=>
   simp only [qj] at h
   split at h
   ·rename_i v st' hl
    rw [Option.map_eq_some_iff] at h
    obtain ⟨l',h1,rfl⟩:=h
    obtain ⟨vs,h2,h3⟩:=ih l' h1
    have hrel:=hs.2 c
    have hptr:∃ ad,tmps.getD c undef = .pointer (some ad):=by
     generalize lk L c=x at hrel hl
     generalize tmps.getD c undef=v at hrel
     cases hrel<;>first|exact ⟨_,rfl⟩|cases hl
    obtain ⟨ad,had⟩:=hptr
    obtain ⟨u,h4,h5⟩:=ac9 (P:=P) hok hrel hl had
    refine ⟨u::vs,?_,bb.cons h5 h3⟩
    have h6:(ti tmps (.cell c t)).run P w = .ok u w:=by simp [ti,had,asAddr,h4]
    simp only [List.mapM_cons,Sem.run_bind,h6,Result.andThen_ok,h2]
    rfl
   ·cases h
theorem Pr {P:Program} [KP P] {g w} {fn:Func} {tmps:Array Value} {l:List AV} {vs:List Value} (h:(fn.results.toList.mapM (ti tmps)).run P w = .ok vs w) (q4:bb g w l vs) :
 ∃ v,(results fn tmps).run P w = .ok v w∧Rel g w (pack l) v:=by
 have hmap:(fn.results.mapM (ti tmps)).run P w = .ok vs.toArray w:=by
  rw [Array.mapM_eq_mapM_toList]
  simp [h]
 rw [adu]
 simp only [Sem.run_bind,hmap,Result.andThen_ok,Sem.run_pure]
 refine ⟨_,rfl,?_⟩
 match l,vs,q4 with
 | [a1],[v1],q4=>simpa [pack] using q4.head
 | [],[],q4=>simp [pack];exact .ja _ _ rfl (fun i a v h _=>by simp at h)
 |a1::a2::l,v1::v2::vs,q4=>
  simp [pack]
  exact .ja _ _ (by have:=q4.1;simp at this ⊢;omega) (fun i a v h1 h2=>q4.2 i a v h1 (by simpa using h2))
 | [],v::vs,q4=>have:=q4.1;simp at this
 |a::l,[],q4=>have:=q4.1;simp at this
 | [a1],v1::v2::vs,q4=>have:=q4.1;simp at this
 |a1::a2::l,[v1],q4=>have:=q4.1;simp at this
theorem Pw {P:Program} [KP P] {T:dz} (hT:aq P T) (hm:P.follows .mixedOrders=true) {f:Nat} {fn:Func} {body:Code} (hf:P.funcs[f]? = some fn) (hb:fn.body=some body) (he:n5 P f=true) (hs:dw fn.ntmps body=true)
 {args:List AV} (hl:args.length≤fn.ntmps) {ρ:Type} (R:RC ρ) (fr:Bool) (x : ρ)
 (h:wl P T 0 body (dp P fn.results.toList (fun r st=>R.get fr st.h r=some x)) (de 0 args) (aw [])):bw P f args (R.E fr x):=by
 intro K w vs hK hrel
 refine .inr ⟨tm he _ _,u5 (ro:=none) (n:=0) (callsIn_of_wp_marks hf hb trivial ?_)⟩
 let B:da:={ b0:=w.heap.size,w,K,O:=fun _=>False,aj:=0,pb:=fun _=>none,n0:=w.heap.size }
 have hcur:jh B (gK w.heap.size K) (aw []) w:=by
  refine ⟨⟨Nat.le_refl _,fun o x hx=>?_,fun o o' x x' b base base' _ hx=>?_,hK⟩,fun o _ _=>rfl,⟨rfl,(fun o ho=>(by rcases ho with ho|ho;cases ho;exact ho.elim)),fun _ _ h=>h,fun _ _ _=>rfl,Nat.le_refl _,rfl,rfl,rfl,fun _ _ _=>rfl,fun o b base ho=>?_,fun _ _ h=>.inl h,fun b cs e fr h=>⟨cs,fr,h,rfl⟩,fun b l h=>⟨l,h⟩,fun _ _ _ _ _ _=>rfl⟩,Nat.zero_le _⟩
  ·simp [aw,lz,Tr.get_nil] at hx
  ·simp [aw,lz,Tr.get_nil] at hx
  ·simp [aw,lz,Tr.get_nil] at ho
 refine wpIn_mono (ab9 hT hm (N:=0) (B:=B) (nt:=fn.ntmps) (fun _ h=>h) (by show (0:Nat)≤1000;omega) (Nat.le_refl _) body hs _ _ _ (gK w.heap.size K) w _ h hcur (Av hrel hl) (Marks.nil _ _ _ _)) ?_
 rintro ex a w' ⟨e,L,st,g,rfl,hq,hc,hr,hd⟩
 have fin:C7 (qj P L st fn.results.toList) (fun r st=>R.get fr st.h r=some x) st→bodyPostM (fk none) 0 P fn (fun e w'=>∃ v,e = .returned v∧xf w w'∧Rel (gK w.heap.size (Hf K w w')) w' (R.E fr x) v) .ret a w':=by
  intro hq
  show LeavesInM (fk none) 0 P fn a.tmps _ a.defers .returning w'
  unfold C7 at hq
  cases hres:qj P L st fn.results.toList with
  |none=>rw [hres] at hq;exact hq.elim
  |some l=>
   rw [hres] at hq
   have hbs:=hc.base
   obtain ⟨bs,e1,e2,e3⟩:=hd
   have e1:=e1.trans (List.append_nil _)
   rw [e1]
   refine C5 (Good:=fun u=>Ok g st.h u∧xf w u∧(∀ a v,Rel g w' a v→Rel g u a v)∧u.heap.size=w'.heap.size) (S:=fun b=>w.heap.size≤b∧ff g st.h b) ?_ ?_ bs w'
    ⟨hc.ok,⟨hbs.size,fun b hlt=>hbs.frame b hlt (fun h=>h),hbs.os,hbs.tape,hbs.output⟩,fun _ _ h=>h,rfl⟩ e2 (fun b hb=>⟨⟨(e3 b hb).1,(e3 b hb).2.2⟩,(e3 b hb).2.1⟩)
   ·rintro u b ⟨g1,g2,g3,g4⟩ ⟨hb1,hb2⟩ hb3
    have hput:=Ok.C0 (ds':=none) g1 hb3 hb2
    exact ⟨hput.1,⟨by rw [ly];exact g2.size,fun c hc=>(ef u _ (by omega)).trans (g2.heap c hc),g2.os,g2.tape,g2.output⟩,fun a v h=>hput.2 a v (g3 a v h),by rw [ly];exact g4⟩
   ·rintro u ⟨g1,g2,g3,g4⟩
    obtain ⟨us,h1,h2⟩:=O6 (P:=P) g1 ⟨hr.1,fun t=>g3 _ _ (hr.2 t)⟩ fn.results.toList l hres
    obtain ⟨v,h3,h4⟩:=Pr h1 h2
    refine ⟨v,h3,v,rfl,g2,?_⟩
    refine R.ok g1 ⟨fun b j hk=>?_,fun o cells k s e ho b base hi j hj=>?_⟩ (fun _=>?_) h4 hq
    ·rcases hbs.kn b j hk with h5|h5|h5
     ·exact .inl h5
     ·exact .inr ⟨h5,g1.K b j hk⟩
     ·exact h5.elim
    ·obtain ⟨b',base',h5,_,h6⟩:=g1.obj o _ ho
     rw [hi] at h5;cases h5
     rcases hbs.own o b base (by rw [ho];rfl) hi with h7|h7
     ·exact .inr ⟨h7,h6.lt⟩
     ·exact h7.elim
    ·rw [hbs.b0];exact Nat.le_refl _
 cases e with
 |normal=>exact fin hq
 |ret=>exact fin hq
 |exit id=>exact hq.elim
theorem Rel.lift {b0 K g w a v} (h:Rel (gK b0 K) w a v) (hb:g.b0≤b0) (hK:∀ b j,K b j→g.K b j):Rel g w a v:=by
 have hno:∀ o p,(gK b0 K).inj o≠some p:=fun o p e=>by cases e
 generalize hg:gK b0 K=g0 at h hno
 have hK':∀ b j,g0.K b j→g.K b j:=by subst hg;exact hK
 have hb':g.b0≤g0.b0:=by subst hg;exact hb
 clear hg
 induction h with
 |sc x=>exact .sc x
 |agg l vs hs _ ih=>exact .agg l vs hs ih
 |ja l vs hs _ ih=>exact .ja l vs hs ih
 |vl loc sz es b off cap c hsz hl hcap h _ hw ih=>exact .vl loc sz es b off cap c hsz (fun e=>Nat.le_trans hb' (hl e)) hcap (fun j a hj=>⟨hK' _ _ (h j a hj).1,(h j a hj).2⟩) ih (fun e=>⟨fun j=>hK' _ _ ((hw e).K j),(hw e).nc,(hw e).none,(hw e).cm⟩)
 |jy loc sz=>exact .jy loc sz
 |qb loc sz a=>exact .qb loc sz a
 |sl o off len sz b base cap hi hc hm hr=>exact (hno _ _ hi).elim
 |nq o off sz a=>exact .nq o off sz a
 |n9 o off sz=>exact .n9 o off sz
 |ez a=>exact .ez a
 |ptr o off b base hi=>exact (hno _ _ hi).elim
 |jr l b off c h _ ih=>exact .jr l b off c (fun j a hj=>⟨hK' _ _ (h j a hj).1,(h j a hj).2⟩) ih
 |fn f first captured va vb hs _ hs' _ ih ih'=>exact .fn f first captured va vb hs ih hs' ih'
 |mp o b base hi=>exact (hno _ _ hi).elim
 |oq t a v _ ih=>exact .oq t a v ih
 |yl o b base hi=>exact (hno _ _ hi).elim
 |bad v=>exact .bad v
theorem A2 {l:List AV} (h:AV.fresh.go l=true):∀ a ∈ l,a.fresh=true:=by
 induction l with
 |nil=>intro a ha;cases ha
 |cons x l ih=>
  simp only [AV.fresh.go,Bool.and_eq_true] at h
  intro a ha
  rcases List.mem_cons.1 ha with rfl|ha
  ·exact h.1
  ·exact ih h.2 a ha
theorem Zi {a:AV} (h:a.fresh=true):∀ c ∈ a.cells,c.fresh=true:=by
 cases a with
 |agg l=>exact A2 h
 |sc v=>intro c hc;simp only [AV.cells,List.mem_map] at hc;obtain ⟨x,_,rfl⟩:=hc;rfl
 |_=>intro c hc;simp only [AV.cells,List.mem_singleton] at hc;subst hc;exact h
theorem Rel.fresh {b0 K g w a v} (h:Rel (gK b0 K) w a v) (hf:a.fresh=true) (hb:g.b0≤b0) (hK:∀ b j,K b j→b0≤b→g.K b j):Rel g w a v:=by
 generalize hg:gK b0 K=g0 at h
 have hK':∀ b j,g0.K b j→g0.b0≤b→g.K b j:=by subst hg;exact hK
 have hb':g.b0≤g0.b0:=by subst hg;exact hb
 clear hg hb hK
 induction h with
 |sc x=>exact .sc x
 |agg l vs hs _ ih=>exact .agg l vs hs (fun i a v ha hv=>ih i a v ha hv (A2 hf a (List.mem_of_getElem? ha)))
 |ja l vs hs _ ih=>exact .ja l vs hs (fun i a v ha hv=>ih i a v ha hv (A2 hf a (List.mem_of_getElem? ha)))
 |vl loc sz es b off cap c hsz hl hcap h _ hw ih=>
  simp only [AV.fresh,Bool.and_eq_true] at hf
  have hbb:=hl hf.1
  refine .vl loc sz es b off cap c hsz (fun e=>Nat.le_trans hb' hbb) hcap (fun j a hj=>⟨hK' _ _ (h j a hj).1 hbb,(h j a hj).2⟩) (fun j a hj=>ih j a hj ?_) (fun e=>⟨fun j=>hK' _ _ ((hw e).K j) hbb,(hw e).nc,(hw e).none,(hw e).cm⟩)
  obtain ⟨e,he,hc⟩:=List.mem_flatMap.1 (List.mem_of_getElem? hj)
  exact Zi (A2 hf.2 e he) a hc
 |jy loc sz=>exact .jy loc sz
 |qb loc sz a=>exact .qb loc sz a
 |sl o off len sz b base cap hi hc hm hr=>cases hf
 |nq o off sz a=>cases hf
 |n9 o off sz=>cases hf
 |ez a=>exact .ez a
 |ptr o off b base hi=>cases hf
 |jr l b off c h _ ih=>cases hf
 |fn f first captured va vb hs _ hs' _ ih ih'=>
  simp only [AV.fresh,Bool.and_eq_true] at hf
  exact .fn f first captured va vb hs (fun i a v ha hv=>ih i a v ha hv (A2 hf.1 a (List.mem_of_getElem? ha))) hs' (fun i a v ha hv=>ih' i a v ha hv (A2 hf.2 a (List.mem_of_getElem? ha)))
 |mp o b base hi=>cases hf
 |oq t a v _ ih=>exact .oq t a v (ih hf)
 |yl o b base hi=>cases hf
 |bad v=>cases hf
def Gh.more (g:Gh) (w w':World):Gh:={ g with K:=Hf g.K w w' }
theorem Oh {g h w w'} {lo hi:Nat} (hok:Ok g h w) (q:xf w w'):Step g h w lo hi (g.more w w') h w'∧Ok (g.more w w') h w':=by
 have hext:Ext g w (g.more w w') w':=by
  refine ⟨rfl,fun _ _ h=>h,fun _ _ h=>.inl h,fun b j hj=>m9 (q.heap b (hok.K b j hj)),fun b cs e fr hb=>⟨cs,fr,(q.heap b (bf hb)).trans hb,rfl⟩,fun b l hb=>⟨l,(q.heap b (bf hb)).trans hb⟩,fun b cs e fr hb _=>q.heap b (bf hb)⟩
 refine ⟨⟨hext,q.size,q.os,q.tape,q.output,fun b hb _=>q.heap b hb,fun _ h _=>h,fun o b base ho hi=>.inr ⟨o,base,ho,hi⟩,fun b j hk=>?_⟩,⟨Nat.le_trans hok.size q.size,fun o x hx=>?_,hok.sep,fun b j hk=>?_⟩⟩
 ·rcases hk with hk|hk
  ·exact .inl hk
  ·exact .inr (.inl hk.1)
 ·refine (hok.kz o x hx).imp id ?_
  rintro ⟨b,base,h1,h2,h3⟩
  refine ⟨b,base,h1,h2,h3.ext hext (q.heap b h3.lt) (fun j hk=>?_)⟩
  rcases hk with hk|hk
  ·exact hk
  ·have:=h3.lt;omega
 ·rcases hk with hk|hk
  ·exact Nat.lt_of_lt_of_le (hok.K b j hk) q.size
  ·exact hk.2
noncomputable def dr {α:Type} (A:AC α) (F : α→Option AV) (args:List AV):M AV:=fun st=>
 match A.get .nil args with
 |some x=>(F x).map fun r=>(r,st)
 |none=>
  match A.get st.h args with
  |some x=>
   match F x with
   |some r=>bif r.fresh then some (r,st) else some (r,{ st with h:=.nil })
   |none=>none
  |none=>none
theorem ar {P:Program} [KP P] {f:Nat} {α:Type} {A:AC α} {F : α→Option AV} (h:∀ x r,F x=some r→bw P f (A.E x) r) (args:List AV):yz P f args (dr A F args):=by
 intro g st w vs r st' hok hfree hrel hm
 have go:∀ (X:Value→World→Prop),aah P f vs w X→(∀ v w',X v w'→xf w w'∧Rel (g.more w w') w' r v)→st'=st →
  (∃ v w' g',(callFunc f vs.toArray).run P w = .ok (.value v) w'∧Step g st.h w st.nx st'.nx g' st'.h w'∧Ok g' st'.h w'∧Rel g' w' r v) ∨
  ((callFunc f vs.toArray).run P w = .ok (.enter f vs.toArray) w∧Calls P f vs.toArray w (fun e w'=>∃ v g',e = .returned v∧Step g st.h w st.nx st'.nx g' st'.h w'∧Ok g' st'.h w'∧Rel g' w' r v)):=by
  intro X hx hX e
  subst e
  rcases hx with ⟨v,h1,h2⟩|⟨h1,h2⟩
  ·obtain ⟨q,hr⟩:=hX v w h2
   have:=Oh (lo:=st'.nx) (hi:=st'.nx) hok q
   exact .inl ⟨v,w,_,h1,this.1,this.2,hr⟩
  ·refine .inr ⟨h1,h2.mono ?_⟩
   rintro e w' ⟨v,rfl,h3⟩
   obtain ⟨q,hr⟩:=hX v w' h3
   have:=Oh (lo:=st'.nx) (hi:=st'.nx) hok q
   exact ⟨v,_,rfl,this.1,this.2,hr⟩
 unfold dr at hm
 cases h1:A.get .nil args with
 |some x=>
  rw [h1] at hm
  simp only [Option.map_eq_some_iff] at hm
  obtain ⟨r',h2,h3⟩:=hm
  cases h3
  have hargs:=A.ok (b0:=w.heap.size) (hok.part (hm:=.nil) (fun o x hx=>by rw [Tr.get_nil] at hx;cases hx)) (uq.nil g g.K (fun _ _ h=>h)) hrel h1
  refine go _ (h x r h2 g.K w vs hok.K hargs) (fun v w' hv=>⟨hv.1,hv.2.lift hok.size (fun b j hk=>hk)⟩) rfl
 |none=>
  rw [h1] at hm
  simp only at hm
  cases h2:A.get st.h args with
  |none=>rw [h2] at hm;cases hm
  |some x=>
   rw [h2] at hm
   simp only at hm
   cases h3:F x with
   |none=>rw [h3] at hm;cases hm
   |some r'=>
    rw [h3] at hm
    simp only at hm
    cases h4:r'.fresh with
    |false=>
     rw [h4] at hm
     cases hm
     obtain ⟨K1,eK⟩:∃ K1:Nat→Nat→Prop,(fun b j=>g.K b j∨((∃ o base,(st.h.get o).isSome=true∧g.inj o=some (b,base))∧b<w.heap.size))=K1:=⟨_,rfl⟩
     have hK1:∀ b j,K1 b j↔(g.K b j∨((∃ o base,(st.h.get o).isSome=true∧g.inj o=some (b,base))∧b<w.heap.size)):=fun b j=>by rw [← eK]
     have hK1s:∀ b j,K1 b j→b<w.heap.size:=fun b j hk=>((hK1 b j).1 hk).elim (hok.K b j) (fun q=>q.2)
     have hargs:=A.ok (b0:=w.heap.size) (K:=K1) hok ⟨fun b j hk=>(hK1 b j).2 (.inl hk),fun o cells k s e ho b base hi j hj=>by
      obtain ⟨b',base',h5,_,h6⟩:=hok.obj o _ ho
      rw [hi] at h5;cases h5
      exact (hK1 _ _).2 (.inr ⟨⟨o,base,by rw [ho];rfl,hi⟩,h6.lt⟩)⟩ hrel h2
     have fin:∀ (v:Value) (w':World),xf w w'∧Rel (gK w.heap.size (Hf K1 w w')) w' r v →
      Step g st.h w st.nx st.nx { g with K:=Hf K1 w w' } .nil w'∧Ok { g with K:=Hf K1 w w' } .nil w'∧Rel { g with K:=Hf K1 w w' } w' r v:=by
      rintro v w' ⟨q,hr⟩
      refine ⟨⟨⟨rfl,fun _ _ h=>h,fun b j h=>.inl ((hK1 b j).2 (.inl h)),fun b j hj=>m9 (q.heap b (hok.K b j hj)),fun b cs e fr hb=>⟨cs,fr,(q.heap b (bf hb)).trans hb,rfl⟩,fun b l hb=>⟨l,(q.heap b (bf hb)).trans hb⟩,fun b cs e fr hb _=>q.heap b (bf hb)⟩,
       q.size,q.os,q.tape,q.output,fun b hb _=>q.heap b hb,fun _ h _=>h,fun o b base ho hi=>(by rw [Tr.get_nil] at ho;cases ho),fun b j hk=>?_⟩,
       ⟨Nat.le_trans hok.size q.size,fun o x hx=>(by rw [Tr.get_nil] at hx;cases hx),fun o o' x x' b base base' _ hx=>(by rw [Tr.get_nil] at hx;cases hx),fun b j hk=>?_⟩,hr.lift hok.size (fun b j hk=>hk)⟩
      ·rcases hk with hk|hk
       ·rcases (hK1 b j).1 hk with hk|⟨hk,_⟩
        ·exact .inl hk
        ·exact .inr (.inr hk)
       ·exact .inr (.inl hk.1)
      ·rcases hk with hk|hk
       ·exact Nat.lt_of_lt_of_le (hK1s b j hk) q.size
       ·exact hk.2
     rcases h x r h3 K1 w vs hK1s hargs with ⟨v,p1,p2⟩|⟨p1,p2⟩
     ·have q:=fin v w p2
      exact .inl ⟨v,w,_,p1,q.1,q.2.1,q.2.2⟩
     ·refine .inr ⟨p1,p2.mono ?_⟩
      rintro e w' ⟨v,rfl,p3⟩
      have q:=fin v w' p3
      exact ⟨v,_,rfl,q.1,q.2.1,q.2.2⟩
    |true=>
     rw [h4] at hm
     cases hm
     have hargs:=A.ok (b0:=w.heap.size) (K:=fun b _=>b<w.heap.size) hok ⟨fun b j hk=>hok.K b j hk,fun o cells k s e ho b base hi j hj=>by
      obtain ⟨b',base',h5,_,h6⟩:=hok.obj o _ ho
      rw [hi] at h5;cases h5
      exact h6.lt⟩ hrel h2
     refine go _ (h x r h3 (fun b _=>b<w.heap.size) w vs (fun _ _ h=>h) hargs) (fun v w' hv=>⟨hv.1,hv.2.fresh h4 hok.size (fun b j hk hle=>?_)⟩) rfl
     rcases hk with hk|hk
     ·omega
     ·exact .inr hk
theorem aq.nil (P:Program):aq P []:=fun f b m h=>by cases h
theorem aq.cons {P:Program} [KP P] {f:Nat} {b:Bool} {m:List AV→M AV} {T:dz} (h:∀ args,yz P f args (m args)) (hT:aq P T):aq P ((f,b,m)::T):=by
 intro f' b' m' hf args
 simp only [dz.find] at hf
 by_cases e:f=f'
 ·subst e
  simp only [Nat.beq_refl,cond_true,Option.some.injEq] at hf
  cases hf
  exact h args
 ·rw [od e,cond_false] at hf
  exact hT f' b' m' hf args
def adl (g:Gh) (st:St) (w:World):da:={ iw g st.h w st.nx (fun _=>False) with n0:=w.heap.size }
theorem jh.ofC {g st w} (hok:Ok g st.h w) (hfr:∀ o,st.nx≤o→g.inj o=none):jh (adl g st w) g st w:=
 ⟨hok,fun o h1 _=>hfr o h1,⟨rfl,fun _o _ho=>rfl,fun _ _ h=>h,fun _ _ _=>rfl,Nat.le_refl _,rfl,rfl,rfl,fun _ _ _=>rfl,fun o _b base ho hi=>.inr (.inr ⟨o,base,ho,hi⟩),fun _ _ h=>.inl h,
  fun _b cs _e fr h=>⟨cs,fr,h,rfl⟩,fun _b l h=>⟨l,h⟩,fun _ _ _ _ _ _=>rfl⟩,Nat.le_refl _⟩
theorem jh.aqw {g st w g' st' w'} (h:jh (adl g st w) g' st' w') (hfr:∀ o,st.nx≤o→g.inj o=none):Step g st.h w st.nx st'.nx g' st'.h w':=by
 have b:=h.base
 have pins:∀ o,o<st.nx→g'.inj o=g.inj o:=fun o ho=>b.pins o (.inl ho)
 refine ⟨⟨b.b0,fun o p hp=>?_,b.K,b.cell,b.nc,b.lp,b.whole⟩,b.size,b.os,b.tape,b.output,fun c hc hn=>b.frame c hc (fun hO=>?_),fun o ho hr=>?_,fun o c base ho hi=>?_,fun c j hk=>?_⟩
 ·by_cases h1:st.nx≤o
  ·rw [hfr o h1] at hp;cases hp
  ·rw [pins o (by omega)];exact hp
 ·rcases hO with hO|⟨o,base,h1,h2⟩
  ·exact hO
  ·exact hn o base h1 h2
 ·by_cases h1:o<st.nx
  ·rw [pins o h1];exact ho
  ·exact h.fresh o (by omega) (fun hf=>hf)
 ·rcases b.own o c base ho hi with h1|h1|h1
  ·exact .inl h1
  ·exact h1.elim
  ·exact .inr h1
 ·rcases b.kn c j hk with h1|h1|h1|h1
  ·exact .inl h1
  ·exact .inr (.inl h1)
  ·exact h1.elim
  ·exact .inr (.inr h1)
theorem fi {P:Program} [KP P] {T:dz} (hT:aq P T) (hm:P.follows .mixedOrders=true) {f:Nat} {fn:Func} {body:Code} (hf:P.funcs[f]? = some fn) (hb:fn.body=some body) (he:n5 P f=true) (hs:dw fn.ntmps body=true)
 {args:List AV} (hl:Nat.ble args.length fn.ntmps=true) {st:St} (hp:Nat.ble st.nx 1000=true) {R:AV→St→Prop}
 (h:wl P T st.nx body (dp P fn.results.toList R) (de 0 args) st):k8 P f args st R:=by
 intro g w vs hok hfr hrel
 refine .inr ⟨tm he _ _,u5 (ro:=none) (n:=0) (callsIn_of_wp_marks hf hb trivial ?_)⟩
 have hcur:=jh.ofC (w:=w) hok hfr
 refine wpIn_mono (ab9 hT hm (N:=0) (B:=adl g st w) (nt:=fn.ntmps) (fun _ h=>h) (Nat.le_of_ble_eq_true hp) (Nat.le_refl _) body hs _ _ _ g w _ h hcur (Av hrel (Nat.le_of_ble_eq_true hl)) (Marks.nil _ _ _ _)) ?_
 rintro ex a w' ⟨e,L,st',g',rfl,hq,hc,hr,hd⟩
 have fin:C7 (qj P L st' fn.results.toList) R st'→bodyPostM (fk none) 0 P fn (fun e w'=>∃ v g' r st',e = .returned v∧R r st'∧st.nx≤st'.nx∧Step g st.h w st.nx st'.nx g' st'.h w'∧Ok g' st'.h w'∧Rel g' w' r v) .ret a w':=by
  intro hq
  show LeavesInM (fk none) 0 P fn a.tmps _ a.defers .returning w'
  unfold C7 at hq
  cases hres:qj P L st' fn.results.toList with
  |none=>rw [hres] at hq;exact hq.elim
  |some l=>
   rw [hres] at hq
   obtain ⟨bs,e1,e2,e3⟩:=hd
   have e1:=e1.trans (List.append_nil _)
   rw [e1]
   refine C5 (Good:=fun u=>Ok g' st'.h u∧Step g st.h w st.nx st'.nx g' st'.h u∧(∀ a v,Rel g' w' a v→Rel g' u a v)) (S:=fun b=>w.heap.size≤b∧ff g' st'.h b) ?_ ?_ bs w'
    ⟨hc.ok,hc.aqw hfr,fun _ _ h=>h⟩ e2 (fun b hb=>⟨⟨(e3 b hb).1,(e3 b hb).2.2⟩,(e3 b hb).2.1⟩)
   ·rintro u b ⟨g1,g2,g3⟩ ⟨hb1,hb2⟩ hb3
    have hput:=Ok.C0 (ds':=none) g1 hb3 hb2
    exact ⟨hput.1,Step.ah9 (ds':=none) hok g2 hb1,fun a v h=>hput.2 a v (g3 a v h)⟩
   ·rintro u ⟨g1,g2,g3⟩
    obtain ⟨us,h1,h2⟩:=O6 (P:=P) g1 ⟨hr.1,fun t=>g3 _ _ (hr.2 t)⟩ fn.results.toList l hres
    obtain ⟨v,h3,h4⟩:=Pr h1 h2
    exact ⟨v,h3,v,g',_,st',rfl,hq,hc.aj,g2,g1,h4⟩
 cases e with
 |normal=>exact fin hq
 |ret=>exact fin hq
 |exit id=>exact hq.elim
def ky (D:List Nat) (nx i:Nat):Nat:=match D[i]? with|some o=>o|none=>nx+(i - D.length)
def pw (D:List Nat) (nx n0 i:Nat):Option Nat:=bif Nat.blt i n0 then some (ky D nx i) else none
def jq (D:List Nat) (nx n0:Nat) (h0:Tr au):List Nat→Tr au→Tr au
 | [],h=>h
 |i::r,h=>jq D nx n0 h0 r (Tr.set depth h (ky D nx i) ((h0.get i).bind (au.bk (pw D nx n0))))
def iz (D:List Nat) (st st0:St):St:={ h:=jq D st.nx st0.nx st0.h (dg 0 st0.nx) st.h,nx:=st.nx+(st0.nx - D.length),rl:=[],wl:=[] }
theorem wy {D:List Nat} {nx i o:Nat} (h:D[i]? = some o):ky D nx i=o:=by unfold ky;rw [h]
theorem zo {D:List Nat} {nx i:Nat} (h:D.length≤i):ky D nx i=nx+(i - D.length):=by unfold ky;rw [List.getElem?_eq_none h]
theorem alv {D:List Nat} {nx:Nat} (hD:D.Nodup) (hlt:∀ o ∈ D,o<nx) {i j:Nat} (h:ky D nx i=ky D nx j):i=j:=by
 rcases Nat.lt_or_ge i D.length with hi|hi<;>rcases Nat.lt_or_ge j D.length with hj|hj
 ·rw [wy (List.getElem?_eq_getElem hi),wy (List.getElem?_eq_getElem hj)] at h
  exact (List.getElem_inj hD).1 h
 ·rw [wy (List.getElem?_eq_getElem hi),zo hj] at h
  have:=hlt _ (List.getElem_mem hi);omega
 ·rw [zo hi,wy (List.getElem?_eq_getElem hj)] at h
  have:=hlt _ (List.getElem_mem hj);omega
 ·rw [zo hi,zo hj] at h;omega
theorem apf {D:List Nat} {nx n0 i:Nat} (hlt:∀ o ∈ D,o<nx) (hi:i<n0):ky D nx i≤nx+n0:=by
 rcases Nat.lt_or_ge i D.length with h|h
 ·rw [wy (List.getElem?_eq_getElem h)];have:=hlt _ (List.getElem_mem h);omega
 ·rw [zo h];omega
theorem Ep {D:List Nat} {nx n0:Nat} {h0:Tr au} {o:Nat}:∀ (l:List Nat) (h:Tr au),(∀ i ∈ l,ky D nx i≤bt)→(∀ i ∈ l,ky D nx i≠o)→(jq D nx n0 h0 l h).get o=h.get o
 | [],h,_,_=>rfl
 |i::r,h,hl,ho=>by
  rw [jq,Ep r _ (fun j hj=>hl j (by simp [hj])) (fun j hj=>ho j (by simp [hj])),ec _ _ _ _ (hl i (by simp)),if_neg (fun e=>ho i (by simp) e.symm)]
theorem Ra {D:List Nat} {nx n0:Nat} {h0:Tr au} (hinj:∀ i j,ky D nx i=ky D nx j→i=j) {i:Nat}:∀ (l:List Nat) (h:Tr au),(∀ j ∈ l,ky D nx j≤bt)→i ∈ l→(jq D nx n0 h0 l h).get (ky D nx i)=(h0.get i).bind (au.bk (pw D nx n0))
 | [],_,_,hi=>by cases hi
 |j::r,h,hl,hi=>by
  rw [jq]
  by_cases hr:i ∈ r
  ·exact Ra hinj r _ (fun k hk=>hl k (by simp [hk])) hr
  ·have hij:i=j:=by rcases List.mem_cons.1 hi with e|e;exact e;exact (hr e).elim
   subst hij
   rw [Ep r _ (fun k hk=>hl k (by simp [hk])) (fun k hk e=>hr (hinj k i e ▸ hk)),ec _ _ _ _ (hl i (by simp)),if_pos rfl]
theorem aiw {n i:Nat} (h:i<n):i ∈ dg 0 n:=(lf n 0 i).2 ⟨Nat.zero_le _,by omega⟩
theorem Oi {n i:Nat} (h:i ∈ dg 0 n):i<n:=by have:=((lf n 0 i).1 h).2;omega
theorem V9:∀ (l:List Nat) (o i:Nat),idx l o i=none→o ∉ l
 | [],o,i,_=>by simp
 |a::l,o,i,h=>by
  rw [Fi] at h
  split at h
  ·cases h
  ·rename_i ne
   have:=V9 l o (i+1) h
   simp only [List.mem_cons,not_or]
   exact ⟨fun e=>ne e.symm,this⟩
theorem Uk {D:List Nat} {g g0':Gh} {st st0':St} {h0:Tr au} {w w':World} {r:AV} {v:Value} (hD:D.Nodup) (hlt:∀ o ∈ D,o<st.nx) (hp:∀ o ∈ D,(st.h.get o).isSome=true)
 (hok:Ok g st.h w) (hfr:∀ o,st.nx≤o→g.inj o=none) (hk:D.length≤st0'.nx) (hb:st.nx+st0'.nx≤bt)
 (s0:Step (g.bk D) h0 w D.length st0'.nx g0' st0'.h w') (ok0:Ok g0' st0'.h w') (hr:Rel g0' w' r v) :
 ∃ g',st.nx≤(iz D st st0').nx∧Step g st.h w st.nx (iz D st st0').nx g' (iz D st st0').h w'∧Ok g' (iz D st st0').h w'∧Rel g' w' (r.bk (pw D st.nx st0'.nx)) v:=by
 obtain ⟨n0,hn0⟩:∃ n0,n0=st0'.nx:=⟨_,rfl⟩
 have hinj:=fun i j=>alv (nx:=st.nx) hD hlt (i:=i) (j:=j)
 have hule:∀ i ∈ dg 0 st0'.nx,ky D st.nx i≤bt:=fun i hi=>Nat.le_trans (apf hlt (Oi hi)) hb
 have hin:∀ i,i<st0'.nx→(iz D st st0').h.get (ky D st.nx i)=(st0'.h.get i).bind (au.bk (pw D st.nx st0'.nx)):=fun i hi=>Ra hinj _ _ hule (aiw hi)
 have hout:∀ o,(∀ i,i<st0'.nx→ky D st.nx i≠o)→(iz D st st0').h.get o=st.h.get o:=fun o ho=>Ep _ _ hule (fun i hi=>ho i (Oi hi))
 have hren:∀ i,(g.bk D).inj i=(D[i]?).bind g.inj:=fun _=>rfl
 have hold:∀ i b base,(g.bk D).inj i=some (b,base)→∃ o ∈ D,g.inj o=some (b,base)∧(st.h.get o).isSome=true:=fun i b base hi=>by
  rw [hren] at hi
  cases hd:D[i]? with
  |none=>rw [hd] at hi;cases hi
  |some o=>rw [hd] at hi;exact ⟨o,List.mem_of_getElem? hd,hi,hp o (List.mem_of_getElem? hd)⟩
 have hno:∀ i,st0'.nx≤i→g0'.inj i=none:=fun i hi=>s0.fresh i (by rw [hren,List.getElem?_eq_none (by omega)];rfl) (by omega)
 let g':Gh:={ b0:=g.b0,inj:=fun o=>if o<st.nx then g.inj o else g0'.inj (D.length+(o - st.nx)),K:=g0'.K }
 have gl:∀ o,o<st.nx→g'.inj o=g.inj o:=fun o ho=>if_pos ho
 have gg:∀ o,st.nx≤o→g'.inj o=g0'.inj (D.length+(o - st.nx)):=fun o ho=>if_neg (by omega)
 have F1:∀ i,g'.inj (ky D st.nx i)=g0'.inj i:=fun i=>by
  rcases Nat.lt_or_ge i D.length with hi|hi
  ·have hd:=List.getElem?_eq_getElem hi
   rw [wy hd,gl _ (hlt _ (List.getElem_mem hi))]
   have h1:(g.bk D).inj i=g.inj D[i]:=by rw [hren,hd];rfl
   cases hg:g.inj D[i] with
   |some p=>exact (s0.ext.inj i p (h1.trans hg)).symm
   |none=>exact (s0.fresh i (h1.trans hg) (by omega)).symm
  ·rw [zo hi,gg _ (by omega)]
   congr 1;omega
 let N:List Nat:=(List.range (st.nx+st0'.nx)).map fun o=>if o<st.nx then (idx D o 0).getD st0'.nx else D.length+(o - st.nx)
 have hNg:∀ p,p<st.nx+st0'.nx→N[p]? = some (if p<st.nx then (idx D p 0).getD st0'.nx else D.length+(p - st.nx)):=fun p hp=>by
  simp only [N,List.getElem?_map,List.getElem?_range hp,Option.map_some]
 have hidx:∀ i o,D[i]? = some o→idx D o 0=some i:=fun i o hi=>by
  cases hx:idx D o 0 with
  |some p=>
   have h1:=Az D o p hx
   obtain ⟨hi',ei⟩:=List.getElem?_eq_some_iff.1 hi
   obtain ⟨hp',ep⟩:=List.getElem?_eq_some_iff.1 h1
   rw [(List.getElem_inj hD).1 (ei.trans ep.symm)]
  |none=>exact absurd (List.mem_of_getElem? hi) (V9 D o 0 hx)
 have hτ:∀ o p,pw D st.nx st0'.nx o=some p→N[p]? = some o:=fun i p h=>by
  unfold pw at h
  cases hlt2:Nat.blt i st0'.nx with
  |false=>rw [hlt2] at h;cases h
  |true=>
   rw [hlt2] at h
   cases h
   have hi:i<st0'.nx:=Nat.le_of_ble_eq_true hlt2
   rcases Nat.lt_or_ge i D.length with hi2|hi2
   ·have hd:=List.getElem?_eq_getElem hi2
    rw [wy hd,hNg _ (by have:=hlt _ (List.getElem_mem hi2);omega),if_pos (hlt _ (List.getElem_mem hi2)),hidx i _ hd];rfl
   ·rw [zo hi2,hNg _ (by omega),if_neg (by omega)]
    congr 1;omega
 have hext:Ext (g0'.bk N) w' g' w':=by
  refine ⟨s0.ext.b0.symm,fun p q hq=>?_,fun _ _ h=>h,fun _ _ _=>rfl,fun b cs e fr h=>⟨cs,fr,h,rfl⟩,fun b l h=>⟨l,h⟩,fun _ _ _ _ _ _=>rfl⟩
  have hq':(N[p]?).bind g0'.inj=some q:=hq
  rcases Nat.lt_or_ge p (st.nx+st0'.nx) with hpl|hpl
  ·rw [hNg p hpl,Option.bind_some] at hq'
   by_cases hpn:p<st.nx
   ·rw [if_pos hpn] at hq'
    cases hx:idx D p 0 with
    |none=>rw [hx,Option.getD_none,hno _ (Nat.le_refl _)] at hq';cases hq'
    |some i=>
     rw [hx,Option.getD_some] at hq'
     rw [← wy (nx:=st.nx) (Az D p i hx),F1];exact hq'
   ·rw [if_neg hpn] at hq'
    rw [gg p (by omega)];exact hq'
  ·have:N[p]? = none:=List.getElem?_eq_none (by simp only [N,List.length_map,List.length_range];exact hpl)
   rw [this] at hq';cases hq'
 have himg:∀ o,(∃ i,i<st0'.nx∧ky D st.nx i=o)∨(∀ i,i<st0'.nx→ky D st.nx i≠o):=fun o=>by
  by_cases h:∃ i,i<st0'.nx∧ky D st.nx i=o
  ·exact .inl h
  ·exact .inr fun i hi e=>h ⟨i,hi,e⟩
 have dk:∀ i x,i<st0'.nx→(iz D st st0').h.get (ky D st.nx i)=some x→∃ y,st0'.h.get i=some y∧y.bk (pw D st.nx st0'.nx)=some x:=fun i x hi hx=>by
  rw [hin i hi] at hx
  cases hy:st0'.h.get i with
  |none=>rw [hy] at hx;cases hx
  |some y=>rw [hy] at hx;exact ⟨y,rfl,hx⟩
 have hfar:∀ o b base,(∀ i,i<st0'.nx→ky D st.nx i≠o)→g'.inj o=some (b,base)→o<st.nx∧o ∉ D∧g.inj o=some (b,base):=fun o b base ho hi=>by
  rcases Nat.lt_or_ge o st.nx with h1|h1
  ·refine ⟨h1,fun hd=>?_,by rw [← gl o h1];exact hi⟩
   obtain ⟨i,hil,e⟩:=List.getElem_of_mem hd
   exact ho i (by omega) (by rw [wy (List.getElem?_eq_getElem hil)];exact e)
  ·rw [gg o h1] at hi
   rcases Nat.lt_or_ge (D.length+(o - st.nx)) st0'.nx with h2|h2
   ·exact (ho _ h2 (by rw [zo (by omega)];omega)).elim
   ·rw [hno _ h2] at hi;cases hi
 have hsame:∀ o x b base,o ∉ D→st.h.get o=some x→g.inj o=some (b,base)→b<w.heap.size→w'.heap[b]? = w.heap[b]? ∧ (∀ i base',g0'.inj i=some (b,base')→(st0'.h.get i).isSome=true→False)∧(∀ j,g0'.K b j→g.K b j):=fun o x b base ho hx hi hbs=>by
  have hnot:∀ i base',(g.bk D).inj i≠some (b,base'):=fun i base' e=>by
   obtain ⟨o2,hd,hi2,hs2⟩:=hold i b base' e
   obtain ⟨x2,hx2⟩:=Option.isSome_iff_exists.1 hs2
   exact hok.sep o o2 x x2 b base base' (fun e=>ho (e ▸ hd)) hx hx2 hi hi2
  refine ⟨s0.frame b hbs fun i base' _=>hnot i base',fun i base' e hs=>?_,fun j hj=>?_⟩
  ·rcases s0.own i b base' hs e with h1|⟨o',base2,_,h2⟩
   ·omega
   ·exact hnot o' base2 h2
  ·rcases s0.kn b j hj with h1|h1|⟨o',base2,_,h2⟩
   ·exact h1
   ·omega
   ·exact (hnot o' base2 h2).elim
 have hblk:∀ o x b base,st.h.get o=some x→g.inj o=some (b,base)→kj g w b base x:=fun o x b base hx hi=>by
  rcases hok.kz o x hx with ⟨h1,_⟩|⟨b',base',h1,_,h2⟩
  ·rw [h1] at hi;cases hi
  ·rw [h1] at hi;cases hi;exact h2
 have hsz:∀ b base x,kj g w b base x→b<w.heap.size:=fun b base x hx=>by
  have hs:∃ q,w.heap[b]? = some q:=by
   cases x with
   |row cells k st et=>obtain ⟨cs,fr,h1,_⟩:=hx;exact ⟨_,h1⟩
   |map es=>obtain ⟨_,ms,clock,h1,_⟩:=hx;exact ⟨_,h1⟩
   |loop slots nt params assign body state pending=>obtain ⟨_,l,h1,_⟩:=hx;exact ⟨_,h1⟩
  obtain ⟨q,hq⟩:=hs
  exact (Array.getElem?_eq_some_iff.1 hq).1
 have hE:Ext g w g' w':=by
  refine ⟨rfl,fun o p hp=>?_,fun b j h=>s0.ext.K b j h,fun b j h=>s0.ext.cell b j h,s0.ext.nc,s0.ext.lp,s0.ext.whole⟩
  rcases Nat.lt_or_ge o st.nx with h1|h1
  ·rw [gl o h1];exact hp
  ·rw [hfr o h1] at hp;cases hp
 refine ⟨g',Nat.le_add_right _ _,⟨hE,s0.size,s0.os,s0.tape,s0.output,fun b hbs hn=>?_,fun o ho hr2=>?_,fun o b base ho hi=>?_,fun b j hK=>?_⟩,⟨?_,fun o x hx=>?_,fun o o' x x' b base base' hne hx hx' hi hi'=>?_,ok0.K⟩,(hr.bk hτ).ext hext⟩
 ·refine s0.frame b hbs fun i base _ e=>?_
  obtain ⟨o,_,h1,h2⟩:=hold i b base e
  exact hn o base h2 h1
 ·rcases Nat.lt_or_ge o st.nx with h1|h1
  ·rw [gl o h1];exact ho
  ·rw [gg o h1]
   exact hno _ (by simp only [iz] at hr2;omega)
 ·rcases himg o with ⟨i,hi0,rfl⟩|ho2
  ·obtain ⟨x,hx⟩:=Option.isSome_iff_exists.1 ho
   obtain ⟨y,hy,_⟩:=dk i x hi0 hx
   rw [F1] at hi
   rcases s0.own i b base (by rw [hy];rfl) hi with h1|⟨o',base',_,h2⟩
   ·exact .inl h1
   ·obtain ⟨o2,_,h3,h4⟩:=hold o' b base' h2
    exact .inr ⟨o2,base',h4,h3⟩
  ·obtain ⟨_,_,h3⟩:=hfar o b base ho2 hi
   rw [hout o ho2] at ho
   exact .inr ⟨o,base,ho,h3⟩
 ·rcases s0.kn b j hK with h1|h1|⟨o',base',_,h2⟩
  ·exact .inl h1
  ·exact .inr (.inl h1)
  ·obtain ⟨o2,_,h3,h4⟩:=hold o' b base' h2
   exact .inr (.inr ⟨o2,base',h4,h3⟩)
 ·exact Nat.le_trans hok.size s0.size
 ·rcases himg o with ⟨i,hi0,rfl⟩|ho2
  ·obtain ⟨y,hy,hyx⟩:=dk i x hi0 hx
   refine (ok0.kz i y hy).imp (fun q=>⟨by rw [F1];exact q.1,by obtain ⟨s1,e1,rfl⟩:=q.2;simp only [au.bk,AV.bk.go,Option.some.injEq] at hyx;exact ⟨s1,e1,hyx.symm⟩⟩) ?_
   rintro ⟨b,base,q1,q2,q3⟩
   refine ⟨b,base,by rw [F1];exact q1,by show g.b0≤b;have:=s0.ext.b0;have e:g0'.b0=g.b0:=this;omega,(q3.bk hτ hyx).ext hext rfl (fun j hj=>hj)⟩
  ·rw [hout o ho2] at hx
   cases hg:g'.inj o with
   |none=>
    refine .inl ⟨rfl,?_⟩
    rcases Nat.lt_or_ge o st.nx with h1|h1
    ·rw [gl o h1] at hg
     rcases hok.kz o x hx with ⟨_,h2⟩|⟨b,base,h2,_⟩
     ·exact h2
     ·rw [hg] at h2;cases h2
    ·rcases hok.kz o x hx with ⟨_,h2⟩|⟨b,base,h2,_⟩
     ·exact h2
     ·rw [hfr o h1] at h2;cases h2
   |some p=>
    obtain ⟨b,base⟩:=p
    obtain ⟨h1,h2,h3⟩:=hfar o b base ho2 hg
    have hor:=hblk o x b base hx h3
    obtain ⟨e1,_,e3⟩:=hsame o x b base h2 hx h3 (hsz b base x hor)
    refine .inr ⟨b,base,rfl,?_,hor.ext hE e1 e3⟩
    rcases hok.kz o x hx with ⟨h4,_⟩|⟨b',base',h4,h5,_⟩
    ·rw [h4] at h3;cases h3
    ·rw [h4] at h3;cases h3;exact h5
 ·rcases himg o with ⟨i,hi0,rfl⟩|ho2<;>rcases himg o' with ⟨i',hi0',rfl⟩|ho2'
  ·obtain ⟨y,hy,_⟩:=dk i x hi0 hx
   obtain ⟨y',hy',_⟩:=dk i' x' hi0' hx'
   rw [F1] at hi hi'
   exact ok0.sep i i' y y' b base base' (fun e=>hne (by rw [e])) hy hy' hi hi'
  ·obtain ⟨y,hy,_⟩:=dk i x hi0 hx
   obtain ⟨h1,h2,h3⟩:=hfar o' b base' ho2' hi'
   rw [hout o' ho2'] at hx'
   rw [F1] at hi
   exact (hsame o' x' b base' h2 hx' h3 (hsz b base' x' (hblk o' x' b base' hx' h3))).2.1 i base hi (by rw [hy];rfl)
  ·obtain ⟨y,hy,_⟩:=dk i' x' hi0' hx'
   obtain ⟨h1,h2,h3⟩:=hfar o b base ho2 hi
   rw [hout o ho2] at hx
   rw [F1] at hi'
   exact (hsame o x b base h2 hx h3 (hsz b base x (hblk o x b base hx h3))).2.1 i' base' hi' (by rw [hy];rfl)
  ·obtain ⟨h1,h2,h3⟩:=hfar o b base ho2 hi
   obtain ⟨h1',h2',h3'⟩:=hfar o' b base' ho2' hi'
   rw [hout o ho2] at hx
   rw [hout o' ho2'] at hx'
   exact hok.sep o o' x x' b base base' hne hx hx' h3 h3'
theorem Xu {P:Program} [KP P] {f:Nat} {args:List AV} {st:St} {R:AV→St→Prop} (D:List Nat) (hD:D.Nodup) (hlt:∀ o ∈ D,o<st.nx) (hp:∀ o ∈ D,(st.h.get o).isSome=true) (hl:D.length≤bt)
 (h:k8 P f (AV.bk.go (fun o=>idx D o 0) args) (aw (ib st.h (fun o=>idx D o 0) D)) (fun r st'=>(D.length≤st'.nx∧st.nx+st'.nx≤bt)∧R (r.bk (pw D st.nx st'.nx)) (iz D st st'))):k8 P f args st R:=by
 intro g w vs hok hfr hrel
 have hτ:∀ o p,(fun o=>idx D o 0) o=some p→D[p]? = some o:=fun o p h=>Az _ o p h
 have hnx:(aw (ib st.h (fun o=>idx D o 0) D)).nx=D.length:=by simp only [aw,gq]
 have hinj:∀ i o,D[i]? = some o→(g.bk D).inj i=g.inj o:=fun i o h=>by simp [Gh.bk,h]
 have dk:∀ i x,(aw (ib st.h (fun o=>idx D o 0) D)).h.get i=some x→∃ o y,D[i]? = some o∧st.h.get o=some y∧y.bk (fun o=>idx D o 0)=some x:=by
  intro i x hx
  simp only [aw] at hx
  rw [oy _ _ _ (by rw [gq];omega),if_pos (Nat.zero_le _),Nat.sub_zero,qz] at hx
  cases hi:D[i]? with
  |none=>rw [hi] at hx;cases hx
  |some o=>
   rw [hi] at hx
   simp only [Option.map_some,Option.join_some] at hx
   cases hy:st.h.get o with
   |none=>rw [hy] at hx;cases hx
   |some y=>rw [hy] at hx;exact ⟨o,y,rfl,hy,hx⟩
 have hok0:Ok (g.bk D) (aw (ib st.h (fun o=>idx D o 0) D)).h w:=by
  refine ⟨hok.size,fun i x hx=>?_,fun i j x y b base base' hij hx hy hb hb'=>?_,hok.K⟩
  ·obtain ⟨o,y,h1,h2,h3⟩:=dk i x hx
   refine (hok.kz o y h2).imp (fun q=>⟨by rw [hinj i o h1];exact q.1,by obtain ⟨s0,e0,rfl⟩:=q.2;simp only [au.bk,AV.bk.go,Option.some.injEq] at h3;exact ⟨s0,e0,h3.symm⟩⟩) ?_
   rintro ⟨b,base,q1,q2,q3⟩
   exact ⟨b,base,by rw [hinj i o h1];exact q1,q2,q3.bk hτ h3⟩
  ·obtain ⟨o,y1,h1,h2,_⟩:=dk i x hx
   obtain ⟨o',y2,h1',h2',_⟩:=dk j y hy
   rw [hinj i o h1] at hb
   rw [hinj j o' h1'] at hb'
   have hne:o≠o':=by
    intro e
    subst e
    obtain ⟨hi,ei⟩:=List.getElem?_eq_some_iff.1 h1
    obtain ⟨hj,ej⟩:=List.getElem?_eq_some_iff.1 h1'
    exact hij ((List.getElem_inj hD).1 (ei.trans ej.symm))
   exact hok.sep o o' _ _ b base base' hne h2 h2' hb hb'
 have hfr0:∀ o,(aw (ib st.h (fun o=>idx D o 0) D)).nx≤o→(g.bk D).inj o=none:=fun o ho=>by
  rw [hnx] at ho;simp [Gh.bk,List.getElem?_eq_none ho]
 have hrel0:bb (g.bk D) w (AV.bk.go (fun o=>idx D o 0) args) vs:=by
  rw [ia]
  refine ⟨by rw [List.length_map];exact hrel.1,fun i a v ha hv=>?_⟩
  rw [List.getElem?_map] at ha
  cases hx:args[i]? with
  |none=>rw [hx] at ha;cases ha
  |some a0=>rw [hx] at ha;cases ha;exact (hrel.2 i a0 v hx hv).bk hτ
 rcases h (g.bk D) w vs hok0 hfr0 hrel0 with ⟨v,w',g',r,st',q1,q2,q3,q4,q5,q6⟩|⟨q1,q2⟩
 ·rw [hnx] at q4
  obtain ⟨g'',p1,p2,p3,p4⟩:=Uk hD hlt hp hok hfr q2.1.1 q2.1.2 q4 q5 q6
  exact .inl ⟨v,w',g'',_,_,q1,q2.2,p1,p2,p3,p4⟩
 ·refine .inr ⟨q1,q2.mono ?_⟩
  rintro e w' ⟨v,g',r,st',rfl,q2,q3,q4,q5,q6⟩
  rw [hnx] at q4
  obtain ⟨g'',p1,p2,p3,p4⟩:=Uk hD hlt hp hok hfr q2.1.1 q2.1.2 q4 q5 q6
  exact ⟨v,g'',_,_,rfl,q2.2,p1,p2,p3,p4⟩
theorem l7 {P:Program} [KP P] {f:Nat} {args:List AV} {st:St} {R:AV→St→Prop} (D:List Nat) {args0:List AV} {objs0:List (Option au)} {r0:AV} {objs1:List (Option au)}
 (hc:k8 P f args0 (aw objs0) (fun r st'=>r=r0∧st'=aw objs1)) (hD:D.Nodup)
 (hlt:(D.all fun o=>Nat.blt o st.nx)=true) (hp:(D.all fun o=>(st.h.get o).isSome)=true) (hl:D.length≤bt)
 (ha:AV.bk.go (fun o=>idx D o 0) args=args0) (hs:ib st.h (fun o=>idx D o 0) D=objs0) (hb:D.length≤objs1.length∧st.nx+objs1.length≤bt)
 (h:R (r0.bk (pw D st.nx objs1.length)) (iz D st (aw objs1))):k8 P f args st R:=by
 refine Xu D hD (fun o ho=>Nat.le_of_ble_eq_true (List.all_eq_true.1 hlt o ho)) (fun o ho=>List.all_eq_true.1 hp o ho) hl ?_
 rw [ha,hs]
 intro g w vs hok hfr hrel
 rcases hc g w vs hok hfr hrel with ⟨v,w',g',r,st',q1,⟨rfl,rfl⟩,q3⟩|⟨q1,q2⟩
 ·exact .inl ⟨v,w',g',_,_,q1,⟨hb,h⟩,q3⟩
 ·refine .inr ⟨q1,q2.mono ?_⟩
  rintro e w' ⟨v,g',r,st',e1,⟨rfl,rfl⟩,q3⟩
  exact ⟨v,g',_,_,e1,⟨hb,h⟩,q3⟩
end
end Go.Vm
namespace Go.Vm
variable [TK]
noncomputable section
section code
variable (P : Program) (T : dz) (aj : Nat) (Q : QL) (L : SL) (st : St)
theorem aa5:wl P T aj .skip Q L st=Q .normal L st:=id rfl
theorem Sm (i ops d):wl P T aj (.region i ops d) Q L st=A0 P T ops d (Q .normal) L st:=id rfl
theorem ae4 (a b):wl P T aj (.seq a b) Q L st=wl P T aj a (K5 (wl P T aj b) Q) L st:=id rfl
theorem aa1 (c a b):wl P T aj (.cond c a b) Q L st=sr (dm L c) (wl P T aj a Q) (wl P T aj b Q) L st:=id rfl
theorem Xp (i b):wl P T aj (.block i b) Q L st=wl P T aj b (K2 i Q) L st:=id rfl
theorem Zx (b):wl P T aj (.loop b) Q L st=sk aj (wl P T aj b) Q L st:=id rfl
theorem aaw (i):wl P T aj (.exit i) Q L st=Q (.exit i) L st:=id rfl
theorem afw:wl P T aj .ret Q L st=Q .ret L st:=id rfl
theorem aep (W):K5 W Q .normal L st=W Q L st:=id rfl
theorem agx (W i):K5 W Q (.exit i) L st=Q (.exit i) L st:=id rfl
theorem agm (W):K5 W Q .ret L st=Q .ret L st:=id rfl
theorem ahr (i):K2 i Q .normal L st=Q .normal L st:=id rfl
theorem afq (i):K2 i Q .ret L st=Q .ret L st:=id rfl
theorem agj (i j):K2 i Q (.exit j) L st=bif Nat.beq j i then Q .normal L st else Q (.exit j) L st:=id rfl
theorem aa3 (az X):l8 aj az X Q .normal L st=X (i9 aj az L st) (fm aj az L st):=id rfl
theorem aa2 (az X i):l8 aj az X Q (.exit i) L st=Q (.exit i) L st:=id rfl
theorem aaj (az X):l8 aj az X Q .ret L st=Q .ret L st:=id rfl
theorem aga (rs R):dp P rs R .normal L st=C7 (qj P L st rs) R st:=id rfl
theorem aez (rs R):dp P rs R .ret L st=C7 (qj P L st rs) R st:=id rfl
theorem Q5 (ops K):A0 P T ops false K L st=opsL P T ops ops.toList K L st:=id rfl
theorem Xw (ops K):opsL P T ops [] K L st=K L st:=id rfl
theorem Q9 (ops o r K):opsL P T ops (o::r) K L st=uz ops o.guard (O9 P T o (opsL P T ops r K)) (Dl o.dst (opsL P T ops r K)) L st:=id rfl
theorem U6 (ops K recs):Bp P T ops [] K recs L st=(dv (Region.before ops) 0 recs=true∧K L st):=id rfl
theorem Sh (ops o r K recs):Bp P T ops (o::r) K recs L st=uz ops o.guard (fe P T o recs (Bp P T ops r K)) (Dl o.dst (Bp P T ops r K (recs++[⟨[],[]⟩]))) L st:=id rfl
theorem Ms (ops X Y):uz ops none X Y L st=X L st:=id rfl
theorem Mn (ops j c X Y):uz ops (some (j,c)) X Y L st=Bd (lk L (tu ops j)) c X Y L st:=id rfl
theorem Vs (b:Bool) (X Y:SL→St→Prop):Bd (.sc (.bool b)) true X Y L st=sr (.sc (.bool b)) X Y L st:=by cases b<;>simp [Bd,Ai,B2,E6,sr,s7,AV.bool,AV.exact,qd]
theorem Up (b:Bool) (X Y:SL→St→Prop):Bd (.sc (.bool b)) false X Y L st=sr (.sc (.bool b)) Y X L st:=by cases b<;>simp [Bd,Ai,B2,E6,sr,s7,AV.bool,AV.exact,qd]
theorem Xn (c:Bool) (X Y:SL→St→Prop):Bd (.sc undef) c X Y L st=Y L st:=by simp [Bd,Ai,B2,E6,AV.exact,undef]
theorem Z7 (o K):O9 P T o K L st=Ds (fv P T o (dm L) st) P o L st K:=id rfl
theorem Xo (v o K st'):Ds (some (v,st')) P o L st K=K (n8 o.dst v L) st':=id rfl
theorem Uo (K d r):kh K d L r st=K (n8 d r L) st:=id rfl
theorem W3 (ro F o recs K v dj):Bj ro F o recs K L st (some (v,dj))=((B8 st.nx F=true∧Nat.ble dj.nx bt=true)∧same (oj st.h F) dj.h (bif ro then F else []) ∧
 K (recs++[⟨F,(bif ro then [] else F)++dg st.nx (dj.nx - st.nx)⟩]) (n8 o.dst v L) { h:=ri dj.h (F++dg st.nx (dj.nx - st.nx)) st.h,nx:=dj.nx,rl:=[],wl:=[] }):=id rfl
theorem Qi (d K):Dl d K L st=K (n8 d (.sc undef) L) st:=id rfl
theorem gz (b X Y):sr (.sc (.bool b)) X Y L st=((b=true→X L st)∧(b=false→Y L st)):=id rfl
theorem Ea (X Y):sr (.sc (.bool true)) X Y L st=X L st:=by simp [sr,s7,AV.bool,AV.exact,qd]
theorem Dx (X Y):sr (.sc (.bool false)) X Y L st=Y L st:=by simp [sr,s7,AV.bool,AV.exact,qd]
theorem Ri (d v):n8 (some d) v L=(d,v)::L:=id rfl
theorem So (v):n8 none v L=L:=id rfl
theorem afz (l R):C7 (some l) R st=R (pack l) st:=id rfl
theorem aes (d v):lk ((d,v)::L) d=v:=by simp [lk]
theorem Z5 (d t v) (h:(d == t)=false):lk ((d,v)::L) t=lk L t:=by
 have e:d≠t:=by simpa using h
 rw [ow,if_neg e]
theorem akm (t):dm L (.tmp t)=lk L t:=id rfl
theorem akq (v):dm L (.const v) = .sc v:=id rfl
theorem akx (f):dm L (.func f) = .sc (.func (.func f) #[] #[]):=id rfl
theorem aei:qj P L st []=some []:=id rfl
theorem age (t r):qj P L st (.tmp t::r)=(qj P L st r).map (lk L t :: ·):=id rfl
theorem ahq (a t r):qj P L st (.cell a t::r)=match pg P t (lk L a) st with|some (v,_)=>(qj P L st r).map (v :: ·)|none=>none:=id rfl
end code
section ops
variable (P : Program) (T : dz) (ρ : Operand → AV) (d : Option Tmp) (ty : TypeId) (pos : String) (af : Array Edge) (gd : Option (Nat × Bool))
theorem Er (x):fv P T ⟨d,.move x,ty,pos,af,gd⟩ ρ=mono (M.pure (ρ x)):=id rfl
theorem Bk (x):fv P T ⟨d,.assign x,ty,pos,af,gd⟩ ρ=mono (M.pure (ρ x)):=id rfl
theorem Fm (t a):fv P T ⟨d,.load t a,ty,pos,af,gd⟩ ρ=mono (pg P t (ρ a)):=id rfl
theorem wc (s x f):fv P T ⟨d,.fieldAddr s x f,ty,pos,af,gd⟩ ρ=mono (pn P s (ρ x) f):=id rfl
theorem Ki (op t x y u):fv P T ⟨d,.binOp op t x y u,ty,pos,af,gd⟩ ρ=mono (Et P ρ ⟨d,.binOp op t x y u,ty,pos,af,gd⟩ op t x y):=id rfl
theorem Ew (c a b):fv P T ⟨d,.pick c a b,ty,pos,af,gd⟩ ρ=mono (Bq (ρ c) (ρ a) (ρ b)):=id rfl
theorem C6 (t a x):fv P T ⟨d,.store t a x,ty,pos,af,gd⟩ ρ=mono (tr P t (ρ a) (ρ x)):=id rfl
theorem F3 (t i):fv P T ⟨d,.extract t i,ty,pos,af,gd⟩ ρ=mono (vm (ρ t) i):=id rfl
theorem xj (t x i):fv P T ⟨d,.indexAddr t x i,ty,pos,af,gd⟩ ρ=mono (pv P t (ρ x) (ρ i)):=id rfl
theorem yn (x):fv P T ⟨d,.nilCheck x,ty,pos,af,gd⟩ ρ=mono (qy (ρ x)):=id rfl
theorem Kk (t):fv P T ⟨d,.alloc t,ty,pos,af,gd⟩ ρ=mono (x5 P t):=id rfl
theorem Rz (t x):fv P T ⟨d,.box t x,ty,pos,af,gd⟩ ρ=mono (Em t (ρ x)):=id rfl
theorem C9 (t ps):fv P T ⟨d,.build t ps,ty,pos,af,gd⟩ ρ=mono (vi P t (ps.toList.map fun p=>(p.1,ρ p.2))):=id rfl
theorem u3 (t n ps):fv P T ⟨d,.buildSlice t n ps,ty,pos,af,gd⟩ ρ=mono (m7 P t n (ps.toList.map fun p=>(p.1,ρ p.2))):=id rfl
theorem Ga (t r):fv P T ⟨d,.makeMap t r,ty,pos,af,gd⟩ ρ=mono (B4 r):=id rfl
theorem Dp (f a b):fv P T ⟨d,.makeFunc f a b,ty,pos,af,gd⟩ ρ=mono (M.pure (.fn f (a.toList.map ρ) (b.toList.map ρ))):=id rfl
theorem Ac (s u x):fv P T ⟨d,.convert s u x,ty,pos,af,gd⟩ ρ=mono (th P ρ ⟨d,.convert s u x,ty,pos,af,gd⟩ s u (ρ x)):=id rfl
theorem Kr (s x f):fv P T ⟨d,.field s x f,ty,pos,af,gd⟩ ρ=mono (Ax P s (ρ x) f):=id rfl
theorem Ji (t x i):fv P T ⟨d,.index t x i,ty,pos,af,gd⟩ ρ=mono (yu P ρ ⟨d,.index t x i,ty,pos,af,gd⟩ t x i):=id rfl
theorem Js (t x l h m):fv P T ⟨d,.slice t x l h m,ty,pos,af,gd⟩ ρ=mono (A1 P ρ ⟨d,.slice t x l h m,ty,pos,af,gd⟩ t x l h m):=id rfl
theorem Gt (t x i ok):fv P T ⟨d,.lookup t x i ok,ty,pos,af,gd⟩ ρ=mono (yc P t (ρ x) (ρ i) ok):=id rfl
theorem Cu (t m k x):fv P T ⟨d,.mapUpdate t m k x,ty,pos,af,gd⟩ ρ=mono (yg P t (ρ m) (ρ k) (ρ x)):=id rfl
theorem Hn (x ts):fv P T ⟨d,.call { callee:=.builtin .len,args:=#[x],argTypes:=ts },ty,pos,af,gd⟩ ρ=mono (sq ((ts[0]?).bind P.underlying) (ρ x)):=id rfl
theorem Bu (s x ts):fv P T ⟨d,.call { callee:=.builtin .append,args:=#[s,x],argTypes:=ts },ty,pos,af,gd⟩ ρ=mono (oc P ts[0]? ((ts[1]?).bind P.underlying) (ρ s) (ρ x)):=id rfl
theorem Nx (f args ts):fv P T ⟨d,.call { callee:=.value f,args,argTypes:=ts },ty,pos,af,gd⟩ ρ=tn T (ρ f) (args.toList.map ρ):=id rfl
end ops
section monad
variable {α β : Type} (s : St)
theorem akn (m:M α):mono m s=match m s with|none=>none|some (a,s')=>bif decide (s.nx≤s'.nx) then some (a,s') else none:=by
 have:∀ a b,Nat.ble a b=decide (a≤b):=fun a b=>by rw [Bool.eq_iff_iff];simp
 unfold mono
 cases m s with
 |none=>rfl
 |some p=>simp only [this]
theorem akf (m:M α) (f : α→M β):(m.bind f) s=match m s with|none=>none|some (a,s')=>f a s':=id rfl
theorem akr (a : α):(M.pure a) s=some (a,s):=id rfl
theorem akh:(M.fail:M α) s=none:=id rfl
theorem ak1 (a : α):(M.of (some a)) s=some (a,s):=id rfl
theorem ald (b:Bool) (m m':M α):(bif b then m else m') s=bif b then m s else m' s:=by cases b<;>rfl
theorem aks (o:Nat):dk o s=match s.h.get o with|some x=>some (x,{ s with rl:=o::s.rl })|none=>none:=id rfl
theorem ak7 (x:au):ko x s=bif decide (s.nx≤bt) then some (s.nx,{ s with h:=s.h.set depth s.nx (some x),nx:=s.nx+1,wl:=s.nx::s.wl }) else none:=by
 have:Nat.ble s.nx bt=decide (s.nx≤bt):=by rw [Bool.eq_iff_iff];simp
 unfold ko;rw [this]
theorem ak8 (o:Nat) (x:au):iy o x s=match s.h.get o with|some _=>bif decide (o≤bt) then some ((),{ s with h:=s.h.set depth o (some x),wl:=o::s.wl }) else none|none=>none:=by
 have:Nat.ble o bt=decide (o≤bt):=by rw [Bool.eq_iff_iff];simp
 unfold iy;rw [this];rfl
theorem akw (o:Nat):Ey o s=match s.h.get o with|some _=>bif decide (o≤bt) then some ((),{ s with h:=s.h.set depth o none,wl:=o::s.wl }) else none|none=>none:=by
 have:Nat.ble o bt=decide (o≤bt):=by rw [Bool.eq_iff_iff];simp
 unfold Ey;rw [this];rfl
theorem Uj (t:Tr au) (n m:Nat) (x:Option au) (h:n≤16777214):(Tr.set depth t n x).get m=if m=n then x else t.get m:=ec t n m x h
theorem Wt (n:Nat):(Tr.nil:Tr au).get n=none:=id rfl
theorem aij (a b:Nat):Nat.ble a b=decide (a≤b):=by rw [Bool.eq_iff_iff];simp
theorem ap0 (a b:Nat):Nat.blt a b=decide (a<b):=by rw [Bool.eq_iff_iff];simp
theorem ain (a b:Nat):Nat.beq a b=decide (a=b):=by rw [Bool.eq_iff_iff];simp
end monad
theorem Kb {a:AV} {x y x' y':Prop} (h1:x→x') (h2:y→y') (h:s7 a x y):s7 a x' y':=by
 unfold s7 at *
 split at h
 ·exact ⟨fun e=>h1 (h.1 e),fun e=>h2 (h.2 e)⟩
 ·exact h.elim
theorem xp {ops L gd} {x y x' y':Prop} (h1:x→x') (h2:y→y') (h:guarded ops L gd x y):guarded ops L gd x' y':=by
 unfold guarded at *
 split at h
 ·exact h1 h
 ·unfold Ai at *
  split at h
  ·exact ⟨fun e=>h1 (h.1 e),fun e=>h2 (h.2 e)⟩
  ·exact h.elim
theorem k8.mono {P f args st} {R R':AV→St→Prop} (h:∀ r st,R r st→R' r st) (hc:k8 P f args st R):k8 P f args st R':=by
 intro g w vs h1 h2 h3
 rcases hc g w vs h1 h2 h3 with ⟨v,w',g',r,st',q1,q2,q3⟩|⟨q1,q2⟩
 ·exact .inl ⟨v,w',g',r,st',q1,h _ _ q2,q3⟩
 ·refine .inr ⟨q1,q2.mono ?_⟩
  rintro e w' ⟨v,g',r,st',p1,p2,p3⟩
  exact ⟨v,g',r,st',p1,h _ _ p2,p3⟩
theorem adr {P o L st} {K K':SL→St→Prop} (h:∀ L st,K L st→K' L st) (hc:Iv P o L st K):Iv P o L st K':=by
 unfold Iv ace at *
 split at hc
 ·split at hc
  ·exact k8.mono (fun r st hk=>h _ _ hk) hc
  ·exact hc.elim
 ·exact hc.elim
theorem Cv {P T ops} {K K':SL→St→Prop} (h:∀ L st,K L st→K' L st):∀ (l:List Oper) (L:SL) (st:St),opsL P T ops l K L st→opsL P T ops l K' L st
 | [],L,st,hh=>h L st hh
 |o::r,L,st,hh=>xp (fun q=>by
  unfold O9 Ds at *
  split at q
  ·exact Cv h r _ _ q
  ·exact adr (fun L st=>Cv h r L st) q) (fun q=>Cv h r _ _ q) hh
theorem Ci {P T ops} {K K':SL→St→Prop} (h:∀ L st,K L st→K' L st):∀ (l:List Oper) (recs:List Rec) (L:SL) (st:St),Bp P T ops l K recs L st→Bp P T ops l K' recs L st
 | [],recs,L,st,hh=>⟨hh.1,h L st hh.2⟩
 |o::r,recs,L,st,hh=>xp (fun q=>by
  unfold fe jn Bj at *
  split at q
  ·exact ⟨q.1,q.2.1,Ci h r _ _ _ q.2.2⟩
  ·exact q.elim) (fun q=>Ci h r _ _ _ q) hh
theorem Cn {P T ops} {K K':SL→St→Prop} (h:∀ L st,K L st→K' L st):∀ (l:List Oper) (recs:List Rec) (L:SL) (st:St),Gr P T ops l K recs L st→Gr P T ops l K' recs L st
 | [],recs,L,st,hh=>⟨hh.1,h L st hh.2⟩
 |o::r,recs,L,st,hh=>xp (fun q=>Mx (fun _ _ _ k=>Cn h r _ _ _ k) q) (fun q=>Cn h r _ _ _ q) hh
theorem vz {P T l aj ops} {R:F4} (hR:∀ p args (X X':Ex→St→Prop) st,(∀ e st,X e st→X' e st)→R p args X st→R p args X' st) {K K':Option Ex→SL→St→Prop} (h:∀ pe L st,K pe L st→K' pe L st) :
 ∀ (ls:List Oper) (pe:Option Ex) (L:SL) (st:St),O7 P T l R aj ops ls K pe L st→O7 P T l R aj ops ls K' pe L st
 | [],pe,L,st,hh=>h pe L st hh
 |o::r,pe,L,st,hh=>xp (fun q=>by
  unfold opI aj8 at *
  split at q
  ·unfold P2 at *
   split at q
   ·exact vz hR h r _ _ _ q
   ·exact q.elim
  ·obtain ⟨h0,az,q⟩:=q
   refine ⟨h0,az,hR _ _ _ _ _ (fun e st q=>?_) q⟩
   cases e with
   |normal=>exact vz hR h r _ _ _ q
   |ret=>exact vz hR h r _ _ _ q
   |exit id=>exact vz hR h r _ _ _ q) (fun q=>vz hR h r _ _ _ q) hh
theorem ail {P:Program} {T:dz} {l aj:Nat} {R:F4} (hR:∀ p args (X X':Ex→St→Prop) st,(∀ e st,X e st→X' e st)→R p args X st→R p args X' st) :
 ∀ (c:Code) (Q Q':QI),(∀ e pe L st,Q e pe L st→Q' e pe L st)→∀ pe L st,Jl P T l R aj c Q pe L st→Jl P T l R aj c Q' pe L st:=by
 intro c
 induction c with
 |skip=>intro Q Q' h pe L st hh;exact h _ _ _ _ hh
 |label l=>intro Q Q' h pe L st hh;exact h _ _ _ _ hh
 |exit i=>intro Q Q' h pe L st hh;exact h _ _ _ _ hh
 |ret=>intro Q Q' h pe L st hh;exact h _ _ _ _ hh
 |region i ops draw=>
  intro Q Q' h pe L st hh
  cases draw with
  |false=>exact vz hR (h _) _ _ _ _ hh
  |true=>exact ⟨hh.1,hh.2.imp (Ci (h _ _) _ _ _ _) (Cn (h _ _) _ _ _ _)⟩
 |seq a b iha ihb=>
  intro Q Q' h pe L st hh
  refine iha _ _ ?_ pe L st hh
  intro e pe L st q
  cases e with
  |normal=>exact ihb _ _ h pe L st q
  |_=>exact h _ _ _ _ q
 |cond c a b iha ihb=>intro Q Q' h pe L st hh;exact Kb (iha _ _ h pe L st) (ihb _ _ h pe L st) hh
 |block i b ih=>
  intro Q Q' h pe L st hh
  refine ih _ _ ?_ pe L st hh
  intro e pe L st q
  cases e with
  |exit j=>
   simp only [ajp] at *
   cases hb:Nat.beq j i with
   |true=>rw [hb] at q;exact h _ _ _ _ q
   |false=>rw [hb] at q;exact h _ _ _ _ q
  |_=>exact h _ _ _ _ q
 |loop b ih=>
  intro Q Q' h pe L st hh
  obtain ⟨h0,az,hh⟩:=hh
  refine ⟨h0,az,fun X hX=>hh X fun vs os q=>hX vs os (ih _ _ ?_ _ _ _ q)⟩
  intro e pe L st q
  cases e with
  |normal=>exact q
  |_=>exact h _ _ _ _ q
 |scope b ih=>intro _ _ _ _ _ _ hh;exact hh.elim
 |rangeFunc=>intro _ _ _ _ _ _ hh;exact hh.elim
 |goto=>intro _ _ _ _ _ _ hh;exact hh.elim
 |refuse=>intro _ _ _ _ _ _ hh;exact hh.elim
theorem ajq {P:Program} {T:dz}:∀ (c:Code) (aj:Nat) (Q Q':QL),(∀ e L st,Q e L st→Q' e L st)→∀ L st,wl P T aj c Q L st→wl P T aj c Q' L st:=by
 intro c
 induction c with
 |skip=>intro aj Q Q' h L st hh;exact h _ _ _ hh
 |label l=>intro aj Q Q' h L st hh;exact h _ _ _ hh
 |exit i=>intro aj Q Q' h L st hh;exact h _ _ _ hh
 |ret=>intro aj Q Q' h L st hh;exact h _ _ _ hh
 |region i ops draw=>
  intro aj Q Q' h L st hh
  cases draw with
  |false=>exact Cv (h _) _ _ _ hh
  |true=>exact ⟨hh.1,hh.2.imp (Ci (h _) _ _ _ _) (Cn (h _) _ _ _ _)⟩
 |seq a b iha ihb=>
  intro aj Q Q' h L st hh
  refine iha _ _ _ ?_ L st hh
  intro e L st q
  cases e with
  |normal=>exact ihb _ _ _ h L st q
  |_=>exact h _ _ _ q
 |cond c a b iha ihb=>intro aj Q Q' h L st hh;exact Kb (iha _ _ _ h L st) (ihb _ _ _ h L st) hh
 |block i b ih=>
  intro aj Q Q' h L st hh
  refine ih _ _ _ ?_ L st hh
  intro e L st q
  cases e with
  |exit j=>
   simp only [K2] at *
   cases hb:Nat.beq j i with
   |true=>rw [hb] at q;exact h _ _ _ q
   |false=>rw [hb] at q;exact h _ _ _ q
  |_=>exact h _ _ _ q
 |loop b ih=>
  intro aj Q Q' h L st hh
  obtain ⟨az,hh⟩:=hh
  refine ⟨az,fun X hX=>hh X fun vs os q=>hX vs os (ih _ _ _ ?_ _ _ q)⟩
  intro e L st q
  cases e with
  |normal=>exact q
  |_=>exact h _ _ _ q
 |scope b ih=>intro aj Q Q' h L st hh;exact ih _ _ _ h L st hh
 |rangeFunc f ps a b iha ihb=>
  intro aj Q Q' h L st hh
  obtain ⟨az,h0,hh⟩:=hh
  refine ⟨az,h0,?_⟩
  unfold V4 at *
  split at hh
  ·unfold Xh at *
   split at hh
   ·refine ⟨hh.1,fun l=>ail (fun p args X X' st hX hr=>⟨hr.1,hr.2.1,iha _ _ _ (fun e L st q=>(by
     cases e with
     |normal=>exact ihb _ _ _ (fun e _ st q=>hX e st q) _ _ q
     |_=>exact q.elim)) _ _ hr.2.2⟩) _ _ _ (fun e pe L st q=>(by
     cases e with
     |exit id=>exact q.elim
     |normal=>
      cases pe with
      |none=>exact h _ _ _ q
      |some e=>exact h _ _ _ q
     |ret=>
      cases pe with
      |none=>exact h _ _ _ q
      |some e=>exact h _ _ _ q)) _ _ _ (hh.2 l)⟩
   ·exact hh.elim
  ·exact hh.elim
 |goto=>intro _ _ _ _ _ _ hh;exact hh.elim
 |refuse=>intro _ _ _ _ _ _ hh;exact hh.elim
theorem Pz {P:Program} {T:dz} {aj:Nat} (c:Code) (Q Q':QL) (h:∀ e L st,Q e L st→Q' e L st) (L:SL) (st:St) (hh:wl P T aj c Q L st):wl P T aj c Q' L st:=ajq c aj Q Q' h L st hh
theorem fo {α:Type} {P:Program} {T:dz} {aj:Nat} {b:Code} {Q:QL} {L:SL} {st:St} (az:List Nat) (V : α→List AV) (O : α→List (Option au)) (I : α→Prop) (μ : α→Nat) (x : α) (hx:I x)
 (hv:i9 aj az L st=V x) (ho:fm aj az L st=O x)
 (step:∀ x,I x→wl P T aj b (l8 aj az (fun vs os=>∃ y,I y ∧ μ y < μ x∧vs=V y∧os=O y) Q) (fc az (V x)) (aw (O x))):sk aj (wl P T aj b) Q L st:=
 sk.of az V O I μ x hx hv ho (fun _ _ h=>Pz b _ _ h) step
section cods
theorem lj {α:Type} (C:db α) (l:Bool) (xs:List α):(bc C).val l xs = .vl l C.sz (xs.map (C.val l)):=id rfl
theorem D7 {α:Type} (C:db α):(bc C).sz=1:=id rfl
theorem Sr:ai.sz=1:=id rfl
theorem T1:ay.sz=1:=id rfl
theorem Sl:cb.sz=1:=id rfl
theorem Ce:bo.sz=1:=id rfl
theorem Rm (k:IntKind):(b9 k).sz=1:=id rfl
theorem Mv:cz.sz=1:=id rfl
theorem zw (l:Bool) (x:UInt8):ay.val l x = .sc (.int .u8 x.toNat):=id rfl
theorem Of (l:Bool) (x:UInt16):cb.val l x = .sc (.int .u16 x.toNat):=id rfl
theorem Mf (l:Bool) (x:UInt32):bo.val l x = .sc (.int .u32 x.toNat):=id rfl
theorem M7 (k:IntKind) (l:Bool) (x:Int):(b9 k).val l x = .sc (.int k x):=id rfl
theorem Jy (l:Bool) (x:Bool):cz.val l x = .sc (.bool x):=id rfl
theorem aac (o i:Nat):idx [] o i=none:=id rfl
theorem V8 {α:Type} (C:db α) (τ:Nat→Option Nat) (l:Bool):AV.bk τ ∘ C.val l=C.val l:=by funext x;exact A4 C τ l x
theorem Mt (l:Bool) (x:ByteArray):ai.val l x = .sc (.string x):=id rfl
theorem Bz {α:Type} (C:db α) (fr:Bool) (h:Tr au) (a:AV) (h1:a.known=true) (h2:a.isAgg=C.agg):C.gk fr h a=C.dec fr h a.cells:=by
 unfold db.gk;rw [h1,h2];simp
theorem Rs (fr:Bool) (h:Tr au) (n:UInt32):bo.gk fr h (.sc (.int .u32 n.toNat))=some n:=bo.D9 fr h true n (fun _=>rfl)
theorem Rl (fr:Bool) (h:Tr au) (n:UInt16):cb.gk fr h (.sc (.int .u16 n.toNat))=some n:=cb.D9 fr h true n (fun _=>rfl)
theorem Ow (k:IntKind) (fr:Bool) (h:Tr au) (n:Int):(b9 k).gk fr h (.sc (.int k n))=some n:=(b9 k).D9 fr h true n (fun _=>rfl)
theorem Jx (fr:Bool) (h:Tr au) (b:Bool):cz.gk fr h (.sc (.bool b))=some b:=cz.D9 fr h true b (fun _=>rfl)
theorem Lx (fr:Bool) (h:Tr au) (s:ByteArray):ai.gk fr h (.sc (.string s))=some s:=ai.D9 fr h true s (fun _=>rfl)
theorem xz {α:Type} (C:db α) (fr:Bool) (h:Tr au) (a:AV) (h1:a.known=true) (h2:a.isAgg=false) (h3:a.cells=[a]):(bc C).gk fr h a=jc C fr h a:=by
 rw [Bz _ _ _ _ h1 h2,h3];rfl
theorem aln {α:Type} (C:db α) (fr:Bool) (h:Tr au) (l:Bool) (xs:List α) (hl:(l || !fr)=true):(bc C).gk fr h (.vl l C.sz (xs.map (C.val l)))=some xs:=by
 refine (bc C).D9 fr h l xs ?_
 cases fr<;>simp_all
theorem ry {α:Type} (C:db α) (fr:Bool) (h:Tr au) (l:Bool) (xs:List α) (n:Nat) (hn:n=C.sz) (hl:(l || !fr)=true):jc C fr h (.vl l n (xs.map (C.val l)))=some xs:=by
 subst hn
 have:(bc C).gk fr h (.vl l C.sz (xs.map (C.val l)))=some xs:=aln C fr h l xs hl
 rwa [xz C fr h _ rfl rfl rfl] at this
theorem Z9 {α:Type} (C:db α) (fr:Bool) (h:Tr au) (o off len n:Nat):jc C fr h (.sl o off len n)=bif decide (n=C.sz) then (h.get o).bind (je C fr h off len) else none:=by
 show (bif Nat.beq n C.sz then _ else _)=_
 rw [ain]
theorem O0 {α:Type} (C:db α) (fr:Bool) (h:Tr au) (off len:Nat) (cells:List AV) (k s:Nat) (e:TypeId) :
 je C fr h off len (.row cells k s e)=bif decide (off+len * C.sz≤cells.length) && ux fr C.sz C.kd s off cells.length len e then uh C fr h len ((cells.drop off).take (len * C.sz)) else none:=by
 show (bif Nat.ble _ _ && _ then _ else _)=_
 rw [aij]
theorem Zw (sz kd st off len n et):ux false sz kd st off len n et=true:=id rfl
theorem aer {α:Type} (C:db α) (fr:Bool) (h:Tr au) (n:Nat) (l:List AV):uh C fr h (n+1) l=match C.dec fr h (l.take C.sz),uh C fr h n (l.drop C.sz) with|some x,some xs=>some (x::xs)|_,_=>none:=id rfl
theorem aeo {α:Type} (C:db α) (fr:Bool) (h:Tr au) (l:List AV):uh C fr h 0 l=some []:=id rfl
theorem Ns (fr:Bool) (h:Tr au) (n:Int) (h0 : 0≤n) (h1:n<256):ay.dec fr h [.sc (.int .u8 n)]=some (UInt8.ofNat n.toNat):=by
 show u8V (.int .u8 n)=_;simp [u8V,h0,h1]
theorem aoo {α β:Type} (A:db α) (B:db β) (l:Bool) (p : α × β):(r2 A B).E l p = .ja [A.val l p.1,B.val l p.2]:=id rfl
theorem aoh {α:Type} (A:db α) (l:Bool) (x : α):(r1 A).E l x=A.val l x:=id rfl
theorem Wr (T:dz) (g:Nat) (a b:Array Value) (args:List AV):tn T (.sc (.func (.func g) a b)) args=so T g (a.toList.map .sc++args++b.toList.map .sc):=id rfl
theorem X3 (T:dz) (g:Nat) (a b:List AV) (args:List AV):tn T (.fn (.func g) a b) args=so T g (a++args++b):=id rfl
theorem Ql (f:Nat) (b:Bool) (m:List AV→M AV) (T:dz) (args:List AV):so ((f,b,m)::T) f args=mono (m args):=by simp [so,dz.find]
theorem Nj (f g:Nat) (b:Bool) (m:List AV→M AV) (T:dz) (args:List AV) (h:(f == g)=false):so ((f,b,m)::T) g args=so T g args:=by
 have:f≠g:=by simpa using h
 simp [so,dz.find,od this]
theorem Vb {α:Type} (A:AC α) (F : α→Option AV) (args:List AV) (st:St):dr A F args st=match A.get .nil args with|some x=>(F x).map fun r=>(r,st)|none=>match A.get st.h args with|some x=>(match F x with|some r=>bif r.fresh then some (r,st) else some (r,{ st with h:=.nil })|none=>none)|none=>none:=id rfl
theorem an9 {α β:Type} (A:db α) (B:db β) (fr:Bool) (h:Tr au) (a b:AV):(r2 A B).get fr h (.ja [a,b])=match A.gk fr h a,B.gk fr h b with|some x,some y=>some (x,y)|_,_=>none:=id rfl
theorem ap6 (h:Tr au):a0.get h []=some ():=id rfl
theorem aos {α β:Type} (C:db α) (R:AC β) (h:Tr au) (a:AV) (r:List AV):(aC C R).get h (a::r)=match C.gk false h a,R.get h r with|some x,some y=>some (x,y)|_,_=>none:=id rfl
theorem aou {α:Type} (A:db α) (fr:Bool) (h:Tr au) (a:AV):(r1 A).get fr h a=A.gk fr h a:=id rfl
end cods
section
variable (P : Program)
theorem Qm (pl:Nat→Option (Nat × Nat)) (cells:List AV):sn pl cells []=some cells:=id rfl
theorem Lt (pl:Nat→Option (Nat × Nat)) (cells:List AV) (i:Nat) (v:AV) (rest:List (Nat × AV)):sn pl cells ((i,v)::rest)=match pl i with
 |none=>none
 |some (off,size)=>bif !v.known || !(Nat.beq v.cells.length size) || !(Nat.ble (off+size) cells.length) then none else sn pl (cells.take off++v.cells++cells.drop (off+size)) rest:=id rfl
def wz (t:TypeId):Option (List AV × List (Nat × Nat)):=
 match fg P t,P.underlying t with
 |some z,some (.struct fields)=>(Ef P fields).map fun pl=>(z.cells.toList.map .sc,pl)
 |_,_=>none
theorem Ot (t:TypeId) (ps:List (Nat × AV)):vi P t ps=match wz P t with
 |some (z,pl)=>.of ((sn (fun i=>pl[i]?) z ps).map .agg)
 |none=>vi P t ps:=by
 cases hb:wz P t with
 |none=>rfl
 |some q=>
  obtain ⟨z,pl⟩:=q
  simp only [wz] at hb
  split at hb
  ·rename_i z' fs hz hu
   cases hp:Ef P fs with
   |none=>simp [hp] at hb
   |some pl'=>
    simp [hp] at hb
    obtain ⟨rfl,rfl⟩:=hb
    simp [vi,hz,hu,hp]
  ·cases hb
def Ae (t:TypeId):Option (TypeId × Nat × List AV):=
 match nh P t with
 |none=>none
 |some e=>
  match di P e,fg P e with
  |some sz,some z=>bif Nat.beq z.cells.size sz then some (e,sz,z.cells.toList.map .sc) else none
  |_,_=>none
theorem Cm (t:TypeId) (len:Nat) (ps:List (Nat × AV)):m7 P t len ps=match Ae P t with
 |some (e,sz,z)=>
  match sn (fun i=>some (i * sz,sz)) (List.replicate len z).flatten ps with
  |some cells=>bif Nat.ble (len * sz) 16777216 && Nat.ble len 16777216 then rb e sz len cells else .fail
  |none=>.fail
 |none=>m7 P t len ps:=by
 cases hb:Ae P t with
 |none=>rfl
 |some q=>
  obtain ⟨e,sz,z⟩:=q
  simp only [Ae] at hb
  split at hb
  ·cases hb
  ·rename_i e' he
   split at hb
   ·rename_i sz' z' hs hz
    cases hq:Nat.beq z'.cells.size sz' with
    |false=>simp [hq] at hb
    |true=>
     simp [hq] at hb
     obtain ⟨rfl,rfl,rfl⟩:=hb
     simp only [m7,he,hs,hz,hq,Bool.and_true]
     rfl
   ·cases hb
end
section ranges
variable (P : Program) (T : dz) (l aj : Nat) (R : F4) (Q : QI) (pe : Option Ex) (L : SL) (st : St)
end ranges
section yields
variable {lp : Nat} {L : SL} {d : Option Tmp} {ty : TypeId} {pos : String} {af : Array Edge} {gd : Option (Nat × Bool)}
end yields
end
end Go.Vm
namespace Go.Vm
variable [TK]
noncomputable section
abbrev Name:=List ByteArray
structure a9 where
 names:List Name
 nums:List UInt32
 texts:List ByteArray
 raw:List UInt8
def mkD (a:List Name) (b:List UInt32) (c:List ByteArray) (e:List UInt8):a9:=⟨a,b,c,e⟩
theorem aag (d:a9):mkD d.names d.nums d.texts d.raw=d:=id rfl
noncomputable def ak:db Name:=bc ai
noncomputable def ag:db a9:=Bn (jz (bc ak) (jz (bc bo) (jz ak (bc ay)))) (fun d=>(d.names,d.nums,d.texts,d.raw)) (fun p=>⟨p.1,p.2.1,p.2.2.1,p.2.2.2⟩) (fun _=>rfl) (fun _=>rfl)
theorem dh (l:Bool) (n:Name):ak.val l n = .vl l 1 (n.map (ai.val l)):=id rfl
theorem xd:ak.sz=1:=id rfl
theorem Fc:ag.sz=4:=id rfl
theorem fy (l:Bool) (d:a9):ag.val l d = .agg [.vl l 1 (d.names.map (ak.val l)),.vl l 1 (d.nums.map (bo.val l)),.vl l 1 (d.texts.map (ai.val l)),.vl l 1 (d.raw.map (ay.val l))]:=id rfl
theorem Jv (fr:Bool) (h:Tr au) (x1 x2 x3 x4:AV) :
 ag.gk fr h (.agg [x1,x2,x3,x4])=match jc ak fr h x1,jc bo fr h x2,jc ai fr h x3,jc ay fr h x4 with
  |some a,some b,some c,some e=>some (mkD a b c e)
  |_,_,_,_=>none:=by
 rw [Bz _ _ _ _ rfl rfl]
 have h1:ag.dec fr h (AV.agg [x1,x2,x3,x4]).cells=Option.map (fun p=>(⟨p.1,p.2.1,p.2.2.1,p.2.2.2⟩:a9)) ((jz (bc ak) (jz (bc bo) (jz ak (bc ay)))).dec fr h [x1,x2,x3,x4]):=rfl
 have d2:∀ {α β:Type} (A:db α) (B:db β) (l:List AV),(jz A B).dec fr h l=match A.dec fr h (l.take A.sz),B.dec fr h (l.drop A.sz) with|some x,some y=>some (x,y)|_,_=>none:=fun _ _ _=>rfl
 have l1:∀ {α:Type} (C:db α) (x:AV),(bc C).dec fr h [x]=jc C fr h x:=fun _ _=>rfl
 have n1:∀ x,ak.dec fr h [x]=jc ai fr h x:=fun _=>rfl
 rw [h1]
 simp only [d2,D7,xd,List.take_succ_cons,List.take_zero,List.drop_succ_cons,List.drop_zero,l1,n1]
 cases jc ak fr h x1<;>cases jc bo fr h x2<;>cases jc ai fr h x3<;>cases jc ay fr h x4<;>rfl
theorem Gk {α:Type} (C:db α) (fr:Bool) (h:Tr au) (l:Bool) (n:Nat) (es:List AV):(bc C).gk fr h (.vl l n es)=jc C fr h (.vl l n es):=xz C fr h _ rfl rfl rfl
theorem Hp {α:Type} (C:db α) (fr:Bool) (h:Tr au) (o off len n:Nat):(bc C).gk fr h (.sl o off len n)=jc C fr h (.sl o off len n):=xz C fr h _ rfl rfl rfl
theorem F8 {α:Type} (C:db α) (fr:Bool) (h:Tr au):(bc C).gk fr h (.sc (.slice none 0 0))=some []:=by
 rw [xz C fr h _ rfl rfl rfl];rfl
theorem Cj (fr:Bool) (h:Tr au) (l:Bool) (n:Nat) (es:List AV):ak.gk fr h (.vl l n es)=jc ai fr h (.vl l n es):=xz ai fr h _ rfl rfl rfl
theorem Ca (fr:Bool) (h:Tr au) (o off len n:Nat):ak.gk fr h (.sl o off len n)=jc ai fr h (.sl o off len n):=xz ai fr h _ rfl rfl rfl
theorem Hj (l:List UInt8):l.map Bs=l.map (ay.val false):=id rfl
theorem Hl {α:Type} (C:db α) (b:Bool) (l:List α):AV.names.go (l.map (C.val b))=[]:=C3 (fun c hc=>by
 obtain ⟨x,_,rfl⟩:=List.mem_map.1 hc
 exact Gm C b x)
theorem zf:∀ (l:List UInt8) (b:Bool),bytesOf (l.map (ay.val b))=some l
 | [],_=>rfl
 |c::l,b=>by
  rw [List.map_cons,zw,bytesOf,zf l b]
  simp
end
end Go.Vm
section
namespace Go.Vm.Cx
open Go.Vm
variable [TK]
noncomputable section
theorem zh {P:Program} (w:World):∀ (ns:List Int) (a:Addr) (i:Nat) (acc:ByteArray),(∀ (j:Nat) x,ns[j]? = some x→(load (a.add (i+j))).run P w = .ok (.int .u8 x) w) →
 (Extern.Bytes.loadBytes (a.add i) ns.length acc).run P w = .ok ⟨acc.data++(ns.map fun n=>UInt8.ofNat n.toNat).toArray⟩ w
 | [],a,i,acc,_=>by simp [Extern.Bytes.loadBytes]
 |x::l,a,i,acc,h=>by
  have h0:=h 0 x rfl
  rw [Nat.add_zero] at h0
  have e:(a.add i).add 1=a.add (i+1):=by
   unfold Addr.add
   by_cases hj:i=0
   ·subst hj;simp
   ·simp [hj];omega
  have ih:=zh (P:=P) w l a (i+1) (acc.push x.toNat.toUInt8) (fun j y hy=>by
   have:=h (j+1) y (by simpa using hy)
   rw [show i+1+j=i+(j+1) from by omega];exact this)
  simp only [List.length_cons,Extern.Bytes.loadBytes,Sem.run_bind,h0,Result.andThen]
  rw [e,ih]
  congr 1
  apply ByteArray.ext
  simp [ByteArray.push,Nat.toUInt8]
theorem Pe {l:List Int} {l':List Value} (h:l'=l.map (Value.int .u8)) (j:Nat) (x:Int) (hx:l[j]? = some x):l'[j]? = some (.int .u8 x):=by rw [h,List.getElem?_map,hx];rfl
theorem zj {P:Program} {g st dj w} {a:AV} {v:Value} {l:List AV} {bs:List UInt8} (hok:Ok g st.h w) (hr:Rel g w a v) (h:cellsIn 1 a st=some (l,dj)) (hb:bytesOf l=some bs) :
 (Extern.Bytes.bytesOf v).run P w = .ok ⟨bs.toArray⟩ w:=by
 obtain ⟨_,_,n,news,hsrc,hrl⟩:=ud (P:=P) hok hr h
 obtain ⟨ns,e1,e2⟩:=An _ _ _ hrl hb
 obtain ⟨r1,r2⟩:=hsrc.run w rfl
 cases v with
 |slice p len cap=>
  have hn:n=len:=by simp [Builtin.lenOf] at r1;exact r1.symm
  subst hn
  cases p with
  |none=>
   have:news=[]:=by simpa [Builtin.firstCells] using r2
   subst this
   have:ns=[]:=by simpa using e1.symm
   subst this
   subst e2
   rfl
  |some a=>
   simp only [Builtin.firstCells,Nat.mul_one] at r2
   unfold loadCells at r2
   obtain ⟨l',q1,q2,q3⟩:=loadCellsFrom_ok a n 0 #[] _ _ r2
   have hl':l'=news:=by simpa using q2.symm
   subst hl'
   have hlen:ns.length=n:=by rw [← q1,e1,List.length_map]
   have:=zh (P:=P) w ns a 0 .empty (fun j x hx=>by
    exact q3 j _ (Pe e1 j x hx))
   rw [hlen] at this
   have e0:a.add 0=a:=by simp [Addr.add]
   rw [e0] at this
   show (Extern.Bytes.loadBytes a n .empty).run P w=_
   rw [this,e2]
   congr 2
   simp [ByteArray.empty,ByteArray.emptyWithCapacity]
   rfl
 |string s=>
  have hn:n=s.size:=by simp [Builtin.lenOf] at r1;exact r1.symm
  subst hn
  simp only [Builtin.firstCells,Sem.run_pure,Result.ok.injEq,and_true] at r2
  have h1:=congrArg Array.toList r2
  rw [e1] at h1
  show Result.ok s w=_
  congr 1
  apply ByteArray.ext
  apply Array.ext'
  rw [e2]
  have h2:=congrArg (List.map fun v:Value=>match v with|.int _ n=>UInt8.ofNat n.toNat|_=>0) h1
  simp only [List.map_map,Array.toList_map] at h2
  have h3:(s.extract 0 s.size).data.toList=s.data.toList:=by simp
  rw [h3] at h2
  have h4:(List.map ((fun v:Value=>match v with|.int _ n=>UInt8.ofNat n.toNat|_=>0) ∘ fun b:UInt8=>Value.int .u8 (b.toNat:Int)) s.data.toList)=s.data.toList:=by
   rw [show ((fun v:Value=>match v with|.int _ n=>UInt8.ofNat n.toNat|_=>0) ∘ fun b:UInt8=>Value.int .u8 (b.toNat:Int))=id from by funext b;simp]
   simp
  rw [h4] at h2
  rw [h2]
  simp
 |_=>simp [Builtin.lenOf,stuck] at r1
def Iz (args:List AV):M AV:=
 match args with
 | [a]=>.pure a
 |_=>.fail
def mr (args:List AV):M AV:=
 match args with
 | [a,b]=>(cellsIn 1 a).bind fun x=>(cellsIn 1 b).bind fun y=>
  match bytesOf x with
  |some x=>
   match bytesOf y with
   |some y=>.pure (.sc (goInt (Lib.compareBytes x y)))
   |none=>.fail
  |none=>.fail
 |_=>.fail
def dt {α:Type} (m:M α):Prop:=∀ st v dj,m st=some (v,dj)→dj.h=st.h∧dj.nx=st.nx
theorem dt.pure {α:Type} (a : α):dt (M.pure a):=fun st v dj h=>by cases h;exact ⟨rfl,rfl⟩
theorem dt.fail {α:Type}:dt (M.fail:M α):=fun st v dj h=>by cases h
theorem dt.bind {α β:Type} {m:M α} {f : α→M β} (hm:dt m) (h:∀ x,dt (f x)):dt (m.bind f):=fun st v dj hb=>by
 obtain ⟨x,s1,h1,h2⟩:=bind_some hb
 have h3:=hm _ _ _ h1
 have h4:=h x _ _ _ h2
 exact ⟨h4.1.trans h3.1,h4.2.trans h3.2⟩
theorem dt.dk (id:Nat):dt (Vm.dk id):=fun _st _v _st1 h=>(gh h).2
theorem dt.cond {α:Type} {b:Bool} {x y:M α} (hx:dt x) (hy:dt y):dt (bif b then x else y):=by cases b<;>assumption
theorem dt.cellsIn (sz:Nat) (v:AV):dt (Vm.cellsIn sz v):=by
 unfold Vm.cellsIn A9
 repeat' (first|exact dt.pure _|exact dt.fail|apply dt.cond|(refine dt.bind (dt.dk _) fun x=>?_)|split)
theorem xy (args:List AV):dt (mr args):=by
 unfold mr;split
 ·exact dt.bind (dt.cellsIn _ _) fun x=>dt.bind (dt.cellsIn _ _) fun y=>by
   split
   ·split
    ·exact dt.pure _
    ·exact dt.fail
   ·exact dt.fail
 ·exact dt.fail
theorem He {P:Program} {f:Nat} {fn:Func} (hf:P.funcs[f]? = some fn) (h1:(fn.name == "runtime.NumGoroutine")=false) (h2:fn.body.isNone=true) (h3:Extern.findNext fn=none) (h4:Extern.find fn=some Extern.BytealgCompare.compare) (args:List AV) :
 yz P f args (mr args):=by
 intro g st w vs r st' hok hfree hrel hm
 refine .inl ?_
 have hst:=xy _ _ _ _ hm
 unfold mr at hm
 split at hm
 ·rename_i a c
  obtain ⟨x,s1,e1,hm⟩:=bind_some hm
  obtain ⟨y,s2,e2,hm⟩:=bind_some hm
  cases hx:bytesOf x with
  |none=>rw [hx] at hm;cases hm
  |some bx=>
  cases hy:bytesOf y with
  |none=>rw [hx,hy] at hm;cases hm
  |some yb=>
  rw [hx,hy] at hm
  cases hm
  have hh:=dt.cellsIn _ _ _ _ _ e1
  match vs,hrel with
  | [v,u],hrel=>
   have r1:=zj (P:=P) hok hrel.head e1 hx
   have r2:=zj (P:=P) (st:=s1) (by rw [hh.1];exact hok) hrel.tail.head e2 hy
   refine ⟨goInt (Lib.compareBytes bx yb),w,g,?_,?_,?_,.sc _⟩
   ·rw [run_callFunc_extern hf h1 h2 h3 h4]
    have:(Extern.BytealgCompare.compare #[v,u]).run P w = .ok (goInt (Lib.compareBytes bx yb)) w:=by
     change Sem.run P (do pure (goInt (Extern.BytealgCompare.cmp (← Extern.Bytes.bytesOf v) (← Extern.Bytes.bytesOf u)))) w=_
     simp only [Sem.run_bind,r1,r2,Result.andThen,Sem.run_pure]
     rw [Lib.cmp_eq]
    show ((Extern.BytealgCompare.compare #[v,u]).run P w).andThen _=_
    rw [this]
    rfl
   ·rw [hst.1,hst.2];exact .refl _ _ _ _ _
   ·rw [hst.1];exact hok
  | [],hrel=>have:=hrel.1;simp at this
  | [v],hrel=>have:=hrel.1;simp at this
  |_::_::_::_,hrel=>have:=hrel.1;simp at this
 ·cases hm
end
end Go.Vm.Cx
end
section
set_option linter.unnecessarySimpa false
namespace Go.Vm
variable [TK]
noncomputable section
def roT (o:Option (Bool × (List AV→M AV))):Bool:=match o with|some (b,_)=>b|none=>false
theorem ala (b m):roT (some (b,m))=b:=id rfl
theorem ed {o:Oper} {L:SL} {x:Operand} (h:x ∈ o.op.operands):c7 o L x=dm L x:=by
 cases x with
 |tmp t=>
  show (bif o.op.operands.any (fun x=>match x with|.tmp u=>Nat.beq u t|_=>false) then lk L t else .bad)=lk L t
  have:o.op.operands.any (fun x=>match x with|.tmp u=>Nat.beq u t|_=>false)=true:=by
   rw [Array.any_eq_true']
   exact ⟨_,h,by simp⟩
  rw [this];rfl
 |const v=>rfl
 |global g=>rfl
 |func f=>rfl
theorem ft {o:Oper} {L:SL} {l:List Operand} (h:∀ x ∈ l,x ∈ o.op.operands):l.map (c7 o L)=l.map (dm L):=List.map_congr_left fun x hx=>ed (h x hx)
theorem Ke {o:Oper} {L:SL} {l:List (Nat × Operand)} (h:∀ x ∈ l,x.2 ∈ o.op.operands):l.map (fun p=>(p.1,c7 o L p.2))=l.map (fun p=>(p.1,dm L p.2)):=List.map_congr_left fun x hx=>by rw [ed (h x hx)]
def eh (ro:Bool) (F:List Nat) (o:Oper) (recs:List Rec) (K:List Rec→SL→St→Prop) (L:SL) (st:St) (m:M AV):Prop:=Bj ro F o recs K L st (m { h:=oj st.h F,nx:=st.nx,rl:=[],wl:=[] })
theorem Sa (ro F o recs K L st m):eh ro F o recs K L st m=Bj ro F o recs K L st (m { h:=oj st.h F,nx:=st.nx,rl:=[],wl:=[] }):=id rfl
section ops
variable (P : Program) (T : dz) (L : SL) (st : St) (recs : List Rec) (K : List Rec → SL → St → Prop) (d : Option Tmp) (ty : TypeId) (pos : String) (af : Array Edge) (gd : Option (Nat × Bool))
theorem Vc (x):fe P T ⟨d,.move x,ty,pos,af,gd⟩ recs K L st=eh (true) ([]) ⟨d,.move x,ty,pos,af,gd⟩ recs K L st (mono (M.pure (dm L x))):=by
 unfold fe jn j8 eh
 simp only [ic,cond_true]
 have hm:∀ y,y ∈ ([x]:List Operand)→c7 ⟨d,.move x,ty,pos,af,gd⟩ L y=dm L y:=fun y hy=>ed (by simpa [Op.operands,Call.operands] using hy)
 have hmap:([x]:List Operand).map (c7 ⟨d,.move x,ty,pos,af,gd⟩ L)=([x]:List Operand).map (dm L):=ft (fun y hy=>by simpa [Op.operands,Call.operands] using hy)
 have ho:(⟨d,.move x,ty,pos,af,gd⟩:Oper).op.operands.toList=[x]:=by simp [Op.operands,Call.operands]
 rw [Er,hm x (by simp)]
 rfl
theorem Ng (x):fe P T ⟨d,.assign x,ty,pos,af,gd⟩ recs K L st=eh (true) ([]) ⟨d,.assign x,ty,pos,af,gd⟩ recs K L st (mono (M.pure (dm L x))):=by
 unfold fe jn j8 eh
 simp only [ic,cond_true]
 have hm:∀ y,y ∈ ([x]:List Operand)→c7 ⟨d,.assign x,ty,pos,af,gd⟩ L y=dm L y:=fun y hy=>ed (by simpa [Op.operands,Call.operands] using hy)
 have hmap:([x]:List Operand).map (c7 ⟨d,.assign x,ty,pos,af,gd⟩ L)=([x]:List Operand).map (dm L):=ft (fun y hy=>by simpa [Op.operands,Call.operands] using hy)
 have ho:(⟨d,.assign x,ty,pos,af,gd⟩:Oper).op.operands.toList=[x]:=by simp [Op.operands,Call.operands]
 rw [Bk,hm x (by simp)]
 rfl
theorem X2 (t a):fe P T ⟨d,.load t a,ty,pos,af,gd⟩ recs K L st=eh (true) ((dm L a).names) ⟨d,.load t a,ty,pos,af,gd⟩ recs K L st (mono (pg P t (dm L a))):=by
 unfold fe jn j8 eh
 simp only [ic,cond_false]
 have hm:∀ y,y ∈ ([a]:List Operand)→c7 ⟨d,.load t a,ty,pos,af,gd⟩ L y=dm L y:=fun y hy=>ed (by simpa [Op.operands,Call.operands] using hy)
 have hmap:([a]:List Operand).map (c7 ⟨d,.load t a,ty,pos,af,gd⟩ L)=([a]:List Operand).map (dm L):=ft (fun y hy=>by simpa [Op.operands,Call.operands] using hy)
 have ho:(⟨d,.load t a,ty,pos,af,gd⟩:Oper).op.operands.toList=[a]:=by simp [Op.operands,Call.operands]
 rw [Fm,hm a (by simp)]
 rfl
theorem Gd (s x f):fe P T ⟨d,.fieldAddr s x f,ty,pos,af,gd⟩ recs K L st=eh (true) ([]) ⟨d,.fieldAddr s x f,ty,pos,af,gd⟩ recs K L st (mono (pn P s (dm L x) f)):=by
 unfold fe jn j8 eh
 simp only [ic,cond_true]
 have hm:∀ y,y ∈ ([x]:List Operand)→c7 ⟨d,.fieldAddr s x f,ty,pos,af,gd⟩ L y=dm L y:=fun y hy=>ed (by simpa [Op.operands,Call.operands] using hy)
 have hmap:([x]:List Operand).map (c7 ⟨d,.fieldAddr s x f,ty,pos,af,gd⟩ L)=([x]:List Operand).map (dm L):=ft (fun y hy=>by simpa [Op.operands,Call.operands] using hy)
 have ho:(⟨d,.fieldAddr s x f,ty,pos,af,gd⟩:Oper).op.operands.toList=[x]:=by simp [Op.operands,Call.operands]
 rw [wc,hm x (by simp)]
 rfl
theorem Rj (op t x y u):fe P T ⟨d,.binOp op t x y u,ty,pos,af,gd⟩ recs K L st=eh (true) ([]) ⟨d,.binOp op t x y u,ty,pos,af,gd⟩ recs K L st (mono (Et P (c7 ⟨d,.binOp op t x y u,ty,pos,af,gd⟩ L) ⟨d,.binOp op t x y u,ty,pos,af,gd⟩ op t x y)):=by
 unfold fe jn j8 eh
 simp only [ic,cond_true]
 have hm:∀ y,y ∈ ([x,y]:List Operand)→c7 ⟨d,.binOp op t x y u,ty,pos,af,gd⟩ L y=dm L y:=fun y hy=>ed (by simpa [Op.operands,Call.operands] using hy)
 have hmap:([x,y]:List Operand).map (c7 ⟨d,.binOp op t x y u,ty,pos,af,gd⟩ L)=([x,y]:List Operand).map (dm L):=ft (fun y hy=>by simpa [Op.operands,Call.operands] using hy)
 have ho:(⟨d,.binOp op t x y u,ty,pos,af,gd⟩:Oper).op.operands.toList=[x,y]:=by simp [Op.operands,Call.operands]
 rfl
theorem Vl (c a b):fe P T ⟨d,.pick c a b,ty,pos,af,gd⟩ recs K L st=eh (true) ([]) ⟨d,.pick c a b,ty,pos,af,gd⟩ recs K L st (mono (Bq (dm L c) (dm L a) (dm L b))):=by
 unfold fe jn j8 eh
 simp only [ic,cond_true]
 have hm:∀ y,y ∈ ([c,a,b]:List Operand)→c7 ⟨d,.pick c a b,ty,pos,af,gd⟩ L y=dm L y:=fun y hy=>ed (by simpa [Op.operands,Call.operands] using hy)
 have hmap:([c,a,b]:List Operand).map (c7 ⟨d,.pick c a b,ty,pos,af,gd⟩ L)=([c,a,b]:List Operand).map (dm L):=ft (fun y hy=>by simpa [Op.operands,Call.operands] using hy)
 have ho:(⟨d,.pick c a b,ty,pos,af,gd⟩:Oper).op.operands.toList=[c,a,b]:=by simp [Op.operands,Call.operands]
 rw [Ew,hm c (by simp),hm a (by simp),hm b (by simp)]
 rfl
theorem Rk (t a x):fe P T ⟨d,.store t a x,ty,pos,af,gd⟩ recs K L st=eh (false) ((dm L a).names) ⟨d,.store t a x,ty,pos,af,gd⟩ recs K L st (mono (tr P t (dm L a) (dm L x))):=by
 unfold fe jn j8 eh
 simp only [ic,cond_false]
 have hm:∀ y,y ∈ ([a,x]:List Operand)→c7 ⟨d,.store t a x,ty,pos,af,gd⟩ L y=dm L y:=fun y hy=>ed (by simpa [Op.operands,Call.operands] using hy)
 have hmap:([a,x]:List Operand).map (c7 ⟨d,.store t a x,ty,pos,af,gd⟩ L)=([a,x]:List Operand).map (dm L):=ft (fun y hy=>by simpa [Op.operands,Call.operands] using hy)
 have ho:(⟨d,.store t a x,ty,pos,af,gd⟩:Oper).op.operands.toList=[a,x]:=by simp [Op.operands,Call.operands]
 rw [C6,hm a (by simp),hm x (by simp)]
 rfl
theorem Gf (t x i):fe P T ⟨d,.indexAddr t x i,ty,pos,af,gd⟩ recs K L st=eh (true) ([]) ⟨d,.indexAddr t x i,ty,pos,af,gd⟩ recs K L st (mono (pv P t (dm L x) (dm L i))):=by
 unfold fe jn j8 eh
 simp only [ic,cond_true]
 have hm:∀ y,y ∈ ([x,i]:List Operand)→c7 ⟨d,.indexAddr t x i,ty,pos,af,gd⟩ L y=dm L y:=fun y hy=>ed (by simpa [Op.operands,Call.operands] using hy)
 have hmap:([x,i]:List Operand).map (c7 ⟨d,.indexAddr t x i,ty,pos,af,gd⟩ L)=([x,i]:List Operand).map (dm L):=ft (fun y hy=>by simpa [Op.operands,Call.operands] using hy)
 have ho:(⟨d,.indexAddr t x i,ty,pos,af,gd⟩:Oper).op.operands.toList=[x,i]:=by simp [Op.operands,Call.operands]
 rw [xj,hm x (by simp),hm i (by simp)]
 rfl
theorem Hz (x):fe P T ⟨d,.nilCheck x,ty,pos,af,gd⟩ recs K L st=eh (true) ([]) ⟨d,.nilCheck x,ty,pos,af,gd⟩ recs K L st (mono (qy (dm L x))):=by
 unfold fe jn j8 eh
 simp only [ic,cond_true]
 have hm:∀ y,y ∈ ([x]:List Operand)→c7 ⟨d,.nilCheck x,ty,pos,af,gd⟩ L y=dm L y:=fun y hy=>ed (by simpa [Op.operands,Call.operands] using hy)
 have hmap:([x]:List Operand).map (c7 ⟨d,.nilCheck x,ty,pos,af,gd⟩ L)=([x]:List Operand).map (dm L):=ft (fun y hy=>by simpa [Op.operands,Call.operands] using hy)
 have ho:(⟨d,.nilCheck x,ty,pos,af,gd⟩:Oper).op.operands.toList=[x]:=by simp [Op.operands,Call.operands]
 rw [yn,hm x (by simp)]
 rfl
theorem Qt (t):fe P T ⟨d,.alloc t,ty,pos,af,gd⟩ recs K L st=eh (true) (reach st.h eg [] []) ⟨d,.alloc t,ty,pos,af,gd⟩ recs K L st (mono (x5 P t)):=by
 unfold fe jn j8 eh
 simp only [ic,cond_false]
 have hm:∀ y,y ∈ ([]:List Operand)→c7 ⟨d,.alloc t,ty,pos,af,gd⟩ L y=dm L y:=fun y hy=>ed (by simpa [Op.operands,Call.operands] using hy)
 have hmap:([]:List Operand).map (c7 ⟨d,.alloc t,ty,pos,af,gd⟩ L)=([]:List Operand).map (dm L):=ft (fun y hy=>by simpa [Op.operands,Call.operands] using hy)
 have ho:(⟨d,.alloc t,ty,pos,af,gd⟩:Oper).op.operands.toList=[]:=by simp [Op.operands,Call.operands]
 rw [ho,hmap]
 rfl
theorem Se (t ps):fe P T ⟨d,.build t ps,ty,pos,af,gd⟩ recs K L st=eh (true) (reach st.h eg (AV.names.go ((ps.toList.map (·.2)).map (dm L))) []) ⟨d,.build t ps,ty,pos,af,gd⟩ recs K L st (mono (vi P t (ps.toList.map fun p=>(p.1,dm L p.2)))):=by
 unfold fe jn j8 eh
 simp only [ic,cond_false]
 have hm:∀ y,y ∈ ((ps.toList.map (·.2)):List Operand)→c7 ⟨d,.build t ps,ty,pos,af,gd⟩ L y=dm L y:=fun y hy=>ed (by simpa [Op.operands,Call.operands] using hy)
 have hmap:((ps.toList.map (·.2)):List Operand).map (c7 ⟨d,.build t ps,ty,pos,af,gd⟩ L)=((ps.toList.map (·.2)):List Operand).map (dm L):=ft (fun y hy=>by simpa [Op.operands,Call.operands] using hy)
 have ho:(⟨d,.build t ps,ty,pos,af,gd⟩:Oper).op.operands.toList=(ps.toList.map (·.2)):=by simp [Op.operands,Call.operands]
 rw [ho,hmap]
 rw [C9,Ke (fun x hx=>by simp [Op.operands];exact ⟨_,by simpa using hx⟩)]
 rfl
theorem Dm (t n ps):fe P T ⟨d,.buildSlice t n ps,ty,pos,af,gd⟩ recs K L st=eh (true) (reach st.h eg (AV.names.go ((ps.toList.map (·.2)).map (dm L))) []) ⟨d,.buildSlice t n ps,ty,pos,af,gd⟩ recs K L st (mono (m7 P t n (ps.toList.map fun p=>(p.1,dm L p.2)))):=by
 unfold fe jn j8 eh
 simp only [ic,cond_false]
 have hm:∀ y,y ∈ ((ps.toList.map (·.2)):List Operand)→c7 ⟨d,.buildSlice t n ps,ty,pos,af,gd⟩ L y=dm L y:=fun y hy=>ed (by simpa [Op.operands,Call.operands] using hy)
 have hmap:((ps.toList.map (·.2)):List Operand).map (c7 ⟨d,.buildSlice t n ps,ty,pos,af,gd⟩ L)=((ps.toList.map (·.2)):List Operand).map (dm L):=ft (fun y hy=>by simpa [Op.operands,Call.operands] using hy)
 have ho:(⟨d,.buildSlice t n ps,ty,pos,af,gd⟩:Oper).op.operands.toList=(ps.toList.map (·.2)):=by simp [Op.operands,Call.operands]
 rw [ho,hmap]
 rw [u3,Ke (fun x hx=>by simp [Op.operands];exact ⟨_,by simpa using hx⟩)]
 rfl
theorem Jj (s u x):fe P T ⟨d,.convert s u x,ty,pos,af,gd⟩ recs K L st=eh (true) (reach st.h eg (AV.names.go ([x].map (dm L))) []) ⟨d,.convert s u x,ty,pos,af,gd⟩ recs K L st (mono (th P (c7 ⟨d,.convert s u x,ty,pos,af,gd⟩ L) ⟨d,.convert s u x,ty,pos,af,gd⟩ s u (dm L x))):=by
 unfold fe jn j8 eh
 simp only [ic,cond_false]
 have hm:∀ y,y ∈ ([x]:List Operand)→c7 ⟨d,.convert s u x,ty,pos,af,gd⟩ L y=dm L y:=fun y hy=>ed (by simpa [Op.operands,Call.operands] using hy)
 have hmap:([x]:List Operand).map (c7 ⟨d,.convert s u x,ty,pos,af,gd⟩ L)=([x]:List Operand).map (dm L):=ft (fun y hy=>by simpa [Op.operands,Call.operands] using hy)
 have ho:(⟨d,.convert s u x,ty,pos,af,gd⟩:Oper).op.operands.toList=[x]:=by simp [Op.operands,Call.operands]
 rw [ho,hmap]
 rw [Ac,hm x (by simp)]
 rfl
theorem Ry (t x i):fe P T ⟨d,.index t x i,ty,pos,af,gd⟩ recs K L st=eh (true) (reach st.h eg (AV.names.go ([x,i].map (dm L))) []) ⟨d,.index t x i,ty,pos,af,gd⟩ recs K L st (mono (yu P (c7 ⟨d,.index t x i,ty,pos,af,gd⟩ L) ⟨d,.index t x i,ty,pos,af,gd⟩ t x i)):=by
 unfold fe jn j8 eh
 simp only [ic,cond_false]
 have hm:∀ y,y ∈ ([x,i]:List Operand)→c7 ⟨d,.index t x i,ty,pos,af,gd⟩ L y=dm L y:=fun y hy=>ed (by simpa [Op.operands,Call.operands] using hy)
 have hmap:([x,i]:List Operand).map (c7 ⟨d,.index t x i,ty,pos,af,gd⟩ L)=([x,i]:List Operand).map (dm L):=ft (fun y hy=>by simpa [Op.operands,Call.operands] using hy)
 have ho:(⟨d,.index t x i,ty,pos,af,gd⟩:Oper).op.operands.toList=[x,i]:=by simp [Op.operands,Call.operands]
 rw [ho,hmap]
 rfl
theorem ah5 (op t x):fe P T ⟨d,.unOp op t x,ty,pos,af,gd⟩ recs K L st=eh (true) (reach st.h eg (AV.names.go ([x].map (dm L))) []) ⟨d,.unOp op t x,ty,pos,af,gd⟩ recs K L st (mono (ji P (c7 ⟨d,.unOp op t x,ty,pos,af,gd⟩ L) ⟨d,.unOp op t x,ty,pos,af,gd⟩ [x])):=by
 unfold fe jn j8 eh
 simp only [ic,cond_false]
 have hm:∀ y,y ∈ ([x]:List Operand)→c7 ⟨d,.unOp op t x,ty,pos,af,gd⟩ L y=dm L y:=fun y hy=>ed (by simpa [Op.operands,Call.operands] using hy)
 have hmap:([x]:List Operand).map (c7 ⟨d,.unOp op t x,ty,pos,af,gd⟩ L)=([x]:List Operand).map (dm L):=ft (fun y hy=>by simpa [Op.operands,Call.operands] using hy)
 have ho:(⟨d,.unOp op t x,ty,pos,af,gd⟩:Oper).op.operands.toList=[x]:=by simp [Op.operands,Call.operands]
 rw [ho,hmap]
 rfl
theorem abe (x ts):fe P T ⟨d,.call { callee:=.builtin .len,args:=#[x],argTypes:=ts },ty,pos,af,gd⟩ recs K L st=eh (true) ([]) ⟨d,.call { callee:=.builtin .len,args:=#[x],argTypes:=ts },ty,pos,af,gd⟩ recs K L st (mono (sq ((ts[0]?).bind P.underlying) (dm L x))):=by
 unfold fe jn j8 eh
 simp only [ic,cond_true]
 have hm:∀ y,y ∈ ([x]:List Operand)→c7 ⟨d,.call { callee:=.builtin .len,args:=#[x],argTypes:=ts },ty,pos,af,gd⟩ L y=dm L y:=fun y hy=>ed (by simpa [Op.operands,Call.operands] using hy)
 have hmap:([x]:List Operand).map (c7 ⟨d,.call { callee:=.builtin .len,args:=#[x],argTypes:=ts },ty,pos,af,gd⟩ L)=([x]:List Operand).map (dm L):=ft (fun y hy=>by simpa [Op.operands,Call.operands] using hy)
 have ho:(⟨d,.call { callee:=.builtin .len,args:=#[x],argTypes:=ts },ty,pos,af,gd⟩:Oper).op.operands.toList=[x]:=by simp [Op.operands,Call.operands]
 rw [Hn,hm x (by simp)]
 rfl
theorem N5 (s x ts):fe P T ⟨d,.call { callee:=.builtin .append,args:=#[s,x],argTypes:=ts },ty,pos,af,gd⟩ recs K L st=eh (false) (reach st.h eg (AV.names.go ([s,x].map (dm L))) []) ⟨d,.call { callee:=.builtin .append,args:=#[s,x],argTypes:=ts },ty,pos,af,gd⟩ recs K L st (mono (oc P ts[0]? ((ts[1]?).bind P.underlying) (dm L s) (dm L x))):=by
 unfold fe jn j8 eh
 simp only [ic,cond_false]
 have hm:∀ y,y ∈ ([s,x]:List Operand)→c7 ⟨d,.call { callee:=.builtin .append,args:=#[s,x],argTypes:=ts },ty,pos,af,gd⟩ L y=dm L y:=fun y hy=>ed (by simpa [Op.operands,Call.operands] using hy)
 have hmap:([s,x]:List Operand).map (c7 ⟨d,.call { callee:=.builtin .append,args:=#[s,x],argTypes:=ts },ty,pos,af,gd⟩ L)=([s,x]:List Operand).map (dm L):=ft (fun y hy=>by simpa [Op.operands,Call.operands] using hy)
 have ho:(⟨d,.call { callee:=.builtin .append,args:=#[s,x],argTypes:=ts },ty,pos,af,gd⟩:Oper).op.operands.toList=[s,x]:=by simp [Op.operands,Call.operands]
 rw [ho,hmap]
 rw [Bu,hm s (by simp),hm x (by simp)]
 rfl
theorem Xm (f args ts):fe P T ⟨d,.call { callee:=.value f,args,argTypes:=ts },ty,pos,af,gd⟩ recs K L st=eh (o9 T (dm L) ⟨d,.call { callee:=.value f,args,argTypes:=ts },ty,pos,af,gd⟩) (reach st.h eg (AV.names.go ((f::args.toList).map (dm L))) []) ⟨d,.call { callee:=.value f,args,argTypes:=ts },ty,pos,af,gd⟩ recs K L st (tn T (dm L f) (args.toList.map (dm L))):=by
 unfold fe jn j8 eh
 simp only [ic,cond_false]
 have h1:⟨d,.call { callee:=.value f,args,argTypes:=ts },ty,pos,af,gd⟩=(⟨d,.call { callee:=.value f,args,argTypes:=ts },ty,pos,af,gd⟩:Oper):=rfl
 have hf:c7 ⟨d,.call { callee:=.value f,args,argTypes:=ts },ty,pos,af,gd⟩ L f=dm L f:=ed (by simp [Op.operands,Call.operands])
 have ha:args.toList.map (c7 ⟨d,.call { callee:=.value f,args,argTypes:=ts },ty,pos,af,gd⟩ L)=args.toList.map (dm L):=ft (fun x hx=>by simp [Op.operands,Call.operands];exact .inr (by simpa using hx))
 have hr:o9 T (c7 ⟨d,.call { callee:=.value f,args,argTypes:=ts },ty,pos,af,gd⟩ L) ⟨d,.call { callee:=.value f,args,argTypes:=ts },ty,pos,af,gd⟩=o9 T (dm L) ⟨d,.call { callee:=.value f,args,argTypes:=ts },ty,pos,af,gd⟩:=by simp only [o9,hf]
 have ho:(⟨d,.call { callee:=.value f,args,argTypes:=ts },ty,pos,af,gd⟩:Oper).op.operands.toList.map (c7 ⟨d,.call { callee:=.value f,args,argTypes:=ts },ty,pos,af,gd⟩ L)=(f::args.toList).map (dm L):=by
  show ((#[f]++args).toList).map _=_
  simp only [Array.toList_append,List.map_append,ha,List.map_cons,hf]
  rfl
 rw [hr,ho]
 show Bj _ _ _ _ _ _ _ (tn T (c7 _ L f) (args.toList.map (c7 _ L)) _)=_
 rw [hf,ha]
theorem J7 (n args ts):o9 T (dm L) ⟨d,.call { callee:=.value (.func n),args,argTypes:=ts },ty,pos,af,gd⟩=roT (T.find n):=by simp only [o9,dm];rfl
end ops
theorem Sj (P T ops K L st):A0 P T ops true K L st=(H5 ops=true∧(Bp P T ops ops.toList K [] L st∨Gr P T ops ops.toList K [] L st)):=id rfl
theorem Sn (n):B8 n []=true:=id rfl
theorem Lv (n o r):B8 n (o::r)=(Nat.blt o n && B8 n r):=id rfl
theorem Um (h h'):same h h' []=True:=id rfl
theorem Rc (h h' o r):same h h' (o::r)=(h.get o=h'.get o∧same h h' r):=id rfl
theorem Q2 (h):oj h [] = .nil:=id rfl
theorem Mm (h o r):oj h (o::r)=Tr.set depth (oj h r) o (h.get o):=id rfl
theorem L4 (h1 h):ri h1 [] h=h:=id rfl
theorem Kp (h1 o r h):ri h1 (o::r) h=Tr.set depth (ri h1 r h) o (h1.get o):=id rfl
theorem Sv (t ts v vs):fc (t::ts) (v::vs)=(t,v)::fc ts vs:=id rfl
theorem D2 (P:Program):∀ s:Sem Value,ev P (do pure (Next.value (← s)))=(ev P s).map Next.value:=by
 intro s
 induction s with
 |pure b=>rfl
 |program k ih=>exact ih P
 |choose q k ih=>
  simp only [bind,Sem.bind,ev]
  split
  ·exact ih 0
  ·rfl
 |mark m k ih=>exact ih
 |_=>rfl
def Wf (m:M AV):M AV:=m
def T9 (a:AV) (m:M AV):M AV:=
 match a.bool with
 |some b=>M.pure (.sc (.bool (!b)))
 |none=>m
theorem afu (b:Bool) (m:M AV):T9 (.sc (.bool b)) m=M.pure (.sc (.bool (!b))):=id rfl
theorem anm {a:AV} {b:Bool} (h:a.bool=some b):a = .sc (.bool b):=by
 unfold AV.bool AV.exact qd at h
 cases a with
 |sc v=>cases v<;>simp at h;rw [h]
 |_=>cases h
theorem Ov (P:Program) (ρ:Operand→AV) (d ty pos af gd) (t:TypeId) (x:Operand):ji P ρ ⟨d,.unOp .not t x,ty,pos,af,gd⟩ [x]=T9 (ρ x) (Wf (ji P ρ ⟨d,.unOp .not t x,ty,pos,af,gd⟩ [x])):=by
 unfold T9
 split
 ·rename_i b hb
  have hx:=anm hb
  have h2:execOp (fun z=>((ρ z).fu).getD undef) ⟨d,.unOp .not t x,ty,pos,af,gd⟩=(do pure (Next.value (← Op.unary .not (.bool b)))):=by
   simp only [execOp,hx,AV.fu,Option.getD_some]
  unfold ji j7 oo
  simp only [List.all_cons,List.all_nil,hx,AV.fu,Option.isSome_some,Bool.and_true,cond_true]
  rw [h2,D2]
  rfl
 ·rfl
theorem Sd (P:Program) (T:dz) (ρ:Operand→AV) (d ty pos af gd) (t:TypeId) (x:Operand):fv P T ⟨d,.unOp .not t x,ty,pos,af,gd⟩ ρ=mono (T9 (ρ x) (Wf (ji P ρ ⟨d,.unOp .not t x,ty,pos,af,gd⟩ [x]))):=by
 exact congrArg mono (Ov ..)
theorem Z1 (P:Program) (T:dz) (L:SL) (st:St) (recs:List Rec) (K:List Rec→SL→St→Prop) (d ty pos af gd) (t x):fe P T ⟨d,.unOp .not t x,ty,pos,af,gd⟩ recs K L st=eh true (reach st.h eg (AV.names.go ([x].map (dm L))) []) ⟨d,.unOp .not t x,ty,pos,af,gd⟩ recs K L st (mono (T9 (dm L x) (Wf (ji P (c7 ⟨d,.unOp .not t x,ty,pos,af,gd⟩ L) ⟨d,.unOp .not t x,ty,pos,af,gd⟩ [x])))):=by
 rw [ah5]
 have h:=Ov P (c7 ⟨d,.unOp .not t x,ty,pos,af,gd⟩ L) d ty pos af gd t x
 rw [ed (by simp [Op.operands])] at h
 rw [← h]
theorem I6 {α:Type} (C:db α) (f:Bool) (h:C.sz=1) (ha:C.agg=false) (l:List α):(l.map (C.val f)).flatMap AV.cells=l.map (C.val f):=by
 induction l with
 |nil=>rfl
 |cons x l ih=>
  simp only [List.map_cons,List.flatMap_cons,ih]
  obtain ⟨c,h1,h2,_⟩:=C.one ha f x
  have:C.val f x=c:=by simp [db.val,ha,h1]
  rw [this,h2];rfl
theorem Jw (f g:Bool) (a b:List UInt8):Cx.mr [.vl f 1 (a.map (ay.val f)),.vl g 1 (b.map (ay.val g))]=M.pure (.sc (goInt (Lib.compareBytes a b))):=by
 unfold Cx.mr cellsIn
 simp only [Nat.beq_refl,cond_true,I6 ay _ rfl rfl]
 unfold M.bind M.pure
 simp only [zf]
 rfl
theorem Ko {L:SL} {d ty pos af gd} {op t u x y}:c7 ⟨d,.binOp op t x y u,ty,pos,af,gd⟩ L x=dm L x:=ed (by simp [Op.operands])
theorem Jn {L:SL} {d ty pos af gd} {op t u x y}:c7 ⟨d,.binOp op t x y u,ty,pos,af,gd⟩ L y=dm L y:=ed (by simp [Op.operands])
theorem Kd {L:SL} {d ty pos af gd} {i t x}:c7 ⟨d,.index t x i,ty,pos,af,gd⟩ L x=dm L x:=ed (by simp [Op.operands])
theorem J9 {L:SL} {d ty pos af gd} {i t x}:c7 ⟨d,.index t x i,ty,pos,af,gd⟩ L i=dm L i:=ed (by simp [Op.operands])
def vx (P:Program) (ρ:Operand→AV) (o:Oper) (l:List Operand):M AV:=ji P ρ o l
def Vo (u:Option TypeDesc) (a ix:AV) (m:M AV):M AV:=
 match u with
 |some .string=>
  match a with
  |.sc (.string s)=>
   match ix with
   |.sc (.int _ n)=>
    match (bif decide (0≤n) then s.data.toList[n.toNat]? else none) with
    |some b=>M.pure (.sc (.int .u8 b.toNat))
    |none=>m
   |_=>m
  |_=>m
 |_=>m
theorem T4 (s:ByteArray) (k:IntKind) (n:Int) (m:M AV):Vo (some .string) (.sc (.string s)) (.sc (.int k n)) m=match (bif decide (0≤n) then s.data.toList[n.toNat]? else none) with|some b=>M.pure (.sc (.int .u8 b.toNat))|none=>m:=id rfl
theorem Hh (P:Program) (ρ:Operand→AV) (d ty pos af gd) (t:TypeId) (x i:Operand):ji P ρ ⟨d,.index t x i,ty,pos,af,gd⟩ [x,i]=Vo (P.underlying t) (ρ x) (ρ i) (vx P ρ ⟨d,.index t x i,ty,pos,af,gd⟩ [x,i]):=by
 unfold Vo
 split
 ·rename_i hu
  split
  ·rename_i s hx
   split
   ·rename_i k n hi
    split
    ·rename_i b hb
     cases h0:decide (0≤n) with
     |false=>rw [h0] at hb;cases hb
     |true=>
     rw [h0,cond_true] at hb
     have h0 : 0≤n:=by simpa using h0
     have hb':s[n.toNat]? = some b:=by
      obtain ⟨h1,h2⟩:=List.getElem?_eq_some_iff.1 hb
      simp at h1
      rw [getElem?_pos s n.toNat (by simpa using h1)]
      rw [← h2];rfl
     have h2:execOp (fun z=>((ρ z).fu).getD undef) ⟨d,.index t x i,ty,pos,af,gd⟩=(do pure (Next.value (← Instr.index t (.string s) (.int k n)))):=by
      simp only [execOp,hx,hi,AV.fu,Option.getD_some]
     unfold ji j7 oo
     simp only [List.all_cons,List.all_nil,hx,hi,AV.fu,Option.isSome_some,Bool.and_true,cond_true]
     rw [h2,D2]
     have h3:ev P (Instr.index t (.string s) (.int k n))=some (.int .u8 b.toNat):=by
      simp [Instr.index,asIntOf,underlying,program,ev,hu,h0,hb',bind,Sem.bind,pure]
     rw [h3]
     rfl
    ·rfl
   ·rfl
  ·rfl
 ·rfl
theorem Ld (a n:Nat):(a:Int).fdiv (n:Int)=((a / n:Nat):Int):=by
 rw [Int.fdiv_eq_ediv_of_nonneg _ (by omega)];rfl
theorem T0 (a:Nat):(a:Int).fdiv 256=((a / 256:Nat):Int):=Ld a 256
theorem Ni (a:Nat):(a:Int).fdiv 65536=((a / 65536:Nat):Int):=Ld a 65536
theorem F6 (a:Nat):(a:Int).fdiv 16777216=((a / 16777216:Nat):Int):=Ld a 16777216
theorem Xe (f:Nat) (m) (T:dz):dz.find ((f,m)::T) f=some m:=by simp [dz.find]
theorem Q7 (f g:Nat) (m) (T:dz) (h:(f == g)=false):dz.find ((f,m)::T) g=dz.find T g:=by
 have e:f≠g:=by simpa using h
 simp [dz.find,od e]
end
end Go.Vm
end
namespace Go.Vm
variable [TK]
noncomputable section
def xe (P:Program) (t:TypeId):Option (Nat × Nat × Nat):=
 match nh P t with
 |some e=>
  match di P e,kc P e,fg P e with
  |some sz,some bytes,some z=>bif Nat.blt 0 sz && Nat.blt 0 bytes && Nat.beq z.cells.size sz then some (e,sz,bytes) else none
  |_,_,_=>none
 |none=>none
def V7 (q:Option (Nat × Nat × Nat)) (s x:AV):M AV:=
 match q with
 |some (e,sz,bytes)=>(cellsIn sz x).bind (qi e sz bytes s)
 |none=>M.fail
theorem ag2 (e sz bytes s x):V7 (some (e,sz,bytes)) s x=(cellsIn sz x).bind (qi e sz bytes s):=id rfl
theorem Oc (P:Program) (t e:TypeId) (s x:AV):oc P (some t) (some (.slice e)) s x=V7 (xe P t) s x:=by
 unfold oc V7 xe
 simp only [Option.bind_some]
 cases nh P t with
 |none=>rfl
 |some e=>
  simp only
  cases di P e with
  |none=>rfl
  |some sz=>
   cases kc P e with
   |none=>rfl
   |some bytes=>
    cases fg P e with
    |none=>rfl
    |some z=>
     simp only
     cases (Nat.blt 0 sz && Nat.blt 0 bytes && Nat.beq z.cells.size sz)<;>rfl
theorem Ob (P:Program) (t:TypeId) (s x:AV):oc P (some t) (some .string) s x=V7 (xe P t) s x:=by
 unfold oc V7 xe
 simp only [Option.bind_some]
 cases nh P t with
 |none=>rfl
 |some e=>
  simp only
  cases di P e with
  |none=>rfl
  |some sz=>
   cases kc P e with
   |none=>rfl
   |some bytes=>
    cases fg P e with
    |none=>rfl
    |some z=>
     simp only
     cases (Nat.blt 0 sz && Nat.blt 0 bytes && Nat.beq z.cells.size sz)<;>rfl
theorem J6 (e sz bytes new):qi e sz bytes (.sc (.slice none 0 0)) new=bif new.isEmpty then M.pure (.sc (.slice none 0 0)) else bif Nat.ble (new.length * bytes) 140737488355328 then rb e sz (new.length / sz) new else M.fail:=id rfl
theorem Nr (e sz bytes o off len sz' new):qi e sz bytes (.sl o off len sz') new=bif Nat.beq sz sz' then (dk o).bind (B9 e sz bytes o off len new) else M.fail:=id rfl
theorem Kc (e sz bytes o off len new cells k st et):B9 e sz bytes o off len new (.row cells k st et)=(bif Nat.beq et e && new.all AV.one && Nat.ble (off+len * sz) cells.length && Nat.ble ((len * sz+new.length) * bytes) 140737488355328 then
 bif Nat.ble k (off+len * sz) then
  (Ey o).bind fun _=>(ko (.row ((cells.take (off+len * sz)).drop off++new) (k - off) (mi (k5 off (len * sz) cells.length) st) et)).bind fun id=>M.pure (.sl id 0 (len+new.length / sz) sz)
 else bif new.isEmpty then M.pure (.sl o off len sz)
 else M.fail
 else M.fail):=id rfl
theorem ak0:mi true 0=0:=id rfl
theorem Zt (n):k5 0 n n=true:=by simp [k5]
theorem abd (n m):k5 0 n m=Nat.beq n m:=id rfl
def cellsOf {α:Type} (C:db α) (f:Bool) (xs:List α):List AV:=xs.flatMap (C.cells f)
theorem Kl {α:Type} (C:db α) (f):cellsOf C f []=[]:=id rfl
theorem m4 {α:Type} (C:db α) (f) (xs:List α):(cellsOf C f xs).length=xs.length * C.sz:=by
 induction xs with
 |nil=>simp [cellsOf]
 |cons x xs ih=>
  simp only [cellsOf] at ih
  simp [cellsOf,C.len,ih,Nat.succ_mul];omega
theorem za {α:Type} (C:db α) (f) (xs ys:List α):cellsOf C f (xs++ys)=cellsOf C f xs++cellsOf C f ys:=by simp [cellsOf]
theorem sg {α:Type} (C:db α) (f) (x : α):cellsOf C f [x]=C.cells f x:=by simp [cellsOf]
theorem C8 {α:Type} (C:db α) (f) (xs:List α):(cellsOf C f xs).all AV.one=true:=by
 rw [List.all_eq_true]
 intro c hc
 obtain ⟨x,_,hx⟩:=List.mem_flatMap.1 hc
 exact (C.pl f x c hx).one
theorem Ge {α:Type} (C:db α) (f) (xs:List α):AV.names.go (cellsOf C f xs)=[]:=C3 (fun c hc=>by
 obtain ⟨x,_,hx⟩:=List.mem_flatMap.1 hc
 exact (C.pl f x c hx).names)
theorem Dc {α:Type} (C:db α) (τ) (f) (xs:List α):(cellsOf C f xs).map (AV.bk τ)=cellsOf C f xs:=by
 rw [← ia]
 exact K0 (fun c hc=>by
  obtain ⟨x,_,hx⟩:=List.mem_flatMap.1 hc
  exact (C.pl f x c hx).bk τ)
theorem kf {α:Type} (C:db α) (τ) (f) (xs:List α):AV.bk.go τ (cellsOf C f xs)=cellsOf C f xs:=by rw [ia,Dc]
theorem Dq {α:Type} {xs:List α} {i:Nat} {x : α} (h:xs[i]? = some x):xs.drop i=x::xs.drop (i+1):=by
 obtain ⟨h1,h2⟩:=List.getElem?_eq_some_iff.1 h
 rw [← h2];exact List.drop_eq_getElem_cons h1
theorem Eo {α:Type} (C:db α) (f) (xs:List α):(xs.map (C.val f)).flatMap AV.cells=cellsOf C f xs:=by
 rw [List.flatMap_map];congr 1;funext x;exact C.vj f x
def um (fr:Bool) (st sz:Nat) (kd:LK) (et:TypeId):Bool:=!fr || (Nat.beq st 0 && Jr sz kd et)
theorem alb (st sz kd et):um false st sz kd et=true:=id rfl
theorem ak2 (sz kd et):um true 0 sz kd et=Jr sz kd et:=id rfl
theorem Pu {fr:Bool} {st n sz:Nat} {kd:LK} {et:TypeId} (h:um fr st sz kd et=true):ux fr sz kd st 0 (n * sz) n et=true:=by
 cases fr with
 |false=>rfl
 |true=>
  simp only [um,Bool.not_true,Bool.false_or,Bool.and_eq_true] at h
  simp [ux,h.1,h.2]
theorem j9 {α:Type} (C:db α) (fr:Bool) (h:Tr au) (f:Bool) (xs:List α) (k st et) (n:Nat) (hn:n=xs.length) (hf:(f || !fr)=true) (hro:um fr st C.sz C.kd et=true):je C fr h 0 n (.row (cellsOf C f xs) k st et)=some xs:=by
 subst hn
 simp only [je,Nat.zero_add,m4,Nat.ble_self_eq_true,Bool.true_and,Pu hro,cond_true,List.drop_zero]
 have:(cellsOf C f xs).take (xs.length * C.sz)=cellsOf C f xs:=List.take_of_length_le (by rw [m4];exact Nat.le_refl _)
 rw [this]
 exact Qq C fr h f (fun e=>by subst e;simpa using hf) xs
theorem M1 {α:Type} (C:db α) (fr h k st et) (hro:um fr st C.sz C.kd et=true):je C fr h 0 0 (.row [] k st et)=some []:=by
 have h0:ux fr C.sz C.kd st 0 0 0 et=true:=by have:=Pu (n:=0) hro;rwa [Nat.zero_mul] at this
 have h1:Nat.ble 0 0=true:=rfl
 simp [je,uh,h0,h1]
def ot {α:Type} (C:db α) (fr:Bool) (h:Tr au):List AV→Option (List α)
 | []=>some []
 |a::l=>match C.dec fr h [a],ot C fr h l with
  |some x,some xs=>some (x::xs)
  |_,_=>none
def aoq {α:Type} (a b:Option (List α)):Option (List α):=match a,b with|some x,some y=>some (x++y)|_,_=>none
def akc {α:Type} (a:Option α) (b:Option (List α)):Option (List α):=match a,b with|some x,some y=>some (x::y)|_,_=>none
theorem af9 {α:Type} (a b:List α):aoq (some a) (some b)=some (a++b):=id rfl
theorem aak {α:Type} (a : α) (b:List α):akc (some a) (some b)=some (a::b):=id rfl
theorem Kv {α:Type} (C:db α) (fr h):ot C fr h []=some []:=id rfl
theorem B5 {α:Type} (C:db α) (fr h a l):ot C fr h (a::l)=akc (C.dec fr h [a]) (ot C fr h l):=id rfl
theorem K4 {α:Type} (C:db α) (fr h):∀ a b,ot C fr h (a++b)=aoq (ot C fr h a) (ot C fr h b)
 | [],b=>by
  simp only [List.nil_append,Kv]
  cases ot C fr h b<;>rfl
 |x::a,b=>by
  simp only [List.cons_append,B5,K4 C fr h a b]
  cases C.dec fr h [x]<;>cases ot C fr h a<;>cases ot C fr h b<;>rfl
theorem W6 {α:Type} (C:db α) (hz:C.sz=1) (fr h):∀ cells:List AV,uh C fr h cells.length cells=ot C fr h cells
 | []=>rfl
 |a::l=>by
  have h1:(a::l).take C.sz=[a]:=by rw [hz];rfl
  have h2:(a::l).drop C.sz=l:=by rw [hz];rfl
  simp only [List.length_cons,uh,h1,h2,W6 C hz fr h l]
  rfl
theorem wo {α:Type} (C:db α) (hz:C.sz=1) (fr h n cells k st et) (hn:n=cells.length) (hro:um fr st 1 C.kd et=true):je C fr h 0 n (.row cells k st et)=ot C fr h cells:=by
 subst hn
 have h0:ux fr 1 C.kd st 0 cells.length cells.length et=true:=by have:=Pu (n:=cells.length) hro;rwa [Nat.mul_one] at this
 simp only [je,hz,Nat.mul_one,Nat.zero_add,Nat.ble_self_eq_true,Bool.true_and,h0,cond_true,List.drop_zero,List.take_length]
 exact W6 C hz fr h cells
theorem Br {α:Type} (C:db α) (hz:C.sz=1) (ha:C.agg=false) (fr h f) (hf:fr=true→f=true):∀ l:List α,ot C fr h (l.map (C.val f))=some l
 | []=>rfl
 |x::l=>by
  obtain ⟨c,h1,_⟩:=C.one ha f x
  have hv:C.val f x=c:=by simp [db.val,ha,h1]
  have hd:=C.rt fr h f x hf
  rw [h1] at hd
  rw [List.map_cons,B5,Br C hz ha fr h f hf l,hv,hd];rfl
theorem X7 {α β:Type} (f : α → β) (l:List α) (n:Nat):(l.map f).take n=(l.take n).map f:=List.map_take.symm
theorem Vh {α β:Type} (f : α → β) (l:List α) (n:Nat):(l.map f).drop n=(l.drop n).map f:=List.map_drop.symm
theorem Ba {α β:Type} (f : α → β) (l:List α):(l.map f).isEmpty=l.isEmpty:=by cases l<;>rfl
theorem Cp {α:Type} (l:List α) (x : α):(l++[x]).isEmpty=false:=by cases l<;>rfl
theorem D0 (a b:List AV):AV.names.go (a++b)=AV.names.go a++AV.names.go b:=by
 induction a with
 |nil=>rfl
 |cons x a ih=>simp only [List.cons_append,AV.names.go,ih,List.append_assoc]
theorem rtT {α:Type} (C:db α) (h:Tr au) (x : α):C.gk true h (C.val true x)=some x:=C.D9 true h true x (fun _=>rfl)
theorem rtF {α:Type} (C:db α) (h:Tr au) (l:Bool) (x : α):C.gk false h (C.val l x)=some x:=C.D9 false h l x (fun e=>by cases e)
theorem Wo (s:ByteArray):s.data.toList.length=s.size:=by simp
theorem aat {α:Type} {l:List α} {n:Nat} (h:l.length≤n):l.take n=l:=List.take_of_length_le h
theorem apy {α:Type} (C:db α) (fr:Bool) (h:Tr au) (x : α):C.gk fr h (C.val fr x)=some x:=C.D9 fr h fr x (fun e=>e)
theorem cq {a b:Nat} (h:a≤b):decide (a≤b)=true:=by simpa using h
theorem cj {a b:Nat} (h:a<b):decide (a<b)=true:=by simpa using h
theorem cp {a b:Int} (h:a≤b):decide (a≤b)=true:=by simpa using h
theorem cg {a b:Int} (h:a<b):decide (a<b)=true:=by simpa using h
theorem ah (x:Int) (h0 : -9223372036854775808≤x) (h1:x<9223372036854775808):IntKind.i64.wrap x=x:=by
 simp [IntKind.wrap,IntKind.bits,IntKind.signed];omega
theorem afj (n:Nat):IntKind.u8.wrap (n:Int)=((UInt8.ofNat n).toNat:Int):=by simp [IntKind.wrap,IntKind.bits,IntKind.signed]
theorem br {p:Prop} [Decidable p] {X Y:SL→St→Prop} {L st}:sr (.sc (.bool (decide p))) X Y L st=((p→X L st)∧(¬ p→Y L st)):=by
 by_cases h:p<;>simp [h,Ea,Dx]
theorem c8 {a b:Int} {X Y:SL→St→Prop} {L st}:sr (.sc (.bool (a == b))) X Y L st=(((a == b)=true∧a=b→X L st)∧((a == b)=false∧a≠b→Y L st)):=by
 by_cases h:a=b
 ·subst h;simp [Ea]
 ·have:(a == b)=false:=by simpa using h
  simp [h,this,Dx]
theorem ew {a b:Int} {X Y:SL→St→Prop} {L st}:sr (.sc (.bool (a != b))) X Y L st=(((a != b)=true∧a≠b→X L st)∧((a != b)=false∧a=b→Y L st)):=by
 by_cases h:a=b
 ·subst h;simp [Dx]
 ·have:(a != b)=true:=by simpa using h
  simp [h,this,Ea]
theorem Rq (P:Program) (T:dz) (ρ:Operand→AV) (d ty pos af gd) (x ts):fv P T ⟨d,.call { callee:=.builtin .cap,args:=#[x],argTypes:=ts },ty,pos,af,gd⟩ ρ=mono (Ej ((ts[0]?).bind P.underlying) (ρ x)):=id rfl
theorem Rv (e a n c):Ej (some (.slice e)) (.sc (.slice a n c))=M.pure (.sc (goInt c)):=id rfl
def aic (P:Program) (q:Option (Nat × Nat × Nat)) (s x:AV):M AV:=
 match q with
 |some (e,sz,bytes)=>
  match A3 P e sz x with
  |some new=>qi e sz bytes s new
  |none=>M.fail
 |none=>M.fail
theorem afs (P:Program) (e sz bytes s x):aic P (some (e,sz,bytes)) s x=match A3 P e sz x with|some new=>qi e sz bytes s new|none=>M.fail:=id rfl
theorem Mp (P:Program) (t:TypeId) (k:IntKind) (s x:AV):oc P (some t) (some (.int k)) s x=aic P (xe P t) s x:=by
 unfold oc aic xe
 simp only [Option.bind_some]
 cases nh P t with
 |none=>rfl
 |some e=>
  simp only
  cases di P e with
  |none=>rfl
  |some sz=>
   cases kc P e with
   |none=>rfl
   |some bytes=>
    cases fg P e with
    |none=>rfl
    |some z=>
     simp only
     cases (Nat.blt 0 sz && Nat.blt 0 bytes && Nat.beq z.cells.size sz)<;>rfl
def Xx (z:Option Value) (sz:Nat) (n:Int):Option (List AV):=
 match z with
 |some z=>bif decide (0≤n) && decide (n≤1073741824) && Nat.beq z.cells.size sz then some ((List.replicate n.toNat (z.cells.toList.map AV.sc)).flatten) else none
 |none=>none
theorem Wi (z sz n):Xx (some z) sz n=bif decide (0≤n) && decide (n≤1073741824) && Nat.beq z.cells.size sz then some ((List.replicate n.toNat (z.cells.toList.map AV.sc)).flatten) else none:=id rfl
theorem Sc (P:Program) (e sz:Nat) (k:IntKind) (n:Int):A3 P e sz (.sc (.int k n))=Xx (fg P e) sz n:=by
 simp only [A3,Xx,uf,AV.int,AV.exact,Option.bind_some,intOf,Option.map_some]
 cases fg P e<;>rfl
theorem Zu {α:Type} (n:Nat) (x : α):(List.replicate n [x]).flatten=List.replicate n x:=by
 induction n with
 |zero=>rfl
 |succ n ih=>simp [List.replicate_succ,ih]
theorem Jk {α:Type} {n:Nat} {x : α} (h : 0<n):(List.replicate n x).isEmpty=false:=by
 cases n with
 |zero=>omega
 |succ n=>rfl
theorem nc0:((0:Nat):Int)=0:=id rfl
theorem ael (n:Nat):List.replicate n (AV.sc (.int .u8 0))=(List.replicate n (0:UInt8)).map (ay.val false):=by rw [List.map_replicate];rfl
def ac2 (P:Program) (u:Option TypeDesc) (x hi:AV) (m:M AV):M AV:=
 match u with
 |some (.slice e)=>
  match di P e with
  |some _=>
   match x with
   |.sc (.slice none 0 0)=>
    match hi with
    |.sc (.int .i64 0)=>M.pure (.sc (.slice none 0 0))
    |_=>m
   |_=>m
  |none=>m
 |_=>m
theorem ae2 (P:Program) (e m) (h:(di P e).isSome=true):ac2 P (some (.slice e)) (.sc (.slice none 0 0)) (.sc (.int .i64 0)) m=M.pure (.sc (.slice none 0 0)):=by
 obtain ⟨n,hn⟩:=Option.isSome_iff_exists.1 h
 simp only [ac2,hn]
theorem Cf (P:Program) (ρ:Operand→AV) (d ty pos af gd) (t:TypeId) (x h:Operand):ji P ρ ⟨d,.slice t x none (some h) none,ty,pos,af,gd⟩ (.slice t x none (some h) none:Op).operands.toList=ac2 P (P.underlying t) (ρ x) (ρ h) (vx P ρ ⟨d,.slice t x none (some h) none,ty,pos,af,gd⟩ (.slice t x none (some h) none:Op).operands.toList):=by
 unfold ac2
 split
 ·rename_i e hu
  split
  ·rename_i n hn
   split
   ·rename_i hx
    split
    ·rename_i hh
     have h2:execOp (fun z=>((ρ z).fu).getD undef) ⟨d,.slice t x none (some h) none,ty,pos,af,gd⟩=(do pure (Next.value (← Instr.sliceAt t (.slice none 0 0) none (some (.int .i64 0)) none))):=by
      simp only [execOp,hx,hh,AV.fu,Option.getD_some,Option.map_some,Option.map_none]
     have hi:∃ i,P.info? e=some i:=by
      unfold di at hn
      cases hq:P.info? e with
      |none=>rw [hq] at hn;cases hn
      |some i=>exact ⟨i,rfl⟩
     obtain ⟨i,hi⟩:=hi
     have h3:ev P (Instr.sliceAt t (.slice none 0 0) none (some (.int .i64 0)) none)=some (.slice none 0 0):=by
      simp [Instr.sliceAt,Instr.slice,Instr.sliceBounds,Instr.sliceBound,asIntOf,underlying,program,ev,hu,sizeOf,typeInfo,hi,bind,Sem.bind,pure]
     unfold ji j7 oo
     simp only [Op.operands]
     simp [hx,hh,AV.fu]
     rw [h2,D2,h3]
     rfl
    ·rfl
   ·rfl
  ·rfl
 ·rfl
def aib {α:Type} (o sz:Nat) (l:List α):AV:=bif l.isEmpty then .sc (.slice none 0 0) else .sl o 0 l.length sz
def adm (cells:List AV) (k st:Nat) (et:TypeId):List (Option au):=bif cells.isEmpty then [] else [some (.row cells k st et)]
theorem aem {α:Type} {o sz} {l:List α} (h:l.isEmpty=false):aib o sz l = .sl o 0 l.length sz:=by simp [aib,h]
theorem Qz {α:Type} (o sz) (l:List α) (c : α):aib o sz (l++[c]) = .sl o 0 (l.length+1) sz:=by rw [aem (Cp l c)];simp
theorem afk {cells:List AV} {k st et} (h:cells.isEmpty=false):adm cells k st et=[some (.row cells k st et)]:=by simp [adm,h]
theorem aip {α:Type} {f : α→AV} {l:List α} {k st et} (h:l.isEmpty=false):adm (l.map f) k st et=[some (.row (l.map f) k st et)]:=afk (by rw [Ba,h])
theorem Qg {α:Type} (f : α→AV) (l:List α) (c : α) (k st et):adm ((l++[c]).map f) k st et=[some (.row (l.map f++[f c]) k st et)]:=by rw [aip (Cp l c)];simp
theorem gn {α:Type} {l:List α} {i:Nat} (h:decide ((i:Int)<(l.length:Int))=true):∃ c,l[i]? = some c∧l.drop i=c::l.drop (i+1)∧i<l.length:=by
 have h1:i<l.length:=by simp at h;omega
 exact ⟨l[i],List.getElem?_eq_getElem h1,List.drop_eq_getElem_cons h1,h1⟩
theorem ju {α:Type} {l:List α} {i:Nat} (h:decide ((i:Int)<(l.length:Int))=false):l.drop i=[]:=by
 have h1:¬ i<l.length:=by simp at h;omega
 exact List.drop_eq_nil_of_le (by omega)
def uy (D:List Nat):Nat→List (Option au)→List (Option au)
 |_,[]=>[]
 |i,x::r=>(bif xu i D then x else none)::uy D (i+1) r
def v8 (D:List Nat):Nat→List (Option au)→List (Option au)
 |_,[]=>[]
 |i,x::r=>(bif xu i D then none else x)::v8 D (i+1) r
theorem Q0 (D):∀ (i:Nat) (os:List (Option au)),(uy D i os).length=os.length
 |_,[]=>rfl
 |i,x::r=>by simp [uy,Q0 D (i+1) r]
theorem H9 (D):∀ (i:Nat) (os:List (Option au)),(v8 D i os).length=os.length
 |_,[]=>rfl
 |i,x::r=>by simp [v8,H9 D (i+1) r]
theorem Rb (D):∀ (os:List (Option au)) (i j:Nat),((uy D i os)[j]?).join=if (i+j) ∈ D then (os[j]?).join else none
 | [],i,j=>by simp [uy]
 |x::r,i,0=>by
  simp only [uy,List.getElem?_cons_zero,Option.join_some,Nat.add_zero]
  cases hb:xu i D with
  |true=>rw [if_pos ((u2 i D).1 hb)];rfl
  |false=>rw [if_neg (fun h=>by rw [(u2 i D).2 h] at hb;cases hb)];rfl
 |x::r,i,j+1=>by
  simp only [uy,List.getElem?_cons_succ]
  rw [Rb D r (i+1) j,show i+1+j=i+(j+1) from by omega]
theorem Sq (D):∀ (os:List (Option au)) (i j:Nat),((v8 D i os)[j]?).join=if (i+j) ∈ D then none else (os[j]?).join
 | [],i,j=>by simp [v8]
 |x::r,i,0=>by
  simp only [v8,List.getElem?_cons_zero,Option.join_some,Nat.add_zero]
  cases hb:xu i D with
  |true=>rw [if_pos ((u2 i D).1 hb)];rfl
  |false=>rw [if_neg (fun h=>by rw [(u2 i D).2 h] at hb;cases hb)];rfl
 |x::r,i,j+1=>by
  simp only [v8,List.getElem?_cons_succ]
  rw [Sq D r (i+1) j,show i+1+j=i+(j+1) from by omega]
theorem Pk (os:List (Option au)) (h:os.length≤bt) (o:Nat):(aw os).h.get o=(os[o]?).join:=by
 simp only [aw]
 rw [oy _ _ _ (by omega),if_pos (Nat.zero_le _),Nat.sub_zero]
inductive gw (h:Tr au):AV→AV→Prop
 |same (a:AV):gw h a a
 |data {α:Type} (C:db α) (fr:Bool) (x : α) (a:AV) (hd:C.gk fr h a=some x):gw h a (C.val fr x)
 |bad (a:AV):gw h a .bad
 |nil (o off sz:Nat):gw h (.sc (.slice none 0 0)) (.sl o off 0 sz)
 |pr (loc:Bool) (sz:Nat):gw h (.sc (.slice none 0 0)) (.vl loc sz [])
inductive fh (h:Tr au):List AV→List AV→Prop
 |nil:fh h [] []
 |cons {a b:AV} {l m:List AV} (h1:gw h a b) (h2:fh h l m):fh h (a::l) (b::m)
theorem fh.len {h l m} (hl:fh h l m):m.length=l.length:=by
 induction hl with
 |nil=>rfl
 |cons _ _ ih=>simp [ih]
theorem fh.refl (h):∀ l,fh h l l
 | []=>.nil
 |a::l=>.cons (.same a) (fh.refl h l)
theorem fh.get {h l m} (hl:fh h l m):∀ (i:Nat) b,m[i]? = some b→∃ a,l[i]? = some a∧gw h a b:=by
 induction hl with
 |nil=>intro i b hb;simp at hb
 |cons h1 h2 ih=>
  intro i b hb
  cases i with
  |zero=>simp at hb;subst hb;exact ⟨_,rfl,h1⟩
  |succ i=>exact ih i b (by simpa using hb)
inductive cy (h:Tr au):List (Option au)→List (Option au)→Prop
 |nil:cy h [] []
 |ghost {st et m} (h2:cy h [] m):cy h [] (some (.row [] 0 st et)::m)
 |same {x l m} (h2:cy h l m):cy h (x::l) (x::m)
 |gone {x l m} (h2:cy h l m):cy h (x::l) (none::m)
 |row {cells cells' k st et l m} (h1:fh h cells cells') (h2:cy h l m):cy h (some (.row cells k st et)::l) (some (.row cells' k st et)::m)
theorem cy.refl (h):∀ l,cy h l l
 | []=>.nil
 |x::l=>.same (cy.refl h l)
theorem cy.len {h l m} (hl:cy h l m):l.length≤m.length:=by induction hl<;>simp_all
theorem cy.get {h l m} (hl:cy h l m):∀ (i:Nat) y,(m[i]?).join=some y→(l[i]?).join=some y∨(∃ cells cells' k st et,y = .row cells' k st et∧(l[i]?).join=some (.row cells k st et)∧fh h cells cells')∨(l.length≤i∧Ec y):=by
 induction hl with
 |nil=>intro i y hy;simp at hy
 | @ghost st et m h2 ih=>
  intro i y hy
  cases i with
  |zero=>simp at hy;subst hy;exact .inr (.inr ⟨Nat.le_refl _,st,et,rfl⟩)
  |succ i=>exact .inr (.inr ⟨Nat.zero_le _,(by
   rcases ih i y (by simpa using hy) with h|⟨_,_,_,_,_,_,h,_⟩|h
   ·simp at h
   ·simp at h
   ·exact h.2)⟩)
 |same h2 ih=>
  intro i y hy
  cases i with
  |zero=>exact .inl hy
  |succ i=>exact (ih i y (by simpa using hy)).imp id (Or.imp id (fun h=>⟨Nat.succ_le_succ h.1,h.2⟩))
 |gone h2 ih=>
  intro i y hy
  cases i with
  |zero=>simp at hy
  |succ i=>exact (ih i y (by simpa using hy)).imp id (Or.imp id (fun h=>⟨Nat.succ_le_succ h.1,h.2⟩))
 |row h1 h2 ih=>
  intro i y hy
  cases i with
  |zero=>simp at hy;subst hy;exact .inr (.inl ⟨_,_,_,_,_,rfl,rfl,h1⟩)
  |succ i=>exact (ih i y (by simpa using hy)).imp id (Or.imp id (fun h=>⟨Nat.succ_le_succ h.1,h.2⟩))
theorem ke.lax {vs vs':List AV} {os os':List (Option au)} {aj:Nat} (D:List Nat) (hlen':os'.length≤bt) (hv:fh (aw (uy D 0 os)).h vs vs') (ho:cy (aw (uy D 0 os)).h (v8 D 0 os) os'):ke aj vs os vs' os':=by
 have holen:os.length≤os'.length:=by have:=ho.len;rw [H9] at this;exact this
 have hlen:os.length≤bt:=Nat.le_trans holen hlen'
 refine ⟨hv.len,fun q=>Nat.le_trans q holen,fun g w us hok hfree hr=>?_⟩
 obtain ⟨hD,ehD⟩:∃ hD,(aw (uy D 0 os)).h=hD:=⟨_,rfl⟩
 rw [ehD] at hv ho
 have dk:∀ o,(aw os).h.get o=(os[o]?).join:=Pk os hlen
 have hgetD:∀ o,hD.get o=if o ∈ D then (os[o]?).join else none:=fun o=>by
  rw [← ehD,Pk _ (by rw [Q0];exact hlen),Rb,Nat.zero_add]
 have hget':∀ o y,(aw os').h.get o=some y→(o ∉ D∧((aw os).h.get o=some y∨∃ cells cells' k st et,y = .row cells' k st et∧(aw os).h.get o=some (.row cells k st et)∧fh hD cells cells'))∨(os.length≤o∧Ec y):=fun o y hy=>by
  rw [Pk _ hlen'] at hy
  have hmid:∀ z,((v8 D 0 os)[o]?).join=some z→o ∉ D∧(os[o]?).join=some z:=fun z hz=>by
   rw [Sq,Nat.zero_add] at hz
   by_cases hd:o ∈ D
   ·rw [if_pos hd] at hz;cases hz
   ·rw [if_neg hd] at hz;exact ⟨hd,hz⟩
  rw [dk]
  rcases ho.get o y hy with h1|⟨cells,cells',k,st,et,h1,h2,h3⟩|h1
  ·exact .inl ⟨(hmid _ h1).1,.inl (hmid _ h1).2⟩
  ·exact .inl ⟨(hmid _ h2).1,.inr ⟨cells,cells',k,st,et,h1,(hmid _ h2).2,h3⟩⟩
  ·rw [H9] at h1;exact .inr h1
 have hsub:∀ o x,hD.get o=some x→o ∈ D∧(aw os).h.get o=some x:=fun o x hx=>by
  rw [hgetD] at hx
  by_cases hd:o ∈ D
  ·rw [if_pos hd] at hx;rw [dk];exact ⟨hd,hx⟩
  ·rw [if_neg hd] at hx;cases hx
 have hokD:Ok g hD w:=hok.part (fun o x hx=>(hsub o x hx).2)
 obtain ⟨K',eK⟩:∃ K':Nat→Nat→Prop,(fun b j=>g.K b j∨∃ o base cells k s e,hD.get o=some (.row cells k s e)∧g.inj o=some (b,base)∧∃ i,(s=0∨i<cells.length)∧j=base+i)=K':=⟨_,rfl⟩
 have hK':∀ b j,K' b j↔(g.K b j∨∃ o base cells k s e,hD.get o=some (.row cells k s e)∧g.inj o=some (b,base)∧∃ i,(s=0∨i<cells.length)∧j=base+i):=fun b j=>by rw [← eK]
 have hlend:uq g hD K':=⟨fun b j h=>(hK' b j).2 (.inl h),fun o cells k s e h b base hi j hj=>(hK' _ _).2 (.inr ⟨o,base,cells,k,s,e,h,hi,j,hj,rfl⟩)⟩
 have hlax:∀ {a b:AV} {v:Value},gw hD a b→Rel g w a v→Rel { g with K:=K' } w b v:=fun {a b v} hl hrel=>by
  have hup:Rel { g with K:=K' } w a v:=Rel.ext (g:=g) (w:=w) (g':={ g with K:=K' }) (w':=w) ⟨rfl,fun _ _ h=>h,fun b j h=>(hK' b j).2 (.inl h),fun _ _ _=>rfl,fun b cs e fr h=>⟨cs,fr,h,rfl⟩,fun b l h=>⟨l,h⟩,fun _ _ _ _ _ _=>rfl⟩ hrel
  cases hl with
  |same=>exact hup
  |data C fr x a hd=>exact (C.Jp hokD hlend (fun _=>Nat.le_refl g.b0) hrel hd).lift (Nat.le_refl _) (fun _ _ h=>h)
  |bad=>exact .bad _
  |nil o off sz=>obtain rfl:=hup.exact rfl;exact .n9 _ _ _
  |pr loc sz=>obtain rfl:=hup.exact rfl;exact .jy _ _
 refine ⟨{ g with K:=K' },⟨hok.size,fun o y hy=>?_,fun o o' x x' b base base' hne hx hx' hb hb'=>?_,fun b j hk=>?_⟩,⟨by rw [hv.len];exact hr.1,fun i b v hb hv'=>?_⟩,rfl,fun o q=>hfree o (Nat.le_trans holen q),fun _ _=>rfl,fun b j h=>(hK' b j).2 (.inl h),fun o b base ho' hi'=>?_,fun b j hk=>?_⟩
 ·rcases hget' o y hy with ⟨hnd,hy⟩|⟨hge,hgh⟩
  case inr=>exact .inl ⟨hfree o hge,hgh⟩
  have hKo:∀ b base,g.inj o=some (b,base)→((aw os).h.get o).isSome=true→∀ j,K' b j→g.K b j:=fun b base hi hs j hk=>by
   rcases (hK' b j).1 hk with h|⟨o2,base2,cells,k,s,e,h1,h2,_⟩
   ·exact h
   ·exfalso
    obtain ⟨hd2,h1'⟩:=hsub o2 _ h1
    obtain ⟨x,hx⟩:=Option.isSome_iff_exists.1 hs
    exact hok.sep o o2 x _ b base base2 (fun e=>hnd (by rw [e];exact hd2)) hx h1' hi h2
  have hext:Ext g w { g with K:=K' } w:=⟨rfl,fun _ _ h=>h,fun b j h=>(hK' b j).2 (.inl h),fun _ _ _=>rfl,fun b cs e fr h=>⟨cs,fr,h,rfl⟩,fun b l h=>⟨l,h⟩,fun _ _ _ _ _ _=>rfl⟩
  rcases hy with hy|⟨cells,cells',k,st,et,rfl,hy,hcl⟩
  ·refine (hok.kz o y hy).imp id ?_
   rintro ⟨b,base,h1,h2,h3⟩
   exact ⟨b,base,h1,h2,h3.ext hext rfl (fun j hj=>hKo b base h1 (by rw [hy];rfl) j hj)⟩
  ·refine (hok.kz o _ hy).imp (fun q=>⟨q.1,by
    obtain ⟨s0,e0,he⟩:=q.2
    simp only [au.row.injEq] at he
    obtain ⟨rfl,rfl,rfl,rfl⟩:=he
    cases hcl
    exact ⟨_,_,rfl⟩⟩) ?_
   rintro ⟨b,base,h1,h2,cs,fr,r1,r2,r3,r4,r5,r6,r7⟩
   refine ⟨b,base,h1,h2,cs,fr,r1,by rw [hcl.len];exact r2,fun j c hc=>?_,r4,fun j hj=>r5 j (hKo b base h1 (by rw [hy];rfl) j hj),r6,fun e=>by rw [hcl.len];exact r7.1 e,fun e=>by rw [hcl.len];exact r7.2 e⟩
   obtain ⟨a,ha,hla⟩:=hcl.get j c hc
   obtain ⟨u,hu,hru⟩:=r3 j a ha
   exact ⟨u,hu,hlax hla hru⟩
 ·have q:∀ o y p,(aw os').h.get o=some y→g.inj o=some p→∃ z,(aw os).h.get o=some z:=fun o y p hy hp=>by
   rcases hget' o y hy with ⟨_,h|⟨_,_,_,_,_,_,h,_⟩⟩|⟨h,_⟩
   ·exact ⟨_,h⟩
   ·exact ⟨_,h⟩
   ·rw [hfree o h] at hp;cases hp
  obtain ⟨z,hz⟩:=q o x _ hx hb
  obtain ⟨z',hz'⟩:=q o' x' _ hx' hb'
  exact hok.sep o o' z z' b base base' hne hz hz' hb hb'
 ·rcases (hK' b j).1 hk with h|⟨o,base,cells,k,s,e,h1,h2,_⟩
  ·exact hok.K b j h
  ·obtain ⟨b',base',h3,_,h4⟩:=hokD.obj o _ h1
   rw [h2] at h3;cases h3
   exact h4.lt
 ·obtain ⟨a,ha,hla⟩:=hv.get i b hb
  exact hlax hla (hr.2 i a v ha hv')
 ·obtain ⟨y,hy⟩:=Option.isSome_iff_exists.1 ho'
  rcases hget' o y hy with ⟨_,h|⟨_,_,_,_,_,_,h,_⟩⟩|⟨h,_⟩
  ·exact ⟨o,base,by rw [h];rfl,hi'⟩
  ·exact ⟨o,base,by rw [h];rfl,hi'⟩
  ·have:g.inj o=some (b,base):=hi'
   rw [hfree o h] at this;cases this
 ·rcases (hK' b j).1 hk with h|⟨o,base,cells,k,s,e,h1,h2,_⟩
  ·exact .inl h
  ·exact .inr ⟨o,base,by rw [(hsub o _ h1).2];rfl,h2⟩
theorem Rf {α:Type} {P:Program} {T:dz} {aj:Nat} {b:Code} {Q:QL} {L:SL} {st:St} (az:List Nat) (V : α→List AV) (O : α→List (Option au)) (I : α→Prop) (μ : α→Nat) (x : α) (hx:I x)
 (hv:ke aj (i9 aj az L st) (fm aj az L st) (V x) (O x))
 (step:∀ x,I x→wl P T aj b (l8 aj az (fun vs os=>∃ y,I y ∧ μ y < μ x∧ke aj vs os (V y) (O y)) Q) (fc az (V x)) (aw (O x))):sk aj (wl P T aj b) Q L st:=
 sk.ap7 az V O I μ x hx hv (fun _ _ h=>Pz b _ _ h) step
theorem jf {α:Type} {P:Program} {T:dz} {aj:Nat} {b:Code} {Q:QL} {L:SL} {st:St} (az:List Nat) (V : α→List AV) (O : α→List (Option au)) (I : α→Prop) (μ : α→Nat) (x : α) (hx:I x)
 (hv:ke aj (i9 aj az L st) (fm aj az L st) (V x) (O x))
 (step:∀ x,I x→wl P T aj b (l8 aj az (fun vs os=>∃ y,I y ∧ μ y < μ x∧vs=V y∧os=O y) Q) (fc az (V x)) (aw (O x))):sk aj (wl P T aj b) Q L st:=
 Rf az V O I μ x hx hv (fun x hi=>Pz b _ _ (fun e L' st' hq=>by
  cases e with
  |normal=>
   obtain ⟨y,h1,h2,h3,h4⟩:=hq
   refine ⟨y,h1,h2,?_⟩
   rw [h3,h4];exact .refl _ _ _
  |exit id=>exact hq
  |ret=>exact hq) _ _ (step x hi))
theorem C2 (f) (l):(List.map (ai.val f) l).flatMap AV.cells=l.map (ai.val f):=I6 ai f rfl rfl l
theorem Mr (f) (l):(List.map (ai.val f) l).all AV.one=true:=by rw [← C2 f l,Eo];exact C8 _ _ _
theorem Fw (fr h n cells k st et) (hn:n=cells.length) (hro:um fr st 1 .str et=true):je ai fr h 0 n (.row cells k st et)=ot ai fr h cells:=wo ai rfl fr h n cells k st et hn hro
theorem Q1:ai.kd = .str:=id rfl
theorem Kn (fr h f) (l):ot ai fr h (List.map (ai.val f) l)=some l:=by
 have e:List.map (ai.val f) l=List.map (ai.val true) l:=by cases f<;>rfl
 rw [e];exact Br ai rfl rfl fr h true (fun _=>rfl) l
theorem Ek (f) (l):(List.map (ay.val f) l).flatMap AV.cells=l.map (ay.val f):=I6 ay f rfl rfl l
theorem Rg (f) (l):(List.map (ay.val f) l).all AV.one=true:=by rw [← Ek f l,Eo];exact C8 _ _ _
theorem Gj (fr h n cells k st et) (hn:n=cells.length) (hro:um fr st 1 (.int .u8) et=true):je ay fr h 0 n (.row cells k st et)=ot ay fr h cells:=wo ay rfl fr h n cells k st et hn hro
theorem Vy:ay.kd=(.int .u8):=id rfl
theorem Lu (fr h f) (l):ot ay fr h (List.map (ay.val f) l)=some l:=by
 have e:List.map (ay.val f) l=List.map (ay.val true) l:=by cases f<;>rfl
 rw [e];exact Br ay rfl rfl fr h true (fun _=>rfl) l
theorem C4 (f) (l):(List.map (bo.val f) l).flatMap AV.cells=l.map (bo.val f):=I6 bo f rfl rfl l
theorem Oj (f) (l):(List.map (bo.val f) l).all AV.one=true:=by rw [← C4 f l,Eo];exact C8 _ _ _
theorem Gg (fr h n cells k st et) (hn:n=cells.length) (hro:um fr st 1 (.int .u32) et=true):je bo fr h 0 n (.row cells k st et)=ot bo fr h cells:=wo bo rfl fr h n cells k st et hn hro
theorem Q8:bo.kd=(.int .u32):=id rfl
theorem Kq (fr h f) (l):ot bo fr h (List.map (bo.val f) l)=some l:=by
 have e:List.map (bo.val f) l=List.map (bo.val true) l:=by cases f<;>rfl
 rw [e];exact Br bo rfl rfl fr h true (fun _=>rfl) l
theorem Ee (fr h n cells k st et) (hn:n=cells.length) (hro:um fr st 1 .no et=true):je ak fr h 0 n (.row cells k st et)=ot ak fr h cells:=wo ak rfl fr h n cells k st et hn hro
theorem Gw (fr h f) (l) (hf:(f || !fr)=true):ot ak fr h (List.map (ak.val f) l)=some l:=Br ak rfl rfl fr h f (fun e=>by subst e;simpa using hf) l
theorem H7 (fr h l n xs) (hn:n=1) (hl:(l || !fr)=true):jc ai fr h (.vl l n (xs.map (ai.val false)))=some xs:=by
 cases l with
 |true=>exact ry ai fr h true xs n hn hl
 |false=>exact ry ai fr h false xs n hn hl
theorem My:ai.val true=ai.val false:=id rfl
theorem J3 (fr h l n xs) (hn:n=1) (hl:(l || !fr)=true):jc ay fr h (.vl l n (xs.map (ay.val false)))=some xs:=by
 cases l with
 |true=>exact ry ay fr h true xs n hn hl
 |false=>exact ry ay fr h false xs n hn hl
theorem Rn:ay.val true=ay.val false:=id rfl
theorem Gx (fr h l n xs) (hn:n=1) (hl:(l || !fr)=true):jc bo fr h (.vl l n (xs.map (bo.val false)))=some xs:=by
 cases l with
 |true=>exact ry bo fr h true xs n hn hl
 |false=>exact ry bo fr h false xs n hn hl
theorem Lo:bo.val true=bo.val false:=id rfl
theorem Sw (fr h) (c:UInt8):ay.dec fr h [.sc (.int .u8 c.toNat)]=some c:=ay.rt fr h true c (fun _=>rfl)
theorem M4 (fr h) (c:UInt16):cb.dec fr h [.sc (.int .u16 c.toNat)]=some c:=cb.rt fr h true c (fun _=>rfl)
theorem Nt (fr h) (c:UInt32):bo.dec fr h [.sc (.int .u32 c.toNat)]=some c:=bo.rt fr h true c (fun _=>rfl)
theorem Qp (a b:List AV):AV.fresh.go (a++b)=(AV.fresh.go a && AV.fresh.go b):=by
 induction a with
 |nil=>rfl
 |cons x a ih=>simp only [List.cons_append,AV.fresh.go,ih,Bool.and_assoc]
theorem Va (f) (l:List UInt8):AV.fresh.go (l.map (ay.val f))=true:=by
 induction l with
 |nil=>rfl
 |cons x l ih=>simp only [List.map_cons,AV.fresh.go,ih];rfl
theorem Kj (f) (c:Name):(ak.val f c).one=true:=id rfl
theorem Fq (f) (c:Name):(ak.val f c).cells=[ak.val f c]:=id rfl
theorem Qw (fr h a):(bc ay).dec fr h [a]=jc ay fr h a:=id rfl
theorem Gs (fr h n cells k st et) (hn:n=cells.length) (hro:um fr st 1 .no et=true):je (bc ay) fr h 0 n (.row cells k st et)=ot (bc ay) fr h cells:=wo (bc ay) rfl fr h n cells k st et hn hro
structure du (B:da) (nt:NT) (L:SL) (st:St) (g:Gh) (a:Act) (w:World):Prop where
 cur:jh B g st w
 sl:g8 g w nt L a.tmps
 rn:Marks B.D B.n0 st.h g w a.defers
theorem nk.n0 {B:da} {n d g h w} (q:nk B g h w):nk { B with n0:=n,D:=d } g h w:=⟨q.b0,q.pins,q.K,q.cell,q.size,q.os,q.tape,q.output,q.frame,q.own,q.kn,q.nc,q.lp,q.whole⟩
theorem nk.aqv {B:da} {n d g h w} (q:nk { B with n0:=n,D:=d } g h w):nk B g h w:=⟨q.b0,q.pins,q.K,q.cell,q.size,q.os,q.tape,q.output,q.frame,q.own,q.kn,q.nc,q.lp,q.whole⟩
theorem jh.n0 {B:da} {n d g st w} (q:jh B g st w):jh { B with n0:=n,D:=d } g st w:=⟨q.ok,q.fresh,q.base.n0,q.aj⟩
theorem piece {P:Program} [KP P] {T:dz} (hT:aq P T) (hm:P.follows .mixedOrders=true) {N:Nat} {B:da} {nt:NT} (hnf:B.fq) (hp:B.aj≤1000) (hn0:B.n0≤B.w.heap.size) {c:Code} (hs:dw nt c=true) {Q:QL} {L:SL} {st:St} {g:Gh} {a:Act} {w:World}
 (h:wl P T B.aj c Q L st) (hh:du B nt L st g a w) :
 c.wpIn (fk none) N P (fun ex a' w'=>∃ e L' st' g',ex=rp e∧Q e L' st'∧du B nt L' st' g' a' w'∧nk (iw g st.h w B.aj (fun _=>False)) g' st'.h w') a w:=by
 have hc1:jh { iw g st.h w B.aj (fun _=>False) with n0:=B.n0,D:=B.D } g st w:=(hh.cur.Ks B.aj (fun _=>False) hh.cur.aj (fun o h=>(hnf o h).elim)).n0
 refine wpIn_mono (ab9 hT hm (N:=N) (B:={ iw g st.h w B.aj (fun _=>False) with n0:=B.n0,D:=B.D }) (nt:=nt) (fun _ h=>h) hp (Nat.le_trans hn0 hh.cur.base.size) c hs Q L st g w a h hc1 hh.sl hh.rn) ?_
 rintro ex a' w' ⟨e,L',st',g',rfl,hq,hc',hr',hd'⟩
 have hb:=hc'.base.aqv (B:=iw g st.h w B.aj (fun _=>False))
 exact ⟨e,L',st',g',rfl,hq,⟨⟨hc'.ok,fun o h1 _=>hc'.fresh o h1 (fun h=>h),hh.cur.base.comp hb (Nat.le_refl _) (fun o h=>(hnf o h).elim) (fun _ h=>h.elim),hc'.aj⟩,hr',hd'⟩,hb⟩
structure Cy (g:Gh) (w:World) (g':Gh) (w':World):Prop where
 b0:g'.b0=g.b0
 K:∀ b j,g.K b j→g'.K b j
 cell:∀ b j,g.K b j→w'.cell? ⟨b,j,none⟩=w.cell? ⟨b,j,none⟩
 nc:∀ (b:Nat) (cs:Array Value) (e:TypeId) (fr:Nat × Nat),w.heap[b]? = some (Obj.cells cs e fr)→∃ (cs':Array Value) (fr':Nat × Nat),w'.heap[b]? = some (Obj.cells cs' e fr')∧cs'.size=cs.size
 lp:∀ (b:Nat) (l:Loop),w.heap[b]? = some (Obj.loop l)→∃ l',w'.heap[b]? = some (Obj.loop l')
 whole:∀ (b:Nat) (cs:Array Value) (e:TypeId) (fr:Nat × Nat),w.heap[b]? = some (Obj.cells cs e fr)→(∀ j,g.K b j)→w'.heap[b]? = w.heap[b]?
theorem Cy.base {g h w p x g' h' w'} (q:nk (iw g h w p x) g' h' w'):Cy g w g' w':=⟨q.b0,q.K,q.cell,q.nc,q.lp,q.whole⟩
theorem Cy.more {g g':Gh} {w:World} (h1:g'.b0=g.b0) (h2:∀ b j,g.K b j→g'.K b j):Cy g w g' w:=⟨h1,h2,fun _ _ _=>rfl,fun b cs e fr h=>⟨cs,fr,h,rfl⟩,fun b l h=>⟨l,h⟩,fun _ _ _ _ _ _=>rfl⟩
theorem Rel.plain {g g' w w' a v} (ha:a.bk (fun _=>none)=a) (h:Rel g w a v) (hl:Cy g w g' w'):Rel g' w' a v:=by
 have h1:=h.bk (τ:=fun _=>none) (N:=[]) (fun o p e=>by cases e)
 rw [ha] at h1
 have hx:Ext (g.bk []) w g' w':=⟨hl.b0,fun o p e=>(by cases e),hl.K,hl.cell,hl.nc,hl.lp,hl.whole⟩
 exact h1.ext hx
def fw (cells:List AV):Prop:=AV.bk.go (fun _=>none) cells=cells
theorem ahe {cells:List AV} (h:fw cells) {j:Nat} {a:AV} (ha:cells[j]? = some a):a.bk (fun _=>none)=a:=by
 unfold fw at h
 rw [ia] at h
 have:=congrArg (·[j]?) h
 simp only [List.getElem?_map,ha,Option.map_some,Option.some.injEq] at this
 exact this
theorem Q4 {g w g' w' b base cells k s et} (hcl:fw cells) (hl:Cy g w g' w') (hh:w'.heap[b]? = w.heap[b]?) (hK:∀ j,g'.K b j→g.K b j) (h:kj g w b base (.row cells k s et)):kj g' w' b base (.row cells k s et):=by
 obtain ⟨cs,fr,h1,h2,h3,h4,h5,h6⟩:=h
 refine ⟨cs,fr,hh.trans h1,h2,fun j a ha=>?_,h4,fun j hj=>h5 j (hK j hj),h6⟩
 obtain ⟨c,hc,hr⟩:=h3 j a ha
 exact ⟨c,hc,hr.plain (ahe hcl ha) hl⟩
structure eu (B:da) (g:Gh) (st:St) (w:World) (cells:List AV) (et:TypeId) (n sz:Nat) (v:Value) (b:Nat):Prop where
 ge:B.w.heap.size≤b
 gb:g.b0≤b
 un:ff g st.h b
 obj:∃ base,kj g w b base (.row cells 0 0 et)∧∃ cap,v = .slice (some ⟨b,base,none⟩) n cap∧n≤cap∧cap≤maxLen∧Lj w b (base+cap * sz)
theorem eu.lt {B g st w cells et n sz v b} (h:eu B g st w cells et n sz v b):b<w.heap.size:=by
 obtain ⟨base,⟨cs,fr,q,_⟩,_⟩:=h.obj
 exact bf q
theorem eu.move {B g st w cells et n sz v b g' st'} (hcl:fw cells) (h:eu B g st w cells et n sz v b) (h0:g'.b0=g.b0) (h1:∀ b j,g.K b j→g'.K b j) (hK:∀ j,g'.K b j→g.K b j) (hu:ff g' st'.h b):eu B g' st' w cells et n sz v b:=by
 obtain ⟨base,ho,hv⟩:=h.obj
 exact ⟨h.ge,by rw [h0];exact h.gb,hu,base,Q4 hcl (Cy.more h0 h1) rfl hK ho,hv⟩
theorem eu.az {B g st w cells et n sz v b g' st' w' p} (hcl:fw cells) (h:eu B g st w cells et n sz v b) (hb:nk (iw g st.h w p (fun _=>False)) g' st'.h w'):eu B g' st' w' cells et n sz v b:=by
 have hlt:=h.lt
 have hnO:¬ (iw g st.h w p (fun _=>False)).O b:=fun hO=>by
  rcases hO with hO|⟨o,base',e1,e2⟩
  ·exact hO
  ·exact h.un o base' e1 e2
 have hfr:w'.heap[b]? = w.heap[b]? := hb.frame b hlt hnO
 obtain ⟨base,ho,cap,h1,h2,h3,h4⟩:=h.obj
 refine ⟨h.ge,by rw [hb.b0];exact h.gb,fun o base' e1 e2=>?_,base,Q4 hcl (Cy.base hb) hfr (fun j hj=>?_) ho,cap,h1,h2,h3,?_⟩
 ·rcases hb.own o b base' e1 e2 with q|q
  ·exact absurd hlt (Nat.not_lt.2 q)
  ·exact hnO q
 ·rcases hb.kn b j hj with q|q|q
  ·exact q
  ·exact absurd hlt (Nat.not_lt.2 q)
  ·exact (hnO q).elim
 ·obtain ⟨cs,e,fr,q1,q2⟩:=h4
  exact ⟨cs,e,fr,hfr.trans q1,q2⟩
theorem du.canon {B:da} {nt L st g a w} (hnf:B.fq) (hp:B.aj≤1000) (az:List Nat) (h:du B nt L st g a w):du B nt (fc az (i9 B.aj az L st)) (aw (fm B.aj az L st)) (g.bk (ga B.aj az L st)) a w:=
 ⟨(Bw hnf hp az h.cur h.sl).1,(Bw hnf hp az h.cur h.sl).2,uj hp az h.rn⟩
theorem eu.canon {B:da} {g st w cells et n sz v b} (hp:B.aj≤1000) (hcl:fw cells) (az:List Nat) (L:SL) (h:eu B g st w cells et n sz v b):eu B (g.bk (ga B.aj az L st)) (aw (fm B.aj az L st)) w cells et n sz v b:=
 h.move hcl rfl (fun _ _ h=>h) (fun _ h=>h) (uw hp az h.un)
def aa7 (g:Gh) (w:World) (o:Nat) (kl:List Value):Prop:=∃ b base cs et fr,g.inj o=some (b,base)∧w.heap[b]? = some (.cells cs et fr)∧∀ (j:Nat) v,kl[j]? = some v→cs[base+j]? = some v
theorem du.kl {B:da} {nt L st g a w o cells k s et} (h:du B nt L st g a w) (ho:st.h.get o=some (.row cells k s et)) (hi:∃ p,g.inj o=some p):∃ kl,aa7 g w o kl∧bb g w cells kl:=by
 obtain ⟨b,base,h1,h2,cs,fr,h3,h4,h5,h6⟩:=h.cur.ok.obj o _ ho hi
 refine ⟨(List.range cells.length).map fun j=>cs.getD (base+j) undef,⟨b,base,cs,et,fr,h1,h3,fun j v hv=>?_⟩,by simp,fun j x v hx hv=>?_⟩
 ·rw [List.getElem?_map,Option.map_eq_some_iff] at hv
  obtain ⟨i,hi,rfl⟩:=hv
  obtain ⟨hl,rfl⟩:=List.getElem?_eq_some_iff.1 hi
  simp only [List.length_range] at hl
  simp only [List.getElem_range]
  rw [Array.getD_eq_getD_getElem?,Array.getElem?_eq_getElem (by omega)];rfl
 ·rw [List.getElem?_map,Option.map_eq_some_iff] at hv
  obtain ⟨i,hi,rfl⟩:=hv
  obtain ⟨hl,rfl⟩:=List.getElem?_eq_some_iff.1 hi
  simp only [List.getElem_range]
  obtain ⟨c,hc,hr⟩:=h5 j x hx
  rw [Array.getD_eq_getD_getElem?,hc]
  exact hr
theorem du.zp {B:da} {nt L st g a w o cells cells' k s et kl} (h:du B nt L st g a w) (hlim:o≤bt) (ho:st.h.get o=some (.row cells k s et)) (hv:aa7 g w o kl) (hr:bb g w cells kl) (hr':bb g w cells' kl) :
 du B nt L { st with h:=Tr.set depth st.h o (some (.row cells' k s et)) } g a w:=by
 obtain ⟨b,base,cs,et0,fr,v1,v2,v3⟩:=hv
 have hlen:cells'.length=cells.length:=by rw [← hr.1,hr'.1]
 have hsome:∀ p,((Tr.set depth st.h o (some (au.row cells' k s et))).get p).isSome=true→(st.h.get p).isSome=true:=fun p hp=>by
  rw [ec _ _ _ _ hlim] at hp
  by_cases e:p=o
  ·subst e;rw [ho];rfl
  ·rwa [if_neg e] at hp
 have hb:=h.cur.base
 refine ⟨⟨⟨h.cur.ok.size,fun p x hx=>?_,fun p p' x x' b1 base1 base2 hne hx hx'=>?_,h.cur.ok.K⟩,h.cur.fresh,⟨hb.b0,hb.pins,hb.K,hb.cell,hb.size,hb.os,hb.tape,hb.output,hb.frame,fun p b1 base1 hp hj=>hb.own p b1 base1 (hsome p hp) hj,hb.kn,hb.nc,hb.lp,hb.whole⟩,h.cur.aj⟩,h.sl,?_⟩
 ·simp only [ec _ _ _ _ hlim] at hx
  by_cases e:p=o
  ·subst e
   rw [if_pos rfl] at hx;cases hx
   obtain ⟨b',base',h1,h2,cs',fr',h3,h4,h5,h6,h7,h8,h9⟩:=h.cur.ok.obj p _ ho ⟨_,v1⟩
   rw [v1] at h1;cases h1
   rw [v2] at h3;cases h3
   refine .inr ⟨b,base,v1,h2,cs,fr,v2,by rw [hlen];exact h4,fun j x hx=>?_,h6,h7,h8,fun q=>by rw [hlen];exact h9.1 q,fun q=>by rw [hlen];exact h9.2 q⟩
   have hj:j<kl.length:=by rw [hr'.1];exact (List.getElem?_eq_some_iff.1 hx).1
   exact ⟨kl[j],v3 j _ (List.getElem?_eq_getElem hj),hr'.2 j x _ hx (List.getElem?_eq_getElem hj)⟩
  ·rw [if_neg e] at hx
   exact h.cur.ok.kz p x hx
 ·simp only [ec _ _ _ _ hlim] at hx hx'
  have f:∀ q y,(if q=o then some (au.row cells' k s et) else st.h.get q)=some y→∃ z,st.h.get q=some z:=fun q y hq=>by
   by_cases e:q=o
   ·subst e;exact ⟨_,ho⟩
   ·rw [if_neg e] at hq;exact ⟨_,hq⟩
  obtain ⟨z,hz⟩:=f p x hx
  obtain ⟨z',hz'⟩:=f p' x' hx'
  exact h.cur.ok.sep p p' z z' b1 base1 base2 hne hz hz'
 ·obtain ⟨bs,m1,m2,m3⟩:=h.rn
  exact ⟨bs,m1,m2,fun b hb=>⟨(m3 b hb).1,(m3 b hb).2.1,fun p base1 hp=>(m3 b hb).2.2 p base1 (hsome p hp)⟩⟩
theorem eu.zp {B g st w cs et n sz v b o x y} (hlim:o≤bt) (ho:st.h.get o=some x) (h:eu B g st w cs et n sz v b):eu B g { st with h:=Tr.set depth st.h o (some y) } w cs et n sz v b:=
 ⟨h.ge,h.gb,fun p base1 hp=>h.un p base1 (by
  rw [ec _ _ _ _ hlim] at hp
  by_cases e:p=o
  ·subst e;rw [ho];rfl
  ·rwa [if_neg e] at hp),h.obj⟩
def St.more (st:St) (x:au):St:={ h:=Tr.set depth st.h st.nx (some x),nx:=st.nx+1,rl:=st.rl,wl:=st.wl }
theorem du.focus {B:da} {nt L st g a w cells et n sz v b} (hnf:B.fq) (hlim:st.nx≤bt) (hh:du B nt L st g a w) (ho:eu B g st w cells et n sz v b) :
 ∃ g',du B nt L (st.more (.row cells 0 0 et)) g' a w∧Rel g' w (.sl st.nx 0 n sz) v∧Ext g w g' w∧(∀ b j,g'.K b j→g.K b j)∧(∀ b',ff g st.h b'→b'≠b→ff g' (st.more (.row cells 0 0 et)).h b')∧(∀ o,o≠st.nx→g'.inj o=g.inj o):=by
 obtain ⟨base,hobj,cap,hv,hn,hc,hroom⟩:=ho.obj
 have hno:g.inj st.nx=none:=hh.cur.fresh _ (Nat.le_refl _) (hnf _)
 have hx:Ext g w (g.with st.nx b base) w:=⟨rfl,fun o p h=>by
  rw [Gh.ee (by intro e;subst e;rw [hno] at h;cases h)];exact h,fun _ _ h=>h,fun _ _ _=>rfl,fun b cs e fr h=>⟨cs,fr,h,rfl⟩,fun b l h=>⟨l,h⟩,fun _ _ _ _ _ _=>rfl⟩
 have dk:∀ o,(st.more (.row cells 0 0 et)).h.get o=if o=st.nx then some (.row cells 0 0 et) else st.h.get o:=fun o=>ec _ _ _ _ hlim
 have hb:=hh.cur.base
 have hO:∀ o y,st.h.get o=some y→∀ b1 base1,g.inj o=some (b1,base1)→b1≠b:=fun o y hy b1 base1 hi e=>by
  subst e;exact ho.un o base1 (by rw [hy];rfl) hi
 refine ⟨g.with st.nx b base,⟨⟨⟨hh.cur.ok.size,fun o y hy=>?_,fun o o' y y' b1 base1 base2 hne hy hy' hi hi'=>?_,hh.cur.ok.K⟩,fun o h1 h2=>?_,⟨hb.b0,fun o h1=>?_,hb.K,hb.cell,hb.size,hb.os,hb.tape,hb.output,hb.frame,fun o b1 base1 h1 h2=>?_,hb.kn,hb.nc,hb.lp,hb.whole⟩,Nat.le_succ_of_le hh.cur.aj⟩,hh.sl.ext hx,?_⟩,?_,hx,fun _ _ h=>h,fun b' hu hne o base1 h1 h2=>?_,fun o h=>Gh.ee h⟩
 ·rw [dk] at hy
  by_cases e:o=st.nx
  ·subst e
   rw [if_pos rfl] at hy;cases hy
   exact .inr ⟨b,base,Gh.i5,ho.gb,hobj.ext hx rfl (fun _ h=>h)⟩
  ·rw [if_neg e] at hy
   refine (hh.cur.ok.kz o y hy).imp (fun q=>⟨by rw [Gh.ee e];exact q.1,q.2⟩) ?_
   rintro ⟨b1,base1,h1,h2,h3⟩
   exact ⟨b1,base1,by rw [Gh.ee e];exact h1,h2,h3.ext hx rfl (fun _ h=>h)⟩
 ·rw [dk] at hy hy'
  by_cases e:o=st.nx
  ·subst e
   rw [Gh.i5] at hi;cases hi
   rw [if_neg (Ne.symm hne)] at hy'
   rw [Gh.ee (Ne.symm hne)] at hi'
   exact hO o' y' hy' _ _ hi' rfl
  ·rw [if_neg e] at hy
   rw [Gh.ee e] at hi
   by_cases e':o'=st.nx
   ·subst e'
    rw [Gh.i5] at hi';cases hi'
    exact hO o y hy _ _ hi rfl
   ·rw [if_neg e'] at hy'
    rw [Gh.ee e'] at hi'
    exact hh.cur.ok.sep o o' y y' b1 base1 base2 hne hy hy' hi hi'
 ·have h1:st.nx+1≤o:=h1
  rw [Gh.ee (by omega)];exact hh.cur.fresh o (by omega) h2
 ·have hp:=hh.cur.aj
  have h1':o<B.aj:=h1.resolve_right (hnf o)
  rw [Gh.ee (by omega)];exact hb.pins o h1
 ·rw [dk] at h1
  by_cases e:o=st.nx
  ·subst e
   rw [Gh.i5] at h2;cases h2
   exact .inl ho.ge
  ·rw [if_neg e] at h1
   rw [Gh.ee e] at h2
   exact hb.own o b1 base1 h1 h2
 ·obtain ⟨bs,m1,m2,m3⟩:=hh.rn
  refine ⟨bs,m1,m2,fun c hc=>⟨(m3 c hc).1,(m3 c hc).2.1,fun o base1 h1 h2=>?_⟩⟩
  rw [dk] at h1
  by_cases e:o=st.nx
  ·subst e
   rw [Gh.i5] at h2;cases h2
   obtain ⟨cs,fr,q,_⟩:=hobj
   rw [(m3 _ hc).2.1] at q;cases q
  ·rw [if_neg e] at h1
   rw [Gh.ee e] at h2
   exact (m3 c hc).2.2 o base1 h1 h2
 ·rw [hv]
  exact .sl st.nx 0 n sz b base cap Gh.i5 hn hc hroom
 ·rw [dk] at h1
  by_cases e:o=st.nx
  ·subst e
   rw [Gh.i5] at h2;cases h2
   exact hne rfl
  ·rw [if_neg e] at h1
   rw [Gh.ee e] at h2
   exact hu o base1 h1 h2
def St.less (st:St) (o:Nat):St:={ st with h:=Tr.set depth st.h o none }
theorem du.release {B:da} {nt L st g a w o cells et n sz v} (hO:∀ b,¬ B.O b) (hlim:o≤bt) (hh:du B nt L st g a w) (ho:st.h.get o=some (.row cells 0 0 et)) (hn : 0<n) (hr:Rel g w (.sl o 0 n sz) v) :
 ∃ b,du B nt L (st.less o) g a w∧eu B g (st.less o) w cells et n sz v b∧∀ b',ff g st.h b'→b'≠b∧ff g (st.less o).h b':=by
 have dk:∀ p,(st.less o).h.get p=if p=o then none else st.h.get p:=fun p=>ec _ _ _ _ hlim
 have hsub:∀ p x,(st.less o).h.get p=some x→p≠o∧st.h.get p=some x:=fun p x hx=>by
  rw [dk] at hx
  by_cases e:p=o
  ·rw [if_pos e] at hx;cases hx
  ·rw [if_neg e] at hx;exact ⟨e,hx⟩
 have hsome:∀ p,((st.less o).h.get p).isSome=true→p≠o∧(st.h.get p).isSome=true:=fun p hp=>by
  obtain ⟨x,hx⟩:=Option.isSome_iff_exists.1 hp
  exact ⟨(hsub p x hx).1,by rw [(hsub p x hx).2];rfl⟩
 have key:∃ b base cap,g.inj o=some (b,base)∧v = .slice (some ⟨b,base,none⟩) n cap∧n≤cap∧cap≤maxLen∧Lj w b (base+cap * sz):=by
  cases hr with
  |sl _ _ _ _ b base cap hi hc hm hroom=>exact ⟨b,base,cap,hi,rfl,hc,hm,hroom⟩
  |nq=>omega
  |n9=>omega
 obtain ⟨b,base,cap,hi,hv,h1,h2,h3⟩:=key
 obtain ⟨b',base',e1,e2,e3⟩:=hh.cur.ok.obj o _ ho ⟨_,hi⟩
 rw [hi] at e1;cases e1
 have hb:=hh.cur.base
 refine ⟨b,⟨⟨hh.cur.ok.part (fun p x hx=>(hsub p x hx).2),hh.cur.fresh,⟨hb.b0,hb.pins,hb.K,hb.cell,hb.size,hb.os,hb.tape,hb.output,hb.frame,fun p b1 base1 q1 q2=>hb.own p b1 base1 (hsome p q1).2 q2,hb.kn,hb.nc,hb.lp,hb.whole⟩,hh.cur.aj⟩,hh.sl,?_⟩,⟨?_,e2,fun p base1 q1 q2=>?_,base,e3,cap,hv,h1,h2,h3⟩,fun b' hu=>⟨fun e=>?_,fun p base1 q1 q2=>hu p base1 (hsome p q1).2 q2⟩⟩
 ·obtain ⟨bs,m1,m2,m3⟩:=hh.rn
  exact ⟨bs,m1,m2,fun c hc=>⟨(m3 c hc).1,(m3 c hc).2.1,fun p base1 q1 q2=>(m3 c hc).2.2 p base1 (hsome p q1).2 q2⟩⟩
 ·rcases hb.own o b base (by rw [ho];rfl) hi with q|q
  ·exact q
  ·exact (hO b q).elim
 ·obtain ⟨x,hx⟩:=Option.isSome_iff_exists.1 q1
  exact hh.cur.ok.sep p o x _ b base1 base (hsub p x hx).1 (hsub p x hx).2 ho q2 hi
 ·subst e;exact hu o base (by rw [ho];rfl) hi
def l6 (m:Nat) (o:Nat):Option Nat:=bif Nat.blt o m then some o else none
theorem du.cut {B:da} {nt L st g a w} {m:Nat} (hnf:B.fq) (hm:m≤st.nx) (hp:B.aj≤m) (hh:du B nt L st g a w) (hL:∀ t,(lk L t).bk (l6 m)=lk L t) (hobj:∀ o x,st.h.get o=some x→o<m∧x.bk (l6 m)=some x) :
 du B nt L { st with nx:=m } (g.bk (dg 0 m)) a w∧∀ b,ff g st.h b→ff (g.bk (dg 0 m)) st.h b:=by
 have hinj:∀ o,o<m→(g.bk (dg 0 m)).inj o=g.inj o:=fun o ho=>by
  have:(dg 0 m)[o]? = some o:=by rw [tz _ _ _ ho,Nat.zero_add]
  simp [Gh.bk,this]
 have hinj':∀ o p,(g.bk (dg 0 m)).inj o=some p→g.inj o=some p:=fun o p h=>by
  by_cases ho:o<m
  ·rw [hinj o ho] at h;exact h
  ·have:(dg 0 m)[o]? = none:=List.getElem?_eq_none (by rw [gv];omega)
   simp [Gh.bk,this] at h
 have hτ:∀ o p,l6 m o=some p→(dg 0 m)[p]? = some o:=fun o p h=>by
  unfold l6 at h
  cases hb:Nat.blt o m with
  |false=>rw [hb] at h;cases h
  |true=>rw [hb] at h;cases h;rw [tz _ _ _ (Nat.le_of_ble_eq_true hb),Nat.zero_add]
 have hb:=hh.cur.base
 refine ⟨⟨⟨⟨hh.cur.ok.size,fun o x hx=>?_,fun o o' x x' b1 base1 base2 hne hx hx' hi hi'=>hh.cur.ok.sep o o' x x' b1 base1 base2 hne hx hx' (hinj' _ _ hi) (hinj' _ _ hi'),hh.cur.ok.K⟩,fun o h1 h2=>?_,⟨hb.b0,fun o h1=>?_,hb.K,hb.cell,hb.size,hb.os,hb.tape,hb.output,hb.frame,fun o b1 base1 h1 h2=>hb.own o b1 base1 h1 (hinj' _ _ h2),hb.kn,hb.nc,hb.lp,hb.whole⟩,hp⟩,⟨hh.sl.1,fun t=>?_⟩,?_⟩,fun b hu o base h1 h2=>hu o base h1 (hinj' _ _ h2)⟩
 ·obtain ⟨h1,h2⟩:=hobj o x hx
  refine (hh.cur.ok.kz o x hx).imp (fun q=>⟨by rw [hinj o h1];exact q.1,q.2⟩) ?_
  rintro ⟨b,base,q1,q2,q3⟩
  exact ⟨b,base,by rw [hinj o h1];exact q1,q2,q3.bk hτ h2⟩
 ·have h1:m≤o:=h1
  have:(dg 0 m)[o]? = none:=List.getElem?_eq_none (by rw [gv];omega)
  simp [Gh.bk,this]
 ·have h1':o<B.aj:=h1.resolve_right (hnf o)
  rw [hinj o (by omega)];exact hb.pins o h1
 ·rw [← hL t];exact (hh.sl.2 t).bk hτ
 ·obtain ⟨bs,m1,m2,m3⟩:=hh.rn
  exact ⟨bs,m1,m2,fun c hc=>⟨(m3 c hc).1,(m3 c hc).2.1,fun o base1 h1 h2=>(m3 c hc).2.2 o base1 h1 (hinj' _ _ h2)⟩⟩
theorem du.congr {B:da} {nt L st g a w} {st':St} (hh:du B nt L st g a w) (hn:st'.nx=st.nx) (hg:∀ o,st'.h.get o=st.h.get o):du B nt L st' g a w:=by
 have hb:=hh.cur.base
 refine ⟨⟨⟨hh.cur.ok.size,fun o x hx=>hh.cur.ok.kz o x (by rw [← hg];exact hx),fun o o' x x' b1 base1 base2 hne hx hx'=>hh.cur.ok.sep o o' x x' b1 base1 base2 hne (by rw [← hg];exact hx) (by rw [← hg];exact hx'),hh.cur.ok.K⟩,by rw [hn];exact hh.cur.fresh,⟨hb.b0,hb.pins,hb.K,hb.cell,hb.size,hb.os,hb.tape,hb.output,hb.frame,fun o b1 base1 h1=>hb.own o b1 base1 (by rw [← hg];exact h1),hb.kn,hb.nc,hb.lp,hb.whole⟩,by rw [hn];exact hh.cur.aj⟩,hh.sl,?_⟩
 obtain ⟨bs,m1,m2,m3⟩:=hh.rn
 exact ⟨bs,m1,m2,fun c hc=>⟨(m3 c hc).1,(m3 c hc).2.1,fun o base1 h1=>(m3 c hc).2.2 o base1 (by rw [← hg];exact h1)⟩⟩
theorem eu.congr {B g st w cs et n sz v b} {st':St} (h:eu B g st w cs et n sz v b) (hg:∀ o,st'.h.get o=st.h.get o):eu B g st' w cs et n sz v b:=
 ⟨h.ge,h.gb,fun o base1 h1=>h.un o base1 (by rw [← hg];exact h1),h.obj⟩
theorem du.freeze {B:da} {nt L st g a w et n sz v b} {es:List AV} (hts:TK.sz et=some sz) (hz1:sz≠1) (hcl:fw (es.flatMap AV.cells)) (hsz:∀ e ∈ es,e.cells.length=sz) (hn:es.length=n) (hh:du B nt L st g a w) (ho:eu B g st w (es.flatMap AV.cells) et n sz v b) :
 ∃ g',du B nt L st g' a w∧Rel g' w (.vl true sz es) v∧Ext g w g' w∧g'.inj=g.inj∧(∀ b' j,b'≠b→g'.K b' j→g.K b' j):=by
 obtain ⟨base,⟨cs,fr,o1,o2,o3,o4,o5,o6,o7,o8⟩,cap,hv,hc,hm,hroom⟩:=ho.obj
 let g':Gh:={ g with K:=fun c _j=>g.K c _j∨c=b }
 have hx:Ext g w g' w:=⟨rfl,fun _ _ h=>h,fun _ _ h=>.inl h,fun _ _ _=>rfl,fun b cs e fr h=>⟨cs,fr,h,rfl⟩,fun b l h=>⟨l,h⟩,fun _ _ _ _ _ _=>rfl⟩
 have hb:=hh.cur.base
 have hK:∀ b' j,b'≠b→g'.K b' j→g.K b' j:=fun b' j hne hk=>hk.resolve_right (fun q=>hne q)
 refine ⟨g',⟨⟨⟨hh.cur.ok.size,fun o x hx'=>?_,hh.cur.ok.sep,fun c j hk=>?_⟩,hh.cur.fresh,⟨hb.b0,hb.pins,fun c j hk=>.inl (hb.K c j hk),hb.cell,hb.size,hb.os,hb.tape,hb.output,hb.frame,hb.own,fun c j hk=>?_,hb.nc,hb.lp,hb.whole⟩,hh.cur.aj⟩,hh.sl.ext hx,hh.rn⟩,?_,hx,rfl,hK⟩
 ·refine (hh.cur.ok.kz o x hx').imp id ?_
  rintro ⟨b1,base1,q1,q2,q3⟩
  have hne:b1≠b:=fun e=>by subst e;exact ho.un o base1 (by rw [hx'];rfl) q1
  exact ⟨b1,base1,q1,q2,q3.ext hx rfl (fun j hj=>hK b1 j hne hj)⟩
 ·rcases hk with hk|rfl
  ·exact hh.cur.ok.K c j hk
  ·exact bf o1
 ·rcases hk with hk|rfl
  ·exact hb.kn c j hk
  ·exact .inr (.inl ho.ge)
 ·rw [hv,← hn]
  have hcell:∀ (j:Nat) x,(es.flatMap AV.cells)[j]? = some x→∃ c,cs[base+j]? = some c∧Rel g w x c:=o3
  refine .vl true sz es b base cap (fun j=>cs.getD (base+j) undef) hsz (fun _=>ho.gb) (by omega) (fun j x hx'=>?_) (fun j x hx'=>?_) (fun _=>?_)
  ·obtain ⟨c,q1,q2⟩:=hcell j x hx'
   have hj:=(List.getElem?_eq_some_iff.1 hx').1
   refine ⟨.inr rfl,?_⟩
   rw [iq o1,Array.getD_eq_getD_getElem?,q1];rfl
  ·obtain ⟨c,q1,q2⟩:=hcell j x hx'
   rw [Array.getD_eq_getD_getElem?,q1]
   exact q2.ext hx
  ·have hf:=o6 (by decide)
   subst hf
   obtain ⟨p1,_,_⟩:=o8 rfl
   subst p1
   obtain ⟨cs1,e1,fr1,t1,t2⟩:=hroom
   rw [o1] at t1;cases t1
   exact ⟨fun j=>.inr rfl,⟨cs,et,o1,by omega,hts,by simp,fun e=>absurd e hz1⟩,fun e=>absurd e hz1,hm⟩
theorem Mk {P:Program} [KP P] {N:Nat} {F:Fence} {c:Code} {Q:Exit→Act→World→Prop} {α:Type} (I : α→Act→World→Prop) (μ : α→Nat)
 (h:∀ x a w,I x a w→c.wpIn F N P (Exit.then (fun a' w'=>∃ y,μ y < μ x∧I y a' w') Q) a w) (x : α) (a:Act) (w:World) (hi:I x a w):(Code.loop c).wpIn F N P Q a w:=by
 refine xg fun X hX=>?_
 have key:∀ n x a w,μ x=n→I x a w→X a w:=by
  intro n
  induction n using Nat.strongRecOn with
  |_ n ih=>
   intro x a w hn hi
   refine hX a w (wpIn_mono (h x a w hi) ?_)
   intro ex a' w' hq
   cases ex with
   |normal=>
    obtain ⟨y,h1,h2⟩:=hq
    exact ih (μ y) (by omega) y a' w' rfl h2
   |exit id=>exact hq
   |goto l=>exact hq
   |ret=>exact hq
   |panic ch=>exact hq
   |outgrown=>exact hq
 exact key _ x a w rfl hi
theorem u4 {P:Program} [KP P] {f:Nat} {fn:Func} {body:Code} (hf:P.funcs[f]? = some fn) (hb:fn.body=some body) (he:n5 P f=true)
 {args:List AV} (hl:args.length≤fn.ntmps) {ρ:Type} (R:RC ρ) (fr:Bool) (x : ρ)
 (h:∀ (B:da) (g:Gh) (a:Act) (w:World),B.fq→B.aj=0→(∀ b,¬ B.O b)→B.n0≤B.w.heap.size→du B fn.ntmps (de 0 args) (aw []) g a w→body.wpIn (fk none) 0 P (Fin B fn.ntmps (dp P fn.results.toList (fun r st=>R.get fr st.h r=some x))) a w):bw P f args (R.E fr x):=by
 intro K w vs hK hrel
 refine .inr ⟨tm he _ _,u5 (ro:=none) (n:=0) (callsIn_of_wp_marks hf hb trivial ?_)⟩
 let B:da:={ b0:=w.heap.size,w,K,O:=fun _=>False,aj:=0,pb:=fun _=>none,n0:=w.heap.size }
 have hcur:jh B (gK w.heap.size K) (aw []) w:=by
  refine ⟨⟨Nat.le_refl _,fun o x hx=>?_,fun o o' x x' b base base' _ hx=>?_,hK⟩,fun o _ _=>rfl,⟨rfl,(fun o ho=>(by rcases ho with ho|ho;cases ho;exact ho.elim)),fun _ _ h=>h,fun _ _ _=>rfl,Nat.le_refl _,rfl,rfl,rfl,fun _ _ _=>rfl,fun o b base ho=>?_,fun _ _ h=>.inl h,fun b cs e fr h=>⟨cs,fr,h,rfl⟩,fun b l h=>⟨l,h⟩,fun _ _ _ _ _ _=>rfl⟩,Nat.zero_le _⟩
  ·simp [aw,lz,Tr.get_nil] at hx
  ·simp [aw,lz,Tr.get_nil] at hx
  ·simp [aw,lz,Tr.get_nil] at ho
 refine wpIn_mono (h B (gK w.heap.size K) _ w (fun _ h=>h) rfl (fun _ h=>h) (Nat.le_refl _) ⟨hcur,Av hrel hl,Marks.nil _ _ _ _⟩) ?_
 rintro ex a w' ⟨e,L,st,g,rfl,hq,hc,hr,hd⟩
 have fin:C7 (qj P L st fn.results.toList) (fun r st=>R.get fr st.h r=some x) st→bodyPostM (fk none) 0 P fn (fun e w'=>∃ v,e = .returned v∧xf w w'∧Rel (gK w.heap.size (Hf K w w')) w' (R.E fr x) v) .ret a w':=by
  intro hq
  show LeavesInM (fk none) 0 P fn a.tmps _ a.defers .returning w'
  unfold C7 at hq
  cases hres:qj P L st fn.results.toList with
  |none=>rw [hres] at hq;exact hq.elim
  |some l=>
   rw [hres] at hq
   have hbs:=hc.base
   obtain ⟨bs,e1,e2,e3⟩:=hd
   have e1:=e1.trans (List.append_nil _)
   rw [e1]
   refine C5 (Good:=fun u=>Ok g st.h u∧xf w u∧(∀ a v,Rel g w' a v→Rel g u a v)∧u.heap.size=w'.heap.size) (S:=fun b=>w.heap.size≤b∧ff g st.h b) ?_ ?_ bs w'
    ⟨hc.ok,⟨hbs.size,fun b hlt=>hbs.frame b hlt (fun h=>h),hbs.os,hbs.tape,hbs.output⟩,fun _ _ h=>h,rfl⟩ e2 (fun b hb=>⟨⟨(e3 b hb).1,(e3 b hb).2.2⟩,(e3 b hb).2.1⟩)
   ·rintro u b ⟨g1,g2,g3,g4⟩ ⟨hb1,hb2⟩ hb3
    have hput:=Ok.C0 (ds':=none) g1 hb3 hb2
    exact ⟨hput.1,⟨by rw [ly];exact g2.size,fun c hc=>(ef u _ (by omega)).trans (g2.heap c hc),g2.os,g2.tape,g2.output⟩,fun a v h=>hput.2 a v (g3 a v h),by rw [ly];exact g4⟩
   ·rintro u ⟨g1,g2,g3,g4⟩
    obtain ⟨us,h1,h2⟩:=O6 (P:=P) g1 ⟨hr.1,fun t=>g3 _ _ (hr.2 t)⟩ fn.results.toList l hres
    obtain ⟨v,h3,h4⟩:=Pr h1 h2
    refine ⟨v,h3,v,rfl,g2,?_⟩
    refine R.ok g1 ⟨fun b j hk=>?_,fun o cells k s e ho b base hi j hj=>?_⟩ (fun _=>?_) h4 hq
    ·rcases hbs.kn b j hk with h5|h5|h5
     ·exact .inl h5
     ·exact .inr ⟨h5,g1.K b j hk⟩
     ·exact h5.elim
    ·obtain ⟨b',base',h5,_,h6⟩:=g1.obj o _ ho
     rw [hi] at h5;cases h5
     rcases hbs.own o b base (by rw [ho];rfl) hi with h7|h7
     ·exact .inr ⟨h7,h6.lt⟩
     ·exact h7.elim
    ·rw [hbs.b0];exact Nat.le_refl _
 cases e with
 |normal=>exact fin hq
 |ret=>exact fin hq
 |exit id=>exact hq.elim
theorem eu.vp {B g st w cs et n sz v b o x y} {st':St} (hlim:o≤bt) (ho:st.h.get o=some x) (hs:st' = { st with h:=Tr.set depth st.h o (some y) }) (h:eu B g st w cs et n sz v b):eu B g st' w cs et n sz v b:=by
 subst hs;exact h.zp hlim ho
theorem mo (os:List (Option au)) (o:Nat) (h:os.length≤bt):(aw os).h.get o=(os[o]?).join:=by
 show (lz 0 os).get o=_
 rw [oy _ _ _ (by omega),if_pos (Nat.zero_le _),Nat.sub_zero]
theorem yk {g w} {vs:List Value} {X Y:List AV} {a a':AV} (h:bb g w (X++a::Y) vs) (hv:∀ v,vs[X.length]? = some v→Rel g w a' v):bb g w (X++a'::Y) vs:=by
 refine ⟨by rw [h.1];simp,fun j x v hx hjv=>?_⟩
 by_cases e:j=X.length
 ·subst e
  rw [List.getElem?_append_right (Nat.le_refl _),Nat.sub_self] at hx
  cases hx
  exact hv v hjv
 ·refine h.2 j x v ?_ hjv
  rw [← hx]
  rcases Nat.lt_or_gt_of_ne e with q|q
  ·rw [List.getElem?_append_left q,List.getElem?_append_left q]
  ·rw [List.getElem?_append_right (by omega),List.getElem?_append_right (by omega)]
   obtain ⟨k,hk⟩:∃ k,j - X.length=k+1:=⟨j - X.length - 1,by omega⟩
   rw [hk];rfl
theorem ar3 {B:da} {nt L g a w} {M:au} {X Y:List AV} {cells:List AV} {et ey:TypeId} {n sz m z t0:Nat} (hnf:B.fq) (hO:∀ b,¬ B.O b) (hp:B.aj=0) (hn : 0<n) (hcl:fw cells) (hsl:lk L t0 = .sl 1 0 m z) (hm : 0<m) (hM:M.bk (l6 2)=some M)
 (hX:X.map (AV.bk (l6 2))=X) (hY:Y.map (AV.bk (l6 2))=Y) (hL:∀ t,(lk L t).bk (l6 2)=lk L t)
 (hh:du B nt L (aw [some M,some (.row (X++AV.sl 2 0 n sz::Y) 0 0 et),some (.row cells 0 0 ey)]) g a w) :
 ∃ v b g',du B nt L (aw [some M,some (.row (X++AV.sc v::Y) 0 0 et)]) g' a w∧eu B g' (aw [some M,some (.row (X++AV.sc v::Y) 0 0 et)]) w cells ey n sz v b ∧
  ∀ cs e2 n2 sz2 v2 b2,fw cs→eu B g (aw [some M,some (.row (X++AV.sl 2 0 n sz::Y) 0 0 et),some (.row cells 0 0 ey)]) w cs e2 n2 sz2 v2 b2→b2≠b∧eu B g' (aw [some M,some (.row (X++AV.sc v::Y) 0 0 et)]) w cs e2 n2 sz2 v2 b2:=by
 have hlen:∀ x y z:Option au,[x,y,z].length≤bt:=fun x y z=>by simp [bt]
 obtain ⟨st,hst⟩:∃ st,st=aw [some M,some (.row (X++AV.sl 2 0 n sz::Y) 0 0 et),some (.row cells 0 0 ey)]:=⟨_,rfl⟩
 have g1:st.h.get 1=some (.row (X++AV.sl 2 0 n sz::Y) 0 0 et):=by rw [hst,mo _ _ (hlen _ _ _)];rfl
 have g2:st.h.get 2=some (.row cells 0 0 ey):=by rw [hst,mo _ _ (hlen _ _ _)];rfl
 have gx:∀ o,st.h.get o=if o=0 then some M else if o=1 then some (.row (X++AV.sl 2 0 n sz::Y) 0 0 et) else if o=2 then some (.row cells 0 0 ey) else none:=fun o=>by
  rw [hst,mo _ _ (hlen _ _ _)]
  match o with
  |0=>rfl
  |1=>rfl
  |2=>rfl
  |o+3=>simp
 have hnx:st.nx=3:=by rw [hst];rfl
 rw [← hst] at hh ⊢
 have hi:∃ p,g.inj 1=some p:=by
  have:=hh.sl.2 t0
  rw [hsl] at this
  generalize a.tmps.getD t0 undef=u at this
  cases this with
  |sl _ _ _ _ b base cap hi=>exact ⟨_,hi⟩
  |nq=>omega
  |n9=>omega
 have l1 : 1≤bt:=by simp [bt]
 have l2 : 2≤bt:=by simp [bt]
 obtain ⟨kl,hv1,hv2⟩:=hh.kl g1 hi
 have hxl:X.length<kl.length:=by rw [hv2.1];simp
 obtain ⟨v,hv⟩:∃ v,kl[X.length]? = some v:=⟨_,List.getElem?_eq_getElem hxl⟩
 have hrv:Rel g w (.sl 2 0 n sz) v:=hv2.2 X.length _ v (by rw [List.getElem?_append_right (Nat.le_refl _),Nat.sub_self];rfl) hv
 have hv3:bb g w (X++AV.sc v::Y) kl:=yk hv2 (fun u hu=>by rw [hv] at hu;cases hu;exact .sc _)
 have H1:=hh.zp l1 g1 hv1 hv2 hv3
 obtain ⟨dj,hst1⟩:∃ dj,dj = { st with h:=Tr.set depth st.h 1 (some (au.row (X++AV.sc v::Y) 0 0 et)) }:=⟨_,rfl⟩
 rw [← hst1] at H1
 have gx1:∀ o,dj.h.get o=if o=1 then some (.row (X++AV.sc v::Y) 0 0 et) else st.h.get o:=fun o=>by rw [hst1];exact ec _ _ _ _ l1
 have g21:dj.h.get 2=some (.row cells 0 0 ey):=by rw [gx1,if_neg (by omega),g2]
 obtain ⟨b,H2,O2,H2o⟩:=H1.release hO l2 g21 hn hrv
 have gx2:∀ o,(dj.less 2).h.get o=if o=2 then none else dj.h.get o:=fun o=>ec _ _ _ _ l2
 have gx3:∀ o,(dj.less 2).h.get o=(aw [some M,some (.row (X++AV.sc v::Y) 0 0 et)]).h.get o:=fun o=>by
  rw [gx2,gx1,gx,mo _ _ (by simp [bt])]
  match o with
  |0=>rfl
  |1=>rfl
  |2=>rfl
  |o+3=>simp
 have hnx1:(dj.less 2).nx=3:=by rw [show (dj.less 2).nx=dj.nx from rfl,hst1];exact hnx
 obtain ⟨H3,H3o⟩:=H2.cut (m:=2) hnf (by rw [hnx1];omega) (by omega) hL (fun o x hx=>by
  rw [gx3,mo _ _ (by simp [bt])] at hx
  match o with
  |0=>
   have:some M=some x:=hx
   cases this
   exact ⟨by omega,hM⟩
  |1=>
   have:some (au.row (X++AV.sc v::Y) 0 0 et)=some x:=hx
   cases this
   refine ⟨by omega,?_⟩
   simp only [au.bk,ia,List.map_append,List.map_cons,hX,hY]
   rfl
  |o+2=>simp at hx)
 have H4:=H3.congr (st':=aw [some M,some (.row (X++AV.sc v::Y) 0 0 et)]) rfl (fun o=>(gx3 o).symm)
 have own4:∀ {cs e2 n2 sz2 v2 b2},fw cs→eu B g (dj.less 2) w cs e2 n2 sz2 v2 b2→eu B (g.bk (dg 0 2)) (aw [some M,some (.row (X++AV.sc v::Y) 0 0 et)]) w cs e2 n2 sz2 v2 b2:=fun hc ho=>by
  have h1:=ho.move (g':=g.bk (dg 0 2)) (st':=dj.less 2) hc rfl (fun _ _ h=>h) (fun _ h=>h) (H3o _ ho.un)
  exact h1.congr (fun o=>(gx3 o).symm)
 refine ⟨v,b,_,H4,?_,fun cs e2 n2 sz2 v2 b2 hc ho=>?_⟩
 ·exact own4 hcl O2
 ·have hu:=(H2o b2 (ho.vp l1 g1 hst1).un)
  have ho1:eu B g (dj.less 2) w cs e2 n2 sz2 v2 b2:=(ho.vp l1 g1 hst1).move hc rfl (fun _ _ h=>h) (fun _ h=>h) hu.2
  exact ⟨hu.1,own4 hc ho1⟩
theorem aqc {B:da} {nt L g a w} {M:au} {X Y:List AV} {cells:List AV} {et ey:TypeId} {n sz m z t0:Nat} {v:Value} {b:Nat} (hnf:B.fq) (hsl:lk L t0 = .sl 1 0 m z) (hm : 0<m)
 (hh:du B nt L (aw [some M,some (.row (X++AV.sc v::Y) 0 0 et)]) g a w) (ho:eu B g (aw [some M,some (.row (X++AV.sc v::Y) 0 0 et)]) w cells ey n sz v b) :
 ∃ g',du B nt L (aw [some M,some (.row (X++AV.sl 2 0 n sz::Y) 0 0 et),some (.row cells 0 0 ey)]) g' a w ∧
  ∀ cs e2 n2 sz2 v2 b2,fw cs→b2≠b→eu B g (aw [some M,some (.row (X++AV.sc v::Y) 0 0 et)]) w cs e2 n2 sz2 v2 b2→eu B g' (aw [some M,some (.row (X++AV.sl 2 0 n sz::Y) 0 0 et),some (.row cells 0 0 ey)]) w cs e2 n2 sz2 v2 b2:=by
 obtain ⟨st,hst⟩:∃ st,st=aw [some M,some (.row (X++AV.sc v::Y) 0 0 et)]:=⟨_,rfl⟩
 have gx:∀ o,st.h.get o=if o=0 then some M else if o=1 then some (.row (X++AV.sc v::Y) 0 0 et) else none:=fun o=>by
  rw [hst,mo _ _ (by simp [bt])]
  match o with
  |0=>rfl
  |1=>rfl
  |o+2=>simp
 have hnx:st.nx=2:=by rw [hst];rfl
 have l1 : 1≤bt:=by simp [bt]
 have l2 : 2≤bt:=by simp [bt]
 rw [← hst] at hh ho ⊢
 obtain ⟨g',H1,hr,hx,hK,hu,hinj⟩:=hh.focus hnf (by rw [hnx];exact l2) ho
 have hi:∃ p,g'.inj 1=some p:=by
  have:=H1.sl.2 t0
  rw [hsl] at this
  generalize a.tmps.getD t0 undef=u at this
  cases this with
  |sl _ _ _ _ b base cap hi=>exact ⟨_,hi⟩
  |nq=>omega
  |n9=>omega
 obtain ⟨dj,hst1⟩:∃ dj,dj=st.more (.row cells 0 0 ey):=⟨_,rfl⟩
 rw [← hst1] at H1 hu
 rw [hnx] at hr
 have gx1:∀ o,dj.h.get o=if o=2 then some (.row cells 0 0 ey) else st.h.get o:=fun o=>by
  rw [hst1]
  show (Tr.set depth st.h st.nx _).get o=_
  rw [hnx];exact ec _ _ _ _ l2
 have g1:dj.h.get 1=some (.row (X++AV.sc v::Y) 0 0 et):=by rw [gx1,gx];rfl
 obtain ⟨kl,hv1,hv2⟩:=H1.kl g1 hi
 have hv3:bb g' w (X++AV.sl 2 0 n sz::Y) kl:=yk hv2 (fun u hu=>by
  have:=hv2.2 X.length _ u (by rw [List.getElem?_append_right (Nat.le_refl _),Nat.sub_self];rfl) hu
  have:=this.exact (x:=v) rfl
  subst this;exact hr)
 have H2:=H1.zp l1 g1 hv1 hv2 hv3
 obtain ⟨st2,hst2⟩:∃ st2,st2 = { dj with h:=Tr.set depth dj.h 1 (some (au.row (X++AV.sl 2 0 n sz::Y) 0 0 et)) }:=⟨_,rfl⟩
 rw [← hst2] at H2
 have gx2:∀ o,(aw [some M,some (.row (X++AV.sl 2 0 n sz::Y) 0 0 et),some (.row cells 0 0 ey)]).h.get o=st2.h.get o:=fun o=>by
  have:st2.h.get o=if o=1 then some (.row (X++AV.sl 2 0 n sz::Y) 0 0 et) else dj.h.get o:=by rw [hst2];exact ec _ _ _ _ l1
  rw [this,gx1,gx,mo _ _ (by simp [bt])]
  match o with
  |0=>rfl
  |1=>rfl
  |2=>rfl
  |o+3=>simp
 have hnx2:st2.nx=3:=by
  rw [hst2];show dj.nx=3
  rw [hst1];show st.nx+1=3
  rw [hnx]
 refine ⟨g',H2.congr hnx2.symm gx2,fun cs e2 n2 sz2 v2 b2 hc hne h2=>?_⟩
 have q1:=h2.move (g':=g') (st':=dj) hc hx.b0 hx.K (fun j hj=>hK _ j hj) (hu b2 h2.un hne)
 exact (q1.vp l1 g1 hst2).congr gx2
theorem ara {B:da} {nt L g a w} {M:au} {X Y es:List AV} {et ey:TypeId} {n sz m z t0:Nat} {v:Value} {b:Nat} (hts:TK.sz ey=some sz) (hz1:sz≠1) (hsl:lk L t0 = .sl 1 0 m z) (hm : 0<m) (hcl:fw (es.flatMap AV.cells)) (hsz:∀ e ∈ es,e.cells.length=sz) (hn:es.length=n)
 (hh:du B nt L (aw [some M,some (.row (X++AV.sc v::Y) 0 0 et)]) g a w) (ho:eu B g (aw [some M,some (.row (X++AV.sc v::Y) 0 0 et)]) w (es.flatMap AV.cells) ey n sz v b) :
 ∃ g',du B nt L (aw [some M,some (.row (X++AV.vl true sz es::Y) 0 0 et)]) g' a w ∧
  ∀ cs e2 n2 sz2 v2 b2,fw cs→b2≠b→eu B g (aw [some M,some (.row (X++AV.sc v::Y) 0 0 et)]) w cs e2 n2 sz2 v2 b2→eu B g' (aw [some M,some (.row (X++AV.vl true sz es::Y) 0 0 et)]) w cs e2 n2 sz2 v2 b2:=by
 obtain ⟨st,hst⟩:∃ st,st=aw [some M,some (.row (X++AV.sc v::Y) 0 0 et)]:=⟨_,rfl⟩
 have gx:∀ o,st.h.get o=if o=0 then some M else if o=1 then some (.row (X++AV.sc v::Y) 0 0 et) else none:=fun o=>by
  rw [hst,mo _ _ (by simp [bt])]
  match o with
  |0=>rfl
  |1=>rfl
  |o+2=>simp
 have hnx:st.nx=2:=by rw [hst];rfl
 have l1 : 1≤bt:=by simp [bt]
 rw [← hst] at hh ho ⊢
 obtain ⟨g',H1,hr,hx,hinj,hK⟩:=hh.freeze hts hz1 hcl hsz hn ho
 have hi:∃ p,g'.inj 1=some p:=by
  have:=H1.sl.2 t0
  rw [hsl] at this
  generalize a.tmps.getD t0 undef=u at this
  cases this with
  |sl _ _ _ _ b base cap hi=>exact ⟨_,hi⟩
  |nq=>omega
  |n9=>omega
 have g1:st.h.get 1=some (.row (X++AV.sc v::Y) 0 0 et):=by rw [gx];rfl
 obtain ⟨kl,hv1,hv2⟩:=H1.kl g1 hi
 have hv3:bb g' w (X++AV.vl true sz es::Y) kl:=yk hv2 (fun u hu=>by
  have:=hv2.2 X.length _ u (by rw [List.getElem?_append_right (Nat.le_refl _),Nat.sub_self];rfl) hu
  have:=this.exact (x:=v) rfl
  subst this;exact hr)
 have H2:=H1.zp l1 g1 hv1 hv2 hv3
 obtain ⟨st2,hst2⟩:∃ st2,st2 = { st with h:=Tr.set depth st.h 1 (some (au.row (X++AV.vl true sz es::Y) 0 0 et)) }:=⟨_,rfl⟩
 rw [← hst2] at H2
 have gx2:∀ o,(aw [some M,some (.row (X++AV.vl true sz es::Y) 0 0 et)]).h.get o=st2.h.get o:=fun o=>by
  have:st2.h.get o=if o=1 then some (.row (X++AV.vl true sz es::Y) 0 0 et) else st.h.get o:=by rw [hst2];exact ec _ _ _ _ l1
  rw [this,gx,mo _ _ (by simp [bt])]
  match o with
  |0=>rfl
  |1=>rfl
  |o+2=>simp
 have hnx2:st2.nx=2:=by rw [hst2];exact hnx
 refine ⟨g',H2.congr hnx2.symm gx2,fun cs e2 n2 sz2 v2 b2 hc hne h2=>?_⟩
 have q1:=h2.move (g':=g') (st':=st) hc hx.b0 hx.K (fun j hj=>hK _ j hne hj) (fun o base h3 h4=>h2.un o base h3 (by rw [← hinj];exact h4))
 exact (q1.vp l1 g1 hst2).congr gx2
def nb (S:Nat→Prop) (M:Nat) (w:World) (k:LK) (v:Value):Prop:=
 (∃ a,v = .slice a 0 0)∨∃ (b off n cap:Nat) (cs:Array Value) (e:TypeId),v = .slice (some ⟨b,off,none⟩) n cap∧S b∧(n≤cap∧cap≤maxLen)∧w.heap[b]? = some (.cells cs e (0,0))∧TK.sz e=some 1∧off+cap≤cs.size ∧
  ∀ (j:Nat) x,j<cap→cs[off+j]? = some x→mf x=k∧∀ s,x = .string s→s.size≤M
def mb (S:Nat→Prop) (N:Nat) (w:World) (sz:Nat) (E:World→List Value→Prop) (v:Value):Prop:=
 (∃ a,v = .slice a 0 0)∨∃ (b off n cap:Nat) (cs:Array Value) (e:TypeId),v = .slice (some ⟨b,off,none⟩) n cap∧n≤N∧S b∧(n≤cap∧cap≤maxLen)∧w.heap[b]? = some (.cells cs e (0,0))∧TK.sz e=some sz∧off % sz=0∧off+cap * sz≤cs.size ∧
  ∀ j,j<n→E w ((List.range sz).map fun i=>cs.getD (off+j * sz+i) undef)
theorem nb.slice {S M w k v} (h:nb S M w k v):mf v = .no:=by
 rcases h with ⟨a,rfl⟩|⟨b,off,n,cap,cs,e,rfl,_⟩<;>rfl
theorem mb.slice {S N w sz E v} (h:mb S N w sz E v):mf v = .no:=by
 rcases h with ⟨a,rfl⟩|⟨b,off,n,cap,cs,e,rfl,_⟩<;>rfl
def Kept (S:Nat→Prop) (m:Nat) (xx:Bool) (w':World) (e:TypeId) (j:Nat) (x x':Value):Prop:=
 x'=x∨(mf x ≠ .no∧mf x'=mf x∧∀ s',x' = .string s'→∃ s,x = .string s∧s'.size≤s.size+m)∨((xx=true∧TK.sz e=some 4)∧((j % 4≠2∧x' = .slice none 0 0)∨(j % 4=2∧nb S (4+m) w' .str x')))
structure i6 (S:Nat→Prop) (m:Nat) (xx:Bool) (w w':World):Prop where
 size:w.heap.size≤w'.heap.size
 os:w'.os=w.os
 tape:w'.tape=w.tape
 output:w'.output=w.output
 low:∀ b,b<w.heap.size→¬ S b→w'.heap[b]? = w.heap[b]?
 obj:∀ (b:Nat) o,w.heap[b]? = some o→(∀ cs e fr,o ≠ .cells cs e fr)→w'.heap[b]? = some o
 cells:∀ (b:Nat) (cs:Array Value) (e:TypeId) (fr:Nat × Nat),w.heap[b]? = some (.cells cs e fr)→∃ cs',w'.heap[b]? = some (.cells cs' e fr)∧cs'.size=cs.size ∧
  ∀ (j:Nat) x x',cs[j]? = some x→cs'[j]? = some x'→Kept S m xx w' e j x x'
theorem i6.refl (S:Nat→Prop) (m:Nat) (xx:Bool) (w:World):i6 S m xx w w where
 size:=Nat.le_refl _
 os:=rfl
 tape:=rfl
 output:=rfl
 low _ _ _:=rfl
 obj _ _ h _:=h
 cells _ cs _ _ h:=⟨cs,h,rfl,fun j x x' h1 h2=>.inl (by rw [h1] at h2;cases h2;rfl)⟩
theorem i6.quiet (S:Nat→Prop) (m:Nat) (xx:Bool) {w w':World} (hs:w.heap.size≤w'.heap.size) (ho:w'.os=w.os) (ht:w'.tape=w.tape) (hu:w'.output=w.output) (hh:∀ b,b<w.heap.size→w'.heap[b]? = w.heap[b]?):i6 S m xx w w' where
 size:=hs
 os:=ho
 tape:=ht
 output:=hu
 low b hb _:=hh b hb
 obj b o h _:=(hh b (bf h)).trans h
 cells b cs e fr h:=⟨cs,(hh b (bf h)).trans h,rfl,fun j x x' h1 h2=>.inl (by rw [h1] at h2;cases h2;rfl)⟩
theorem nb.mono {S M M' w k v} (h:nb S M w k v) (hM:M≤M'):nb S M' w k v:=by
 rcases h with h|⟨b,off,n,cap,cs,e,h0,h1,h2,h3,h4,h5,h6⟩
 ·exact .inl h
 ·exact .inr ⟨b,off,n,cap,cs,e,h0,h1,h2,h3,h4,h5,fun j x hj hx=>⟨(h6 j x hj hx).1,fun s hs=>Nat.le_trans ((h6 j x hj hx).2 s hs) hM⟩⟩
theorem nb.tj {S m M xx w w' k v} (hk:k ≠ .no) (h:i6 S m xx w w') (hl:nb S M w k v):nb S (M+m) w' k v:=by
 rcases hl with hl|⟨b,off,n,cap,cs,e,rfl,h1,h2,h3,h4,h5,h6⟩
 ·exact .inl hl
 ·obtain ⟨cs',q1,q2,q3⟩:=h.cells b cs e _ h3
  refine .inr ⟨b,off,n,cap,cs',e,rfl,h1,h2,q1,h4,by omega,fun j x' hj hx'=>?_⟩
  have hlt:off+j<cs.size:=by omega
  have hx:=Array.getElem?_eq_getElem hlt
  obtain ⟨hk',hm'⟩:=h6 j _ hj hx
  rcases q3 _ _ _ hx hx' with q|⟨_,q,qs⟩|⟨q,_⟩
  ·rw [q];exact ⟨hk',fun s hs=>by have:=hm' s hs;omega⟩
  ·refine ⟨by rw [q];exact hk',fun s hs=>?_⟩
   obtain ⟨s0,e1,e2⟩:=qs s hs
   have:=hm' s0 e1;omega
  ·have:=q.2;rw [h4] at this;cases this
theorem Kept.mono {S:Nat→Prop} {m m':Nat} {xx:Bool} {w:World} {e:TypeId} {j:Nat} {x y:Value} (hm:m≤m') (h:Kept S m xx w e j x y):Kept S m' xx w e j x y:=by
 rcases h with h|⟨h1,h2,h3⟩|⟨h1,h2⟩
 ·exact .inl h
 ·exact .inr (.inl ⟨h1,h2,fun s' hs=>by obtain ⟨s,e1,e2⟩:=h3 s' hs;exact ⟨s,e1,by omega⟩⟩)
 ·exact .inr (.inr ⟨h1,h2.imp id (fun q=>⟨q.1,q.2.mono (by omega)⟩)⟩)
theorem Kept.any {S:Nat→Prop} {m:Nat} {xx:Bool} {w:World} {e:TypeId} {j:Nat} {x y:Value} (h:Kept S m false w e j x y):Kept S m xx w e j x y:=by
 rcases h with h|h|⟨⟨h,_⟩,_⟩
 ·exact .inl h
 ·exact .inr (.inl h)
 ·cases h
theorem i6.mono {S m m' xx w w'} (hm:m≤m') (h:i6 S m xx w w'):i6 S m' xx w w':=
 ⟨h.size,h.os,h.tape,h.output,h.low,h.obj,fun b cs e fr hb=>by
  obtain ⟨cs',q1,q2,q3⟩:=h.cells b cs e fr hb
  exact ⟨cs',q1,q2,fun j x x' hx hx'=>(q3 j x x' hx hx').mono hm⟩⟩
theorem i6.any {S m xx w w'} (h:i6 S m false w w'):i6 S m xx w w':=
 ⟨h.size,h.os,h.tape,h.output,h.low,h.obj,fun b cs e fr hb=>by
  obtain ⟨cs',q1,q2,q3⟩:=h.cells b cs e fr hb
  exact ⟨cs',q1,q2,fun j x x' hx hx'=>(q3 j x x' hx hx').any⟩⟩
theorem Kept.trans {S:Nat→Prop} {m1 m2:Nat} {xx:Bool} {w1 w2:World} {e:TypeId} {j:Nat} {x y z:Value} (h1:Kept S m1 xx w1 e j x y) (ho:i6 S m2 xx w1 w2) (h2:Kept S m2 xx w2 e j y z):Kept S (m1+m2) xx w2 e j x z:=by
 rcases h1 with rfl|⟨a1,a2,a3⟩|⟨a1,a2⟩
 ·exact h2.mono (by omega)
 ·rcases h2 with rfl|⟨b1,b2,b3⟩|b
  ·exact .inr (.inl ⟨a1,a2,fun s' hs=>by obtain ⟨s,e1,e2⟩:=a3 s' hs;exact ⟨s,e1,by omega⟩⟩)
  ·refine .inr (.inl ⟨a1,b2.trans a2,fun s' hs=>?_⟩)
   obtain ⟨s1,e1,e2⟩:=b3 s' hs
   obtain ⟨s,e3,e4⟩:=a3 s1 e1
   exact ⟨s,e3,by omega⟩
  ·exact .inr (.inr ⟨b.1,b.2.imp id (fun q=>⟨q.1,q.2.mono (by omega)⟩)⟩)
 ·rcases h2 with rfl|⟨b1,b2,b3⟩|b
  ·refine .inr (.inr ⟨a1,a2.imp id (fun q=>⟨q.1,(q.2.tj (by decide) ho).mono (by omega)⟩)⟩)
  ·rcases a2 with ⟨_,rfl⟩|⟨_,q⟩
   ·exact absurd rfl b1
   ·exact absurd q.slice b1
  ·exact .inr (.inr ⟨b.1,b.2.imp id (fun q=>⟨q.1,q.2.mono (by omega)⟩)⟩)
theorem i6.trans {S m1 m2 xx w1 w2 w3} (h1:i6 S m1 xx w1 w2) (h2:i6 S m2 xx w2 w3):i6 S (m1+m2) xx w1 w3 where
 size:=Nat.le_trans h1.size h2.size
 os:=h2.os.trans h1.os
 tape:=h2.tape.trans h1.tape
 output:=h2.output.trans h1.output
 low b hb hS:=(h2.low b (Nat.lt_of_lt_of_le hb h1.size) hS).trans (h1.low b hb hS)
 obj b o h hn:=h2.obj b o (h1.obj b o h hn) hn
 cells b cs e fr h:=by
  obtain ⟨cs1,a1,a2,a3⟩:=h1.cells b cs e fr h
  obtain ⟨cs2,b1,b2,b3⟩:=h2.cells b cs1 e fr a1
  refine ⟨cs2,b1,b2.trans a2,fun j x z hx hz=>?_⟩
  have hlt:j<cs1.size:=by rw [a2];exact (Array.getElem?_eq_some_iff.1 hx).1
  have hy:=Array.getElem?_eq_getElem hlt
  exact (a3 j x _ hx hy).trans h2 (b3 j _ z hy hz)
def Tp (S:Nat→Prop) (sz:Nat) (E:Nat→World→List Value→Prop):Prop:=
 ∀ {m M:Nat} {xx:Bool} {w w':World} {e:TypeId} {j0:Nat} {l l':List Value},4≤M→i6 S m xx w w'→TK.sz e=some sz→j0 % sz=0→l.length=sz→l'.length=sz→(∀ (i:Nat) x x',l[i]? = some x→l'[i]? = some x'→Kept S m xx w' e (j0+i) x x')→E M w l→E (M+m) w' l'
theorem mb.tj {S N m M xx w w' sz E v} (hE:Tp S sz E) (hM : 4≤M) (h:i6 S m xx w w') (hl:mb S N w sz (E M) v):mb S N w' sz (E (M+m)) v:=by
 rcases hl with hl|⟨b,off,n,cap,cs,e,rfl,h0,h1,h2,h3,h4,h5,h6,h7⟩
 ·exact .inl hl
 ·obtain ⟨cs',q1,q2,q3⟩:=h.cells b cs e _ h3
  refine .inr ⟨b,off,n,cap,cs',e,rfl,h0,h1,h2,q1,h4,h5,by omega,fun j hj=>?_⟩
  have hle:(j+1) * sz≤cap * sz:=Nat.mul_le_mul_right _ (by omega)
  rw [Nat.succ_mul] at hle
  refine hE (j0:=off+j * sz) hM h h4 (by rw [Nat.add_mul_mod_self_right];exact h5) (by simp) (by simp) (fun i x x' hx hx'=>?_) (h7 j hj)
  rw [List.getElem?_map,Option.map_eq_some_iff] at hx hx'
  obtain ⟨i1,e1,rfl⟩:=hx
  obtain ⟨i2,e2,rfl⟩:=hx'
  obtain ⟨hi,rfl⟩:=List.getElem?_eq_some_iff.1 e1
  obtain ⟨_,rfl⟩:=List.getElem?_eq_some_iff.1 e2
  simp only [List.length_range] at hi
  simp only [List.getElem_range]
  have hlt:off+j * sz+i<cs.size:=by omega
  refine q3 _ _ _ ?_ ?_
  ·rw [Array.getD_eq_getD_getElem?,Array.getElem?_eq_getElem hlt];rfl
  ·rw [Array.getD_eq_getD_getElem?,Array.getElem?_eq_getElem (by omega)];rfl
def Tv (S:Nat→Prop) (M:Nat) (w:World) (l:List Value):Prop:=∃ v,l=[v]∧nb S M w .str v
def Ir (S:Nat→Prop) (Nn M:Nat) (w:World) (l:List Value):Prop:=∃ a b c d,l=[a,b,c,d]∧mb S Nn w 1 (Tv S M) a∧nb S M w (.int .u32) b∧nb S M w .str c∧nb S M w (.int .u8) d
def La (S:Nat→Prop) (Nn Nd M:Nat) (w:World) (l:List Value):Prop:=∃ o t c u d,l=[o,t,c,u,d]∧nb S M w .str o∧mf t = .int .u16∧mf c = .int .u16∧mf u = .int .u32∧mb S Nd w 4 (Ir S Nn M) d
theorem Kept.same {S m xx w' e j x x' sz} (h:Kept S m xx w' e j x x') (hs:TK.sz e=some sz) (hz:sz≠4) (hx:mf x = .no):x'=x:=by
 rcases h with h|⟨h,_⟩|⟨h,_⟩
 ·exact h
 ·exact absurd hx h
 ·have h:=h.2;rw [hs] at h;cases h;exact absurd rfl hz
theorem Kept.kind {S m xx w' e j x x' sz k} (h:Kept S m xx w' e j x x') (hs:TK.sz e=some sz) (hz:sz≠4) (hx:mf x=k):mf x'=k:=by
 rcases h with rfl|⟨_,h,_⟩|⟨h,_⟩
 ·exact hx
 ·rw [h];exact hx
 ·have h:=h.2;rw [hs] at h;cases h;exact absurd rfl hz
theorem Y8 (S:Nat→Prop):Tp S 1 (Tv S):=by
 rintro m M xx w w' e j0 l l' hM ho hs hj h1 h2 hk ⟨v,rfl,hv⟩
 match l',h2 with
 | [v'],_=>
  have:=(hk 0 v v' rfl rfl).same hs (by decide) hv.slice
  subst this
  exact ⟨_,rfl,hv.tj (by decide) ho⟩
theorem Re {S N m M xx w w' v} (hM : 4≤M) (h:i6 S m xx w w') (hl:mb S N w 1 (Tv S M) v):mb S N w' 1 (Tv S (M+m)) v:=hl.tj (Y8 S) hM h
theorem Yy (S:Nat→Prop) (Nn:Nat):Tp S 4 (Ir S Nn):=by
 rintro m M xx w w' e j0 l l' hM ho hs hj h1 h2 hk ⟨a,b,c,d,rfl,ha,hb,hc,hd⟩
 match l',h2 with
 | [a',b',c',d'],_=>
  refine ⟨a',b',c',d',rfl,?_,?_,?_,?_⟩
  ·rcases hk 0 a a' rfl rfl with rfl|⟨q,_⟩|⟨_,⟨_,rfl⟩|⟨q,_⟩⟩
   ·exact Re hM ho ha
   ·exact absurd ha.slice q
   ·exact .inl ⟨none,rfl⟩
   ·omega
  ·rcases hk 1 b b' rfl rfl with rfl|⟨q,_⟩|⟨_,⟨_,rfl⟩|⟨q,_⟩⟩
   ·exact hb.tj (by decide) ho
   ·exact absurd hb.slice q
   ·exact .inl ⟨none,rfl⟩
   ·omega
  ·rcases hk 2 c c' rfl rfl with rfl|⟨q,_⟩|⟨_,⟨q,rfl⟩|⟨_,q⟩⟩
   ·exact hc.tj (by decide) ho
   ·exact absurd hc.slice q
   ·exact .inl ⟨none,rfl⟩
   ·exact q.mono (by omega)
  ·rcases hk 3 d d' rfl rfl with rfl|⟨q,_⟩|⟨_,⟨_,rfl⟩|⟨q,_⟩⟩
   ·exact hd.tj (by decide) ho
   ·exact absurd hd.slice q
   ·exact .inl ⟨none,rfl⟩
   ·omega
theorem Hw {S N Nn m M xx w w' v} (hM : 4≤M) (h:i6 S m xx w w') (hl:mb S N w 4 (Ir S Nn M) v):mb S N w' 4 (Ir S Nn (M+m)) v:=hl.tj (Yy S Nn) hM h
theorem ade (S:Nat→Prop) (Nn Nd:Nat):Tp S 5 (La S Nn Nd):=by
 rintro m M xx w w' e j0 l l' hM ho hs hj h1 h2 hk ⟨o,t,c,u,d,rfl,hO,ht,hc,hu,hd⟩
 match l',h2 with
 | [o',t',c',u',d'],_=>
  have e1:=(hk 0 o o' rfl rfl).same hs (by decide) hO.slice
  have e2:=(hk 4 d d' rfl rfl).same hs (by decide) hd.slice
  subst e1 e2
  exact ⟨_,t',c',u',_,rfl,hO.tj (by decide) ho,(hk 1 t t' rfl rfl).kind hs (by decide) ht,(hk 2 c c' rfl rfl).kind hs (by decide) hc,(hk 3 u u' rfl rfl).kind hs (by decide) hu,Hw hM ho hd⟩
theorem Fa {S N Nn Nd m M xx w w' v} (hM : 4≤M) (h:i6 S m xx w w') (hl:mb S N w 5 (La S Nn Nd M) v):mb S N w' 5 (La S Nn Nd (M+m)) v:=hl.tj (ade S Nn Nd) hM h
theorem Pb {α:Type} (C:db α) (hz:C.sz=1) (ha:C.agg=false) {k:LK} (hk:C.kd=k) (hn:k ≠ .no) {M:Nat} {g:Gh} {w:World} {l:Bool} {xs:List α} {v:Value} (hM:∀ x ∈ xs,∀ c ∈ C.cells l x,∀ s,c = .sc (.string s)→s.size≤M) (hx:∀ x ∈ xs,∀ c ∈ C.cells l x,∃ u,c = .sc u) {S:Nat→Prop} (hS:∀ b,g.b0≤b→(∀ j,g.K b j)→S b) (hr:Rel g w (.vl true 1 (xs.map (C.val l))) v):nb S M w k v:=by
 generalize hes:xs.map (C.val l)=es at hr
 cases hr with
 |jy=>exact .inl ⟨none,rfl⟩
 |qb _ _ a=>exact .inl ⟨some a,rfl⟩
 |vl _ _ _ b off cap c hsz hl hcap h hrel hw=>
  obtain ⟨w1,⟨cs,e,w2,w3,w4,w5,w6⟩,w7,w8⟩:=hw rfl
  rcases Nat.eq_zero_or_pos es.length with h0|h0
  ·have:=w7 rfl h0
   subst this
   rw [h0];exact .inl ⟨_,rfl⟩
  ·refine .inr ⟨b,off,es.length,cap,cs,e,rfl,hS b (hl rfl) w1,⟨hcap,w8⟩,w2,w4,by omega,fun j x hj hxj=>?_⟩
   have hfl:es.flatMap AV.cells=xs.flatMap (C.cells l):=by rw [← hes,List.flatMap_map];congr 1;funext x;exact C.vj l x
   have hlen:(es.flatMap AV.cells).length=es.length * 1:=Df es hsz
   have h00:(es.flatMap AV.cells)[0]? = some ((es.flatMap AV.cells)[0]'(by omega)):=List.getElem?_eq_getElem _
   have hm:(es.flatMap AV.cells)[0]'(by omega) ∈ xs.flatMap (C.cells l):=by rw [← hfl];exact List.getElem_mem _
   obtain ⟨y,_,hy⟩:=List.mem_flatMap.1 hm
   have hc0:=C.Eh hz hy (hrel 0 _ h00)
   rcases w6 rfl j x hj hxj with q|⟨q,qt⟩
   ·rw [hc0,hk] at q;exact absurd q hn
   ·refine ⟨by rw [q,hc0,hk],fun s hs=>?_⟩
    by_cases hjn:j<es.length
    ·have hcj:(es.flatMap AV.cells)[j]? = some ((es.flatMap AV.cells)[j]'(by omega)):=List.getElem?_eq_getElem _
     have hmj:(es.flatMap AV.cells)[j]'(by omega) ∈ xs.flatMap (C.cells l):=by rw [← hfl];exact List.getElem_mem _
     obtain ⟨y2,hy2,hy3⟩:=List.mem_flatMap.1 hmj
     obtain ⟨u,hu⟩:=hx y2 hy2 _ hy3
     have hrj:=hrel j _ hcj
     rw [hu] at hrj
     have:=hrj.exact rfl
     have hcx:c j=x:=by
      have h9:=(h j _ hcj).2
      rw [iq w2,hxj] at h9
      exact (Option.some.inj h9).symm
     rw [hcx,hs] at this
     exact hM y2 hy2 _ hy3 s (by rw [hu,← this])
    ·have:=qt (by omega)
     rw [hs] at this
     have:s.size=0:=Nat.eq_of_beq_eq_true this
     omega
theorem P6 {α:Type} (C:db α) {N sz:Nat} (hz:C.sz=sz) {E:World→List Value→Prop} {g:Gh} {w:World} {l:Bool} {xs:List α} {v:Value} (hN:xs.length≤N) (hE:∀ x ∈ xs,∀ vs,bb g w (C.cells l x) vs→E w vs) {S:Nat→Prop} (hS:∀ b,g.b0≤b→(∀ j,g.K b j)→S b) (hr:Rel g w (.vl true sz (xs.map (C.val l))) v):mb S N w sz E v:=by
 generalize hes:xs.map (C.val l)=es at hr
 cases hr with
 |jy=>exact .inl ⟨none,rfl⟩
 |qb _ _ a=>exact .inl ⟨some a,rfl⟩
 |vl _ _ _ b off cap c hsz hl hcap h hrel hw=>
  obtain ⟨w1,⟨cs,e,w2,w3,w4,w5,w6⟩,w7,w8⟩:=hw rfl
  refine .inr ⟨b,off,es.length,cap,cs,e,rfl,by rw [← hes,List.length_map];exact hN,hS b (hl rfl) w1,⟨hcap,w8⟩,w2,w4,w5,w3,fun j hj=>?_⟩
  have hj':j<xs.length:=by rw [← hes,List.length_map] at hj;exact hj
  refine hE (xs[j]) (List.getElem_mem hj') _ ⟨by rw [C.len];simp [hz],fun i a u ha hu=>?_⟩
  rw [List.getElem?_map,Option.map_eq_some_iff] at hu
  obtain ⟨i1,e1,rfl⟩:=hu
  obtain ⟨hi,rfl⟩:=List.getElem?_eq_some_iff.1 e1
  simp only [List.length_range] at hi
  simp only [List.getElem_range]
  have hcell:(es.flatMap AV.cells)[j * sz+i]? = some a:=by
   have hfl:es.flatMap AV.cells=xs.flatMap (C.cells l):=by rw [← hes,List.flatMap_map];congr 1;funext x;exact C.vj l x
   have hd:∀ (ys:List α) (m:Nat),(ys.flatMap (C.cells l)).drop (m * C.sz)=(ys.drop m).flatMap (C.cells l):=by
    intro ys
    induction ys with
    |nil=>intro m;simp
    |cons y ys ih=>
     intro m
     cases m with
     |zero=>simp
     |succ m=>
      rw [show (m+1) * C.sz=(C.cells l y).length+m * C.sz from by rw [C.len,Nat.succ_mul];omega,← List.drop_drop,List.flatMap_cons,List.drop_left,ih,List.drop_succ_cons]
   have h1:=hd xs j
   rw [hz] at h1
   rw [hfl,← List.getElem?_drop,h1,List.drop_eq_getElem_cons hj',List.flatMap_cons,List.getElem?_append_left (by rw [C.len];omega)]
   exact ha
  have h1:=h (j * sz+i) a hcell
  have h2:=hrel (j * sz+i) a hcell
  have h3:cs.getD (off+j * sz+i) undef=c (j * sz+i):=by
   have:=h1.2
   rw [iq w2] at this
   rw [Nat.add_assoc,Array.getD_eq_getD_getElem?,this];rfl
  rw [h3];exact h2
end
end Go.Vm
namespace Go.Vm
variable [TK]
structure Lp (w:World) (b:Nat) (cs:Array Value) (e:TypeId) (off m k:Nat) (wr:World):Prop where
 size:wr.heap.size=w.heap.size
 os:wr.os=w.os
 tape:wr.tape=w.tape
 output:wr.output=w.output
 other:∀ c,c≠b→wr.heap[c]? = w.heap[c]?
 row:∃ cs',wr.heap[b]? = some (.cells cs' e (0,0))∧cs'.size=cs.size∧∀ (j:Nat) x x',cs[j]? = some x→cs'[j]? = some x' →
  x'=x∨(off≤j∧j<off+k∧mf x ≠ .no∧mf x'=mf x∧∀ s',x' = .string s'→∃ s,x = .string s∧s'.size≤s.size+m)
theorem Lp.start {w b cs e off m} (h:w.heap[b]? = some (.cells cs e (0,0))):Lp w b cs e off m 0 w where
 size:=rfl
 os:=rfl
 tape:=rfl
 output:=rfl
 other _ _:=rfl
 row:=⟨cs,h,rfl,fun j x x' h1 h2=>.inl (by rw [h1] at h2;cases h2;rfl)⟩
theorem Lp.frozen {w b cs e off m k wr} (h:Lp w b cs e off m k wr) (j:Nat):wr.frozen? ⟨b,j,none⟩=false:=by
 obtain ⟨cs',h1,_⟩:=h.row
 unfold World.frozen?
 simp only [h1]
 simp
theorem Lp.cell {w b cs e off m k wr x} (h:Lp w b cs e off m k wr) (hx:cs[off+k]? = some x):wr.cell? ⟨b,off+k,none⟩=some x:=by
 obtain ⟨cs',h1,h2,h3⟩:=h.row
 rw [iq h1]
 have hlt:off+k<cs'.size:=by rw [h2];exact (Array.getElem?_eq_some_iff.1 hx).1
 have hx':=Array.getElem?_eq_getElem hlt
 rcases h3 _ _ _ hx hx' with q|⟨_,q,_⟩
 ·rw [hx',q]
 ·omega
theorem Lp.step {w b cs e off m k wr x v} (h:Lp w b cs e off m k wr) (hx:cs[off+k]? = some x) (h1:mf x ≠ .no) (h2:mf v=mf x) (h3:∀ s',v = .string s'→∃ s,x = .string s∧s'.size≤s.size+m) :
 Lp w b cs e off m (k+1) (wr.setCell ⟨b,off+k,none⟩ v):=by
 obtain ⟨cs',r1,r2,r3⟩:=h.row
 have hb:=bf r1
 refine ⟨by simp [World.setCell,h.size],h.os,h.tape,h.output,fun c hc=>?_,cs'.setIfInBounds (off+k) v,?_,by simp [r2],fun j y y' hy hy'=>?_⟩
 ·rw [← h.other c hc]
  simp only [World.setCell]
  rw [Array.getElem?_modify,if_neg (fun e=>hc e.symm)]
 ·simp only [World.setCell]
  rw [Array.getElem?_modify,if_pos rfl,r1]
  rfl
 ·rw [Array.getElem?_setIfInBounds] at hy'
  by_cases hj:off+k=j
  ·subst hj
   rw [hx] at hy;cases hy
   have hlt:off+k<cs'.size:=by rw [r2];exact (Array.getElem?_eq_some_iff.1 hx).1
   rw [if_pos rfl,if_pos hlt] at hy';cases hy'
   exact .inr ⟨by omega,by omega,h1,h2,h3⟩
  ·rw [if_neg hj] at hy'
   exact (r3 j y y' hy hy').imp id (fun q=>⟨q.1,by omega,q.2.2⟩)
theorem Lp.tj {S w b cs e off m k wr} (h:Lp w b cs e off m k wr) (hw:w.heap[b]? = some (.cells cs e (0,0))) (hn:S b):i6 S m false w wr where
 size:=by rw [h.size];exact Nat.le_refl _
 os:=h.os
 tape:=h.tape
 output:=h.output
 low c _ hc:=h.other c (fun e=>hc (e ▸ hn))
 obj c o hc hn:=by
  by_cases e:c=b
  ·subst e;rw [hw] at hc;cases hc;exact absurd rfl (hn _ _ _)
  ·rw [h.other c e];exact hc
 cells c cs0 e0 fr0 hc:=by
  by_cases e:c=b
  ·subst e
   rw [hw] at hc;cases hc
   obtain ⟨cs',r1,r2,r3⟩:=h.row
   exact ⟨cs',r1,r2,fun j x x' hx hx'=>(r3 j x x' hx hx').imp id (fun q=>.inl ⟨q.2.2.1,q.2.2.2.1,q.2.2.2.2⟩)⟩
  ·exact ⟨cs0,(h.other c e).trans hc,rfl,fun j x x' hx hx'=>.inl (by rw [hx] at hx';cases hx';rfl)⟩
theorem nb.form {S M w k v} (h:nb S M w k v):∃ base n cap,v = .slice base n cap∧n≤cap∧cap≤maxLen∧(base=none→cap=0):=by
 rcases h with ⟨a,rfl⟩|⟨b,off,n,cap,cs,e,rfl,h1,⟨h2,h3⟩,_⟩
 ·exact ⟨a,0,0,rfl,Nat.le_refl _,Nat.zero_le _,fun _=>rfl⟩
 ·exact ⟨_,n,cap,rfl,h2,h3,fun e=>by cases e⟩
def Ie (S:Nat→Prop) (m k:Nat) (w:World) (v:Value) (wr:World):Prop:=
 (∃ a,v = .slice a 0 0∧wr=w)∨∃ (b off n cap:Nat) (cs:Array Value) (e:TypeId),v = .slice (some ⟨b,off,none⟩) n cap∧S b∧w.heap[b]? = some (.cells cs e (0,0))∧Lp w b cs e off m k wr
theorem Ie.start {S m M w k v} (h:nb S M w k v):Ie S m 0 w v w:=by
 rcases h with ⟨a,rfl⟩|⟨b,off,n,cap,cs,e,rfl,h1,_,h3,_⟩
 ·exact .inl ⟨a,rfl,rfl⟩
 ·exact .inr ⟨b,off,n,cap,cs,e,rfl,h1,h3,.start h3⟩
theorem Ie.tj {S m k w v wr} (h:Ie S m k w v wr):i6 S m false w wr:=by
 rcases h with ⟨a,_,rfl⟩|⟨b,off,n,cap,cs,e,_,h1,h3,h⟩
 ·exact .refl _ _ _ _
 ·exact h.tj h3 h1
theorem Ie.at {S m M k w kd base n cap wr} (hk:kd ≠ .no) (hv:nb S M w kd (.slice base n cap)) (h:Ie S m k w (.slice base n cap) wr) (hlt:k<cap) :
 ∃ b off x,base=some ⟨b,off,none⟩∧wr.cell? ⟨b,off+k,none⟩=some x∧wr.frozen? ⟨b,off+k,none⟩=false∧mf x=kd∧(∀ s,x = .string s→s.size≤M) ∧
  ∀ v',mf v'=kd→(∀ s',v' = .string s'→∃ s,x = .string s∧s'.size≤s.size+m)→Ie S m (k+1) w (.slice base n cap) (wr.setCell ⟨b,off+k,none⟩ v'):=by
 rcases hv with ⟨a,e⟩|⟨b,off,n',cap',cs,e,he,h1,_,h3,h4,h5,h6⟩
 ·cases e;omega
 cases he
 rcases h with ⟨a,e,_⟩|⟨b',off',n',cap',cs',e',he',q1,q3,q⟩
 ·cases e;omega
 cases he'
 rw [h3] at q3;cases q3
 have hl:off+k<cs.size:=by omega
 have hx:=Array.getElem?_eq_getElem hl
 obtain ⟨r1,r2⟩:=h6 k _ hlt hx
 exact ⟨b,off,_,rfl,q.cell hx,q.frozen _,r1,r2,fun v' e1 e2=>.inr ⟨b,off,n,cap,cs,e,rfl,h1,h3,q.step hx (by rw [r1];exact hk) (by rw [r1];exact e1) e2⟩⟩
theorem mb.form {S N w sz E v} (h:mb S N w sz E v):∃ base n cap,v = .slice base n cap∧n≤N∧n≤cap∧cap≤maxLen∧(base=none→cap=0):=by
 rcases h with ⟨a,rfl⟩|⟨b,off,n,cap,cs,e,rfl,h0,h1,⟨h2,h3⟩,_⟩
 ·exact ⟨a,0,0,rfl,Nat.zero_le _,Nat.le_refl _,Nat.zero_le _,fun _=>rfl⟩
 ·exact ⟨_,n,cap,rfl,h0,h2,h3,fun e=>by cases e⟩
theorem mb.at {S N w sz E base n cap} (h:mb S N w sz E (.slice base n cap)) {j:Nat} (hj:j<n) :
 ∃ b off cs e,base=some ⟨b,off,none⟩∧S b∧w.heap[b]? = some (.cells cs e (0,0))∧TK.sz e=some sz∧off % sz=0∧off+cap * sz≤cs.size∧(j+1) * sz≤cap * sz∧E w ((List.range sz).map fun i=>cs.getD (off+j * sz+i) undef):=by
 rcases h with ⟨a,e⟩|⟨b,off,n',cap',cs,e,he,h0,h1,⟨h2,h3⟩,h4,h5,h6,h7,h8⟩
 ·cases e;omega
 ·cases he
  exact ⟨b,off,cs,e,rfl,h1,h4,h5,h6,h7,Nat.mul_le_mul_right _ (by omega),h8 j hj⟩
theorem cell_of {w:World} {b j:Nat} {cs:Array Value} {e:TypeId} {fr:Nat × Nat} (h:w.heap[b]? = some (.cells cs e fr)) (hj:j<cs.size):w.cell? ⟨b,j,none⟩=some (cs.getD j undef):=by
 rw [iq h,Array.getD_eq_getD_getElem?,Array.getElem?_eq_getElem hj];rfl
theorem G4 {w:World} {b:Nat} {cs:Array Value} {e:TypeId} (h:w.heap[b]? = some (.cells cs e (0,0))) (j:Nat):w.frozen? ⟨b,j,none⟩=false:=by
 unfold World.frozen?
 simp only [h]
 simp
theorem i6.set {S:Nat→Prop} {w:World} {b:Nat} {cs:Array Value} {e:TypeId} {j:Nat} {x v:Value} (h:w.heap[b]? = some (.cells cs e (0,0))) (hn:S b) (hx:cs[j]? = some x) (h1:mf x ≠ .no) (h2:mf v=mf x) (h3:∀ s,v ≠ .string s) :
 i6 S 0 false w (w.setCell ⟨b,j,none⟩ v)∧(w.setCell ⟨b,j,none⟩ v).heap[b]? = some (.cells (cs.setIfInBounds j v) e (0,0)):=by
 refine ⟨((Lp.start (off:=j) (m:=0) h).step (k:=0) hx h1 h2 (fun s' q=>absurd q (h3 s'))).tj h hn,?_⟩
 simp only [World.setCell]
 rw [Array.getElem?_modify,if_pos rfl,h]
 rfl
theorem mb.room {S N w sz E base n cap} (h:mb S N w sz E (.slice base n cap)) {j:Nat} (hj:j<cap) :
 ∃ b off cs e,base=some ⟨b,off,none⟩∧S b∧w.heap[b]? = some (.cells cs e (0,0))∧TK.sz e=some sz∧off % sz=0∧off+cap * sz≤cs.size∧(j+1) * sz≤cap * sz:=by
 rcases h with ⟨a,e⟩|⟨b,off,n',cap',cs,e,he,h0,h1,⟨h2,h3⟩,h4,h5,h6,h7,h8⟩
 ·cases e;omega
 ·cases he
  exact ⟨b,off,cs,e,rfl,h1,h4,h5,h6,h7,Nat.mul_le_mul_right _ (by omega)⟩
theorem T8 {w:World} {b:Nat} {cs:Array Value} {e:TypeId} (h:w.heap[b]? = some (.cells cs e (0,0))) (o:Obj) (j:Nat):(w.alloc o).frozen? ⟨b,j,none⟩=false:=
 G4 ((Go.RowKit.Below.heap_alloc w o b (bf h)).trans h) j
theorem Ap {w:World} {b:Nat} {cs:Array Value} {e:TypeId} {fr:Nat × Nat} (h:w.heap[b]? = some (.cells cs e fr)) (o:Obj) {j:Nat} (hj:j<cs.size):(w.alloc o).cell? ⟨b,j,none⟩=some (cs.getD j undef):=
 cell_of ((Go.RowKit.Below.heap_alloc w o b (bf h)).trans h) hj
theorem i6.alloc {S m xx w} (o:Obj):i6 S m xx w (w.alloc o):=by
 have hold:∀ b,b<w.heap.size→(w.alloc o).heap[b]? = w.heap[b]? := fun b hb=>Go.RowKit.Below.heap_alloc w o b hb
 refine ⟨(by show w.heap.size≤(w.heap.push o).size;simp),rfl,rfl,rfl,fun b hb _=>hold b hb,fun b x hb _=>(hold b (bf hb)).trans hb,fun b cs e fr hb=>⟨cs,(hold b (bf hb)).trans hb,rfl,fun j x x' h1 h2=>.inl (by rw [h1] at h2;cases h2;rfl)⟩⟩
theorem ou (w:World) {b c:Nat} (j:Nat) (v:Value) (h:c≠b):(w.setCell ⟨b,j,none⟩ v).heap[c]? = w.heap[c]? := by
 simp only [World.setCell]
 rw [Array.getElem?_modify,if_neg (fun e=>h e.symm)]
theorem i6.ado {S:Nat→Prop} {w:World} {b:Nat} {cs:Array Value} {e:TypeId} {j:Nat} {v:Value} (h:w.heap[b]? = some (.cells cs e (0,0))) (hn:S b) (hsz:TK.sz e=some 4)
 (hv:(j % 4≠2∧v = .slice none 0 0)∨(j % 4=2∧nb S 4 (w.setCell ⟨b,j,none⟩ v) .str v)) :
 i6 S 0 true w (w.setCell ⟨b,j,none⟩ v)∧(w.setCell ⟨b,j,none⟩ v).heap[b]? = some (.cells (cs.setIfInBounds j v) e (0,0)):=by
 have hb:(w.setCell ⟨b,j,none⟩ v).heap[b]? = some (.cells (cs.setIfInBounds j v) e (0,0)):=by
  simp only [World.setCell]
  rw [Array.getElem?_modify,if_pos rfl,h]
  rfl
 refine ⟨⟨by simp [World.setCell],rfl,rfl,rfl,fun c _ hc=>ou w j v (fun e=>hc (e ▸ hn)),fun c o hc hno=>?_,fun c cs0 e0 fr0 hc=>?_⟩,hb⟩
 ·by_cases e1:c=b
  ·subst e1;rw [h] at hc;cases hc;exact absurd rfl (hno _ _ _)
  ·rw [ou w j v e1];exact hc
 ·by_cases e1:c=b
  ·subst e1
   rw [h] at hc;cases hc
   refine ⟨_,hb,by simp,fun i x x' hx hx'=>?_⟩
   rw [Array.getElem?_setIfInBounds] at hx'
   by_cases hi:j=i
   ·subst hi
    have hlt:=(Array.getElem?_eq_some_iff.1 hx).1
    rw [if_pos rfl,if_pos hlt] at hx';cases hx'
    exact .inr (.inr ⟨⟨rfl,hsz⟩,hv⟩)
   ·rw [if_neg hi,hx] at hx';cases hx'
    exact .inl rfl
  ·exact ⟨cs0,(ou w j v e1).trans hc,rfl,fun i x x' hx hx'=>.inl (by rw [hx] at hx';cases hx';rfl)⟩
theorem i6.spare {S:Nat→Prop} {w:World} {b j:Nat} {cs:Array Value} {e t:TypeId} {s:ByteArray} (h:w.heap[b]? = some (.cells cs e (0,0))) (hn:S b) (hsz:TK.sz e=some 4) (hS:S w.heap.size) (hj:j % 4=0) (ht:TK.sz t=some 1) (hs:s.size≤4) :
 i6 S 0 true w (((((w.alloc (.cells #[.string s] t)).setCell ⟨b,j,none⟩ (.slice none 0 0)).setCell ⟨b,j+1,none⟩ (.slice none 0 0)).setCell ⟨b,j+2,none⟩ (.slice (some ⟨w.heap.size,0,none⟩) 1 1)).setCell ⟨b,j+3,none⟩ (.slice none 0 0)):=by
 have hne:w.heap.size≠b:=by have:=bf h;omega
 have h0:(w.alloc (.cells #[.string s] t)).heap[b]? = _:=(Go.RowKit.Below.heap_alloc w _ b (bf h)).trans h
 have ko:(w.alloc (.cells #[.string s] t)).heap[w.heap.size]? = some (.cells #[.string s] t (0,0)):=Bg w _
 have q1:=i6.ado (j:=j) (v:=.slice none 0 0) h0 hn hsz (.inl ⟨by omega,rfl⟩)
 have q2:=i6.ado (j:=j+1) (v:=.slice none 0 0) q1.2 hn hsz (.inl ⟨by omega,rfl⟩)
 have q3:=i6.ado (j:=j+2) (v:=.slice (some ⟨w.heap.size,0,none⟩) 1 1) q2.2 hn hsz (.inr ⟨by omega,.inr ⟨w.heap.size,0,1,1,#[.string s],t,rfl,hS,⟨Nat.le_refl _,by decide⟩,?_,ht,Nat.le_refl _,fun i x hi hx=>?_⟩⟩)
 have q4:=i6.ado (j:=j+3) (v:=.slice none 0 0) q3.2 hn hsz (.inl ⟨by omega,rfl⟩)
 ·exact ((((i6.alloc (S:=S) (m:=0) (xx:=true) _).trans q1.1).trans q2.1).trans q3.1).trans q4.1
 ·rw [ou _ _ _ hne,ou _ _ _ hne,ou _ _ _ hne]
  exact ko
 ·have hi0:i=0:=by omega
  subst hi0
  cases hx
  exact ⟨rfl,fun s' e=>by cases e;exact hs⟩
theorem i6.stay {S m w w'} (h:i6 S m false w w') {b j:Nat} {x:Value} (hx:w.cell? ⟨b,j,none⟩=some x) (hn:mf x = .no):w'.cell? ⟨b,j,none⟩=some x:=by
 unfold World.cell? at hx
 split at hx
 ·rename_i cs e fr hb
  simp at hx
  obtain ⟨cs',q1,q2,q3⟩:=h.cells b cs e fr hb
  have hlt:j<cs'.size:=by rw [q2];exact (Array.getElem?_eq_some_iff.1 hx).1
  have hx':=Array.getElem?_eq_getElem hlt
  rw [iq q1]
  rcases q3 j x _ hx hx' with q|⟨q,_⟩|⟨⟨q,_⟩,_⟩
  ·rw [hx',q]
  ·exact absurd hn q
  ·cases q
 ·cases hx
end Go.Vm
namespace Go.Vm
variable [TK]
noncomputable section
def ub:Nat→Code→Code
 |0,_=>.skip
 |1,.seq a _=>a
 |n+2,.seq a b=>.seq a (ub (n+1) b)
 |_,c=>c
def lg:Nat→Code→Code
 |0,c=>c
 |n+1,.seq _ b=>lg n b
 |_+1,_=>.skip
def Ma:Nat→Code→Bool
 |0,_=>true
 |n+1,.seq _ b=>Ma n b
 |_+1,_=>false
theorem s6 {P:Program} {T:dz} {aj:Nat} {a b:Code} {Q:QL} {L:SL} {st:St}:wl P T aj (ub 1 (.seq a b)) Q L st=wl P T aj a Q L st:=rfl
theorem sv {P:Program} {T:dz} {aj n:Nat} {a b:Code} {Q:QL} {L:SL} {st:St}:wl P T aj (ub (n+2) (.seq a b)) Q L st=wl P T aj a (K5 (wl P T aj (ub (n+1) b)) Q) L st:=rfl
theorem sw {P:Program} {T:dz} {aj n:Nat} {c:Code} {Q:QL} {L:SL} {st:St}:wl P T aj (ub n (lg 0 c)) Q L st=wl P T aj (ub n c) Q L st:=rfl
theorem tc {P:Program} {T:dz} {aj n m:Nat} {a b:Code} {Q:QL} {L:SL} {st:St}:wl P T aj (ub n (lg (m+1) (.seq a b))) Q L st=wl P T aj (ub n (lg m b)) Q L st:=rfl
theorem qo {P:Program} {T:dz} {aj:Nat} {c:Code} {Q:QL} {L:SL} {st:St}:wl P T aj (lg 0 c) Q L st=wl P T aj c Q L st:=rfl
theorem qm {P:Program} {T:dz} {aj m:Nat} {a b:Code} {Q:QL} {L:SL} {st:St}:wl P T aj (lg (m+1) (.seq a b)) Q L st=wl P T aj (lg m b) Q L st:=rfl
def Ao (X:SL→St→Prop) (Y:QL):QL:=fun e L st=>
 match e with
 |.normal=>X L st
 |e=>Y e L st
theorem vn {X:SL→St→Prop} {Y:QL} {L st}:Ao X Y .normal L st=X L st:=rfl
theorem vk {X:SL→St→Prop} {Y:QL} {L st}:Ao X Y .ret L st=Y .ret L st:=rfl
theorem vh {X:SL→St→Prop} {Y:QL} {L st} (i:Nat):Ao X Y (.exit i) L st=Y (.exit i) L st:=rfl
def noQ:QL:=fun _ _ _=>False
theorem Gz {P:Program} [KP P] {T:dz} (hT:aq P T) (hm:P.follows .mixedOrders=true) {N:Nat} {B:da} {nt:NT} (hnf:B.fq) (hp:B.aj≤1000) (hn0:B.n0≤B.w.heap.size) {X:Exit→Act→World→Prop} {Q:QL} :
 ∀ (n:Nat) (c:Code),Ma (n+1) c=true→dw nt c=true →
  (∀ e L' st' g' a' w',Q e L' st'→du B nt L' st' g' a' w'→match e with|.normal=>(lg (n+1) c).wpIn (fk none) N P X a' w'|e=>X (rp e) a' w') →
  ∀ L st g a w,wl P T B.aj (ub (n+1) c) Q L st→du B nt L st g a w→c.wpIn (fk none) N P X a w:=by
 intro n
 induction n with
 |zero=>
  intro c hsp hs hX L st g a w h hh
  cases c with
  |seq x y=>
   simp only [dw,Bool.and_eq_true] at hs
   refine wpIn_seq (wpIn_mono (piece hT hm (N:=N) hnf hp hn0 hs.1 h hh) ?_)
   rintro ex a' w' ⟨e,L',st',g',rfl,hq,hh',_⟩
   have:=hX e L' st' g' a' w' hq hh'
   cases e with
   |normal=>exact this
   |ret=>exact this
   |exit id=>exact this
  |_=>cases hsp
 |succ n ih=>
  intro c hsp hs hX L st g a w h hh
  cases c with
  |seq x y=>
   simp only [dw,Bool.and_eq_true] at hs
   refine wpIn_seq (wpIn_mono (piece hT hm (N:=N) hnf hp hn0 hs.1 (Q:=K5 (wl P T B.aj (ub (n+1) y)) Q) h hh) ?_)
   rintro ex a' w' ⟨e,L',st',g',rfl,hq,hh',_⟩
   cases e with
   |normal=>exact ih y hsp hs.2 hX L' st' g' a' w' hq hh'
   |ret=>exact hX .ret L' st' g' a' w' hq hh'
   |exit id=>exact hX (.exit id) L' st' g' a' w' hq hh'
  |_=>cases hsp
theorem ahb {P:Program} [KP P] {T:dz} (hT:aq P T) (hm:P.follows .mixedOrders=true) {N:Nat} {B:da} {nt:NT} (hnf:B.fq) (hp:B.aj≤1000) (hn0:B.n0≤B.w.heap.size) {X:Exit→Act→World→Prop} {Q:QL} {c:Code} (hs:dw nt c=true)
 (hX:∀ e L' st' g' a' w',Q e L' st'→du B nt L' st' g' a' w'→X (rp e) a' w') {L st g a w} (h:wl P T B.aj c Q L st) (hh:du B nt L st g a w):c.wpIn (fk none) N P X a w:=by
 refine wpIn_mono (piece hT hm (N:=N) hnf hp hn0 hs h hh) ?_
 rintro ex a' w' ⟨e,L',st',g',rfl,hq,hh',_⟩
 exact hX e L' st' g' a' w' hq hh'
def Dh (w:World):Nat→Nat→Prop:=fun b _=>b<w.heap.size
def Tt (w:World) (D:List Deferred):da:={ b0:=w.heap.size,w,K:=Dh w,O:=fun _=>False,aj:=0,pb:=fun _=>none,n0:=w.heap.size,D }
theorem Fh (w D):(Tt w D).fq:=fun _ h=>h
structure wq (S:Nat→Prop) (w1:World) (D:List Deferred) (ds:List Deferred) (w:World):Prop where
 size:w1.heap.size≤w.heap.size
 low:∀ b,b<w1.heap.size→¬ S b→w.heap[b]? = w1.heap[b]?
 obj:∀ (b:Nat) o,w1.heap[b]? = some o→(∀ cs e fr,o ≠ .cells cs e fr)→w.heap[b]? = some o
 os:w.os=w1.os
 tape:w.tape=w1.tape
 output:w.output=w1.output
 rn:∃ bs:List Nat,ds=bs.map mark++D∧bs.Nodup∧∀ b ∈ bs,w1.heap.size≤b∧w.heap[b]? = some (.deferred (some []))
theorem wq.start (S:Nat→Prop) (w:World) (D:List Deferred):wq S w D D w:=⟨Nat.le_refl _,fun _ _ _=>rfl,fun _ _ h _=>h,rfl,rfl,rfl,[],rfl,List.nodup_nil,fun b h=>by cases h⟩
theorem wq.later {S:Nat→Prop} {w1 D ds w nt L st g a w'} (h:wq S w1 D ds w) (hh:du (Tt w ds) nt L st g a w'):wq S w1 D a.defers w':=by
 have hb:=hh.cur.base
 have hf:∀ b,b<w.heap.size→w'.heap[b]? = w.heap[b]? := fun b h=>hb.frame b h (fun h=>h)
 refine ⟨Nat.le_trans h.size hb.size,fun b hlt hn=>(hf b (Nat.lt_of_lt_of_le hlt h.size)).trans (h.low b hlt hn),fun b o ho hn=>?_,hb.os.trans h.os,hb.tape.trans h.tape,hb.output.trans h.output,?_⟩
 ·have:=h.obj b o ho hn
  exact (hf b (bf this)).trans this
 ·obtain ⟨bs,e1,e2,e3⟩:=h.rn
  obtain ⟨cs,c1,c2,c3⟩:=hh.rn
  refine ⟨cs++bs,by rw [c1,List.map_append,List.append_assoc];exact congrArg _ e1,?_,fun b hb=>?_⟩
  ·rw [List.nodup_append]
   refine ⟨c2,e2,fun x hx y hy e=>?_⟩
   subst e
   have h1:w.heap.size≤x:=(c3 x hx).1
   have h2:=bf (e3 x hy).2
   omega
  ·rcases List.mem_append.1 hb with hb|hb
   ·exact ⟨Nat.le_trans h.size (c3 b hb).1,(c3 b hb).2.1⟩
   ·have:=(e3 b hb).2
    exact ⟨(e3 b hb).1,(hf b (bf this)).trans this⟩
theorem wq.tj {S:Nat→Prop} {w1 D ds w m xx w'} (h:wq S w1 D ds w) (ho:i6 S m xx w w'):wq S w1 D ds w':=by
 refine ⟨Nat.le_trans h.size ho.size,fun b hlt hn=>(ho.low b (Nat.lt_of_lt_of_le hlt h.size) hn).trans (h.low b hlt hn),fun b o hb hn=>ho.obj b o (h.obj b o hb hn) hn,ho.os.trans h.os,ho.tape.trans h.tape,ho.output.trans h.output,?_⟩
 obtain ⟨bs,e1,e2,e3⟩:=h.rn
 exact ⟨bs,e1,e2,fun b hb=>⟨(e3 b hb).1,ho.obj b _ (e3 b hb).2 (fun cs e fr q=>by cases q)⟩⟩
theorem Im {nt:NT} {Ls:SL} {a:Act} {w:World} (hnt:ra nt a.tmps) (hr:∀ t,Rel (gK w.heap.size (Dh w)) w (lk Ls t) (a.tmps.getD t undef)):du (Tt w a.defers) nt Ls (aw []) (gK w.heap.size (Dh w)) a w:=by
 refine ⟨⟨⟨Nat.le_refl _,fun o x hx=>?_,fun o o' x x' b base base' _ hx=>?_,fun _ _ h=>h⟩,fun o _ _=>rfl,⟨rfl,(fun o ho=>(by rcases ho with ho|ho;cases ho;exact ho.elim)),fun _ _ h=>h,fun _ _ _=>rfl,Nat.le_refl _,rfl,rfl,rfl,fun _ _ _=>rfl,fun o b base ho=>?_,fun _ _ h=>.inl h,fun b cs e fr h=>⟨cs,fr,h,rfl⟩,fun b l h=>⟨l,h⟩,fun _ _ _ _ _ _=>rfl⟩,Nat.zero_le _⟩,⟨hnt,hr⟩,Marks.start _ _ _ _ _⟩
 ·simp [aw,lz,Tr.get_nil] at hx
 ·simp [aw,lz,Tr.get_nil] at hx
 ·simp [aw,lz,Tr.get_nil] at ho
theorem ac4 {g:Gh} {w:World} {f:Nat→Value}:∀ {ts:List Nat} {vs:List AV},bb g w vs (ts.map f)→∀ t,Rel g w (lk (fc ts vs) t) (f t)
 | [],vs,h,t=>by cases vs<;>exact .bad _
 |t0::ts,[],h,t=>.bad _
 |t0::ts,v::vs,h,t=>by
  rw [fc,ow]
  by_cases e:t0=t
  ·subst e;rw [if_pos rfl];exact h.head
  ·rw [if_neg e];exact ac4 h.tail t
theorem du.read {B:da} {nt L st g a w} (hh:du B nt L st g a w) {α:Type} (A:AC α) (ts:List Nat) {x : α} (hd:A.get st.h (ts.map (lk L))=some x):bb (gK w.heap.size (Dh w)) w (A.E x) (ts.map fun t=>a.tmps.getD t undef):=by
 refine A.ok (b0:=w.heap.size) (K:=Dh w) hh.cur.ok ⟨fun b j hk=>hh.cur.ok.K b j hk,fun o cells k s e ho b base hi j hj=>?_⟩ ⟨by simp,fun i x v hx hv=>?_⟩ hd
 ·obtain ⟨b',base',h5,_,h6⟩:=hh.cur.ok.obj o _ ho
  rw [hi] at h5;cases h5
  exact h6.lt
 ·rw [List.getElem?_map,Option.map_eq_some_iff] at hx hv
  obtain ⟨t,e1,rfl⟩:=hx
  obtain ⟨t',e2,rfl⟩:=hv
  rw [e1] at e2;cases e2
  exact hh.sl.2 t
theorem du.ac1 {B:da} {nt L st g a w} (hh:du B nt L st g a w) {α:Type} (C:db α) (fr:Bool) (t:Nat) {x : α} (hd:C.gk fr st.h (lk L t)=some x):Rel (gK B.b0 (Dh w)) w (C.val fr x) (a.tmps.getD t undef):=by
 refine C.Jp (b0:=B.b0) (K:=Dh w) hh.cur.ok ⟨fun b j hk=>hh.cur.ok.K b j hk,fun o cells k s e ho b base hi j hj=>?_⟩ (fun _=>Nat.le_of_eq hh.cur.base.b0.symm) (hh.sl.2 t) hd
 obtain ⟨b',base',h5,_,h6⟩:=hh.cur.ok.obj o _ ho
 rw [hi] at h5;cases h5
 exact h6.lt
def z8 (n:Nat) (ts:List Nat) (tmps:Array Value):NT:=⟨n,ts.map fun t=>(t,tmps.getD t undef)⟩
theorem Qc {nt:NT} {tmps:Array Value} (ts:List Nat) (h:ra nt tmps):ra (z8 nt.n ts tmps) tmps:=⟨h.size,fun p hp=>by obtain ⟨t,_,rfl⟩:=List.mem_map.1 hp;rfl⟩
theorem aba {n:Nat} {ts:List Nat} {tmps tmps':Array Value} (h:ra (z8 n ts tmps) tmps') {t:Nat} (ht:t ∈ ts):tmps'.getD t undef=tmps.getD t undef:=h.fix _ (List.mem_map.2 ⟨t,ht,rfl⟩)
theorem Lb {n:Nat} {ts:List Nat} {tmps tmps':Array Value} (h:ra (z8 n ts tmps) tmps') {us:List Nat} (hu:∀ u ∈ us,u ∈ ts):us.map (fun t=>tmps'.getD t undef)=us.map (fun t=>tmps.getD t undef):=List.map_congr_left fun t ht=>aba h (hu t ht)
theorem Rel.stay {b0 b1:Nat} {K K':Nat→Nat→Prop} {w w':World} {a:AV} {v:Value} (hb0:∀ b,b0≤b→(∀ j,K b j)→b1≤b) (hK:∀ b j,K b j→K' b j) (hh:∀ b j,K b j→w'.heap[b]? = w.heap[b]?) (h:Rel (gK b0 K) w a v):Rel (gK b1 K') w' a v:=by
 have hno:∀ o p,(gK b0 K).inj o≠some p:=fun o p e=>by cases e
 generalize hg:gK b0 K=g0 at h hno
 have hK0:∀ b j,g0.K b j→K b j:=by subst hg;exact fun _ _ h=>h
 have hb:g0.b0=b0:=by subst hg;rfl
 clear hg
 have hc:∀ (b j:Nat),g0.K b j→w'.cell? ⟨b,j,none⟩=w.cell? ⟨b,j,none⟩:=fun b j hk=>m9 (hh b j (hK0 b j hk))
 induction h with
 |sc x=>exact .sc x
 |agg l vs hs _ ih=>exact .agg l vs hs ih
 |ja l vs hs _ ih=>exact .ja l vs hs ih
 |vl loc sz es b off cap c hsz hl hcap h _ hw ih=>
  refine .vl loc sz es b off cap c hsz (fun e=>hb0 b (by rw [← hb];exact hl e) (fun j=>hK0 _ _ ((hw e).K j))) hcap (fun j a hj=>⟨hK _ _ (hK0 _ _ (h j a hj).1),(hc _ _ (h j a hj).1).trans (h j a hj).2⟩) ih (fun e=>?_)
  obtain ⟨w1,⟨cs,e,w2,w3⟩,w4,w5⟩:=hw e
  exact ⟨fun j=>hK _ _ (hK0 _ _ (w1 j)),⟨cs,e,(hh b 0 (hK0 _ _ (w1 0))).trans w2,w3⟩,w4,w5⟩
 |jy loc sz=>exact .jy loc sz
 |qb loc sz a=>exact .qb loc sz a
 |sl o off len sz b base cap hi hc hm hr=>exact (hno _ _ hi).elim
 |nq o off sz a=>exact .nq o off sz a
 |n9 o off sz=>exact .n9 o off sz
 |ez a=>exact .ez a
 |ptr o off b base hi=>exact (hno _ _ hi).elim
 |jr l b off c h _ ih=>exact .jr l b off c (fun j a hj=>⟨hK _ _ (hK0 _ _ (h j a hj).1),(hc _ _ (h j a hj).1).trans (h j a hj).2⟩) ih
 |fn f first captured va vb hs _ hs' _ ih ih'=>exact .fn f first captured va vb hs ih hs' ih'
 |mp o b base hi=>exact (hno _ _ hi).elim
 |oq t a v _ ih=>exact .oq t a v ih
 |yl o b base hi=>exact (hno _ _ hi).elim
 |bad v=>exact .bad v
theorem wq.fin {B:da} {nt0 nt:NT} {L st g a1 w1} (hp:B.aj=0) (hnf:B.fq) (hn0:B.n0≤B.w.heap.size) (h1:du B nt L st g a1 w1) {S:Nat→Prop} {a:Act} {w:World} (hm:wq S w1 a1.defers a.defers w) (hS:∀ b,b<w1.heap.size→¬ S b) (hO:∀ b,¬ B.O b) {r:Nat} {v:Value} (hnt:ra nt0 a.tmps) (hv:a.tmps.getD r undef=v) {Q:QL} {e:Ex} (hq:Q e [(r,.sc v)] (aw [])):Fin B nt0 Q (rp e) a w:=by
 have hb:=h1.cur.base
 have hok:=h1.cur.ok
 have hlow:∀ b,b<w1.heap.size→w.heap[b]? = w1.heap[b]? := fun b hlt=>hm.low b hlt (hS b hlt)
 have hKl:∀ b j,B.K b j→b<w1.heap.size:=fun b j hk=>hok.K b j (hb.K b j hk)
 refine Fin.mk' (g:={ b0:=B.b0,inj:=fun _=>none,K:=B.K }) hq ⟨⟨?_,fun o x hx=>?_,fun o o' x x' b base base' _ hx=>?_,fun b j hk=>Nat.lt_of_lt_of_le (hKl b j hk) hm.size⟩,fun o _ _=>rfl,⟨rfl,fun o ho=>?_,fun _ _ h=>h,fun b j hk=>?_,Nat.le_trans hb.size hm.size,hm.os.trans hb.os,hm.tape.trans hb.tape,hm.output.trans hb.output,fun b hlt hn=>?_,fun o b base ho=>?_,fun _ _ h=>.inl h,fun b cs e fr h=>?_,fun b l h=>?_,fun b cs e fr h hk=>?_⟩,by rw [hp];exact Nat.zero_le _⟩ ⟨hnt,fun t=>?_⟩ ?_
 ·have:=hok.size;rw [hb.b0] at this;exact Nat.le_trans this hm.size
 ·simp [aw,lz,Tr.get_nil] at hx
 ·simp [aw,lz,Tr.get_nil] at hx
 ·rcases ho with ho|ho
  ·rw [hp] at ho;cases ho
  ·exact (hnf o ho).elim
 ·exact (m9 (hlow b (hKl b j hk))).trans (hb.cell b j hk)
 ·have hlt1:=Nat.lt_of_lt_of_le hlt hb.size
  exact (hlow b hlt1).trans (hb.frame b hlt hn)
 ·simp [aw,lz,Tr.get_nil] at ho
 ·obtain ⟨cs',fr',q1,q2⟩:=hb.nc b cs e fr h
  exact ⟨cs',fr',(hlow b (bf q1)).trans q1,q2⟩
 ·obtain ⟨l',q1⟩:=hb.lp b l h
  exact ⟨l',(hlow b (bf q1)).trans q1⟩
 ·have q1:=hb.whole b cs e fr h hk
  exact (hlow b (bf (q1.trans h))).trans q1
 ·rw [ow]
  by_cases e:r=t
  ·subst e;rw [if_pos rfl,hv];exact .sc _
  ·rw [if_neg e];exact .bad _
 ·obtain ⟨bs,e1,e2,e3⟩:=hm.rn
  obtain ⟨cs,c1,c2,c3⟩:=h1.rn
  refine ⟨bs++cs,by rw [e1,c1,List.map_append,List.append_assoc],?_,fun b hb'=>?_⟩
  ·rw [List.nodup_append]
   refine ⟨e2,c2,fun x hx y hy e=>?_⟩
   subst e
   have h2:=bf (c3 x hy).2.1
   have h3:=(e3 x hx).1
   omega
  ·have hun:ff { b0:=B.b0,inj:=fun _=>none,K:=B.K } (aw []).h b:=fun o base ho=>by simp [aw,lz,Tr.get_nil] at ho
   rcases List.mem_append.1 hb' with hb'|hb'
   ·exact ⟨Nat.le_trans hn0 (Nat.le_trans hb.size (e3 b hb').1),(e3 b hb').2,hun⟩
   ·have q:=c3 b hb'
    exact ⟨q.1,(hlow b (bf q.2.1)).trans q.2.1,hun⟩
def acy (x:Operand):Option Nat:=
 match x with
 |.tmp t=>some t
 |_=>none
def afg (o:Oper):Option (Option Nat × Nat × List Nat):=
 match o.op,o.guard with
 |.call { callee:=.value (.func f),args,.. },none=>(args.toList.mapM acy).map fun ts=>(o.dst,f,ts)
 |_,_=>none
def Ez (ops:Array Oper) (n:Nat):Option (Option Nat × Nat × List Nat):=
 match ops.toList.drop n with
 | [o]=>afg o
 |_=>none
theorem Z4:∀ {l:List Operand} {ts:List Nat},l.mapM acy=some ts→l=ts.map Operand.tmp
 | [],ts,h=>by simp at h;subst h;rfl
 |x::l,ts,h=>by
  simp only [List.mapM_cons,Option.bind_eq_bind,Option.bind_eq_some_iff] at h
  obtain ⟨t,h1,us,h2,h3⟩:=h
  cases h3
  cases x with
  |tmp u=>simp only [acy,Option.some.injEq] at h1;subst h1;rw [List.map_cons,Z4 h2]
  |_=>cases h1
theorem Zf {ops:Array Oper} {n f:Nat} {d:Option Nat} {args:List Nat} (h:Ez ops n=some (d,f,args)):∃ c ts pos af ty,ops.toList.drop n=[⟨d,.call { callee:=.value (.func f),args:=(args.map Operand.tmp).toArray,argTypes:=ts },ty,pos,af,none⟩]∧c=():=by
 unfold Ez at h
 split at h
 ·rename_i o ho
  obtain ⟨dst,op,ty,pos,af,gd⟩:=o
  unfold afg at h
  split at h
  ·rename_i f' aa ats h1 h2
   simp only [Option.map_eq_some_iff,Prod.mk.injEq] at h
   obtain ⟨ts,h3,rfl,rfl,rfl⟩:=h
   subst h1 h2
   refine ⟨(),ats,pos,af,ty,?_,rfl⟩
   rw [ho,← Z4 h3]
  ·cases h
 ·cases h
theorem Yb {P:Program} [KP P] {T:dz} (hT:aq P T) {B:da} {nt:NT} (hnf:B.fq) {N id n:Nat} {ops:Array Oper} {K:SL→St→Prop} {X:Exit→Act→World→Prop} {L st g a w} (hs:dw nt (.region id ops false)=true)
 {f:Nat} {args:List Nat} {d:Option Nat} (hl:Ez ops n=some (d,f,args)) (he:n5 P f=true)
 (h:opsL P T ops (ops.toList.take n) K L st) (hh:du B nt L st g a w)
 (hK:∀ L' st' g' a' w',K L' st'→du B nt L' st' g' a' w'→Calls P f (args.map fun t=>a'.tmps.getD t undef).toArray w' (fun e w''=>∃ r,e = .returned r∧∀ a'',a''.defers=a'.defers→ra nt a''.tmps→(∀ dd,d=some dd→a''.tmps.getD dd undef=r)→X .normal a'' w'')) :
 (Code.region id ops false).wpIn (fk none) N P X a w:=by
 simp only [dw,Bool.and_eq_true] at hs
 obtain ⟨hd,hg⟩:=hs
 obtain ⟨_,ts,pos,af,ty,hl,_⟩:=Zf hl
 have key:∀ (l:List Oper) (is:List Nat),(∀ o ∈ l,o ∈ ops)→is.map (fun i=>ops[i]?)=(l++ops.toList.drop n).map some→∀ L st g a w,opsL P T ops l K L st→du B nt L st g a w→wpOpsIn (fk none) N P ops X is a w:=by
  intro l
  induction l with
  |nil=>
   intro is _ his L st g a w h hh
   rw [hl,List.nil_append] at his
   match is,his with
   | [i],his=>
    simp only [List.map_cons,List.map_nil,List.cons.injEq,and_true] at his
    have hK':=hK L st g a w h hh
    have ho:(⟨d,.call { callee:=.value (.func f),args:=(args.map Operand.tmp).toArray,argTypes:=ts },ty,pos,af,none⟩:Oper) ∈ ops:=by
     have:(⟨d,.call { callee:=.value (.func f),args:=(args.map Operand.tmp).toArray,argTypes:=ts },ty,pos,af,none⟩:Oper) ∈ ops.toList.drop n:=by rw [hl];exact List.mem_singleton.2 rfl
     exact Array.mem_toList_iff.1 (List.mem_of_mem_drop this)
    simp only [wpOpsIn,his]
    have hw:Region.wanted (⟨d,.call { callee:=.value (.func f),args:=(args.map Operand.tmp).toArray,argTypes:=ts },ty,pos,af,none⟩:Oper) (yielded ops a.tmps)=true:=by simp [Region.wanted]
    rw [hw,if_pos rfl]
    refine ⟨l5 none P _ a w,?_⟩
    rw [Oper.semAt_eq _ _ _ (by intro c e;cases e)]
    have hrun:(execOp a.eval (⟨d,.call { callee:=.value (.func f),args:=(args.map Operand.tmp).toArray,argTypes:=ts },ty,pos,af,none⟩:Oper)).run P w=(callFunc f (args.map fun t=>a.tmps.getD t undef).toArray).run P w:=by
     rw [Fp (h:=f) (first:=#[]) (captured:=#[]) (f:=.func f) rfl rfl]
     congr 2
     apply Array.ext'
     simp [Act.eval]
    rw [hrun,tm he]
    refine ⟨(fun h=>(by cases h)),(q8 (ro:=none) (n:=N - 1) hK').mono ?_⟩
    rintro e w' ⟨r,rfl,hX⟩
    have hdd:=fun dd (e:d=some dd)=>qk hd ho dd e
    show wpOpsIn (fk none) N P ops X [] (a.put d r) w'
    refine hX _ (put_defers _ _ _) (hh.sl.1.put hdd) (fun dd e=>?_)
    subst e
    have:=(NT.Ho (hdd dd rfl)).1
    show (a.tmps.setIfInBounds dd r).getD dd undef=r
    rw [Array.getD_eq_getD_getElem?,Array.getElem?_setIfInBounds,if_pos rfl,if_pos (by rw [hh.sl.1.size];exact this)];rfl
   | [],his=>cases his
   |_::_::_,his=>simp at his
  |cons o l ih=>
   intro is hmem his L st g a w h hh
   obtain ⟨hc,hr,hdf⟩:=hh
   cases is with
   |nil=>cases his
   |cons i is=>
    simp only [List.cons_append,List.map_cons,List.cons.injEq] at his
    obtain ⟨hi,his⟩:=his
    have ho:=hmem o (by simp)
    simp only [wpOpsIn,hi]
    rcases E9 hr (Ev hg ho) h with ⟨hw,h1⟩|⟨hw,h1⟩
    ·rw [hw,if_pos rfl]
     unfold O9 Ds at h1
     cases hop:fv P T o (dm L) st with
     |none=>
      rw [hop] at h1
      refine Wb hc.ok (fun o ho=>hc.fresh o ho (hnf o)) hr.eval h1 none N _ _ ?_
      rintro u w' ⟨g',v,st',q0,q1,q2,q3,q4⟩
      exact ih is (fun o ho=>hmem o (by simp [ho])) his _ st' g' _ w' q0 ⟨hc.step (hnf.C1 _ _) ⟨q1,q2⟩ q3,(hr.ext q2.ext).put q4 (qk hd ho),by rw [put_defers];exact hdf.step q2⟩
     |some p=>
      obtain ⟨v,st'⟩:=p
      rw [hop] at h1
      refine Ky hT hc.ok (hc.free (hnf.C1 _ _)) hr.eval hop none N _ _ ?_
      rintro u w' ⟨g',q1,q2,q3⟩
      exact ih is (fun o ho=>hmem o (by simp [ho])) his _ st' g' _ w' h1 ⟨hc.step (hnf.C1 _ _) ⟨A6 hop,q1⟩ q2,(hr.ext q1.ext).put q3 (qk hd ho),by rw [put_defers];exact hdf.step q1⟩
    ·rw [hw,if_neg (by simp)]
     refine ⟨l5 none P o a w,?_⟩
     exact ih is (fun o ho=>hmem o (by simp [ho])) his _ st g _ w h1 ⟨hc,hr.put (.sc _) (qk hd ho),by rw [put_defers];exact hdf⟩
 refine wpIn_region ?_
 exact key (ops.toList.take n) (List.range ops.size) (fun o ho=>Array.mem_toList_iff.1 (List.mem_of_mem_take ho)) (by rw [List.take_append_drop];exact G6 ops) L st g a w h hh
def sj:Nat→Code→Code
 |0,.seq a _=>a
 |n+1,.seq _ b=>sj n b
 |_,_=>.skip
def Lf:Code→Array Oper
 |.region _ ops _=>ops
 |_=>#[]
def idC:Code→Nat
 |.region i _ _=>i
 |_=>0
theorem u9 {a b:Code}:sj 0 (.seq a b)=a:=rfl
theorem vo {n:Nat} {a b:Code}:sj (n+1) (.seq a b)=sj n b:=rfl
theorem z5 {i ops d}:Lf (.region i ops d)=ops:=rfl
theorem Nl:∀ {n:Nat} {c:Code},Ma (n+1) c=true→lg n c = .seq (sj n c) (lg (n+1) c)
 |0,.seq a b,_=>rfl
 |n+1,.seq a b,h=>Nl (n:=n) (c:=b) h
theorem aaf (n:Nat) (ts:List Nat) (x y:Array Value) (t:Nat):(z8 n ts x).has t=(z8 n ts y).has t:=by
 unfold NT.has z8
 rw [List.all_map,List.all_map]
 rfl
theorem Cq {n:Nat} {ts:List Nat} {x y:Array Value}:∀ {c:Code},dw (z8 n ts x) c=true→dw (z8 n ts y) c=true:=by
 intro c
 induction c with
 |region i ops d=>
  intro h
  simp only [dw,zt,te,aaf n ts y x] at h ⊢
  exact h
 |seq a b iha ihb=>intro h;simp only [dw,Bool.and_eq_true] at h ⊢;exact ⟨iha h.1,ihb h.2⟩
 |cond c a b iha ihb=>intro h;simp only [dw,Bool.and_eq_true] at h ⊢;exact ⟨iha h.1,ihb h.2⟩
 |block i b ih=>intro h;exact ih h
 |loop b ih=>intro h;exact ih h
 |scope b ih=>intro h;exact ih h
 |rangeFunc f ps a b iha ihb=>
  intro h
  simp only [dw,Bool.and_eq_true,aaf n ts y x] at h ⊢
  exact ⟨⟨⟨⟨h.1.1.1.1,iha h.1.1.1.2⟩,ihb h.1.1.2⟩,h.1.2⟩,h.2⟩
 |_=>intro _;rfl
theorem agz {P:Program} [KP P] {T:dz} (hT:aq P T) {B:da} {nt:NT} (hnf:B.fq) {N k n:Nat} {c:Code} (hsp:Ma (k+1) c=true) (hreg:sj k c = .region (idC (sj k c)) (Lf (sj k c)) false) (hs:dw nt (sj k c)=true)
 {d:Option Nat} {f:Nat} {args:List Nat} (hcall:Ez (Lf (sj k c)) n=some (d,f,args)) (he:n5 P f=true) {K:SL→St→Prop} {L st g a w} (h:opsL P T (Lf (sj k c)) ((Lf (sj k c)).toList.take n) K L st) (hh:du B nt L st g a w) {X:Exit→Act→World→Prop}
 (hK:∀ L' st' g' a' w',K L' st'→du B nt L' st' g' a' w'→Calls P f (args.map fun t=>a'.tmps.getD t undef).toArray w' (fun e w''=>∃ r,e = .returned r∧∀ a'',a''.defers=a'.defers→ra nt a''.tmps→(∀ dd,d=some dd→a''.tmps.getD dd undef=r)→(lg (k+1) c).wpIn (fk none) N P X a'' w'')) :
 (lg k c).wpIn (fk none) N P X a w:=by
 rw [Nl hsp]
 refine wpIn_seq ?_
 rw [hreg] at hs ⊢
 exact Yb hT hnf hs hcall he h hh hK
end
end Go.Vm
namespace Go.Vm
variable [TK]
theorem du.exact {B:da} {nt L st g a w} (hh:du B nt L st g a w) {t:Nat} {x:Value} (h:lk L t = .sc x):a.tmps.getD t undef=x:=by
 have:=hh.sl.2 t
 rw [h] at this
 exact this.exact rfl
theorem ao6 {g:Gh} {w:World} {tmps:Array Value}:∀ {Ls:SL},(∀ p ∈ Ls,Rel g w p.2 (tmps.getD p.1 undef))→∀ t,Rel g w (lk Ls t) (tmps.getD t undef)
 | [],_,t=>.bad _
 |p::Ls,h,t=>by
  rw [ow]
  by_cases e:p.1=t
  ·rw [if_pos e,← e];exact h p (by simp)
  ·rw [if_neg e];exact ao6 (fun q hq=>h q (by simp [hq])) t
theorem du.quiet {w0:World} {D:List Deferred} {nt L st g a w} (hh:du (Tt w0 D) nt L st g a w) (S:Nat→Prop) (m:Nat) (xx:Bool):i6 S m xx w0 w:=by
 have hb:=hh.cur.base
 exact .quiet S m xx hb.size hb.os hb.tape hb.output (fun b h=>hb.frame b h (fun h=>h))
theorem aet {nt:NT} {n:Nat} {tmps:Array Value} (h:ra nt tmps) (hn:nt.n=n):ra (n:NT) tmps:=⟨by rw [h.size,hn],fun p hp=>by cases hp⟩
end Go.Vm
namespace Go.Vm
variable [TK]
noncomputable section
section
variable (P : Program) (ρ : Operand → AV) (d : Option Tmp) (ty : TypeId) (pos : String) (af : Array Edge) (gd : Option (Nat × Bool)) (t u : TypeId) (x y : Operand)
theorem Hs (op:BinOp) (k k':IntKind) (a b:Int) (hx : ρ x = .sc (.int k a)) (hy : ρ y = .sc (.int k' b)) :
 mw P ρ ⟨d,.binOp op t x y u,ty,pos,af,gd⟩ op t (.sc (.int k a)) (.sc (.int k' b))=M.of ((ev P (binOp op t (.int k a) (.int k' b))).map .sc):=by
 have h1:∀ s:Sem Value,ev P (do pure (Next.value (← s)))=(ev P s).map Next.value:=by
  intro s
  induction s with
  |pure b=>rfl
  |program k ih=>exact ih P
  |choose q k ih=>
   simp only [bind,Sem.bind,ev]
   split
   ·exact ih 0
   ·rfl
  |mark m k ih=>exact ih
  |_=>rfl
 have h2:execOp (fun z=>((ρ z).fu).getD undef) ⟨d,.binOp op t x y u,ty,pos,af,gd⟩=(do pure (Next.value (← (do eqGuard op t x y (.int k a) (.int k' b);binOp op t (.int k a) (.int k' b))))):=by
  simp only [execOp,hx,hy,AV.fu,Option.getD_some]
 have h3:ev P (do eqGuard op t x y (.int k a) (.int k' b);binOp op t (.int k a) (.int k' b))=ev P (binOp op t (.int k a) (.int k' b)):=by
  cases op<;>rfl
 unfold mw oo
 simp only [AV.fu,Option.isSome_some,Bool.and_self,cond_true]
 rw [h2,h1,h3]
 cases ev P (binOp op t (.int k a) (.int k' b))<;>rfl
theorem ahj (k k':IntKind) (a b:Int) (h : 0≤b):ev P (binOp .shl t (.int k a) (.int k' b))=some (.int k (k.wrap (a * 2 ^ (min b.toNat k.bits)))):=by
 have:¬ b<0:=by omega
 simp [binOp,Op.shift,this,yi]
theorem ag5 (k k':IntKind) (a b:Int) (h : 0≤b):ev P (binOp .shr t (.int k a) (.int k' b))=some (.int k (a.fdiv (2 ^ (min b.toNat k.bits)))):=by
 have:¬ b<0:=by omega
 simp [binOp,Op.shift,this,yi]
theorem A5 {d:TypeDesc} (h:P.underlying t=some d):ev P (underlying t)=some d:=by
 rw [underlying]
 show ev P (match P.underlying t with|some d=>pure d|none=>_)=_
 rw [h];rfl
theorem G2 (op:BinOp) (a b:ByteArray) (hx : ρ x = .sc (.string a)) (hy : ρ y = .sc (.string b)) :
 mw P ρ ⟨d,.binOp op t x y u,ty,pos,af,gd⟩ op t (.sc (.string a)) (.sc (.string b))=M.of ((ev P (binOp op t (.string a) (.string b))).map .sc):=by
 have h1:∀ s:Sem Value,ev P (do pure (Next.value (← s)))=(ev P s).map Next.value:=by
  intro s
  induction s with
  |pure b=>rfl
  |program k ih=>exact ih P
  |choose q k ih=>
   simp only [bind,Sem.bind,ev]
   split
   ·exact ih 0
   ·rfl
  |mark m k ih=>exact ih
  |_=>rfl
 have h2:execOp (fun z=>((ρ z).fu).getD undef) ⟨d,.binOp op t x y u,ty,pos,af,gd⟩=(do pure (Next.value (← (do eqGuard op t x y (.string a) (.string b);binOp op t (.string a) (.string b))))):=by
  simp only [execOp,hx,hy,AV.fu,Option.getD_some]
 have h3:ev P (do eqGuard op t x y (.string a) (.string b);binOp op t (.string a) (.string b))=ev P (binOp op t (.string a) (.string b)):=by
  cases op<;>rfl
 unfold mw oo
 simp only [AV.fu,Option.isSome_some,Bool.and_self,cond_true]
 rw [h2,h1,h3]
 cases ev P (binOp op t (.string a) (.string b))<;>rfl
theorem str_eq (a b:ByteArray):(a.toList == b.toList)=decide (a=b):=by
 rw [ByteArray.toList_eq,ByteArray.toList_eq,Bool.eq_iff_iff]
 simp only [beq_iff_eq,decide_eq_true_eq]
 constructor
 ·intro h
  cases a;cases b
  congr 1
  exact Array.ext' h
 ·intro h;rw [h]
theorem Mg (a b:ByteArray):ev P (binOp .eql t (.string a) (.string b))=some (.bool (decide (a=b))):=by
 rw [← str_eq];rfl
theorem Nh (a b:ByteArray):ev P (binOp .neq t (.string a) (.string b))=some (.bool (!decide (a=b))):=by
 rw [← str_eq];rfl
end
def Ip (u:Option TypeDesc):Bool:=match u with|some (.slice _)=>true|_=>false
theorem Z6 (e):Ip (some (.slice e))=true:=id rfl
theorem Z3 {u} (h:Ip u=true):∃ e,u=some (.slice e):=by
 unfold Ip at h;split at h
 ·exact ⟨_,rfl⟩
 ·cases h
theorem aap {P:Program} {t op x y} (h:Ip (P.underlying t)=true):Ah P t op x y=I1 op x y:=by
 obtain ⟨e,he⟩:=Z3 h
 unfold Ah;rw [he]
theorem Oq (P:Program) (ρ o op t l sz es b):mw P ρ o op t (.vl l sz es) b=Ah P t op (.vl l sz es) b:=id rfl
theorem aa6 (b):ml .eql b=M.pure (.sc (.bool b)):=id rfl
theorem aai (b):ml .neq b=M.pure (.sc (.bool (!b))):=id rfl
theorem Dz (P:Program) (ρ:Operand→AV) (d ty pos af gd) (t u:TypeId) (x y:Operand) (op:BinOp) (a b:Option Addr) (n c m k:Nat) (hx : ρ x = .sc (.slice a n c)) (hy : ρ y = .sc (.slice b m k)) :
 mw P ρ ⟨d,.binOp op t x y u,ty,pos,af,gd⟩ op t (.sc (.slice a n c)) (.sc (.slice b m k))=M.of ((ev P (binOp op t (.slice a n c) (.slice b m k))).map .sc):=by
 have h1:∀ s:Sem Value,ev P (do pure (Next.value (← s)))=(ev P s).map Next.value:=by
  intro s
  induction s with
  |pure b=>rfl
  |program k ih=>exact ih P
  |choose q k ih=>
   simp only [bind,Sem.bind,ev]
   split
   ·exact ih 0
   ·rfl
  |mark m k ih=>exact ih
  |_=>rfl
 have h2:execOp (fun z=>((ρ z).fu).getD undef) ⟨d,.binOp op t x y u,ty,pos,af,gd⟩=(do pure (Next.value (← (do eqGuard op t x y (.slice a n c) (.slice b m k);binOp op t (.slice a n c) (.slice b m k))))):=by
  simp only [execOp,hx,hy,AV.fu,Option.getD_some]
 have h3:ev P (do eqGuard op t x y (.slice a n c) (.slice b m k);binOp op t (.slice a n c) (.slice b m k))=ev P (binOp op t (.slice a n c) (.slice b m k)):=by
  cases op<;>rfl
 unfold mw oo
 simp only [AV.fu,Option.isSome_some,Bool.and_self,cond_true]
 rw [h2,h1,h3]
 cases ev P (binOp op t (.slice a n c) (.slice b m k))<;>rfl
theorem S8 {P:Program} {t:TypeId} {a:Option Addr} {n c m k:Nat} (d:Nat) (h:Ip (P.underlying t)=true):ev P (Op.equalIn (d+1) t (.slice a n c) (.slice none m k))=some a.isNone:=by
 obtain ⟨e,he⟩:=Z3 h
 simp only [Op.equalIn]
 rw [lh,A5 P t he]
 cases a<;>rfl
theorem Ha {P:Program} {t:TypeId} {a:Option Addr} {n c m k:Nat} (h:Ip (P.underlying t)=true):ev P (binOp .eql t (.slice a n c) (.slice none m k))=some (.bool a.isNone):=by
 show ev P (do pure (Value.bool (← Op.equalIn (9999+1) t (.slice a n c) (.slice none m k))))=_
 rw [lh,S8 9999 h]
 rfl
end
end Go.Vm
