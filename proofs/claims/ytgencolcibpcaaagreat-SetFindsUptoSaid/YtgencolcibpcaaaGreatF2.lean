/- A piece of the proof. Proved: where the arguments are together of bulk at most 1048576, the law SetFinds returns true (whether sets are the same, and their order), and what it was given reads afterwards as it did before. No other conditions. -/
import Derived.WalkKit
import Derived.CallsIn
import Derived.RangeFuncIn
import Derived.RangeFuncLeaves
import Derived.Orders
import Derived.OrdersIn
import Derived.Scope
import Derived.RangeFuncOwn
import Derived.Stop.SameAnswer
import Derived.Laws.Externs
import Derived.Lib.Bytealg
import Derived.ProofKit
import Derived.OpenShut
import Derived.ReadAgain
import Derived.Deep.Slices
import Derived.ChangeSame
import Derived.Test.YtgencolcibpcaaaGreatProg
import Derived.KernelRfl
import Derived.Test.YtgencolcibpcaaaGreatRows
import Derived.Maps.RangeRun
import Derived.JoinedCond
import Derived.Test.YtgencolcibpcaaaGreatF1
set_option linter.unusedSimpArgs false
set_option linter.unusedVariables false
set_option linter.unusedSectionVars false
namespace Go.Vm
variable [TK]
noncomputable section
theorem bg.one {g w a v} (h:Rel g w a v):bg g w [a] [v]:=bg.cons h (bg.nil _ _)
theorem Lh {g w a vs} (h:bg g w [a] vs):∃ v,vs=[v]∧Rel g w a v:=by
 match vs,h with
 | [v],h=>exact ⟨v,rfl,h.head⟩
 | [],h=>have:=h.1;simp at this
 |_::_::_,h=>have:=h.1;simp at this
def as7 {α:Type} (ofV:Value→Option α) (l:List AV):Option α:=
 match l with
 | [a]=>a.exact.bind ofV
 |_=>none
def Pm {α:Type} (kd:LK) (fi : α→Value) (ofV:Value→Option α) (h1:∀ x,ofV (fi x)=some x) (h2:∀ v x,ofV v=some x→v=fi x) (h3:∀ x,(fi x).cells = #[fi x]) (h4:∀ x,(fi x).oneCell'=true) (h5:∀ x,kg (fi x)=kd):cw α where
 kd:=kd
 Dn _ _ _ _ _ _ _ hc hr:=by
  simp at hc;subst hc
  have:=hr.exact rfl
  subst this
  exact h5 _
 sz:=1
 agg:=false
 cells _ x:=[.sc (fi x)]
 dec _ _ l:=as7 ofV l
 len _ _:=rfl
 rt _ _ _ x _:=h1 x
 one _ _ x:=⟨_,rfl,by simp [AV.cells,h3],rfl⟩
 pl _ x c hc:=by simp at hc;subst hc;exact ⟨fun τ=>by simp [AV.db],by simp [AV.names],h4 x,rfl⟩
 fr x c hc:=by simp at hc;subst hc;rfl
 ok:=by
  intro fr g h w K b0 l vs x _ _ _ hr hd
  match l,hd with
  | [a],hd=>
   obtain ⟨u,rfl,hu⟩:=Lh hr
   cases a with
   |sc v=>
    have:=hu.exact rfl
    subst this
    have:=h2 _ _ hd
    subst this
    exact bg.one (.sc _)
   |_=>cases hd
def akg (k:IntKind) (v:Value):Option Int:=
 match v with
 |.int k' n=>bif decide (k'=k) then some n else none
 |_=>none
def bo (k:IntKind):cw Int:=Pm (.int k) (fun n=>.int k n) (akg k) (fun x=>by simp [akg]) (fun v x h=>by
 cases v<;>simp [akg] at h
 rename_i k' n
 by_cases e:k'=k
 ·subst e;simp at h;rw [h]
 ·simp [e] at h) (fun x=>rfl) (fun x=>rfl) (fun x=>rfl)
def bc:cw Bool:=Pm .bool (fun b=>.bool b) lx (fun x=>rfl) (fun v x h=>by cases v<;>simp [lx] at h;rw [h]) (fun x=>rfl) (fun x=>rfl) (fun x=>rfl)
def aq:cw ByteArray:=Pm .str (fun s=>.string s) strOf (fun x=>rfl) (fun v x h=>by cases v<;>simp [strOf] at h;rw [h]) (fun x=>rfl) (fun x=>rfl) (fun x=>rfl)
def u8V (v:Value):Option UInt8:=
 match v with
 |.int k n=>bif decide (k = .u8) && decide (0≤n) && decide (n<256) then some (UInt8.ofNat n.toNat) else none
 |_=>none
def ay:cw UInt8:=Pm (.int .u8) (fun n=>.int .u8 n.toNat) u8V (fun x=>by
 have:=x.toNat_lt
 simp [u8V,show (x.toNat:Int)<256 by omega]) (fun v x h=>by
 cases v<;>simp [u8V] at h
 rename_i k n
 cases hb:(decide (k = .u8) && decide (0≤n) && decide (n<256)) with
 |false=>rw [hb] at h;cases h
 |true=>
  rw [hb] at h
  simp at hb h
  obtain ⟨⟨rfl,h0⟩,h1⟩:=hb
  subst h
  congr 1
  rw [UInt8.toNat_ofNat']
  omega) (fun x=>rfl) (fun x=>rfl) (fun x=>rfl)
def alz (v:Value):Option UInt16:=
 match v with
 |.int k n=>bif decide (k = .u16) && decide (0≤n) && decide (n<65536) then some (UInt16.ofNat n.toNat) else none
 |_=>none
def bj:cw UInt16:=Pm (.int .u16) (fun n=>.int .u16 n.toNat) alz (fun x=>by
 have:=x.toNat_lt
 simp [alz,show (x.toNat:Int)<65536 by omega]) (fun v x h=>by
 cases v<;>simp [alz] at h
 rename_i k n
 cases hb:(decide (k = .u16) && decide (0≤n) && decide (n<65536)) with
 |false=>rw [hb] at h;cases h
 |true=>
  rw [hb] at h
  simp at hb h
  obtain ⟨⟨rfl,h0⟩,h1⟩:=hb
  subst h
  congr 1
  rw [UInt16.toNat_ofNat']
  omega) (fun x=>rfl) (fun x=>rfl) (fun x=>rfl)
def ake (v:Value):Option UInt32:=
 match v with
 |.int k n=>bif decide (k = .u32) && decide (0≤n) && decide (n<4294967296) then some (UInt32.ofNat n.toNat) else none
 |_=>none
def br:cw UInt32:=Pm (.int .u32) (fun n=>.int .u32 n.toNat) ake (fun x=>by
 have:=x.toNat_lt
 simp [ake,show (x.toNat:Int)<4294967296 by omega]) (fun v x h=>by
 cases v<;>simp [ake] at h
 rename_i k n
 cases hb:(decide (k = .u32) && decide (0≤n) && decide (n<4294967296)) with
 |false=>rw [hb] at h;cases h
 |true=>
  rw [hb] at h
  simp at hb h
  obtain ⟨⟨rfl,h0⟩,h1⟩:=hb
  subst h
  congr 1
  rw [UInt32.toNat_ofNat']
  omega) (fun x=>rfl) (fun x=>rfl) (fun x=>rfl)
theorem arp {g w l n es v} (h:Rel g w (.vl l n es) v):kg v = .no:=by cases h<;>rfl
def bh {α:Type} (C:cw α):cw (List α) where
 sz:=1
 kd:=.no
 Dn _ _ _ _ _ _ _ hc hr:=by simp at hc;subst hc;exact arp hr
 agg:=false
 cells l xs:=[.vl l C.sz (xs.map (C.val l))]
 dec:=al8 C
 len _ _:=rfl
 rt:=by
  intro fr h l x hl
  simp only [al8,gw]
  cases hb:(Nat.beq C.sz C.sz && (l || !fr)) with
  |false=>cases fr<;>simp_all
  |true=>rw [cond_true,Ml C fr h l hl]
 one _ _ x:=⟨_,rfl,rfl,rfl⟩
 pl l xs c hc:=by
  simp at hc;subst hc
  exact ⟨fun τ=>by rw [AV.db,Ku (fun c hc=>by obtain ⟨x,_,rfl⟩:=List.mem_map.1 hc;exact H3 C τ l x)],by simp [AV.names],rfl,rfl⟩
 fr xs c hc:=by
  simp at hc;subst hc
  simp only [AV.fresh,Bool.true_and]
  exact Fw (fun c hc=>by obtain ⟨x,_,rfl⟩:=List.mem_map.1 hc;exact ahk C x)
 ok:=by
  intro fr g h w K b0 l vs x hok hl hb hr hd
  match l,hd with
  | [a],hd=>
   obtain ⟨u,rfl,hu⟩:=Lh hr
   exact bg.one (ank C hok hl hb hu hd)
def k6 {α β:Type} (A:cw α) (B:cw β):cw (α × β) where
 sz:=A.sz+B.sz
 kd:=bif Nat.beq A.sz 1 then A.kd else B.kd
 Dn e _ _ l x c v hc hr:=by
  rcases Nat.lt_or_ge 0 A.sz with h|h
  ·have ha:A.sz=1:=by omega
   have hb:B.cells l x.2=[]:=List.eq_nil_of_length_eq_zero (by rw [B.len];omega)
   rw [hb,List.append_nil] at hc
   rw [ha]
   exact A.Dn ha hc hr
  ·have ha:A.sz=0:=by omega
   have hb:A.cells l x.1=[]:=List.eq_nil_of_length_eq_zero (by rw [A.len];omega)
   rw [hb,List.nil_append] at hc
   rw [ha]
   exact B.Dn (by omega) hc hr
 agg:=true
 cells l p:=A.cells l p.1++B.cells l p.2
 dec fr h l:=match A.dec fr h (l.take A.sz),B.dec fr h (l.drop A.sz) with
  |some x,some y=>some (x,y)
  |_,_=>none
 len l p:=by simp [A.len,B.len]
 rt:=by
  intro fr h l p hl
  have h1:(A.cells l p.1++B.cells l p.2).take A.sz=A.cells l p.1:=by rw [← A.len l p.1,List.take_left]
  have h2:(A.cells l p.1++B.cells l p.2).drop A.sz=B.cells l p.2:=by rw [← A.len l p.1,List.drop_left]
  simp only [h1,h2,A.rt fr h l _ hl,B.rt fr h l _ hl]
 one e:=by cases e
 pl l p c hc:=by rcases List.mem_append.1 hc with h|h;exact A.pl l _ c h;exact B.pl l _ c h
 fr p c hc:=by rcases List.mem_append.1 hc with h|h;exact A.fr _ c h;exact B.fr _ c h
 ok:=by
  intro fr g h w K b0 l vs x hok hl hb hr hd
  split at hd
  ·rename_i x1 y1 hx hy
   simp at hd;subst hd
   have:=(A.ok hok hl hb (hr.take A.sz) hx).append (B.ok hok hl hb (hr.drop A.sz) hy)
   rwa [List.take_append_drop] at this
  ·cases hd
def Da {α β:Type} (C:cw α) (f : β → α) (i : α → β) (h1:∀ y,i (f y)=y) (h2:∀ x,f (i x)=x):cw β where
 sz:=C.sz
 kd:=C.kd
 Dn e _ _ _ _ _ _ hc hr:=C.Dn e hc hr
 agg:=C.agg
 cells l y:=C.cells l (f y)
 dec fr h l:=(C.dec fr h l).map i
 len l y:=C.len l (f y)
 rt fr h l y hl:=by rw [C.rt fr h l _ hl];simp [h1]
 one e l y:=C.one e l (f y)
 pl l y:=C.pl l (f y)
 fr y:=C.fr (f y)
 ok:=by
  intro fr g h w K b0 l vs x hok hl hb hr hd
  rw [Option.map_eq_some_iff] at hd
  obtain ⟨y,hy,rfl⟩:=hd
  rw [h2]
  exact C.ok hok hl hb hr hy
structure AC (α:Type) where
 E : α→List AV
 D:Tr ba→List AV→Option α
 rt:∀ h x,D h (E x)=some x
 ok:∀ {g h w K b0 l vs x},Ok g h w→rz g h K→bg g w l vs→D h l=some x→bg (gK b0 K) w (E x) vs
def AC.get {α:Type} (A:AC α) (h:Tr ba) (l:List AV):Option α:=A.D h l
def a0:AC Unit where
 E _:=[]
 D _ l:=match l with
  | []=>some ()
  |_=>none
 rt _ _:=rfl
 ok:=by
  intro g h w K b0 l vs x _ _ hr hd
  match l,hd with
  | [],_=>
   have:=hr.1
   simp at this
   subst this
   exact bg.nil _ _
def aC {α β:Type} (C:cw α) (R:AC β):AC (α × β) where
 E p:=C.val false p.1::R.E p.2
 D h l:=match l with
  | []=>none
  |a::r=>match C.ga false h a,R.D h r with
   |some x,some y=>some (x,y)
   |_,_=>none
 rt h p:=by simp only [C.Fm false h false p.1 (fun e=>by cases e),R.rt]
 ok:=by
  intro g h w K b0 l vs x hok hl hr hd
  match l,hd with
  |a::r,hd=>
   simp only at hd
   split at hd
   ·rename_i x1 y1 hx hy
    simp at hd;subst hd
    match vs,hr with
    | [],hr=>have:=hr.1;simp at this
    |v::vs,hr=>exact bg.cons (C.N6 hok hl (fun e=>by cases e) hr.head hx) (R.ok hok hl hr.tail hy)
   ·cases hd
structure RC (α:Type) where
 E:Bool → α→AV
 D:Bool→Tr ba→AV→Option α
 ok:∀ {fr g h w K b0 a v x},Ok g h w→rz g h K→(fr=true→b0≤g.b0)→Rel g w a v→D fr h a=some x→Rel (gK b0 K) w (E fr x) v
def RC.get {α:Type} (R:RC α) (fr:Bool) (h:Tr ba) (a:AV):Option α:=R.D fr h a
def r1 {α:Type} (C:cw α):RC α where
 E:=C.val
 D:=C.ga
 ok hok hl hb hr hd:=C.N6 hok hl hb hr hd
def Dw (a:AV):Option (List AV):=
 match a with
 |.gb l=>some l
 |.sc v=>match v with
  |.tuple vs=>some (vs.toList.map .sc)
  |_=>none
 |_=>none
theorem ab2 {g w a v l} (hr:Rel g w a v) (h:Dw a=some l):∃ vs,v = .tuple vs∧bg g w l vs.toList:=by
 cases hr with
 |gb l' vs hs hh=>
  simp [Dw] at h;subst h
  exact ⟨vs,rfl,⟨by simpa using hs,fun i a v ha hv=>hh i a v ha (by simpa using hv)⟩⟩
 |sc v=>
  cases v<;>simp [Dw] at h
  subst h
  exact ⟨_,rfl,bg.zu g w _⟩
 |_=>cases h
theorem abp {g w l} {vs:Array Value} (h:bg g w l vs.toList):Rel g w (.gb l) (.tuple vs):=
 .gb l vs (by simpa using h.1) (fun i a v ha hv=>h.2 i a v ha (by simpa using hv))
def r2 {α β:Type} (A:cw α) (B:cw β):RC (α × β) where
 E l p:=.gb [A.val l p.1,B.val l p.2]
 D fr h a:=match Dw a with
  |some [a,b]=>match A.ga fr h a,B.ga fr h b with
   |some x,some y=>some (x,y)
   |_,_=>none
  |_=>none
 ok:=by
  intro fr g h w K b0 a v x hok hl hb hr hd
  cases ht:Dw a with
  |none=>rw [ht] at hd;cases hd
  |some l=>
   rw [ht] at hd
   obtain ⟨vs,rfl,hrel⟩:=ab2 hr ht
   match l,hd with
   | [a,b],hd=>
    simp only at hd
    split at hd
    ·rename_i x1 y1 hx hy
     simp at hd;subst hd
     obtain ⟨vl⟩:=vs
     match vl,hrel with
     | [u,v],hrel=>exact abp (bg.cons (A.N6 hok hl hb hrel.head hx) (bg.one (B.N6 hok hl hb hrel.tail.head hy)))
     | [],hrel=>have:=hrel.1;simp at this
     | [_],hrel=>have:=hrel.1;simp at this
     |_::_::_::_,hrel=>have:=hrel.1;simp at this
    ·cases hd
def r3 {α β γ:Type} (A:cw α) (B:cw β) (C:cw γ):RC (α × β × γ) where
 E l p:=.gb [A.val l p.1,B.val l p.2.1,C.val l p.2.2]
 D fr h a:=match Dw a with
  |some [a,b,c]=>match A.ga fr h a,B.ga fr h b,C.ga fr h c with
   |some x,some y,some z=>some (x,y,z)
   |_,_,_=>none
  |_=>none
 ok:=by
  intro fr g h w K b0 a v x hok hl hb hr hd
  cases ht:Dw a with
  |none=>rw [ht] at hd;cases hd
  |some l=>
   rw [ht] at hd
   obtain ⟨vs,rfl,hrel⟩:=ab2 hr ht
   match l,hd with
   | [a,b,c],hd=>
    simp only at hd
    split at hd
    ·rename_i x1 y1 z1 hx hy hz
     simp at hd;subst hd
     obtain ⟨vl⟩:=vs
     match vl,hrel with
     | [u,v,t],hrel=>exact abp (bg.cons (A.N6 hok hl hb hrel.head hx) (bg.cons (B.N6 hok hl hb hrel.tail.head hy) (bg.one (C.N6 hok hl hb hrel.tail.tail.head hz))))
     | [],hrel=>have:=hrel.1;simp at this
     | [_],hrel=>have:=hrel.1;simp at this
     | [_,_],hrel=>have:=hrel.1;simp at this
     |_::_::_::_::_,hrel=>have:=hrel.1;simp at this
    ·cases hd
structure u9 (w w':World):Prop where
 size:w.heap.size≤w'.heap.size
 heap:∀ b,b<w.heap.size→w'.heap[b]? = w.heap[b]?
 os:w'.os=w.os
 tape:w'.tape=w.tape
 output:w'.output=w.output
def G5 (K:Nat→Nat→Prop) (w w':World):Nat→Nat→Prop:=fun b j=>K b j∨(w.heap.size≤b∧b<w'.heap.size)
def abc (P:Program) (f:Nat) (vs:List Value) (w:World) (X:Value→World→Prop):Prop:=
 (∃ v,(callFunc f vs.toArray).run P w = .ok (.value v) w∧X v w) ∨
 ((callFunc f vs.toArray).run P w = .ok (.enter f vs.toArray) w∧Calls P f vs.toArray w (fun e w'=>∃ v,e = .returned v∧X v w'))
def bb (P:Program) (f:Nat) (args:List AV) (r:AV):Prop:=
 ∀ (K:Nat→Nat→Prop) (w:World) (vs:List Value),(∀ b j,K b j→b<w.heap.size)→bg (gK w.heap.size K) w args vs →
  abc P f vs w (fun v w'=>u9 w w'∧Rel (gK w.heap.size (G5 K w w')) w' r v)
theorem Ps {P:Program} [KP P] {g w nt} {L:SL} {tmps:Array Value} {st:St} (hok:Ok g st.h w) (hs:fp g w nt L tmps):∀ (rs:List ResultVar) (l:List AV),om P L st rs=some l →
 ∃ vs,(rs.mapM (rm tmps)).run P w = .ok vs w∧bg g w l vs:=by
 intro rs
 induction rs with
 |nil=>intro l h;simp [om] at h;subst h;exact ⟨[],by simp,bg.nil _ _⟩
 |cons r rs ih=>
  intro l h
  cases r with
  |tmp t=>
   simp only [om,Option.map_eq_some_iff] at h
   obtain ⟨l',h1,rfl⟩:=h
   obtain ⟨vs,h2,h3⟩:=ih l' h1
   refine ⟨tmps.getD t undef::vs,?_,bg.cons (hs.2 t) h3⟩
   simp only [List.mapM_cons,Sem.run_bind,rm,Sem.run_pure,Result.andThen_ok,h2]
  |cell c t=>
   simp only [om] at h
   split at h
   ·rename_i v st' hl
    rw [Option.map_eq_some_iff] at h
    obtain ⟨l',h1,rfl⟩:=h
    obtain ⟨vs,h2,h3⟩:=ih l' h1
    have hrel:=hs.2 c
    have hptr:∃ ad,tmps.getD c undef = .pointer (some ad):=by
     generalize lk L c=x at hrel hl
     generalize tmps.getD c undef=v at hrel
     cases hrel<;>first|exact ⟨_,rfl⟩|cases hl
    obtain ⟨ad,had⟩:=hptr
    obtain ⟨u,h4,h5⟩:=afx (P:=P) hok hrel hl had
    refine ⟨u::vs,?_,bg.cons h5 h3⟩
    have h6:(rm tmps (.cell c t)).run P w = .ok u w:=by simp [rm,had,asAddr,h4]
    simp only [List.mapM_cons,Sem.run_bind,h6,Result.andThen_ok,h2]
    rfl
   ·cases h
theorem Oz {P:Program} [KP P] {g w} {fn:Func} {tmps:Array Value} {l:List AV} {vs:List Value} (h:(fn.results.toList.mapM (rm tmps)).run P w = .ok vs w) (q4:bg g w l vs) :
 ∃ v,(results fn tmps).run P w = .ok v w∧Rel g w (pack l) v:=by
 have hmap:(fn.results.mapM (rm tmps)).run P w = .ok vs.toArray w:=by
  rw [Array.mapM_eq_mapM_toList]
  simp [h]
 rw [afw]
 simp only [Sem.run_bind,hmap,Result.andThen_ok,Sem.run_pure]
 refine ⟨_,rfl,?_⟩
 match l,vs,q4 with
 | [a1],[v1],q4=>simpa [pack] using q4.head
 | [],[],q4=>simp [pack];exact .gb _ _ rfl (fun i a v h _=>by simp at h)
 |a1::a2::l,v1::v2::vs,q4=>
  simp [pack]
  exact .gb _ _ (by have:=q4.1;simp at this ⊢;omega) (fun i a v h1 h2=>q4.2 i a v h1 (by simpa using h2))
 | [],v::vs,q4=>have:=q4.1;simp at this
 |a::l,[],q4=>have:=q4.1;simp at this
 | [a1],v1::v2::vs,q4=>have:=q4.1;simp at this
 |a1::a2::l,[v1],q4=>have:=q4.1;simp at this
theorem Pp {P:Program} [KP P] {T:dq} (hT:ai P T) (hm:P.follows .mixedOrders=true) {f:Nat} {fn:Func} {body:Code} (hf:P.funcs[f]? = some fn) (hb:fn.body=some body) (he:mg P f=true) (hs:dm fn.ntmps body=true)
 {args:List AV} (hl:args.length≤fn.ntmps) {ρ:Type} (R:RC ρ) (fr:Bool) (x : ρ)
 (h:wl P T 0 body (cy P fn.results.toList (fun r st=>R.get fr st.h r=some x)) (cf 0 args) (bk [])):bb P f args (R.E fr x):=by
 intro K w vs hK hrel
 refine .inr ⟨sn he _ _,tn (ro:=none) (n:=0) (callsIn_of_wp_marks hf hb trivial ?_)⟩
 let B:dx:={ b0:=w.heap.size,w,K,O:=fun _=>False,ar:=0,pb:=fun _=>none,n0:=w.heap.size }
 have hcur:g9 B (gK w.heap.size K) (bk []) w:=by
  refine ⟨⟨Nat.le_refl _,fun o x hx=>?_,fun o o' x x' b base base' _ hx=>?_,hK⟩,fun o _ _=>rfl,⟨rfl,(fun o ho=>(by rcases ho with ho|ho;cases ho;exact ho.elim)),fun _ _ h=>h,fun _ _ _=>rfl,Nat.le_refl _,rfl,rfl,rfl,fun _ _ _=>rfl,fun o b base ho=>?_,fun _ _ h=>.inl h,fun b cs e fr h=>⟨cs,fr,h,rfl⟩,fun b l h=>⟨l,h⟩,fun _ _ _ _ _ _=>rfl⟩,Nat.zero_le _⟩
  ·simp [bk,kb,Tr.get_nil] at hx
  ·simp [bk,kb,Tr.get_nil] at hx
  ·simp [bk,kb,Tr.get_nil] at ho
 refine wpIn_mono (ad4 hT hm (N:=0) (B:=B) (nt:=fn.ntmps) (fun _ h=>h) (by show (0:Nat)≤1000;omega) (Nat.le_refl _) body hs _ _ _ (gK w.heap.size K) w _ h hcur (yy hrel hl) (Marks.nil _ _ _ _)) ?_
 rintro ex a w' ⟨e,L,st,g,rfl,hq,hc,hr,hd⟩
 have fin:By (om P L st fn.results.toList) (fun r st=>R.get fr st.h r=some x) st→bodyPostM (fu none) 0 P fn (fun e w'=>∃ v,e = .returned v∧u9 w w'∧Rel (gK w.heap.size (G5 K w w')) w' (R.E fr x) v) .ret a w':=by
  intro hq
  show LeavesInM (fu none) 0 P fn a.tmps _ a.defers .returning w'
  unfold By at hq
  cases hres:om P L st fn.results.toList with
  |none=>rw [hres] at hq;exact hq.elim
  |some l=>
   rw [hres] at hq
   have hbs:=hc.base
   obtain ⟨bs,e1,e2,e3⟩:=hd
   have e1:=e1.trans (List.append_nil _)
   rw [e1]
   refine B3 (Good:=fun u=>Ok g st.h u∧u9 w u∧(∀ a v,Rel g w' a v→Rel g u a v)∧u.heap.size=w'.heap.size) (S:=fun b=>w.heap.size≤b∧ft g st.h b) ?_ ?_ bs w'
    ⟨hc.ok,⟨hbs.size,fun b hlt=>hbs.frame b hlt (fun h=>h),hbs.os,hbs.tape,hbs.output⟩,fun _ _ h=>h,rfl⟩ e2 (fun b hb=>⟨⟨(e3 b hb).1,(e3 b hb).2.2⟩,(e3 b hb).2.1⟩)
   ·rintro u b ⟨g1,g2,g3,g4⟩ ⟨hb1,hb2⟩ hb3
    have hput:=Ok.B0 (ds':=none) g1 hb3 hb2
    exact ⟨hput.1,⟨by rw [ju];exact g2.size,fun c hc=>(dt u _ (by omega)).trans (g2.heap c hc),g2.os,g2.tape,g2.output⟩,fun a v h=>hput.2 a v (g3 a v h),by rw [ju];exact g4⟩
   ·rintro u ⟨g1,g2,g3,g4⟩
    obtain ⟨us,h1,h2⟩:=Ps (P:=P) g1 ⟨hr.1,fun t=>g3 _ _ (hr.2 t)⟩ fn.results.toList l hres
    obtain ⟨v,h3,h4⟩:=Oz h1 h2
    refine ⟨v,h3,v,rfl,g2,?_⟩
    refine R.ok g1 ⟨fun b j hk=>?_,fun o cells k s e ho b base hi j hj=>?_⟩ (fun _=>?_) h4 hq
    ·rcases hbs.l5 b j hk with h5|h5|h5
     ·exact .inl h5
     ·exact .inr ⟨h5,g1.K b j hk⟩
     ·exact h5.elim
    ·obtain ⟨b',base',h5,_,h6⟩:=g1.obj o _ ho
     rw [hi] at h5;cases h5
     rcases hbs.own o b base (by rw [ho];rfl) hi with h7|h7
     ·exact .inr ⟨h7,h6.lt⟩
     ·exact h7.elim
    ·rw [hbs.b0];exact Nat.le_refl _
 cases e with
 |normal=>exact fin hq
 |ret=>exact fin hq
 |exit id=>exact hq.elim
theorem Rel.lift {b0 K g w a v} (h:Rel (gK b0 K) w a v) (hb:g.b0≤b0) (hK:∀ b j,K b j→g.K b j):Rel g w a v:=by
 have hno:∀ o p,(gK b0 K).inj o≠some p:=fun o p e=>by cases e
 generalize hg:gK b0 K=g0 at h hno
 have hK':∀ b j,g0.K b j→g.K b j:=by subst hg;exact hK
 have hb':g.b0≤g0.b0:=by subst hg;exact hb
 clear hg
 induction h with
 |sc x=>exact .sc x
 |agg l vs hs _ ih=>exact .agg l vs hs ih
 |gb l vs hs _ ih=>exact .gb l vs hs ih
 |vl loc sz es b off cap c hsz hl hcap h _ hw ih=>exact .vl loc sz es b off cap c hsz (fun e=>Nat.le_trans hb' (hl e)) hcap (fun j a hj=>⟨hK' _ _ (h j a hj).1,(h j a hj).2⟩) ih (fun e=>⟨fun j=>hK' _ _ ((hw e).K j),(hw e).ij,(hw e).none,(hw e).cm⟩)
 |iu loc sz=>exact .iu loc sz
 |oq loc sz a=>exact .oq loc sz a
 |sl o off len sz b base cap hi hc hm hr=>exact (hno _ _ hi).elim
 |ow o off sz a=>exact .ow o off sz a
 |pf o off sz=>exact .pf o off sz
 |ez a=>exact .ez a
 |ptr o off b base hi=>exact (hno _ _ hi).elim
 |ff l b off c h _ ih=>exact .ff l b off c (fun j a hj=>⟨hK' _ _ (h j a hj).1,(h j a hj).2⟩) ih
 |fn f first captured va vb hs _ hs' _ ih ih'=>exact .fn f first captured va vb hs ih hs' ih'
 |mp o b base hi=>exact (hno _ _ hi).elim
 |m7 t a v _ ih=>exact .m7 t a v ih
 |yl o b base hi=>exact (hno _ _ hi).elim
 |bad v=>exact .bad v
theorem zo {l:List AV} (h:AV.fresh.go l=true):∀ a ∈ l,a.fresh=true:=by
 induction l with
 |nil=>intro a ha;cases ha
 |cons x l ih=>
  simp only [AV.fresh.go,Bool.and_eq_true] at h
  intro a ha
  rcases List.mem_cons.1 ha with rfl|ha
  ·exact h.1
  ·exact ih h.2 a ha
theorem aas {a:AV} (h:a.fresh=true):∀ c ∈ a.cells,c.fresh=true:=by
 cases a with
 |agg l=>exact zo h
 |sc v=>intro c hc;simp only [AV.cells,List.mem_map] at hc;obtain ⟨x,_,rfl⟩:=hc;rfl
 |_=>intro c hc;simp only [AV.cells,List.mem_singleton] at hc;subst hc;exact h
theorem Rel.fresh {b0 K g w a v} (h:Rel (gK b0 K) w a v) (hf:a.fresh=true) (hb:g.b0≤b0) (hK:∀ b j,K b j→b0≤b→g.K b j):Rel g w a v:=by
 generalize hg:gK b0 K=g0 at h
 have hK':∀ b j,g0.K b j→g0.b0≤b→g.K b j:=by subst hg;exact hK
 have hb':g.b0≤g0.b0:=by subst hg;exact hb
 clear hg hb hK
 induction h with
 |sc x=>exact .sc x
 |agg l vs hs _ ih=>exact .agg l vs hs (fun i a v ha hv=>ih i a v ha hv (zo hf a (List.mem_of_getElem? ha)))
 |gb l vs hs _ ih=>exact .gb l vs hs (fun i a v ha hv=>ih i a v ha hv (zo hf a (List.mem_of_getElem? ha)))
 |vl loc sz es b off cap c hsz hl hcap h _ hw ih=>
  simp only [AV.fresh,Bool.and_eq_true] at hf
  have hbb:=hl hf.1
  refine .vl loc sz es b off cap c hsz (fun e=>Nat.le_trans hb' hbb) hcap (fun j a hj=>⟨hK' _ _ (h j a hj).1 hbb,(h j a hj).2⟩) (fun j a hj=>ih j a hj ?_) (fun e=>⟨fun j=>hK' _ _ ((hw e).K j) hbb,(hw e).ij,(hw e).none,(hw e).cm⟩)
  obtain ⟨e,he,hc⟩:=List.mem_flatMap.1 (List.mem_of_getElem? hj)
  exact aas (zo hf.2 e he) a hc
 |iu loc sz=>exact .iu loc sz
 |oq loc sz a=>exact .oq loc sz a
 |sl o off len sz b base cap hi hc hm hr=>cases hf
 |ow o off sz a=>cases hf
 |pf o off sz=>cases hf
 |ez a=>exact .ez a
 |ptr o off b base hi=>cases hf
 |ff l b off c h _ ih=>cases hf
 |fn f first captured va vb hs _ hs' _ ih ih'=>
  simp only [AV.fresh,Bool.and_eq_true] at hf
  exact .fn f first captured va vb hs (fun i a v ha hv=>ih i a v ha hv (zo hf.1 a (List.mem_of_getElem? ha))) hs' (fun i a v ha hv=>ih' i a v ha hv (zo hf.2 a (List.mem_of_getElem? ha)))
 |mp o b base hi=>cases hf
 |m7 t a v _ ih=>exact .m7 t a v (ih hf)
 |yl o b base hi=>cases hf
 |bad v=>cases hf
def Gh.more (g:Gh) (w w':World):Gh:={ g with K:=G5 g.K w w' }
theorem M7 {g h w w'} {lo hi:Nat} (hok:Ok g h w) (q:u9 w w'):Step g h w lo hi (g.more w w') h w'∧Ok (g.more w w') h w':=by
 have hext:Ext g w (g.more w w') w':=by
  refine ⟨rfl,fun _ _ h=>h,fun _ _ h=>.inl h,fun b j hj=>k5 (q.heap b (hok.K b j hj)),fun b cs e fr hb=>⟨cs,fr,(q.heap b (be hb)).trans hb,rfl⟩,fun b l hb=>⟨l,(q.heap b (be hb)).trans hb⟩,fun b cs e fr hb _=>q.heap b (be hb)⟩
 refine ⟨⟨hext,q.size,q.os,q.tape,q.output,fun b hb _=>q.heap b hb,fun _ h _=>h,fun o b base ho hi=>.inr ⟨o,base,ho,hi⟩,fun b j hk=>?_⟩,⟨Nat.le_trans hok.size q.size,fun o x hx=>?_,hok.sep,fun b j hk=>?_⟩⟩
 ·rcases hk with hk|hk
  ·exact .inl hk
  ·exact .inr (.inl hk.1)
 ·refine (hok.nw o x hx).imp id ?_
  rintro ⟨b,base,h1,h2,h3⟩
  refine ⟨b,base,h1,h2,h3.ext hext (q.heap b h3.lt) (fun j hk=>?_)⟩
  rcases hk with hk|hk
  ·exact hk
  ·have:=h3.lt;omega
 ·rcases hk with hk|hk
  ·exact Nat.lt_of_lt_of_le (hok.K b j hk) q.size
  ·exact hk.2
noncomputable def cx {α:Type} (A:AC α) (F : α→Option AV) (args:List AV):M AV:=fun st=>
 match A.get .nil args with
 |some x=>(F x).map fun r=>(r,st)
 |none=>
  match A.get st.h args with
  |some x=>
   match F x with
   |some r=>bif r.fresh then some (r,st) else some (r,{ st with h:=.nil })
   |none=>none
  |none=>none
theorem ak {P:Program} [KP P] {f:Nat} {α:Type} {A:AC α} {F : α→Option AV} (h:∀ x r,F x=some r→bb P f (A.E x) r) (args:List AV):yq P f args (cx A F args):=by
 intro g st w vs r st' hok hfree hrel hm
 have go:∀ (X:Value→World→Prop),abc P f vs w X→(∀ v w',X v w'→u9 w w'∧Rel (g.more w w') w' r v)→st'=st →
  (∃ v w' g',(callFunc f vs.toArray).run P w = .ok (.value v) w'∧Step g st.h w st.nx st'.nx g' st'.h w'∧Ok g' st'.h w'∧Rel g' w' r v) ∨
  ((callFunc f vs.toArray).run P w = .ok (.enter f vs.toArray) w∧Calls P f vs.toArray w (fun e w'=>∃ v g',e = .returned v∧Step g st.h w st.nx st'.nx g' st'.h w'∧Ok g' st'.h w'∧Rel g' w' r v)):=by
  intro X hx hX e
  subst e
  rcases hx with ⟨v,h1,h2⟩|⟨h1,h2⟩
  ·obtain ⟨q,hr⟩:=hX v w h2
   have:=M7 (lo:=st'.nx) (hi:=st'.nx) hok q
   exact .inl ⟨v,w,_,h1,this.1,this.2,hr⟩
  ·refine .inr ⟨h1,h2.mono ?_⟩
   rintro e w' ⟨v,rfl,h3⟩
   obtain ⟨q,hr⟩:=hX v w' h3
   have:=M7 (lo:=st'.nx) (hi:=st'.nx) hok q
   exact ⟨v,_,rfl,this.1,this.2,hr⟩
 unfold cx at hm
 cases h1:A.get .nil args with
 |some x=>
  rw [h1] at hm
  simp only [Option.map_eq_some_iff] at hm
  obtain ⟨r',h2,h3⟩:=hm
  cases h3
  have hargs:=A.ok (b0:=w.heap.size) (hok.part (hm:=.nil) (fun o x hx=>by rw [Tr.get_nil] at hx;cases hx)) (rz.nil g g.K (fun _ _ h=>h)) hrel h1
  refine go _ (h x r h2 g.K w vs hok.K hargs) (fun v w' hv=>⟨hv.1,hv.2.lift hok.size (fun b j hk=>hk)⟩) rfl
 |none=>
  rw [h1] at hm
  simp only at hm
  cases h2:A.get st.h args with
  |none=>rw [h2] at hm;cases hm
  |some x=>
   rw [h2] at hm
   simp only at hm
   cases h3:F x with
   |none=>rw [h3] at hm;cases hm
   |some r'=>
    rw [h3] at hm
    simp only at hm
    cases h4:r'.fresh with
    |false=>
     rw [h4] at hm
     cases hm
     obtain ⟨K1,eK⟩:∃ K1:Nat→Nat→Prop,(fun b j=>g.K b j∨((∃ o base,(st.h.get o).isSome=true∧g.inj o=some (b,base))∧b<w.heap.size))=K1:=⟨_,rfl⟩
     have hK1:∀ b j,K1 b j↔(g.K b j∨((∃ o base,(st.h.get o).isSome=true∧g.inj o=some (b,base))∧b<w.heap.size)):=fun b j=>by rw [← eK]
     have hK1s:∀ b j,K1 b j→b<w.heap.size:=fun b j hk=>((hK1 b j).1 hk).elim (hok.K b j) (fun q=>q.2)
     have hargs:=A.ok (b0:=w.heap.size) (K:=K1) hok ⟨fun b j hk=>(hK1 b j).2 (.inl hk),fun o cells k s e ho b base hi j hj=>by
      obtain ⟨b',base',h5,_,h6⟩:=hok.obj o _ ho
      rw [hi] at h5;cases h5
      exact (hK1 _ _).2 (.inr ⟨⟨o,base,by rw [ho];rfl,hi⟩,h6.lt⟩)⟩ hrel h2
     have fin:∀ (v:Value) (w':World),u9 w w'∧Rel (gK w.heap.size (G5 K1 w w')) w' r v →
      Step g st.h w st.nx st.nx { g with K:=G5 K1 w w' } .nil w'∧Ok { g with K:=G5 K1 w w' } .nil w'∧Rel { g with K:=G5 K1 w w' } w' r v:=by
      rintro v w' ⟨q,hr⟩
      refine ⟨⟨⟨rfl,fun _ _ h=>h,fun b j h=>.inl ((hK1 b j).2 (.inl h)),fun b j hj=>k5 (q.heap b (hok.K b j hj)),fun b cs e fr hb=>⟨cs,fr,(q.heap b (be hb)).trans hb,rfl⟩,fun b l hb=>⟨l,(q.heap b (be hb)).trans hb⟩,fun b cs e fr hb _=>q.heap b (be hb)⟩,
       q.size,q.os,q.tape,q.output,fun b hb _=>q.heap b hb,fun _ h _=>h,fun o b base ho hi=>(by rw [Tr.get_nil] at ho;cases ho),fun b j hk=>?_⟩,
       ⟨Nat.le_trans hok.size q.size,fun o x hx=>(by rw [Tr.get_nil] at hx;cases hx),fun o o' x x' b base base' _ hx=>(by rw [Tr.get_nil] at hx;cases hx),fun b j hk=>?_⟩,hr.lift hok.size (fun b j hk=>hk)⟩
      ·rcases hk with hk|hk
       ·rcases (hK1 b j).1 hk with hk|⟨hk,_⟩
        ·exact .inl hk
        ·exact .inr (.inr hk)
       ·exact .inr (.inl hk.1)
      ·rcases hk with hk|hk
       ·exact Nat.lt_of_lt_of_le (hK1s b j hk) q.size
       ·exact hk.2
     rcases h x r h3 K1 w vs hK1s hargs with ⟨v,p1,p2⟩|⟨p1,p2⟩
     ·have q:=fin v w p2
      exact .inl ⟨v,w,_,p1,q.1,q.2.1,q.2.2⟩
     ·refine .inr ⟨p1,p2.mono ?_⟩
      rintro e w' ⟨v,rfl,p3⟩
      have q:=fin v w' p3
      exact ⟨v,_,rfl,q.1,q.2.1,q.2.2⟩
    |true=>
     rw [h4] at hm
     cases hm
     have hargs:=A.ok (b0:=w.heap.size) (K:=fun b _=>b<w.heap.size) hok ⟨fun b j hk=>hok.K b j hk,fun o cells k s e ho b base hi j hj=>by
      obtain ⟨b',base',h5,_,h6⟩:=hok.obj o _ ho
      rw [hi] at h5;cases h5
      exact h6.lt⟩ hrel h2
     refine go _ (h x r h3 (fun b _=>b<w.heap.size) w vs (fun _ _ h=>h) hargs) (fun v w' hv=>⟨hv.1,hv.2.fresh h4 hok.size (fun b j hk hle=>?_)⟩) rfl
     rcases hk with hk|hk
     ·omega
     ·exact .inr hk
theorem ai.nil (P:Program):ai P []:=fun f b m h=>by cases h
theorem ai.cons {P:Program} [KP P] {f:Nat} {b:Bool} {m:List AV→M AV} {T:dq} (h:∀ args,yq P f args (m args)) (hT:ai P T):ai P ((f,b,m)::T):=by
 intro f' b' m' hf args
 simp only [dq.find] at hf
 by_cases e:f=f'
 ·subst e
  simp only [Nat.beq_refl,cond_true,Option.some.injEq] at hf
  cases hf
  exact h args
 ·rw [mu e,cond_false] at hf
  exact hT f' b' m' hf args
def ae7 (g:Gh) (st:St) (w:World):dx:={ iy g st.h w st.nx (fun _=>False) with n0:=w.heap.size }
theorem g9.ofC {g st w} (hok:Ok g st.h w) (hfr:∀ o,st.nx≤o→g.inj o=none):g9 (ae7 g st w) g st w:=
 ⟨hok,fun o h1 _=>hfr o h1,⟨rfl,fun _o _ho=>rfl,fun _ _ h=>h,fun _ _ _=>rfl,Nat.le_refl _,rfl,rfl,rfl,fun _ _ _=>rfl,fun o _b base ho hi=>.inr (.inr ⟨o,base,ho,hi⟩),fun _ _ h=>.inl h,
  fun _b cs _e fr h=>⟨cs,fr,h,rfl⟩,fun _b l h=>⟨l,h⟩,fun _ _ _ _ _ _=>rfl⟩,Nat.le_refl _⟩
theorem g9.ar6 {g st w g' st' w'} (h:g9 (ae7 g st w) g' st' w') (hfr:∀ o,st.nx≤o→g.inj o=none):Step g st.h w st.nx st'.nx g' st'.h w':=by
 have b:=h.base
 have pins:∀ o,o<st.nx→g'.inj o=g.inj o:=fun o ho=>b.pins o (.inl ho)
 refine ⟨⟨b.b0,fun o p hp=>?_,b.K,b.cell,b.ij,b.lp,b.whole⟩,b.size,b.os,b.tape,b.output,fun c hc hn=>b.frame c hc (fun hO=>?_),fun o ho hr=>?_,fun o c base ho hi=>?_,fun c j hk=>?_⟩
 ·by_cases h1:st.nx≤o
  ·rw [hfr o h1] at hp;cases hp
  ·rw [pins o (by omega)];exact hp
 ·rcases hO with hO|⟨o,base,h1,h2⟩
  ·exact hO
  ·exact hn o base h1 h2
 ·by_cases h1:o<st.nx
  ·rw [pins o h1];exact ho
  ·exact h.fresh o (by omega) (fun hf=>hf)
 ·rcases b.own o c base ho hi with h1|h1|h1
  ·exact .inl h1
  ·exact h1.elim
  ·exact .inr h1
 ·rcases b.l5 c j hk with h1|h1|h1|h1
  ·exact .inl h1
  ·exact .inr (.inl h1)
  ·exact h1.elim
  ·exact .inr (.inr h1)
theorem fk {P:Program} [KP P] {T:dq} (hT:ai P T) (hm:P.follows .mixedOrders=true) {f:Nat} {fn:Func} {body:Code} (hf:P.funcs[f]? = some fn) (hb:fn.body=some body) (he:mg P f=true) (hs:dm fn.ntmps body=true)
 {args:List AV} (hl:Nat.ble args.length fn.ntmps=true) {st:St} (hp:Nat.ble st.nx 1000=true) {R:AV→St→Prop}
 (h:wl P T st.nx body (cy P fn.results.toList R) (cf 0 args) st):jt P f args st R:=by
 intro g w vs hok hfr hrel
 refine .inr ⟨sn he _ _,tn (ro:=none) (n:=0) (callsIn_of_wp_marks hf hb trivial ?_)⟩
 have hcur:=g9.ofC (w:=w) hok hfr
 refine wpIn_mono (ad4 hT hm (N:=0) (B:=ae7 g st w) (nt:=fn.ntmps) (fun _ h=>h) (Nat.le_of_ble_eq_true hp) (Nat.le_refl _) body hs _ _ _ g w _ h hcur (yy hrel (Nat.le_of_ble_eq_true hl)) (Marks.nil _ _ _ _)) ?_
 rintro ex a w' ⟨e,L,st',g',rfl,hq,hc,hr,hd⟩
 have fin:By (om P L st' fn.results.toList) R st'→bodyPostM (fu none) 0 P fn (fun e w'=>∃ v g' r st',e = .returned v∧R r st'∧st.nx≤st'.nx∧Step g st.h w st.nx st'.nx g' st'.h w'∧Ok g' st'.h w'∧Rel g' w' r v) .ret a w':=by
  intro hq
  show LeavesInM (fu none) 0 P fn a.tmps _ a.defers .returning w'
  unfold By at hq
  cases hres:om P L st' fn.results.toList with
  |none=>rw [hres] at hq;exact hq.elim
  |some l=>
   rw [hres] at hq
   obtain ⟨bs,e1,e2,e3⟩:=hd
   have e1:=e1.trans (List.append_nil _)
   rw [e1]
   refine B3 (Good:=fun u=>Ok g' st'.h u∧Step g st.h w st.nx st'.nx g' st'.h u∧(∀ a v,Rel g' w' a v→Rel g' u a v)) (S:=fun b=>w.heap.size≤b∧ft g' st'.h b) ?_ ?_ bs w'
    ⟨hc.ok,hc.ar6 hfr,fun _ _ h=>h⟩ e2 (fun b hb=>⟨⟨(e3 b hb).1,(e3 b hb).2.2⟩,(e3 b hb).2.1⟩)
   ·rintro u b ⟨g1,g2,g3⟩ ⟨hb1,hb2⟩ hb3
    have hput:=Ok.B0 (ds':=none) g1 hb3 hb2
    exact ⟨hput.1,Step.ajz (ds':=none) hok g2 hb1,fun a v h=>hput.2 a v (g3 a v h)⟩
   ·rintro u ⟨g1,g2,g3⟩
    obtain ⟨us,h1,h2⟩:=Ps (P:=P) g1 ⟨hr.1,fun t=>g3 _ _ (hr.2 t)⟩ fn.results.toList l hres
    obtain ⟨v,h3,h4⟩:=Oz h1 h2
    exact ⟨v,h3,v,g',_,st',rfl,hq,hc.ar,g2,g1,h4⟩
 cases e with
 |normal=>exact fin hq
 |ret=>exact fin hq
 |exit id=>exact hq.elim
end
end Go.Vm
namespace Go.Vm
variable [TK]
noncomputable section
section code
variable (P : Program) (T : dq) (ar : Nat) (Q : QL) (L : SL) (st : St)
theorem acm:wl P T ar .skip Q L st=Q .normal L st:=id rfl
theorem Sd (i ops d):wl P T ar (.region i ops d) Q L st=ze P T ops d (Q .normal) L st:=id rfl
theorem ahw (a b):wl P T ar (.seq a b) Q L st=wl P T ar a (K8 (wl P T ar b) Q) L st:=id rfl
theorem ac1 (c a b):wl P T ar (.cond c a b) Q L st=ql (dj L c) (wl P T ar a Q) (wl P T ar b Q) L st:=id rfl
theorem Xb (i b):wl P T ar (.block i b) Q L st=wl P T ar b (Lf i Q) L st:=id rfl
theorem abt (b):wl P T ar (.loop b) Q L st=pc ar (wl P T ar b) Q L st:=id rfl
theorem ack (i):wl P T ar (.exit i) Q L st=Q (.exit i) L st:=id rfl
theorem ag9:wl P T ar .ret Q L st=Q .ret L st:=id rfl
theorem aib (W):K8 W Q .normal L st=W Q L st:=id rfl
theorem ajt (W i):K8 W Q (.exit i) L st=Q (.exit i) L st:=id rfl
theorem ahe (W):K8 W Q .ret L st=Q .ret L st:=id rfl
theorem ag6 (i):Lf i Q .normal L st=Q .normal L st:=id rfl
theorem ajx (i):Lf i Q .ret L st=Q .ret L st:=id rfl
theorem ah9 (i j):Lf i Q (.exit j) L st=bif Nat.beq j i then Q .normal L st else Q (.exit j) L st:=id rfl
theorem ab8 (keep X):uj ar keep X Q .normal L st=X (i4 ar keep L st) (fc ar keep L st):=id rfl
theorem abi (keep X i):uj ar keep X Q (.exit i) L st=Q (.exit i) L st:=id rfl
theorem acj (keep X):uj ar keep X Q .ret L st=Q .ret L st:=id rfl
theorem aik (rs R):cy P rs R .normal L st=By (om P L st rs) R st:=id rfl
theorem aim (rs R):cy P rs R .ret L st=By (om P L st rs) R st:=id rfl
theorem Qw (ops K):ze P T ops false K L st=opsL P T ops ops.toList K L st:=id rfl
theorem W8 (ops K):opsL P T ops [] K L st=K L st:=id rfl
theorem Qe (ops o r K):opsL P T ops (o::r) K L st=tk ops o.guard (O7 P T o (opsL P T ops r K)) (Ch o.dst (opsL P T ops r K)) L st:=id rfl
theorem W0 (ops K recs):zz P T ops [] K recs L st=(er (Region.before ops) 0 recs=true∧K L st):=id rfl
theorem Qy (ops o r K recs):zz P T ops (o::r) K recs L st=tk ops o.guard (fj P T o recs (zz P T ops r K)) (Ch o.dst (zz P T ops r K (recs++[⟨[],[]⟩]))) L st:=id rfl
theorem Nt (ops X Y):tk ops none X Y L st=X L st:=id rfl
theorem Nv (ops j c X Y):tk ops (some (j,c)) X Y L st=z6 (lk L (sf ops j)) c X Y L st:=id rfl
theorem Xi (b:Bool) (X Y:SL→St→Prop):z6 (.sc (.bool b)) true X Y L st=ql (.sc (.bool b)) X Y L st:=by cases b<;>simp [z6,yt,A2,Dj,ql,nn,AV.bool,AV.exact,lx]
theorem V4 (b:Bool) (X Y:SL→St→Prop):z6 (.sc (.bool b)) false X Y L st=ql (.sc (.bool b)) Y X L st:=by cases b<;>simp [z6,yt,A2,Dj,ql,nn,AV.bool,AV.exact,lx]
theorem Yk (c:Bool) (X Y:SL→St→Prop):z6 (.sc undef) c X Y L st=Y L st:=by simp [z6,yt,A2,Dj,AV.exact,undef]
theorem acu (o K):O7 P T o K L st=Ci (fw P T o (dj L) st) P o L st K:=id rfl
theorem Us (v o K st'):Ci (some (v,st')) P o L st K=K (k7 o.dst v L) st':=id rfl
theorem X4 (K d r):j3 K d L r st=K (k7 d r L) st:=id rfl
theorem Yu (ro F o recs K v dw):Ak ro F o recs K L st (some (v,dw))=((Bd st.nx F=true∧Nat.ble dw.nx c8=true)∧same (m6 st.h F) dw.h (bif ro then F else []) ∧
 K (recs++[⟨F,(bif ro then [] else F)++di st.nx (dw.nx - st.nx)⟩]) (k7 o.dst v L) { h:=pq dw.h (F++di st.nx (dw.nx - st.nx)) st.h,nx:=dw.nx,rl:=[],wl:=[] }):=id rfl
theorem Qi (d K):Ch d K L st=K (k7 d (.sc undef) L) st:=id rfl
theorem dg (b X Y):ql (.sc (.bool b)) X Y L st=((b=true→X L st)∧(b=false→Y L st)):=id rfl
theorem C7 (X Y):ql (.sc (.bool true)) X Y L st=X L st:=by simp [ql,nn,AV.bool,AV.exact,lx]
theorem C4 (X Y):ql (.sc (.bool false)) X Y L st=Y L st:=by simp [ql,nn,AV.bool,AV.exact,lx]
theorem Q6 (v d K):Cu (some (v,st)) d L K=K (k7 d v L) st:=id rfl
theorem Sn (d v):k7 (some d) v L=(d,v)::L:=id rfl
theorem Su (v):k7 none v L=L:=id rfl
theorem ahi (l R):By (some l) R st=R (pack l) st:=id rfl
theorem agp (d v):lk ((d,v)::L) d=v:=by simp [lk]
theorem ab7 (d t v) (h:(d == t)=false):lk ((d,v)::L) t=lk L t:=by
 have e:d≠t:=by simpa using h
 rw [pz,if_neg e]
theorem amt (t):dj L (.tmp t)=lk L t:=id rfl
theorem amb (v):dj L (.const v) = .sc v:=id rfl
theorem amj (f):dj L (.func f) = .sc (.func (.func f) #[] #[]):=id rfl
theorem ahp:om P L st []=some []:=id rfl
theorem af5 (t r):om P L st (.tmp t::r)=(om P L st r).map (lk L t :: ·):=id rfl
theorem ajd (a t r):om P L st (.cell a t::r)=match ng P t (lk L a) st with|some (v,_)=>(om P L st r).map (v :: ·)|none=>none:=id rfl
end code
section ops
variable (P : Program) (T : dq) (ρ : Operand → AV) (d : Option Tmp) (ty : TypeId) (pos : String) (af : Array Edge) (gd : Option (Nat × Bool))
theorem Di (x):fw P T ⟨d,.move x,ty,pos,af,gd⟩ ρ=mono (M.pure (ρ x)):=id rfl
theorem zv (x):fw P T ⟨d,.assign x,ty,pos,af,gd⟩ ρ=mono (M.pure (ρ x)):=id rfl
theorem Ec (t a):fw P T ⟨d,.load t a,ty,pos,af,gd⟩ ρ=mono (ng P t (ρ a)):=id rfl
theorem vi (s x f):fw P T ⟨d,.fieldAddr s x f,ty,pos,af,gd⟩ ρ=mono (nq P s (ρ x) f):=id rfl
theorem Js (op t x y u):fw P T ⟨d,.binOp op t x y u,ty,pos,af,gd⟩ ρ=mono (Dk P ρ ⟨d,.binOp op t x y u,ty,pos,af,gd⟩ op t x y):=id rfl
theorem Dx (c a b):fw P T ⟨d,.pick c a b,ty,pos,af,gd⟩ ρ=mono (Ag (ρ c) (ρ a) (ρ b)):=id rfl
theorem B9 (t a x):fw P T ⟨d,.store t a x,ty,pos,af,gd⟩ ρ=mono (sk P t (ρ a) (ρ x)):=id rfl
theorem Fg (t i):fw P T ⟨d,.extract t i,ty,pos,af,gd⟩ ρ=mono (ud (ρ t) i):=id rfl
theorem u0 (t x i):fw P T ⟨d,.indexAddr t x i,ty,pos,af,gd⟩ ρ=mono (np P t (ρ x) (ρ i)):=id rfl
theorem J8 (t):fw P T ⟨d,.alloc t,ty,pos,af,gd⟩ ρ=mono (vo P t):=id rfl
theorem Ru (t x):fw P T ⟨d,.box t x,ty,pos,af,gd⟩ ρ=mono (Ek t (ρ x)):=id rfl
theorem Bx (t ps):fw P T ⟨d,.build t ps,ty,pos,af,gd⟩ ρ=mono (uc P t (ps.toList.map fun p=>(p.1,ρ p.2))):=id rfl
theorem tl (t n ps):fw P T ⟨d,.buildSlice t n ps,ty,pos,af,gd⟩ ρ=mono (k9 P t n (ps.toList.map fun p=>(p.1,ρ p.2))):=id rfl
theorem Cp (f a b):fw P T ⟨d,.makeFunc f a b,ty,pos,af,gd⟩ ρ=mono (M.pure (.fn f (a.toList.map ρ) (b.toList.map ρ))):=id rfl
theorem yf (s u x):fw P T ⟨d,.convert s u x,ty,pos,af,gd⟩ ρ=mono (rq P ρ ⟨d,.convert s u x,ty,pos,af,gd⟩ s u (ρ x)):=id rfl
theorem Jf (s x f):fw P T ⟨d,.field s x f,ty,pos,af,gd⟩ ρ=mono (zf P s (ρ x) f):=id rfl
theorem Kc (t x i):fw P T ⟨d,.index t x i,ty,pos,af,gd⟩ ρ=mono (wa P ρ ⟨d,.index t x i,ty,pos,af,gd⟩ t x i):=id rfl
theorem Kb (t x l h m):fw P T ⟨d,.slice t x l h m,ty,pos,af,gd⟩ ρ=mono (zg P ρ ⟨d,.slice t x l h m,ty,pos,af,gd⟩ t x l h m):=id rfl
theorem Gu (x ts):fw P T ⟨d,.call { callee:=.builtin .len,args:=#[x],argTypes:=ts },ty,pos,af,gd⟩ ρ=mono (qg ((ts[0]?).bind P.underlying) (ρ x)):=id rfl
theorem Ao (s x ts):fw P T ⟨d,.call { callee:=.builtin .append,args:=#[s,x],argTypes:=ts },ty,pos,af,gd⟩ ρ=mono (mh P ts[0]? ((ts[1]?).bind P.underlying) (ρ s) (ρ x)):=id rfl
theorem Nj (f args ts):fw P T ⟨d,.call { callee:=.value f,args,argTypes:=ts },ty,pos,af,gd⟩ ρ=ru T (ρ f) (args.toList.map ρ):=id rfl
end ops
section monad
variable {α β : Type} (s : St)
theorem amd (m:M α):mono m s=match m s with|none=>none|some (a,s')=>bif decide (s.nx≤s'.nx) then some (a,s') else none:=by
 have:∀ a b,Nat.ble a b=decide (a≤b):=fun a b=>by rw [Bool.eq_iff_iff];simp
 unfold mono
 cases m s with
 |none=>rfl
 |some p=>simp only [this]
theorem amv (m:M α) (f : α→M β):(m.bind f) s=match m s with|none=>none|some (a,s')=>f a s':=id rfl
theorem amp (a : α):(M.pure a) s=some (a,s):=id rfl
theorem amy:(M.fail:M α) s=none:=id rfl
theorem al3 (a : α):(M.of (some a)) s=some (a,s):=id rfl
theorem amf (b:Bool) (m m':M α):(bif b then m else m') s=bif b then m s else m' s:=by cases b<;>rfl
theorem al6 (o:Nat):dp o s=match s.h.get o with|some x=>some (x,{ s with rl:=o::s.rl })|none=>none:=id rfl
theorem ama (x:ba):iz x s=bif decide (s.nx≤c8) then some (s.nx,{ s with h:=s.h.set depth s.nx (some x),nx:=s.nx+1,wl:=s.nx::s.wl }) else none:=by
 have:Nat.ble s.nx c8=decide (s.nx≤c8):=by rw [Bool.eq_iff_iff];simp
 unfold iz;rw [this]
theorem amq (o:Nat) (x:ba):mq o x s=match s.h.get o with|some _=>bif decide (o≤c8) then some ((),{ s with h:=s.h.set depth o (some x),wl:=o::s.wl }) else none|none=>none:=by
 have:Nat.ble o c8=decide (o≤c8):=by rw [Bool.eq_iff_iff];simp
 unfold mq;rw [this];rfl
theorem amr (o:Nat):Du o s=match s.h.get o with|some _=>bif decide (o≤c8) then some ((),{ s with h:=s.h.set depth o none,wl:=o::s.wl }) else none|none=>none:=by
 have:Nat.ble o c8=decide (o≤c8):=by rw [Bool.eq_iff_iff];simp
 unfold Du;rw [this];rfl
theorem Ui (t:Tr ba) (n m:Nat) (x:Option ba) (h:n≤16777214):(Tr.set depth t n x).get m=if m=n then x else t.get m:=gu t n m x h
theorem Wn (n:Nat):(Tr.nil:Tr ba).get n=none:=id rfl
theorem ak2 (a b:Nat):Nat.ble a b=decide (a≤b):=by rw [Bool.eq_iff_iff];simp
theorem aqy (a b:Nat):Nat.blt a b=decide (a<b):=by rw [Bool.eq_iff_iff];simp
theorem aew (a b:Nat):Nat.beq a b=decide (a=b):=by rw [Bool.eq_iff_iff];simp
end monad
theorem Jb {a:AV} {x y x' y':Prop} (h1:x→x') (h2:y→y') (h:nn a x y):nn a x' y':=by
 unfold nn at *
 split at h
 ·exact ⟨fun e=>h1 (h.1 e),fun e=>h2 (h.2 e)⟩
 ·exact h.elim
theorem u2 {ops L gd} {x y x' y':Prop} (h1:x→x') (h2:y→y') (h:guarded ops L gd x y):guarded ops L gd x' y':=by
 unfold guarded at *
 split at h
 ·exact h1 h
 ·unfold yt at *
  split at h
  ·exact ⟨fun e=>h1 (h.1 e),fun e=>h2 (h.2 e)⟩
  ·exact h.elim
theorem jt.mono {P f args st} {R R':AV→St→Prop} (h:∀ r st,R r st→R' r st) (hc:jt P f args st R):jt P f args st R':=by
 intro g w vs h1 h2 h3
 rcases hc g w vs h1 h2 h3 with ⟨v,w',g',r,st',q1,q2,q3⟩|⟨q1,q2⟩
 ·exact .inl ⟨v,w',g',r,st',q1,h _ _ q2,q3⟩
 ·refine .inr ⟨q1,q2.mono ?_⟩
  rintro e w' ⟨v,g',r,st',p1,p2,p3⟩
  exact ⟨v,g',r,st',p1,h _ _ p2,p3⟩
theorem aeu {P o L st} {K K':SL→St→Prop} (h:∀ L st,K L st→K' L st) (hc:Ia P o L st K):Ia P o L st K':=by
 unfold Ia aei at *
 split at hc
 ·split at hc
  ·exact jt.mono (fun r st hk=>h _ _ hk) hc
  ·exact hc.elim
 ·exact hc.elim
theorem Bf {P T ops} {K K':SL→St→Prop} (h:∀ L st,K L st→K' L st):∀ (l:List Oper) (L:SL) (st:St),opsL P T ops l K L st→opsL P T ops l K' L st
 | [],L,st,hh=>h L st hh
 |o::r,L,st,hh=>u2 (fun q=>by
  unfold O7 Ci at *
  split at q
  ·exact Bf h r _ _ q
  ·exact aeu (fun L st=>Bf h r L st) q) (fun q=>Bf h r _ _ q) hh
theorem Bl {P T ops} {K K':SL→St→Prop} (h:∀ L st,K L st→K' L st):∀ (l:List Oper) (recs:List Rec) (L:SL) (st:St),zz P T ops l K recs L st→zz P T ops l K' recs L st
 | [],recs,L,st,hh=>⟨hh.1,h L st hh.2⟩
 |o::r,recs,L,st,hh=>u2 (fun q=>by
  unfold fj jy Ak at *
  split at q
  ·exact ⟨q.1,q.2.1,Bl h r _ _ _ q.2.2⟩
  ·exact q.elim) (fun q=>Bl h r _ _ _ q) hh
theorem Ay {P T ops} {K K':SL→St→Prop} (h:∀ L st,K L st→K' L st):∀ (l:List Oper) (recs:List Rec) (L:SL) (st:St),Gi P T ops l K recs L st→Gi P T ops l K' recs L st
 | [],recs,L,st,hh=>⟨hh.1,h L st hh.2⟩
 |o::r,recs,L,st,hh=>u2 (fun q=>Nw (fun _ _ _ k=>Ay h r _ _ _ k) q) (fun q=>Ay h r _ _ _ q) hh
theorem ub {P T l ar ops} {R:Cc} (hR:∀ p args (X X':Ex→St→Prop) st,(∀ e st,X e st→X' e st)→R p args X st→R p args X' st) {K K':Option Ex→SL→St→Prop} (h:∀ pe L st,K pe L st→K' pe L st) :
 ∀ (ls:List Oper) (pe:Option Ex) (L:SL) (st:St),Ac P T l R ar ops ls K pe L st→Ac P T l R ar ops ls K' pe L st
 | [],pe,L,st,hh=>h pe L st hh
 |o::r,pe,L,st,hh=>u2 (fun q=>by
  unfold opI P8 at *
  split at q
  ·unfold Cu at *
   split at q
   ·exact ub hR h r _ _ _ q
   ·exact q.elim
  ·obtain ⟨h0,keep,q⟩:=q
   refine ⟨h0,keep,hR _ _ _ _ _ (fun e st q=>?_) q⟩
   cases e with
   |normal=>exact ub hR h r _ _ _ q
   |ret=>exact ub hR h r _ _ _ q
   |exit id=>exact ub hR h r _ _ _ q) (fun q=>ub hR h r _ _ _ q) hh
theorem Yg {P:Program} {T:dq} {l ar:Nat} {R:Cc} (hR:∀ p args (X X':Ex→St→Prop) st,(∀ e st,X e st→X' e st)→R p args X st→R p args X' st) :
 ∀ (c:Code) (Q Q':QI),(∀ e pe L st,Q e pe L st→Q' e pe L st)→∀ pe L st,ny P T l R ar c Q pe L st→ny P T l R ar c Q' pe L st:=by
 intro c
 induction c with
 |skip=>intro Q Q' h pe L st hh;exact h _ _ _ _ hh
 |label l=>intro Q Q' h pe L st hh;exact h _ _ _ _ hh
 |exit i=>intro Q Q' h pe L st hh;exact h _ _ _ _ hh
 |ret=>intro Q Q' h pe L st hh;exact h _ _ _ _ hh
 |region i ops draw=>
  intro Q Q' h pe L st hh
  cases draw with
  |false=>exact ub hR (h _) _ _ _ _ hh
  |true=>exact ⟨hh.1,hh.2.imp (Bl (h _ _) _ _ _ _) (Ay (h _ _) _ _ _ _)⟩
 |seq a b iha ihb=>
  intro Q Q' h pe L st hh
  refine iha _ _ ?_ pe L st hh
  intro e pe L st q
  cases e with
  |normal=>exact ihb _ _ h pe L st q
  |_=>exact h _ _ _ _ q
 |cond c a b iha ihb=>intro Q Q' h pe L st hh;exact Jb (iha _ _ h pe L st) (ihb _ _ h pe L st) hh
 |block i b ih=>
  intro Q Q' h pe L st hh
  refine ih _ _ ?_ pe L st hh
  intro e pe L st q
  cases e with
  |exit j=>
   simp only [Kp] at *
   cases hb:Nat.beq j i with
   |true=>rw [hb] at q;exact h _ _ _ _ q
   |false=>rw [hb] at q;exact h _ _ _ _ q
  |_=>exact h _ _ _ _ q
 |loop b ih=>
  intro Q Q' h pe L st hh
  obtain ⟨h0,keep,hh⟩:=hh
  refine ⟨h0,keep,fun X hX=>hh X fun vs os q=>hX vs os (ih _ _ ?_ _ _ _ q)⟩
  intro e pe L st q
  cases e with
  |normal=>exact q
  |_=>exact h _ _ _ _ q
 |scope b ih=>intro _ _ _ _ _ _ hh;exact hh.elim
 |rangeFunc=>intro _ _ _ _ _ _ hh;exact hh.elim
 |goto=>intro _ _ _ _ _ _ hh;exact hh.elim
 |refuse=>intro _ _ _ _ _ _ hh;exact hh.elim
theorem alo {P:Program} {T:dq}:∀ (c:Code) (ar:Nat) (Q Q':QL),(∀ e L st,Q e L st→Q' e L st)→∀ L st,wl P T ar c Q L st→wl P T ar c Q' L st:=by
 intro c
 induction c with
 |skip=>intro ar Q Q' h L st hh;exact h _ _ _ hh
 |label l=>intro ar Q Q' h L st hh;exact h _ _ _ hh
 |exit i=>intro ar Q Q' h L st hh;exact h _ _ _ hh
 |ret=>intro ar Q Q' h L st hh;exact h _ _ _ hh
 |region i ops draw=>
  intro ar Q Q' h L st hh
  cases draw with
  |false=>exact Bf (h _) _ _ _ hh
  |true=>exact ⟨hh.1,hh.2.imp (Bl (h _) _ _ _ _) (Ay (h _) _ _ _ _)⟩
 |seq a b iha ihb=>
  intro ar Q Q' h L st hh
  refine iha _ _ _ ?_ L st hh
  intro e L st q
  cases e with
  |normal=>exact ihb _ _ _ h L st q
  |_=>exact h _ _ _ q
 |cond c a b iha ihb=>intro ar Q Q' h L st hh;exact Jb (iha _ _ _ h L st) (ihb _ _ _ h L st) hh
 |block i b ih=>
  intro ar Q Q' h L st hh
  refine ih _ _ _ ?_ L st hh
  intro e L st q
  cases e with
  |exit j=>
   simp only [Lf] at *
   cases hb:Nat.beq j i with
   |true=>rw [hb] at q;exact h _ _ _ q
   |false=>rw [hb] at q;exact h _ _ _ q
  |_=>exact h _ _ _ q
 |loop b ih=>
  intro ar Q Q' h L st hh
  obtain ⟨keep,hh⟩:=hh
  refine ⟨keep,fun X hX=>hh X fun vs os q=>hX vs os (ih _ _ _ ?_ _ _ q)⟩
  intro e L st q
  cases e with
  |normal=>exact q
  |_=>exact h _ _ _ q
 |scope b ih=>intro ar Q Q' h L st hh;exact ih _ _ _ h L st hh
 |rangeFunc f ps a b iha ihb=>
  intro ar Q Q' h L st hh
  obtain ⟨keep,h0,hh⟩:=hh
  refine ⟨keep,h0,?_⟩
  unfold Hr at *
  split at hh
  ·unfold Fo at *
   split at hh
   ·refine ⟨hh.1,fun l=>Yg (fun p args X X' st hX hr=>⟨hr.1,hr.2.1,iha _ _ _ (fun e L st q=>(by
     cases e with
     |normal=>exact ihb _ _ _ (fun e _ st q=>hX e st q) _ _ q
     |_=>exact q.elim)) _ _ hr.2.2⟩) _ _ _ (fun e pe L st q=>(by
     cases e with
     |exit id=>exact q.elim
     |normal=>
      cases pe with
      |none=>exact h _ _ _ q
      |some e=>exact h _ _ _ q
     |ret=>
      cases pe with
      |none=>exact h _ _ _ q
      |some e=>exact h _ _ _ q)) _ _ _ (hh.2 l)⟩
   ·exact hh.elim
  ·exact hh.elim
 |goto=>intro _ _ _ _ _ _ hh;exact hh.elim
 |refuse=>intro _ _ _ _ _ _ hh;exact hh.elim
theorem Co {P:Program} {T:dq} {ar:Nat} (c:Code) (Q Q':QL) (h:∀ e L st,Q e L st→Q' e L st) (L:SL) (st:St) (hh:wl P T ar c Q L st):wl P T ar c Q' L st:=alo c ar Q Q' h L st hh
theorem de {α:Type} {P:Program} {T:dq} {ar:Nat} {b:Code} {Q:QL} {L:SL} {st:St} (keep:List Nat) (V : α→List AV) (O : α→List (Option ba)) (I : α→Prop) (μ : α→Nat) (x : α) (hx:I x)
 (hv:i4 ar keep L st=V x) (ho:fc ar keep L st=O x)
 (step:∀ x,I x→wl P T ar b (uj ar keep (fun vs os=>∃ y,I y ∧ μ y < μ x∧vs=V y∧os=O y) Q) (j5 keep (V x)) (bk (O x))):pc ar (wl P T ar b) Q L st:=
 pc.of keep V O I μ x hx hv ho (fun _ _ h=>Co b _ _ h) step
section cods
theorem kx {α:Type} (C:cw α) (l:Bool) (xs:List α):(bh C).val l xs = .vl l C.sz (xs.map (C.val l)):=id rfl
theorem H5 {α:Type} (C:cw α):(bh C).sz=1:=id rfl
theorem Q3:aq.sz=1:=id rfl
theorem Zc:ay.sz=1:=id rfl
theorem aix:bj.sz=1:=id rfl
theorem G3:br.sz=1:=id rfl
theorem Hw (k:IntKind):(bo k).sz=1:=id rfl
theorem aek:bc.sz=1:=id rfl
theorem xk (l:Bool) (x:UInt8):ay.val l x = .sc (.int .u8 x.toNat):=id rfl
theorem Mq (l:Bool) (x:UInt16):bj.val l x = .sc (.int .u16 x.toNat):=id rfl
theorem Nl (l:Bool) (x:UInt32):br.val l x = .sc (.int .u32 x.toNat):=id rfl
theorem Nm (k:IntKind) (l:Bool) (x:Int):(bo k).val l x = .sc (.int k x):=id rfl
theorem Jv (l:Bool) (x:Bool):bc.val l x = .sc (.bool x):=id rfl
theorem abw (o i:Nat):idx [] o i=none:=id rfl
theorem Vz {α:Type} (C:cw α) (τ:Nat→Option Nat) (l:Bool):AV.db τ ∘ C.val l=C.val l:=by funext x;exact H3 C τ l x
theorem Lo (l:Bool) (x:ByteArray):aq.val l x = .sc (.string x):=id rfl
theorem Ea {α:Type} (C:cw α) (fr:Bool) (h:Tr ba) (a:AV) (h1:a.known=true) (h2:a.isAgg=C.agg):C.ga fr h a=C.dec fr h a.cells:=by
 unfold cw.ga;rw [h1,h2];simp
theorem Rw (fr:Bool) (h:Tr ba) (n:UInt32):br.ga fr h (.sc (.int .u32 n.toNat))=some n:=br.Fm fr h true n (fun _=>rfl)
theorem Gv (fr:Bool) (h:Tr ba) (n:UInt16):bj.ga fr h (.sc (.int .u16 n.toNat))=some n:=bj.Fm fr h true n (fun _=>rfl)
theorem Nq (k:IntKind) (fr:Bool) (h:Tr ba) (n:Int):(bo k).ga fr h (.sc (.int k n))=some n:=(bo k).Fm fr h true n (fun _=>rfl)
theorem J9 (fr:Bool) (h:Tr ba) (b:Bool):bc.ga fr h (.sc (.bool b))=some b:=bc.Fm fr h true b (fun _=>rfl)
theorem Om (fr:Bool) (h:Tr ba) (s:ByteArray):aq.ga fr h (.sc (.string s))=some s:=aq.Fm fr h true s (fun _=>rfl)
theorem wo {α:Type} (C:cw α) (fr:Bool) (h:Tr ba) (a:AV) (h1:a.known=true) (h2:a.isAgg=false) (h3:a.cells=[a]):(bh C).ga fr h a=gw C fr h a:=by
 rw [Ea _ _ _ _ h1 h2,h3];rfl
theorem aoq {α:Type} (C:cw α) (fr:Bool) (h:Tr ba) (l:Bool) (xs:List α) (hl:(l || !fr)=true):(bh C).ga fr h (.vl l C.sz (xs.map (C.val l)))=some xs:=by
 refine (bh C).Fm fr h l xs ?_
 cases fr<;>simp_all
theorem Yn {α:Type} (C:cw α) (fr:Bool) (h:Tr ba):gw C fr h (.sc (.slice none 0 0))=some []:=id rfl
theorem qb {α:Type} (C:cw α) (fr:Bool) (h:Tr ba) (l:Bool) (xs:List α) (n:Nat) (hn:n=C.sz) (hl:(l || !fr)=true):gw C fr h (.vl l n (xs.map (C.val l)))=some xs:=by
 subst hn
 have:(bh C).ga fr h (.vl l C.sz (xs.map (C.val l)))=some xs:=aoq C fr h l xs hl
 rwa [wo C fr h _ rfl rfl rfl] at this
theorem abv {α:Type} (C:cw α) (fr:Bool) (h:Tr ba) (o off len n:Nat):gw C fr h (.sl o off len n)=bif decide (n=C.sz) then (h.get o).bind (j9 C fr h off len) else none:=by
 show (bif Nat.beq n C.sz then _ else _)=_
 rw [aew]
theorem M9 {α:Type} (C:cw α) (fr:Bool) (h:Tr ba) (off len:Nat) (cells:List AV) (k s:Nat) (e:TypeId) :
 j9 C fr h off len (.row cells k s e)=bif decide (off+len * C.sz≤cells.length) && s8 fr C.sz C.kd s off cells.length len e then ss C fr h len ((cells.drop off).take (len * C.sz)) else none:=by
 show (bif Nat.ble _ _ && _ then _ else _)=_
 rw [ak2]
theorem abu (sz kd st off len n et):s8 false sz kd st off len n et=true:=id rfl
theorem agh {α:Type} (C:cw α) (fr:Bool) (h:Tr ba) (n:Nat) (l:List AV):ss C fr h (n+1) l=match C.dec fr h (l.take C.sz),ss C fr h n (l.drop C.sz) with|some x,some xs=>some (x::xs)|_,_=>none:=id rfl
theorem af0 {α:Type} (C:cw α) (fr:Bool) (h:Tr ba) (l:List AV):ss C fr h 0 l=some []:=id rfl
theorem N9 (fr:Bool) (h:Tr ba) (n:Int) (h0 : 0≤n) (h1:n<256):ay.dec fr h [.sc (.int .u8 n)]=some (UInt8.ofNat n.toNat):=by
 show u8V (.int .u8 n)=_;simp [u8V,h0,h1]
theorem arj {α β:Type} (A:cw α) (B:cw β) (l:Bool) (p : α × β):(r2 A B).E l p = .gb [A.val l p.1,B.val l p.2]:=id rfl
theorem ard {α:Type} (A:cw α) (l:Bool) (x : α):(r1 A).E l x=A.val l x:=id rfl
theorem Za (T:dq) (g:Nat) (a b:Array Value) (args:List AV):ru T (.sc (.func (.func g) a b)) args=qi T g (a.toList.map .sc++args++b.toList.map .sc):=id rfl
theorem Yf (T:dq) (g:Nat) (a b:List AV) (args:List AV):ru T (.fn (.func g) a b) args=qi T g (a++args++b):=id rfl
theorem Sc (f:Nat) (b:Bool) (m:List AV→M AV) (T:dq) (args:List AV):qi ((f,b,m)::T) f args=mono (m args):=by simp [qi,dq.find]
theorem Mh (f g:Nat) (b:Bool) (m:List AV→M AV) (T:dq) (args:List AV) (h:(f == g)=false):qi ((f,b,m)::T) g args=qi T g args:=by
 have:f≠g:=by simpa using h
 simp [qi,dq.find,mu this]
theorem Vk {α:Type} (A:AC α) (F : α→Option AV) (args:List AV) (st:St):cx A F args st=match A.get .nil args with|some x=>(F x).map fun r=>(r,st)|none=>match A.get st.h args with|some x=>(match F x with|some r=>bif r.fresh then some (r,st) else some (r,{ st with h:=.nil })|none=>none)|none=>none:=id rfl
theorem aq9 {α β:Type} (A:cw α) (B:cw β) (fr:Bool) (h:Tr ba) (a b:AV):(r2 A B).get fr h (.gb [a,b])=match A.ga fr h a,B.ga fr h b with|some x,some y=>some (x,y)|_,_=>none:=id rfl
theorem aph (h:Tr ba):a0.get h []=some ():=id rfl
theorem apg {α β:Type} (C:cw α) (R:AC β) (h:Tr ba) (a:AV) (r:List AV):(aC C R).get h (a::r)=match C.ga false h a,R.get h r with|some x,some y=>some (x,y)|_,_=>none:=id rfl
theorem ap3 {α:Type} (A:cw α) (fr:Bool) (h:Tr ba) (a:AV):(r1 A).get fr h a=A.ga fr h a:=id rfl
end cods
section
variable (P : Program)
theorem Rl (pl:Nat→Option (Nat × Nat)) (cells:List AV):qh pl cells []=some cells:=id rfl
theorem M2 (pl:Nat→Option (Nat × Nat)) (cells:List AV) (i:Nat) (v:AV) (rest:List (Nat × AV)):qh pl cells ((i,v)::rest)=match pl i with
 |none=>none
 |some (off,size)=>bif !v.known || !(Nat.beq v.cells.length size) || !(Nat.ble (off+size) cells.length) then none else qh pl (cells.take off++v.cells++cells.drop (off+size)) rest:=id rfl
def Aa (t:TypeId):Option (List AV × List (Nat × Nat)):=
 match ef P t,P.underlying t with
 |some z,some (.struct fields)=>(Ca P fields).map fun pl=>(z.cells.toList.map .sc,pl)
 |_,_=>none
theorem Mt (t:TypeId) (ps:List (Nat × AV)):uc P t ps=match Aa P t with
 |some (z,pl)=>.of ((qh (fun i=>pl[i]?) z ps).map .agg)
 |none=>uc P t ps:=by
 cases hb:Aa P t with
 |none=>rfl
 |some q=>
  obtain ⟨z,pl⟩:=q
  simp only [Aa] at hb
  split at hb
  ·rename_i z' fs hz hu
   cases hp:Ca P fs with
   |none=>simp [hp] at hb
   |some pl'=>
    simp [hp] at hb
    obtain ⟨rfl,rfl⟩:=hb
    simp [uc,hz,hu,hp]
  ·cases hb
def vj (t:TypeId):Option (TypeId × Nat × List AV):=
 match lq P t with
 |none=>none
 |some e=>
  match cz P e,ef P e with
  |some sz,some z=>bif Nat.beq z.cells.size sz then some (e,sz,z.cells.toList.map .sc) else none
  |_,_=>none
theorem Bj (t:TypeId) (len:Nat) (ps:List (Nat × AV)):k9 P t len ps=match vj P t with
 |some (e,sz,z)=>
  match qh (fun i=>some (i * sz,sz)) (List.replicate len z).flatten ps with
  |some cells=>bif Nat.ble (len * sz) 16777216 && Nat.ble len 16777216 then pa e sz len cells else .fail
  |none=>.fail
 |none=>k9 P t len ps:=by
 cases hb:vj P t with
 |none=>rfl
 |some q=>
  obtain ⟨e,sz,z⟩:=q
  simp only [vj] at hb
  split at hb
  ·cases hb
  ·rename_i e' he
   split at hb
   ·rename_i sz' z' hs hz
    cases hq:Nat.beq z'.cells.size sz' with
    |false=>simp [hq] at hb
    |true=>
     simp [hq] at hb
     obtain ⟨rfl,rfl,rfl⟩:=hb
     simp only [k9,he,hs,hz,hq,Bool.and_true]
     rfl
   ·cases hb
end
section ranges
variable (P : Program) (T : dq) (l ar : Nat) (R : Cc) (Q : QI) (pe : Option Ex) (L : SL) (st : St)
theorem V1 (f:Operand) (ps:Array Tmp) (a b:Code) (Q:QL):wl P T ar (.rangeFunc f ps a b) Q L st=af7 P T f ps.toList (fun p=>wl P T p a) (fun p=>wl P T p b) ar Q L st:=id rfl
theorem Xm:ny P T l R ar .skip Q pe L st=Q .normal pe L st:=id rfl
theorem Ni (i:Nat) (ops:Array Oper):ny P T l R ar (.region i ops false) Q pe L st=Ac P T l R ar ops ops.toList (Q .normal) pe L st:=id rfl
theorem abn (a b:Code):ny P T l R ar (.seq a b) Q pe L st=ny P T l R ar a (Y7 (ny P T l R ar b) Q) pe L st:=id rfl
theorem Wd (c:Operand) (a b:Code):ny P T l R ar (.cond c a b) Q pe L st=Bm (dj L c) (ny P T l R ar a Q) (ny P T l R ar b Q) pe L st:=id rfl
theorem Q5 (i:Nat) (a:Code):ny P T l R ar (.block i a) Q pe L st=ny P T l R ar a (Kp i Q) pe L st:=id rfl
theorem Yt (i:Nat):ny P T l R ar (.exit i) Q pe L st=Q (.exit i) pe L st:=id rfl
theorem abm:ny P T l R ar .ret Q pe L st=Q .ret pe L st:=id rfl
theorem af9 (W:QI→Option Ex→SL→St→Prop):Y7 W Q .normal pe L st=W Q pe L st:=id rfl
theorem agm (W:QI→Option Ex→SL→St→Prop) (i:Nat):Y7 W Q (.exit i) pe L st=Q (.exit i) pe L st:=id rfl
theorem ahq (W:QI→Option Ex→SL→St→Prop):Y7 W Q .ret pe L st=Q .ret pe L st:=id rfl
theorem aje (i:Nat):Kp i Q .normal pe L st=Q .normal pe L st:=id rfl
theorem ail (i:Nat):Kp i Q .ret pe L st=Q .ret pe L st:=id rfl
theorem ah8 (i j:Nat):Kp i Q (.exit j) pe L st=if j=i then Q .normal pe L st else Q (.exit j) pe L st:=by
 show (bif Nat.beq j i then _ else _)=_
 rw [aew];by_cases h:j=i<;>simp [h]
theorem aci (Q':QL):Dm Q' Q .normal pe L st=(pe=none∧Q' .normal L st):=id rfl
theorem aa2 (Q':QL) (i:Nat):Dm Q' Q (.exit i) pe L st=Q (.exit i) pe L st:=id rfl
theorem acf (Q':QL):Dm Q' Q .ret pe L st=Q .ret pe L st:=id rfl
theorem acr (Q:QL) (L0:SL):Yi Q L0 .normal none L st=Q .normal L0 st:=id rfl
theorem ab5 (Q:QL) (L0:SL) (e:Ex):Yi Q L0 .ret (some e) L st=Q e L0 st:=id rfl
theorem X7 (ops:Array Oper) (K:Option Ex→SL→St→Prop):Ac P T l R ar ops [] K pe L st=K pe L st:=id rfl
theorem Ri (ops:Array Oper) (o:Oper) (r:List Oper) (K:Option Ex→SL→St→Prop):Ac P T l R ar ops (o::r) K pe L st=Lj ops o.guard (opI P T l R ar o (Ac P T l R ar ops r K)) (acs o.dst (Ac P T l R ar ops r K)) pe L st:=id rfl
theorem L9 (ops:Array Oper) (X Y:Option Ex→SL→St→Prop):Lj ops none X Y pe L st=X pe L st:=id rfl
theorem abq (X Y:Option Ex→SL→St→Prop):Bm (.sc (.bool true)) X Y pe L st=X pe L st:=by simp [Bm,nn,AV.bool,AV.exact,lx]
theorem ab1 (X Y:Option Ex→SL→St→Prop):Bm (.sc (.bool false)) X Y pe L st=Y pe L st:=by simp [Bm,nn,AV.bool,AV.exact,lx]
theorem anq (b:Bool) (X Y:Option Ex→SL→St→Prop):Bm (.sc (.bool b)) X Y pe L st=((b=true→X pe L st)∧(b=false→Y pe L st)):=by simp [Bm,nn,AV.bool,AV.exact,lx]
theorem ahf (o:Oper) (K:Option Ex→SL→St→Prop):opI P T l R ar o K pe L st=P8 P T R ar o K pe L st (yieldOf l o L):=id rfl
theorem aih (o:Oper) (K:Option Ex→SL→St→Prop):P8 P T R ar o K pe L st none=Cu (fw P T o (dj L) st) o.dst L (K pe):=id rfl
theorem Um (d:Option Tmp) (K:Option Ex→SL→St→Prop):W3 d L K .normal st=K none (k7 d (.sc (.bool true)) L) st:=id rfl
theorem Yq (d:Option Tmp) (K:Option Ex→SL→St→Prop):W3 d L K .ret st=K (some .ret) (k7 d (.sc (.bool false)) L) st:=id rfl
theorem abe (B:QL→SL→St→Prop) (X:Ex→St→Prop):al5 B X .normal L st=B (fun e _ st=>X e st) L st:=id rfl
theorem Sj (k:Nat) (va vb:Array Value):vw l (.sc (.func (.yield k) va vb))=(Nat.beq k l && Nat.beq va.size 0 && Nat.beq vb.size 0):=id rfl
theorem Jo:wq [] [] L=L:=id rfl
theorem Hf (t:Nat) (ts:List Nat) (v:AV) (vs:List AV):wq (t::ts) (v::vs) L=wq ts vs ((t,v)::L):=id rfl
theorem akl {α:Type} {b:Code} (keep:List Nat) (V : α→List AV) (O : α→List (Option ba)) (I : α→Prop) (μ : α→Nat) (x : α) (hx:I x) (hR:∀ p args (X X':Ex→St→Prop) st,(∀ e st,X e st→X' e st)→R p args X st→R p args X' st)
 (hv:i4 ar keep L st=V x) (ho:fc ar keep L st=O x)
 (step:∀ x,I x→ny P T l R ar b (Dm (uj ar keep (fun vs os=>∃ y,I y ∧ μ y < μ x∧vs=V y∧os=O y) (fun _ _ _=>False)) Q) none (j5 keep (V x)) (bk (O x))):ny P T l R ar (.loop b) Q none L st:=
 ⟨rfl,pc.of (B:=fun Q' L st=>ny P T l R ar b (Dm Q' Q) none L st) keep V O I μ x hx hv ho (fun Q1 Q2 h L st hh=>Yg hR b _ _ (fun e pe L st q=>by
  cases e with
  |normal=>exact ⟨q.1,h _ _ _ q.2⟩
  |ret=>exact q
  |exit i=>exact q) none L st hh) step⟩
theorem aak {ps:List Tmp} {a b:Code} {L0:SL}:∀ p args (X X':Ex→St→Prop) st,(∀ e st,X e st→X' e st)→u3 ps (fun p=>wl P T p a) (fun p=>wl P T p b) L0 p args X st→u3 ps (fun p=>wl P T p a) (fun p=>wl P T p b) L0 p args X' st:=
 fun p args X X' st hX hr=>⟨hr.1,hr.2.1,Co _ _ _ (fun e L st q=>by
  cases e with
  |normal=>exact Co _ _ _ (fun e _ st q=>hX e st q) _ _ q
  |_=>exact q.elim) _ _ hr.2.2⟩
end ranges
section yields
variable {lp : Nat} {L : SL} {d : Option Tmp} {ty : TypeId} {pos : String} {af : Array Edge} {gd : Option (Nat × Bool)}
theorem G9 (x):yieldOf lp ⟨d,.move x,ty,pos,af,gd⟩ L=none:=id rfl
theorem C1 (x):yieldOf lp ⟨d,.assign x,ty,pos,af,gd⟩ L=none:=id rfl
theorem Fx (t a):yieldOf lp ⟨d,.load t a,ty,pos,af,gd⟩ L=none:=id rfl
theorem Et (op t x y u):yieldOf lp ⟨d,.binOp op t x y u,ty,pos,af,gd⟩ L=none:=id rfl
theorem ym (t x i):yieldOf lp ⟨d,.indexAddr t x i,ty,pos,af,gd⟩ L=none:=id rfl
theorem Fk (op t x):yieldOf lp ⟨d,.unOp op t x,ty,pos,af,gd⟩ L=none:=id rfl
theorem I7 (x ts):yieldOf lp ⟨d,.call { callee:=.builtin .len,args:=#[x],argTypes:=ts },ty,pos,af,gd⟩ L=none:=id rfl
theorem G4 (f:Operand) (args:Array Operand) (ts:Array TypeId):yieldOf lp ⟨d,.call { callee:=.value f,args:=args,argTypes:=ts },ty,pos,af,gd⟩ L=bif vw lp (dj L f) then some args else none:=id rfl
end yields
end
end Go.Vm
namespace Go.Vm
variable [TK]
noncomputable section
abbrev Name:=List ByteArray
structure bf where
 names:List Name
 nums:List UInt32
 texts:List ByteArray
 raw:List UInt8
def mkD (a:List Name) (b:List UInt32) (c:List ByteArray) (e:List UInt8):bf:=⟨a,b,c,e⟩
theorem ac5 (d:bf):mkD d.names d.nums d.texts d.raw=d:=id rfl
noncomputable def aj:cw Name:=bh aq
noncomputable def aw:cw bf:=Da (k6 (bh aj) (k6 (bh br) (k6 aj (bh ay)))) (fun d=>(d.names,d.nums,d.texts,d.raw)) (fun p=>⟨p.1,p.2.1,p.2.2.1,p.2.2.2⟩) (fun _=>rfl) (fun _=>rfl)
theorem ct (l:Bool) (n:Name):aj.val l n = .vl l 1 (n.map (aq.val l)):=id rfl
theorem yz:aj.sz=1:=id rfl
theorem Ly:aw.sz=4:=id rfl
theorem ep (l:Bool) (d:bf):aw.val l d = .agg [.vl l 1 (d.names.map (aj.val l)),.vl l 1 (d.nums.map (br.val l)),.vl l 1 (d.texts.map (aq.val l)),.vl l 1 (d.raw.map (ay.val l))]:=id rfl
theorem Jj (fr:Bool) (h:Tr ba) (x1 x2 x3 x4:AV) :
 aw.ga fr h (.agg [x1,x2,x3,x4])=match gw aj fr h x1,gw br fr h x2,gw aq fr h x3,gw ay fr h x4 with
  |some a,some b,some c,some e=>some (mkD a b c e)
  |_,_,_,_=>none:=by
 rw [Ea _ _ _ _ rfl rfl]
 have h1:aw.dec fr h (AV.agg [x1,x2,x3,x4]).cells=Option.map (fun p=>(⟨p.1,p.2.1,p.2.2.1,p.2.2.2⟩:bf)) ((k6 (bh aj) (k6 (bh br) (k6 aj (bh ay)))).dec fr h [x1,x2,x3,x4]):=rfl
 have d2:∀ {α β:Type} (A:cw α) (B:cw β) (l:List AV),(k6 A B).dec fr h l=match A.dec fr h (l.take A.sz),B.dec fr h (l.drop A.sz) with|some x,some y=>some (x,y)|_,_=>none:=fun _ _ _=>rfl
 have l1:∀ {α:Type} (C:cw α) (x:AV),(bh C).dec fr h [x]=gw C fr h x:=fun _ _=>rfl
 have n1:∀ x,aj.dec fr h [x]=gw aq fr h x:=fun _=>rfl
 rw [h1]
 simp only [d2,H5,yz,List.take_succ_cons,List.take_zero,List.drop_succ_cons,List.drop_zero,l1,n1]
 cases gw aj fr h x1<;>cases gw br fr h x2<;>cases gw aq fr h x3<;>cases gw ay fr h x4<;>rfl
theorem Hk {α:Type} (C:cw α) (fr:Bool) (h:Tr ba) (l:Bool) (n:Nat) (es:List AV):(bh C).ga fr h (.vl l n es)=gw C fr h (.vl l n es):=wo C fr h _ rfl rfl rfl
theorem F5 {α:Type} (C:cw α) (fr:Bool) (h:Tr ba) (o off len n:Nat):(bh C).ga fr h (.sl o off len n)=gw C fr h (.sl o off len n):=wo C fr h _ rfl rfl rfl
theorem Fc {α:Type} (C:cw α) (fr:Bool) (h:Tr ba):(bh C).ga fr h (.sc (.slice none 0 0))=some []:=by
 rw [wo C fr h _ rfl rfl rfl];rfl
theorem A6 (fr:Bool) (h:Tr ba) (l:Bool) (n:Nat) (es:List AV):aj.ga fr h (.vl l n es)=gw aq fr h (.vl l n es):=wo aq fr h _ rfl rfl rfl
theorem A7 (fr:Bool) (h:Tr ba) (o off len n:Nat):aj.ga fr h (.sl o off len n)=gw aq fr h (.sl o off len n):=wo aq fr h _ rfl rfl rfl
theorem zt (l:List UInt8):l.map vu=l.map (ay.val false):=id rfl
theorem Fu {α:Type} (C:cw α) (b:Bool) (l:List α):AV.names.go (l.map (C.val b))=[]:=B5 (fun c hc=>by
 obtain ⟨x,_,rfl⟩:=List.mem_map.1 hc
 exact Fl C b x)
theorem s6:∀ (l:List UInt8) (b:Bool),bytesOf (l.map (ay.val b))=some l
 | [],_=>rfl
 |c::l,b=>by
  rw [List.map_cons,xk,bytesOf,s6 l b]
  simp
end
end Go.Vm
section
namespace Go.Vm.Cx
open Go.Vm
variable [TK]
noncomputable section
theorem xe {P:Program} (w:World):∀ (ns:List Int) (a:Addr) (i:Nat) (acc:ByteArray),(∀ (j:Nat) x,ns[j]? = some x→(load (a.add (i+j))).run P w = .ok (.int .u8 x) w) →
 (Extern.Bytes.loadBytes (a.add i) ns.length acc).run P w = .ok ⟨acc.data++(ns.map fun n=>UInt8.ofNat n.toNat).toArray⟩ w
 | [],a,i,acc,_=>by simp [Extern.Bytes.loadBytes]
 |x::l,a,i,acc,h=>by
  have h0:=h 0 x rfl
  rw [Nat.add_zero] at h0
  have e:(a.add i).add 1=a.add (i+1):=by
   unfold Addr.add
   by_cases hj:i=0
   ·subst hj;simp
   ·simp [hj];omega
  have ih:=xe (P:=P) w l a (i+1) (acc.push x.toNat.toUInt8) (fun j y hy=>by
   have:=h (j+1) y (by simpa using hy)
   rw [show i+1+j=i+(j+1) from by omega];exact this)
  simp only [List.length_cons,Extern.Bytes.loadBytes,Sem.run_bind,h0,Result.andThen]
  rw [e,ih]
  congr 1
  apply ByteArray.ext
  simp [ByteArray.push,Nat.toUInt8]
theorem Pa {l:List Int} {l':List Value} (h:l'=l.map (Value.int .u8)) (j:Nat) (x:Int) (hx:l[j]? = some x):l'[j]? = some (.int .u8 x):=by rw [h,List.getElem?_map,hx];rfl
theorem xu {P:Program} {g st dw w} {a:AV} {v:Value} {l:List AV} {bs:List UInt8} (hok:Ok g st.h w) (hr:Rel g w a v) (h:cellsIn 1 a st=some (l,dw)) (hb:bytesOf l=some bs) :
 (Extern.Bytes.bytesOf v).run P w = .ok ⟨bs.toArray⟩ w:=by
 obtain ⟨_,_,n,news,hsrc,hrl⟩:=rr (P:=P) hok hr h
 obtain ⟨ns,e1,e2⟩:=zd _ _ _ hrl hb
 obtain ⟨r1,r2⟩:=hsrc.run w rfl
 cases v with
 |slice p len cap=>
  have hn:n=len:=by simp [Builtin.lenOf] at r1;exact r1.symm
  subst hn
  cases p with
  |none=>
   have:news=[]:=by simpa [Builtin.firstCells] using r2
   subst this
   have:ns=[]:=by simpa using e1.symm
   subst this
   subst e2
   rfl
  |some a=>
   simp only [Builtin.firstCells,Nat.mul_one] at r2
   unfold loadCells at r2
   obtain ⟨l',q1,q2,q3⟩:=loadCellsFrom_ok a n 0 #[] _ _ r2
   have hl':l'=news:=by simpa using q2.symm
   subst hl'
   have hlen:ns.length=n:=by rw [← q1,e1,List.length_map]
   have:=xe (P:=P) w ns a 0 .empty (fun j x hx=>by
    exact q3 j _ (Pa e1 j x hx))
   rw [hlen] at this
   have e0:a.add 0=a:=by simp [Addr.add]
   rw [e0] at this
   show (Extern.Bytes.loadBytes a n .empty).run P w=_
   rw [this,e2]
   congr 2
   simp [ByteArray.empty,ByteArray.emptyWithCapacity]
   rfl
 |string s=>
  have hn:n=s.size:=by simp [Builtin.lenOf] at r1;exact r1.symm
  subst hn
  simp only [Builtin.firstCells,Sem.run_pure,Result.ok.injEq,and_true] at r2
  have h1:=congrArg Array.toList r2
  rw [e1] at h1
  show Result.ok s w=_
  congr 1
  apply ByteArray.ext
  apply Array.ext'
  rw [e2]
  have h2:=congrArg (List.map fun v:Value=>match v with|.int _ n=>UInt8.ofNat n.toNat|_=>0) h1
  simp only [List.map_map,Array.toList_map] at h2
  have h3:(s.extract 0 s.size).data.toList=s.data.toList:=by simp
  rw [h3] at h2
  have h4:(List.map ((fun v:Value=>match v with|.int _ n=>UInt8.ofNat n.toNat|_=>0) ∘ fun b:UInt8=>Value.int .u8 (b.toNat:Int)) s.data.toList)=s.data.toList:=by
   rw [show ((fun v:Value=>match v with|.int _ n=>UInt8.ofNat n.toNat|_=>0) ∘ fun b:UInt8=>Value.int .u8 (b.toNat:Int))=id from by funext b;simp]
   simp
  rw [h4] at h2
  rw [h2]
  simp
 |_=>simp [Builtin.lenOf,stuck] at r1
def asp (args:List AV):M AV:=
 match args with
 | [a]=>.pure a
 |_=>.fail
def i5 (args:List AV):M AV:=
 match args with
 | [a,b]=>(cellsIn 1 a).bind fun x=>(cellsIn 1 b).bind fun y=>
  match bytesOf x with
  |some x=>
   match bytesOf y with
   |some y=>.pure (.sc (goInt (Lib.compareBytes x y)))
   |none=>.fail
  |none=>.fail
 |_=>.fail
def dk {α:Type} (m:M α):Prop:=∀ st v dw,m st=some (v,dw)→dw.h=st.h∧dw.nx=st.nx
theorem dk.pure {α:Type} (a : α):dk (M.pure a):=fun st v dw h=>by cases h;exact ⟨rfl,rfl⟩
theorem dk.fail {α:Type}:dk (M.fail:M α):=fun st v dw h=>by cases h
theorem dk.bind {α β:Type} {m:M α} {f : α→M β} (hm:dk m) (h:∀ x,dk (f x)):dk (m.bind f):=fun st v dw hb=>by
 obtain ⟨x,s1,h1,h2⟩:=bind_some hb
 have h3:=hm _ _ _ h1
 have h4:=h x _ _ _ h2
 exact ⟨h4.1.trans h3.1,h4.2.trans h3.2⟩
theorem dk.dp (id:Nat):dk (Vm.dp id):=fun _st _v _st1 h=>(eu h).2
theorem dk.cond {α:Type} {b:Bool} {x y:M α} (hx:dk x) (hy:dk y):dk (bif b then x else y):=by cases b<;>assumption
theorem dk.cellsIn (sz:Nat) (v:AV):dk (Vm.cellsIn sz v):=by
 unfold Vm.cellsIn zx
 repeat' (first|exact dk.pure _|exact dk.fail|apply dk.cond|(refine dk.bind (dk.dp _) fun x=>?_)|split)
theorem vv (args:List AV):dk (i5 args):=by
 unfold i5;split
 ·exact dk.bind (dk.cellsIn _ _) fun x=>dk.bind (dk.cellsIn _ _) fun y=>by
   split
   ·split
    ·exact dk.pure _
    ·exact dk.fail
   ·exact dk.fail
 ·exact dk.fail
theorem zr {P:Program} {f:Nat} {fn:Func} (hf:P.funcs[f]? = some fn) (h1:(fn.name == "runtime.NumGoroutine")=false) (h2:fn.body.isNone=true) (h3:Extern.findNext fn=none) (h4:Extern.find fn=some Extern.BytealgCompare.compare) (args:List AV) :
 yq P f args (i5 args):=by
 intro g st w vs r st' hok hfree hrel hm
 refine .inl ?_
 have hst:=vv _ _ _ _ hm
 unfold i5 at hm
 split at hm
 ·rename_i a c
  obtain ⟨x,s1,e1,hm⟩:=bind_some hm
  obtain ⟨y,s2,e2,hm⟩:=bind_some hm
  cases hx:bytesOf x with
  |none=>rw [hx] at hm;cases hm
  |some bx=>
  cases hy:bytesOf y with
  |none=>rw [hx,hy] at hm;cases hm
  |some yb=>
  rw [hx,hy] at hm
  cases hm
  have hh:=dk.cellsIn _ _ _ _ _ e1
  match vs,hrel with
  | [v,u],hrel=>
   have r1:=xu (P:=P) hok hrel.head e1 hx
   have r2:=xu (P:=P) (st:=s1) (by rw [hh.1];exact hok) hrel.tail.head e2 hy
   refine ⟨goInt (Lib.compareBytes bx yb),w,g,?_,?_,?_,.sc _⟩
   ·rw [run_callFunc_extern hf h1 h2 h3 h4]
    have:(Extern.BytealgCompare.compare #[v,u]).run P w = .ok (goInt (Lib.compareBytes bx yb)) w:=by
     change Sem.run P (do pure (goInt (Extern.BytealgCompare.cmp (← Extern.Bytes.bytesOf v) (← Extern.Bytes.bytesOf u)))) w=_
     simp only [Sem.run_bind,r1,r2,Result.andThen,Sem.run_pure]
     rw [Lib.cmp_eq]
    show ((Extern.BytealgCompare.compare #[v,u]).run P w).andThen _=_
    rw [this]
    rfl
   ·rw [hst.1,hst.2];exact .refl _ _ _ _ _
   ·rw [hst.1];exact hok
  | [],hrel=>have:=hrel.1;simp at this
  | [v],hrel=>have:=hrel.1;simp at this
  |_::_::_::_,hrel=>have:=hrel.1;simp at this
 ·cases hm
end
end Go.Vm.Cx
end
section
set_option linter.unnecessarySimpa false
namespace Go.Vm
variable [TK]
noncomputable section
def roT (o:Option (Bool × (List AV→M AV))):Bool:=match o with|some (b,_)=>b|none=>false
theorem aml (b m):roT (some (b,m))=b:=id rfl
theorem ed {o:Oper} {L:SL} {x:Operand} (h:x ∈ o.op.operands):c7 o L x=dj L x:=by
 cases x with
 |tmp t=>
  show (bif o.op.operands.any (fun x=>match x with|.tmp u=>Nat.beq u t|_=>false) then lk L t else .bad)=lk L t
  have:o.op.operands.any (fun x=>match x with|.tmp u=>Nat.beq u t|_=>false)=true:=by
   rw [Array.any_eq_true']
   exact ⟨_,h,by simp⟩
  rw [this];rfl
 |const v=>rfl
 |global g=>rfl
 |func f=>rfl
theorem gm {o:Oper} {L:SL} {l:List Operand} (h:∀ x ∈ l,x ∈ o.op.operands):l.map (c7 o L)=l.map (dj L):=List.map_congr_left fun x hx=>ed (h x hx)
theorem Ka {o:Oper} {L:SL} {l:List (Nat × Operand)} (h:∀ x ∈ l,x.2 ∈ o.op.operands):l.map (fun p=>(p.1,c7 o L p.2))=l.map (fun p=>(p.1,dj L p.2)):=List.map_congr_left fun x hx=>by rw [ed (h x hx)]
def ek (ro:Bool) (F:List Nat) (o:Oper) (recs:List Rec) (K:List Rec→SL→St→Prop) (L:SL) (st:St) (m:M AV):Prop:=Ak ro F o recs K L st (m { h:=m6 st.h F,nx:=st.nx,rl:=[],wl:=[] })
theorem Rv (ro F o recs K L st m):ek ro F o recs K L st m=Ak ro F o recs K L st (m { h:=m6 st.h F,nx:=st.nx,rl:=[],wl:=[] }):=id rfl
section ops
variable (P : Program) (T : dq) (L : SL) (st : St) (recs : List Rec) (K : List Rec → SL → St → Prop) (d : Option Tmp) (ty : TypeId) (pos : String) (af : Array Edge) (gd : Option (Nat × Bool))
theorem Uh (x):fj P T ⟨d,.move x,ty,pos,af,gd⟩ recs K L st=ek (true) ([]) ⟨d,.move x,ty,pos,af,gd⟩ recs K L st (mono (M.pure (dj L x))):=by
 unfold fj jy kp ek
 simp only [ik,cond_true]
 have hm:∀ y,y ∈ ([x]:List Operand)→c7 ⟨d,.move x,ty,pos,af,gd⟩ L y=dj L y:=fun y hy=>ed (by simpa [Op.operands,Call.operands] using hy)
 have hmap:([x]:List Operand).map (c7 ⟨d,.move x,ty,pos,af,gd⟩ L)=([x]:List Operand).map (dj L):=gm (fun y hy=>by simpa [Op.operands,Call.operands] using hy)
 have ho:(⟨d,.move x,ty,pos,af,gd⟩:Oper).op.operands.toList=[x]:=by simp [Op.operands,Call.operands]
 rw [Di,hm x (by simp)]
 rfl
theorem Nh (x):fj P T ⟨d,.assign x,ty,pos,af,gd⟩ recs K L st=ek (true) ([]) ⟨d,.assign x,ty,pos,af,gd⟩ recs K L st (mono (M.pure (dj L x))):=by
 unfold fj jy kp ek
 simp only [ik,cond_true]
 have hm:∀ y,y ∈ ([x]:List Operand)→c7 ⟨d,.assign x,ty,pos,af,gd⟩ L y=dj L y:=fun y hy=>ed (by simpa [Op.operands,Call.operands] using hy)
 have hmap:([x]:List Operand).map (c7 ⟨d,.assign x,ty,pos,af,gd⟩ L)=([x]:List Operand).map (dj L):=gm (fun y hy=>by simpa [Op.operands,Call.operands] using hy)
 have ho:(⟨d,.assign x,ty,pos,af,gd⟩:Oper).op.operands.toList=[x]:=by simp [Op.operands,Call.operands]
 rw [zv,hm x (by simp)]
 rfl
theorem Ya (t a):fj P T ⟨d,.load t a,ty,pos,af,gd⟩ recs K L st=ek (true) ((dj L a).names) ⟨d,.load t a,ty,pos,af,gd⟩ recs K L st (mono (ng P t (dj L a))):=by
 unfold fj jy kp ek
 simp only [ik,cond_false]
 have hm:∀ y,y ∈ ([a]:List Operand)→c7 ⟨d,.load t a,ty,pos,af,gd⟩ L y=dj L y:=fun y hy=>ed (by simpa [Op.operands,Call.operands] using hy)
 have hmap:([a]:List Operand).map (c7 ⟨d,.load t a,ty,pos,af,gd⟩ L)=([a]:List Operand).map (dj L):=gm (fun y hy=>by simpa [Op.operands,Call.operands] using hy)
 have ho:(⟨d,.load t a,ty,pos,af,gd⟩:Oper).op.operands.toList=[a]:=by simp [Op.operands,Call.operands]
 rw [Ec,hm a (by simp)]
 rfl
theorem Fa (s x f):fj P T ⟨d,.fieldAddr s x f,ty,pos,af,gd⟩ recs K L st=ek (true) ([]) ⟨d,.fieldAddr s x f,ty,pos,af,gd⟩ recs K L st (mono (nq P s (dj L x) f)):=by
 unfold fj jy kp ek
 simp only [ik,cond_true]
 have hm:∀ y,y ∈ ([x]:List Operand)→c7 ⟨d,.fieldAddr s x f,ty,pos,af,gd⟩ L y=dj L y:=fun y hy=>ed (by simpa [Op.operands,Call.operands] using hy)
 have hmap:([x]:List Operand).map (c7 ⟨d,.fieldAddr s x f,ty,pos,af,gd⟩ L)=([x]:List Operand).map (dj L):=gm (fun y hy=>by simpa [Op.operands,Call.operands] using hy)
 have ho:(⟨d,.fieldAddr s x f,ty,pos,af,gd⟩:Oper).op.operands.toList=[x]:=by simp [Op.operands,Call.operands]
 rw [vi,hm x (by simp)]
 rfl
theorem Re (op t x y u):fj P T ⟨d,.binOp op t x y u,ty,pos,af,gd⟩ recs K L st=ek (true) ([]) ⟨d,.binOp op t x y u,ty,pos,af,gd⟩ recs K L st (mono (Dk P (c7 ⟨d,.binOp op t x y u,ty,pos,af,gd⟩ L) ⟨d,.binOp op t x y u,ty,pos,af,gd⟩ op t x y)):=by
 unfold fj jy kp ek
 simp only [ik,cond_true]
 have hm:∀ y,y ∈ ([x,y]:List Operand)→c7 ⟨d,.binOp op t x y u,ty,pos,af,gd⟩ L y=dj L y:=fun y hy=>ed (by simpa [Op.operands,Call.operands] using hy)
 have hmap:([x,y]:List Operand).map (c7 ⟨d,.binOp op t x y u,ty,pos,af,gd⟩ L)=([x,y]:List Operand).map (dj L):=gm (fun y hy=>by simpa [Op.operands,Call.operands] using hy)
 have ho:(⟨d,.binOp op t x y u,ty,pos,af,gd⟩:Oper).op.operands.toList=[x,y]:=by simp [Op.operands,Call.operands]
 rfl
theorem Wm (c a b):fj P T ⟨d,.pick c a b,ty,pos,af,gd⟩ recs K L st=ek (true) ([]) ⟨d,.pick c a b,ty,pos,af,gd⟩ recs K L st (mono (Ag (dj L c) (dj L a) (dj L b))):=by
 unfold fj jy kp ek
 simp only [ik,cond_true]
 have hm:∀ y,y ∈ ([c,a,b]:List Operand)→c7 ⟨d,.pick c a b,ty,pos,af,gd⟩ L y=dj L y:=fun y hy=>ed (by simpa [Op.operands,Call.operands] using hy)
 have hmap:([c,a,b]:List Operand).map (c7 ⟨d,.pick c a b,ty,pos,af,gd⟩ L)=([c,a,b]:List Operand).map (dj L):=gm (fun y hy=>by simpa [Op.operands,Call.operands] using hy)
 have ho:(⟨d,.pick c a b,ty,pos,af,gd⟩:Oper).op.operands.toList=[c,a,b]:=by simp [Op.operands,Call.operands]
 rw [Dx,hm c (by simp),hm a (by simp),hm b (by simp)]
 rfl
theorem Sk (t a x):fj P T ⟨d,.store t a x,ty,pos,af,gd⟩ recs K L st=ek (false) ((dj L a).names) ⟨d,.store t a x,ty,pos,af,gd⟩ recs K L st (mono (sk P t (dj L a) (dj L x))):=by
 unfold fj jy kp ek
 simp only [ik,cond_false]
 have hm:∀ y,y ∈ ([a,x]:List Operand)→c7 ⟨d,.store t a x,ty,pos,af,gd⟩ L y=dj L y:=fun y hy=>ed (by simpa [Op.operands,Call.operands] using hy)
 have hmap:([a,x]:List Operand).map (c7 ⟨d,.store t a x,ty,pos,af,gd⟩ L)=([a,x]:List Operand).map (dj L):=gm (fun y hy=>by simpa [Op.operands,Call.operands] using hy)
 have ho:(⟨d,.store t a x,ty,pos,af,gd⟩:Oper).op.operands.toList=[a,x]:=by simp [Op.operands,Call.operands]
 rw [B9,hm a (by simp),hm x (by simp)]
 rfl
theorem Eu (t x i):fj P T ⟨d,.indexAddr t x i,ty,pos,af,gd⟩ recs K L st=ek (true) ([]) ⟨d,.indexAddr t x i,ty,pos,af,gd⟩ recs K L st (mono (np P t (dj L x) (dj L i))):=by
 unfold fj jy kp ek
 simp only [ik,cond_true]
 have hm:∀ y,y ∈ ([x,i]:List Operand)→c7 ⟨d,.indexAddr t x i,ty,pos,af,gd⟩ L y=dj L y:=fun y hy=>ed (by simpa [Op.operands,Call.operands] using hy)
 have hmap:([x,i]:List Operand).map (c7 ⟨d,.indexAddr t x i,ty,pos,af,gd⟩ L)=([x,i]:List Operand).map (dj L):=gm (fun y hy=>by simpa [Op.operands,Call.operands] using hy)
 have ho:(⟨d,.indexAddr t x i,ty,pos,af,gd⟩:Oper).op.operands.toList=[x,i]:=by simp [Op.operands,Call.operands]
 rw [u0,hm x (by simp),hm i (by simp)]
 rfl
theorem Rg (t):fj P T ⟨d,.alloc t,ty,pos,af,gd⟩ recs K L st=ek (true) (reach st.h ec [] []) ⟨d,.alloc t,ty,pos,af,gd⟩ recs K L st (mono (vo P t)):=by
 unfold fj jy kp ek
 simp only [ik,cond_false]
 have hm:∀ y,y ∈ ([]:List Operand)→c7 ⟨d,.alloc t,ty,pos,af,gd⟩ L y=dj L y:=fun y hy=>ed (by simpa [Op.operands,Call.operands] using hy)
 have hmap:([]:List Operand).map (c7 ⟨d,.alloc t,ty,pos,af,gd⟩ L)=([]:List Operand).map (dj L):=gm (fun y hy=>by simpa [Op.operands,Call.operands] using hy)
 have ho:(⟨d,.alloc t,ty,pos,af,gd⟩:Oper).op.operands.toList=[]:=by simp [Op.operands,Call.operands]
 rw [ho,hmap]
 rfl
theorem Qz (t ps):fj P T ⟨d,.build t ps,ty,pos,af,gd⟩ recs K L st=ek (true) (reach st.h ec (AV.names.go ((ps.toList.map (·.2)).map (dj L))) []) ⟨d,.build t ps,ty,pos,af,gd⟩ recs K L st (mono (uc P t (ps.toList.map fun p=>(p.1,dj L p.2)))):=by
 unfold fj jy kp ek
 simp only [ik,cond_false]
 have hm:∀ y,y ∈ ((ps.toList.map (·.2)):List Operand)→c7 ⟨d,.build t ps,ty,pos,af,gd⟩ L y=dj L y:=fun y hy=>ed (by simpa [Op.operands,Call.operands] using hy)
 have hmap:((ps.toList.map (·.2)):List Operand).map (c7 ⟨d,.build t ps,ty,pos,af,gd⟩ L)=((ps.toList.map (·.2)):List Operand).map (dj L):=gm (fun y hy=>by simpa [Op.operands,Call.operands] using hy)
 have ho:(⟨d,.build t ps,ty,pos,af,gd⟩:Oper).op.operands.toList=(ps.toList.map (·.2)):=by simp [Op.operands,Call.operands]
 rw [ho,hmap]
 rw [Bx,Ka (fun x hx=>by simp [Op.operands];exact ⟨_,by simpa using hx⟩)]
 rfl
theorem Dh (t n ps):fj P T ⟨d,.buildSlice t n ps,ty,pos,af,gd⟩ recs K L st=ek (true) (reach st.h ec (AV.names.go ((ps.toList.map (·.2)).map (dj L))) []) ⟨d,.buildSlice t n ps,ty,pos,af,gd⟩ recs K L st (mono (k9 P t n (ps.toList.map fun p=>(p.1,dj L p.2)))):=by
 unfold fj jy kp ek
 simp only [ik,cond_false]
 have hm:∀ y,y ∈ ((ps.toList.map (·.2)):List Operand)→c7 ⟨d,.buildSlice t n ps,ty,pos,af,gd⟩ L y=dj L y:=fun y hy=>ed (by simpa [Op.operands,Call.operands] using hy)
 have hmap:((ps.toList.map (·.2)):List Operand).map (c7 ⟨d,.buildSlice t n ps,ty,pos,af,gd⟩ L)=((ps.toList.map (·.2)):List Operand).map (dj L):=gm (fun y hy=>by simpa [Op.operands,Call.operands] using hy)
 have ho:(⟨d,.buildSlice t n ps,ty,pos,af,gd⟩:Oper).op.operands.toList=(ps.toList.map (·.2)):=by simp [Op.operands,Call.operands]
 rw [ho,hmap]
 rw [tl,Ka (fun x hx=>by simp [Op.operands];exact ⟨_,by simpa using hx⟩)]
 rfl
theorem Kj (s u x):fj P T ⟨d,.convert s u x,ty,pos,af,gd⟩ recs K L st=ek (true) (reach st.h ec (AV.names.go ([x].map (dj L))) []) ⟨d,.convert s u x,ty,pos,af,gd⟩ recs K L st (mono (rq P (c7 ⟨d,.convert s u x,ty,pos,af,gd⟩ L) ⟨d,.convert s u x,ty,pos,af,gd⟩ s u (dj L x))):=by
 unfold fj jy kp ek
 simp only [ik,cond_false]
 have hm:∀ y,y ∈ ([x]:List Operand)→c7 ⟨d,.convert s u x,ty,pos,af,gd⟩ L y=dj L y:=fun y hy=>ed (by simpa [Op.operands,Call.operands] using hy)
 have hmap:([x]:List Operand).map (c7 ⟨d,.convert s u x,ty,pos,af,gd⟩ L)=([x]:List Operand).map (dj L):=gm (fun y hy=>by simpa [Op.operands,Call.operands] using hy)
 have ho:(⟨d,.convert s u x,ty,pos,af,gd⟩:Oper).op.operands.toList=[x]:=by simp [Op.operands,Call.operands]
 rw [ho,hmap]
 rw [yf,hm x (by simp)]
 rfl
theorem Rs (t x i):fj P T ⟨d,.index t x i,ty,pos,af,gd⟩ recs K L st=ek (true) (reach st.h ec (AV.names.go ([x,i].map (dj L))) []) ⟨d,.index t x i,ty,pos,af,gd⟩ recs K L st (mono (wa P (c7 ⟨d,.index t x i,ty,pos,af,gd⟩ L) ⟨d,.index t x i,ty,pos,af,gd⟩ t x i)):=by
 unfold fj jy kp ek
 simp only [ik,cond_false]
 have hm:∀ y,y ∈ ([x,i]:List Operand)→c7 ⟨d,.index t x i,ty,pos,af,gd⟩ L y=dj L y:=fun y hy=>ed (by simpa [Op.operands,Call.operands] using hy)
 have hmap:([x,i]:List Operand).map (c7 ⟨d,.index t x i,ty,pos,af,gd⟩ L)=([x,i]:List Operand).map (dj L):=gm (fun y hy=>by simpa [Op.operands,Call.operands] using hy)
 have ho:(⟨d,.index t x i,ty,pos,af,gd⟩:Oper).op.operands.toList=[x,i]:=by simp [Op.operands,Call.operands]
 rw [ho,hmap]
 rfl
theorem alf (op t x):fj P T ⟨d,.unOp op t x,ty,pos,af,gd⟩ recs K L st=ek (true) (reach st.h ec (AV.names.go ([x].map (dj L))) []) ⟨d,.unOp op t x,ty,pos,af,gd⟩ recs K L st (mono (jg P (c7 ⟨d,.unOp op t x,ty,pos,af,gd⟩ L) ⟨d,.unOp op t x,ty,pos,af,gd⟩ [x])):=by
 unfold fj jy kp ek
 simp only [ik,cond_false]
 have hm:∀ y,y ∈ ([x]:List Operand)→c7 ⟨d,.unOp op t x,ty,pos,af,gd⟩ L y=dj L y:=fun y hy=>ed (by simpa [Op.operands,Call.operands] using hy)
 have hmap:([x]:List Operand).map (c7 ⟨d,.unOp op t x,ty,pos,af,gd⟩ L)=([x]:List Operand).map (dj L):=gm (fun y hy=>by simpa [Op.operands,Call.operands] using hy)
 have ho:(⟨d,.unOp op t x,ty,pos,af,gd⟩:Oper).op.operands.toList=[x]:=by simp [Op.operands,Call.operands]
 rw [ho,hmap]
 rfl
theorem abk (x ts):fj P T ⟨d,.call { callee:=.builtin .len,args:=#[x],argTypes:=ts },ty,pos,af,gd⟩ recs K L st=ek (true) ([]) ⟨d,.call { callee:=.builtin .len,args:=#[x],argTypes:=ts },ty,pos,af,gd⟩ recs K L st (mono (qg ((ts[0]?).bind P.underlying) (dj L x))):=by
 unfold fj jy kp ek
 simp only [ik,cond_true]
 have hm:∀ y,y ∈ ([x]:List Operand)→c7 ⟨d,.call { callee:=.builtin .len,args:=#[x],argTypes:=ts },ty,pos,af,gd⟩ L y=dj L y:=fun y hy=>ed (by simpa [Op.operands,Call.operands] using hy)
 have hmap:([x]:List Operand).map (c7 ⟨d,.call { callee:=.builtin .len,args:=#[x],argTypes:=ts },ty,pos,af,gd⟩ L)=([x]:List Operand).map (dj L):=gm (fun y hy=>by simpa [Op.operands,Call.operands] using hy)
 have ho:(⟨d,.call { callee:=.builtin .len,args:=#[x],argTypes:=ts },ty,pos,af,gd⟩:Oper).op.operands.toList=[x]:=by simp [Op.operands,Call.operands]
 rw [Gu,hm x (by simp)]
 rfl
theorem Nc (s x ts):fj P T ⟨d,.call { callee:=.builtin .append,args:=#[s,x],argTypes:=ts },ty,pos,af,gd⟩ recs K L st=ek (false) (reach st.h ec (AV.names.go ([s,x].map (dj L))) []) ⟨d,.call { callee:=.builtin .append,args:=#[s,x],argTypes:=ts },ty,pos,af,gd⟩ recs K L st (mono (mh P ts[0]? ((ts[1]?).bind P.underlying) (dj L s) (dj L x))):=by
 unfold fj jy kp ek
 simp only [ik,cond_false]
 have hm:∀ y,y ∈ ([s,x]:List Operand)→c7 ⟨d,.call { callee:=.builtin .append,args:=#[s,x],argTypes:=ts },ty,pos,af,gd⟩ L y=dj L y:=fun y hy=>ed (by simpa [Op.operands,Call.operands] using hy)
 have hmap:([s,x]:List Operand).map (c7 ⟨d,.call { callee:=.builtin .append,args:=#[s,x],argTypes:=ts },ty,pos,af,gd⟩ L)=([s,x]:List Operand).map (dj L):=gm (fun y hy=>by simpa [Op.operands,Call.operands] using hy)
 have ho:(⟨d,.call { callee:=.builtin .append,args:=#[s,x],argTypes:=ts },ty,pos,af,gd⟩:Oper).op.operands.toList=[s,x]:=by simp [Op.operands,Call.operands]
 rw [ho,hmap]
 rw [Ao,hm s (by simp),hm x (by simp)]
 rfl
theorem Vn (f args ts):fj P T ⟨d,.call { callee:=.value f,args,argTypes:=ts },ty,pos,af,gd⟩ recs K L st=ek (nd T (dj L) ⟨d,.call { callee:=.value f,args,argTypes:=ts },ty,pos,af,gd⟩) (reach st.h ec (AV.names.go ((f::args.toList).map (dj L))) []) ⟨d,.call { callee:=.value f,args,argTypes:=ts },ty,pos,af,gd⟩ recs K L st (ru T (dj L f) (args.toList.map (dj L))):=by
 unfold fj jy kp ek
 simp only [ik,cond_false]
 have h1:⟨d,.call { callee:=.value f,args,argTypes:=ts },ty,pos,af,gd⟩=(⟨d,.call { callee:=.value f,args,argTypes:=ts },ty,pos,af,gd⟩:Oper):=rfl
 have hf:c7 ⟨d,.call { callee:=.value f,args,argTypes:=ts },ty,pos,af,gd⟩ L f=dj L f:=ed (by simp [Op.operands,Call.operands])
 have ha:args.toList.map (c7 ⟨d,.call { callee:=.value f,args,argTypes:=ts },ty,pos,af,gd⟩ L)=args.toList.map (dj L):=gm (fun x hx=>by simp [Op.operands,Call.operands];exact .inr (by simpa using hx))
 have hr:nd T (c7 ⟨d,.call { callee:=.value f,args,argTypes:=ts },ty,pos,af,gd⟩ L) ⟨d,.call { callee:=.value f,args,argTypes:=ts },ty,pos,af,gd⟩=nd T (dj L) ⟨d,.call { callee:=.value f,args,argTypes:=ts },ty,pos,af,gd⟩:=by simp only [nd,hf]
 have ho:(⟨d,.call { callee:=.value f,args,argTypes:=ts },ty,pos,af,gd⟩:Oper).op.operands.toList.map (c7 ⟨d,.call { callee:=.value f,args,argTypes:=ts },ty,pos,af,gd⟩ L)=(f::args.toList).map (dj L):=by
  show ((#[f]++args).toList).map _=_
  simp only [Array.toList_append,List.map_append,ha,List.map_cons,hf]
  rfl
 rw [hr,ho]
 show Ak _ _ _ _ _ _ _ (ru T (c7 _ L f) (args.toList.map (c7 _ L)) _)=_
 rw [hf,ha]
theorem Jz (n args ts):nd T (dj L) ⟨d,.call { callee:=.value (.func n),args,argTypes:=ts },ty,pos,af,gd⟩=roT (T.find n):=by simp only [nd,dj];rfl
end ops
theorem Sz (P T ops K L st):ze P T ops true K L st=(Fz ops=true∧(zz P T ops ops.toList K [] L st∨Gi P T ops ops.toList K [] L st)):=id rfl
theorem S0 (n):Bd n []=true:=id rfl
theorem Mc (n o r):Bd n (o::r)=(Nat.blt o n && Bd n r):=id rfl
theorem Vj (h h'):same h h' []=True:=id rfl
theorem S2 (h h' o r):same h h' (o::r)=(h.get o=h'.get o∧same h h' r):=id rfl
theorem Rr (h):m6 h [] = .nil:=id rfl
theorem Mf (h o r):m6 h (o::r)=Tr.set depth (m6 h r) o (h.get o):=id rfl
theorem Nb (h1 h):pq h1 [] h=h:=id rfl
theorem Jx (h1 o r h):pq h1 (o::r) h=Tr.set depth (pq h1 r h) o (h1.get o):=id rfl
theorem Qt (t ts v vs):j5 (t::ts) (v::vs)=(t,v)::j5 ts vs:=id rfl
theorem So (P T f ps A B p Q L0 st0):aif P T f ps A B p Q L0 st0=(Nat.ble p 1000=true∧Hr P T ps A B p Q L0 st0 (C9 (dj L0 f))):=id rfl
theorem U2 (P T ps A B p Q L0 st0 g caps):Hr P T ps A B p Q L0 st0 (some (g,caps))=Fo P T ps A B p Q L0 st0 caps (Ij P g):=id rfl
theorem V7 (P T ps A B p Q L0 st0 caps nt code):Fo P T ps A B p Q L0 st0 caps (some (nt,code))=(Nat.ble (caps.length+1) nt=true∧∀ l:Nat,ny P T l (u3 ps A B L0) p code (Yi Q L0) none (cf 0 (.sc (.func (.yield l) #[] #[])::caps)) st0):=id rfl
theorem Sf (g c):C9 (.fn (.func g) [] c)=some (g,c):=id rfl
theorem ai1 {P:Program} {T:dq} {l:Nat} {ar:Nat} {L:SL} {st:St} {Q:QI} {ps:List Tmp} {ra rb:Code} {L0:SL} {α:Type} {b:Code} (keep:List Nat) (V : α→List AV) (O : α→List (Option ba)) (I : α→Prop) (μ : α→Nat) (x : α) (hx:I x)
 (hv:i4 ar keep L st=V x) (ho:fc ar keep L st=O x)
 (step:∀ x,I x→ny P T l (u3 ps (fun p=>wl P T p ra) (fun p=>wl P T p rb) L0) ar b (Dm (uj ar keep (fun vs os=>∃ y,I y ∧ μ y < μ x∧vs=V y∧os=O y) (fun _ _ _=>False)) Q) none (j5 keep (V x)) (bk (O x))):ny P T l (u3 ps (fun p=>wl P T p ra) (fun p=>wl P T p rb) L0) ar (.loop b) Q none L st:=
 akl (keep:=keep) (V:=V) (O:=O) (I:=I) (μ:=μ) (x:=x) (hx:=hx) (hR:=aak P T) (hv:=hv) (ho:=ho) (step:=step)
theorem adh {P:Program} {T:dq} {R:Cc} {ar:Nat} {L:SL} {st:St} {o:Oper} {K:Option Ex→SL→St→Prop} {args:Array Operand} (keep:List Nat) (h:Oj R (fc ar keep L st).length args o.dst K (j5 keep (i4 ar keep L st)) (bk (fc ar keep L st))):P8 P T R ar o K none L st (some args):=⟨rfl,keep,h⟩
theorem Py (P:Program):∀ s:Sem Value,ev P (do pure (Next.value (← s)))=(ev P s).map Next.value:=by
 intro s
 induction s with
 |pure b=>rfl
 |program k ih=>exact ih P
 |choose q k ih=>
  simp only [bind,Sem.bind,ev]
  split
  ·exact ih 0
  ·rfl
 |mark m k ih=>exact ih
 |_=>rfl
def Wy (m:M AV):M AV:=m
def Yo (a:AV) (m:M AV):M AV:=
 match a.bool with
 |some b=>M.pure (.sc (.bool (!b)))
 |none=>m
theorem aja (b:Bool) (m:M AV):Yo (.sc (.bool b)) m=M.pure (.sc (.bool (!b))):=id rfl
theorem aof {a:AV} {b:Bool} (h:a.bool=some b):a = .sc (.bool b):=by
 unfold AV.bool AV.exact lx at h
 cases a with
 |sc v=>cases v<;>simp at h;rw [h]
 |_=>cases h
theorem Lt (P:Program) (ρ:Operand→AV) (d ty pos af gd) (t:TypeId) (x:Operand):jg P ρ ⟨d,.unOp .not t x,ty,pos,af,gd⟩ [x]=Yo (ρ x) (Wy (jg P ρ ⟨d,.unOp .not t x,ty,pos,af,gd⟩ [x])):=by
 unfold Yo
 split
 ·rename_i b hb
  have hx:=aof hb
  have h2:execOp (fun z=>((ρ z).fi).getD undef) ⟨d,.unOp .not t x,ty,pos,af,gd⟩=(do pure (Next.value (← Op.unary .not (.bool b)))):=by
   simp only [execOp,hx,AV.fi,Option.getD_some]
  unfold jg js n7
  simp only [List.all_cons,List.all_nil,hx,AV.fi,Option.isSome_some,Bool.and_true,cond_true]
  rw [h2,Py]
  rfl
 ·rfl
theorem Q9 (P:Program) (T:dq) (ρ:Operand→AV) (d ty pos af gd) (t:TypeId) (x:Operand):fw P T ⟨d,.unOp .not t x,ty,pos,af,gd⟩ ρ=mono (Yo (ρ x) (Wy (jg P ρ ⟨d,.unOp .not t x,ty,pos,af,gd⟩ [x]))):=by
 exact congrArg mono (Lt ..)
theorem aa9 (P:Program) (T:dq) (L:SL) (st:St) (recs:List Rec) (K:List Rec→SL→St→Prop) (d ty pos af gd) (t x):fj P T ⟨d,.unOp .not t x,ty,pos,af,gd⟩ recs K L st=ek true (reach st.h ec (AV.names.go ([x].map (dj L))) []) ⟨d,.unOp .not t x,ty,pos,af,gd⟩ recs K L st (mono (Yo (dj L x) (Wy (jg P (c7 ⟨d,.unOp .not t x,ty,pos,af,gd⟩ L) ⟨d,.unOp .not t x,ty,pos,af,gd⟩ [x])))):=by
 rw [alf]
 have h:=Lt P (c7 ⟨d,.unOp .not t x,ty,pos,af,gd⟩ L) d ty pos af gd t x
 rw [ed (by simp [Op.operands])] at h
 rw [← h]
theorem Li (l:List UInt8):bytesOf (l.map vu)=some l:=by rw [zt,s6]
theorem J2 (a b:ByteArray):Cx.i5 [.sc (.string a),.sc (.string b)]=M.pure (.sc (goInt (Lib.compareBytes a.data.toList b.data.toList))):=by
 unfold Cx.i5 cellsIn
 simp only [Nat.beq_refl,cond_true]
 unfold M.bind M.pure
 simp only [Li]
 rfl
theorem H9 {α:Type} (C:cw α) (f:Bool) (h:C.sz=1) (ha:C.agg=false) (l:List α):(l.map (C.val f)).flatMap AV.cells=l.map (C.val f):=by
 induction l with
 |nil=>rfl
 |cons x l ih=>
  simp only [List.map_cons,List.flatMap_cons,ih]
  obtain ⟨c,h1,h2,_⟩:=C.one ha f x
  have:C.val f x=c:=by simp [cw.val,ha,h1]
  rw [this,h2];rfl
theorem J1 (f g:Bool) (a b:List UInt8):Cx.i5 [.vl f 1 (a.map (ay.val f)),.vl g 1 (b.map (ay.val g))]=M.pure (.sc (goInt (Lib.compareBytes a b))):=by
 unfold Cx.i5 cellsIn
 simp only [Nat.beq_refl,cond_true,H9 ay _ rfl rfl]
 unfold M.bind M.pure
 simp only [s6]
 rfl
theorem I8 {L:SL} {d ty pos af gd} {op t u x y}:c7 ⟨d,.binOp op t x y u,ty,pos,af,gd⟩ L x=dj L x:=ed (by simp [Op.operands])
theorem I5 {L:SL} {d ty pos af gd} {op t u x y}:c7 ⟨d,.binOp op t x y u,ty,pos,af,gd⟩ L y=dj L y:=ed (by simp [Op.operands])
theorem Kf {L:SL} {d ty pos af gd} {i t x}:c7 ⟨d,.index t x i,ty,pos,af,gd⟩ L x=dj L x:=ed (by simp [Op.operands])
theorem Kh {L:SL} {d ty pos af gd} {i t x}:c7 ⟨d,.index t x i,ty,pos,af,gd⟩ L i=dj L i:=ed (by simp [Op.operands])
def acg (P:Program) (ρ:Operand→AV) (o:Oper) (l:List Operand):M AV:=jg P ρ o l
def Y6 (u:Option TypeDesc) (a ix:AV) (m:M AV):M AV:=
 match u with
 |some .string=>
  match a with
  |.sc (.string s)=>
   match ix with
   |.sc (.int _ n)=>
    match (bif decide (0≤n) then s.data.toList[n.toNat]? else none) with
    |some b=>M.pure (.sc (.int .u8 b.toNat))
    |none=>m
   |_=>m
  |_=>m
 |_=>m
theorem Wl (s:ByteArray) (k:IntKind) (n:Int) (m:M AV):Y6 (some .string) (.sc (.string s)) (.sc (.int k n)) m=match (bif decide (0≤n) then s.data.toList[n.toNat]? else none) with|some b=>M.pure (.sc (.int .u8 b.toNat))|none=>m:=id rfl
theorem Ho (P:Program) (ρ:Operand→AV) (d ty pos af gd) (t:TypeId) (x i:Operand):jg P ρ ⟨d,.index t x i,ty,pos,af,gd⟩ [x,i]=Y6 (P.underlying t) (ρ x) (ρ i) (acg P ρ ⟨d,.index t x i,ty,pos,af,gd⟩ [x,i]):=by
 unfold Y6
 split
 ·rename_i hu
  split
  ·rename_i s hx
   split
   ·rename_i k n hi
    split
    ·rename_i b hb
     cases h0:decide (0≤n) with
     |false=>rw [h0] at hb;cases hb
     |true=>
     rw [h0,cond_true] at hb
     have h0 : 0≤n:=by simpa using h0
     have hb':s[n.toNat]? = some b:=by
      obtain ⟨h1,h2⟩:=List.getElem?_eq_some_iff.1 hb
      simp at h1
      rw [getElem?_pos s n.toNat (by simpa using h1)]
      rw [← h2];rfl
     have h2:execOp (fun z=>((ρ z).fi).getD undef) ⟨d,.index t x i,ty,pos,af,gd⟩=(do pure (Next.value (← Instr.index t (.string s) (.int k n)))):=by
      simp only [execOp,hx,hi,AV.fi,Option.getD_some]
     unfold jg js n7
     simp only [List.all_cons,List.all_nil,hx,hi,AV.fi,Option.isSome_some,Bool.and_true,cond_true]
     rw [h2,Py]
     have h3:ev P (Instr.index t (.string s) (.int k n))=some (.int .u8 b.toNat):=by
      simp [Instr.index,asIntOf,underlying,program,ev,hu,h0,hb',bind,Sem.bind,pure]
     rw [h3]
     rfl
    ·rfl
   ·rfl
  ·rfl
 ·rfl
theorem Dr (a n:Nat):(a:Int).fdiv (n:Int)=((a / n:Nat):Int):=by
 rw [Int.fdiv_eq_ediv_of_nonneg _ (by omega)];rfl
theorem aqu (a:Nat):(a:Int).fdiv 2=((a / 2:Nat):Int):=Dr a 2
theorem Xp (a:Nat):(a:Int).fdiv 256=((a / 256:Nat):Int):=Dr a 256
theorem Oq (a:Nat):(a:Int).fdiv 65536=((a / 65536:Nat):Int):=Dr a 65536
theorem E3 (a:Nat):(a:Int).fdiv 16777216=((a / 16777216:Nat):Int):=Dr a 16777216
theorem Ys (f:Nat) (m) (T:dq):dq.find ((f,m)::T) f=some m:=by simp [dq.find]
theorem Q0 (f g:Nat) (m) (T:dq) (h:(f == g)=false):dq.find ((f,m)::T) g=dq.find T g:=by
 have e:f≠g:=by simpa using h
 simp [dq.find,mu e]
end
end Go.Vm
end
namespace Go.Vm
variable [TK]
noncomputable section
def wk (P:Program) (t:TypeId):Option (Nat × Nat × Nat):=
 match lq P t with
 |some e=>
  match cz P e,i6 P e,ef P e with
  |some sz,some bytes,some z=>bif Nat.blt 0 sz && Nat.blt 0 bytes && Nat.beq z.cells.size sz then some (e,sz,bytes) else none
  |_,_,_=>none
 |none=>none
def U9 (q:Option (Nat × Nat × Nat)) (s x:AV):M AV:=
 match q with
 |some (e,sz,bytes)=>(cellsIn sz x).bind (oc e sz bytes s)
 |none=>M.fail
theorem ahb (e sz bytes s x):U9 (some (e,sz,bytes)) s x=(cellsIn sz x).bind (oc e sz bytes s):=id rfl
theorem Mj (P:Program) (t e:TypeId) (s x:AV):mh P (some t) (some (.slice e)) s x=U9 (wk P t) s x:=by
 unfold mh U9 wk
 simp only [Option.bind_some]
 cases lq P t with
 |none=>rfl
 |some e=>
  simp only
  cases cz P e with
  |none=>rfl
  |some sz=>
   cases i6 P e with
   |none=>rfl
   |some bytes=>
    cases ef P e with
    |none=>rfl
    |some z=>
     simp only
     cases (Nat.blt 0 sz && Nat.blt 0 bytes && Nat.beq z.cells.size sz)<;>rfl
theorem N7 (P:Program) (t:TypeId) (s x:AV):mh P (some t) (some .string) s x=U9 (wk P t) s x:=by
 unfold mh U9 wk
 simp only [Option.bind_some]
 cases lq P t with
 |none=>rfl
 |some e=>
  simp only
  cases cz P e with
  |none=>rfl
  |some sz=>
   cases i6 P e with
   |none=>rfl
   |some bytes=>
    cases ef P e with
    |none=>rfl
    |some z=>
     simp only
     cases (Nat.blt 0 sz && Nat.blt 0 bytes && Nat.beq z.cells.size sz)<;>rfl
theorem I3 (e sz bytes new):oc e sz bytes (.sc (.slice none 0 0)) new=bif new.isEmpty then M.pure (.sc (.slice none 0 0)) else bif Nat.ble (new.length * bytes) 140737488355328 then pa e sz (new.length / sz) new else M.fail:=id rfl
theorem N5 (e sz bytes o off len sz' new):oc e sz bytes (.sl o off len sz') new=bif Nat.beq sz sz' then (dp o).bind (Bg e sz bytes o off len new) else M.fail:=id rfl
theorem I4 (e sz bytes o off len new cells k st et):Bg e sz bytes o off len new (.row cells k st et)=(bif Nat.beq et e && new.all AV.one && Nat.ble (off+len * sz) cells.length && Nat.ble ((len * sz+new.length) * bytes) 140737488355328 then
 bif Nat.ble k (off+len * sz) then
  (Du o).bind fun _=>(iz (.row ((cells.take (off+len * sz)).drop off++new) (k - off) (ko (jm off (len * sz) cells.length) st) et)).bind fun id=>M.pure (.sl id 0 (len+new.length / sz) sz)
 else bif new.isEmpty then M.pure (.sl o off len sz)
 else M.fail
 else M.fail):=id rfl
theorem al0:ko true 0=0:=id rfl
theorem abj (n):jm 0 n n=true:=by simp [jm]
theorem ab6 (n m):jm 0 n m=Nat.beq n m:=id rfl
def cellsOf {α:Type} (C:cw α) (f:Bool) (xs:List α):List AV:=xs.flatMap (C.cells f)
theorem Jt {α:Type} (C:cw α) (f):cellsOf C f []=[]:=id rfl
theorem j6 {α:Type} (C:cw α) (f) (xs:List α):(cellsOf C f xs).length=xs.length * C.sz:=by
 induction xs with
 |nil=>simp [cellsOf]
 |cons x xs ih=>
  simp only [cellsOf] at ih
  simp [cellsOf,C.len,ih,Nat.succ_mul];omega
theorem wv {α:Type} (C:cw α) (f) (xs ys:List α):cellsOf C f (xs++ys)=cellsOf C f xs++cellsOf C f ys:=by simp [cellsOf]
theorem Jg {α:Type} (C:cw α) (f) (x : α):cellsOf C f [x]=C.cells f x:=by simp [cellsOf]
theorem sv {α:Type} (C:cw α) (f) (xs:List α):(cellsOf C f xs).all AV.one=true:=by
 rw [List.all_eq_true]
 intro c hc
 obtain ⟨x,_,hx⟩:=List.mem_flatMap.1 hc
 exact (C.pl f x c hx).one
theorem E8 {α:Type} (C:cw α) (f) (xs:List α):AV.names.go (cellsOf C f xs)=[]:=B5 (fun c hc=>by
 obtain ⟨x,_,hx⟩:=List.mem_flatMap.1 hc
 exact (C.pl f x c hx).names)
theorem Ki {α:Type} (C:cw α) (τ) (f) (xs:List α):(cellsOf C f xs).map (AV.db τ)=cellsOf C f xs:=by
 rw [← ja]
 exact Ku (fun c hc=>by
  obtain ⟨x,_,hx⟩:=List.mem_flatMap.1 hc
  exact (C.pl f x c hx).db τ)
theorem zq {α:Type} (C:cw α) (f) (xs:List α) (i:Nat):(cellsOf C f xs).drop (i * C.sz)=cellsOf C f (xs.drop i):=by
 induction xs generalizing i with
 |nil=>simp [cellsOf]
 |cons x xs ih=>
  cases i with
  |zero=>simp
  |succ i=>
   have:(i+1) * C.sz=C.sz+i * C.sz:=by rw [Nat.succ_mul];omega
   rw [this,← List.drop_drop]
   have h1:(cellsOf C f (x::xs)).drop C.sz=cellsOf C f xs:=by
    have h2:cellsOf C f (x::xs)=C.cells f x++cellsOf C f xs:=by simp [cellsOf]
    rw [h2,← C.len f x,List.drop_left]
   rw [h1,ih,List.drop_succ_cons]
theorem G0 {α:Type} (C:cw α) (f) (xs:List α) (i:Nat):(cellsOf C f xs).take (i * C.sz)=cellsOf C f (xs.take i):=by
 induction xs generalizing i with
 |nil=>simp [cellsOf]
 |cons x xs ih=>
  cases i with
  |zero=>simp [cellsOf]
  |succ i=>
   have h2:cellsOf C f (x::xs)=C.cells f x++cellsOf C f xs:=by simp [cellsOf]
   have:(i+1) * C.sz=(C.cells f x).length+i * C.sz:=by rw [Nat.succ_mul,C.len];omega
   rw [h2,this,List.take_length_add_append,ih,List.take_succ_cons]
   simp [cellsOf]
theorem Ap {α:Type} (C:cw α) (f) (x : α) (xs:List α):cellsOf C f (x::xs)=C.cells f x++cellsOf C f xs:=by simp [cellsOf]
theorem Db {α:Type} {xs:List α} {i:Nat} {x : α} (h:xs[i]? = some x):xs.drop i=x::xs.drop (i+1):=by
 obtain ⟨h1,h2⟩:=List.getElem?_eq_some_iff.1 h
 rw [← h2];exact List.drop_eq_getElem_cons h1
theorem Kr {α:Type} (C:cw α) (f) (xs:List α):(xs.map (C.val f)).flatMap AV.cells=cellsOf C f xs:=by
 rw [List.flatMap_map];congr 1;funext x;exact C.ua f x
def Bo (fr:Bool) (st sz:Nat) (kd:LK) (et:TypeId):Bool:=!fr || (Nat.beq st 0 && Gf sz kd et)
theorem amo (st sz kd et):Bo false st sz kd et=true:=id rfl
theorem al4 (sz kd et):Bo true 0 sz kd et=Gf sz kd et:=id rfl
theorem Pr {fr:Bool} {st n sz:Nat} {kd:LK} {et:TypeId} (h:Bo fr st sz kd et=true):s8 fr sz kd st 0 (n * sz) n et=true:=by
 cases fr with
 |false=>rfl
 |true=>
  simp only [Bo,Bool.not_true,Bool.false_or,Bool.and_eq_true] at h
  simp [s8,h.1,h.2]
theorem uf {α:Type} (C:cw α) (fr:Bool) (h:Tr ba) (f:Bool) (xs:List α) (k st et) (n:Nat) (hn:n=xs.length) (hf:(f || !fr)=true) (hro:Bo fr st C.sz C.kd et=true):j9 C fr h 0 n (.row (cellsOf C f xs) k st et)=some xs:=by
 subst hn
 simp only [j9,Nat.zero_add,j6,Nat.ble_self_eq_true,Bool.true_and,Pr hro,cond_true,List.drop_zero]
 have:(cellsOf C f xs).take (xs.length * C.sz)=cellsOf C f xs:=List.take_of_length_le (by rw [j6];exact Nat.le_refl _)
 rw [this]
 exact Qm C fr h f (fun e=>by subst e;simpa using hf) xs
theorem Nr {α:Type} (C:cw α) (fr h k st et) (hro:Bo fr st C.sz C.kd et=true):j9 C fr h 0 0 (.row [] k st et)=some []:=by
 have h0:s8 fr C.sz C.kd st 0 0 0 et=true:=by have:=Pr (n:=0) hro;rwa [Nat.zero_mul] at this
 have h1:Nat.ble 0 0=true:=rfl
 simp [j9,ss,h0,h1]
def mi {α:Type} (C:cw α) (fr:Bool) (h:Tr ba):List AV→Option (List α)
 | []=>some []
 |a::l=>match C.dec fr h [a],mi C fr h l with
  |some x,some xs=>some (x::xs)
  |_,_=>none
def aqn {α:Type} (a b:Option (List α)):Option (List α):=match a,b with|some x,some y=>some (x++y)|_,_=>none
def am1 {α:Type} (a:Option α) (b:Option (List α)):Option (List α):=match a,b with|some x,some y=>some (x::y)|_,_=>none
theorem ahd {α:Type} (a b:List α):aqn (some a) (some b)=some (a++b):=id rfl
theorem acp {α:Type} (a : α) (b:List α):am1 (some a) (some b)=some (a::b):=id rfl
theorem K6 {α:Type} (C:cw α) (fr h):mi C fr h []=some []:=id rfl
theorem Bi {α:Type} (C:cw α) (fr h a l):mi C fr h (a::l)=am1 (C.dec fr h [a]) (mi C fr h l):=id rfl
theorem Kz {α:Type} (C:cw α) (fr h):∀ a b,mi C fr h (a++b)=aqn (mi C fr h a) (mi C fr h b)
 | [],b=>by
  simp only [List.nil_append,K6]
  cases mi C fr h b<;>rfl
 |x::a,b=>by
  simp only [List.cons_append,Bi,Kz C fr h a b]
  cases C.dec fr h [x]<;>cases mi C fr h a<;>cases mi C fr h b<;>rfl
theorem Ze {α:Type} (C:cw α) (hz:C.sz=1) (fr h):∀ cells:List AV,ss C fr h cells.length cells=mi C fr h cells
 | []=>rfl
 |a::l=>by
  have h1:(a::l).take C.sz=[a]:=by rw [hz];rfl
  have h2:(a::l).drop C.sz=l:=by rw [hz];rfl
  simp only [List.length_cons,ss,h1,h2,Ze C hz fr h l]
  rfl
theorem se {α:Type} (C:cw α) (hz:C.sz=1) (fr h n cells k st et) (hn:n=cells.length) (hro:Bo fr st 1 C.kd et=true):j9 C fr h 0 n (.row cells k st et)=mi C fr h cells:=by
 subst hn
 have h0:s8 fr 1 C.kd st 0 cells.length cells.length et=true:=by have:=Pr (n:=cells.length) hro;rwa [Nat.mul_one] at this
 simp only [j9,hz,Nat.mul_one,Nat.zero_add,Nat.ble_self_eq_true,Bool.true_and,h0,cond_true,List.drop_zero,List.take_length]
 exact Ze C hz fr h cells
theorem zp {α:Type} (C:cw α) (hz:C.sz=1) (ha:C.agg=false) (fr h f) (hf:fr=true→f=true):∀ l:List α,mi C fr h (l.map (C.val f))=some l
 | []=>rfl
 |x::l=>by
  obtain ⟨c,h1,_⟩:=C.one ha f x
  have hv:C.val f x=c:=by simp [cw.val,ha,h1]
  have hd:=C.rt fr h f x hf
  rw [h1] at hd
  rw [List.map_cons,Bi,zp C hz ha fr h f hf l,hv,hd];rfl
theorem Ud {α β:Type} (f : α → β) (l:List α) (n:Nat):(l.map f).take n=(l.take n).map f:=List.map_take.symm
theorem Vd {α β:Type} (f : α → β) (l:List α) (n:Nat):(l.map f).drop n=(l.drop n).map f:=List.map_drop.symm
theorem An {α β:Type} (f : α → β) (l:List α):(l.map f).isEmpty=l.isEmpty:=by cases l<;>rfl
theorem Bh {α:Type} (l:List α) (x : α):(l++[x]).isEmpty=false:=by cases l<;>rfl
theorem Cq (a b:List AV):AV.names.go (a++b)=AV.names.go a++AV.names.go b:=by
 induction a with
 |nil=>rfl
 |cons x a ih=>simp only [List.cons_append,AV.names.go,ih,List.append_assoc]
theorem rtT {α:Type} (C:cw α) (h:Tr ba) (x : α):C.ga true h (C.val true x)=some x:=C.Fm true h true x (fun _=>rfl)
theorem rtF {α:Type} (C:cw α) (h:Tr ba) (l:Bool) (x : α):C.ga false h (C.val l x)=some x:=C.Fm false h l x (fun e=>by cases e)
theorem Vf (s:ByteArray):s.data.toList.length=s.size:=by simp
theorem ab0 {α:Type} {l:List α} {n:Nat} (h:l.length≤n):l.take n=l:=List.take_of_length_le h
theorem apz {α:Type} (C:cw α) (fr:Bool) (h:Tr ba) (x : α):C.ga fr h (C.val fr x)=some x:=C.Fm fr h fr x (fun e=>e)
theorem bz {a b:Nat} (h:a≤b):decide (a≤b)=true:=by simpa using h
theorem bw {a b:Nat} (h:a<b):decide (a<b)=true:=by simpa using h
theorem bu {a b:Int} (h:a≤b):decide (a≤b)=true:=by simpa using h
theorem ca {a b:Int} (h:a<b):decide (a<b)=true:=by simpa using h
theorem ag (x:Int) (h0 : -9223372036854775808≤x) (h1:x<9223372036854775808):IntKind.i64.wrap x=x:=by
 simp [IntKind.wrap,IntKind.bits,IntKind.signed];omega
theorem af4 (n:Nat):IntKind.u8.wrap (n:Int)=((UInt8.ofNat n).toNat:Int):=by simp [IntKind.wrap,IntKind.bits,IntKind.signed]
theorem a9 {p:Prop} [Decidable p] {X Y:SL→St→Prop} {L st}:ql (.sc (.bool (decide p))) X Y L st=((p→X L st)∧(¬ p→Y L st)):=by
 by_cases h:p<;>simp [h,C7,C4]
theorem cr {a b:Int} {X Y:SL→St→Prop} {L st}:ql (.sc (.bool (a == b))) X Y L st=(((a == b)=true∧a=b→X L st)∧((a == b)=false∧a≠b→Y L st)):=by
 by_cases h:a=b
 ·subst h;simp [C7]
 ·have:(a == b)=false:=by simpa using h
  simp [h,this,C4]
theorem dz {a b:Int} {X Y:SL→St→Prop} {L st}:ql (.sc (.bool (a != b))) X Y L st=(((a != b)=true∧a≠b→X L st)∧((a != b)=false∧a=b→Y L st)):=by
 by_cases h:a=b
 ·subst h;simp [C4]
 ·have:(a != b)=true:=by simpa using h
  simp [h,this,C7]
theorem Qf (P:Program) (T:dq) (ρ:Operand→AV) (d ty pos af gd) (x ts):fw P T ⟨d,.call { callee:=.builtin .cap,args:=#[x],argTypes:=ts },ty,pos,af,gd⟩ ρ=mono (Dp ((ts[0]?).bind P.underlying) (ρ x)):=id rfl
theorem Ra (e a n c):Dp (some (.slice e)) (.sc (.slice a n c))=M.pure (.sc (goInt c)):=id rfl
def ak3 (P:Program) (q:Option (Nat × Nat × Nat)) (s x:AV):M AV:=
 match q with
 |some (e,sz,bytes)=>
  match zj P e sz x with
  |some new=>oc e sz bytes s new
  |none=>M.fail
 |none=>M.fail
theorem ai9 (P:Program) (e sz bytes s x):ak3 P (some (e,sz,bytes)) s x=match zj P e sz x with|some new=>oc e sz bytes s new|none=>M.fail:=id rfl
theorem Ol (P:Program) (t:TypeId) (k:IntKind) (s x:AV):mh P (some t) (some (.int k)) s x=ak3 P (wk P t) s x:=by
 unfold mh ak3 wk
 simp only [Option.bind_some]
 cases lq P t with
 |none=>rfl
 |some e=>
  simp only
  cases cz P e with
  |none=>rfl
  |some sz=>
   cases i6 P e with
   |none=>rfl
   |some bytes=>
    cases ef P e with
    |none=>rfl
    |some z=>
     simp only
     cases (Nat.blt 0 sz && Nat.blt 0 bytes && Nat.beq z.cells.size sz)<;>rfl
def Yh (z:Option Value) (sz:Nat) (n:Int):Option (List AV):=
 match z with
 |some z=>bif decide (0≤n) && decide (n≤1073741824) && Nat.beq z.cells.size sz then some ((List.replicate n.toNat (z.cells.toList.map AV.sc)).flatten) else none
 |none=>none
theorem Uy (z sz n):Yh (some z) sz n=bif decide (0≤n) && decide (n≤1073741824) && Nat.beq z.cells.size sz then some ((List.replicate n.toNat (z.cells.toList.map AV.sc)).flatten) else none:=id rfl
theorem Qj (P:Program) (e sz:Nat) (k:IntKind) (n:Int):zj P e sz (.sc (.int k n))=Yh (ef P e) sz n:=by
 simp only [zj,Yh,sr,AV.int,AV.exact,Option.bind_some,intOf,Option.map_some]
 cases ef P e<;>rfl
theorem acw {α:Type} (n:Nat) (x : α):(List.replicate n [x]).flatten=List.replicate n x:=by
 induction n with
 |zero=>rfl
 |succ n ih=>simp [List.replicate_succ,ih]
theorem Jr {α:Type} {n:Nat} {x : α} (h : 0<n):(List.replicate n x).isEmpty=false:=by
 cases n with
 |zero=>omega
 |succ n=>rfl
theorem nc0:((0:Nat):Int)=0:=id rfl
theorem nc1:((1:Nat):Int)=1:=id rfl
theorem aid (n:Nat):List.replicate n (AV.sc (.int .u8 0))=(List.replicate n (0:UInt8)).map (ay.val false):=by rw [List.map_replicate];rfl
def ada (P:Program) (u:Option TypeDesc) (x hi:AV) (m:M AV):M AV:=
 match u with
 |some (.slice e)=>
  match cz P e with
  |some _=>
   match x with
   |.sc (.slice none 0 0)=>
    match hi with
    |.sc (.int .i64 0)=>M.pure (.sc (.slice none 0 0))
    |_=>m
   |_=>m
  |none=>m
 |_=>m
theorem aiq (P:Program) (e m) (h:(cz P e).isSome=true):ada P (some (.slice e)) (.sc (.slice none 0 0)) (.sc (.int .i64 0)) m=M.pure (.sc (.slice none 0 0)):=by
 obtain ⟨n,hn⟩:=Option.isSome_iff_exists.1 h
 simp only [ada,hn]
theorem Bc (P:Program) (ρ:Operand→AV) (d ty pos af gd) (t:TypeId) (x h:Operand):jg P ρ ⟨d,.slice t x none (some h) none,ty,pos,af,gd⟩ (.slice t x none (some h) none:Op).operands.toList=ada P (P.underlying t) (ρ x) (ρ h) (acg P ρ ⟨d,.slice t x none (some h) none,ty,pos,af,gd⟩ (.slice t x none (some h) none:Op).operands.toList):=by
 unfold ada
 split
 ·rename_i e hu
  split
  ·rename_i n hn
   split
   ·rename_i hx
    split
    ·rename_i hh
     have h2:execOp (fun z=>((ρ z).fi).getD undef) ⟨d,.slice t x none (some h) none,ty,pos,af,gd⟩=(do pure (Next.value (← Instr.sliceAt t (.slice none 0 0) none (some (.int .i64 0)) none))):=by
      simp only [execOp,hx,hh,AV.fi,Option.getD_some,Option.map_some,Option.map_none]
     have hi:∃ i,P.info? e=some i:=by
      unfold cz at hn
      cases hq:P.info? e with
      |none=>rw [hq] at hn;cases hn
      |some i=>exact ⟨i,rfl⟩
     obtain ⟨i,hi⟩:=hi
     have h3:ev P (Instr.sliceAt t (.slice none 0 0) none (some (.int .i64 0)) none)=some (.slice none 0 0):=by
      simp [Instr.sliceAt,Instr.slice,Instr.sliceBounds,Instr.sliceBound,asIntOf,underlying,program,ev,hu,sizeOf,typeInfo,hi,bind,Sem.bind,pure]
     unfold jg js n7
     simp only [Op.operands]
     simp [hx,hh,AV.fi]
     rw [h2,Py,h3]
     rfl
    ·rfl
   ·rfl
  ·rfl
 ·rfl
def akv {α:Type} (o sz:Nat) (l:List α):AV:=bif l.isEmpty then .sc (.slice none 0 0) else .sl o 0 l.length sz
def afy (cells:List AV) (k st:Nat) (et:TypeId):List (Option ba):=bif cells.isEmpty then [] else [some (.row cells k st et)]
theorem aga {α:Type} {o sz} {l:List α} (h:l.isEmpty=false):akv o sz l = .sl o 0 l.length sz:=by simp [akv,h]
theorem Sm {α:Type} (o sz) (l:List α) (c : α):akv o sz (l++[c]) = .sl o 0 (l.length+1) sz:=by rw [aga (Bh l c)];simp
theorem ag7 {cells:List AV} {k st et} (h:cells.isEmpty=false):afy cells k st et=[some (.row cells k st et)]:=by simp [afy,h]
theorem ak7 {α:Type} {f : α→AV} {l:List α} {k st et} (h:l.isEmpty=false):afy (l.map f) k st et=[some (.row (l.map f) k st et)]:=ag7 (by rw [An,h])
theorem Qp {α:Type} (f : α→AV) (l:List α) (c : α) (k st et):afy ((l++[c]).map f) k st et=[some (.row (l.map f++[f c]) k st et)]:=by rw [ak7 (Bh l c)];simp
theorem ee {α:Type} {l:List α} {i:Nat} (h:decide ((i:Int)<(l.length:Int))=true):∃ c,l[i]? = some c∧l.drop i=c::l.drop (i+1)∧i<l.length:=by
 have h1:i<l.length:=by simp at h;omega
 exact ⟨l[i],List.getElem?_eq_getElem h1,List.drop_eq_getElem_cons h1,h1⟩
theorem gp {α:Type} {l:List α} {i:Nat} (h:decide ((i:Int)<(l.length:Int))=false):l.drop i=[]:=by
 have h1:¬ i<l.length:=by simp at h;omega
 exact List.drop_eq_nil_of_le (by omega)
def tc (D:List Nat):Nat→List (Option ba)→List (Option ba)
 |_,[]=>[]
 |i,x::r=>(bif v5 i D then x else none)::tc D (i+1) r
def ve (D:List Nat):Nat→List (Option ba)→List (Option ba)
 |_,[]=>[]
 |i,x::r=>(bif v5 i D then none else x)::ve D (i+1) r
theorem Sy (D):∀ (i:Nat) (os:List (Option ba)),(tc D i os).length=os.length
 |_,[]=>rfl
 |i,x::r=>by simp [tc,Sy D (i+1) r]
theorem Ht (D):∀ (i:Nat) (os:List (Option ba)),(ve D i os).length=os.length
 |_,[]=>rfl
 |i,x::r=>by simp [ve,Ht D (i+1) r]
theorem Ro (D):∀ (os:List (Option ba)) (i j:Nat),((tc D i os)[j]?).join=if (i+j) ∈ D then (os[j]?).join else none
 | [],i,j=>by simp [tc]
 |x::r,i,0=>by
  simp only [tc,List.getElem?_cons_zero,Option.join_some,Nat.add_zero]
  cases hb:v5 i D with
  |true=>rw [if_pos ((tm i D).1 hb)];rfl
  |false=>rw [if_neg (fun h=>by rw [(tm i D).2 h] at hb;cases hb)];rfl
 |x::r,i,j+1=>by
  simp only [tc,List.getElem?_cons_succ]
  rw [Ro D r (i+1) j,show i+1+j=i+(j+1) from by omega]
theorem Rm (D):∀ (os:List (Option ba)) (i j:Nat),((ve D i os)[j]?).join=if (i+j) ∈ D then none else (os[j]?).join
 | [],i,j=>by simp [ve]
 |x::r,i,0=>by
  simp only [ve,List.getElem?_cons_zero,Option.join_some,Nat.add_zero]
  cases hb:v5 i D with
  |true=>rw [if_pos ((tm i D).1 hb)];rfl
  |false=>rw [if_neg (fun h=>by rw [(tm i D).2 h] at hb;cases hb)];rfl
 |x::r,i,j+1=>by
  simp only [ve,List.getElem?_cons_succ]
  rw [Rm D r (i+1) j,show i+1+j=i+(j+1) from by omega]
theorem O2 (os:List (Option ba)) (h:os.length≤c8) (o:Nat):(bk os).h.get o=(os[o]?).join:=by
 simp only [bk]
 rw [re _ _ _ (by omega),if_pos (Nat.zero_le _),Nat.sub_zero]
inductive eh (h:Tr ba):AV→AV→Prop
 |same (a:AV):eh h a a
 |data {α:Type} (C:cw α) (fr:Bool) (x : α) (a:AV) (hd:C.ga fr h a=some x):eh h a (C.val fr x)
 |bad (a:AV):eh h a .bad
 |nil (o off sz:Nat):eh h (.sc (.slice none 0 0)) (.sl o off 0 sz)
 |mw (loc:Bool) (sz:Nat):eh h (.sc (.slice none 0 0)) (.vl loc sz [])
inductive dv (h:Tr ba):List AV→List AV→Prop
 |nil:dv h [] []
 |cons {a b:AV} {l m:List AV} (h1:eh h a b) (h2:dv h l m):dv h (a::l) (b::m)
theorem dv.len {h l m} (hl:dv h l m):m.length=l.length:=by
 induction hl with
 |nil=>rfl
 |cons _ _ ih=>simp [ih]
theorem dv.refl (h):∀ l,dv h l l
 | []=>.nil
 |a::l=>.cons (.same a) (dv.refl h l)
theorem dv.get {h l m} (hl:dv h l m):∀ (i:Nat) b,m[i]? = some b→∃ a,l[i]? = some a∧eh h a b:=by
 induction hl with
 |nil=>intro i b hb;simp at hb
 |cons h1 h2 ih=>
  intro i b hb
  cases i with
  |zero=>simp at hb;subst hb;exact ⟨_,rfl,h1⟩
  |succ i=>exact ih i b (by simpa using hb)
inductive cg (h:Tr ba):List (Option ba)→List (Option ba)→Prop
 |nil:cg h [] []
 |ghost {st et m} (h2:cg h [] m):cg h [] (some (.row [] 0 st et)::m)
 |same {x l m} (h2:cg h l m):cg h (x::l) (x::m)
 |gone {x l m} (h2:cg h l m):cg h (x::l) (none::m)
 |row {cells cells' k st et l m} (h1:dv h cells cells') (h2:cg h l m):cg h (some (.row cells k st et)::l) (some (.row cells' k st et)::m)
theorem cg.refl (h):∀ l,cg h l l
 | []=>.nil
 |x::l=>.same (cg.refl h l)
theorem cg.len {h l m} (hl:cg h l m):l.length≤m.length:=by induction hl<;>simp_all
theorem cg.get {h l m} (hl:cg h l m):∀ (i:Nat) y,(m[i]?).join=some y→(l[i]?).join=some y∨(∃ cells cells' k st et,y = .row cells' k st et∧(l[i]?).join=some (.row cells k st et)∧dv h cells cells')∨(l.length≤i∧Cy y):=by
 induction hl with
 |nil=>intro i y hy;simp at hy
 | @ghost st et m h2 ih=>
  intro i y hy
  cases i with
  |zero=>simp at hy;subst hy;exact .inr (.inr ⟨Nat.le_refl _,st,et,rfl⟩)
  |succ i=>exact .inr (.inr ⟨Nat.zero_le _,(by
   rcases ih i y (by simpa using hy) with h|⟨_,_,_,_,_,_,h,_⟩|h
   ·simp at h
   ·simp at h
   ·exact h.2)⟩)
 |same h2 ih=>
  intro i y hy
  cases i with
  |zero=>exact .inl hy
  |succ i=>exact (ih i y (by simpa using hy)).imp id (Or.imp id (fun h=>⟨Nat.succ_le_succ h.1,h.2⟩))
 |gone h2 ih=>
  intro i y hy
  cases i with
  |zero=>simp at hy
  |succ i=>exact (ih i y (by simpa using hy)).imp id (Or.imp id (fun h=>⟨Nat.succ_le_succ h.1,h.2⟩))
 |row h1 h2 ih=>
  intro i y hy
  cases i with
  |zero=>simp at hy;subst hy;exact .inr (.inl ⟨_,_,_,_,_,rfl,rfl,h1⟩)
  |succ i=>exact (ih i y (by simpa using hy)).imp id (Or.imp id (fun h=>⟨Nat.succ_le_succ h.1,h.2⟩))
theorem jf.lax {vs vs':List AV} {os os':List (Option ba)} {ar:Nat} (D:List Nat) (hlen':os'.length≤c8) (hv:dv (bk (tc D 0 os)).h vs vs') (ho:cg (bk (tc D 0 os)).h (ve D 0 os) os'):jf ar vs os vs' os':=by
 have holen:os.length≤os'.length:=by have:=ho.len;rw [Ht] at this;exact this
 have hlen:os.length≤c8:=Nat.le_trans holen hlen'
 refine ⟨hv.len,fun q=>Nat.le_trans q holen,fun g w us hok hfree hr=>?_⟩
 obtain ⟨hD,ehD⟩:∃ hD,(bk (tc D 0 os)).h=hD:=⟨_,rfl⟩
 rw [ehD] at hv ho
 have dp:∀ o,(bk os).h.get o=(os[o]?).join:=O2 os hlen
 have hgetD:∀ o,hD.get o=if o ∈ D then (os[o]?).join else none:=fun o=>by
  rw [← ehD,O2 _ (by rw [Sy];exact hlen),Ro,Nat.zero_add]
 have hget':∀ o y,(bk os').h.get o=some y→(o ∉ D∧((bk os).h.get o=some y∨∃ cells cells' k st et,y = .row cells' k st et∧(bk os).h.get o=some (.row cells k st et)∧dv hD cells cells'))∨(os.length≤o∧Cy y):=fun o y hy=>by
  rw [O2 _ hlen'] at hy
  have hmid:∀ z,((ve D 0 os)[o]?).join=some z→o ∉ D∧(os[o]?).join=some z:=fun z hz=>by
   rw [Rm,Nat.zero_add] at hz
   by_cases hd:o ∈ D
   ·rw [if_pos hd] at hz;cases hz
   ·rw [if_neg hd] at hz;exact ⟨hd,hz⟩
  rw [dp]
  rcases ho.get o y hy with h1|⟨cells,cells',k,st,et,h1,h2,h3⟩|h1
  ·exact .inl ⟨(hmid _ h1).1,.inl (hmid _ h1).2⟩
  ·exact .inl ⟨(hmid _ h2).1,.inr ⟨cells,cells',k,st,et,h1,(hmid _ h2).2,h3⟩⟩
  ·rw [Ht] at h1;exact .inr h1
 have hsub:∀ o x,hD.get o=some x→o ∈ D∧(bk os).h.get o=some x:=fun o x hx=>by
  rw [hgetD] at hx
  by_cases hd:o ∈ D
  ·rw [if_pos hd] at hx;rw [dp];exact ⟨hd,hx⟩
  ·rw [if_neg hd] at hx;cases hx
 have hokD:Ok g hD w:=hok.part (fun o x hx=>(hsub o x hx).2)
 obtain ⟨K',eK⟩:∃ K':Nat→Nat→Prop,(fun b j=>g.K b j∨∃ o base cells k s e,hD.get o=some (.row cells k s e)∧g.inj o=some (b,base)∧∃ i,(s=0∨i<cells.length)∧j=base+i)=K':=⟨_,rfl⟩
 have hK':∀ b j,K' b j↔(g.K b j∨∃ o base cells k s e,hD.get o=some (.row cells k s e)∧g.inj o=some (b,base)∧∃ i,(s=0∨i<cells.length)∧j=base+i):=fun b j=>by rw [← eK]
 have hlend:rz g hD K':=⟨fun b j h=>(hK' b j).2 (.inl h),fun o cells k s e h b base hi j hj=>(hK' _ _).2 (.inr ⟨o,base,cells,k,s,e,h,hi,j,hj,rfl⟩)⟩
 have hlax:∀ {a b:AV} {v:Value},eh hD a b→Rel g w a v→Rel { g with K:=K' } w b v:=fun {a b v} hl hrel=>by
  have hup:Rel { g with K:=K' } w a v:=Rel.ext (g:=g) (w:=w) (g':={ g with K:=K' }) (w':=w) ⟨rfl,fun _ _ h=>h,fun b j h=>(hK' b j).2 (.inl h),fun _ _ _=>rfl,fun b cs e fr h=>⟨cs,fr,h,rfl⟩,fun b l h=>⟨l,h⟩,fun _ _ _ _ _ _=>rfl⟩ hrel
  cases hl with
  |same=>exact hup
  |data C fr x a hd=>exact (C.N6 hokD hlend (fun _=>Nat.le_refl g.b0) hrel hd).lift (Nat.le_refl _) (fun _ _ h=>h)
  |bad=>exact .bad _
  |nil o off sz=>obtain rfl:=hup.exact rfl;exact .pf _ _ _
  |mw loc sz=>obtain rfl:=hup.exact rfl;exact .iu _ _
 refine ⟨{ g with K:=K' },⟨hok.size,fun o y hy=>?_,fun o o' x x' b base base' hne hx hx' hb hb'=>?_,fun b j hk=>?_⟩,⟨by rw [hv.len];exact hr.1,fun i b v hb hv'=>?_⟩,rfl,fun o q=>hfree o (Nat.le_trans holen q),fun _ _=>rfl,fun b j h=>(hK' b j).2 (.inl h),fun o b base ho' hi'=>?_,fun b j hk=>?_⟩
 ·rcases hget' o y hy with ⟨hnd,hy⟩|⟨hge,hgh⟩
  case inr=>exact .inl ⟨hfree o hge,hgh⟩
  have hKo:∀ b base,g.inj o=some (b,base)→((bk os).h.get o).isSome=true→∀ j,K' b j→g.K b j:=fun b base hi hs j hk=>by
   rcases (hK' b j).1 hk with h|⟨o2,base2,cells,k,s,e,h1,h2,_⟩
   ·exact h
   ·exfalso
    obtain ⟨hd2,h1'⟩:=hsub o2 _ h1
    obtain ⟨x,hx⟩:=Option.isSome_iff_exists.1 hs
    exact hok.sep o o2 x _ b base base2 (fun e=>hnd (by rw [e];exact hd2)) hx h1' hi h2
  have hext:Ext g w { g with K:=K' } w:=⟨rfl,fun _ _ h=>h,fun b j h=>(hK' b j).2 (.inl h),fun _ _ _=>rfl,fun b cs e fr h=>⟨cs,fr,h,rfl⟩,fun b l h=>⟨l,h⟩,fun _ _ _ _ _ _=>rfl⟩
  rcases hy with hy|⟨cells,cells',k,st,et,rfl,hy,hcl⟩
  ·refine (hok.nw o y hy).imp id ?_
   rintro ⟨b,base,h1,h2,h3⟩
   exact ⟨b,base,h1,h2,h3.ext hext rfl (fun j hj=>hKo b base h1 (by rw [hy];rfl) j hj)⟩
  ·refine (hok.nw o _ hy).imp (fun q=>⟨q.1,by
    obtain ⟨s0,e0,he⟩:=q.2
    simp only [ba.row.injEq] at he
    obtain ⟨rfl,rfl,rfl,rfl⟩:=he
    cases hcl
    exact ⟨_,_,rfl⟩⟩) ?_
   rintro ⟨b,base,h1,h2,cs,fr,r1,r2,r3,r4,r5,r6,r7⟩
   refine ⟨b,base,h1,h2,cs,fr,r1,by rw [hcl.len];exact r2,fun j c hc=>?_,r4,fun j hj=>r5 j (hKo b base h1 (by rw [hy];rfl) j hj),r6,fun e=>by rw [hcl.len];exact r7.1 e,fun e=>by rw [hcl.len];exact r7.2 e⟩
   obtain ⟨a,ha,hla⟩:=hcl.get j c hc
   obtain ⟨u,hu,hru⟩:=r3 j a ha
   exact ⟨u,hu,hlax hla hru⟩
 ·have q:∀ o y p,(bk os').h.get o=some y→g.inj o=some p→∃ z,(bk os).h.get o=some z:=fun o y p hy hp=>by
   rcases hget' o y hy with ⟨_,h|⟨_,_,_,_,_,_,h,_⟩⟩|⟨h,_⟩
   ·exact ⟨_,h⟩
   ·exact ⟨_,h⟩
   ·rw [hfree o h] at hp;cases hp
  obtain ⟨z,hz⟩:=q o x _ hx hb
  obtain ⟨z',hz'⟩:=q o' x' _ hx' hb'
  exact hok.sep o o' z z' b base base' hne hz hz' hb hb'
 ·rcases (hK' b j).1 hk with h|⟨o,base,cells,k,s,e,h1,h2,_⟩
  ·exact hok.K b j h
  ·obtain ⟨b',base',h3,_,h4⟩:=hokD.obj o _ h1
   rw [h2] at h3;cases h3
   exact h4.lt
 ·obtain ⟨a,ha,hla⟩:=hv.get i b hb
  exact hlax hla (hr.2 i a v ha hv')
 ·obtain ⟨y,hy⟩:=Option.isSome_iff_exists.1 ho'
  rcases hget' o y hy with ⟨_,h|⟨_,_,_,_,_,_,h,_⟩⟩|⟨h,_⟩
  ·exact ⟨o,base,by rw [h];rfl,hi'⟩
  ·exact ⟨o,base,by rw [h];rfl,hi'⟩
  ·have:g.inj o=some (b,base):=hi'
   rw [hfree o h] at this;cases this
 ·rcases (hK' b j).1 hk with h|⟨o,base,cells,k,s,e,h1,h2,_⟩
  ·exact .inl h
  ·exact .inr ⟨o,base,by rw [(hsub o _ h1).2];rfl,h2⟩
theorem Si {α:Type} {P:Program} {T:dq} {ar:Nat} {b:Code} {Q:QL} {L:SL} {st:St} (keep:List Nat) (V : α→List AV) (O : α→List (Option ba)) (I : α→Prop) (μ : α→Nat) (x : α) (hx:I x)
 (hv:jf ar (i4 ar keep L st) (fc ar keep L st) (V x) (O x))
 (step:∀ x,I x→wl P T ar b (uj ar keep (fun vs os=>∃ y,I y ∧ μ y < μ x∧jf ar vs os (V y) (O y)) Q) (j5 keep (V x)) (bk (O x))):pc ar (wl P T ar b) Q L st:=
 pc.aqh keep V O I μ x hx hv (fun _ _ h=>Co b _ _ h) step
theorem fq {α:Type} {P:Program} {T:dq} {ar:Nat} {b:Code} {Q:QL} {L:SL} {st:St} (keep:List Nat) (V : α→List AV) (O : α→List (Option ba)) (I : α→Prop) (μ : α→Nat) (x : α) (hx:I x)
 (hv:jf ar (i4 ar keep L st) (fc ar keep L st) (V x) (O x))
 (step:∀ x,I x→wl P T ar b (uj ar keep (fun vs os=>∃ y,I y ∧ μ y < μ x∧vs=V y∧os=O y) Q) (j5 keep (V x)) (bk (O x))):pc ar (wl P T ar b) Q L st:=
 Si keep V O I μ x hx hv (fun x hi=>Co b _ _ (fun e L' st' hq=>by
  cases e with
  |normal=>
   obtain ⟨y,h1,h2,h3,h4⟩:=hq
   refine ⟨y,h1,h2,?_⟩
   rw [h3,h4];exact .refl _ _ _
  |exit id=>exact hq
  |ret=>exact hq) _ _ (step x hi))
theorem Bw (f) (l):(List.map (aq.val f) l).flatMap AV.cells=l.map (aq.val f):=H9 aq f rfl rfl l
theorem Ot (f) (l):(List.map (aq.val f) l).all AV.one=true:=by rw [← Bw f l,Kr];exact sv _ _ _
theorem E7 (fr h n cells k st et) (hn:n=cells.length) (hro:Bo fr st 1 .str et=true):j9 aq fr h 0 n (.row cells k st et)=mi aq fr h cells:=se aq rfl fr h n cells k st et hn hro
theorem Sx:aq.kd = .str:=id rfl
theorem Jk (fr h f) (l):mi aq fr h (List.map (aq.val f) l)=some l:=by
 have e:List.map (aq.val f) l=List.map (aq.val true) l:=by cases f<;>rfl
 rw [e];exact zp aq rfl rfl fr h true (fun _=>rfl) l
theorem D7 (f) (l):(List.map (ay.val f) l).flatMap AV.cells=l.map (ay.val f):=H9 ay f rfl rfl l
theorem Rj (f) (l):(List.map (ay.val f) l).all AV.one=true:=by rw [← D7 f l,Kr];exact sv _ _ _
theorem F8 (fr h n cells k st et) (hn:n=cells.length) (hro:Bo fr st 1 (.int .u8) et=true):j9 ay fr h 0 n (.row cells k st et)=mi ay fr h cells:=se ay rfl fr h n cells k st et hn hro
theorem Vv:ay.kd=(.int .u8):=id rfl
theorem L8 (fr h f) (l):mi ay fr h (List.map (ay.val f) l)=some l:=by
 have e:List.map (ay.val f) l=List.map (ay.val true) l:=by cases f<;>rfl
 rw [e];exact zp ay rfl rfl fr h true (fun _=>rfl) l
theorem B6 (f) (l):(List.map (br.val f) l).flatMap AV.cells=l.map (br.val f):=H9 br f rfl rfl l
theorem Mv (f) (l):(List.map (br.val f) l).all AV.one=true:=by rw [← B6 f l,Kr];exact sv _ _ _
theorem Es (fr h n cells k st et) (hn:n=cells.length) (hro:Bo fr st 1 (.int .u32) et=true):j9 br fr h 0 n (.row cells k st et)=mi br fr h cells:=se br rfl fr h n cells k st et hn hro
theorem S1:br.kd=(.int .u32):=id rfl
theorem Jn (fr h f) (l):mi br fr h (List.map (br.val f) l)=some l:=by
 have e:List.map (br.val f) l=List.map (br.val true) l:=by cases f<;>rfl
 rw [e];exact zp br rfl rfl fr h true (fun _=>rfl) l
theorem Cm (fr h n cells k st et) (hn:n=cells.length) (hro:Bo fr st 1 .no et=true):j9 aj fr h 0 n (.row cells k st et)=mi aj fr h cells:=se aj rfl fr h n cells k st et hn hro
theorem Hl (fr h f) (l) (hf:(f || !fr)=true):mi aj fr h (List.map (aj.val f) l)=some l:=zp aj rfl rfl fr h f (fun e=>by subst e;simpa using hf) l
theorem Gx (fr h l n xs) (hn:n=1) (hl:(l || !fr)=true):gw aq fr h (.vl l n (xs.map (aq.val false)))=some xs:=by
 cases l with
 |true=>exact qb aq fr h true xs n hn hl
 |false=>exact qb aq fr h false xs n hn hl
theorem Oa:aq.val true=aq.val false:=id rfl
theorem Ke (fr h l n xs) (hn:n=1) (hl:(l || !fr)=true):gw ay fr h (.vl l n (xs.map (ay.val false)))=some xs:=by
 cases l with
 |true=>exact qb ay fr h true xs n hn hl
 |false=>exact qb ay fr h false xs n hn hl
theorem Qk:ay.val true=ay.val false:=id rfl
theorem Hb (fr h l n xs) (hn:n=1) (hl:(l || !fr)=true):gw br fr h (.vl l n (xs.map (br.val false)))=some xs:=by
 cases l with
 |true=>exact qb br fr h true xs n hn hl
 |false=>exact qb br fr h false xs n hn hl
theorem Oo:br.val true=br.val false:=id rfl
theorem Qo (fr h) (c:UInt8):ay.dec fr h [.sc (.int .u8 c.toNat)]=some c:=ay.rt fr h true c (fun _=>rfl)
theorem Mp (fr h) (c:UInt16):bj.dec fr h [.sc (.int .u16 c.toNat)]=some c:=bj.rt fr h true c (fun _=>rfl)
theorem Nk (fr h) (c:UInt32):br.dec fr h [.sc (.int .u32 c.toNat)]=some c:=br.rt fr h true c (fun _=>rfl)
theorem Sq (a b:List AV):AV.fresh.go (a++b)=(AV.fresh.go a && AV.fresh.go b):=by
 induction a with
 |nil=>rfl
 |cons x a ih=>simp only [List.cons_append,AV.fresh.go,ih,Bool.and_assoc]
theorem Uv (f) (l:List UInt8):AV.fresh.go (l.map (ay.val f))=true:=by
 induction l with
 |nil=>rfl
 |cons x l ih=>simp only [List.map_cons,AV.fresh.go,ih];rfl
theorem I2 (f) (c:Name):(aj.val f c).one=true:=id rfl
theorem Ey (f) (c:Name):(aj.val f c).cells=[aj.val f c]:=id rfl
theorem Rb (fr h a):(bh ay).dec fr h [a]=gw ay fr h a:=id rfl
theorem F3 (fr h n cells k st et) (hn:n=cells.length) (hro:Bo fr st 1 .no et=true):j9 (bh ay) fr h 0 n (.row cells k st et)=mi (bh ay) fr h cells:=se (bh ay) rfl fr h n cells k st et hn hro
structure jn (B:dx) (nt:NT) (L:SL) (st:St) (g:Gh) (a:Act) (w:World):Prop where
 cur:g9 B g st w
 sl:fp g w nt L a.tmps
 Rt:Marks B.D B.n0 st.h g w a.defers
theorem nv.n0 {B:dx} {n d g h w} (q:nv B g h w):nv { B with n0:=n,D:=d } g h w:=⟨q.b0,q.pins,q.K,q.cell,q.size,q.os,q.tape,q.output,q.frame,q.own,q.l5,q.ij,q.lp,q.whole⟩
theorem nv.arx {B:dx} {n d g h w} (q:nv { B with n0:=n,D:=d } g h w):nv B g h w:=⟨q.b0,q.pins,q.K,q.cell,q.size,q.os,q.tape,q.output,q.frame,q.own,q.l5,q.ij,q.lp,q.whole⟩
theorem g9.n0 {B:dx} {n d g st w} (q:g9 B g st w):g9 { B with n0:=n,D:=d } g st w:=⟨q.ok,q.fresh,q.base.n0,q.ar⟩
theorem piece {P:Program} [KP P] {T:dq} (hT:ai P T) (hm:P.follows .mixedOrders=true) {N:Nat} {B:dx} {nt:NT} (hnf:B.kl) (hp:B.ar≤1000) (hn0:B.n0≤B.w.heap.size) {c:Code} (hs:dm nt c=true) {Q:QL} {L:SL} {st:St} {g:Gh} {a:Act} {w:World}
 (h:wl P T B.ar c Q L st) (hh:jn B nt L st g a w) :
 c.wpIn (fu none) N P (fun ex a' w'=>∃ e L' st' g',ex=pr e∧Q e L' st'∧jn B nt L' st' g' a' w'∧nv (iy g st.h w B.ar (fun _=>False)) g' st'.h w') a w:=by
 have hc1:g9 { iy g st.h w B.ar (fun _=>False) with n0:=B.n0,D:=B.D } g st w:=(hh.cur.I6 B.ar (fun _=>False) hh.cur.ar (fun o h=>(hnf o h).elim)).n0
 refine wpIn_mono (ad4 hT hm (N:=N) (B:={ iy g st.h w B.ar (fun _=>False) with n0:=B.n0,D:=B.D }) (nt:=nt) (fun _ h=>h) hp (Nat.le_trans hn0 hh.cur.base.size) c hs Q L st g w a h hc1 hh.sl hh.Rt) ?_
 rintro ex a' w' ⟨e,L',st',g',rfl,hq,hc',hr',hd'⟩
 have hb:=hc'.base.arx (B:=iy g st.h w B.ar (fun _=>False))
 exact ⟨e,L',st',g',rfl,hq,⟨⟨hc'.ok,fun o h1 _=>hc'.fresh o h1 (fun h=>h),hh.cur.base.comp hb (Nat.le_refl _) (fun o h=>(hnf o h).elim) (fun _ h=>h.elim),hc'.ar⟩,hr',hd'⟩,hb⟩
structure atv (g:Gh) (w:World) (g':Gh) (w':World):Prop where
 b0:g'.b0=g.b0
 K:∀ b j,g.K b j→g'.K b j
 cell:∀ b j,g.K b j→w'.cell? ⟨b,j,none⟩=w.cell? ⟨b,j,none⟩
 ij:∀ (b:Nat) (cs:Array Value) (e:TypeId) (fr:Nat × Nat),w.heap[b]? = some (Obj.cells cs e fr)→∃ (cs':Array Value) (fr':Nat × Nat),w'.heap[b]? = some (Obj.cells cs' e fr')∧cs'.size=cs.size
 lp:∀ (b:Nat) (l:Loop),w.heap[b]? = some (Obj.loop l)→∃ l',w'.heap[b]? = some (Obj.loop l')
 whole:∀ (b:Nat) (cs:Array Value) (e:TypeId) (fr:Nat × Nat),w.heap[b]? = some (Obj.cells cs e fr)→(∀ j,g.K b j)→w'.heap[b]? = w.heap[b]?
theorem Ld {P:Program} [KP P] {f:Nat} {fn:Func} {body:Code} (hf:P.funcs[f]? = some fn) (hb:fn.body=some body) (he:mg P f=true)
 {args:List AV} (hl:args.length≤fn.ntmps) {ρ:Type} (R:RC ρ) (fr:Bool) (x : ρ)
 (h:∀ (B:dx) (g:Gh) (a:Act) (w:World),B.kl→B.ar=0→(∀ b,¬ B.O b)→B.n0≤B.w.heap.size→jn B fn.ntmps (cf 0 args) (bk []) g a w→body.wpIn (fu none) 0 P (Fin B fn.ntmps (cy P fn.results.toList (fun r st=>R.get fr st.h r=some x))) a w):bb P f args (R.E fr x):=by
 intro K w vs hK hrel
 refine .inr ⟨sn he _ _,tn (ro:=none) (n:=0) (callsIn_of_wp_marks hf hb trivial ?_)⟩
 let B:dx:={ b0:=w.heap.size,w,K,O:=fun _=>False,ar:=0,pb:=fun _=>none,n0:=w.heap.size }
 have hcur:g9 B (gK w.heap.size K) (bk []) w:=by
  refine ⟨⟨Nat.le_refl _,fun o x hx=>?_,fun o o' x x' b base base' _ hx=>?_,hK⟩,fun o _ _=>rfl,⟨rfl,(fun o ho=>(by rcases ho with ho|ho;cases ho;exact ho.elim)),fun _ _ h=>h,fun _ _ _=>rfl,Nat.le_refl _,rfl,rfl,rfl,fun _ _ _=>rfl,fun o b base ho=>?_,fun _ _ h=>.inl h,fun b cs e fr h=>⟨cs,fr,h,rfl⟩,fun b l h=>⟨l,h⟩,fun _ _ _ _ _ _=>rfl⟩,Nat.zero_le _⟩
  ·simp [bk,kb,Tr.get_nil] at hx
  ·simp [bk,kb,Tr.get_nil] at hx
  ·simp [bk,kb,Tr.get_nil] at ho
 refine wpIn_mono (h B (gK w.heap.size K) _ w (fun _ h=>h) rfl (fun _ h=>h) (Nat.le_refl _) ⟨hcur,yy hrel hl,Marks.nil _ _ _ _⟩) ?_
 rintro ex a w' ⟨e,L,st,g,rfl,hq,hc,hr,hd⟩
 have fin:By (om P L st fn.results.toList) (fun r st=>R.get fr st.h r=some x) st→bodyPostM (fu none) 0 P fn (fun e w'=>∃ v,e = .returned v∧u9 w w'∧Rel (gK w.heap.size (G5 K w w')) w' (R.E fr x) v) .ret a w':=by
  intro hq
  show LeavesInM (fu none) 0 P fn a.tmps _ a.defers .returning w'
  unfold By at hq
  cases hres:om P L st fn.results.toList with
  |none=>rw [hres] at hq;exact hq.elim
  |some l=>
   rw [hres] at hq
   have hbs:=hc.base
   obtain ⟨bs,e1,e2,e3⟩:=hd
   have e1:=e1.trans (List.append_nil _)
   rw [e1]
   refine B3 (Good:=fun u=>Ok g st.h u∧u9 w u∧(∀ a v,Rel g w' a v→Rel g u a v)∧u.heap.size=w'.heap.size) (S:=fun b=>w.heap.size≤b∧ft g st.h b) ?_ ?_ bs w'
    ⟨hc.ok,⟨hbs.size,fun b hlt=>hbs.frame b hlt (fun h=>h),hbs.os,hbs.tape,hbs.output⟩,fun _ _ h=>h,rfl⟩ e2 (fun b hb=>⟨⟨(e3 b hb).1,(e3 b hb).2.2⟩,(e3 b hb).2.1⟩)
   ·rintro u b ⟨g1,g2,g3,g4⟩ ⟨hb1,hb2⟩ hb3
    have hput:=Ok.B0 (ds':=none) g1 hb3 hb2
    exact ⟨hput.1,⟨by rw [ju];exact g2.size,fun c hc=>(dt u _ (by omega)).trans (g2.heap c hc),g2.os,g2.tape,g2.output⟩,fun a v h=>hput.2 a v (g3 a v h),by rw [ju];exact g4⟩
   ·rintro u ⟨g1,g2,g3,g4⟩
    obtain ⟨us,h1,h2⟩:=Ps (P:=P) g1 ⟨hr.1,fun t=>g3 _ _ (hr.2 t)⟩ fn.results.toList l hres
    obtain ⟨v,h3,h4⟩:=Oz h1 h2
    refine ⟨v,h3,v,rfl,g2,?_⟩
    refine R.ok g1 ⟨fun b j hk=>?_,fun o cells k s e ho b base hi j hj=>?_⟩ (fun _=>?_) h4 hq
    ·rcases hbs.l5 b j hk with h5|h5|h5
     ·exact .inl h5
     ·exact .inr ⟨h5,g1.K b j hk⟩
     ·exact h5.elim
    ·obtain ⟨b',base',h5,_,h6⟩:=g1.obj o _ ho
     rw [hi] at h5;cases h5
     rcases hbs.own o b base (by rw [ho];rfl) hi with h7|h7
     ·exact .inr ⟨h7,h6.lt⟩
     ·exact h7.elim
    ·rw [hbs.b0];exact Nat.le_refl _
 cases e with
 |normal=>exact fin hq
 |ret=>exact fin hq
 |exit id=>exact hq.elim
def lf (S:Nat→Prop) (M:Nat) (w:World) (k:LK) (v:Value):Prop:=
 (∃ a,v = .slice a 0 0)∨∃ (b off n cap:Nat) (cs:Array Value) (e:TypeId),v = .slice (some ⟨b,off,none⟩) n cap∧S b∧(n≤cap∧cap≤maxLen)∧w.heap[b]? = some (.cells cs e (0,0))∧TK.sz e=some 1∧off+cap≤cs.size ∧
  ∀ (j:Nat) x,j<cap→cs[off+j]? = some x→kg x=k∧∀ s,x = .string s→s.size≤M
def jz (S:Nat→Prop) (N:Nat) (w:World) (sz:Nat) (E:World→List Value→Prop) (v:Value):Prop:=
 (∃ a,v = .slice a 0 0)∨∃ (b off n cap:Nat) (cs:Array Value) (e:TypeId),v = .slice (some ⟨b,off,none⟩) n cap∧n≤N∧S b∧(n≤cap∧cap≤maxLen)∧w.heap[b]? = some (.cells cs e (0,0))∧TK.sz e=some sz∧off % sz=0∧off+cap * sz≤cs.size ∧
  ∀ j,j<n→E w ((List.range sz).map fun i=>cs.getD (off+j * sz+i) undef)
theorem lf.slice {S M w k v} (h:lf S M w k v):kg v = .no:=by
 rcases h with ⟨a,rfl⟩|⟨b,off,n,cap,cs,e,rfl,_⟩<;>rfl
theorem jz.slice {S N w sz E v} (h:jz S N w sz E v):kg v = .no:=by
 rcases h with ⟨a,rfl⟩|⟨b,off,n,cap,cs,e,rfl,_⟩<;>rfl
def Kept (S:Nat→Prop) (m:Nat) (xx:Bool) (w':World) (e:TypeId) (j:Nat) (x x':Value):Prop:=
 x'=x∨(kg x ≠ .no∧kg x'=kg x∧∀ s',x' = .string s'→∃ s,x = .string s∧s'.size≤s.size+m)∨((xx=true∧TK.sz e=some 4)∧((j % 4≠2∧x' = .slice none 0 0)∨(j % 4=2∧lf S (4+m) w' .str x')))
structure gn (S:Nat→Prop) (m:Nat) (xx:Bool) (w w':World):Prop where
 size:w.heap.size≤w'.heap.size
 os:w'.os=w.os
 tape:w'.tape=w.tape
 output:w'.output=w.output
 low:∀ b,b<w.heap.size→¬ S b→w'.heap[b]? = w.heap[b]?
 obj:∀ (b:Nat) o,w.heap[b]? = some o→(∀ cs e fr,o ≠ .cells cs e fr)→w'.heap[b]? = some o
 cells:∀ (b:Nat) (cs:Array Value) (e:TypeId) (fr:Nat × Nat),w.heap[b]? = some (.cells cs e fr)→∃ cs',w'.heap[b]? = some (.cells cs' e fr)∧cs'.size=cs.size ∧
  ∀ (j:Nat) x x',cs[j]? = some x→cs'[j]? = some x'→Kept S m xx w' e j x x'
theorem gn.refl (S:Nat→Prop) (m:Nat) (xx:Bool) (w:World):gn S m xx w w where
 size:=Nat.le_refl _
 os:=rfl
 tape:=rfl
 output:=rfl
 low _ _ _:=rfl
 obj _ _ h _:=h
 cells _ cs _ _ h:=⟨cs,h,rfl,fun j x x' h1 h2=>.inl (by rw [h1] at h2;cases h2;rfl)⟩
theorem gn.quiet (S:Nat→Prop) (m:Nat) (xx:Bool) {w w':World} (hs:w.heap.size≤w'.heap.size) (ho:w'.os=w.os) (ht:w'.tape=w.tape) (hu:w'.output=w.output) (hh:∀ b,b<w.heap.size→w'.heap[b]? = w.heap[b]?):gn S m xx w w' where
 size:=hs
 os:=ho
 tape:=ht
 output:=hu
 low b hb _:=hh b hb
 obj b o h _:=(hh b (be h)).trans h
 cells b cs e fr h:=⟨cs,(hh b (be h)).trans h,rfl,fun j x x' h1 h2=>.inl (by rw [h1] at h2;cases h2;rfl)⟩
theorem lf.mono {S M M' w k v} (h:lf S M w k v) (hM:M≤M'):lf S M' w k v:=by
 rcases h with h|⟨b,off,n,cap,cs,e,h0,h1,h2,h3,h4,h5,h6⟩
 ·exact .inl h
 ·exact .inr ⟨b,off,n,cap,cs,e,h0,h1,h2,h3,h4,h5,fun j x hj hx=>⟨(h6 j x hj hx).1,fun s hs=>Nat.le_trans ((h6 j x hj hx).2 s hs) hM⟩⟩
theorem lf.ou {S m M xx w w' k v} (hk:k ≠ .no) (h:gn S m xx w w') (hl:lf S M w k v):lf S (M+m) w' k v:=by
 rcases hl with hl|⟨b,off,n,cap,cs,e,rfl,h1,h2,h3,h4,h5,h6⟩
 ·exact .inl hl
 ·obtain ⟨cs',q1,q2,q3⟩:=h.cells b cs e _ h3
  refine .inr ⟨b,off,n,cap,cs',e,rfl,h1,h2,q1,h4,by omega,fun j x' hj hx'=>?_⟩
  have hlt:off+j<cs.size:=by omega
  have hx:=Array.getElem?_eq_getElem hlt
  obtain ⟨hk',hm'⟩:=h6 j _ hj hx
  rcases q3 _ _ _ hx hx' with q|⟨_,q,qs⟩|⟨q,_⟩
  ·rw [q];exact ⟨hk',fun s hs=>by have:=hm' s hs;omega⟩
  ·refine ⟨by rw [q];exact hk',fun s hs=>?_⟩
   obtain ⟨s0,e1,e2⟩:=qs s hs
   have:=hm' s0 e1;omega
  ·have:=q.2;rw [h4] at this;cases this
theorem Kept.mono {S:Nat→Prop} {m m':Nat} {xx:Bool} {w:World} {e:TypeId} {j:Nat} {x y:Value} (hm:m≤m') (h:Kept S m xx w e j x y):Kept S m' xx w e j x y:=by
 rcases h with h|⟨h1,h2,h3⟩|⟨h1,h2⟩
 ·exact .inl h
 ·exact .inr (.inl ⟨h1,h2,fun s' hs=>by obtain ⟨s,e1,e2⟩:=h3 s' hs;exact ⟨s,e1,by omega⟩⟩)
 ·exact .inr (.inr ⟨h1,h2.imp id (fun q=>⟨q.1,q.2.mono (by omega)⟩)⟩)
theorem Kept.any {S:Nat→Prop} {m:Nat} {xx:Bool} {w:World} {e:TypeId} {j:Nat} {x y:Value} (h:Kept S m false w e j x y):Kept S m xx w e j x y:=by
 rcases h with h|h|⟨⟨h,_⟩,_⟩
 ·exact .inl h
 ·exact .inr (.inl h)
 ·cases h
theorem gn.mono {S m m' xx w w'} (hm:m≤m') (h:gn S m xx w w'):gn S m' xx w w':=
 ⟨h.size,h.os,h.tape,h.output,h.low,h.obj,fun b cs e fr hb=>by
  obtain ⟨cs',q1,q2,q3⟩:=h.cells b cs e fr hb
  exact ⟨cs',q1,q2,fun j x x' hx hx'=>(q3 j x x' hx hx').mono hm⟩⟩
theorem gn.any {S m xx w w'} (h:gn S m false w w'):gn S m xx w w':=
 ⟨h.size,h.os,h.tape,h.output,h.low,h.obj,fun b cs e fr hb=>by
  obtain ⟨cs',q1,q2,q3⟩:=h.cells b cs e fr hb
  exact ⟨cs',q1,q2,fun j x x' hx hx'=>(q3 j x x' hx hx').any⟩⟩
theorem Kept.trans {S:Nat→Prop} {m1 m2:Nat} {xx:Bool} {w1 w2:World} {e:TypeId} {j:Nat} {x y z:Value} (h1:Kept S m1 xx w1 e j x y) (ho:gn S m2 xx w1 w2) (h2:Kept S m2 xx w2 e j y z):Kept S (m1+m2) xx w2 e j x z:=by
 rcases h1 with rfl|⟨a1,a2,a3⟩|⟨a1,a2⟩
 ·exact h2.mono (by omega)
 ·rcases h2 with rfl|⟨b1,b2,b3⟩|b
  ·exact .inr (.inl ⟨a1,a2,fun s' hs=>by obtain ⟨s,e1,e2⟩:=a3 s' hs;exact ⟨s,e1,by omega⟩⟩)
  ·refine .inr (.inl ⟨a1,b2.trans a2,fun s' hs=>?_⟩)
   obtain ⟨s1,e1,e2⟩:=b3 s' hs
   obtain ⟨s,e3,e4⟩:=a3 s1 e1
   exact ⟨s,e3,by omega⟩
  ·exact .inr (.inr ⟨b.1,b.2.imp id (fun q=>⟨q.1,q.2.mono (by omega)⟩)⟩)
 ·rcases h2 with rfl|⟨b1,b2,b3⟩|b
  ·refine .inr (.inr ⟨a1,a2.imp id (fun q=>⟨q.1,(q.2.ou (by decide) ho).mono (by omega)⟩)⟩)
  ·rcases a2 with ⟨_,rfl⟩|⟨_,q⟩
   ·exact absurd rfl b1
   ·exact absurd q.slice b1
  ·exact .inr (.inr ⟨b.1,b.2.imp id (fun q=>⟨q.1,q.2.mono (by omega)⟩)⟩)
theorem gn.trans {S m1 m2 xx w1 w2 w3} (h1:gn S m1 xx w1 w2) (h2:gn S m2 xx w2 w3):gn S (m1+m2) xx w1 w3 where
 size:=Nat.le_trans h1.size h2.size
 os:=h2.os.trans h1.os
 tape:=h2.tape.trans h1.tape
 output:=h2.output.trans h1.output
 low b hb hS:=(h2.low b (Nat.lt_of_lt_of_le hb h1.size) hS).trans (h1.low b hb hS)
 obj b o h hn:=h2.obj b o (h1.obj b o h hn) hn
 cells b cs e fr h:=by
  obtain ⟨cs1,a1,a2,a3⟩:=h1.cells b cs e fr h
  obtain ⟨cs2,b1,b2,b3⟩:=h2.cells b cs1 e fr a1
  refine ⟨cs2,b1,b2.trans a2,fun j x z hx hz=>?_⟩
  have hlt:j<cs1.size:=by rw [a2];exact (Array.getElem?_eq_some_iff.1 hx).1
  have hy:=Array.getElem?_eq_getElem hlt
  exact (a3 j x _ hx hy).trans h2 (b3 j _ z hy hz)
def Ov (S:Nat→Prop) (sz:Nat) (E:Nat→World→List Value→Prop):Prop:=
 ∀ {m M:Nat} {xx:Bool} {w w':World} {e:TypeId} {j0:Nat} {l l':List Value},4≤M→gn S m xx w w'→TK.sz e=some sz→j0 % sz=0→l.length=sz→l'.length=sz→(∀ (i:Nat) x x',l[i]? = some x→l'[i]? = some x'→Kept S m xx w' e (j0+i) x x')→E M w l→E (M+m) w' l'
theorem jz.ou {S N m M xx w w' sz E v} (hE:Ov S sz E) (hM : 4≤M) (h:gn S m xx w w') (hl:jz S N w sz (E M) v):jz S N w' sz (E (M+m)) v:=by
 rcases hl with hl|⟨b,off,n,cap,cs,e,rfl,h0,h1,h2,h3,h4,h5,h6,h7⟩
 ·exact .inl hl
 ·obtain ⟨cs',q1,q2,q3⟩:=h.cells b cs e _ h3
  refine .inr ⟨b,off,n,cap,cs',e,rfl,h0,h1,h2,q1,h4,h5,by omega,fun j hj=>?_⟩
  have hle:(j+1) * sz≤cap * sz:=Nat.mul_le_mul_right _ (by omega)
  rw [Nat.succ_mul] at hle
  refine hE (j0:=off+j * sz) hM h h4 (by rw [Nat.add_mul_mod_self_right];exact h5) (by simp) (by simp) (fun i x x' hx hx'=>?_) (h7 j hj)
  rw [List.getElem?_map,Option.map_eq_some_iff] at hx hx'
  obtain ⟨i1,e1,rfl⟩:=hx
  obtain ⟨i2,e2,rfl⟩:=hx'
  obtain ⟨hi,rfl⟩:=List.getElem?_eq_some_iff.1 e1
  obtain ⟨_,rfl⟩:=List.getElem?_eq_some_iff.1 e2
  simp only [List.length_range] at hi
  simp only [List.getElem_range]
  have hlt:off+j * sz+i<cs.size:=by omega
  refine q3 _ _ _ ?_ ?_
  ·rw [Array.getD_eq_getD_getElem?,Array.getElem?_eq_getElem hlt];rfl
  ·rw [Array.getD_eq_getD_getElem?,Array.getElem?_eq_getElem (by omega)];rfl
def T1 (S:Nat→Prop) (M:Nat) (w:World) (l:List Value):Prop:=∃ v,l=[v]∧lf S M w .str v
def Ii (S:Nat→Prop) (Nn M:Nat) (w:World) (l:List Value):Prop:=∃ a b c d,l=[a,b,c,d]∧jz S Nn w 1 (T1 S M) a∧lf S M w (.int .u32) b∧lf S M w .str c∧lf S M w (.int .u8) d
def yg (S:Nat→Prop) (Nn Nd M:Nat) (w:World) (l:List Value):Prop:=∃ o t c u d,l=[o,t,c,u,d]∧lf S M w .str o∧kg t = .int .u16∧kg c = .int .u16∧kg u = .int .u32∧jz S Nd w 4 (Ii S Nn M) d
theorem Kept.same {S m xx w' e j x x' sz} (h:Kept S m xx w' e j x x') (hs:TK.sz e=some sz) (hz:sz≠4) (hx:kg x = .no):x'=x:=by
 rcases h with h|⟨h,_⟩|⟨h,_⟩
 ·exact h
 ·exact absurd hx h
 ·have h:=h.2;rw [hs] at h;cases h;exact absurd rfl hz
theorem Kept.kind {S m xx w' e j x x' sz k} (h:Kept S m xx w' e j x x') (hs:TK.sz e=some sz) (hz:sz≠4) (hx:kg x=k):kg x'=k:=by
 rcases h with rfl|⟨_,h,_⟩|⟨h,_⟩
 ·exact hx
 ·rw [h];exact hx
 ·have h:=h.2;rw [hs] at h;cases h;exact absurd rfl hz
theorem aaq (S:Nat→Prop):Ov S 1 (T1 S):=by
 rintro m M xx w w' e j0 l l' hM ho hs hj h1 h2 hk ⟨v,rfl,hv⟩
 match l',h2 with
 | [v'],_=>
  have:=(hk 0 v v' rfl rfl).same hs (by decide) hv.slice
  subst this
  exact ⟨_,rfl,hv.ou (by decide) ho⟩
theorem Qr {S N m M xx w w' v} (hM : 4≤M) (h:gn S m xx w w') (hl:jz S N w 1 (T1 S M) v):jz S N w' 1 (T1 S (M+m)) v:=hl.ou (aaq S) hM h
theorem aac (S:Nat→Prop) (Nn:Nat):Ov S 4 (Ii S Nn):=by
 rintro m M xx w w' e j0 l l' hM ho hs hj h1 h2 hk ⟨a,b,c,d,rfl,ha,hb,hc,hd⟩
 match l',h2 with
 | [a',b',c',d'],_=>
  refine ⟨a',b',c',d',rfl,?_,?_,?_,?_⟩
  ·rcases hk 0 a a' rfl rfl with rfl|⟨q,_⟩|⟨_,⟨_,rfl⟩|⟨q,_⟩⟩
   ·exact Qr hM ho ha
   ·exact absurd ha.slice q
   ·exact .inl ⟨none,rfl⟩
   ·omega
  ·rcases hk 1 b b' rfl rfl with rfl|⟨q,_⟩|⟨_,⟨_,rfl⟩|⟨q,_⟩⟩
   ·exact hb.ou (by decide) ho
   ·exact absurd hb.slice q
   ·exact .inl ⟨none,rfl⟩
   ·omega
  ·rcases hk 2 c c' rfl rfl with rfl|⟨q,_⟩|⟨_,⟨q,rfl⟩|⟨_,q⟩⟩
   ·exact hc.ou (by decide) ho
   ·exact absurd hc.slice q
   ·exact .inl ⟨none,rfl⟩
   ·exact q.mono (by omega)
  ·rcases hk 3 d d' rfl rfl with rfl|⟨q,_⟩|⟨_,⟨_,rfl⟩|⟨q,_⟩⟩
   ·exact hd.ou (by decide) ho
   ·exact absurd hd.slice q
   ·exact .inl ⟨none,rfl⟩
   ·omega
theorem A4 {S N Nn m M xx w w' v} (hM : 4≤M) (h:gn S m xx w w') (hl:jz S N w 4 (Ii S Nn M) v):jz S N w' 4 (Ii S Nn (M+m)) v:=hl.ou (aac S Nn) hM h
theorem yg.ou {S Nn Nd m M xx w w' l} (hM : 4≤M) (h:gn S m xx w w') (hl:yg S Nn Nd M w l):yg S Nn Nd (M+m) w' l:=by
 obtain ⟨o,t,c,u,d,rfl,ho,ht,hc,hu,hd⟩:=hl
 exact ⟨o,t,c,u,d,rfl,ho.ou (by decide) h,ht,hc,hu,A4 hM h hd⟩
theorem Og (S:Nat→Prop) (Nn Nd:Nat):Ov S 5 (yg S Nn Nd):=by
 rintro m M xx w w' e j0 l l' hM ho hs hj h1 h2 hk ⟨o,t,c,u,d,rfl,hO,ht,hc,hu,hd⟩
 match l',h2 with
 | [o',t',c',u',d'],_=>
  have e1:=(hk 0 o o' rfl rfl).same hs (by decide) hO.slice
  have e2:=(hk 4 d d' rfl rfl).same hs (by decide) hd.slice
  subst e1 e2
  exact ⟨_,t',c',u',_,rfl,hO.ou (by decide) ho,(hk 1 t t' rfl rfl).kind hs (by decide) ht,(hk 2 c c' rfl rfl).kind hs (by decide) hc,(hk 3 u u' rfl rfl).kind hs (by decide) hu,A4 hM ho hd⟩
theorem Lk {S N Nn Nd m M xx w w' v} (hM : 4≤M) (h:gn S m xx w w') (hl:jz S N w 5 (yg S Nn Nd M) v):jz S N w' 5 (yg S Nn Nd (M+m)) v:=hl.ou (Og S Nn Nd) hM h
theorem P5 {α:Type} (C:cw α) (hz:C.sz=1) (ha:C.agg=false) {k:LK} (hk:C.kd=k) (hn:k ≠ .no) {M:Nat} {g:Gh} {w:World} {l:Bool} {xs:List α} {v:Value} (hM:∀ x ∈ xs,∀ c ∈ C.cells l x,∀ s,c = .sc (.string s)→s.size≤M) (hx:∀ x ∈ xs,∀ c ∈ C.cells l x,∃ u,c = .sc u) {S:Nat→Prop} (hS:∀ b,g.b0≤b→(∀ j,g.K b j)→S b) (hr:Rel g w (.vl true 1 (xs.map (C.val l))) v):lf S M w k v:=by
 generalize hes:xs.map (C.val l)=es at hr
 cases hr with
 |iu=>exact .inl ⟨none,rfl⟩
 |oq _ _ a=>exact .inl ⟨some a,rfl⟩
 |vl _ _ _ b off cap c hsz hl hcap h hrel hw=>
  obtain ⟨w1,⟨cs,e,w2,w3,w4,w5,w6⟩,w7,w8⟩:=hw rfl
  rcases Nat.eq_zero_or_pos es.length with h0|h0
  ·have:=w7 rfl h0
   subst this
   rw [h0];exact .inl ⟨_,rfl⟩
  ·refine .inr ⟨b,off,es.length,cap,cs,e,rfl,hS b (hl rfl) w1,⟨hcap,w8⟩,w2,w4,by omega,fun j x hj hxj=>?_⟩
   have hfl:es.flatMap AV.cells=xs.flatMap (C.cells l):=by rw [← hes,List.flatMap_map];congr 1;funext x;exact C.ua l x
   have hlen:(es.flatMap AV.cells).length=es.length * 1:=B7 es hsz
   have h00:(es.flatMap AV.cells)[0]? = some ((es.flatMap AV.cells)[0]'(by omega)):=List.getElem?_eq_getElem _
   have hm:(es.flatMap AV.cells)[0]'(by omega) ∈ xs.flatMap (C.cells l):=by rw [← hfl];exact List.getElem_mem _
   obtain ⟨y,_,hy⟩:=List.mem_flatMap.1 hm
   have hc0:=C.Dn hz hy (hrel 0 _ h00)
   rcases w6 rfl j x hj hxj with q|⟨q,qt⟩
   ·rw [hc0,hk] at q;exact absurd q hn
   ·refine ⟨by rw [q,hc0,hk],fun s hs=>?_⟩
    by_cases hjn:j<es.length
    ·have hcj:(es.flatMap AV.cells)[j]? = some ((es.flatMap AV.cells)[j]'(by omega)):=List.getElem?_eq_getElem _
     have hmj:(es.flatMap AV.cells)[j]'(by omega) ∈ xs.flatMap (C.cells l):=by rw [← hfl];exact List.getElem_mem _
     obtain ⟨y2,hy2,hy3⟩:=List.mem_flatMap.1 hmj
     obtain ⟨u,hu⟩:=hx y2 hy2 _ hy3
     have hrj:=hrel j _ hcj
     rw [hu] at hrj
     have:=hrj.exact rfl
     have hcx:c j=x:=by
      have h9:=(h j _ hcj).2
      rw [gg w2,hxj] at h9
      exact (Option.some.inj h9).symm
     rw [hcx,hs] at this
     exact hM y2 hy2 _ hy3 s (by rw [hu,← this])
    ·have:=qt (by omega)
     rw [hs] at this
     have:s.size=0:=Nat.eq_of_beq_eq_true this
     omega
theorem Pw {α:Type} (C:cw α) {N sz:Nat} (hz:C.sz=sz) {E:World→List Value→Prop} {g:Gh} {w:World} {l:Bool} {xs:List α} {v:Value} (hN:xs.length≤N) (hE:∀ x ∈ xs,∀ vs,bg g w (C.cells l x) vs→E w vs) {S:Nat→Prop} (hS:∀ b,g.b0≤b→(∀ j,g.K b j)→S b) (hr:Rel g w (.vl true sz (xs.map (C.val l))) v):jz S N w sz E v:=by
 generalize hes:xs.map (C.val l)=es at hr
 cases hr with
 |iu=>exact .inl ⟨none,rfl⟩
 |oq _ _ a=>exact .inl ⟨some a,rfl⟩
 |vl _ _ _ b off cap c hsz hl hcap h hrel hw=>
  obtain ⟨w1,⟨cs,e,w2,w3,w4,w5,w6⟩,w7,w8⟩:=hw rfl
  refine .inr ⟨b,off,es.length,cap,cs,e,rfl,by rw [← hes,List.length_map];exact hN,hS b (hl rfl) w1,⟨hcap,w8⟩,w2,w4,w5,w3,fun j hj=>?_⟩
  have hj':j<xs.length:=by rw [← hes,List.length_map] at hj;exact hj
  refine hE (xs[j]) (List.getElem_mem hj') _ ⟨by rw [C.len];simp [hz],fun i a u ha hu=>?_⟩
  rw [List.getElem?_map,Option.map_eq_some_iff] at hu
  obtain ⟨i1,e1,rfl⟩:=hu
  obtain ⟨hi,rfl⟩:=List.getElem?_eq_some_iff.1 e1
  simp only [List.length_range] at hi
  simp only [List.getElem_range]
  have hcell:(es.flatMap AV.cells)[j * sz+i]? = some a:=by
   have hfl:es.flatMap AV.cells=xs.flatMap (C.cells l):=by rw [← hes,List.flatMap_map];congr 1;funext x;exact C.ua l x
   have hd:∀ (ys:List α) (m:Nat),(ys.flatMap (C.cells l)).drop (m * C.sz)=(ys.drop m).flatMap (C.cells l):=by
    intro ys
    induction ys with
    |nil=>intro m;simp
    |cons y ys ih=>
     intro m
     cases m with
     |zero=>simp
     |succ m=>
      rw [show (m+1) * C.sz=(C.cells l y).length+m * C.sz from by rw [C.len,Nat.succ_mul];omega,← List.drop_drop,List.flatMap_cons,List.drop_left,ih,List.drop_succ_cons]
   have h1:=hd xs j
   rw [hz] at h1
   rw [hfl,← List.getElem?_drop,h1,List.drop_eq_getElem_cons hj',List.flatMap_cons,List.getElem?_append_left (by rw [C.len];omega)]
   exact ha
  have h1:=h (j * sz+i) a hcell
  have h2:=hrel (j * sz+i) a hcell
  have h3:cs.getD (off+j * sz+i) undef=c (j * sz+i):=by
   have:=h1.2
   rw [gg w2] at this
   rw [Nat.add_assoc,Array.getD_eq_getD_getElem?,this];rfl
  rw [h3];exact h2
end
end Go.Vm
namespace Go.Vm
variable [TK]
structure Lp (w:World) (b:Nat) (cs:Array Value) (e:TypeId) (off m k:Nat) (wr:World):Prop where
 size:wr.heap.size=w.heap.size
 os:wr.os=w.os
 tape:wr.tape=w.tape
 output:wr.output=w.output
 other:∀ c,c≠b→wr.heap[c]? = w.heap[c]?
 row:∃ cs',wr.heap[b]? = some (.cells cs' e (0,0))∧cs'.size=cs.size∧∀ (j:Nat) x x',cs[j]? = some x→cs'[j]? = some x' →
  x'=x∨(off≤j∧j<off+k∧kg x ≠ .no∧kg x'=kg x∧∀ s',x' = .string s'→∃ s,x = .string s∧s'.size≤s.size+m)
theorem Lp.start {w b cs e off m} (h:w.heap[b]? = some (.cells cs e (0,0))):Lp w b cs e off m 0 w where
 size:=rfl
 os:=rfl
 tape:=rfl
 output:=rfl
 other _ _:=rfl
 row:=⟨cs,h,rfl,fun j x x' h1 h2=>.inl (by rw [h1] at h2;cases h2;rfl)⟩
theorem Lp.frozen {w b cs e off m k wr} (h:Lp w b cs e off m k wr) (j:Nat):wr.frozen? ⟨b,j,none⟩=false:=by
 obtain ⟨cs',h1,_⟩:=h.row
 unfold World.frozen?
 simp only [h1]
 simp
theorem Lp.cell {w b cs e off m k wr x} (h:Lp w b cs e off m k wr) (hx:cs[off+k]? = some x):wr.cell? ⟨b,off+k,none⟩=some x:=by
 obtain ⟨cs',h1,h2,h3⟩:=h.row
 rw [gg h1]
 have hlt:off+k<cs'.size:=by rw [h2];exact (Array.getElem?_eq_some_iff.1 hx).1
 have hx':=Array.getElem?_eq_getElem hlt
 rcases h3 _ _ _ hx hx' with q|⟨_,q,_⟩
 ·rw [hx',q]
 ·omega
theorem Lp.step {w b cs e off m k wr x v} (h:Lp w b cs e off m k wr) (hx:cs[off+k]? = some x) (h1:kg x ≠ .no) (h2:kg v=kg x) (h3:∀ s',v = .string s'→∃ s,x = .string s∧s'.size≤s.size+m) :
 Lp w b cs e off m (k+1) (wr.setCell ⟨b,off+k,none⟩ v):=by
 obtain ⟨cs',r1,r2,r3⟩:=h.row
 have hb:=be r1
 refine ⟨by simp [World.setCell,h.size],h.os,h.tape,h.output,fun c hc=>?_,cs'.setIfInBounds (off+k) v,?_,by simp [r2],fun j y y' hy hy'=>?_⟩
 ·rw [← h.other c hc]
  simp only [World.setCell]
  rw [Array.getElem?_modify,if_neg (fun e=>hc e.symm)]
 ·simp only [World.setCell]
  rw [Array.getElem?_modify,if_pos rfl,r1]
  rfl
 ·rw [Array.getElem?_setIfInBounds] at hy'
  by_cases hj:off+k=j
  ·subst hj
   rw [hx] at hy;cases hy
   have hlt:off+k<cs'.size:=by rw [r2];exact (Array.getElem?_eq_some_iff.1 hx).1
   rw [if_pos rfl,if_pos hlt] at hy';cases hy'
   exact .inr ⟨by omega,by omega,h1,h2,h3⟩
  ·rw [if_neg hj] at hy'
   exact (r3 j y y' hy hy').imp id (fun q=>⟨q.1,by omega,q.2.2⟩)
theorem Lp.ou {S w b cs e off m k wr} (h:Lp w b cs e off m k wr) (hw:w.heap[b]? = some (.cells cs e (0,0))) (hn:S b):gn S m false w wr where
 size:=by rw [h.size];exact Nat.le_refl _
 os:=h.os
 tape:=h.tape
 output:=h.output
 low c _ hc:=h.other c (fun e=>hc (e ▸ hn))
 obj c o hc hn:=by
  by_cases e:c=b
  ·subst e;rw [hw] at hc;cases hc;exact absurd rfl (hn _ _ _)
  ·rw [h.other c e];exact hc
 cells c cs0 e0 fr0 hc:=by
  by_cases e:c=b
  ·subst e
   rw [hw] at hc;cases hc
   obtain ⟨cs',r1,r2,r3⟩:=h.row
   exact ⟨cs',r1,r2,fun j x x' hx hx'=>(r3 j x x' hx hx').imp id (fun q=>.inl ⟨q.2.2.1,q.2.2.2.1,q.2.2.2.2⟩)⟩
  ·exact ⟨cs0,(h.other c e).trans hc,rfl,fun j x x' hx hx'=>.inl (by rw [hx] at hx';cases hx';rfl)⟩
theorem lf.form {S M w k v} (h:lf S M w k v):∃ base n cap,v = .slice base n cap∧n≤cap∧cap≤maxLen∧(base=none→cap=0):=by
 rcases h with ⟨a,rfl⟩|⟨b,off,n,cap,cs,e,rfl,h1,⟨h2,h3⟩,_⟩
 ·exact ⟨a,0,0,rfl,Nat.le_refl _,Nat.zero_le _,fun _=>rfl⟩
 ·exact ⟨_,n,cap,rfl,h2,h3,fun e=>by cases e⟩
def Hm (S:Nat→Prop) (m k:Nat) (w:World) (v:Value) (wr:World):Prop:=
 (∃ a,v = .slice a 0 0∧wr=w)∨∃ (b off n cap:Nat) (cs:Array Value) (e:TypeId),v = .slice (some ⟨b,off,none⟩) n cap∧S b∧w.heap[b]? = some (.cells cs e (0,0))∧Lp w b cs e off m k wr
theorem Hm.start {S m M w k v} (h:lf S M w k v):Hm S m 0 w v w:=by
 rcases h with ⟨a,rfl⟩|⟨b,off,n,cap,cs,e,rfl,h1,_,h3,_⟩
 ·exact .inl ⟨a,rfl,rfl⟩
 ·exact .inr ⟨b,off,n,cap,cs,e,rfl,h1,h3,.start h3⟩
theorem Hm.ou {S m k w v wr} (h:Hm S m k w v wr):gn S m false w wr:=by
 rcases h with ⟨a,_,rfl⟩|⟨b,off,n,cap,cs,e,_,h1,h3,h⟩
 ·exact .refl _ _ _ _
 ·exact h.ou h3 h1
theorem Hm.at {S m M k w kd base n cap wr} (hk:kd ≠ .no) (hv:lf S M w kd (.slice base n cap)) (h:Hm S m k w (.slice base n cap) wr) (hlt:k<cap) :
 ∃ b off x,base=some ⟨b,off,none⟩∧wr.cell? ⟨b,off+k,none⟩=some x∧wr.frozen? ⟨b,off+k,none⟩=false∧kg x=kd∧(∀ s,x = .string s→s.size≤M) ∧
  ∀ v',kg v'=kd→(∀ s',v' = .string s'→∃ s,x = .string s∧s'.size≤s.size+m)→Hm S m (k+1) w (.slice base n cap) (wr.setCell ⟨b,off+k,none⟩ v'):=by
 rcases hv with ⟨a,e⟩|⟨b,off,n',cap',cs,e,he,h1,_,h3,h4,h5,h6⟩
 ·cases e;omega
 cases he
 rcases h with ⟨a,e,_⟩|⟨b',off',n',cap',cs',e',he',q1,q3,q⟩
 ·cases e;omega
 cases he'
 rw [h3] at q3;cases q3
 have hl:off+k<cs.size:=by omega
 have hx:=Array.getElem?_eq_getElem hl
 obtain ⟨r1,r2⟩:=h6 k _ hlt hx
 exact ⟨b,off,_,rfl,q.cell hx,q.frozen _,r1,r2,fun v' e1 e2=>.inr ⟨b,off,n,cap,cs,e,rfl,h1,h3,q.step hx (by rw [r1];exact hk) (by rw [r1];exact e1) e2⟩⟩
theorem jz.form {S N w sz E v} (h:jz S N w sz E v):∃ base n cap,v = .slice base n cap∧n≤N∧n≤cap∧cap≤maxLen∧(base=none→cap=0):=by
 rcases h with ⟨a,rfl⟩|⟨b,off,n,cap,cs,e,rfl,h0,h1,⟨h2,h3⟩,_⟩
 ·exact ⟨a,0,0,rfl,Nat.zero_le _,Nat.le_refl _,Nat.zero_le _,fun _=>rfl⟩
 ·exact ⟨_,n,cap,rfl,h0,h2,h3,fun e=>by cases e⟩
theorem jz.at {S N w sz E base n cap} (h:jz S N w sz E (.slice base n cap)) {j:Nat} (hj:j<n) :
 ∃ b off cs e,base=some ⟨b,off,none⟩∧S b∧w.heap[b]? = some (.cells cs e (0,0))∧TK.sz e=some sz∧off % sz=0∧off+cap * sz≤cs.size∧(j+1) * sz≤cap * sz∧E w ((List.range sz).map fun i=>cs.getD (off+j * sz+i) undef):=by
 rcases h with ⟨a,e⟩|⟨b,off,n',cap',cs,e,he,h0,h1,⟨h2,h3⟩,h4,h5,h6,h7,h8⟩
 ·cases e;omega
 ·cases he
  exact ⟨b,off,cs,e,rfl,h1,h4,h5,h6,h7,Nat.mul_le_mul_right _ (by omega),h8 j hj⟩
theorem cell_of {w:World} {b j:Nat} {cs:Array Value} {e:TypeId} {fr:Nat × Nat} (h:w.heap[b]? = some (.cells cs e fr)) (hj:j<cs.size):w.cell? ⟨b,j,none⟩=some (cs.getD j undef):=by
 rw [gg h,Array.getD_eq_getD_getElem?,Array.getElem?_eq_getElem hj];rfl
theorem Hd {w:World} {b:Nat} {cs:Array Value} {e:TypeId} (h:w.heap[b]? = some (.cells cs e (0,0))) (j:Nat):w.frozen? ⟨b,j,none⟩=false:=by
 unfold World.frozen?
 simp only [h]
 simp
theorem gn.set {S:Nat→Prop} {w:World} {b:Nat} {cs:Array Value} {e:TypeId} {j:Nat} {x v:Value} (h:w.heap[b]? = some (.cells cs e (0,0))) (hn:S b) (hx:cs[j]? = some x) (h1:kg x ≠ .no) (h2:kg v=kg x) (h3:∀ s,v ≠ .string s) :
 gn S 0 false w (w.setCell ⟨b,j,none⟩ v)∧(w.setCell ⟨b,j,none⟩ v).heap[b]? = some (.cells (cs.setIfInBounds j v) e (0,0)):=by
 refine ⟨((Lp.start (off:=j) (m:=0) h).step (k:=0) hx h1 h2 (fun s' q=>absurd q (h3 s'))).ou h hn,?_⟩
 simp only [World.setCell]
 rw [Array.getElem?_modify,if_pos rfl,h]
 rfl
theorem jz.room {S N w sz E base n cap} (h:jz S N w sz E (.slice base n cap)) {j:Nat} (hj:j<cap) :
 ∃ b off cs e,base=some ⟨b,off,none⟩∧S b∧w.heap[b]? = some (.cells cs e (0,0))∧TK.sz e=some sz∧off % sz=0∧off+cap * sz≤cs.size∧(j+1) * sz≤cap * sz:=by
 rcases h with ⟨a,e⟩|⟨b,off,n',cap',cs,e,he,h0,h1,⟨h2,h3⟩,h4,h5,h6,h7,h8⟩
 ·cases e;omega
 ·cases he
  exact ⟨b,off,cs,e,rfl,h1,h4,h5,h6,h7,Nat.mul_le_mul_right _ (by omega)⟩
theorem Yx {w:World} {b:Nat} {cs:Array Value} {e:TypeId} (h:w.heap[b]? = some (.cells cs e (0,0))) (o:Obj) (j:Nat):(w.alloc o).frozen? ⟨b,j,none⟩=false:=
 Hd ((Go.RowKit.Below.heap_alloc w o b (be h)).trans h) j
theorem yp {w:World} {b:Nat} {cs:Array Value} {e:TypeId} {fr:Nat × Nat} (h:w.heap[b]? = some (.cells cs e fr)) (o:Obj) {j:Nat} (hj:j<cs.size):(w.alloc o).cell? ⟨b,j,none⟩=some (cs.getD j undef):=
 cell_of ((Go.RowKit.Below.heap_alloc w o b (be h)).trans h) hj
theorem gn.alloc {S m xx w} (o:Obj):gn S m xx w (w.alloc o):=by
 have hold:∀ b,b<w.heap.size→(w.alloc o).heap[b]? = w.heap[b]? := fun b hb=>Go.RowKit.Below.heap_alloc w o b hb
 refine ⟨(by show w.heap.size≤(w.heap.push o).size;simp),rfl,rfl,rfl,fun b hb _=>hold b hb,fun b x hb _=>(hold b (be hb)).trans hb,fun b cs e fr hb=>⟨cs,(hold b (be hb)).trans hb,rfl,fun j x x' h1 h2=>.inl (by rw [h1] at h2;cases h2;rfl)⟩⟩
theorem nb (w:World) {b c:Nat} (j:Nat) (v:Value) (h:c≠b):(w.setCell ⟨b,j,none⟩ v).heap[c]? = w.heap[c]? := by
 simp only [World.setCell]
 rw [Array.getElem?_modify,if_neg (fun e=>h e.symm)]
theorem gn.ac6 {S:Nat→Prop} {w:World} {b:Nat} {cs:Array Value} {e:TypeId} {j:Nat} {v:Value} (h:w.heap[b]? = some (.cells cs e (0,0))) (hn:S b) (hsz:TK.sz e=some 4)
 (hv:(j % 4≠2∧v = .slice none 0 0)∨(j % 4=2∧lf S 4 (w.setCell ⟨b,j,none⟩ v) .str v)) :
 gn S 0 true w (w.setCell ⟨b,j,none⟩ v)∧(w.setCell ⟨b,j,none⟩ v).heap[b]? = some (.cells (cs.setIfInBounds j v) e (0,0)):=by
 have hb:(w.setCell ⟨b,j,none⟩ v).heap[b]? = some (.cells (cs.setIfInBounds j v) e (0,0)):=by
  simp only [World.setCell]
  rw [Array.getElem?_modify,if_pos rfl,h]
  rfl
 refine ⟨⟨by simp [World.setCell],rfl,rfl,rfl,fun c _ hc=>nb w j v (fun e=>hc (e ▸ hn)),fun c o hc hno=>?_,fun c cs0 e0 fr0 hc=>?_⟩,hb⟩
 ·by_cases e1:c=b
  ·subst e1;rw [h] at hc;cases hc;exact absurd rfl (hno _ _ _)
  ·rw [nb w j v e1];exact hc
 ·by_cases e1:c=b
  ·subst e1
   rw [h] at hc;cases hc
   refine ⟨_,hb,by simp,fun i x x' hx hx'=>?_⟩
   rw [Array.getElem?_setIfInBounds] at hx'
   by_cases hi:j=i
   ·subst hi
    have hlt:=(Array.getElem?_eq_some_iff.1 hx).1
    rw [if_pos rfl,if_pos hlt] at hx';cases hx'
    exact .inr (.inr ⟨⟨rfl,hsz⟩,hv⟩)
   ·rw [if_neg hi,hx] at hx';cases hx'
    exact .inl rfl
  ·exact ⟨cs0,(nb w j v e1).trans hc,rfl,fun i x x' hx hx'=>.inl (by rw [hx] at hx';cases hx';rfl)⟩
theorem gn.spare {S:Nat→Prop} {w:World} {b j:Nat} {cs:Array Value} {e t:TypeId} {s:ByteArray} (h:w.heap[b]? = some (.cells cs e (0,0))) (hn:S b) (hsz:TK.sz e=some 4) (hS:S w.heap.size) (hj:j % 4=0) (ht:TK.sz t=some 1) (hs:s.size≤4) :
 gn S 0 true w (((((w.alloc (.cells #[.string s] t)).setCell ⟨b,j,none⟩ (.slice none 0 0)).setCell ⟨b,j+1,none⟩ (.slice none 0 0)).setCell ⟨b,j+2,none⟩ (.slice (some ⟨w.heap.size,0,none⟩) 1 1)).setCell ⟨b,j+3,none⟩ (.slice none 0 0)):=by
 have hne:w.heap.size≠b:=by have:=be h;omega
 have h0:(w.alloc (.cells #[.string s] t)).heap[b]? = _:=(Go.RowKit.Below.heap_alloc w _ b (be h)).trans h
 have iz:(w.alloc (.cells #[.string s] t)).heap[w.heap.size]? = some (.cells #[.string s] t (0,0)):=Ab w _
 have q1:=gn.ac6 (j:=j) (v:=.slice none 0 0) h0 hn hsz (.inl ⟨by omega,rfl⟩)
 have q2:=gn.ac6 (j:=j+1) (v:=.slice none 0 0) q1.2 hn hsz (.inl ⟨by omega,rfl⟩)
 have q3:=gn.ac6 (j:=j+2) (v:=.slice (some ⟨w.heap.size,0,none⟩) 1 1) q2.2 hn hsz (.inr ⟨by omega,.inr ⟨w.heap.size,0,1,1,#[.string s],t,rfl,hS,⟨Nat.le_refl _,by decide⟩,?_,ht,Nat.le_refl _,fun i x hi hx=>?_⟩⟩)
 have q4:=gn.ac6 (j:=j+3) (v:=.slice none 0 0) q3.2 hn hsz (.inl ⟨by omega,rfl⟩)
 ·exact ((((gn.alloc (S:=S) (m:=0) (xx:=true) _).trans q1.1).trans q2.1).trans q3.1).trans q4.1
 ·rw [nb _ _ _ hne,nb _ _ _ hne,nb _ _ _ hne]
  exact iz
 ·have hi0:i=0:=by omega
  subst hi0
  cases hx
  exact ⟨rfl,fun s' e=>by cases e;exact hs⟩
theorem gn.stay {S m w w'} (h:gn S m false w w') {b j:Nat} {x:Value} (hx:w.cell? ⟨b,j,none⟩=some x) (hn:kg x = .no):w'.cell? ⟨b,j,none⟩=some x:=by
 unfold World.cell? at hx
 split at hx
 ·rename_i cs e fr hb
  simp at hx
  obtain ⟨cs',q1,q2,q3⟩:=h.cells b cs e fr hb
  have hlt:j<cs'.size:=by rw [q2];exact (Array.getElem?_eq_some_iff.1 hx).1
  have hx':=Array.getElem?_eq_getElem hlt
  rw [gg q1]
  rcases q3 j x _ hx hx' with q|⟨q,_⟩|⟨⟨q,_⟩,_⟩
  ·rw [hx',q]
  ·exact absurd hn q
  ·cases q
 ·cases hx
end Go.Vm
namespace Go.Vm
variable [TK]
noncomputable section
def te:Nat→Code→Code
 |0,_=>.skip
 |1,.seq a _=>a
 |n+2,.seq a b=>.seq a (te (n+1) b)
 |_,c=>c
def ly:Nat→Code→Code
 |0,c=>c
 |n+1,.seq _ b=>ly n b
 |_+1,_=>.skip
def Me:Nat→Code→Bool
 |0,_=>true
 |n+1,.seq _ b=>Me n b
 |_+1,_=>false
theorem mo {P:Program} {T:dq} {ar:Nat} {a b:Code} {Q:QL} {L:SL} {st:St}:wl P T ar (te 1 (.seq a b)) Q L st=wl P T ar a Q L st:=rfl
theorem ml {P:Program} {T:dq} {ar n:Nat} {a b:Code} {Q:QL} {L:SL} {st:St}:wl P T ar (te (n+2) (.seq a b)) Q L st=wl P T ar a (K8 (wl P T ar (te (n+1) b)) Q) L st:=rfl
theorem m5 {P:Program} {T:dq} {ar n:Nat} {c:Code} {Q:QL} {L:SL} {st:St}:wl P T ar (te n (ly 0 c)) Q L st=wl P T ar (te n c) Q L st:=rfl
theorem mz {P:Program} {T:dq} {ar n m:Nat} {a b:Code} {Q:QL} {L:SL} {st:St}:wl P T ar (te n (ly (m+1) (.seq a b))) Q L st=wl P T ar (te n (ly m b)) Q L st:=rfl
theorem Hs {P:Program} {T:dq} {ar:Nat} {c:Code} {Q:QL} {L:SL} {st:St}:wl P T ar (ly 0 c) Q L st=wl P T ar c Q L st:=rfl
theorem Fy {P:Program} {T:dq} {ar m:Nat} {a b:Code} {Q:QL} {L:SL} {st:St}:wl P T ar (ly (m+1) (.seq a b)) Q L st=wl P T ar (ly m b) Q L st:=rfl
def Dl (X:SL→St→Prop) (Y:QL):QL:=fun e L st=>
 match e with
 |.normal=>X L st
 |e=>Y e L st
theorem oa {X:SL→St→Prop} {Y:QL} {L st}:Dl X Y .normal L st=X L st:=rfl
theorem oo {X:SL→St→Prop} {Y:QL} {L st}:Dl X Y .ret L st=Y .ret L st:=rfl
theorem n8 {X:SL→St→Prop} {Y:QL} {L st} (i:Nat):Dl X Y (.exit i) L st=Y (.exit i) L st:=rfl
def noQ:QL:=fun _ _ _=>False
theorem Sh {P:Program} [KP P] {T:dq} (hT:ai P T) (hm:P.follows .mixedOrders=true) {N:Nat} {B:dx} {nt:NT} (hnf:B.kl) (hp:B.ar≤1000) (hn0:B.n0≤B.w.heap.size) {X:Exit→Act→World→Prop} {Q:QL} :
 ∀ (n:Nat) (c:Code),Me (n+1) c=true→dm nt c=true →
  (∀ e L' st' g' a' w',Q e L' st'→jn B nt L' st' g' a' w'→match e with|.normal=>(ly (n+1) c).wpIn (fu none) N P X a' w'|e=>X (pr e) a' w') →
  ∀ L st g a w,wl P T B.ar (te (n+1) c) Q L st→jn B nt L st g a w→c.wpIn (fu none) N P X a w:=by
 intro n
 induction n with
 |zero=>
  intro c hsp hs hX L st g a w h hh
  cases c with
  |seq x y=>
   simp only [dm,Bool.and_eq_true] at hs
   refine wpIn_seq (wpIn_mono (piece hT hm (N:=N) hnf hp hn0 hs.1 h hh) ?_)
   rintro ex a' w' ⟨e,L',st',g',rfl,hq,hh',_⟩
   have:=hX e L' st' g' a' w' hq hh'
   cases e with
   |normal=>exact this
   |ret=>exact this
   |exit id=>exact this
  |_=>cases hsp
 |succ n ih=>
  intro c hsp hs hX L st g a w h hh
  cases c with
  |seq x y=>
   simp only [dm,Bool.and_eq_true] at hs
   refine wpIn_seq (wpIn_mono (piece hT hm (N:=N) hnf hp hn0 hs.1 (Q:=K8 (wl P T B.ar (te (n+1) y)) Q) h hh) ?_)
   rintro ex a' w' ⟨e,L',st',g',rfl,hq,hh',_⟩
   cases e with
   |normal=>exact ih y hsp hs.2 hX L' st' g' a' w' hq hh'
   |ret=>exact hX .ret L' st' g' a' w' hq hh'
   |exit id=>exact hX (.exit id) L' st' g' a' w' hq hh'
  |_=>cases hsp
theorem ahg {P:Program} [KP P] {T:dq} (hT:ai P T) (hm:P.follows .mixedOrders=true) {N:Nat} {B:dx} {nt:NT} (hnf:B.kl) (hp:B.ar≤1000) (hn0:B.n0≤B.w.heap.size) {X:Exit→Act→World→Prop} {Q:QL} {c:Code} (hs:dm nt c=true)
 (hX:∀ e L' st' g' a' w',Q e L' st'→jn B nt L' st' g' a' w'→X (pr e) a' w') {L st g a w} (h:wl P T B.ar c Q L st) (hh:jn B nt L st g a w):c.wpIn (fu none) N P X a w:=by
 refine wpIn_mono (piece hT hm (N:=N) hnf hp hn0 hs h hh) ?_
 rintro ex a' w' ⟨e,L',st',g',rfl,hq,hh',_⟩
 exact hX e L' st' g' a' w' hq hh'
def su (w:World):Nat→Nat→Prop:=fun b _=>b<w.heap.size
def T8 (w:World) (D:List Deferred):dx:={ b0:=w.heap.size,w,K:=su w,O:=fun _=>False,ar:=0,pb:=fun _=>none,n0:=w.heap.size,D }
theorem Ee (w D):(T8 w D).kl:=fun _ h=>h
structure yn (S:Nat→Prop) (w1:World) (D:List Deferred) (ds:List Deferred) (w:World):Prop where
 size:w1.heap.size≤w.heap.size
 low:∀ b,b<w1.heap.size→¬ S b→w.heap[b]? = w1.heap[b]?
 obj:∀ (b:Nat) o,w1.heap[b]? = some o→(∀ cs e fr,o ≠ .cells cs e fr)→w.heap[b]? = some o
 os:w.os=w1.os
 tape:w.tape=w1.tape
 output:w.output=w1.output
 Rt:∃ bs:List Nat,ds=bs.map mark++D∧bs.Nodup∧∀ b ∈ bs,w1.heap.size≤b∧w.heap[b]? = some (.deferred (some []))
theorem yn.start (S:Nat→Prop) (w:World) (D:List Deferred):yn S w D D w:=⟨Nat.le_refl _,fun _ _ _=>rfl,fun _ _ h _=>h,rfl,rfl,rfl,[],rfl,List.nodup_nil,fun b h=>by cases h⟩
theorem yn.later {S:Nat→Prop} {w1 D ds w nt L st g a w'} (h:yn S w1 D ds w) (hh:jn (T8 w ds) nt L st g a w'):yn S w1 D a.defers w':=by
 have hb:=hh.cur.base
 have hf:∀ b,b<w.heap.size→w'.heap[b]? = w.heap[b]? := fun b h=>hb.frame b h (fun h=>h)
 refine ⟨Nat.le_trans h.size hb.size,fun b hlt hn=>(hf b (Nat.lt_of_lt_of_le hlt h.size)).trans (h.low b hlt hn),fun b o ho hn=>?_,hb.os.trans h.os,hb.tape.trans h.tape,hb.output.trans h.output,?_⟩
 ·have:=h.obj b o ho hn
  exact (hf b (be this)).trans this
 ·obtain ⟨bs,e1,e2,e3⟩:=h.Rt
  obtain ⟨cs,c1,c2,c3⟩:=hh.Rt
  refine ⟨cs++bs,by rw [c1,List.map_append,List.append_assoc];exact congrArg _ e1,?_,fun b hb=>?_⟩
  ·rw [List.nodup_append]
   refine ⟨c2,e2,fun x hx y hy e=>?_⟩
   subst e
   have h1:w.heap.size≤x:=(c3 x hx).1
   have h2:=be (e3 x hy).2
   omega
  ·rcases List.mem_append.1 hb with hb|hb
   ·exact ⟨Nat.le_trans h.size (c3 b hb).1,(c3 b hb).2.1⟩
   ·have:=(e3 b hb).2
    exact ⟨(e3 b hb).1,(hf b (be this)).trans this⟩
theorem yn.ou {S:Nat→Prop} {w1 D ds w m xx w'} (h:yn S w1 D ds w) (ho:gn S m xx w w'):yn S w1 D ds w':=by
 refine ⟨Nat.le_trans h.size ho.size,fun b hlt hn=>(ho.low b (Nat.lt_of_lt_of_le hlt h.size) hn).trans (h.low b hlt hn),fun b o hb hn=>ho.obj b o (h.obj b o hb hn) hn,ho.os.trans h.os,ho.tape.trans h.tape,ho.output.trans h.output,?_⟩
 obtain ⟨bs,e1,e2,e3⟩:=h.Rt
 exact ⟨bs,e1,e2,fun b hb=>⟨(e3 b hb).1,ho.obj b _ (e3 b hb).2 (fun cs e fr q=>by cases q)⟩⟩
theorem Hx {nt:NT} {Ls:SL} {a:Act} {w:World} (hnt:qf nt a.tmps) (hr:∀ t,Rel (gK w.heap.size (su w)) w (lk Ls t) (a.tmps.getD t undef)):jn (T8 w a.defers) nt Ls (bk []) (gK w.heap.size (su w)) a w:=by
 refine ⟨⟨⟨Nat.le_refl _,fun o x hx=>?_,fun o o' x x' b base base' _ hx=>?_,fun _ _ h=>h⟩,fun o _ _=>rfl,⟨rfl,(fun o ho=>(by rcases ho with ho|ho;cases ho;exact ho.elim)),fun _ _ h=>h,fun _ _ _=>rfl,Nat.le_refl _,rfl,rfl,rfl,fun _ _ _=>rfl,fun o b base ho=>?_,fun _ _ h=>.inl h,fun b cs e fr h=>⟨cs,fr,h,rfl⟩,fun b l h=>⟨l,h⟩,fun _ _ _ _ _ _=>rfl⟩,Nat.zero_le _⟩,⟨hnt,hr⟩,Marks.start _ _ _ _ _⟩
 ·simp [bk,kb,Tr.get_nil] at hx
 ·simp [bk,kb,Tr.get_nil] at hx
 ·simp [bk,kb,Tr.get_nil] at ho
theorem aq2 {g:Gh} {w:World} {f:Nat→Value}:∀ {ts:List Nat} {vs:List AV},bg g w vs (ts.map f)→∀ t,Rel g w (lk (j5 ts vs) t) (f t)
 | [],vs,h,t=>by cases vs<;>exact .bad _
 |t0::ts,[],h,t=>.bad _
 |t0::ts,v::vs,h,t=>by
  rw [j5,pz]
  by_cases e:t0=t
  ·subst e;rw [if_pos rfl];exact h.head
  ·rw [if_neg e];exact aq2 h.tail t
theorem jn.read {B:dx} {nt L st g a w} (hh:jn B nt L st g a w) {α:Type} (A:AC α) (ts:List Nat) {x : α} (hd:A.get st.h (ts.map (lk L))=some x):bg (gK w.heap.size (su w)) w (A.E x) (ts.map fun t=>a.tmps.getD t undef):=by
 refine A.ok (b0:=w.heap.size) (K:=su w) hh.cur.ok ⟨fun b j hk=>hh.cur.ok.K b j hk,fun o cells k s e ho b base hi j hj=>?_⟩ ⟨by simp,fun i x v hx hv=>?_⟩ hd
 ·obtain ⟨b',base',h5,_,h6⟩:=hh.cur.ok.obj o _ ho
  rw [hi] at h5;cases h5
  exact h6.lt
 ·rw [List.getElem?_map,Option.map_eq_some_iff] at hx hv
  obtain ⟨t,e1,rfl⟩:=hx
  obtain ⟨t',e2,rfl⟩:=hv
  rw [e1] at e2;cases e2
  exact hh.sl.2 t
theorem jn.arw {B:dx} {nt L st g a w} (hh:jn B nt L st g a w) {α:Type} (C:cw α) (fr:Bool) (t:Nat) {x : α} (hd:C.ga fr st.h (lk L t)=some x):Rel (gK B.b0 (su w)) w (C.val fr x) (a.tmps.getD t undef):=by
 refine C.N6 (b0:=B.b0) (K:=su w) hh.cur.ok ⟨fun b j hk=>hh.cur.ok.K b j hk,fun o cells k s e ho b base hi j hj=>?_⟩ (fun _=>Nat.le_of_eq hh.cur.base.b0.symm) (hh.sl.2 t) hd
 obtain ⟨b',base',h5,_,h6⟩:=hh.cur.ok.obj o _ ho
 rw [hi] at h5;cases h5
 exact h6.lt
def Aq (n:Nat) (ts:List Nat) (tmps:Array Value):NT:=⟨n,ts.map fun t=>(t,tmps.getD t undef)⟩
theorem abd {nt:NT} {tmps:Array Value} (ts:List Nat) (h:qf nt tmps):qf (Aq nt.n ts tmps) tmps:=⟨h.size,fun p hp=>by obtain ⟨t,_,rfl⟩:=List.mem_map.1 hp;rfl⟩
theorem C6 {n:Nat} {ts:List Nat} {tmps tmps':Array Value} (h:qf (Aq n ts tmps) tmps') {t:Nat} (ht:t ∈ ts):tmps'.getD t undef=tmps.getD t undef:=h.fix _ (List.mem_map.2 ⟨t,ht,rfl⟩)
theorem Rel.stay {b0 b1:Nat} {K K':Nat→Nat→Prop} {w w':World} {a:AV} {v:Value} (hb0:∀ b,b0≤b→(∀ j,K b j)→b1≤b) (hK:∀ b j,K b j→K' b j) (hh:∀ b j,K b j→w'.heap[b]? = w.heap[b]?) (h:Rel (gK b0 K) w a v):Rel (gK b1 K') w' a v:=by
 have hno:∀ o p,(gK b0 K).inj o≠some p:=fun o p e=>by cases e
 generalize hg:gK b0 K=g0 at h hno
 have hK0:∀ b j,g0.K b j→K b j:=by subst hg;exact fun _ _ h=>h
 have hb:g0.b0=b0:=by subst hg;rfl
 clear hg
 have hc:∀ (b j:Nat),g0.K b j→w'.cell? ⟨b,j,none⟩=w.cell? ⟨b,j,none⟩:=fun b j hk=>k5 (hh b j (hK0 b j hk))
 induction h with
 |sc x=>exact .sc x
 |agg l vs hs _ ih=>exact .agg l vs hs ih
 |gb l vs hs _ ih=>exact .gb l vs hs ih
 |vl loc sz es b off cap c hsz hl hcap h _ hw ih=>
  refine .vl loc sz es b off cap c hsz (fun e=>hb0 b (by rw [← hb];exact hl e) (fun j=>hK0 _ _ ((hw e).K j))) hcap (fun j a hj=>⟨hK _ _ (hK0 _ _ (h j a hj).1),(hc _ _ (h j a hj).1).trans (h j a hj).2⟩) ih (fun e=>?_)
  obtain ⟨w1,⟨cs,e,w2,w3⟩,w4,w5⟩:=hw e
  exact ⟨fun j=>hK _ _ (hK0 _ _ (w1 j)),⟨cs,e,(hh b 0 (hK0 _ _ (w1 0))).trans w2,w3⟩,w4,w5⟩
 |iu loc sz=>exact .iu loc sz
 |oq loc sz a=>exact .oq loc sz a
 |sl o off len sz b base cap hi hc hm hr=>exact (hno _ _ hi).elim
 |ow o off sz a=>exact .ow o off sz a
 |pf o off sz=>exact .pf o off sz
 |ez a=>exact .ez a
 |ptr o off b base hi=>exact (hno _ _ hi).elim
 |ff l b off c h _ ih=>exact .ff l b off c (fun j a hj=>⟨hK _ _ (hK0 _ _ (h j a hj).1),(hc _ _ (h j a hj).1).trans (h j a hj).2⟩) ih
 |fn f first captured va vb hs _ hs' _ ih ih'=>exact .fn f first captured va vb hs ih hs' ih'
 |mp o b base hi=>exact (hno _ _ hi).elim
 |m7 t a v _ ih=>exact .m7 t a v ih
 |yl o b base hi=>exact (hno _ _ hi).elim
 |bad v=>exact .bad v
theorem Rel.low {S:Nat→Prop} {w1 D ds w} (h:yn S w1 D ds w) (hS:∀ b,b<w1.heap.size→¬ S b) {a:AV} {v:Value} (hr:Rel (gK w1.heap.size (su w1)) w1 a v):Rel (gK w.heap.size (su w)) w a v:=
 hr.stay (K:=su w1) (K':=su w) (fun b h1 h2=>absurd (h2 0) (Nat.not_lt.2 h1)) (fun b _ (hk:b<w1.heap.size)=>Nat.lt_of_lt_of_le hk h.size) (fun b _ (hk:b<w1.heap.size)=>h.low b hk (hS b hk))
theorem yn.fin {B:dx} {nt0 nt:NT} {L st g a1 w1} (hp:B.ar=0) (hnf:B.kl) (hn0:B.n0≤B.w.heap.size) (h1:jn B nt L st g a1 w1) {S:Nat→Prop} {a:Act} {w:World} (hm:yn S w1 a1.defers a.defers w) (hS:∀ b,b<w1.heap.size→¬ S b) (hO:∀ b,¬ B.O b) {r:Nat} {v:Value} (hnt:qf nt0 a.tmps) (hv:a.tmps.getD r undef=v) {Q:QL} {e:Ex} (hq:Q e [(r,.sc v)] (bk [])):Fin B nt0 Q (pr e) a w:=by
 have hb:=h1.cur.base
 have hok:=h1.cur.ok
 have hlow:∀ b,b<w1.heap.size→w.heap[b]? = w1.heap[b]? := fun b hlt=>hm.low b hlt (hS b hlt)
 have hKl:∀ b j,B.K b j→b<w1.heap.size:=fun b j hk=>hok.K b j (hb.K b j hk)
 refine Fin.mk' (g:={ b0:=B.b0,inj:=fun _=>none,K:=B.K }) hq ⟨⟨?_,fun o x hx=>?_,fun o o' x x' b base base' _ hx=>?_,fun b j hk=>Nat.lt_of_lt_of_le (hKl b j hk) hm.size⟩,fun o _ _=>rfl,⟨rfl,fun o ho=>?_,fun _ _ h=>h,fun b j hk=>?_,Nat.le_trans hb.size hm.size,hm.os.trans hb.os,hm.tape.trans hb.tape,hm.output.trans hb.output,fun b hlt hn=>?_,fun o b base ho=>?_,fun _ _ h=>.inl h,fun b cs e fr h=>?_,fun b l h=>?_,fun b cs e fr h hk=>?_⟩,by rw [hp];exact Nat.zero_le _⟩ ⟨hnt,fun t=>?_⟩ ?_
 ·have:=hok.size;rw [hb.b0] at this;exact Nat.le_trans this hm.size
 ·simp [bk,kb,Tr.get_nil] at hx
 ·simp [bk,kb,Tr.get_nil] at hx
 ·rcases ho with ho|ho
  ·rw [hp] at ho;cases ho
  ·exact (hnf o ho).elim
 ·exact (k5 (hlow b (hKl b j hk))).trans (hb.cell b j hk)
 ·have hlt1:=Nat.lt_of_lt_of_le hlt hb.size
  exact (hlow b hlt1).trans (hb.frame b hlt hn)
 ·simp [bk,kb,Tr.get_nil] at ho
 ·obtain ⟨cs',fr',q1,q2⟩:=hb.ij b cs e fr h
  exact ⟨cs',fr',(hlow b (be q1)).trans q1,q2⟩
 ·obtain ⟨l',q1⟩:=hb.lp b l h
  exact ⟨l',(hlow b (be q1)).trans q1⟩
 ·have q1:=hb.whole b cs e fr h hk
  exact (hlow b (be (q1.trans h))).trans q1
 ·rw [pz]
  by_cases e:r=t
  ·subst e;rw [if_pos rfl,hv];exact .sc _
  ·rw [if_neg e];exact .bad _
 ·obtain ⟨bs,e1,e2,e3⟩:=hm.Rt
  obtain ⟨cs,c1,c2,c3⟩:=h1.Rt
  refine ⟨bs++cs,by rw [e1,c1,List.map_append,List.append_assoc],?_,fun b hb'=>?_⟩
  ·rw [List.nodup_append]
   refine ⟨e2,c2,fun x hx y hy e=>?_⟩
   subst e
   have h2:=be (c3 x hy).2.1
   have h3:=(e3 x hx).1
   omega
  ·have hun:ft { b0:=B.b0,inj:=fun _=>none,K:=B.K } (bk []).h b:=fun o base ho=>by simp [bk,kb,Tr.get_nil] at ho
   rcases List.mem_append.1 hb' with hb'|hb'
   ·exact ⟨Nat.le_trans hn0 (Nat.le_trans hb.size (e3 b hb').1),(e3 b hb').2,hun⟩
   ·have q:=c3 b hb'
    exact ⟨q.1,(hlow b (be q.2.1)).trans q.2.1,hun⟩
def aeo (x:Operand):Option Nat:=
 match x with
 |.tmp t=>some t
 |_=>none
def age (o:Oper):Option (Option Nat × Nat × List Nat):=
 match o.op,o.guard with
 |.call { callee:=.value (.func f),args,.. },none=>(args.toList.mapM aeo).map fun ts=>(o.dst,f,ts)
 |_,_=>none
def D4 (ops:Array Oper) (n:Nat):Option (Option Nat × Nat × List Nat):=
 match ops.toList.drop n with
 | [o]=>age o
 |_=>none
theorem aa6:∀ {l:List Operand} {ts:List Nat},l.mapM aeo=some ts→l=ts.map Operand.tmp
 | [],ts,h=>by simp at h;subst h;rfl
 |x::l,ts,h=>by
  simp only [List.mapM_cons,Option.bind_eq_bind,Option.bind_eq_some_iff] at h
  obtain ⟨t,h1,us,h2,h3⟩:=h
  cases h3
  cases x with
  |tmp u=>simp only [aeo,Option.some.injEq] at h1;subst h1;rw [List.map_cons,aa6 h2]
  |_=>cases h1
theorem Zh {ops:Array Oper} {n f:Nat} {d:Option Nat} {args:List Nat} (h:D4 ops n=some (d,f,args)):∃ c ts pos af ty,ops.toList.drop n=[⟨d,.call { callee:=.value (.func f),args:=(args.map Operand.tmp).toArray,argTypes:=ts },ty,pos,af,none⟩]∧c=():=by
 unfold D4 at h
 split at h
 ·rename_i o ho
  obtain ⟨dst,op,ty,pos,af,gd⟩:=o
  unfold age at h
  split at h
  ·rename_i f' aa ats h1 h2
   simp only [Option.map_eq_some_iff,Prod.mk.injEq] at h
   obtain ⟨ts,h3,rfl,rfl,rfl⟩:=h
   subst h1 h2
   refine ⟨(),ats,pos,af,ty,?_,rfl⟩
   rw [ho,← aa6 h3]
  ·cases h
 ·cases h
theorem aad {P:Program} [KP P] {T:dq} (hT:ai P T) {B:dx} {nt:NT} (hnf:B.kl) {N id n:Nat} {ops:Array Oper} {K:SL→St→Prop} {X:Exit→Act→World→Prop} {L st g a w} (hs:dm nt (.region id ops false)=true)
 {f:Nat} {args:List Nat} {d:Option Nat} (hl:D4 ops n=some (d,f,args)) (he:mg P f=true)
 (h:opsL P T ops (ops.toList.take n) K L st) (hh:jn B nt L st g a w)
 (hK:∀ L' st' g' a' w',K L' st'→jn B nt L' st' g' a' w'→Calls P f (args.map fun t=>a'.tmps.getD t undef).toArray w' (fun e w''=>∃ r,e = .returned r∧∀ a'',a''.defers=a'.defers→qf nt a''.tmps→(∀ dd,d=some dd→a''.tmps.getD dd undef=r)→X .normal a'' w'')) :
 (Code.region id ops false).wpIn (fu none) N P X a w:=by
 simp only [dm,Bool.and_eq_true] at hs
 obtain ⟨hd,hg⟩:=hs
 obtain ⟨_,ts,pos,af,ty,hl,_⟩:=Zh hl
 have key:∀ (l:List Oper) (is:List Nat),(∀ o ∈ l,o ∈ ops)→is.map (fun i=>ops[i]?)=(l++ops.toList.drop n).map some→∀ L st g a w,opsL P T ops l K L st→jn B nt L st g a w→wpOpsIn (fu none) N P ops X is a w:=by
  intro l
  induction l with
  |nil=>
   intro is _ his L st g a w h hh
   rw [hl,List.nil_append] at his
   match is,his with
   | [i],his=>
    simp only [List.map_cons,List.map_nil,List.cons.injEq,and_true] at his
    have hK':=hK L st g a w h hh
    have ho:(⟨d,.call { callee:=.value (.func f),args:=(args.map Operand.tmp).toArray,argTypes:=ts },ty,pos,af,none⟩:Oper) ∈ ops:=by
     have:(⟨d,.call { callee:=.value (.func f),args:=(args.map Operand.tmp).toArray,argTypes:=ts },ty,pos,af,none⟩:Oper) ∈ ops.toList.drop n:=by rw [hl];exact List.mem_singleton.2 rfl
     exact Array.mem_toList_iff.1 (List.mem_of_mem_drop this)
    simp only [wpOpsIn,his]
    have hw:Region.wanted (⟨d,.call { callee:=.value (.func f),args:=(args.map Operand.tmp).toArray,argTypes:=ts },ty,pos,af,none⟩:Oper) (yielded ops a.tmps)=true:=by simp [Region.wanted]
    rw [hw,if_pos rfl]
    refine ⟨j7 none P _ a w,?_⟩
    rw [Oper.semAt_eq _ _ _ (by intro c e;cases e)]
    have hrun:(execOp a.eval (⟨d,.call { callee:=.value (.func f),args:=(args.map Operand.tmp).toArray,argTypes:=ts },ty,pos,af,none⟩:Oper)).run P w=(callFunc f (args.map fun t=>a.tmps.getD t undef).toArray).run P w:=by
     rw [Ej (h:=f) (first:=#[]) (captured:=#[]) (f:=.func f) rfl rfl]
     congr 2
     apply Array.ext'
     simp [Act.eval]
    rw [hrun,sn he]
    refine ⟨(fun h=>(by cases h)),(oy (ro:=none) (n:=N - 1) hK').mono ?_⟩
    rintro e w' ⟨r,rfl,hX⟩
    have hdd:=fun dd (e:d=some dd)=>n9 hd ho dd e
    show wpOpsIn (fu none) N P ops X [] (a.put d r) w'
    refine hX _ (put_defers _ _ _) (hh.sl.1.put hdd) (fun dd e=>?_)
    subst e
    have:=(NT.Hn (hdd dd rfl)).1
    show (a.tmps.setIfInBounds dd r).getD dd undef=r
    rw [Array.getD_eq_getD_getElem?,Array.getElem?_setIfInBounds,if_pos rfl,if_pos (by rw [hh.sl.1.size];exact this)];rfl
   | [],his=>cases his
   |_::_::_,his=>simp at his
  |cons o l ih=>
   intro is hmem his L st g a w h hh
   obtain ⟨hc,hr,hdf⟩:=hh
   cases is with
   |nil=>cases his
   |cons i is=>
    simp only [List.cons_append,List.map_cons,List.cons.injEq] at his
    obtain ⟨hi,his⟩:=his
    have ho:=hmem o (by simp)
    simp only [wpOpsIn,hi]
    rcases Eh hr (D1 hg ho) h with ⟨hw,h1⟩|⟨hw,h1⟩
    ·rw [hw,if_pos rfl]
     unfold O7 Ci at h1
     cases hop:fw P T o (dj L) st with
     |none=>
      rw [hop] at h1
      refine Xn hc.ok (fun o ho=>hc.fresh o ho (hnf o)) hr.eval h1 none N _ _ ?_
      rintro u w' ⟨g',v,st',q0,q1,q2,q3,q4⟩
      exact ih is (fun o ho=>hmem o (by simp [ho])) his _ st' g' _ w' q0 ⟨hc.step (hnf.B4 _ _) ⟨q1,q2⟩ q3,(hr.ext q2.ext).put q4 (n9 hd ho),by rw [put_defers];exact hdf.step q2⟩
     |some p=>
      obtain ⟨v,st'⟩:=p
      rw [hop] at h1
      refine Km hT hc.ok (hc.free (hnf.B4 _ _)) hr.eval hop none N _ _ ?_
      rintro u w' ⟨g',q1,q2,q3⟩
      exact ih is (fun o ho=>hmem o (by simp [ho])) his _ st' g' _ w' h1 ⟨hc.step (hnf.B4 _ _) ⟨Ar hop,q1⟩ q2,(hr.ext q1.ext).put q3 (n9 hd ho),by rw [put_defers];exact hdf.step q1⟩
    ·rw [hw,if_neg (by simp)]
     refine ⟨j7 none P o a w,?_⟩
     exact ih is (fun o ho=>hmem o (by simp [ho])) his _ st g _ w h1 ⟨hc,hr.put (.sc _) (n9 hd ho),by rw [put_defers];exact hdf⟩
 refine wpIn_region ?_
 exact key (ops.toList.take n) (List.range ops.size) (fun o ho=>Array.mem_toList_iff.1 (List.mem_of_mem_take ho)) (by rw [List.take_append_drop];exact Gl ops) L st g a w h hh
def n6:Nat→Code→Code
 |0,.seq a _=>a
 |n+1,.seq _ b=>n6 n b
 |_,_=>.skip
def Ei:Code→Array Oper
 |.region _ ops _=>ops
 |_=>#[]
def idC:Code→Nat
 |.region i _ _=>i
 |_=>0
theorem P7 {a b:Code}:n6 0 (.seq a b)=a:=rfl
theorem Ox {n:Nat} {a b:Code}:n6 (n+1) (.seq a b)=n6 n b:=rfl
theorem Zd {i ops d}:Ei (.region i ops d)=ops:=rfl
theorem Ow:∀ {n:Nat} {c:Code},Me (n+1) c=true→ly n c = .seq (n6 n c) (ly (n+1) c)
 |0,.seq a b,_=>rfl
 |n+1,.seq a b,h=>Ow (n:=n) (c:=b) h
theorem abo (n:Nat) (ts:List Nat) (x y:Array Value) (t:Nat):(Aq n ts x).has t=(Aq n ts y).has t:=by
 unfold NT.has Aq
 rw [List.all_map,List.all_map]
 rfl
theorem A1 {n:Nat} {ts:List Nat} {x y:Array Value}:∀ {c:Code},dm (Aq n ts x) c=true→dm (Aq n ts y) c=true:=by
 intro c
 induction c with
 |region i ops d=>
  intro h
  simp only [dm,xb,qz,abo n ts y x] at h ⊢
  exact h
 |seq a b iha ihb=>intro h;simp only [dm,Bool.and_eq_true] at h ⊢;exact ⟨iha h.1,ihb h.2⟩
 |cond c a b iha ihb=>intro h;simp only [dm,Bool.and_eq_true] at h ⊢;exact ⟨iha h.1,ihb h.2⟩
 |block i b ih=>intro h;exact ih h
 |loop b ih=>intro h;exact ih h
 |scope b ih=>intro h;exact ih h
 |rangeFunc f ps a b iha ihb=>
  intro h
  simp only [dm,Bool.and_eq_true,abo n ts y x] at h ⊢
  exact ⟨⟨⟨⟨h.1.1.1.1,iha h.1.1.1.2⟩,ihb h.1.1.2⟩,h.1.2⟩,h.2⟩
 |_=>intro _;rfl
theorem Rq {P:Program} [KP P] {T:dq} (hT:ai P T) {B:dx} {nt:NT} (hnf:B.kl) {N k n:Nat} {c:Code} (hsp:Me (k+1) c=true) (hreg:n6 k c = .region (idC (n6 k c)) (Ei (n6 k c)) false) (hs:dm nt (n6 k c)=true)
 {d:Option Nat} {f:Nat} {args:List Nat} (hcall:D4 (Ei (n6 k c)) n=some (d,f,args)) (he:mg P f=true) {K:SL→St→Prop} {L st g a w} (h:opsL P T (Ei (n6 k c)) ((Ei (n6 k c)).toList.take n) K L st) (hh:jn B nt L st g a w) {X:Exit→Act→World→Prop}
 (hK:∀ L' st' g' a' w',K L' st'→jn B nt L' st' g' a' w'→Calls P f (args.map fun t=>a'.tmps.getD t undef).toArray w' (fun e w''=>∃ r,e = .returned r∧∀ a'',a''.defers=a'.defers→qf nt a''.tmps→(∀ dd,d=some dd→a''.tmps.getD dd undef=r)→(ly (k+1) c).wpIn (fu none) N P X a'' w'')) :
 (ly k c).wpIn (fu none) N P X a w:=by
 rw [Ow hsp]
 refine wpIn_seq ?_
 rw [hreg] at hs ⊢
 exact aad hT hnf hs hcall he h hh hK
end
end Go.Vm
namespace Go.Vm
variable [TK]
theorem jn.exact {B:dx} {nt L st g a w} (hh:jn B nt L st g a w) {t:Nat} {x:Value} (h:lk L t = .sc x):a.tmps.getD t undef=x:=by
 have:=hh.sl.2 t
 rw [h] at this
 exact this.exact rfl
theorem jn.box {B:dx} {nt L st g a w} (hh:jn B nt L st g a w) {t o k:Nat} {cells:List AV} {et:TypeId} (hl:lk L t = .ptr o 0) (ho:st.h.get o=some (.row cells k 2 et)) :
 ∃ b cs,a.tmps.getD t undef = .pointer (some ⟨b,0,none⟩)∧B.b0≤b∧w.heap[b]? = some (.cells cs et (0,0))∧bg g w cells cs.toList:=by
 have h1:=hh.sl.2 t
 rw [hl] at h1
 obtain ⟨v,hv⟩:∃ v,a.tmps.getD t undef=v:=⟨_,rfl⟩
 rw [hv] at h1 ⊢
 cases h1 with
 |ptr _ _ b base hi=>
  obtain ⟨b',base',q1,q2,cs,fr,q3,q4,q5,q6,q7,q8,q9,q10⟩:=hh.cur.ok.obj o _ ho
  rw [hi] at q1;cases q1
  have hf:=q8 (by decide)
  obtain ⟨e1,e2⟩:=q9 rfl
  subst hf e1
  refine ⟨b,cs,rfl,by rw [← hh.cur.base.b0];exact q2,q3,by simp [e2],fun i x v hx hv=>?_⟩
  obtain ⟨c,hc,hr⟩:=q5 i x hx
  rw [Nat.zero_add,← Array.getElem?_toList,hv] at hc
  cases hc;exact hr
theorem jn.vj {B:dx} {nt L st g a w} (hh:jn B nt L st g a w) {S:Nat→Prop} {N t o k n sz:Nat} {cells:List AV} {et:TypeId} {E:World→List Value→Prop} (hS:∀ b,B.b0≤b→S b) (hN:n≤N) (hl:lk L t = .sl o 0 n sz) (ho:st.h.get o=some (.row cells k 0 et)) (hts:TK.sz et=some sz) (hlen:cells.length=n * sz)
 (hE:∀ j vs,j<n→bg g w ((cells.drop (j * sz)).take sz) vs→E w vs):jz S N w sz E (a.tmps.getD t undef):=by
 have h1:=hh.sl.2 t
 rw [hl] at h1
 obtain ⟨v,hv⟩:∃ v,a.tmps.getD t undef=v:=⟨_,rfl⟩
 rw [hv] at h1 ⊢
 cases h1 with
 |ow _ _ _ a=>exact .inl ⟨some a,rfl⟩
 |pf _ _ _=>exact .inl ⟨none,rfl⟩
 |sl _ _ _ _ b base cap hi hc hm hr=>
  obtain ⟨b',base',q1,q2,cs,fr,q3,q4,q5,q6,q7,q8,q9,q10⟩:=hh.cur.ok.obj o _ ho
  rw [hi] at q1;cases q1
  have hf:=q8 (by decide)
  have hs:=q10 rfl
  have e1:=hs.1
  subst hf e1
  obtain ⟨cs1,e2,fr1,r1,r2⟩:=hr
  rw [q3] at r1;cases r1
  refine .inr ⟨b,0,n,cap,cs,et,rfl,hN,hS b (by rw [← hh.cur.base.b0];exact q2),⟨hc,hm⟩,q3,hts,by simp,by omega,fun j hj=>hE j _ hj ⟨by simp;have:=Nat.mul_le_mul_right sz (show j+1≤n by omega);rw [Nat.succ_mul] at this;omega,fun i x v hx hv=>?_⟩⟩
  rw [List.getElem?_take] at hx
  by_cases hil:i<sz
  ·rw [if_pos hil,List.getElem?_drop] at hx
   obtain ⟨c,hc,hr⟩:=q5 _ x hx
   rw [List.getElem?_map,List.getElem?_range hil] at hv
   simp only [Option.map_some,Option.some.injEq,Nat.zero_add] at hv hc
   rw [Array.getD_eq_getD_getElem?,hc] at hv
   simp only [Option.getD_some] at hv
   rw [← hv];exact hr
  ·rw [if_neg hil] at hx;cases hx
theorem ao4 {g:Gh} {w:World} {b:Nat} {cs:Array Value} {e:TypeId} {fr:Nat × Nat} (h:w.heap[b]? = some (.cells cs e fr)) (hK:∀ j,g.K b j):Rel g w (.ff (cs.toList.map .sc)) (.pointer (some ⟨b,0,none⟩)):=by
 refine .ff _ b 0 (fun j=>cs.getD j undef) (fun j a ha=>⟨hK _,?_⟩) (fun j a ha=>?_)
 ·rw [List.getElem?_map,Option.map_eq_some_iff] at ha
  obtain ⟨x,hx,rfl⟩:=ha
  rw [Nat.zero_add]
  exact cell_of h (by have:=(List.getElem?_eq_some_iff.1 hx).1;simpa using this)
 ·rw [List.getElem?_map,Option.map_eq_some_iff] at ha
  obtain ⟨x,hx,rfl⟩:=ha
  rw [Array.getElem?_toList] at hx
  rw [Array.getD_eq_getD_getElem?,hx]
  exact .sc x
theorem ae1 {g:Gh} {w:World} {tmps:Array Value}:∀ {Ls:SL},(∀ p ∈ Ls,Rel g w p.2 (tmps.getD p.1 undef))→∀ t,Rel g w (lk Ls t) (tmps.getD t undef)
 | [],_,t=>.bad _
 |p::Ls,h,t=>by
  rw [pz]
  by_cases e:p.1=t
  ·rw [if_pos e,← e];exact h p (by simp)
  ·rw [if_neg e];exact ae1 (fun q hq=>h q (by simp [hq])) t
theorem jn.quiet {w0:World} {D:List Deferred} {nt L st g a w} (hh:jn (T8 w0 D) nt L st g a w) (S:Nat→Prop) (m:Nat) (xx:Bool):gn S m xx w0 w:=by
 have hb:=hh.cur.base
 exact .quiet S m xx hb.size hb.os hb.tape hb.output (fun b h=>hb.frame b h (fun h=>h))
theorem jn.asi {B:dx} {nt L st g a w} (hh:jn B nt L st g a w):rz g st.h (su w):=⟨fun b j hk=>hh.cur.ok.K b j hk,fun o cells k s e ho b base hi j hj=>by
 obtain ⟨b',base',h5,_,h6⟩:=hh.cur.ok.obj o _ ho
 rw [hi] at h5;cases h5
 exact h6.lt⟩
theorem jn.asn {B:dx} {nt L st g a w} (hh:jn B nt L st g a w) {α:Type} (C:cw α) {x : α} {vs:List Value} (h:bg g w (C.cells true x) vs):bg (gK B.b0 (su w)) w (C.cells true x) vs:=
 C.ok hh.cur.ok hh.asi (fun _=>Nat.le_of_eq hh.cur.base.b0.symm) h (C.rt true st.h true x (fun _=>rfl))
theorem anb {S:Nat→Prop} {m M sz b:Nat} {xx:Bool} {w w':World} {cs:Array Value} {e:TypeId} {E:Nat→World→List Value→Prop} (hE:Ov S sz E) (hM : 4≤M) (ho:gn S m xx w w') (hb:w.heap[b]? = some (.cells cs e (0,0))) (hs:TK.sz e=some sz) (hl:cs.size=sz) (h:E M w cs.toList) :
 ∃ cs',w'.heap[b]? = some (.cells cs' e (0,0))∧cs'.size=sz∧E (M+m) w' cs'.toList:=by
 obtain ⟨cs',q1,q2,q3⟩:=ho.cells b cs e _ hb
 refine ⟨cs',q1,q2.trans hl,hE (j0:=0) hM ho hs (Nat.zero_mod _) (by simpa using hl) (by simp [q2,hl]) (fun i x x' hx hx'=>?_) h⟩
 rw [Array.getElem?_toList] at hx hx'
 rw [Nat.zero_add]
 exact q3 i x x' hx hx'
theorem Xo {g:Gh} {w:World}:∀ {l vs:List Value},bg g w (l.map .sc) vs→vs=l
 | [],[],_=>rfl
 | [],v::vs,h=>by have:=h.1;simp at this
 |x::l,[],h=>by have:=h.1;simp at this
 |x::l,v::vs,h=>by rw [h.head.exact rfl,Xo h.tail]
theorem agn {nt:NT} {n:Nat} {tmps:Array Value} (h:qf nt tmps) (hn:nt.n=n):qf (n:NT) tmps:=⟨by rw [h.size,hn],fun p hp=>by cases hp⟩
end Go.Vm
namespace Go.Vm
variable [TK]
noncomputable section
section
variable (P : Program) (ρ : Operand → AV) (d : Option Tmp) (ty : TypeId) (pos : String) (af : Array Edge) (gd : Option (Nat × Bool)) (t u : TypeId) (x y : Operand)
theorem F7 (op:BinOp) (k k':IntKind) (a b:Int) (hx : ρ x = .sc (.int k a)) (hy : ρ y = .sc (.int k' b)) :
 lr P ρ ⟨d,.binOp op t x y u,ty,pos,af,gd⟩ op t (.sc (.int k a)) (.sc (.int k' b))=M.of ((ev P (binOp op t (.int k a) (.int k' b))).map .sc):=by
 have h1:∀ s:Sem Value,ev P (do pure (Next.value (← s)))=(ev P s).map Next.value:=by
  intro s
  induction s with
  |pure b=>rfl
  |program k ih=>exact ih P
  |choose q k ih=>
   simp only [bind,Sem.bind,ev]
   split
   ·exact ih 0
   ·rfl
  |mark m k ih=>exact ih
  |_=>rfl
 have h2:execOp (fun z=>((ρ z).fi).getD undef) ⟨d,.binOp op t x y u,ty,pos,af,gd⟩=(do pure (Next.value (← (do eqGuard op t x y (.int k a) (.int k' b);binOp op t (.int k a) (.int k' b))))):=by
  simp only [execOp,hx,hy,AV.fi,Option.getD_some]
 have h3:ev P (do eqGuard op t x y (.int k a) (.int k' b);binOp op t (.int k a) (.int k' b))=ev P (binOp op t (.int k a) (.int k' b)):=by
  cases op<;>rfl
 unfold lr n7
 simp only [AV.fi,Option.isSome_some,Bool.and_self,cond_true]
 rw [h2,h1,h3]
 cases ev P (binOp op t (.int k a) (.int k' b))<;>rfl
theorem af6 (k k':IntKind) (a b:Int) (h : 0≤b):ev P (binOp .shl t (.int k a) (.int k' b))=some (.int k (k.wrap (a * 2 ^ (min b.toNat k.bits)))):=by
 have:¬ b<0:=by omega
 simp [binOp,Op.shift,this,zl]
theorem ag2 (k k':IntKind) (a b:Int) (h : 0≤b):ev P (binOp .shr t (.int k a) (.int k' b))=some (.int k (a.fdiv (2 ^ (min b.toNat k.bits)))):=by
 have:¬ b<0:=by omega
 simp [binOp,Op.shift,this,zl]
theorem E5 (op:BinOp) (a b:Bool) (hx : ρ x = .sc (.bool a)) (hy : ρ y = .sc (.bool b)) :
 lr P ρ ⟨d,.binOp op t x y u,ty,pos,af,gd⟩ op t (.sc (.bool a)) (.sc (.bool b))=M.of ((ev P (binOp op t (.bool a) (.bool b))).map .sc):=by
 have h1:∀ s:Sem Value,ev P (do pure (Next.value (← s)))=(ev P s).map Next.value:=by
  intro s
  induction s with
  |pure b=>rfl
  |program k ih=>exact ih P
  |choose q k ih=>
   simp only [bind,Sem.bind,ev]
   split
   ·exact ih 0
   ·rfl
  |mark m k ih=>exact ih
  |_=>rfl
 have h2:execOp (fun z=>((ρ z).fi).getD undef) ⟨d,.binOp op t x y u,ty,pos,af,gd⟩=(do pure (Next.value (← (do eqGuard op t x y (.bool a) (.bool b);binOp op t (.bool a) (.bool b))))):=by
  simp only [execOp,hx,hy,AV.fi,Option.getD_some]
 have h3:ev P (do eqGuard op t x y (.bool a) (.bool b);binOp op t (.bool a) (.bool b))=ev P (binOp op t (.bool a) (.bool b)):=by
  cases op<;>rfl
 unfold lr n7
 simp only [AV.fi,Option.isSome_some,Bool.and_self,cond_true]
 rw [h2,h1,h3]
 cases ev P (binOp op t (.bool a) (.bool b))<;>rfl
theorem Uc {d:TypeDesc} (h:P.underlying t=some d):ev P (underlying t)=some d:=by
 rw [underlying]
 show ev P (match P.underlying t with|some d=>pure d|none=>_)=_
 rw [h];rfl
theorem Wi (n:Nat) (a b:Bool) (h:P.underlying t=some .bool):ev P (Op.equalIn (n+1) t (.bool a) (.bool b))=some (a == b):=by
 simp only [Op.equalIn]
 rw [rj,Uc P t h]
 rfl
theorem Jq (a b:Bool) (h:P.underlying t=some .bool):ev P (binOp .neq t (.bool a) (.bool b))=some (.bool (a != b)):=by
 show ev P (do pure (Value.bool (!(← Op.equalIn (9999+1) t (.bool a) (.bool b)))))=_
 rw [rj,Wi P t 9999 a b h]
 rfl
theorem Ft (op:BinOp) (a b:ByteArray) (hx : ρ x = .sc (.string a)) (hy : ρ y = .sc (.string b)) :
 lr P ρ ⟨d,.binOp op t x y u,ty,pos,af,gd⟩ op t (.sc (.string a)) (.sc (.string b))=M.of ((ev P (binOp op t (.string a) (.string b))).map .sc):=by
 have h1:∀ s:Sem Value,ev P (do pure (Next.value (← s)))=(ev P s).map Next.value:=by
  intro s
  induction s with
  |pure b=>rfl
  |program k ih=>exact ih P
  |choose q k ih=>
   simp only [bind,Sem.bind,ev]
   split
   ·exact ih 0
   ·rfl
  |mark m k ih=>exact ih
  |_=>rfl
 have h2:execOp (fun z=>((ρ z).fi).getD undef) ⟨d,.binOp op t x y u,ty,pos,af,gd⟩=(do pure (Next.value (← (do eqGuard op t x y (.string a) (.string b);binOp op t (.string a) (.string b))))):=by
  simp only [execOp,hx,hy,AV.fi,Option.getD_some]
 have h3:ev P (do eqGuard op t x y (.string a) (.string b);binOp op t (.string a) (.string b))=ev P (binOp op t (.string a) (.string b)):=by
  cases op<;>rfl
 unfold lr n7
 simp only [AV.fi,Option.isSome_some,Bool.and_self,cond_true]
 rw [h2,h1,h3]
 cases ev P (binOp op t (.string a) (.string b))<;>rfl
theorem str_eq (a b:ByteArray):(a.toList == b.toList)=decide (a=b):=by
 rw [ByteArray.toList_eq,ByteArray.toList_eq,Bool.eq_iff_iff]
 simp only [beq_iff_eq,decide_eq_true_eq]
 constructor
 ·intro h
  cases a;cases b
  congr 1
  exact Array.ext' h
 ·intro h;rw [h]
theorem Lv (a b:ByteArray):ev P (binOp .eql t (.string a) (.string b))=some (.bool (decide (a=b))):=by
 rw [← str_eq];rfl
theorem Ns (a b:ByteArray):ev P (binOp .neq t (.string a) (.string b))=some (.bool (!decide (a=b))):=by
 rw [← str_eq];rfl
end
def Ip (u:Option TypeDesc):Bool:=match u with|some (.slice _)=>true|_=>false
theorem acx (e):Ip (some (.slice e))=true:=id rfl
theorem aa7 {u} (h:Ip u=true):∃ e,u=some (.slice e):=by
 unfold Ip at h;split at h
 ·exact ⟨_,rfl⟩
 ·cases h
theorem ab4 {P:Program} {t op x y} (h:Ip (P.underlying t)=true):Il P t op x y=Hz op x y:=by
 obtain ⟨e,he⟩:=aa7 h
 unfold Il;rw [he]
theorem L6 (P:Program) (ρ o op t l sz es b):lr P ρ o op t (.vl l sz es) b=Il P t op (.vl l sz es) b:=id rfl
theorem ach (b):l0 .eql b=M.pure (.sc (.bool b)):=id rfl
theorem Cj (P:Program) (ρ:Operand→AV) (d ty pos af gd) (t u:TypeId) (x y:Operand) (op:BinOp) (a b:Option Addr) (n c m k:Nat) (hx : ρ x = .sc (.slice a n c)) (hy : ρ y = .sc (.slice b m k)) :
 lr P ρ ⟨d,.binOp op t x y u,ty,pos,af,gd⟩ op t (.sc (.slice a n c)) (.sc (.slice b m k))=M.of ((ev P (binOp op t (.slice a n c) (.slice b m k))).map .sc):=by
 have h1:∀ s:Sem Value,ev P (do pure (Next.value (← s)))=(ev P s).map Next.value:=by
  intro s
  induction s with
  |pure b=>rfl
  |program k ih=>exact ih P
  |choose q k ih=>
   simp only [bind,Sem.bind,ev]
   split
   ·exact ih 0
   ·rfl
  |mark m k ih=>exact ih
  |_=>rfl
 have h2:execOp (fun z=>((ρ z).fi).getD undef) ⟨d,.binOp op t x y u,ty,pos,af,gd⟩=(do pure (Next.value (← (do eqGuard op t x y (.slice a n c) (.slice b m k);binOp op t (.slice a n c) (.slice b m k))))):=by
  simp only [execOp,hx,hy,AV.fi,Option.getD_some]
 have h3:ev P (do eqGuard op t x y (.slice a n c) (.slice b m k);binOp op t (.slice a n c) (.slice b m k))=ev P (binOp op t (.slice a n c) (.slice b m k)):=by
  cases op<;>rfl
 unfold lr n7
 simp only [AV.fi,Option.isSome_some,Bool.and_self,cond_true]
 rw [h2,h1,h3]
 cases ev P (binOp op t (.slice a n c) (.slice b m k))<;>rfl
theorem Ts {P:Program} {t:TypeId} {a:Option Addr} {n c m k:Nat} (d:Nat) (h:Ip (P.underlying t)=true):ev P (Op.equalIn (d+1) t (.slice a n c) (.slice none m k))=some a.isNone:=by
 obtain ⟨e,he⟩:=aa7 h
 simp only [Op.equalIn]
 rw [rj,Uc P t he]
 cases a<;>rfl
theorem Hh {P:Program} {t:TypeId} {a:Option Addr} {n c m k:Nat} (h:Ip (P.underlying t)=true):ev P (binOp .eql t (.slice a n c) (.slice none m k))=some (.bool a.isNone):=by
 show ev P (do pure (Value.bool (← Op.equalIn (9999+1) t (.slice a n c) (.slice none m k))))=_
 rw [rj,Ts 9999 h]
 rfl
end
end Go.Vm
section
set_option maxRecDepth 4000
namespace Go.Vm
theorem wR:type_of% @acm∧type_of% @Sd∧type_of% @ahw∧type_of% @ac1∧type_of% @Xb∧type_of% @abt∧type_of% @ack∧type_of% @ag9∧type_of% @aib∧type_of% @ajt∧type_of% @ahe∧type_of% @ag6∧type_of% @ajx∧type_of% @ah9∧type_of% @ab8∧type_of% @abi∧type_of% @acj∧type_of% @aik∧type_of% @aim∧type_of% @Qw∧type_of% @W8∧type_of% @Qe∧type_of% @Nt∧type_of% @Nv∧type_of% @Xi∧type_of% @V4∧type_of% @Yk∧type_of% @acu∧type_of% @Us∧type_of% @X4∧type_of% @Sz∧type_of% @W0∧type_of% @Qy∧type_of% @Rv∧type_of% @Yu∧type_of% @Qi∧type_of% @Q6∧type_of% @ahi∧type_of% @C7∧type_of% @C4∧type_of% @V1∧type_of% @Xm∧type_of% @Ni∧type_of% @abn∧type_of% @Wd∧type_of% @Q5∧type_of% @Yt∧type_of% @abm∧type_of% @af9∧type_of% @agm∧type_of% @ahq∧type_of% @aje∧type_of% @ail∧type_of% @ah8∧type_of% @aci∧type_of% @aa2∧type_of% @acf∧type_of% @acr∧type_of% @ab5∧type_of% @X7∧type_of% @Ri∧type_of% @L9∧type_of% @abq∧type_of% @ab1∧type_of% @ahf∧type_of% @aih∧type_of% @Um∧type_of% @Yq∧type_of% @abe∧type_of% @Jo∧type_of% @Hf:=
 ⟨@acm,@Sd,@ahw,@ac1,@Xb,@abt,@ack,@ag9,@aib,@ajt,@ahe,@ag6,@ajx,@ah9,@ab8,@abi,@acj,@aik,@aim,@Qw,@W8,@Qe,@Nt,@Nv,@Xi,@V4,@Yk,@acu,@Us,@X4,@Sz,@W0,@Qy,@Rv,@Yu,@Qi,@Q6,@ahi,@C7,@C4,@V1,@Xm,@Ni,@abn,@Wd,@Q5,@Yt,@abm,@af9,@agm,@ahq,@aje,@ail,@ah8,@aci,@aa2,@acf,@acr,@ab5,@X7,@Ri,@L9,@abq,@ab1,@ahf,@aih,@Um,@Yq,@abe,@Jo,@Hf⟩
theorem R0:type_of% @Vd∧type_of% @aid∧type_of% @nc0∧type_of% @nc1∧type_of% @Int.sub_zero∧type_of% @Int.sub_self∧type_of% @Int.add_zero∧type_of% @Ol∧type_of% @ai9∧type_of% @Qj∧type_of% @Uy∧type_of% @acw∧type_of% @Jr∧type_of% @List.length_replicate.{0}∧type_of% @Qf∧type_of% @Ra∧type_of% @aiq∧type_of% @Bc∧type_of% @Kc∧type_of% @Ho∧type_of% @Wl∧type_of% @Xp∧type_of% @Oq∧type_of% @E3∧type_of% @Vf∧type_of% @ab0∧type_of% @af4∧type_of% @K6∧type_of% @Bi∧type_of% @Kz∧type_of% @ahd∧type_of% @acp∧type_of% @Jk∧type_of% @L8∧type_of% @Jn∧type_of% @Hl∧type_of% @Qo∧type_of% @Mp∧type_of% @Nk∧type_of% @List.length_append.{0}∧type_of% @rtT∧type_of% @rtF∧type_of% @Go.Vm.zg.eq_1∧type_of% @Go.Vm.bounds.eq_1∧type_of% @Go.Vm.Au.eq_1∧type_of% @Go.Vm.Au.eq_2:=
 ⟨@Vd,@aid,@nc0,@nc1,@Int.sub_zero,@Int.sub_self,@Int.add_zero,@Ol,@ai9,@Qj,@Uy,@acw,@Jr,@List.length_replicate.{0},@Qf,@Ra,@aiq,@Bc,@Kc,@Ho,@Wl,@Xp,@Oq,@E3,@Vf,@ab0,@af4,@K6,@Bi,@Kz,@ahd,@acp,@Jk,@L8,@Jn,@Hl,@Qo,@Mp,@Nk,@List.length_append.{0},@rtT,@rtF,@Go.Vm.zg.eq_1,@Go.Vm.bounds.eq_1,@Go.Vm.Au.eq_1,@Go.Vm.Au.eq_2⟩
theorem R1:type_of% @Go.Vm.wa.eq_1∧type_of% @Go.Vm.zf.eq_def∧type_of% @Cq∧type_of% @E8∧type_of% @Ki∧type_of% @sv∧type_of% @Nr∧type_of% @Nat.div_one∧type_of% @Mj∧type_of% @N7∧type_of% @ahb∧type_of% @I3∧type_of% @N5∧type_of% @I4∧type_of% @al0∧type_of% @abj∧type_of% @ab6∧type_of% @amo∧type_of% @al4∧type_of% @abu∧type_of% @Sx∧type_of% @Vv∧type_of% @S1∧type_of% @Bw∧type_of% @D7∧type_of% @B6∧type_of% @Ot∧type_of% @Rj∧type_of% @Mv∧type_of% @Oa∧type_of% @Qk∧type_of% @Oo:=
 ⟨@Go.Vm.wa.eq_1,@Go.Vm.zf.eq_def,@Cq,@E8,@Ki,@sv,@Nr,@Nat.div_one,@Mj,@N7,@ahb,@I3,@N5,@I4,@al0,@abj,@ab6,@amo,@al4,@abu,@Sx,@Vv,@S1,@Bw,@D7,@B6,@Ot,@Rj,@Mv,@Oa,@Qk,@Oo⟩
theorem R2:type_of% @acx∧type_of% @ab4∧type_of% @L6∧type_of% @ach∧type_of% @Cj∧type_of% @Hh∧type_of% @Option.isNone_none.{0}∧type_of% @Option.isNone_some.{0}∧type_of% @ac5∧type_of% @I2∧type_of% @Ey∧type_of% @Gx∧type_of% @Ke∧type_of% @Hb∧type_of% @Sq∧type_of% @Uv∧type_of% @Rb∧type_of% @F3∧type_of% @E7∧type_of% @F8∧type_of% @Es∧type_of% @Cm∧type_of% @Ud∧type_of% @An∧type_of% @List.isEmpty_cons.{0}∧type_of% @List.isEmpty_nil.{0}∧type_of% @List.flatMap_nil.{0,0}∧type_of% @I8∧type_of% @I5∧type_of% @Kf∧type_of% @Kh∧type_of% @and_true∧type_of% @true_and∧type_of% @J2∧type_of% @J1∧type_of% @Q9∧type_of% @aa9∧type_of% @aja∧type_of% @and_self:=
 ⟨@acx,@ab4,@L6,@ach,@Cj,@Hh,@Option.isNone_none.{0},@Option.isNone_some.{0},@ac5,@I2,@Ey,@Gx,@Ke,@Hb,@Sq,@Uv,@Rb,@F3,@E7,@F8,@Es,@Cm,@Ud,@An,@List.isEmpty_cons.{0},@List.isEmpty_nil.{0},@List.flatMap_nil.{0,0},@I8,@I5,@Kf,@Kh,@and_true,@true_and,@J2,@J1,@Q9,@aa9,@aja,@and_self⟩
theorem R3:type_of% @List.size_toArray.{0}∧type_of% @Qt∧type_of% @So∧type_of% @U2∧type_of% @V7∧type_of% @Sf∧type_of% @Uh∧type_of% @Nh∧type_of% @Ya∧type_of% @Fa∧type_of% @Re∧type_of% @Wm∧type_of% @Sk∧type_of% @Eu∧type_of% @Rg∧type_of% @Qz∧type_of% @Dh∧type_of% @Kj∧type_of% @Rs∧type_of% @abk∧type_of% @Nc∧type_of% @Vn∧type_of% @S0∧type_of% @Mc∧type_of% @Vj∧type_of% @S2∧type_of% @Rr∧type_of% @Mf∧type_of% @Nb∧type_of% @Jx∧type_of% @aml∧type_of% @Ys∧type_of% @Q0∧type_of% @Jz∧type_of% @Ft∧type_of% @Lv∧type_of% @Ns∧type_of% @s6∧type_of% @Go.Vm.cellsIn.eq_1∧type_of% @Go.Vm.cellsIn.eq_2∧type_of% @Go.Vm.cellsIn.eq_5∧type_of% @Go.Vm.cellsIn.eq_6∧type_of% @Go.Vm.zx.eq_1:=
 ⟨@List.size_toArray.{0},@Qt,@So,@U2,@V7,@Sf,@Uh,@Nh,@Ya,@Fa,@Re,@Wm,@Sk,@Eu,@Rg,@Qz,@Dh,@Kj,@Rs,@abk,@Nc,@Vn,@S0,@Mc,@Vj,@S2,@Rr,@Mf,@Nb,@Jx,@aml,@Ys,@Q0,@Jz,@Ft,@Lv,@Ns,@s6,@Go.Vm.cellsIn.eq_1,@Go.Vm.cellsIn.eq_2,@Go.Vm.cellsIn.eq_5,@Go.Vm.cellsIn.eq_6,@Go.Vm.zx.eq_1⟩
theorem R4:type_of% @Go.Vm.Ed.eq_1∧type_of% @zt∧type_of% @Fu∧type_of% @Hk∧type_of% @F5∧type_of% @Fc∧type_of% @A6∧type_of% @A7∧type_of% @G9∧type_of% @C1∧type_of% @Fx∧type_of% @Et∧type_of% @ym∧type_of% @Fk∧type_of% @I7∧type_of% @G4∧type_of% @Sj∧type_of% @yz∧type_of% @Ly∧type_of% @Jj∧type_of% @Yn∧type_of% @qb∧type_of% @abv∧type_of% @agh∧type_of% @af0∧type_of% @N9∧type_of% @Mt∧type_of% @Bj∧type_of% @Rl∧type_of% @M2:=
 ⟨@Go.Vm.Ed.eq_1,@zt,@Fu,@Hk,@F5,@Fc,@A6,@A7,@G9,@C1,@Fx,@Et,@ym,@Fk,@I7,@G4,@Sj,@yz,@Ly,@Jj,@Yn,@qb,@abv,@agh,@af0,@N9,@Mt,@Bj,@Rl,@M2⟩
theorem R5:type_of% @Go.Vm.pa.eq_1∧type_of% @List.flatten_cons.{0}∧type_of% @List.flatten_nil.{0}∧type_of% @List.replicate_succ.{0}∧type_of% @List.replicate_zero.{0}∧type_of% @Sn∧type_of% @Su∧type_of% @agp∧type_of% @ab7∧type_of% @amt∧type_of% @amb∧type_of% @amj∧type_of% @Di∧type_of% @zv∧type_of% @Ec∧type_of% @vi∧type_of% @Js∧type_of% @Dx∧type_of% @B9∧type_of% @Fg∧type_of% @u0∧type_of% @J8∧type_of% @Ru∧type_of% @Bx∧type_of% @tl∧type_of% @Cp∧type_of% @yf∧type_of% @Jf∧type_of% @Kb∧type_of% @Gu∧type_of% @Ao∧type_of% @Nj∧type_of% @F7∧type_of% @E5∧type_of% @af6∧type_of% @ag2∧type_of% @Jq∧type_of% @Go.IntKind.bits.eq_6∧type_of% @Go.IntKind.bits.eq_8∧type_of% @Nat.min_def∧type_of% @amd∧type_of% @amv:=
 ⟨@Go.Vm.pa.eq_1,@List.flatten_cons.{0},@List.flatten_nil.{0},@List.replicate_succ.{0},@List.replicate_zero.{0},@Sn,@Su,@agp,@ab7,@amt,@amb,@amj,@Di,@zv,@Ec,@vi,@Js,@Dx,@B9,@Fg,@u0,@J8,@Ru,@Bx,@tl,@Cp,@yf,@Jf,@Kb,@Gu,@Ao,@Nj,@F7,@E5,@af6,@ag2,@Jq,@Go.IntKind.bits.eq_6,@Go.IntKind.bits.eq_8,@Nat.min_def,@amd,@amv⟩
theorem R6:type_of% @amp∧type_of% @amy∧type_of% @al3∧type_of% @amf∧type_of% @al6∧type_of% @ama∧type_of% @amq∧type_of% @amr∧type_of% @Ui∧type_of% @Wn∧type_of% @ak2∧type_of% @aqy∧type_of% @aew∧type_of% @Go.Vm.Ek.eq_1∧type_of% @Go.Vm.vo.eq_1∧type_of% @Go.Vm.sk.eq_def∧type_of% @Go.Vm.vt.eq_1∧type_of% @Go.Vm.Ag.eq_1∧type_of% @Go.Vm.ud.eq_1∧type_of% @Go.Vm.AV.known.eq_2∧type_of% @Go.Value.oneCell'.eq_3∧type_of% @Go.Vm.AV.cells.eq_1∧type_of% @Go.Vm.AV.cells.eq_2∧type_of% @Go.Vm.AV.cells.eq_3∧type_of% @Go.Value.cells.eq_1∧type_of% @Go.Value.cells.eq_2∧type_of% @Go.Vm.AV.one.eq_4∧type_of% @Go.Vm.AV.one.eq_5∧type_of% @Go.Vm.nq.eq_1∧type_of% @Go.Vm.ng.eq_1∧type_of% @Go.Vm.ng.eq_2∧type_of% @Go.Vm.Cl.eq_1∧type_of% @Go.Vm.mf.eq_1∧type_of% @Go.Vm.qg.eq_2∧type_of% @Go.Vm.qg.eq_6∧type_of% @Go.Vm.ic.eq_1:=
 ⟨@amp,@amy,@al3,@amf,@al6,@ama,@amq,@amr,@Ui,@Wn,@ak2,@aqy,@aew,@Go.Vm.Ek.eq_1,@Go.Vm.vo.eq_1,@Go.Vm.sk.eq_def,@Go.Vm.vt.eq_1,@Go.Vm.Ag.eq_1,@Go.Vm.ud.eq_1,@Go.Vm.AV.known.eq_2,@Go.Value.oneCell'.eq_3,@Go.Vm.AV.cells.eq_1,@Go.Vm.AV.cells.eq_2,@Go.Vm.AV.cells.eq_3,@Go.Value.cells.eq_1,@Go.Value.cells.eq_2,@Go.Vm.AV.one.eq_4,@Go.Vm.AV.one.eq_5,@Go.Vm.nq.eq_1,@Go.Vm.ng.eq_1,@Go.Vm.ng.eq_2,@Go.Vm.Cl.eq_1,@Go.Vm.mf.eq_1,@Go.Vm.qg.eq_2,@Go.Vm.qg.eq_6,@Go.Vm.ic.eq_1⟩
theorem R7:type_of% @Go.Vm.ic.eq_3∧type_of% @Go.Vm.ic.eq_4∧type_of% @Go.Vm.Dk.eq_1∧type_of% @Go.Vm.Ig.eq_1∧type_of% @Go.Vm.Uu.eq_1∧type_of% @Go.Vm.ke.eq_1∧type_of% @Go.Vm.ke.eq_2∧type_of% @Go.Vm.ke.eq_3∧type_of% @Go.Vm.ke.eq_4∧type_of% @Go.Vm.ke.eq_5∧type_of% @Go.Vm.ke.eq_6∧type_of% @Go.Vm.ke.eq_7∧type_of% @Go.Vm.ke.eq_8∧type_of% @Go.Vm.ke.eq_9∧type_of% @Go.Vm.ke.eq_10∧type_of% @Go.Vm.AV.int.eq_1∧type_of% @Go.Vm.AV.bool.eq_1∧type_of% @Go.Vm.AV.exact.eq_1∧type_of% @Go.Vm.AV.exact.eq_2∧type_of% @Go.Vm.intOf.eq_1∧type_of% @Go.Vm.intOf.eq_2∧type_of% @Go.Vm.lx.eq_1∧type_of% @Go.Vm.np.eq_1∧type_of% @Go.Vm.tx.eq_1∧type_of% @Go.Vm.tx.eq_2∧type_of% @Go.Vm.sr.eq_1∧type_of% @Go.Vm.xz.eq_1∧type_of% @Go.Vm.lq.eq_1∧type_of% @Go.Vm.rq.eq_1∧type_of% @Go.Vm.nf.eq_1∧type_of% @Go.Vm.nf.eq_3∧type_of% @Go.Vm.nf.eq_9∧type_of% @Go.Vm.G1.eq_1∧type_of% @Go.Vm.Ll.eq_1∧type_of% @Go.Vm.Mw.eq_1∧type_of% @Go.Vm.isSlice.eq_3∧type_of% @Go.Vm.isSlice.eq_4∧type_of% @Go.Vm.H7.eq_1∧type_of% @Go.goInt.eq_1∧type_of% @ahp∧type_of% @af5∧type_of% @ajd:=
 ⟨@Go.Vm.ic.eq_3,@Go.Vm.ic.eq_4,@Go.Vm.Dk.eq_1,@Go.Vm.Ig.eq_1,@Go.Vm.Uu.eq_1,@Go.Vm.ke.eq_1,@Go.Vm.ke.eq_2,@Go.Vm.ke.eq_3,@Go.Vm.ke.eq_4,@Go.Vm.ke.eq_5,@Go.Vm.ke.eq_6,@Go.Vm.ke.eq_7,@Go.Vm.ke.eq_8,@Go.Vm.ke.eq_9,@Go.Vm.ke.eq_10,@Go.Vm.AV.int.eq_1,@Go.Vm.AV.bool.eq_1,@Go.Vm.AV.exact.eq_1,@Go.Vm.AV.exact.eq_2,@Go.Vm.intOf.eq_1,@Go.Vm.intOf.eq_2,@Go.Vm.lx.eq_1,@Go.Vm.np.eq_1,@Go.Vm.tx.eq_1,@Go.Vm.tx.eq_2,@Go.Vm.sr.eq_1,@Go.Vm.xz.eq_1,@Go.Vm.lq.eq_1,@Go.Vm.rq.eq_1,@Go.Vm.nf.eq_1,@Go.Vm.nf.eq_3,@Go.Vm.nf.eq_9,@Go.Vm.G1.eq_1,@Go.Vm.Ll.eq_1,@Go.Vm.Mw.eq_1,@Go.Vm.isSlice.eq_3,@Go.Vm.isSlice.eq_4,@Go.Vm.H7.eq_1,@Go.goInt.eq_1,@ahp,@af5,@ajd⟩
theorem R8:type_of% @Go.Vm.pack.eq_1∧type_of% @Go.Vm.pack.eq_2∧type_of% @Go.Vm.cf.eq_1∧type_of% @Go.Vm.cf.eq_2∧type_of% @Go.Vm.bk.eq_1∧type_of% @Go.Vm.kb.eq_1∧type_of% @Go.Vm.kb.eq_2∧type_of% @Go.Vm.sf.eq_1∧type_of% @kx∧type_of% @H5∧type_of% @Q3∧type_of% @Zc∧type_of% @G3∧type_of% @Hw∧type_of% @xk∧type_of% @Mq∧type_of% @Nl∧type_of% @Nm∧type_of% @Jv∧type_of% @Lo∧type_of% @Go.Vm.i4.eq_1∧type_of% @Go.Vm.fc.eq_1∧type_of% @Go.Vm.fl.eq_1∧type_of% @Go.Vm.ku.eq_1∧type_of% @Go.Vm.ku.eq_2∧type_of% @Go.Vm.reach.eq_2∧type_of% @Go.Vm.reach.eq_3∧type_of% @Go.Vm.ec.eq_1∧type_of% @Go.Vm.di.eq_1∧type_of% @Go.Vm.di.eq_2∧type_of% @Go.Vm.AV.names.eq_1∧type_of% @Go.Vm.AV.names.eq_2∧type_of% @Go.Vm.AV.names.eq_3∧type_of% @Go.Vm.AV.names.eq_4∧type_of% @Go.Vm.AV.names.eq_5∧type_of% @Go.Vm.AV.names.eq_9∧type_of% @Go.Vm.AV.names.go.eq_1∧type_of% @Go.Vm.AV.names.go.eq_2∧type_of% @Go.Vm.ba.names.eq_1∧type_of% @Go.Vm.AV.db.eq_2∧type_of% @Go.Vm.AV.db.eq_3∧type_of% @Go.Vm.AV.db.eq_4∧type_of% @Go.Vm.AV.db.eq_5∧type_of% @Go.Vm.AV.db.eq_7∧type_of% @Go.Vm.AV.db.eq_11:=
 ⟨@Go.Vm.pack.eq_1,@Go.Vm.pack.eq_2,@Go.Vm.cf.eq_1,@Go.Vm.cf.eq_2,@Go.Vm.bk.eq_1,@Go.Vm.kb.eq_1,@Go.Vm.kb.eq_2,@Go.Vm.sf.eq_1,@kx,@H5,@Q3,@Zc,@G3,@Hw,@xk,@Mq,@Nl,@Nm,@Jv,@Lo,@Go.Vm.i4.eq_1,@Go.Vm.fc.eq_1,@Go.Vm.fl.eq_1,@Go.Vm.ku.eq_1,@Go.Vm.ku.eq_2,@Go.Vm.reach.eq_2,@Go.Vm.reach.eq_3,@Go.Vm.ec.eq_1,@Go.Vm.di.eq_1,@Go.Vm.di.eq_2,@Go.Vm.AV.names.eq_1,@Go.Vm.AV.names.eq_2,@Go.Vm.AV.names.eq_3,@Go.Vm.AV.names.eq_4,@Go.Vm.AV.names.eq_5,@Go.Vm.AV.names.eq_9,@Go.Vm.AV.names.go.eq_1,@Go.Vm.AV.names.go.eq_2,@Go.Vm.ba.names.eq_1,@Go.Vm.AV.db.eq_2,@Go.Vm.AV.db.eq_3,@Go.Vm.AV.db.eq_4,@Go.Vm.AV.db.eq_5,@Go.Vm.AV.db.eq_7,@Go.Vm.AV.db.eq_11⟩
theorem R9:type_of% @Go.Vm.ba.db.eq_1∧type_of% @Kx∧type_of% @abw∧type_of% @Go.Vm.ig.eq_1∧type_of% @Go.Vm.ig.eq_2∧type_of% @Go.Vm.j5.eq_2∧type_of% @ja∧type_of% @Option.bind_some.{0,0}∧type_of% @Option.bind_none.{0,0}∧type_of% @Option.map_some.{0,0}∧type_of% @Option.getD_some.{0}∧type_of% @Option.getD_none.{0}∧type_of% @Option.isSome_some.{0}∧type_of% @List.getElem?_cons_zero.{0}∧type_of% @List.getElem?_toArray.{0}∧type_of% @Go.Vm.c8.eq_1∧type_of% @List.drop_zero.{0}∧type_of% @List.drop_succ_cons.{0}∧type_of% @List.drop_nil.{0}∧type_of% @List.take_succ_cons.{0}∧type_of% @List.take_zero.{0}∧type_of% @List.length_cons.{0}∧type_of% @List.length_nil.{0}∧type_of% @List.length_map.{0,0}∧type_of% @List.getElem?_cons_succ.{0}∧type_of% @List.getElem?_map.{0,0}∧type_of% @List.getElem?_drop.{0}∧type_of% @List.map_cons.{0,0}∧type_of% @List.map_nil.{0,0}∧type_of% @List.nil_append.{0}∧type_of% @List.cons_append.{0}∧type_of% @List.append_nil.{0}∧type_of% @List.all_cons.{0}∧type_of% @List.all_nil.{0}∧type_of% @cond_true.{1}∧type_of% @cond_false.{1}∧type_of% @decide_true∧type_of% @decide_false∧type_of% @Bool.and_true∧type_of% @Bool.true_and∧type_of% @Bool.and_self∧type_of% @Bool.not_true∧type_of% @Bool.not_false∧type_of% @BEq.rfl.{0}∧type_of% @Nat.zero_le∧type_of% @Nat.le_refl∧type_of% @Nat.add_zero∧type_of% @Nat.zero_add∧type_of% @Nat.mul_one∧type_of% @Int.toNat_natCast∧type_of% @Int.natCast_nonneg:=
 ⟨@Go.Vm.ba.db.eq_1,@Kx,@abw,@Go.Vm.ig.eq_1,@Go.Vm.ig.eq_2,@Go.Vm.j5.eq_2,@ja,@Option.bind_some.{0,0},@Option.bind_none.{0,0},@Option.map_some.{0,0},@Option.getD_some.{0},@Option.getD_none.{0},@Option.isSome_some.{0},@List.getElem?_cons_zero.{0},@List.getElem?_toArray.{0},@Go.Vm.c8.eq_1,@List.drop_zero.{0},@List.drop_succ_cons.{0},@List.drop_nil.{0},@List.take_succ_cons.{0},@List.take_zero.{0},@List.length_cons.{0},@List.length_nil.{0},@List.length_map.{0,0},@List.getElem?_cons_succ.{0},@List.getElem?_map.{0,0},@List.getElem?_drop.{0},@List.map_cons.{0,0},@List.map_nil.{0,0},@List.nil_append.{0},@List.cons_append.{0},@List.append_nil.{0},@List.all_cons.{0},@List.all_nil.{0},@cond_true.{1},@cond_false.{1},@decide_true,@decide_false,@Bool.and_true,@Bool.true_and,@Bool.and_self,@Bool.not_true,@Bool.not_false,@BEq.rfl.{0},@Nat.zero_le,@Nat.le_refl,@Nat.add_zero,@Nat.zero_add,@Nat.mul_one,@Int.toNat_natCast,@Int.natCast_nonneg⟩
theorem R10:type_of% @Nat.sub_self∧type_of% @List.contains_nil.{0}∧type_of% @List.contains_cons.{0}∧type_of% @Bool.or_false∧type_of% @Bool.false_or∧type_of% @Bool.or_true∧type_of% @Bool.true_or∧type_of% @List.map_map.{0,0,0}∧type_of% @Vz∧type_of% @H3∧type_of% @Fl∧type_of% @Ga∧type_of% @Rw∧type_of% @Gv∧type_of% @Nq∧type_of% @J9∧type_of% @Om∧type_of% @ap3∧type_of% @aq9∧type_of% @aph∧type_of% @apg∧type_of% @ard∧type_of% @arj∧type_of% @Za∧type_of% @Yf∧type_of% @Sc∧type_of% @Mh∧type_of% @Vk∧type_of% @Go.Vm.AV.fresh.eq_1∧type_of% @Go.Vm.AV.fresh.eq_4∧type_of% @List.map_append.{0,0}:=
 ⟨@Nat.sub_self,@List.contains_nil.{0},@List.contains_cons.{0},@Bool.or_false,@Bool.false_or,@Bool.or_true,@Bool.true_or,@List.map_map.{0,0,0},@Vz,@H3,@Fl,@Ga,@Rw,@Gv,@Nq,@J9,@Om,@ap3,@aq9,@aph,@apg,@ard,@arj,@Za,@Yf,@Sc,@Mh,@Vk,@Go.Vm.AV.fresh.eq_1,@Go.Vm.AV.fresh.eq_4,@List.map_append.{0,0}⟩
theorem RA:type_of% R0∧type_of% R1∧type_of% R2∧type_of% R3∧type_of% R4∧type_of% R5∧type_of% R6∧type_of% R7∧type_of% R8∧type_of% R9∧type_of% R10:=
 ⟨R0,R1,R2,R3,R4,R5,R6,R7,R8,R9,R10⟩
theorem FB:type_of% @List.cons.injEq.{0}∧type_of% @Sm∧type_of% @Qp∧type_of% @List.length_append.{0}∧type_of% @List.length_cons.{0}∧type_of% @List.length_nil.{0}∧type_of% @List.map_append.{0,0}∧type_of% @List.map_cons.{0,0}∧type_of% @List.map_nil.{0,0}∧type_of% @and_true∧type_of% @true_and∧type_of% @and_self∧type_of% @AV.sc.injEq∧type_of% @AV.sl.injEq∧type_of% @ba.row.injEq∧type_of% @Option.some.injEq.{0}∧type_of% @Value.int.injEq∧type_of% @Nat.zero_add:=
 ⟨@List.cons.injEq.{0},@Sm,@Qp,@List.length_append.{0},@List.length_cons.{0},@List.length_nil.{0},@List.map_append.{0,0},@List.map_cons.{0,0},@List.map_nil.{0,0},@and_true,@true_and,@and_self,@AV.sc.injEq,@AV.sl.injEq,@ba.row.injEq,@Option.some.injEq.{0},@Value.int.injEq,@Nat.zero_add⟩
end Go.Vm
end
section
namespace Go.Vm
variable [TK]
noncomputable section
open Go.ChangeShapes Go.WideShapes Go.ChangeAt
mutual
def jr {H:Type}:DataW H→Nat
 |.lit (.string bytes)=>bytes.length+1
 |.lit _=>1
 |.nil=>1
 |.ptr d=>jr d+1
 |.slice elems spare=>ka elems+ka spare+1
 |.agg parts=>ka parts+1
 |.iface _ d=>jr d+1
 |.map entries=>Od entries+1
 |.held _=>1
def ka {H:Type}:List (DataW H)→Nat
 | []=>0
 |d::r=>jr d+ka r
def Od {H:Type}:List (Lit × DataW H)→Nat
 | []=>0
 |x::r=>aet x+Od r
def aet {H:Type}:Lit × DataW H→Nat
 |(.string bytes,d)=>bytes.length+jr d+1
 |(_,d)=>jr d+1
end
def Y4 (W:World):Nat→Nat→Prop:=fun b _=>b<W.heap.size
def Rd (P:Program) (t:TypeId) {α:Type} (C:cw α) (μ : α→Nat):Prop:=
 ∀ {H:Type} (enc:TypeId × Value→H) (W:World) (b0 fuel:Nat) (cs:List Value) (x:DataW H × List MemPlace),DataW.trod enc P W 0 (fun _=>true) true fuel t cs=some x →
  ∃ y,bg (gK b0 (Y4 W)) W (C.cells false y) cs ∧ μ y≤jr x.1
theorem ars {P:Program} {t:TypeId} (ht:P.underlying t=some (.int .u8)):Rd P t ay (fun _=>1):=by
 intro H enc W b0 fuel cs x h
 obtain ⟨n,rfl,rfl,hw⟩:=DataW.trod_int ht h
 have hx : 0≤n∧n≤255:=by simpa [Lit.wf,IntKind.min,IntKind.max,IntKind.signed,IntKind.bits] using hw
 refine ⟨UInt8.ofNat n.toNat,?_,by simp [jr]⟩
 have:n=((UInt8.ofNat n.toNat).toNat:Int):=by rw [UInt8.toNat_ofNat'];omega
 exact bg.one (by (conv=>rhs;rw [this]);exact .sc _)
theorem ahj {P:Program} {t:TypeId} (ht:P.underlying t=some (.int .u16)):Rd P t bj (fun _=>1):=by
 intro H enc W b0 fuel cs x h
 obtain ⟨n,rfl,rfl,hw⟩:=DataW.trod_int ht h
 have hx : 0≤n∧n≤65535:=by simpa [Lit.wf,IntKind.min,IntKind.max,IntKind.signed,IntKind.bits] using hw
 refine ⟨UInt16.ofNat n.toNat,?_,by simp [jr]⟩
 have:n=((UInt16.ofNat n.toNat).toNat:Int):=by rw [UInt16.toNat_ofNat'];omega
 exact bg.one (by (conv=>rhs;rw [this]);exact .sc _)
theorem afz {P:Program} {t:TypeId} (ht:P.underlying t=some (.int .u32)):Rd P t br (fun _=>1):=by
 intro H enc W b0 fuel cs x h
 obtain ⟨n,rfl,rfl,hw⟩:=DataW.trod_int ht h
 have hx : 0≤n∧n≤4294967295:=Go.bounds_u32 hw
 refine ⟨UInt32.ofNat n.toNat,?_,by simp [jr]⟩
 have:n=((UInt32.ofNat n.toNat).toNat:Int):=by rw [UInt32.toNat_ofNat'];omega
 exact bg.one (by (conv=>rhs;rw [this]);exact .sc _)
theorem apr {P:Program} {t:TypeId} (ht:P.underlying t=some .string):Rd P t aq (fun s=>s.size+1):=by
 intro H enc W b0 fuel cs x h
 obtain ⟨s,rfl,rfl,_⟩:=DataW.trod_string ht h
 refine ⟨s,bg.one (.sc _),?_⟩
 show s.size+1≤jr (DataW.lit (Lit.string s.data.toList))
 rw [jr,Array.length_toList]
 exact Nat.le_refl _
theorem aoi (ao k s v j:Nat) (h3:v=k * s) (hge:v≤j):ao+k * s+(j - v)=ao+j:=by rw [← h3];omega
def oj {α:Type} (μ : α→Nat):List α→Nat
 | []=>0
 |x::r=>μ x+oj μ r
theorem Jl {α:Type} (μ : α→Nat):∀ a b:List α,oj μ (a++b)=oj μ a+oj μ b
 | [],b=>by simp [oj]
 |x::a,b=>by simp [oj,Jl μ a b];omega
theorem G6 {H:Type}:∀ a b:List (DataW H),ka (a++b)=ka a+ka b
 | [],b=>by simp [ka]
 |x::a,b=>by simp [ka,G6 a b];omega
theorem aot {P:Program} {t e:TypeId} {α:Type} {C:cw α} {μ : α→Nat} (ht:P.underlying t=some (.slice e)) (hsz:P.cellsOf e=C.sz) (hpos : 0<C.sz) (he:Rd P e C μ):Rd P t (bh C) (fun l=>oj μ l+1):=by
 intro H enc W b0 fuel cs x h
 rcases Go.Deep.open_slice ht h with ⟨rfl,rfl⟩|⟨a,len,cap,m,n,D,Pl,rfl,_,hl,hm,hmm,rfl,hx⟩
 ·exact ⟨[],bg.one (.iu _ _),by simp [oj,jr]⟩
 ·simp only [if_true] at hmm
  subst hmm
  have spot : 0<m→a.spot=none∧a.block<W.heap.size:=by
   intro h0
   obtain ⟨cs',h1,_⟩:=hx 0 h0
   rw [hsz] at h1
   simp only [World.cells?,Nat.zero_le,if_true] at h1
   have h2:=mapM_some_get h1 0 0 (by simp [hpos])
   have hlen:=mapM_some_length h1
   have h3:∃ v,cs'[0]? = some v:=⟨cs'[0]'(by rw [hlen];simpa using hpos),by simp⟩
   obtain ⟨v,hv⟩:=h3
   rw [hv] at h2
   simp only [Nat.zero_mul,Addr.add,if_true] at h2
   simp only [World.cell?] at h2
   split at h2
   ·rename_i c _ _ hb
    cases hs:a.spot with
    |none=>exact ⟨rfl,be hb⟩
    |some s=>simp [hs] at h2
   ·cases h2
  have build:∀ k,k≤len→∃ (xs:List α) (vs:List Value),xs.length=k∧bg (gK b0 (Y4 W)) W (xs.flatMap (C.cells false)) vs∧vs.length=k * C.sz∧(∀ j v,vs[j]? = some v→W.cell? ⟨a.block,a.off+j,none⟩=some v) ∧
   oj μ xs≤ka ((List.range k).map D):=by
   intro k
   induction k with
   |zero=>intro _;exact ⟨[],[],rfl,bg.nil _ _,by simp,(fun j v hj=>by simp at hj),by simp [oj,ka]⟩
   |succ k ih=>
    intro hk
    obtain ⟨xs,vs,h1,h2,h3,h4,h5⟩:=ih (by omega)
    obtain ⟨cs',h6,h7⟩:=hx k (by omega)
    obtain ⟨y,h8,h9⟩:=he enc W b0 n cs' _ h7
    rw [hsz] at h6
    simp only [World.cells?,Nat.zero_le,if_true] at h6
    have hlen:=mapM_some_length h6
    simp only [List.length_range] at hlen
    refine ⟨xs++[y],vs++cs',by simp [h1],?_,by simp [h3,hlen,Nat.succ_mul],fun j v hj=>?_,?_⟩
    ·rw [List.flatMap_append];exact h2.append (by simpa using h8)
    ·by_cases hj1:j<vs.length
     ·rw [List.getElem?_append_left hj1] at hj;exact h4 j v hj
     ·rw [List.getElem?_append_right (by omega)] at hj
      have hj2:=(List.getElem?_eq_some_iff.1 hj).1
      have h10:=mapM_some_get h6 (j - vs.length) (j - vs.length) (List.getElem?_range (by rw [← hlen];exact hj2))
      rw [hj] at h10
      have hs:=(spot (by omega)).1
      have e:(a.add (k * C.sz)).add (j - vs.length)=⟨a.block,a.off+j,none⟩:=by
       obtain ⟨ab,ao,azs⟩:=a
       simp only at hs
       subst hs
       rw [Addr.kq,Addr.kq]
       have hge:vs.length≤j:=Nat.le_of_not_lt hj1
       rw [aoi ao k C.sz vs.length j h3 hge]
      rw [e] at h10
      exact h10
    ·rw [Jl,List.range_succ,List.map_append,G6]
     simp only [oj,List.map_cons,List.map_nil,ka]
     have : μ y≤jr (D k):=h9
     omega
  obtain ⟨xs,vs,h1,h2,h3,h4,h5⟩:=build len (Nat.le_refl _)
  refine ⟨xs,bg.one ?_,by
   simp only [jr]
   have:oj μ xs≤ka ((List.range len).map D):=h5
   omega⟩
  by_cases h0 : 0<m
  ·obtain ⟨hs,hb⟩:=spot h0
   obtain ⟨ab,ao,azs⟩:=a
   simp only at hs hb h4
   subst hs
   rw [← h1]
   refine ae8 C h2 (by omega) (fun e=>by cases e) (fun j v hj=>⟨hb,h4 j v hj⟩) (fun e=>by cases e)
  ·have hl0:len=0:=by omega
   have hm0:m=0:=by omega
   subst hl0 hm0
   have:xs=[]:=List.eq_nil_of_length_eq_zero h1
   subst this
   exact .oq _ _ _
def Sw (P:Program) (fs:List Field) (off:Nat) {α:Type} (C:cw α) (μ : α→Nat):Prop:=
 ∀ {H:Type} (enc:TypeId × Value→H) (W:World) (b0 n:Nat) (cs:List Value) (ys:List (DataW H × List MemPlace)),ys.length=fs.length →
  (∀ (i:Nat) f,fs[i]? = some f→DataW.trod enc P W 0 (fun _=>true) true n f.type ((cs.drop f.offset).take (P.cellsOf f.type))=ys[i]?) →
  ∃ y,bg (gK b0 (Y4 W)) W (C.cells false y) ((cs.drop off).take C.sz) ∧ μ y≤ka (ys.map (·.1))
theorem ao8 {P:Program} {f:Field} {off:Nat} {α:Type} {C:cw α} {μ : α→Nat} (ho:f.offset=off) (hs:P.cellsOf f.type=C.sz) (h:Rd P f.type C μ):Sw P [f] off C μ:=by
 intro H enc W b0 n cs ys hl hf
 match ys,hl with
 | [y0],_=>
  have:=hf 0 f rfl
  obtain ⟨y,h1,h2⟩:=h enc W b0 n _ y0 this
  rw [ho,hs] at h1
  exact ⟨y,h1,by simp [ka];exact h2⟩
theorem alg {P:Program} {f:Field} {fs:List Field} {off:Nat} {α β:Type} {A:cw α} {B:cw β} {μ : α→Nat} {ν : β→Nat} (ho:f.offset=off) (hs:P.cellsOf f.type=A.sz) (h:Rd P f.type A μ) (hr:Sw P fs (off+A.sz) B ν) :
 Sw P (f::fs) off (k6 A B) (fun p=>μ p.1 + ν p.2):=by
 intro H enc W b0 n cs ys hl hf
 match ys,hl with
 |y0::ys,hl=>
  have h0:=hf 0 f rfl
  obtain ⟨y,h1,h2⟩:=h enc W b0 n _ y0 h0
  obtain ⟨z,h3,h4⟩:=hr enc W b0 n cs ys (by simpa using hl) (fun i g hg=>by have:=hf (i+1) g (by simpa using hg);simpa using this)
  rw [ho,hs] at h1
  refine ⟨(y,z),?_,by simp [ka];omega⟩
  have:=h1.append h3
  rwa [show (cs.drop off).take A.sz++(cs.drop (off+A.sz)).take B.sz=(cs.drop off).take (A.sz+B.sz) from by
   rw [List.take_add,List.drop_drop]] at this
theorem ah0 {P:Program} {t:TypeId} {fs:Array Field} {α:Type} {C:cw α} {μ : α→Nat} (ht:P.underlying t=some (.struct fs)) (hc:P.cellsOf t=C.sz) (h:Sw P fs.toList 0 C μ):Rd P t C (fun x=>μ x+1):=by
 intro H enc W b0 fuel cs x hx
 obtain ⟨xs,n,_,rfl,hl,hlen,hf⟩:=DataW.trod_struct ht hx
 obtain ⟨y,h1,h2⟩:=h enc W b0 n cs xs (by simpa using hlen) (fun i f hi=>hf i f (by simpa using hi))
 refine ⟨y,?_,by simp [jr];exact h2⟩
 rwa [List.drop_zero,List.take_of_length_le (by omega)] at h1
theorem aqi {P:Program} {t:TypeId} {α β:Type} {C:cw α} {μ : α→Nat} {f : β → α} {i : α → β} {h1:∀ y,i (f y)=y} {h2:∀ x,f (i x)=x} (h:Rd P t C μ):Rd P t (Da C f i h1 h2) (fun y=>μ (f y)):=by
 intro H enc W b0 fuel cs x hx
 obtain ⟨y,h3,h4⟩:=h enc W b0 fuel cs x hx
 exact ⟨i y,by show bg _ _ (C.cells false (f (i y))) cs;rw [h2];exact h3,by show μ (f (i y))≤_;rw [h2];exact h4⟩
def RdA (P:Program) (ts:List TypeId) {α:Type} (A:AC α) (μ : α→Nat):Prop:=
 ∀ {H:Type} (enc:TypeId × Value→H) (W:World) (b0 b1:Nat) (vs:List Value) (ds:List (DataW H)) (ps:List MemPlace),(∀ (j:Nat) t v,ts[j]? = some t→vs[j]? = some v→Value.okWide P W .any b1 t v) →
  DataW.TrodAll enc P W 0 (fun _=>true) true ts vs ds ps→∃ y,bg (gK b0 (Y4 W)) W (A.E y) vs ∧ μ y≤ka ds
theorem anv (P:Program):RdA P [] a0 (fun _=>0):=by
 intro H enc W b0 b1 vs ds ps _ h
 obtain ⟨rfl,rfl,rfl⟩:=trodAll_nil h
 exact ⟨(),bg.nil _ _,Nat.zero_le _⟩
theorem aeh {P:Program} {W:World} {b:Nat} {t:TypeId} {v:Value} (h:lz P t=some true) (ho:Value.okWide P W .any b t v):∃ cs,v = .agg cs:=by
 unfold lz at h
 unfold Value.okWide at ho
 cases hu:P.underlying t with
 |none=>rw [hu] at h;cases h
 |some d=>
  rw [hu] at h ho
  cases d<;>simp_all<;>exact ⟨_,ho.choose_spec.1⟩
theorem La {P:Program} {t:TypeId} {ts:List TypeId} {α β:Type} {C:cw α} {R:AC β} {μ : α→Nat} {ν : β→Nat} (ha:lz P t=some C.agg) (h:Rd P t C μ) (hr:RdA P ts R ν):RdA P (t::ts) (aC C R) (fun p=>μ p.1 + ν p.2):=by
 intro H enc W b0 b1 vs ds ps hok hall
 obtain ⟨v,vs1,d,ds1,p,q,rfl,rfl,rfl,h0,h1⟩:=trodAll_cons hall
 obtain ⟨fuel,hf⟩:=h0
 obtain ⟨y,h2,h3⟩:=h enc W b0 fuel _ _ hf
 obtain ⟨z,h4,h5⟩:=hr enc W b0 b1 vs1 ds1 q (fun j t v ht hv=>hok (j+1) t v (by simpa using ht) (by simpa using hv)) h1
 have h3' : μ y≤jr d:=h3
 refine ⟨(y,z),bg.cons ?_ h4,by simp only [ka];omega⟩
 have hv:=hok 0 t v rfl rfl
 show Rel _ _ (C.val false y) v
 unfold cw.val
 cases hg:C.agg with
 |true=>
  obtain ⟨cs,rfl⟩:=aeh (by rw [ha,hg]) hv
  exact .agg _ cs (by simpa [Value.cells] using h2.1) (fun i a v ha hv=>h2.2 i a v ha (by simpa [Value.cells] using hv))
 |false=>
  obtain ⟨c,h6,h7,_⟩:=C.one hg false y
  rw [cond_false,h6]
  rw [h6] at h2
  have hcs:v.cells.toList=[v]:=by
   have hl:=h2.1
   simp only [List.length_singleton] at hl
   cases v with
   |agg cs=>
    exfalso
    unfold lz at ha
    unfold Value.okWide at hv
    cases hu:P.underlying t with
    |none=>rw [hu] at ha;cases ha
    |some d=>
     rw [hu] at ha hv
     have hcell:Cell.okWide P W .any b1 t (.agg cs):=by
      cases d<;>simp_all
     rw [hg] at ha
     unfold Cell.okWide Cell.ok at hcell
     rw [hu] at hcell
     cases d<;>simp_all
   |_=>rfl
  rw [hcs] at h2
  exact h2.head
theorem Ul {W W':World} (q:u9 W W') {p:MemPlace} (h:p.block<W.heap.size):W.sameAt W' p:=by
 cases p with
 |cell b off=>exact k5 (q.heap b h)
 |map b=>exact q.heap b h
theorem again {H:Type} {enc:TypeId × Value→H} {P:Program} {W W':World} {sp:Nat→Bool} (K:Kids P (· < P.types.size)) (hz:∀ t e,t<P.types.size→P.underlying t=some (.slice e)→0<P.cellsOf e) (q:u9 W W') :
 ∀ {ts:List TypeId} {vs:List Value} {ds:List (DataW H)} {ps:List MemPlace},(∀ t ∈ ts,t<P.types.size)→DataW.TrodAll enc P W 0 (fun _=>true) true ts vs ds ps→(∀ p ∈ ps,sp p.block=true)→(∀ p ∈ ps,p.block<W.heap.size) →
  DataW.TrodAll enc P W' 0 sp true ts vs ds ps
 | [],[],[],_,_,h,_,_=>h
 |t::ts,v::vs,d::ds,ps,hT,⟨p,p',h1,h2,e⟩,hs,hl=>by
  obtain ⟨n,hn⟩:=h1
  subst e
  have h3:=DataW.trod_respare (spare':=sp) K hz n t _ _ (hT t (by simp)) hn (fun x hx=>hs x (by simp only [List.mem_append];exact .inl hx))
  have h4:=DataW.trod_carry (w':=W') n t _ _ h3 (fun x hx=>Ul q (hl x (by simp only [List.mem_append];exact .inl hx)))
  exact ⟨p,p',⟨n,h4⟩,again K hz q (fun t ht=>hT t (by simp [ht])) h2 (fun x hx=>hs x (by simp [hx])) (fun x hx=>hl x (by simp [hx])),rfl⟩
theorem adm {W W':World} (q:u9 W W') (may:MemPlace→Prop):W.keptBut W' may:=by
 refine ⟨q.os,q.output,fun i hi=>?_⟩
 rw [q.heap i hi]
 split
 ·rename_i c t fr c' t' fr' h1 h2
  rw [h1] at h2
  cases h2
  exact ⟨rfl,rfl,rfl,fun _ _=>rfl⟩
 ·rename_i es cl es' cl' h1 h2
  rw [h1] at h2
  cases h2
  exact .inr ⟨rfl,rfl⟩
 ·rfl
def adr (P:Program):Bool:=(List.range P.types.size).all fun t=>match P.underlying t with|some (.slice e)=>Nat.blt 0 (P.cellsOf e)|_=>true
theorem Tf {P:Program} (h:adr P=true) (t e:TypeId) (ht:t<P.types.size) (hu:P.underlying t=some (.slice e)) : 0<P.cellsOf e:=by
 have:=List.all_eq_true.1 h t (List.mem_range.2 ht)
 simp only [hu] at this
 exact Nat.le_of_ble_eq_true this
def an5 (P:Program) (l:List TypeId):Bool:=l.all fun t=>Nat.blt t P.types.size
theorem adz {P:Program} {l:List TypeId} (h:an5 P l=true):∀ t ∈ l,t<P.types.size:=fun t ht=>Nat.le_of_ble_eq_true (List.all_eq_true.1 h t ht)
theorem alq {P:Program} [KP P] (hlaid:laidOutB P=true) (hmaps:mapsRowed P=true) (hz:∀ t e,t<P.types.size→P.underlying t=some (.slice e)→0<P.cellsOf e) {f:Nat} {fn:Func} {s:ChangeSpec} {tb:TypeId}
 (he:mg P f=true) (hvars:s.vars=[]) (hres:fn.resultTypes = #[tb]) (htb:P.underlying tb=some .bool) (hpar:∀ t ∈ fn.params.toList,t<P.types.size)
 (hfn:∀ (H:Type) (ds:List (DataW H)),ds.length=fn.params.toList.length→s.fn H ds = { results:=[.lit (.bool true)],args:=ds }) {α:Type} {A:AC α} {μ : α→Nat} (hA:RdA P fn.params.toList A μ) {N:Option Nat}
 (hcall:∀ x,(∀ n,N=some n → μ x≤n)→bb P f (A.E x) (.sc (.bool true)))
 {H:Type} (enc:TypeId × Value→H) (W:World) (base:Nat) (args:Array Value) (ds gs:List (DataW H)) (before:List MemPlace) (hval:∀ (j:Nat) t v,fn.params[j]? = some t→args[j]? = some v→Value.okWide P W .any base t v)
 (hW:DataW.Whole enc P fn.params.toList s.vars false W args.toList ds gs before) (hN:∀ n,N=some n→ka (ds++gs)≤n) :
 Calls P f args W fun e W'=>∃ v,e = .returned v∧s.post enc P fn false true false false W args v W':=by
 have hW':=hW
 obtain ⟨p,q,hA0,hV,rfl,hfz,hnd⟩:=hW
 rw [hvars] at hV
 obtain ⟨rfl,rfl⟩:=trodVars_none hV
 obtain ⟨x,hx,hμ⟩:=hA enc W W.heap.size base args.toList ds p (fun j t v ht hv=>hval j t v (by simpa using ht) (by simpa using hv)) hA0
 have hp:=hcall x (fun n hn=>Nat.le_trans hμ (by have:=hN n hn;simpa using this)) (Y4 W) W args.toList (fun _ _ h=>h) hx
 have hlen:ds.length=fn.params.toList.length:=by
  have:∀ {ts:List TypeId} {vs:List Value} {ds:List (DataW H)} {ps:List MemPlace},DataW.TrodAll enc P W 0 (fun _=>true) true ts vs ds ps→ds.length=ts.length:=by
   intro ts
   induction ts with
   |nil=>intro vs ds ps h;obtain ⟨_,rfl,_⟩:=trodAll_nil h;rfl
   |cons t ts ih=>intro vs ds ps h;obtain ⟨v,vs1,d,ds1,p,q,rfl,rfl,rfl,h0,h1⟩:=trodAll_cons h;simp [ih h1]
  exact this hA0
 have hlt:∀ y ∈ p++[],y.block<W.heap.size:=fun y hy=>hW'.lt y hy
 have hspec:=hfn H ds hlen
 rcases hp with ⟨v,hv,_⟩|⟨_,hc⟩
 ·rw [sn he] at hv;cases hv
 ·refine hc.mono ?_
  rintro e W' ⟨v,rfl,hq,hr⟩
  obtain rfl:=hr.exact rfl
  refine ⟨_,rfl,ds,[],p++[],[],p,[],hW',?_,?_,?_,adm hq _,fun e=>by cases e⟩
  ·rw [List.append_nil,hspec,hres]
   exact trodAll_cons_mk (Go.RowKit.shut_bool htb _) trodAll_mk0
  ·rw [List.append_nil,hspec]
   exact again (kids_rows hlaid hmaps) hz hq hpar hA0 (fun y hy=>by have:=hlt y (by simp [hy]);simpa using this) (fun y hy=>hlt y (by simp [hy]))
  ·rw [List.append_nil,hspec,hvars]
   rfl
end
end Go.Vm
end
namespace Go.Vm
noncomputable instance tkI:TK:=⟨cz Go.Proofs.Tryz.prog,akr Go.Proofs.Tryz.prog⟩
instance kpI:KP Go.Proofs.Tryz.prog:=⟨rfl,rfl⟩
end Go.Vm
section
namespace Go.Vm
open Go.Proofs
theorem ais:(Tryz.prog.underlying 3=some (.int .i64)) ∧
 (Tryz.prog.underlying 4=some (.bool)) ∧
 (Tryz.prog.underlying 5=some (.int .u8)) ∧
 (Tryz.prog.underlying 9=some (.string)) ∧
 (Tryz.prog.underlying 22=some (.slice 31)) ∧
 (Tryz.prog.underlying 23=some (.slice 9)) ∧
 (Tryz.prog.underlying 24=some (.slice 9)) ∧
 (Tryz.prog.underlying 28=some (.int .u32)) ∧
 (Tryz.prog.underlying 29=some (.slice 101)) ∧
 (Tryz.prog.underlying 59=some (.slice 24)):=
 ⟨by kernel_rfl,by kernel_rfl,by kernel_rfl,by kernel_rfl,by kernel_rfl,by kernel_rfl,by kernel_rfl,by kernel_rfl,by kernel_rfl,by kernel_rfl⟩
theorem agu:(Tryz.prog.underlying 98=some (.slice 28)) ∧
 (Tryz.prog.underlying 99=some (.slice 5)) ∧
 (Tryz.prog.underlying 141=some (.slice 3)) ∧
 (Tryz.prog.underlying 195=some (.int .u64)) ∧
 (Tryz.prog.underlying 214=some (.slice 99)):=
 ⟨by kernel_rfl,by kernel_rfl,by kernel_rfl,by kernel_rfl,by kernel_rfl⟩
theorem agl:(lz Tryz.prog 3=some false) ∧
 (lz Tryz.prog 5=some false) ∧
 (lz Tryz.prog 9=some false) ∧
 (lz Tryz.prog 23=some false) ∧
 (lz Tryz.prog 24=some false) ∧
 (lz Tryz.prog 26=some false):=
 ⟨by kernel_rfl,by kernel_rfl,by kernel_rfl,by kernel_rfl,by kernel_rfl,by kernel_rfl⟩
theorem af2:(lz Tryz.prog 27=some false) ∧
 (lz Tryz.prog 28=some false) ∧
 (lz Tryz.prog 29=some false) ∧
 (lz Tryz.prog 31=some true) ∧
 (lz Tryz.prog 59=some false) ∧
 (lz Tryz.prog 98=some false) ∧
 (lz Tryz.prog 99=some false) ∧
 (lz Tryz.prog 101=some true):=
 ⟨by kernel_rfl,by kernel_rfl,by kernel_rfl,by kernel_rfl,by kernel_rfl,by kernel_rfl,by kernel_rfl,by kernel_rfl⟩
theorem af1:(lz Tryz.prog 183=some true) ∧
 (lz Tryz.prog 198=some true):=
 ⟨by kernel_rfl,by kernel_rfl⟩
theorem ac2:(cz Tryz.prog 3=some 1) ∧
 (cz Tryz.prog 5=some 1) ∧
 (cz Tryz.prog 9=some 1) ∧
 (cz Tryz.prog 23=some 1) ∧
 (cz Tryz.prog 24=some 1) ∧
 (cz Tryz.prog 26=some 1):=
 ⟨by kernel_rfl,by kernel_rfl,by kernel_rfl,by kernel_rfl,by kernel_rfl,by kernel_rfl⟩
theorem abr:(cz Tryz.prog 27=some 1) ∧
 (cz Tryz.prog 28=some 1) ∧
 (cz Tryz.prog 29=some 1) ∧
 (cz Tryz.prog 31=some 5) ∧
 (cz Tryz.prog 59=some 1) ∧
 (cz Tryz.prog 98=some 1) ∧
 (cz Tryz.prog 99=some 1) ∧
 (cz Tryz.prog 101=some 4):=
 ⟨by kernel_rfl,by kernel_rfl,by kernel_rfl,by kernel_rfl,by kernel_rfl,by kernel_rfl,by kernel_rfl,by kernel_rfl⟩
theorem ace:(cz Tryz.prog 183=some 5) ∧
 (cz Tryz.prog 198=some 5):=
 ⟨by kernel_rfl,by kernel_rfl⟩
theorem abh:(ef Tryz.prog 3=some (.int .i64 0)) ∧
 (ef Tryz.prog 5=some (.int .u8 0)):=
 ⟨by kernel_rfl,by kernel_rfl⟩
theorem aa4:(ef Tryz.prog 31=some (.agg #[.slice none 0 0,.int .u16 0,.int .u16 0,.int .u32 0,.slice none 0 0])) ∧
 (ef Tryz.prog 101=some (.agg #[.slice none 0 0,.slice none 0 0,.slice none 0 0,.slice none 0 0])):=
 ⟨by kernel_rfl,by kernel_rfl⟩
theorem abf:(ef Tryz.prog 183=some (.agg #[.int .i64 0,.int .i64 0,.int .i64 0,.int .i64 0,.int .i64 0])) ∧
 (ef Tryz.prog 198=some (.agg #[.int .i64 0,.int .i64 0,.int .i64 0,.int .i64 0,.int .i64 0])):=
 ⟨by kernel_rfl,by kernel_rfl⟩
theorem ahc:(vj Tryz.prog 22=some (31,5,[.sc (.slice none 0 0),.sc (.int .u16 0),.sc (.int .u16 0),.sc (.int .u32 0),.sc (.slice none 0 0)])) ∧
 (vj Tryz.prog 23=some (9,1,[.sc (.string .empty)])) ∧
 (vj Tryz.prog 24=some (9,1,[.sc (.string .empty)])) ∧
 (vj Tryz.prog 29=some (101,4,[.sc (.slice none 0 0),.sc (.slice none 0 0),.sc (.slice none 0 0),.sc (.slice none 0 0)])) ∧
 (vj Tryz.prog 59=some (24,1,[.sc (.slice none 0 0)])) ∧
 (vj Tryz.prog 98=some (28,1,[.sc (.int .u32 0)])) ∧
 (vj Tryz.prog 99=some (5,1,[.sc (.int .u8 0)])) ∧
 (vj Tryz.prog 141=some (3,1,[.sc (.int .i64 0)])) ∧
 (vj Tryz.prog 214=some (99,1,[.sc (.slice none 0 0)])):=
 ⟨by kernel_rfl,by kernel_rfl,by kernel_rfl,by kernel_rfl,by kernel_rfl,by kernel_rfl,by kernel_rfl,by kernel_rfl,by kernel_rfl⟩
theorem Uf:(Aa Tryz.prog 31=some ([.sc (.slice none 0 0),.sc (.int .u16 0),.sc (.int .u16 0),.sc (.int .u32 0),.sc (.slice none 0 0)],[(0,1),(1,1),(2,1),(3,1),(4,1)])) ∧
 (Aa Tryz.prog 101=some ([.sc (.slice none 0 0),.sc (.slice none 0 0),.sc (.slice none 0 0),.sc (.slice none 0 0)],[(0,1),(1,1),(2,1),(3,1)])) ∧
 (Aa Tryz.prog 183=some ([.sc (.int .i64 0),.sc (.int .i64 0),.sc (.int .i64 0),.sc (.int .i64 0),.sc (.int .i64 0)],[(0,1),(1,1),(2,1),(3,1),(4,1)])) ∧
 (Aa Tryz.prog 198=some ([.sc (.int .i64 0),.sc (.int .i64 0),.sc (.int .i64 0),.sc (.int .i64 0),.sc (.int .i64 0)],[(0,1),(1,1),(2,1),(3,1),(4,1)])):=
 ⟨by kernel_rfl,by kernel_rfl,by kernel_rfl,by kernel_rfl⟩
theorem Wq:(gj Tryz.prog 31 0=some ⟨"Owner",24,0,false, "", "",0⟩) ∧
 (gj Tryz.prog 31 1=some ⟨"Type",26,1,false, "", "",24⟩) ∧
 (gj Tryz.prog 31 2=some ⟨"Class",27,2,false, "", "",26⟩) ∧
 (gj Tryz.prog 31 3=some ⟨"TTL",28,3,false, "", "",28⟩) ∧
 (gj Tryz.prog 31 4=some ⟨"Data",29,4,false, "", "",32⟩):=
 ⟨by kernel_rfl,by kernel_rfl,by kernel_rfl,by kernel_rfl,by kernel_rfl⟩
theorem Vx:(gj Tryz.prog 101 0=some ⟨"Names",59,0,false, "", "",0⟩) ∧
 (gj Tryz.prog 101 1=some ⟨"Nums",98,1,false, "", "",24⟩) ∧
 (gj Tryz.prog 101 2=some ⟨"Texts",23,2,false, "", "",48⟩) ∧
 (gj Tryz.prog 101 3=some ⟨"Raw",99,3,false, "", "",72⟩):=
 ⟨by kernel_rfl,by kernel_rfl,by kernel_rfl,by kernel_rfl⟩
theorem Up:(gj Tryz.prog 183 0=some ⟨"Names",3,0,false, "", "",0⟩) ∧
 (gj Tryz.prog 183 1=some ⟨"Nums",3,1,false, "", "",8⟩) ∧
 (gj Tryz.prog 183 2=some ⟨"Texts",3,2,false, "", "",16⟩) ∧
 (gj Tryz.prog 183 3=some ⟨"Raw",3,3,false, "", "",24⟩) ∧
 (gj Tryz.prog 183 4=some ⟨"Wide",3,4,false, "", "",32⟩):=
 ⟨by kernel_rfl,by kernel_rfl,by kernel_rfl,by kernel_rfl,by kernel_rfl⟩
theorem Yd:(gj Tryz.prog 198 0=some ⟨"names",3,0,false, "", "nomenclator/rdata",0⟩) ∧
 (gj Tryz.prog 198 1=some ⟨"nums",3,1,false, "", "nomenclator/rdata",8⟩) ∧
 (gj Tryz.prog 198 2=some ⟨"size",3,2,false, "", "nomenclator/rdata",16⟩) ∧
 (gj Tryz.prog 198 3=some ⟨"texts",3,3,false, "", "nomenclator/rdata",24⟩) ∧
 (gj Tryz.prog 198 4=some ⟨"raw",3,4,false, "", "nomenclator/rdata",32⟩):=
 ⟨by kernel_rfl,by kernel_rfl,by kernel_rfl,by kernel_rfl,by kernel_rfl⟩
theorem ajq:(wk Tryz.prog 22=some (31,5,56)) ∧
 (wk Tryz.prog 23=some (9,1,16)) ∧
 (wk Tryz.prog 24=some (9,1,16)) ∧
 (wk Tryz.prog 29=some (101,4,96)) ∧
 (wk Tryz.prog 59=some (24,1,24)) ∧
 (wk Tryz.prog 98=some (28,1,4)) ∧
 (wk Tryz.prog 99=some (5,1,1)):=
 ⟨by kernel_rfl,by kernel_rfl,by kernel_rfl,by kernel_rfl,by kernel_rfl,by kernel_rfl,by kernel_rfl⟩
theorem amu:(∀ kd,Gf 5 kd 31=true) ∧
 (Gf 1 .str 9=true) ∧
 (∀ kd,Gf 4 kd 101=true) ∧
 (Gf 1 .no 24=true) ∧
 (Gf 1 (.int .u32) 28=true) ∧
 (Gf 1 (.int .u8) 5=true):=
 ⟨fun _=>by kernel_rfl,by kernel_rfl,fun _=>by kernel_rfl,by kernel_rfl,by kernel_rfl,by kernel_rfl⟩
theorem TF:type_of% ais∧type_of% agu∧type_of% agl∧type_of% af2∧type_of% af1∧type_of% ac2∧type_of% abr∧type_of% ace∧type_of% abh∧type_of% aa4∧type_of% abf∧type_of% ahc∧type_of% Uf∧type_of% Wq∧type_of% Vx∧type_of% Up∧type_of% Yd∧type_of% ajq∧type_of% amu:=
 ⟨ais,agu,agl,af2,af1,ac2,abr,ace,abh,aa4,abf,ahc,Uf,Wq,Vx,Up,Yd,ajq,amu⟩
end Go.Vm
end
