/- A piece of the proof. Proved: where the arguments are together of bulk at most 1048576, the law SeekFinds returns true (where a name is in a zone), and what it was given reads afterwards as it did before. No other conditions. -/
import Derived.WalkKit
import Derived.CallsIn
import Derived.RangeFuncIn
import Derived.RangeFuncLeaves
import Derived.Orders
import Derived.OrdersIn
import Derived.Scope
import Derived.RangeFuncOwn
import Derived.Stop.SameAnswer
import Derived.Laws.Externs
import Derived.Lib.Bytealg
import Derived.ProofKit
import Derived.OpenShut
import Derived.ReadAgain
import Derived.Deep.Slices
import Derived.ChangeSame
import Derived.Test.YtjagjbceegbaiaaGreatProg
import Derived.KernelRfl
import Derived.Test.YtjagjbceegbaiaaGreatRows
import Derived.Maps.RangeRun
import Derived.Deep.RegionHeld3
import Derived.JoinedCond
import Derived.Test.YtjagjbceegbaiaaGreatS1
set_option linter.unusedSimpArgs false
set_option linter.unusedVariables false
set_option linter.unusedSectionVars false
namespace Go.Vm
variable [TK]
noncomputable section
theorem bm.one {g w a v} (h:Rel g w a v):bm g w [a] [v]:=bm.cons h (bm.nil _ _)
theorem Qn {g w a vs} (h:bm g w [a] vs):∃ v,vs=[v]∧Rel g w a v:=by
 match vs,h with
 | [v],h=>exact ⟨v,rfl,h.head⟩
 | [],h=>have:=h.1;simp at this
 |_::_::_,h=>have:=h.1;simp at this
def aAr {α:Type} (ofV:Value→Option α) (l:List AV):Option α:=
 match l with
 | [a]=>a.exact.bind ofV
 |_=>none
def Ut {α:Type} (kd:LK) (il : α→Value) (ofV:Value→Option α) (h1:∀ x,ofV (il x)=some x) (h2:∀ v x,ofV v=some x→v=il x) (h3:∀ x,(il x).cells = #[il x]) (h4:∀ x,(il x).oneCell'=true) (h5:∀ x,sv (il x)=kd):c8 α where
 kd:=kd
 Iy _ _ _ _ _ _ _ hc hr:=by
  simp at hc;subst hc
  have:=hr.exact rfl
  subst this
  exact h5 _
 sz:=1
 agg:=false
 cells _ x:=[.sc (il x)]
 dec _ _ l:=aAr ofV l
 len _ _:=rfl
 rt _ _ _ x _:=h1 x
 one _ _ x:=⟨_,rfl,by simp [AV.cells,h3],rfl⟩
 pl _ x c hc:=by simp at hc;subst hc;exact ⟨fun τ=>by simp [AV.dm],by simp [AV.names],h4 x,rfl⟩
 fr x c hc:=by simp at hc;subst hc;rfl
 ok:=by
  intro fr g h w K b0 l vs x _ _ _ hr hd
  match l,hd with
  | [a],hd=>
   obtain ⟨u,rfl,hu⟩:=Qn hr
   cases a with
   |sc v=>
    have:=hu.exact rfl
    subst this
    have:=h2 _ _ hd
    subst this
    exact bm.one (.sc _)
   |_=>cases hd
def ate (k:IntKind) (v:Value):Option Int:=
 match v with
 |.int k' n=>bif decide (k'=k) then some n else none
 |_=>none
def au (k:IntKind):c8 Int:=Ut (.int k) (fun n=>.int k n) (ate k) (fun x=>by simp [ate]) (fun v x h=>by
 cases v<;>simp [ate] at h
 rename_i k' n
 by_cases e:k'=k
 ·subst e;simp at h;rw [h]
 ·simp [e] at h) (fun x=>rfl) (fun x=>rfl) (fun x=>rfl)
def bd:c8 Bool:=Ut .bool (fun b=>.bool b) ny (fun x=>rfl) (fun v x h=>by cases v<;>simp [ny] at h;rw [h]) (fun x=>rfl) (fun x=>rfl) (fun x=>rfl)
def ag:c8 ByteArray:=Ut .str (fun s=>.string s) strOf (fun x=>rfl) (fun v x h=>by cases v<;>simp [strOf] at h;rw [h]) (fun x=>rfl) (fun x=>rfl) (fun x=>rfl)
def u8V (v:Value):Option UInt8:=
 match v with
 |.int k n=>bif decide (k = .u8) && decide (0≤n) && decide (n<256) then some (UInt8.ofNat n.toNat) else none
 |_=>none
def bk:c8 UInt8:=Ut (.int .u8) (fun n=>.int .u8 n.toNat) u8V (fun x=>by
 have:=x.toNat_lt
 simp [u8V,show (x.toNat:Int)<256 by omega]) (fun v x h=>by
 cases v<;>simp [u8V] at h
 rename_i k n
 cases hb:(decide (k = .u8) && decide (0≤n) && decide (n<256)) with
 |false=>rw [hb] at h;cases h
 |true=>
  rw [hb] at h
  simp at hb h
  obtain ⟨⟨rfl,h0⟩,h1⟩:=hb
  subst h
  congr 1
  rw [UInt8.toNat_ofNat']
  omega) (fun x=>rfl) (fun x=>rfl) (fun x=>rfl)
def asl (v:Value):Option UInt16:=
 match v with
 |.int k n=>bif decide (k = .u16) && decide (0≤n) && decide (n<65536) then some (UInt16.ofNat n.toNat) else none
 |_=>none
def cy:c8 UInt16:=Ut (.int .u16) (fun n=>.int .u16 n.toNat) asl (fun x=>by
 have:=x.toNat_lt
 simp [asl,show (x.toNat:Int)<65536 by omega]) (fun v x h=>by
 cases v<;>simp [asl] at h
 rename_i k n
 cases hb:(decide (k = .u16) && decide (0≤n) && decide (n<65536)) with
 |false=>rw [hb] at h;cases h
 |true=>
  rw [hb] at h
  simp at hb h
  obtain ⟨⟨rfl,h0⟩,h1⟩:=hb
  subst h
  congr 1
  rw [UInt16.toNat_ofNat']
  omega) (fun x=>rfl) (fun x=>rfl) (fun x=>rfl)
def aro (v:Value):Option UInt32:=
 match v with
 |.int k n=>bif decide (k = .u32) && decide (0≤n) && decide (n<4294967296) then some (UInt32.ofNat n.toNat) else none
 |_=>none
def cf:c8 UInt32:=Ut (.int .u32) (fun n=>.int .u32 n.toNat) aro (fun x=>by
 have:=x.toNat_lt
 simp [aro,show (x.toNat:Int)<4294967296 by omega]) (fun v x h=>by
 cases v<;>simp [aro] at h
 rename_i k n
 cases hb:(decide (k = .u32) && decide (0≤n) && decide (n<4294967296)) with
 |false=>rw [hb] at h;cases h
 |true=>
  rw [hb] at h
  simp at hb h
  obtain ⟨⟨rfl,h0⟩,h1⟩:=hb
  subst h
  congr 1
  rw [UInt32.toNat_ofNat']
  omega) (fun x=>rfl) (fun x=>rfl) (fun x=>rfl)
theorem az2 {g w l n es v} (h:Rel g w (.vl l n es) v):sv v = .no:=by cases h<;>rfl
def cj {α:Type} (C:c8 α):c8 (List α) where
 sz:=1
 kd:=.no
 Iy _ _ _ _ _ _ _ hc hr:=by simp at hc;subst hc;exact az2 hr
 agg:=false
 cells l xs:=[.vl l C.sz (xs.map (C.val l))]
 dec:=aur C
 len _ _:=rfl
 rt:=by
  intro fr h l x hl
  simp only [aur,gx]
  cases hb:(Nat.beq C.sz C.sz && (l || !fr)) with
  |false=>cases fr<;>simp_all
  |true=>rw [cond_true,Tq C fr h l hl]
 one _ _ x:=⟨_,rfl,rfl,rfl⟩
 pl l xs c hc:=by
  simp at hc;subst hc
  exact ⟨fun τ=>by rw [AV.dm,Qi (fun c hc=>by obtain ⟨x,_,rfl⟩:=List.mem_map.1 hc;exact Nm C τ l x)],by simp [AV.names],rfl,rfl⟩
 fr xs c hc:=by
  simp at hc;subst hc
  simp only [AV.fresh,Bool.true_and]
  exact Km (fun c hc=>by obtain ⟨x,_,rfl⟩:=List.mem_map.1 hc;exact aor C x)
 ok:=by
  intro fr g h w K b0 l vs x hok hl hb hr hd
  match l,hd with
  | [a],hd=>
   obtain ⟨u,rfl,hu⟩:=Qn hr
   exact bm.one (av3 C hok hl hb hu hd)
def kr {α β:Type} (A:c8 α) (B:c8 β):c8 (α × β) where
 sz:=A.sz+B.sz
 kd:=bif Nat.beq A.sz 1 then A.kd else B.kd
 Iy e _ _ l x c v hc hr:=by
  rcases Nat.lt_or_ge 0 A.sz with h|h
  ·have ha:A.sz=1:=by omega
   have hb:B.cells l x.2=[]:=List.eq_nil_of_length_eq_zero (by rw [B.len];omega)
   rw [hb,List.append_nil] at hc
   rw [ha]
   exact A.Iy ha hc hr
  ·have ha:A.sz=0:=by omega
   have hb:A.cells l x.1=[]:=List.eq_nil_of_length_eq_zero (by rw [A.len];omega)
   rw [hb,List.nil_append] at hc
   rw [ha]
   exact B.Iy (by omega) hc hr
 agg:=true
 cells l p:=A.cells l p.1++B.cells l p.2
 dec fr h l:=match A.dec fr h (l.take A.sz),B.dec fr h (l.drop A.sz) with
  |some x,some y=>some (x,y)
  |_,_=>none
 len l p:=by simp [A.len,B.len]
 rt:=by
  intro fr h l p hl
  have h1:(A.cells l p.1++B.cells l p.2).take A.sz=A.cells l p.1:=by rw [← A.len l p.1,List.take_left]
  have h2:(A.cells l p.1++B.cells l p.2).drop A.sz=B.cells l p.2:=by rw [← A.len l p.1,List.drop_left]
  simp only [h1,h2,A.rt fr h l _ hl,B.rt fr h l _ hl]
 one e:=by cases e
 pl l p c hc:=by rcases List.mem_append.1 hc with h|h;exact A.pl l _ c h;exact B.pl l _ c h
 fr p c hc:=by rcases List.mem_append.1 hc with h|h;exact A.fr _ c h;exact B.fr _ c h
 ok:=by
  intro fr g h w K b0 l vs x hok hl hb hr hd
  split at hd
  ·rename_i x1 y1 hx hy
   simp at hd;subst hd
   have:=(A.ok hok hl hb (hr.take A.sz) hx).append (B.ok hok hl hb (hr.drop A.sz) hy)
   rwa [List.take_append_drop] at this
  ·cases hd
def zc {α β:Type} (C:c8 α) (f : β → α) (i : α → β) (h1:∀ y,i (f y)=y) (h2:∀ x,f (i x)=x):c8 β where
 sz:=C.sz
 kd:=C.kd
 Iy e _ _ _ _ _ _ hc hr:=C.Iy e hc hr
 agg:=C.agg
 cells l y:=C.cells l (f y)
 dec fr h l:=(C.dec fr h l).map i
 len l y:=C.len l (f y)
 rt fr h l y hl:=by rw [C.rt fr h l _ hl];simp [h1]
 one e l y:=C.one e l (f y)
 pl l y:=C.pl l (f y)
 fr y:=C.fr (f y)
 ok:=by
  intro fr g h w K b0 l vs x hok hl hb hr hd
  rw [Option.map_eq_some_iff] at hd
  obtain ⟨y,hy,rfl⟩:=hd
  rw [h2]
  exact C.ok hok hl hb hr hy
structure AC (α:Type) where
 E : α→List AV
 D:Tr bh→List AV→Option α
 rt:∀ h x,D h (E x)=some x
 ok:∀ {g h w K b0 l vs x},Ok g h w→uq g h K→bm g w l vs→D h l=some x→bm (gK b0 K) w (E x) vs
def AC.get {α:Type} (A:AC α) (h:Tr bh) (l:List AV):Option α:=A.D h l
def a0:AC Unit where
 E _:=[]
 D _ l:=match l with
  | []=>some ()
  |_=>none
 rt _ _:=rfl
 ok:=by
  intro g h w K b0 l vs x _ _ hr hd
  match l,hd with
  | [],_=>
   have:=hr.1
   simp at this
   subst this
   exact bm.nil _ _
def aC {α β:Type} (C:c8 α) (R:AC β):AC (α × β) where
 E p:=C.val false p.1::R.E p.2
 D h l:=match l with
  | []=>none
  |a::r=>match C.gy false h a,R.D h r with
   |some x,some y=>some (x,y)
   |_,_=>none
 rt h p:=by simp only [C.Ln false h false p.1 (fun e=>by cases e),R.rt]
 ok:=by
  intro g h w K b0 l vs x hok hl hr hd
  match l,hd with
  |a::r,hd=>
   simp only at hd
   split at hd
   ·rename_i x1 y1 hx hy
    simp at hd;subst hd
    match vs,hr with
    | [],hr=>have:=hr.1;simp at this
    |v::vs,hr=>exact bm.cons (C.Tp hok hl (fun e=>by cases e) hr.head hx) (R.ok hok hl hr.tail hy)
   ·cases hd
structure RC (α:Type) where
 E:Bool → α→AV
 D:Bool→Tr bh→AV→Option α
 ok:∀ {fr g h w K b0 a v x},Ok g h w→uq g h K→(fr=true→b0≤g.b0)→Rel g w a v→D fr h a=some x→Rel (gK b0 K) w (E fr x) v
def RC.get {α:Type} (R:RC α) (fr:Bool) (h:Tr bh) (a:AV):Option α:=R.D fr h a
def r1 {α:Type} (C:c8 α):RC α where
 E:=C.val
 D:=C.gy
 ok hok hl hb hr hd:=C.Tp hok hl hb hr hd
def Jd (a:AV):Option (List AV):=
 match a with
 |.gi l=>some l
 |.sc v=>match v with
  |.tuple vs=>some (vs.toList.map .sc)
  |_=>none
 |_=>none
theorem ahq {g w a v l} (hr:Rel g w a v) (h:Jd a=some l):∃ vs,v = .tuple vs∧bm g w l vs.toList:=by
 cases hr with
 |gi l' vs hs hh=>
  simp [Jd] at h;subst h
  exact ⟨vs,rfl,⟨by simpa using hs,fun i a v ha hv=>hh i a v ha (by simpa using hv)⟩⟩
 |sc v=>
  cases v<;>simp [Jd] at h
  subst h
  exact ⟨_,rfl,bm.D5 g w _⟩
 |_=>cases h
theorem ai3 {g w l} {vs:Array Value} (h:bm g w l vs.toList):Rel g w (.gi l) (.tuple vs):=
 .gi l vs (by simpa using h.1) (fun i a v ha hv=>h.2 i a v ha (by simpa using hv))
def r2 {α β:Type} (A:c8 α) (B:c8 β):RC (α × β) where
 E l p:=.gi [A.val l p.1,B.val l p.2]
 D fr h a:=match Jd a with
  |some [a,b]=>match A.gy fr h a,B.gy fr h b with
   |some x,some y=>some (x,y)
   |_,_=>none
  |_=>none
 ok:=by
  intro fr g h w K b0 a v x hok hl hb hr hd
  cases ht:Jd a with
  |none=>rw [ht] at hd;cases hd
  |some l=>
   rw [ht] at hd
   obtain ⟨vs,rfl,hrel⟩:=ahq hr ht
   match l,hd with
   | [a,b],hd=>
    simp only at hd
    split at hd
    ·rename_i x1 y1 hx hy
     simp at hd;subst hd
     obtain ⟨vl⟩:=vs
     match vl,hrel with
     | [u,v],hrel=>exact ai3 (bm.cons (A.Tp hok hl hb hrel.head hx) (bm.one (B.Tp hok hl hb hrel.tail.head hy)))
     | [],hrel=>have:=hrel.1;simp at this
     | [_],hrel=>have:=hrel.1;simp at this
     |_::_::_::_,hrel=>have:=hrel.1;simp at this
    ·cases hd
def r3 {α β γ:Type} (A:c8 α) (B:c8 β) (C:c8 γ):RC (α × β × γ) where
 E l p:=.gi [A.val l p.1,B.val l p.2.1,C.val l p.2.2]
 D fr h a:=match Jd a with
  |some [a,b,c]=>match A.gy fr h a,B.gy fr h b,C.gy fr h c with
   |some x,some y,some z=>some (x,y,z)
   |_,_,_=>none
  |_=>none
 ok:=by
  intro fr g h w K b0 a v x hok hl hb hr hd
  cases ht:Jd a with
  |none=>rw [ht] at hd;cases hd
  |some l=>
   rw [ht] at hd
   obtain ⟨vs,rfl,hrel⟩:=ahq hr ht
   match l,hd with
   | [a,b,c],hd=>
    simp only at hd
    split at hd
    ·rename_i x1 y1 z1 hx hy hz
     simp at hd;subst hd
     obtain ⟨vl⟩:=vs
     match vl,hrel with
     | [u,v,t],hrel=>exact ai3 (bm.cons (A.Tp hok hl hb hrel.head hx) (bm.cons (B.Tp hok hl hb hrel.tail.head hy) (bm.one (C.Tp hok hl hb hrel.tail.tail.head hz))))
     | [],hrel=>have:=hrel.1;simp at this
     | [_],hrel=>have:=hrel.1;simp at this
     | [_,_],hrel=>have:=hrel.1;simp at this
     |_::_::_::_::_,hrel=>have:=hrel.1;simp at this
    ·cases hd
structure pc (w w':World):Prop where
 size:w.heap.size≤w'.heap.size
 heap:∀ b,b<w.heap.size→w'.heap[b]? = w.heap[b]?
 os:w'.os=w.os
 tape:w'.tape=w.tape
 output:w'.output=w.output
def Iz (K:Nat→Nat→Prop) (w w':World):Nat→Nat→Prop:=fun b j=>K b j∨(w.heap.size≤b∧b<w'.heap.size)
def aij (P:Program) (f:Nat) (vs:List Value) (w:World) (X:Value→World→Prop):Prop:=
 (∃ v,(callFunc f vs.toArray).run P w = .ok (.value v) w∧X v w) ∨
 ((callFunc f vs.toArray).run P w = .ok (.enter f vs.toArray) w∧Calls P f vs.toArray w (fun e w'=>∃ v,e = .returned v∧X v w'))
def bb (P:Program) (f:Nat) (args:List AV) (r:AV):Prop:=
 ∀ (K:Nat→Nat→Prop) (w:World) (vs:List Value),(∀ b j,K b j→b<w.heap.size)→bm (gK w.heap.size K) w args vs →
  aij P f vs w (fun v w'=>pc w w'∧Rel (gK w.heap.size (Iz K w w')) w' r v)
theorem Vh {P:Program} [KP P] {g w nt} {L:SL} {tmps:Array Value} {st:St} (hok:Ok g st.h w) (hs:ig g w nt L tmps):∀ (rs:List ResultVar) (l:List AV),ss P L st rs=some l →
 ∃ vs,(rs.mapM (rm tmps)).run P w = .ok vs w∧bm g w l vs:=by
 intro rs
 induction rs with
 |nil=>intro l h;simp [ss] at h;subst h;exact ⟨[],by simp,bm.nil _ _⟩
 |cons r rs ih=>
  intro l h
  cases r with
  |tmp t=>
   simp only [ss,Option.map_eq_some_iff] at h
   obtain ⟨l',h1,rfl⟩:=h
   obtain ⟨vs,h2,h3⟩:=ih l' h1
   refine ⟨tmps.getD t undef::vs,?_,bm.cons (hs.2 t) h3⟩
   simp only [List.mapM_cons,Sem.run_bind,rm,Sem.run_pure,Result.andThen_ok,h2]
  |cell c t=>
   simp only [ss] at h
   split at h
   ·rename_i v st' hl
    rw [Option.map_eq_some_iff] at h
    obtain ⟨l',h1,rfl⟩:=h
    obtain ⟨vs,h2,h3⟩:=ih l' h1
    have hrel:=hs.2 c
    have hptr:∃ ad,tmps.getD c undef = .pointer (some ad):=by
     generalize lk L c=x at hrel hl
     generalize tmps.getD c undef=v at hrel
     cases hrel<;>first|exact ⟨_,rfl⟩|cases hl
    obtain ⟨ad,had⟩:=hptr
    obtain ⟨u,h4,h5⟩:=ajd (P:=P) hok hrel hl had
    refine ⟨u::vs,?_,bm.cons h5 h3⟩
    have h6:(rm tmps (.cell c t)).run P w = .ok u w:=by simp [rm,had,asAddr,h4]
    simp only [List.mapM_cons,Sem.run_bind,h6,Result.andThen_ok,h2]
    rfl
   ·cases h
theorem Wf {P:Program} [KP P] {g w} {fn:Func} {tmps:Array Value} {l:List AV} {vs:List Value} (h:(fn.results.toList.mapM (rm tmps)).run P w = .ok vs w) (q4:bm g w l vs) :
 ∃ v,(results fn tmps).run P w = .ok v w∧Rel g w (pack l) v:=by
 have hmap:(fn.results.mapM (rm tmps)).run P w = .ok vs.toArray w:=by
  rw [Array.mapM_eq_mapM_toList]
  simp [h]
 rw [Uj]
 simp only [Sem.run_bind,hmap,Result.andThen_ok,Sem.run_pure]
 refine ⟨_,rfl,?_⟩
 match l,vs,q4 with
 | [a1],[v1],q4=>simpa [pack] using q4.head
 | [],[],q4=>simp [pack];exact .gi _ _ rfl (fun i a v h _=>by simp at h)
 |a1::a2::l,v1::v2::vs,q4=>
  simp [pack]
  exact .gi _ _ (by have:=q4.1;simp at this ⊢;omega) (fun i a v h1 h2=>q4.2 i a v h1 (by simpa using h2))
 | [],v::vs,q4=>have:=q4.1;simp at this
 |a::l,[],q4=>have:=q4.1;simp at this
 | [a1],v1::v2::vs,q4=>have:=q4.1;simp at this
 |a1::a2::l,[v1],q4=>have:=q4.1;simp at this
theorem U6 {P:Program} [KP P] {T:dv} (hT:an P T) (hm:P.follows .mixedOrders=true) {f:Nat} {fn:Func} {body:Code} (hf:P.funcs[f]? = some fn) (hb:fn.body=some body) (he:l8 P f=true) (hs:dt fn.ntmps body=true)
 {args:List AV} (hl:args.length≤fn.ntmps) {ρ:Type} (R:RC ρ) (fr:Bool) (x : ρ)
 (h:wl P T 0 body (ct P fn.results.toList (fun r st=>R.get fr st.h r=some x)) (bp 0 args) (bf [])):bb P f args (R.E fr x):=by
 intro K w vs hK hrel
 refine .inr ⟨oz he _ _,ti (ro:=none) (n:=0) (callsIn_of_wp_marks hf hb trivial ?_)⟩
 let B:dy:={ b0:=w.heap.size,w,K,O:=fun _=>False,az:=0,pb:=fun _=>none,n0:=w.heap.size }
 have hcur:js B (gK w.heap.size K) (bf []) w:=by
  refine ⟨⟨Nat.le_refl _,fun o x hx=>?_,fun o o' x x' b base base' _ hx=>?_,hK⟩,fun o _ _=>rfl,⟨rfl,(fun o ho=>(by rcases ho with ho|ho;cases ho;exact ho.elim)),fun _ _ h=>h,fun _ _ _=>rfl,Nat.le_refl _,rfl,rfl,rfl,fun _ _ _=>rfl,fun o b base ho=>?_,fun _ _ h=>.inl h,fun b cs e fr h=>⟨cs,fr,h,rfl⟩,fun b l h=>⟨l,h⟩,fun _ _ _ _ _ _=>rfl⟩,Nat.zero_le _⟩
  ·simp [bf,ll,Tr.get_nil] at hx
  ·simp [bf,ll,Tr.get_nil] at hx
  ·simp [bf,ll,Tr.get_nil] at ho
 refine wpIn_mono (alo hT hm (N:=0) (B:=B) (nt:=fn.ntmps) (fun _ h=>h) (by show (0:Nat)≤1000;omega) (Nat.le_refl _) body hs _ _ _ (gK w.heap.size K) w _ h hcur (zg hrel hl) (Marks.nil _ _ _ _)) ?_
 rintro ex a w' ⟨e,L,st,g,rfl,hq,hc,hr,hd⟩
 have fin:Gs (ss P L st fn.results.toList) (fun r st=>R.get fr st.h r=some x) st→bodyPostM (eh none) 0 P fn (fun e w'=>∃ v,e = .returned v∧pc w w'∧Rel (gK w.heap.size (Iz K w w')) w' (R.E fr x) v) .ret a w':=by
  intro hq
  show LeavesInM (eh none) 0 P fn a.tmps _ a.defers .returning w'
  unfold Gs at hq
  cases hres:ss P L st fn.results.toList with
  |none=>rw [hres] at hq;exact hq.elim
  |some l=>
   rw [hres] at hq
   have hbs:=hc.base
   obtain ⟨bs,e1,e2,e3⟩:=hd
   have e1:=e1.trans (List.append_nil _)
   rw [e1]
   refine Bp (Good:=fun u=>Ok g st.h u∧pc w u∧(∀ a v,Rel g w' a v→Rel g u a v)∧u.heap.size=w'.heap.size) (S:=fun b=>w.heap.size≤b∧ir g st.h b) ?_ ?_ bs w'
    ⟨hc.ok,⟨hbs.size,fun b hlt=>hbs.frame b hlt (fun h=>h),hbs.os,hbs.tape,hbs.output⟩,fun _ _ h=>h,rfl⟩ e2 (fun b hb=>⟨⟨(e3 b hb).1,(e3 b hb).2.2⟩,(e3 b hb).2.1⟩)
   ·rintro u b ⟨g1,g2,g3,g4⟩ ⟨hb1,hb2⟩ hb3
    have hput:=Ok.Gp (ds':=none) g1 hb3 hb2
    exact ⟨hput.1,⟨by rw [lg];exact g2.size,fun c hc=>(ec u _ (by omega)).trans (g2.heap c hc),g2.os,g2.tape,g2.output⟩,fun a v h=>hput.2 a v (g3 a v h),by rw [lg];exact g4⟩
   ·rintro u ⟨g1,g2,g3,g4⟩
    obtain ⟨us,h1,h2⟩:=Vh (P:=P) g1 ⟨hr.1,fun t=>g3 _ _ (hr.2 t)⟩ fn.results.toList l hres
    obtain ⟨v,h3,h4⟩:=Wf h1 h2
    refine ⟨v,h3,v,rfl,g2,?_⟩
    refine R.ok g1 ⟨fun b j hk=>?_,fun o cells k s e ho b base hi j hj=>?_⟩ (fun _=>?_) h4 hq
    ·rcases hbs.oj b j hk with h5|h5|h5
     ·exact .inl h5
     ·exact .inr ⟨h5,g1.K b j hk⟩
     ·exact h5.elim
    ·obtain ⟨b',base',h5,_,h6⟩:=g1.obj o _ ho
     rw [hi] at h5;cases h5
     rcases hbs.own o b base (by rw [ho];rfl) hi with h7|h7
     ·exact .inr ⟨h7,h6.lt⟩
     ·exact h7.elim
    ·rw [hbs.b0];exact Nat.le_refl _
 cases e with
 |normal=>exact fin hq
 |ret=>exact fin hq
 |exit id=>exact hq.elim
theorem Rel.lift {b0 K g w a v} (h:Rel (gK b0 K) w a v) (hb:g.b0≤b0) (hK:∀ b j,K b j→g.K b j):Rel g w a v:=by
 have hno:∀ o p,(gK b0 K).inj o≠some p:=fun o p e=>by cases e
 generalize hg:gK b0 K=g0 at h hno
 have hK':∀ b j,g0.K b j→g.K b j:=by subst hg;exact hK
 have hb':g.b0≤g0.b0:=by subst hg;exact hb
 clear hg
 induction h with
 |sc x=>exact .sc x
 |agg l vs hs _ ih=>exact .agg l vs hs ih
 |gi l vs hs _ ih=>exact .gi l vs hs ih
 |vl loc sz es b off cap c hsz hl hcap h _ hw ih=>exact .vl loc sz es b off cap c hsz (fun e=>Nat.le_trans hb' (hl e)) hcap (fun j a hj=>⟨hK' _ _ (h j a hj).1,(h j a hj).2⟩) ih (fun e=>⟨fun j=>hK' _ _ ((hw e).K j),(hw e).sg,(hw e).none,(hw e).cm⟩)
 |kf loc sz=>exact .kf loc sz
 |sk loc sz a=>exact .sk loc sz a
 |sl o off len sz b base cap hi hc hm hr=>exact (hno _ _ hi).elim
 |sx o off sz a=>exact .sx o off sz a
 |tu o off sz=>exact .tu o off sz
 |ez a=>exact .ez a
 |ptr o off b base hi=>exact (hno _ _ hi).elim
 |dj l b off c h _ ih=>exact .dj l b off c (fun j a hj=>⟨hK' _ _ (h j a hj).1,(h j a hj).2⟩) ih
 |fn f first captured va vb hs _ hs' _ ih ih'=>exact .fn f first captured va vb hs ih hs' ih'
 |mp o b base hi=>exact (hno _ _ hi).elim
 |qe t a v _ ih=>exact .qe t a v ih
 |yl o b base hi=>exact (hno _ _ hi).elim
 |bad v=>exact .bad v
theorem Dl {l:List AV} (h:AV.fresh.go l=true):∀ a ∈ l,a.fresh=true:=by
 induction l with
 |nil=>intro a ha;cases ha
 |cons x l ih=>
  simp only [AV.fresh.go,Bool.and_eq_true] at h
  intro a ha
  rcases List.mem_cons.1 ha with rfl|ha
  ·exact h.1
  ·exact ih h.2 a ha
theorem af2 {a:AV} (h:a.fresh=true):∀ c ∈ a.cells,c.fresh=true:=by
 cases a with
 |agg l=>exact Dl h
 |sc v=>intro c hc;simp only [AV.cells,List.mem_map] at hc;obtain ⟨x,_,rfl⟩:=hc;rfl
 |_=>intro c hc;simp only [AV.cells,List.mem_singleton] at hc;subst hc;exact h
theorem Rel.fresh {b0 K g w a v} (h:Rel (gK b0 K) w a v) (hf:a.fresh=true) (hb:g.b0≤b0) (hK:∀ b j,K b j→b0≤b→g.K b j):Rel g w a v:=by
 generalize hg:gK b0 K=g0 at h
 have hK':∀ b j,g0.K b j→g0.b0≤b→g.K b j:=by subst hg;exact hK
 have hb':g.b0≤g0.b0:=by subst hg;exact hb
 clear hg hb hK
 induction h with
 |sc x=>exact .sc x
 |agg l vs hs _ ih=>exact .agg l vs hs (fun i a v ha hv=>ih i a v ha hv (Dl hf a (List.mem_of_getElem? ha)))
 |gi l vs hs _ ih=>exact .gi l vs hs (fun i a v ha hv=>ih i a v ha hv (Dl hf a (List.mem_of_getElem? ha)))
 |vl loc sz es b off cap c hsz hl hcap h _ hw ih=>
  simp only [AV.fresh,Bool.and_eq_true] at hf
  have hbb:=hl hf.1
  refine .vl loc sz es b off cap c hsz (fun e=>Nat.le_trans hb' hbb) hcap (fun j a hj=>⟨hK' _ _ (h j a hj).1 hbb,(h j a hj).2⟩) (fun j a hj=>ih j a hj ?_) (fun e=>⟨fun j=>hK' _ _ ((hw e).K j) hbb,(hw e).sg,(hw e).none,(hw e).cm⟩)
  obtain ⟨e,he,hc⟩:=List.mem_flatMap.1 (List.mem_of_getElem? hj)
  exact af2 (Dl hf.2 e he) a hc
 |kf loc sz=>exact .kf loc sz
 |sk loc sz a=>exact .sk loc sz a
 |sl o off len sz b base cap hi hc hm hr=>cases hf
 |sx o off sz a=>cases hf
 |tu o off sz=>cases hf
 |ez a=>exact .ez a
 |ptr o off b base hi=>cases hf
 |dj l b off c h _ ih=>cases hf
 |fn f first captured va vb hs _ hs' _ ih ih'=>
  simp only [AV.fresh,Bool.and_eq_true] at hf
  exact .fn f first captured va vb hs (fun i a v ha hv=>ih i a v ha hv (Dl hf.1 a (List.mem_of_getElem? ha))) hs' (fun i a v ha hv=>ih' i a v ha hv (Dl hf.2 a (List.mem_of_getElem? ha)))
 |mp o b base hi=>cases hf
 |qe t a v _ ih=>exact .qe t a v (ih hf)
 |yl o b base hi=>cases hf
 |bad v=>cases hf
def Gh.more (g:Gh) (w w':World):Gh:={ g with K:=Iz g.K w w' }
theorem Tx {g h w w'} {lo hi:Nat} (hok:Ok g h w) (q:pc w w'):Step g h w lo hi (g.more w w') h w'∧Ok (g.more w w') h w':=by
 have hext:Ext g w (g.more w w') w':=by
  refine ⟨rfl,fun _ _ h=>h,fun _ _ h=>.inl h,fun b j hj=>nr (q.heap b (hok.K b j hj)),fun b cs e fr hb=>⟨cs,fr,(q.heap b (br hb)).trans hb,rfl⟩,fun b l hb=>⟨l,(q.heap b (br hb)).trans hb⟩,fun b cs e fr hb _=>q.heap b (br hb)⟩
 refine ⟨⟨hext,q.size,q.os,q.tape,q.output,fun b hb _=>q.heap b hb,fun _ h _=>h,fun o b base ho hi=>.inr ⟨o,base,ho,hi⟩,fun b j hk=>?_⟩,⟨Nat.le_trans hok.size q.size,fun o x hx=>?_,hok.sep,fun b j hk=>?_⟩⟩
 ·rcases hk with hk|hk
  ·exact .inl hk
  ·exact .inr (.inl hk.1)
 ·refine (hok.qg o x hx).imp id ?_
  rintro ⟨b,base,h1,h2,h3⟩
  refine ⟨b,base,h1,h2,h3.ext hext (q.heap b h3.lt) (fun j hk=>?_)⟩
  rcases hk with hk|hk
  ·exact hk
  ·have:=h3.lt;omega
 ·rcases hk with hk|hk
  ·exact Nat.lt_of_lt_of_le (hok.K b j hk) q.size
  ·exact hk.2
noncomputable def cg {α:Type} (A:AC α) (F : α→Option AV) (args:List AV):M AV:=fun st=>
 match A.get .nil args with
 |some x=>(F x).map fun r=>(r,st)
 |none=>
  match A.get st.h args with
  |some x=>
   match F x with
   |some r=>bif r.fresh then some (r,st) else some (r,{ st with h:=.nil })
   |none=>none
  |none=>none
theorem ak {P:Program} [KP P] {f:Nat} {α:Type} {A:AC α} {F : α→Option AV} (h:∀ x r,F x=some r→bb P f (A.E x) r) (args:List AV):De P f args (cg A F args):=by
 intro g st w vs r st' hok hfree hrel hm
 have go:∀ (X:Value→World→Prop),aij P f vs w X→(∀ v w',X v w'→pc w w'∧Rel (g.more w w') w' r v)→st'=st →
  (∃ v w' g',(callFunc f vs.toArray).run P w = .ok (.value v) w'∧Step g st.h w st.nx st'.nx g' st'.h w'∧Ok g' st'.h w'∧Rel g' w' r v) ∨
  ((callFunc f vs.toArray).run P w = .ok (.enter f vs.toArray) w∧Calls P f vs.toArray w (fun e w'=>∃ v g',e = .returned v∧Step g st.h w st.nx st'.nx g' st'.h w'∧Ok g' st'.h w'∧Rel g' w' r v)):=by
  intro X hx hX e
  subst e
  rcases hx with ⟨v,h1,h2⟩|⟨h1,h2⟩
  ·obtain ⟨q,hr⟩:=hX v w h2
   have:=Tx (lo:=st'.nx) (hi:=st'.nx) hok q
   exact .inl ⟨v,w,_,h1,this.1,this.2,hr⟩
  ·refine .inr ⟨h1,h2.mono ?_⟩
   rintro e w' ⟨v,rfl,h3⟩
   obtain ⟨q,hr⟩:=hX v w' h3
   have:=Tx (lo:=st'.nx) (hi:=st'.nx) hok q
   exact ⟨v,_,rfl,this.1,this.2,hr⟩
 unfold cg at hm
 cases h1:A.get .nil args with
 |some x=>
  rw [h1] at hm
  simp only [Option.map_eq_some_iff] at hm
  obtain ⟨r',h2,h3⟩:=hm
  cases h3
  have hargs:=A.ok (b0:=w.heap.size) (hok.part (hm:=.nil) (fun o x hx=>by rw [Tr.get_nil] at hx;cases hx)) (uq.nil g g.K (fun _ _ h=>h)) hrel h1
  refine go _ (h x r h2 g.K w vs hok.K hargs) (fun v w' hv=>⟨hv.1,hv.2.lift hok.size (fun b j hk=>hk)⟩) rfl
 |none=>
  rw [h1] at hm
  simp only at hm
  cases h2:A.get st.h args with
  |none=>rw [h2] at hm;cases hm
  |some x=>
   rw [h2] at hm
   simp only at hm
   cases h3:F x with
   |none=>rw [h3] at hm;cases hm
   |some r'=>
    rw [h3] at hm
    simp only at hm
    cases h4:r'.fresh with
    |false=>
     rw [h4] at hm
     cases hm
     obtain ⟨K1,eK⟩:∃ K1:Nat→Nat→Prop,(fun b j=>g.K b j∨((∃ o base,(st.h.get o).isSome=true∧g.inj o=some (b,base))∧b<w.heap.size))=K1:=⟨_,rfl⟩
     have hK1:∀ b j,K1 b j↔(g.K b j∨((∃ o base,(st.h.get o).isSome=true∧g.inj o=some (b,base))∧b<w.heap.size)):=fun b j=>by rw [← eK]
     have hK1s:∀ b j,K1 b j→b<w.heap.size:=fun b j hk=>((hK1 b j).1 hk).elim (hok.K b j) (fun q=>q.2)
     have hargs:=A.ok (b0:=w.heap.size) (K:=K1) hok ⟨fun b j hk=>(hK1 b j).2 (.inl hk),fun o cells k s e ho b base hi j hj=>by
      obtain ⟨b',base',h5,_,h6⟩:=hok.obj o _ ho
      rw [hi] at h5;cases h5
      exact (hK1 _ _).2 (.inr ⟨⟨o,base,by rw [ho];rfl,hi⟩,h6.lt⟩)⟩ hrel h2
     have fin:∀ (v:Value) (w':World),pc w w'∧Rel (gK w.heap.size (Iz K1 w w')) w' r v →
      Step g st.h w st.nx st.nx { g with K:=Iz K1 w w' } .nil w'∧Ok { g with K:=Iz K1 w w' } .nil w'∧Rel { g with K:=Iz K1 w w' } w' r v:=by
      rintro v w' ⟨q,hr⟩
      refine ⟨⟨⟨rfl,fun _ _ h=>h,fun b j h=>.inl ((hK1 b j).2 (.inl h)),fun b j hj=>nr (q.heap b (hok.K b j hj)),fun b cs e fr hb=>⟨cs,fr,(q.heap b (br hb)).trans hb,rfl⟩,fun b l hb=>⟨l,(q.heap b (br hb)).trans hb⟩,fun b cs e fr hb _=>q.heap b (br hb)⟩,
       q.size,q.os,q.tape,q.output,fun b hb _=>q.heap b hb,fun _ h _=>h,fun o b base ho hi=>(by rw [Tr.get_nil] at ho;cases ho),fun b j hk=>?_⟩,
       ⟨Nat.le_trans hok.size q.size,fun o x hx=>(by rw [Tr.get_nil] at hx;cases hx),fun o o' x x' b base base' _ hx=>(by rw [Tr.get_nil] at hx;cases hx),fun b j hk=>?_⟩,hr.lift hok.size (fun b j hk=>hk)⟩
      ·rcases hk with hk|hk
       ·rcases (hK1 b j).1 hk with hk|⟨hk,_⟩
        ·exact .inl hk
        ·exact .inr (.inr hk)
       ·exact .inr (.inl hk.1)
      ·rcases hk with hk|hk
       ·exact Nat.lt_of_lt_of_le (hK1s b j hk) q.size
       ·exact hk.2
     rcases h x r h3 K1 w vs hK1s hargs with ⟨v,p1,p2⟩|⟨p1,p2⟩
     ·have q:=fin v w p2
      exact .inl ⟨v,w,_,p1,q.1,q.2.1,q.2.2⟩
     ·refine .inr ⟨p1,p2.mono ?_⟩
      rintro e w' ⟨v,rfl,p3⟩
      have q:=fin v w' p3
      exact ⟨v,_,rfl,q.1,q.2.1,q.2.2⟩
    |true=>
     rw [h4] at hm
     cases hm
     have hargs:=A.ok (b0:=w.heap.size) (K:=fun b _=>b<w.heap.size) hok ⟨fun b j hk=>hok.K b j hk,fun o cells k s e ho b base hi j hj=>by
      obtain ⟨b',base',h5,_,h6⟩:=hok.obj o _ ho
      rw [hi] at h5;cases h5
      exact h6.lt⟩ hrel h2
     refine go _ (h x r h3 (fun b _=>b<w.heap.size) w vs (fun _ _ h=>h) hargs) (fun v w' hv=>⟨hv.1,hv.2.fresh h4 hok.size (fun b j hk hle=>?_)⟩) rfl
     rcases hk with hk|hk
     ·omega
     ·exact .inr hk
theorem an.nil (P:Program):an P []:=fun f b m h=>by cases h
theorem an.cons {P:Program} [KP P] {f:Nat} {b:Bool} {m:List AV→M AV} {T:dv} (h:∀ args,De P f args (m args)) (hT:an P T):an P ((f,b,m)::T):=by
 intro f' b' m' hf args
 simp only [dv.find] at hf
 by_cases e:f=f'
 ·subst e
  simp only [Nat.beq_refl,cond_true,Option.some.injEq] at hf
  cases hf
  exact h args
 ·rw [ou e,cond_false] at hf
  exact hT f' b' m' hf args
def ama (g:Gh) (st:St) (w:World):dy:={ ke g st.h w st.nx (fun _=>False) with n0:=w.heap.size }
theorem js.ofC {g st w} (hok:Ok g st.h w) (hfr:∀ o,st.nx≤o→g.inj o=none):js (ama g st w) g st w:=
 ⟨hok,fun o h1 _=>hfr o h1,⟨rfl,fun _o _ho=>rfl,fun _ _ h=>h,fun _ _ _=>rfl,Nat.le_refl _,rfl,rfl,rfl,fun _ _ _=>rfl,fun o _b base ho hi=>.inr (.inr ⟨o,base,ho,hi⟩),fun _ _ h=>.inl h,
  fun _b cs _e fr h=>⟨cs,fr,h,rfl⟩,fun _b l h=>⟨l,h⟩,fun _ _ _ _ _ _=>rfl⟩,Nat.le_refl _⟩
theorem js.azi {g st w g' st' w'} (h:js (ama g st w) g' st' w') (hfr:∀ o,st.nx≤o→g.inj o=none):Step g st.h w st.nx st'.nx g' st'.h w':=by
 have b:=h.base
 have pins:∀ o,o<st.nx→g'.inj o=g.inj o:=fun o ho=>b.pins o (.inl ho)
 refine ⟨⟨b.b0,fun o p hp=>?_,b.K,b.cell,b.sg,b.lp,b.whole⟩,b.size,b.os,b.tape,b.output,fun c hc hn=>b.frame c hc (fun hO=>?_),fun o ho hr=>?_,fun o c base ho hi=>?_,fun c j hk=>?_⟩
 ·by_cases h1:st.nx≤o
  ·rw [hfr o h1] at hp;cases hp
  ·rw [pins o (by omega)];exact hp
 ·rcases hO with hO|⟨o,base,h1,h2⟩
  ·exact hO
  ·exact hn o base h1 h2
 ·by_cases h1:o<st.nx
  ·rw [pins o h1];exact ho
  ·exact h.fresh o (by omega) (fun hf=>hf)
 ·rcases b.own o c base ho hi with h1|h1|h1
  ·exact .inl h1
  ·exact h1.elim
  ·exact .inr h1
 ·rcases b.oj c j hk with h1|h1|h1|h1
  ·exact .inl h1
  ·exact .inr (.inl h1)
  ·exact h1.elim
  ·exact .inr (.inr h1)
theorem cz {P:Program} [KP P] {T:dv} (hT:an P T) (hm:P.follows .mixedOrders=true) {f:Nat} {fn:Func} {body:Code} (hf:P.funcs[f]? = some fn) (hb:fn.body=some body) (he:l8 P f=true) (hs:dt fn.ntmps body=true)
 {args:List AV} (hl:Nat.ble args.length fn.ntmps=true) {st:St} (hp:Nat.ble st.nx 1000=true) {R:AV→St→Prop}
 (h:wl P T st.nx body (ct P fn.results.toList R) (bp 0 args) st):zt P f args st R:=by
 intro g w vs hok hfr hrel
 refine .inr ⟨oz he _ _,ti (ro:=none) (n:=0) (callsIn_of_wp_marks hf hb trivial ?_)⟩
 have hcur:=js.ofC (w:=w) hok hfr
 refine wpIn_mono (alo hT hm (N:=0) (B:=ama g st w) (nt:=fn.ntmps) (fun _ h=>h) (Nat.le_of_ble_eq_true hp) (Nat.le_refl _) body hs _ _ _ g w _ h hcur (zg hrel (Nat.le_of_ble_eq_true hl)) (Marks.nil _ _ _ _)) ?_
 rintro ex a w' ⟨e,L,st',g',rfl,hq,hc,hr,hd⟩
 have fin:Gs (ss P L st' fn.results.toList) R st'→bodyPostM (eh none) 0 P fn (fun e w'=>∃ v g' r st',e = .returned v∧R r st'∧st.nx≤st'.nx∧Step g st.h w st.nx st'.nx g' st'.h w'∧Ok g' st'.h w'∧Rel g' w' r v) .ret a w':=by
  intro hq
  show LeavesInM (eh none) 0 P fn a.tmps _ a.defers .returning w'
  unfold Gs at hq
  cases hres:ss P L st' fn.results.toList with
  |none=>rw [hres] at hq;exact hq.elim
  |some l=>
   rw [hres] at hq
   obtain ⟨bs,e1,e2,e3⟩:=hd
   have e1:=e1.trans (List.append_nil _)
   rw [e1]
   refine Bp (Good:=fun u=>Ok g' st'.h u∧Step g st.h w st.nx st'.nx g' st'.h u∧(∀ a v,Rel g' w' a v→Rel g' u a v)) (S:=fun b=>w.heap.size≤b∧ir g' st'.h b) ?_ ?_ bs w'
    ⟨hc.ok,hc.azi hfr,fun _ _ h=>h⟩ e2 (fun b hb=>⟨⟨(e3 b hb).1,(e3 b hb).2.2⟩,(e3 b hb).2.1⟩)
   ·rintro u b ⟨g1,g2,g3⟩ ⟨hb1,hb2⟩ hb3
    have hput:=Ok.Gp (ds':=none) g1 hb3 hb2
    exact ⟨hput.1,Step.arb (ds':=none) hok g2 hb1,fun a v h=>hput.2 a v (g3 a v h)⟩
   ·rintro u ⟨g1,g2,g3⟩
    obtain ⟨us,h1,h2⟩:=Vh (P:=P) g1 ⟨hr.1,fun t=>g3 _ _ (hr.2 t)⟩ fn.results.toList l hres
    obtain ⟨v,h3,h4⟩:=Wf h1 h2
    exact ⟨v,h3,v,g',_,st',rfl,hq,hc.az,g2,g1,h4⟩
 cases e with
 |normal=>exact fin hq
 |ret=>exact fin hq
 |exit id=>exact hq.elim
end
end Go.Vm
namespace Go.Vm
variable [TK]
noncomputable section
section code
variable (P : Program) (T : dv) (az : Nat) (Q : QL) (L : SL) (st : St)
theorem ahs:wl P T az .skip Q L st=Q .normal L st:=id rfl
theorem aar (l):wl P T az (.label l) Q L st=Q .normal L st:=id rfl
theorem Xe (i ops d):wl P T az (.region i ops d) Q L st=Dv P T ops d (Q .normal) L st:=id rfl
theorem anu (a b):wl P T az (.seq a b) Q L st=wl P T az a (Gu (wl P T az b) Q) L st:=id rfl
theorem aiv (c a b):wl P T az (.cond c a b) Q L st=ug (dh L c) (wl P T az a Q) (wl P T az b Q) L st:=id rfl
theorem aev (i b):wl P T az (.block i b) Q L st=wl P T az b (Jb i Q) L st:=id rfl
theorem ahr (b):wl P T az (.loop b) Q L st=se az (wl P T az b) Q L st:=id rfl
theorem ae8 (b):wl P T az (.scope b) Q L st=wl P T az b Q L st:=id rfl
theorem ahe (i):wl P T az (.exit i) Q L st=Q (.exit i) L st:=id rfl
theorem amt:wl P T az .ret Q L st=Q .ret L st:=id rfl
theorem an1 (W):Gu W Q .normal L st=W Q L st:=id rfl
theorem aow (W i):Gu W Q (.exit i) L st=Q (.exit i) L st:=id rfl
theorem apf (W):Gu W Q .ret L st=Q .ret L st:=id rfl
theorem aqa (i):Jb i Q .normal L st=Q .normal L st:=id rfl
theorem amu (i):Jb i Q .ret L st=Q .ret L st:=id rfl
theorem aoi (i j):Jb i Q (.exit j) L st=bif Nat.beq j i then Q .normal L st else Q (.exit j) L st:=id rfl
theorem aib (keep X):vw az keep X Q .normal L st=X (gv az keep L st) (ey az keep L st):=id rfl
theorem ahc (keep X i):vw az keep X Q (.exit i) L st=Q (.exit i) L st:=id rfl
theorem ah1 (keep X):vw az keep X Q .ret L st=Q .ret L st:=id rfl
theorem anp (rs R):ct P rs R .normal L st=Gs (ss P L st rs) R st:=id rfl
theorem aoy (rs R):ct P rs R .ret L st=Gs (ss P L st rs) R st:=id rfl
theorem Ym (ops K):Dv P T ops false K L st=opsL P T ops ops.toList K L st:=id rfl
theorem ace (ops K):opsL P T ops [] K L st=K L st:=id rfl
theorem X0 (ops o r K):opsL P T ops (o::r) K L st=xi ops o.guard (I6 P T o (opsL P T ops r K)) (Hj o.dst (opsL P T ops r K)) L st:=id rfl
theorem ach (ops K recs):Ej P T ops [] K recs L st=(iz (Region.before ops) 0 recs=true∧K L st):=id rfl
theorem Yw (ops o r K recs):Ej P T ops (o::r) K recs L st=xi ops o.guard (gg P T o recs (Ej P T ops r K)) (Hj o.dst (Ej P T ops r K (recs++[⟨[],[]⟩]))) L st:=id rfl
theorem Q4 (ops X Y):xi ops none X Y L st=X L st:=id rfl
theorem Sd (ops j c X Y):xi ops (some (j,c)) X Y L st=Ea (lk L (tn ops j)) c X Y L st:=id rfl
theorem acq (b:Bool) (X Y:SL→St→Prop):Ea (.sc (.bool b)) true X Y L st=ug (.sc (.bool b)) X Y L st:=by cases b<;>simp [Ea,zx,B0,E3,ug,pz,AV.bool,AV.exact,ny]
theorem aea (b:Bool) (X Y:SL→St→Prop):Ea (.sc (.bool b)) false X Y L st=ug (.sc (.bool b)) Y X L st:=by cases b<;>simp [Ea,zx,B0,E3,ug,pz,AV.bool,AV.exact,ny]
theorem ac6 (c:Bool) (X Y:SL→St→Prop):Ea (.sc undef) c X Y L st=Y L st:=by simp [Ea,zx,B0,E3,AV.exact,undef]
theorem ah0 (o K):I6 P T o K L st=yr (fo P T o (dh L) st) P o L st K:=id rfl
theorem aal (v o K st'):yr (some (v,st')) P o L st K=K (jl o.dst v L) st':=id rfl
theorem ad1 (K d r):i5 K d L r st=K (jl d r L) st:=id rfl
theorem ac3 (ro F o recs K v fl):Ec ro F o recs K L st (some (v,fl))=((Fc st.nx F=true∧Nat.ble fl.nx di=true)∧same (qc st.h F) fl.h (bif ro then F else []) ∧
 K (recs++[⟨F,(bif ro then [] else F)++dw st.nx (fl.nx - st.nx)⟩]) (jl o.dst v L) { h:=tv fl.h (F++dw st.nx (fl.nx - st.nx)) st.h,nx:=fl.nx,rl:=[],wl:=[] }):=id rfl
theorem Yt (d K):Hj d K L st=K (jl d (.sc undef) L) st:=id rfl
theorem ca (b X Y):ug (.sc (.bool b)) X Y L st=((b=true→X L st)∧(b=false→Y L st)):=id rfl
theorem Hu (X Y):ug (.sc (.bool true)) X Y L st=X L st:=by simp [ug,pz,AV.bool,AV.exact,ny]
theorem Hq (X Y):ug (.sc (.bool false)) X Y L st=Y L st:=by simp [ug,pz,AV.bool,AV.exact,ny]
theorem X8 (v d K):G9 (some (v,st)) d L K=K (jl d v L) st:=id rfl
theorem Wy (d v):jl (some d) v L=(d,v)::L:=id rfl
theorem Wz (v):jl none v L=L:=id rfl
theorem aph (l R):Gs (some l) R st=R (pack l) st:=id rfl
theorem aof (d v):lk ((d,v)::L) d=v:=by simp [lk]
theorem ah6 (d t v) (h:(d == t)=false):lk ((d,v)::L) t=lk L t:=by
 have e:d≠t:=by simpa using h
 rw [mz,if_neg e]
theorem auk (t):dh L (.tmp t)=lk L t:=id rfl
theorem aug (v):dh L (.const v) = .sc v:=id rfl
theorem aud (f):dh L (.func f) = .sc (.func (.func f) #[] #[]):=id rfl
theorem aqs:ss P L st []=some []:=id rfl
theorem amv (t r):ss P L st (.tmp t::r)=(ss P L st r).map (lk L t :: ·):=id rfl
theorem am9 (a t r):ss P L st (.cell a t::r)=match qv P t (lk L a) st with|some (v,_)=>(ss P L st r).map (v :: ·)|none=>none:=id rfl
end code
section ops
variable (P : Program) (T : dv) (ρ : Operand → AV) (d : Option Tmp) (ty : TypeId) (pos : String) (af : Array Edge) (gd : Option (Nat × Bool))
theorem Ii (x):fo P T ⟨d,.move x,ty,pos,af,gd⟩ ρ=mono (M.pure (ρ x)):=id rfl
theorem Es (x):fo P T ⟨d,.assign x,ty,pos,af,gd⟩ ρ=mono (M.pure (ρ x)):=id rfl
theorem Ja (t a):fo P T ⟨d,.load t a,ty,pos,af,gd⟩ ρ=mono (qv P t (ρ a)):=id rfl
theorem zl (s x f):fo P T ⟨d,.fieldAddr s x f,ty,pos,af,gd⟩ ρ=mono (rr P s (ρ x) f):=id rfl
theorem O5 (op t x y u):fo P T ⟨d,.binOp op t x y u,ty,pos,af,gd⟩ ρ=mono (Il P ρ ⟨d,.binOp op t x y u,ty,pos,af,gd⟩ op t x y):=id rfl
theorem Ib (c a b):fo P T ⟨d,.pick c a b,ty,pos,af,gd⟩ ρ=mono (D0 (ρ c) (ρ a) (ρ b)):=id rfl
theorem Gc (t a x):fo P T ⟨d,.store t a x,ty,pos,af,gd⟩ ρ=mono (vu P t (ρ a) (ρ x)):=id rfl
theorem Jj (t i):fo P T ⟨d,.extract t i,ty,pos,af,gd⟩ ρ=mono (x9 (ρ t) i):=id rfl
theorem zi (t x i):fo P T ⟨d,.indexAddr t x i,ty,pos,af,gd⟩ ρ=mono (ry P t (ρ x) (ρ i)):=id rfl
theorem A9 (x):fo P T ⟨d,.nilCheck x,ty,pos,af,gd⟩ ρ=mono (oy (ρ x)):=id rfl
theorem Oz (t):fo P T ⟨d,.alloc t,ty,pos,af,gd⟩ ρ=mono (Ag P t):=id rfl
theorem Ye (t x):fo P T ⟨d,.box t x,ty,pos,af,gd⟩ ρ=mono (Jc t (ρ x)):=id rfl
theorem Gi (t ps):fo P T ⟨d,.build t ps,ty,pos,af,gd⟩ ρ=mono (yd P t (ps.toList.map fun p=>(p.1,ρ p.2))):=id rfl
theorem xd (t n ps):fo P T ⟨d,.buildSlice t n ps,ty,pos,af,gd⟩ ρ=mono (n7 P t n (ps.toList.map fun p=>(p.1,ρ p.2))):=id rfl
theorem Fu (t l c):fo P T ⟨d,.makeSlice t l c,ty,pos,af,gd⟩ ρ=mono (mj P t (ρ l) (ρ c)):=id rfl
theorem Ha (f a b):fo P T ⟨d,.makeFunc f a b,ty,pos,af,gd⟩ ρ=mono (M.pure (.fn f (a.toList.map ρ) (b.toList.map ρ))):=id rfl
theorem C6 (s u x):fo P T ⟨d,.convert s u x,ty,pos,af,gd⟩ ρ=mono (u3 P ρ ⟨d,.convert s u x,ty,pos,af,gd⟩ s u (ρ x)):=id rfl
theorem Px (s x f):fo P T ⟨d,.field s x f,ty,pos,af,gd⟩ ρ=mono (Dq P s (ρ x) f):=id rfl
theorem O3 (t x i):fo P T ⟨d,.index t x i,ty,pos,af,gd⟩ ρ=mono (Aj P ρ ⟨d,.index t x i,ty,pos,af,gd⟩ t x i):=id rfl
theorem Oe (t x l h m):fo P T ⟨d,.slice t x l h m,ty,pos,af,gd⟩ ρ=mono (Ad P ρ ⟨d,.slice t x l h m,ty,pos,af,gd⟩ t x l h m):=id rfl
theorem Me (x ts):fo P T ⟨d,.call { callee:=.builtin .len,args:=#[x],argTypes:=ts },ty,pos,af,gd⟩ ρ=mono (uj ((ts[0]?).bind P.underlying) (ρ x)):=id rfl
theorem Ek (s x ts):fo P T ⟨d,.call { callee:=.builtin .append,args:=#[s,x],argTypes:=ts },ty,pos,af,gd⟩ ρ=mono (pq P ts[0]? ((ts[1]?).bind P.underlying) (ρ s) (ρ x)):=id rfl
theorem So (s x ts):fo P T ⟨d,.call { callee:=.builtin .copy,args:=#[s,x],argTypes:=ts },ty,pos,af,gd⟩ ρ=mono (Hw P ts[0]? (ρ s) (ρ x)):=id rfl
theorem Uf (f args ts):fo P T ⟨d,.call { callee:=.value f,args,argTypes:=ts },ty,pos,af,gd⟩ ρ=vr T (ρ f) (args.toList.map ρ):=id rfl
end ops
section monad
variable {α β : Type} (s : St)
theorem atw (m:M α):mono m s=match m s with|none=>none|some (a,s')=>bif decide (s.nx≤s'.nx) then some (a,s') else none:=by
 have:∀ a b,Nat.ble a b=decide (a≤b):=fun a b=>by rw [Bool.eq_iff_iff];simp
 unfold mono
 cases m s with
 |none=>rfl
 |some p=>simp only [this]
theorem at1 (m:M α) (f : α→M β):(m.bind f) s=match m s with|none=>none|some (a,s')=>f a s':=id rfl
theorem aty (a : α):(M.pure a) s=some (a,s):=id rfl
theorem aum:(M.fail:M α) s=none:=id rfl
theorem at5 (a : α):(M.of (some a)) s=some (a,s):=id rfl
theorem aup (b:Bool) (m m':M α):(bif b then m else m') s=bif b then m s else m' s:=by cases b<;>rfl
theorem auv (o:Nat):ed o s=match s.h.get o with|some x=>some (x,{ s with rl:=o::s.rl })|none=>none:=id rfl
theorem auq (x:bh):m7 x s=bif decide (s.nx≤di) then some (s.nx,{ s with h:=s.h.set depth s.nx (some x),nx:=s.nx+1,wl:=s.nx::s.wl }) else none:=by
 have:Nat.ble s.nx di=decide (s.nx≤di):=by rw [Bool.eq_iff_iff];simp
 unfold m7;rw [this]
theorem at4 (o:Nat) (x:bh):po o x s=match s.h.get o with|some _=>bif decide (o≤di) then some ((),{ s with h:=s.h.set depth o (some x),wl:=o::s.wl }) else none|none=>none:=by
 have:Nat.ble o di=decide (o≤di):=by rw [Bool.eq_iff_iff];simp
 unfold po;rw [this];rfl
theorem aul (o:Nat):Ix o s=match s.h.get o with|some _=>bif decide (o≤di) then some ((),{ s with h:=s.h.set depth o none,wl:=o::s.wl }) else none|none=>none:=by
 have:Nat.ble o di=decide (o≤di):=by rw [Bool.eq_iff_iff];simp
 unfold Ix;rw [this];rfl
theorem aen (t:Tr bh) (n m:Nat) (x:Option bh) (h:n≤16777214):(Tr.set depth t n x).get m=if m=n then x else t.get m:=ji t n m x h
theorem ady (n:Nat):(Tr.nil:Tr bh).get n=none:=id rfl
theorem as3 (a b:Nat):Nat.ble a b=decide (a≤b):=by rw [Bool.eq_iff_iff];simp
theorem axg (a b:Nat):Nat.blt a b=decide (a<b):=by rw [Bool.eq_iff_iff];simp
theorem alz (a b:Nat):Nat.beq a b=decide (a=b):=by rw [Bool.eq_iff_iff];simp
end monad
theorem Ox {a:AV} {x y x' y':Prop} (h1:x→x') (h2:y→y') (h:pz a x y):pz a x' y':=by
 unfold pz at *
 split at h
 ·exact ⟨fun e=>h1 (h.1 e),fun e=>h2 (h.2 e)⟩
 ·exact h.elim
theorem yz {ops L gd} {x y x' y':Prop} (h1:x→x') (h2:y→y') (h:guarded ops L gd x y):guarded ops L gd x' y':=by
 unfold guarded at *
 split at h
 ·exact h1 h
 ·unfold zx at *
  split at h
  ·exact ⟨fun e=>h1 (h.1 e),fun e=>h2 (h.2 e)⟩
  ·exact h.elim
theorem zt.mono {P f args st} {R R':AV→St→Prop} (h:∀ r st,R r st→R' r st) (hc:zt P f args st R):zt P f args st R':=by
 intro g w vs h1 h2 h3
 rcases hc g w vs h1 h2 h3 with ⟨v,w',g',r,st',q1,q2,q3⟩|⟨q1,q2⟩
 ·exact .inl ⟨v,w',g',r,st',q1,h _ _ q2,q3⟩
 ·refine .inr ⟨q1,q2.mono ?_⟩
  rintro e w' ⟨v,g',r,st',p1,p2,p3⟩
  exact ⟨v,g',r,st',p1,h _ _ p2,p3⟩
theorem al9 {P o L st} {K K':SL→St→Prop} (h:∀ L st,K L st→K' L st) (hc:Na P o L st K):Na P o L st K':=by
 unfold Na al0 at *
 split at hc
 ·split at hc
  ·exact zt.mono (fun r st hk=>h _ _ hk) hc
  ·exact hc.elim
 ·exact hc.elim
theorem F6 {P T ops} {K K':SL→St→Prop} (h:∀ L st,K L st→K' L st):∀ (l:List Oper) (L:SL) (st:St),opsL P T ops l K L st→opsL P T ops l K' L st
 | [],L,st,hh=>h L st hh
 |o::r,L,st,hh=>yz (fun q=>by
  unfold I6 yr at *
  split at q
  ·exact F6 h r _ _ q
  ·exact al9 (fun L st=>F6 h r L st) q) (fun q=>F6 h r _ _ q) hh
theorem Fg {P T ops} {K K':SL→St→Prop} (h:∀ L st,K L st→K' L st):∀ (l:List Oper) (recs:List Rec) (L:SL) (st:St),Ej P T ops l K recs L st→Ej P T ops l K' recs L st
 | [],recs,L,st,hh=>⟨hh.1,h L st hh.2⟩
 |o::r,recs,L,st,hh=>yz (fun q=>by
  unfold gg ky Ec at *
  split at q
  ·exact ⟨q.1,q.2.1,Fg h r _ _ _ q.2.2⟩
  ·exact q.elim) (fun q=>Fg h r _ _ _ q) hh
theorem F9 {P T ops} {K K':SL→St→Prop} (h:∀ L st,K L st→K' L st):∀ (l:List Oper) (recs:List Rec) (L:SL) (st:St),J3 P T ops l K recs L st→J3 P T ops l K' recs L st
 | [],recs,L,st,hh=>⟨hh.1,h L st hh.2⟩
 |o::r,recs,L,st,hh=>yz (fun q=>Rz (fun _ _ _ k=>F9 h r _ _ _ k) q) (fun q=>F9 h r _ _ _ q) hh
theorem yi {P T l az ops} {R:He} (hR:∀ p args (X X':Ex→St→Prop) st,(∀ e st,X e st→X' e st)→R p args X st→R p args X' st) {K K':Option Ex→SL→St→Prop} (h:∀ pe L st,K pe L st→K' pe L st) :
 ∀ (ls:List Oper) (pe:Option Ex) (L:SL) (st:St),Dz P T l R az ops ls K pe L st→Dz P T l R az ops ls K' pe L st
 | [],pe,L,st,hh=>h pe L st hh
 |o::r,pe,L,st,hh=>yz (fun q=>by
  unfold opI U4 at *
  split at q
  ·unfold G9 at *
   split at q
   ·exact yi hR h r _ _ _ q
   ·exact q.elim
  ·obtain ⟨h0,keep,q⟩:=q
   refine ⟨h0,keep,hR _ _ _ _ _ (fun e st q=>?_) q⟩
   cases e with
   |normal=>exact yi hR h r _ _ _ q
   |ret=>exact yi hR h r _ _ _ q
   |exit id=>exact yi hR h r _ _ _ q) (fun q=>yi hR h r _ _ _ q) hh
theorem Qg {P:Program} {T:dv} {l az:Nat} {R:He} (hR:∀ p args (X X':Ex→St→Prop) st,(∀ e st,X e st→X' e st)→R p args X st→R p args X' st) :
 ∀ (c:Code) (Q Q':QI),(∀ e pe L st,Q e pe L st→Q' e pe L st)→∀ pe L st,oq P T l R az c Q pe L st→oq P T l R az c Q' pe L st:=by
 intro c
 induction c with
 |skip=>intro Q Q' h pe L st hh;exact h _ _ _ _ hh
 |label l=>intro Q Q' h pe L st hh;exact h _ _ _ _ hh
 |exit i=>intro Q Q' h pe L st hh;exact h _ _ _ _ hh
 |ret=>intro Q Q' h pe L st hh;exact h _ _ _ _ hh
 |region i ops draw=>
  intro Q Q' h pe L st hh
  cases draw with
  |false=>exact yi hR (h _) _ _ _ _ hh
  |true=>exact ⟨hh.1,hh.2.imp (Fg (h _ _) _ _ _ _) (F9 (h _ _) _ _ _ _)⟩
 |seq a b iha ihb=>
  intro Q Q' h pe L st hh
  refine iha _ _ ?_ pe L st hh
  intro e pe L st q
  cases e with
  |normal=>exact ihb _ _ h pe L st q
  |_=>exact h _ _ _ _ q
 |cond c a b iha ihb=>intro Q Q' h pe L st hh;exact Ox (iha _ _ h pe L st) (ihb _ _ h pe L st) hh
 |block i b ih=>
  intro Q Q' h pe L st hh
  refine ih _ _ ?_ pe L st hh
  intro e pe L st q
  cases e with
  |exit j=>
   simp only [Qc] at *
   cases hb:Nat.beq j i with
   |true=>rw [hb] at q;exact h _ _ _ _ q
   |false=>rw [hb] at q;exact h _ _ _ _ q
  |_=>exact h _ _ _ _ q
 |loop b ih=>
  intro Q Q' h pe L st hh
  obtain ⟨h0,keep,hh⟩:=hh
  refine ⟨h0,keep,fun X hX=>hh X fun vs os q=>hX vs os (ih _ _ ?_ _ _ _ q)⟩
  intro e pe L st q
  cases e with
  |normal=>exact q
  |_=>exact h _ _ _ _ q
 |scope b ih=>intro _ _ _ _ _ _ hh;exact hh.elim
 |rangeFunc=>intro _ _ _ _ _ _ hh;exact hh.elim
 |goto=>intro _ _ _ _ _ _ hh;exact hh.elim
 |refuse=>intro _ _ _ _ _ _ hh;exact hh.elim
theorem aq6 {P:Program} {T:dv}:∀ (c:Code) (az:Nat) (Q Q':QL),(∀ e L st,Q e L st→Q' e L st)→∀ L st,wl P T az c Q L st→wl P T az c Q' L st:=by
 intro c
 induction c with
 |skip=>intro az Q Q' h L st hh;exact h _ _ _ hh
 |label l=>intro az Q Q' h L st hh;exact h _ _ _ hh
 |exit i=>intro az Q Q' h L st hh;exact h _ _ _ hh
 |ret=>intro az Q Q' h L st hh;exact h _ _ _ hh
 |region i ops draw=>
  intro az Q Q' h L st hh
  cases draw with
  |false=>exact F6 (h _) _ _ _ hh
  |true=>exact ⟨hh.1,hh.2.imp (Fg (h _) _ _ _ _) (F9 (h _) _ _ _ _)⟩
 |seq a b iha ihb=>
  intro az Q Q' h L st hh
  refine iha _ _ _ ?_ L st hh
  intro e L st q
  cases e with
  |normal=>exact ihb _ _ _ h L st q
  |_=>exact h _ _ _ q
 |cond c a b iha ihb=>intro az Q Q' h L st hh;exact Ox (iha _ _ _ h L st) (ihb _ _ _ h L st) hh
 |block i b ih=>
  intro az Q Q' h L st hh
  refine ih _ _ _ ?_ L st hh
  intro e L st q
  cases e with
  |exit j=>
   simp only [Jb] at *
   cases hb:Nat.beq j i with
   |true=>rw [hb] at q;exact h _ _ _ q
   |false=>rw [hb] at q;exact h _ _ _ q
  |_=>exact h _ _ _ q
 |loop b ih=>
  intro az Q Q' h L st hh
  obtain ⟨keep,hh⟩:=hh
  refine ⟨keep,fun X hX=>hh X fun vs os q=>hX vs os (ih _ _ _ ?_ _ _ q)⟩
  intro e L st q
  cases e with
  |normal=>exact q
  |_=>exact h _ _ _ q
 |scope b ih=>intro az Q Q' h L st hh;exact ih _ _ _ h L st hh
 |rangeFunc f ps a b iha ihb=>
  intro az Q Q' h L st hh
  obtain ⟨keep,h0,hh⟩:=hh
  refine ⟨keep,h0,?_⟩
  unfold Ml at *
  split at hh
  ·unfold Ky at *
   split at hh
   ·refine ⟨hh.1,fun l=>Qg (fun p args X X' st hX hr=>⟨hr.1,hr.2.1,iha _ _ _ (fun e L st q=>(by
     cases e with
     |normal=>exact ihb _ _ _ (fun e _ st q=>hX e st q) _ _ q
     |_=>exact q.elim)) _ _ hr.2.2⟩) _ _ _ (fun e pe L st q=>(by
     cases e with
     |exit id=>exact q.elim
     |normal=>
      cases pe with
      |none=>exact h _ _ _ q
      |some e=>exact h _ _ _ q
     |ret=>
      cases pe with
      |none=>exact h _ _ _ q
      |some e=>exact h _ _ _ q)) _ _ _ (hh.2 l)⟩
   ·exact hh.elim
  ·exact hh.elim
 |goto=>intro _ _ _ _ _ _ hh;exact hh.elim
 |refuse=>intro _ _ _ _ _ _ hh;exact hh.elim
theorem Ba {P:Program} {T:dv} {az:Nat} (c:Code) (Q Q':QL) (h:∀ e L st,Q e L st→Q' e L st) (L:SL) (st:St) (hh:wl P T az c Q L st):wl P T az c Q' L st:=aq6 c az Q Q' h L st hh
theorem dg {α:Type} {P:Program} {T:dv} {az:Nat} {b:Code} {Q:QL} {L:SL} {st:St} (keep:List Nat) (V : α→List AV) (O : α→List (Option bh)) (I : α→Prop) (μ : α→Nat) (x : α) (hx:I x)
 (hv:gv az keep L st=V x) (ho:ey az keep L st=O x)
 (step:∀ x,I x→wl P T az b (vw az keep (fun vs os=>∃ y,I y ∧ μ y < μ x∧vs=V y∧os=O y) Q) (ic keep (V x)) (bf (O x))):se az (wl P T az b) Q L st:=
 se.of keep V O I μ x hx hv ho (fun _ _ h=>Ba b _ _ h) step
section cods
theorem nh {α:Type} (C:c8 α) (l:Bool) (xs:List α):(cj C).val l xs = .vl l C.sz (xs.map (C.val l)):=id rfl
theorem Bk {α:Type} (C:c8 α):(cj C).sz=1:=id rfl
theorem Yr:ag.sz=1:=id rfl
theorem aca:bk.sz=1:=id rfl
theorem E6:cy.sz=1:=id rfl
theorem x0:cf.sz=1:=id rfl
theorem xu (k:IntKind):(au k).sz=1:=id rfl
theorem Dg:bd.sz=1:=id rfl
theorem Cb (l:Bool) (x:UInt8):bk.val l x = .sc (.int .u8 x.toNat):=id rfl
theorem Rk (l:Bool) (x:UInt16):cy.val l x = .sc (.int .u16 x.toNat):=id rfl
theorem Q6 (l:Bool) (x:UInt32):cf.val l x = .sc (.int .u32 x.toNat):=id rfl
theorem T8 (k:IntKind) (l:Bool) (x:Int):(au k).val l x = .sc (.int k x):=id rfl
theorem Oy (l:Bool) (x:Bool):bd.val l x = .sc (.bool x):=id rfl
theorem aho (o i:Nat):idx [] o i=none:=id rfl
theorem adp {α:Type} (C:c8 α) (τ:Nat→Option Nat) (l:Bool):AV.dm τ ∘ C.val l=C.val l:=by funext x;exact Nm C τ l x
theorem Q9 (l:Bool) (x:ByteArray):ag.val l x = .sc (.string x):=id rfl
theorem xn {α:Type} (C:c8 α) (fr:Bool) (h:Tr bh) (a:AV) (h1:a.known=true) (h2:a.isAgg=C.agg):C.gy fr h a=C.dec fr h a.cells:=by
 unfold c8.gy;rw [h1,h2];simp
theorem Xq (fr:Bool) (h:Tr bh) (n:UInt32):cf.gy fr h (.sc (.int .u32 n.toNat))=some n:=cf.Ln fr h true n (fun _=>rfl)
theorem Xh (fr:Bool) (h:Tr bh) (n:UInt16):cy.gy fr h (.sc (.int .u16 n.toNat))=some n:=cy.Ln fr h true n (fun _=>rfl)
theorem S9 (k:IntKind) (fr:Bool) (h:Tr bh) (n:Int):(au k).gy fr h (.sc (.int k n))=some n:=(au k).Ln fr h true n (fun _=>rfl)
theorem Pu (fr:Bool) (h:Tr bh) (b:Bool):bd.gy fr h (.sc (.bool b))=some b:=bd.Ln fr h true b (fun _=>rfl)
theorem T4 (fr:Bool) (h:Tr bh) (s:ByteArray):ag.gy fr h (.sc (.string s))=some s:=ag.Ln fr h true s (fun _=>rfl)
theorem Ak {α:Type} (C:c8 α) (fr:Bool) (h:Tr bh) (a:AV) (h1:a.known=true) (h2:a.isAgg=false) (h3:a.cells=[a]):(cj C).gy fr h a=gx C fr h a:=by
 rw [xn _ _ _ _ h1 h2,h3];rfl
theorem avj {α:Type} (C:c8 α) (fr:Bool) (h:Tr bh) (l:Bool) (xs:List α) (hl:(l || !fr)=true):(cj C).gy fr h (.vl l C.sz (xs.map (C.val l)))=some xs:=by
 refine (cj C).Ln fr h l xs ?_
 cases fr<;>simp_all
theorem aew {α:Type} (C:c8 α) (fr:Bool) (h:Tr bh):gx C fr h (.sc (.slice none 0 0))=some []:=id rfl
theorem ue {α:Type} (C:c8 α) (fr:Bool) (h:Tr bh) (l:Bool) (xs:List α) (n:Nat) (hn:n=C.sz) (hl:(l || !fr)=true):gx C fr h (.vl l n (xs.map (C.val l)))=some xs:=by
 subst hn
 have:(cj C).gy fr h (.vl l C.sz (xs.map (C.val l)))=some xs:=avj C fr h l xs hl
 rwa [Ak C fr h _ rfl rfl rfl] at this
theorem aiw {α:Type} (C:c8 α) (fr:Bool) (h:Tr bh) (o off len n:Nat):gx C fr h (.sl o off len n)=bif decide (n=C.sz) then (h.get o).bind (mr C fr h off len) else none:=by
 show (bif Nat.beq n C.sz then _ else _)=_
 rw [alz]
theorem Sx {α:Type} (C:c8 α) (fr:Bool) (h:Tr bh) (off len:Nat) (cells:List AV) (k s:Nat) (e:TypeId) :
 mr C fr h off len (.row cells k s e)=bif decide (off+len * C.sz≤cells.length) && wv fr C.sz C.kd s off cells.length len e then v8 C fr h len ((cells.drop off).take (len * C.sz)) else none:=by
 show (bif Nat.ble _ _ && _ then _ else _)=_
 rw [as3]
theorem aik (sz kd st off len n et):wv false sz kd st off len n et=true:=id rfl
theorem aqn {α:Type} (C:c8 α) (fr:Bool) (h:Tr bh) (n:Nat) (l:List AV):v8 C fr h (n+1) l=match C.dec fr h (l.take C.sz),v8 C fr h n (l.drop C.sz) with|some x,some xs=>some (x::xs)|_,_=>none:=id rfl
theorem aqi {α:Type} (C:c8 α) (fr:Bool) (h:Tr bh) (l:List AV):v8 C fr h 0 l=some []:=id rfl
theorem Sf (fr:Bool) (h:Tr bh) (n:Int) (h0 : 0≤n) (h1:n<256):bk.dec fr h [.sc (.int .u8 n)]=some (UInt8.ofNat n.toNat):=by
 show u8V (.int .u8 n)=_;simp [u8V,h0,h1]
theorem ax8 {α β:Type} (A:c8 α) (B:c8 β) (l:Bool) (p : α × β):(r2 A B).E l p = .gi [A.val l p.1,B.val l p.2]:=id rfl
theorem ayr {α:Type} (A:c8 α) (l:Bool) (x : α):(r1 A).E l x=A.val l x:=id rfl
theorem ae7 (T:dv) (g:Nat) (a b:Array Value) (args:List AV):vr T (.sc (.func (.func g) a b)) args=uk T g (a.toList.map .sc++args++b.toList.map .sc):=id rfl
theorem ado (T:dv) (g:Nat) (a b:List AV) (args:List AV):vr T (.fn (.func g) a b) args=uk T g (a++args++b):=id rfl
theorem Yl (f:Nat) (b:Bool) (m:List AV→M AV) (T:dv) (args:List AV):uk ((f,b,m)::T) f args=mono (m args):=by simp [uk,dv.find]
theorem Tf (f g:Nat) (b:Bool) (m:List AV→M AV) (T:dv) (args:List AV) (h:(f == g)=false):uk ((f,b,m)::T) g args=uk T g args:=by
 have:f≠g:=by simpa using h
 simp [uk,dv.find,ou this]
theorem aau {α:Type} (A:AC α) (F : α→Option AV) (args:List AV) (st:St):cg A F args st=match A.get .nil args with|some x=>(F x).map fun r=>(r,st)|none=>match A.get st.h args with|some x=>(match F x with|some r=>bif r.fresh then some (r,st) else some (r,{ st with h:=.nil })|none=>none)|none=>none:=id rfl
theorem ay6 {α β:Type} (A:c8 α) (B:c8 β) (fr:Bool) (h:Tr bh) (a b:AV):(r2 A B).get fr h (.gi [a,b])=match A.gy fr h a,B.gy fr h b with|some x,some y=>some (x,y)|_,_=>none:=id rfl
theorem aym (h:Tr bh):a0.get h []=some ():=id rfl
theorem axs {α β:Type} (C:c8 α) (R:AC β) (h:Tr bh) (a:AV) (r:List AV):(aC C R).get h (a::r)=match C.gy false h a,R.get h r with|some x,some y=>some (x,y)|_,_=>none:=id rfl
theorem axe {α:Type} (A:c8 α) (fr:Bool) (h:Tr bh) (a:AV):(r1 A).get fr h a=A.gy fr h a:=id rfl
end cods
section
variable (P : Program)
theorem Xm (pl:Nat→Option (Nat × Nat)) (cells:List AV):uo pl cells []=some cells:=id rfl
theorem Qz (pl:Nat→Option (Nat × Nat)) (cells:List AV) (i:Nat) (v:AV) (rest:List (Nat × AV)):uo pl cells ((i,v)::rest)=match pl i with
 |none=>none
 |some (off,size)=>bif !v.known || !(Nat.beq v.cells.length size) || !(Nat.ble (off+size) cells.length) then none else uo pl (cells.take off++v.cells++cells.drop (off+size)) rest:=id rfl
def wb (t:TypeId):Option (List AV × List (Nat × Nat)):=
 match fh P t,P.underlying t with
 |some z,some (.struct fields)=>(Hp P fields).map fun pl=>(z.cells.toList.map .sc,pl)
 |_,_=>none
theorem Ry (t:TypeId) (ps:List (Nat × AV)):yd P t ps=match wb P t with
 |some (z,pl)=>.of ((uo (fun i=>pl[i]?) z ps).map .agg)
 |none=>yd P t ps:=by
 cases hb:wb P t with
 |none=>rfl
 |some q=>
  obtain ⟨z,pl⟩:=q
  simp only [wb] at hb
  split at hb
  ·rename_i z' fs hz hu
   cases hp:Hp P fs with
   |none=>simp [hp] at hb
   |some pl'=>
    simp [hp] at hb
    obtain ⟨rfl,rfl⟩:=hb
    simp [yd,hz,hu,hp]
  ·cases hb
def C5 (t:TypeId):Option (TypeId × Nat × List AV):=
 match np P t with
 |none=>none
 |some e=>
  match de P e,fh P e with
  |some sz,some z=>bif Nat.beq z.cells.size sz then some (e,sz,z.cells.toList.map .sc) else none
  |_,_=>none
theorem Fo (t:TypeId) (len:Nat) (ps:List (Nat × AV)):n7 P t len ps=match C5 P t with
 |some (e,sz,z)=>
  match uo (fun i=>some (i * sz,sz)) (List.replicate len z).flatten ps with
  |some cells=>bif Nat.ble (len * sz) 16777216 && Nat.ble len 16777216 then tl e sz len cells else .fail
  |none=>.fail
 |none=>n7 P t len ps:=by
 cases hb:C5 P t with
 |none=>rfl
 |some q=>
  obtain ⟨e,sz,z⟩:=q
  simp only [C5] at hb
  split at hb
  ·cases hb
  ·rename_i e' he
   split at hb
   ·rename_i sz' z' hs hz
    cases hq:Nat.beq z'.cells.size sz' with
    |false=>simp [hq] at hb
    |true=>
     simp [hq] at hb
     obtain ⟨rfl,rfl,rfl⟩:=hb
     simp only [n7,he,hs,hz,hq,Bool.and_true]
     rfl
   ·cases hb
end
section ranges
variable (P : Program) (T : dv) (l az : Nat) (R : He) (Q : QI) (pe : Option Ex) (L : SL) (st : St)
theorem aby (f:Operand) (ps:Array Tmp) (a b:Code) (Q:QL):wl P T az (.rangeFunc f ps a b) Q L st=amm P T f ps.toList (fun p=>wl P T p a) (fun p=>wl P T p b) az Q L st:=id rfl
theorem adf:oq P T l R az .skip Q pe L st=Q .normal pe L st:=id rfl
theorem Q7 (i:Nat) (ops:Array Oper):oq P T l R az (.region i ops false) Q pe L st=Dz P T l R az ops ops.toList (Q .normal) pe L st:=id rfl
theorem ahl (a b:Code):oq P T l R az (.seq a b) Q pe L st=oq P T l R az a (aco (oq P T l R az b) Q) pe L st:=id rfl
theorem aa4 (c:Operand) (a b:Code):oq P T l R az (.cond c a b) Q pe L st=Bx (dh L c) (oq P T l R az a Q) (oq P T l R az b Q) pe L st:=id rfl
theorem Xg (i:Nat) (a:Code):oq P T l R az (.block i a) Q pe L st=oq P T l R az a (Qc i Q) pe L st:=id rfl
theorem adr (i:Nat):oq P T l R az (.exit i) Q pe L st=Q (.exit i) pe L st:=id rfl
theorem aia:oq P T l R az .ret Q pe L st=Q .ret pe L st:=id rfl
theorem anq (W:QI→Option Ex→SL→St→Prop):aco W Q .normal pe L st=W Q pe L st:=id rfl
theorem ani (W:QI→Option Ex→SL→St→Prop) (i:Nat):aco W Q (.exit i) pe L st=Q (.exit i) pe L st:=id rfl
theorem apc (W:QI→Option Ex→SL→St→Prop):aco W Q .ret pe L st=Q .ret pe L st:=id rfl
theorem ame (i:Nat):Qc i Q .normal pe L st=Q .normal pe L st:=id rfl
theorem ao9 (i:Nat):Qc i Q .ret pe L st=Q .ret pe L st:=id rfl
theorem apq (i j:Nat):Qc i Q (.exit j) pe L st=if j=i then Q .normal pe L st else Q (.exit j) pe L st:=by
 show (bif Nat.beq j i then _ else _)=_
 rw [alz];by_cases h:j=i<;>simp [h]
theorem ai2 (Q':QL):yx Q' Q .normal pe L st=(pe=none∧Q' .normal L st):=id rfl
theorem ahb (Q':QL) (i:Nat):yx Q' Q (.exit i) pe L st=Q (.exit i) pe L st:=id rfl
theorem ais (Q':QL):yx Q' Q .ret pe L st=Q .ret pe L st:=id rfl
theorem ah2 (Q:QL) (L0:SL):ab5 Q L0 .normal none L st=Q .normal L0 st:=id rfl
theorem aic (Q:QL) (L0:SL) (e:Ex):ab5 Q L0 .ret (some e) L st=Q e L0 st:=id rfl
theorem aaj (ops:Array Oper) (K:Option Ex→SL→St→Prop):Dz P T l R az ops [] K pe L st=K pe L st:=id rfl
theorem Wm (ops:Array Oper) (o:Oper) (r:List Oper) (K:Option Ex→SL→St→Prop):Dz P T l R az ops (o::r) K pe L st=I9 ops o.guard (opI P T l R az o (Dz P T l R az ops r K)) (Vv o.dst (Dz P T l R az ops r K)) pe L st:=id rfl
theorem Sb (ops:Array Oper) (X Y:Option Ex→SL→St→Prop):I9 ops none X Y pe L st=X pe L st:=id rfl
theorem Ud (ops:Array Oper) (j:Nat) (c:Bool) (X Y:Option Ex→SL→St→Prop):I9 ops (some (j,c)) X Y pe L st=Z7 (lk L (tn ops j)) c X Y pe L st:=id rfl
theorem acy (b:Bool) (X Y:Option Ex→SL→St→Prop):Z7 (.sc (.bool b)) true X Y pe L st=Bx (.sc (.bool b)) X Y pe L st:=by cases b<;>simp [Z7,zx,B0,E3,Bx,pz,AV.bool,AV.exact,ny]
theorem ah5 (X Y:Option Ex→SL→St→Prop):Bx (.sc (.bool true)) X Y pe L st=X pe L st:=by simp [Bx,pz,AV.bool,AV.exact,ny]
theorem ag7 (X Y:Option Ex→SL→St→Prop):Bx (.sc (.bool false)) X Y pe L st=Y pe L st:=by simp [Bx,pz,AV.bool,AV.exact,ny]
theorem vq (b:Bool) (X Y:Option Ex→SL→St→Prop):Bx (.sc (.bool b)) X Y pe L st=((b=true→X pe L st)∧(b=false→Y pe L st)):=by simp [Bx,pz,AV.bool,AV.exact,ny]
theorem Rj (d:Option Tmp) (K:Option Ex→SL→St→Prop):Vv d K pe L st=K pe (jl d (.sc undef) L) st:=id rfl
theorem ao5 (o:Oper) (K:Option Ex→SL→St→Prop):opI P T l R az o K pe L st=U4 P T R az o K pe L st (yieldOf l o L):=id rfl
theorem amz (o:Oper) (K:Option Ex→SL→St→Prop):U4 P T R az o K pe L st none=G9 (fo P T o (dh L) st) o.dst L (K pe):=id rfl
theorem ab0 (d:Option Tmp) (K:Option Ex→SL→St→Prop):aef d L K .normal st=K none (jl d (.sc (.bool true)) L) st:=id rfl
theorem ae6 (d:Option Tmp) (K:Option Ex→SL→St→Prop):aef d L K .ret st=K (some .ret) (jl d (.sc (.bool false)) L) st:=id rfl
theorem ahg (B:QL→SL→St→Prop) (X:Ex→St→Prop):atz B X .normal L st=B (fun e _ st=>X e st) L st:=id rfl
theorem Yv (k:Nat) (va vb:Array Value):Az l (.sc (.func (.yield k) va vb))=(Nat.beq k l && Nat.beq va.size 0 && Nat.beq vb.size 0):=id rfl
theorem Pd:Af [] [] L=L:=id rfl
theorem Mt (t:Nat) (ts:List Nat) (v:AV) (vs:List AV):Af (t::ts) (v::vs) L=Af ts vs ((t,v)::L):=id rfl
theorem ati {α:Type} {b:Code} (keep:List Nat) (V : α→List AV) (O : α→List (Option bh)) (I : α→Prop) (μ : α→Nat) (x : α) (hx:I x) (hR:∀ p args (X X':Ex→St→Prop) st,(∀ e st,X e st→X' e st)→R p args X st→R p args X' st)
 (hv:gv az keep L st=V x) (ho:ey az keep L st=O x)
 (step:∀ x,I x→oq P T l R az b (yx (vw az keep (fun vs os=>∃ y,I y ∧ μ y < μ x∧vs=V y∧os=O y) (fun _ _ _=>False)) Q) none (ic keep (V x)) (bf (O x))):oq P T l R az (.loop b) Q none L st:=
 ⟨rfl,se.of (B:=fun Q' L st=>oq P T l R az b (yx Q' Q) none L st) keep V O I μ x hx hv ho (fun Q1 Q2 h L st hh=>Qg hR b _ _ (fun e pe L st q=>by
  cases e with
  |normal=>exact ⟨q.1,h _ _ _ q.2⟩
  |ret=>exact q
  |exit i=>exact q) none L st hh) step⟩
theorem Od {ps:List Tmp} {a b:Code} {L0:SL}:∀ p args (X X':Ex→St→Prop) st,(∀ e st,X e st→X' e st)→nb ps (fun p=>wl P T p a) (fun p=>wl P T p b) L0 p args X st→nb ps (fun p=>wl P T p a) (fun p=>wl P T p b) L0 p args X' st:=
 fun p args X X' st hX hr=>⟨hr.1,hr.2.1,Ba _ _ _ (fun e L st q=>by
  cases e with
  |normal=>exact Ba _ _ _ (fun e _ st q=>hX e st q) _ _ q
  |_=>exact q.elim) _ _ hr.2.2⟩
end ranges
section yields
variable {lp : Nat} {L : SL} {d : Option Tmp} {ty : TypeId} {pos : String} {af : Array Edge} {gd : Option (Nat × Bool)}
theorem Li (x):yieldOf lp ⟨d,.move x,ty,pos,af,gd⟩ L=none:=id rfl
theorem G5 (x):yieldOf lp ⟨d,.assign x,ty,pos,af,gd⟩ L=none:=id rfl
theorem K6 (t a):yieldOf lp ⟨d,.load t a,ty,pos,af,gd⟩ L=none:=id rfl
theorem C8 (s x f):yieldOf lp ⟨d,.fieldAddr s x f,ty,pos,af,gd⟩ L=none:=id rfl
theorem Jp (op t x y u):yieldOf lp ⟨d,.binOp op t x y u,ty,pos,af,gd⟩ L=none:=id rfl
theorem K5 (c a b):yieldOf lp ⟨d,.pick c a b,ty,pos,af,gd⟩ L=none:=id rfl
theorem Jx (t a x):yieldOf lp ⟨d,.store t a x,ty,pos,af,gd⟩ L=none:=id rfl
theorem Da (t x i):yieldOf lp ⟨d,.indexAddr t x i,ty,pos,af,gd⟩ L=none:=id rfl
theorem Jk (t):yieldOf lp ⟨d,.alloc t,ty,pos,af,gd⟩ L=none:=id rfl
theorem Kr (op t x):yieldOf lp ⟨d,.unOp op t x,ty,pos,af,gd⟩ L=none:=id rfl
theorem Pq (x ts):yieldOf lp ⟨d,.call { callee:=.builtin .len,args:=#[x],argTypes:=ts },ty,pos,af,gd⟩ L=none:=id rfl
theorem K2 (f:Operand) (args:Array Operand) (ts:Array TypeId):yieldOf lp ⟨d,.call { callee:=.value f,args:=args,argTypes:=ts },ty,pos,af,gd⟩ L=bif Az lp (dh L f) then some args else none:=id rfl
end yields
end
end Go.Vm
namespace Go.Vm
variable [TK]
noncomputable section
abbrev Name:=List ByteArray
structure bo where
 names:List Name
 nums:List UInt32
 texts:List ByteArray
 raw:List UInt8
def mkD (a:List Name) (b:List UInt32) (c:List ByteArray) (e:List UInt8):bo:=⟨a,b,c,e⟩
theorem ag6 (d:bo):mkD d.names d.nums d.texts d.raw=d:=id rfl
noncomputable def ai:c8 Name:=cj ag
noncomputable def ba:c8 bo:=zc (kr (cj ai) (kr (cj cf) (kr ai (cj bk)))) (fun d=>(d.names,d.nums,d.texts,d.raw)) (fun p=>⟨p.1,p.2.1,p.2.2.1,p.2.2.2⟩) (fun _=>rfl) (fun _=>rfl)
theorem bn (l:Bool) (n:Name):ai.val l n = .vl l 1 (n.map (ag.val l)):=id rfl
theorem ta:ai.sz=1:=id rfl
theorem S4:ba.sz=4:=id rfl
theorem gh (l:Bool) (d:bo):ba.val l d = .agg [.vl l 1 (d.names.map (ai.val l)),.vl l 1 (d.nums.map (cf.val l)),.vl l 1 (d.texts.map (ag.val l)),.vl l 1 (d.raw.map (bk.val l))]:=id rfl
theorem Ou (fr:Bool) (h:Tr bh) (x1 x2 x3 x4:AV) :
 ba.gy fr h (.agg [x1,x2,x3,x4])=match gx ai fr h x1,gx cf fr h x2,gx ag fr h x3,gx bk fr h x4 with
  |some a,some b,some c,some e=>some (mkD a b c e)
  |_,_,_,_=>none:=by
 rw [xn _ _ _ _ rfl rfl]
 have h1:ba.dec fr h (AV.agg [x1,x2,x3,x4]).cells=Option.map (fun p=>(⟨p.1,p.2.1,p.2.2.1,p.2.2.2⟩:bo)) ((kr (cj ai) (kr (cj cf) (kr ai (cj bk)))).dec fr h [x1,x2,x3,x4]):=rfl
 have d2:∀ {α β:Type} (A:c8 α) (B:c8 β) (l:List AV),(kr A B).dec fr h l=match A.dec fr h (l.take A.sz),B.dec fr h (l.drop A.sz) with|some x,some y=>some (x,y)|_,_=>none:=fun _ _ _=>rfl
 have l1:∀ {α:Type} (C:c8 α) (x:AV),(cj C).dec fr h [x]=gx C fr h x:=fun _ _=>rfl
 have n1:∀ x,ai.dec fr h [x]=gx ag fr h x:=fun _=>rfl
 rw [h1]
 simp only [d2,Bk,ta,List.take_succ_cons,List.take_zero,List.drop_succ_cons,List.drop_zero,l1,n1]
 cases gx ai fr h x1<;>cases gx cf fr h x2<;>cases gx ag fr h x3<;>cases gx bk fr h x4<;>rfl
theorem Ly {α:Type} (C:c8 α) (fr:Bool) (h:Tr bh) (l:Bool) (n:Nat) (es:List AV):(cj C).gy fr h (.vl l n es)=gx C fr h (.vl l n es):=Ak C fr h _ rfl rfl rfl
theorem Lh {α:Type} (C:c8 α) (fr:Bool) (h:Tr bh) (o off len n:Nat):(cj C).gy fr h (.sl o off len n)=gx C fr h (.sl o off len n):=Ak C fr h _ rfl rfl rfl
theorem Cv {α:Type} (C:c8 α) (fr:Bool) (h:Tr bh):(cj C).gy fr h (.sc (.slice none 0 0))=some []:=by
 rw [Ak C fr h _ rfl rfl rfl];rfl
theorem E8 (fr:Bool) (h:Tr bh) (l:Bool) (n:Nat) (es:List AV):ai.gy fr h (.vl l n es)=gx ag fr h (.vl l n es):=Ak ag fr h _ rfl rfl rfl
theorem Fx (fr:Bool) (h:Tr bh) (o off len n:Nat):ai.gy fr h (.sl o off len n)=gx ag fr h (.sl o off len n):=Ak ag fr h _ rfl rfl rfl
theorem Et (fr:Bool) (h:Tr bh):ai.gy fr h (.sc (.slice none 0 0))=some []:=Cv ag fr h
theorem Ei (l:List UInt8):l.map Am=l.map (bk.val false):=id rfl
theorem Kj {α:Type} (C:c8 α) (b:Bool) (l:List α):AV.names.go (l.map (C.val b))=[]:=Gb (fun c hc=>by
 obtain ⟨x,_,rfl⟩:=List.mem_map.1 hc
 exact Lv C b x)
theorem wi:∀ (l:List UInt8) (b:Bool),bytesOf (l.map (bk.val b))=some l
 | [],_=>rfl
 |c::l,b=>by
  rw [List.map_cons,Cb,bytesOf,wi l b]
  simp
end
end Go.Vm
section
namespace Go.Vm.Cx
open Go.Vm
variable [TK]
noncomputable section
theorem Ce {P:Program} (w:World):∀ (ns:List Int) (a:Addr) (i:Nat) (acc:ByteArray),(∀ (j:Nat) x,ns[j]? = some x→(load (a.add (i+j))).run P w = .ok (.int .u8 x) w) →
 (Extern.Bytes.loadBytes (a.add i) ns.length acc).run P w = .ok ⟨acc.data++(ns.map fun n=>UInt8.ofNat n.toNat).toArray⟩ w
 | [],a,i,acc,_=>by simp [Extern.Bytes.loadBytes]
 |x::l,a,i,acc,h=>by
  have h0:=h 0 x rfl
  rw [Nat.add_zero] at h0
  have e:(a.add i).add 1=a.add (i+1):=by
   unfold Addr.add
   by_cases hj:i=0
   ·subst hj;simp
   ·simp [hj];omega
  have ih:=Ce (P:=P) w l a (i+1) (acc.push x.toNat.toUInt8) (fun j y hy=>by
   have:=h (j+1) y (by simpa using hy)
   rw [show i+1+j=i+(j+1) from by omega];exact this)
  simp only [List.length_cons,Extern.Bytes.loadBytes,Sem.run_bind,h0,Result.andThen]
  rw [e,ih]
  congr 1
  apply ByteArray.ext
  simp [ByteArray.push,Nat.toUInt8]
theorem V1 {l:List Int} {l':List Value} (h:l'=l.map (Value.int .u8)) (j:Nat) (x:Int) (hx:l[j]? = some x):l'[j]? = some (.int .u8 x):=by rw [h,List.getElem?_map,hx];rfl
theorem Cd {P:Program} {g st fl w} {a:AV} {v:Value} {l:List AV} {bs:List UInt8} (hok:Ok g st.h w) (hr:Rel g w a v) (h:cellsIn 1 a st=some (l,fl)) (hb:bytesOf l=some bs) :
 (Extern.Bytes.bytesOf v).run P w = .ok ⟨bs.toArray⟩ w:=by
 obtain ⟨_,_,n,news,hsrc,hrl⟩:=vp (P:=P) hok hr h
 obtain ⟨ns,e1,e2⟩:=Dj _ _ _ hrl hb
 obtain ⟨r1,r2⟩:=hsrc.run w rfl
 cases v with
 |slice p len cap=>
  have hn:n=len:=by simp [Builtin.lenOf] at r1;exact r1.symm
  subst hn
  cases p with
  |none=>
   have:news=[]:=by simpa [Builtin.firstCells] using r2
   subst this
   have:ns=[]:=by simpa using e1.symm
   subst this
   subst e2
   rfl
  |some a=>
   simp only [Builtin.firstCells,Nat.mul_one] at r2
   unfold loadCells at r2
   obtain ⟨l',q1,q2,q3⟩:=loadCellsFrom_ok a n 0 #[] _ _ r2
   have hl':l'=news:=by simpa using q2.symm
   subst hl'
   have hlen:ns.length=n:=by rw [← q1,e1,List.length_map]
   have:=Ce (P:=P) w ns a 0 .empty (fun j x hx=>by
    exact q3 j _ (V1 e1 j x hx))
   rw [hlen] at this
   have e0:a.add 0=a:=by simp [Addr.add]
   rw [e0] at this
   show (Extern.Bytes.loadBytes a n .empty).run P w=_
   rw [this,e2]
   congr 2
   simp [ByteArray.empty,ByteArray.emptyWithCapacity]
   rfl
 |string s=>
  have hn:n=s.size:=by simp [Builtin.lenOf] at r1;exact r1.symm
  subst hn
  simp only [Builtin.firstCells,Sem.run_pure,Result.ok.injEq,and_true] at r2
  have h1:=congrArg Array.toList r2
  rw [e1] at h1
  show Result.ok s w=_
  congr 1
  apply ByteArray.ext
  apply Array.ext'
  rw [e2]
  have h2:=congrArg (List.map fun v:Value=>match v with|.int _ n=>UInt8.ofNat n.toNat|_=>0) h1
  simp only [List.map_map,Array.toList_map] at h2
  have h3:(s.extract 0 s.size).data.toList=s.data.toList:=by simp
  rw [h3] at h2
  have h4:(List.map ((fun v:Value=>match v with|.int _ n=>UInt8.ofNat n.toNat|_=>0) ∘ fun b:UInt8=>Value.int .u8 (b.toNat:Int)) s.data.toList)=s.data.toList:=by
   rw [show ((fun v:Value=>match v with|.int _ n=>UInt8.ofNat n.toNat|_=>0) ∘ fun b:UInt8=>Value.int .u8 (b.toNat:Int))=id from by funext b;simp]
   simp
  rw [h4] at h2
  rw [h2]
  simp
 |_=>simp [Builtin.lenOf,stuck] at r1
def azc (args:List AV):M AV:=
 match args with
 | [a]=>.pure a
 |_=>.fail
def kl (args:List AV):M AV:=
 match args with
 | [a,b]=>(cellsIn 1 a).bind fun x=>(cellsIn 1 b).bind fun y=>
  match bytesOf x with
  |some x=>
   match bytesOf y with
   |some y=>.pure (.sc (goInt (Lib.compareBytes x y)))
   |none=>.fail
  |none=>.fail
 |_=>.fail
def dx {α:Type} (m:M α):Prop:=∀ st v fl,m st=some (v,fl)→fl.h=st.h∧fl.nx=st.nx
theorem dx.pure {α:Type} (a : α):dx (M.pure a):=fun st v fl h=>by cases h;exact ⟨rfl,rfl⟩
theorem dx.fail {α:Type}:dx (M.fail:M α):=fun st v fl h=>by cases h
theorem dx.bind {α β:Type} {m:M α} {f : α→M β} (hm:dx m) (h:∀ x,dx (f x)):dx (m.bind f):=fun st v fl hb=>by
 obtain ⟨x,s1,h1,h2⟩:=bind_some hb
 have h3:=hm _ _ _ h1
 have h4:=h x _ _ _ h2
 exact ⟨h4.1.trans h3.1,h4.2.trans h3.2⟩
theorem dx.ed (id:Nat):dx (Vm.ed id):=fun _st _v _st1 h=>(gj h).2
theorem dx.cond {α:Type} {b:Bool} {x y:M α} (hx:dx x) (hy:dx y):dx (bif b then x else y):=by cases b<;>assumption
theorem dx.cellsIn (sz:Nat) (v:AV):dx (Vm.cellsIn sz v):=by
 unfold Vm.cellsIn D6
 repeat' (first|exact dx.pure _|exact dx.fail|apply dx.cond|(refine dx.bind (dx.ed _) fun x=>?_)|split)
theorem Ap (args:List AV):dx (kl args):=by
 unfold kl;split
 ·exact dx.bind (dx.cellsIn _ _) fun x=>dx.bind (dx.cellsIn _ _) fun y=>by
   split
   ·split
    ·exact dx.pure _
    ·exact dx.fail
   ·exact dx.fail
 ·exact dx.fail
theorem D4 {P:Program} {f:Nat} {fn:Func} (hf:P.funcs[f]? = some fn) (h1:(fn.name == "runtime.NumGoroutine")=false) (h2:fn.body.isNone=true) (h3:Extern.findNext fn=none) (h4:Extern.find fn=some Extern.BytealgCompare.compare) (args:List AV) :
 De P f args (kl args):=by
 intro g st w vs r st' hok hfree hrel hm
 refine .inl ?_
 have hst:=Ap _ _ _ _ hm
 unfold kl at hm
 split at hm
 ·rename_i a c
  obtain ⟨x,s1,e1,hm⟩:=bind_some hm
  obtain ⟨y,s2,e2,hm⟩:=bind_some hm
  cases hx:bytesOf x with
  |none=>rw [hx] at hm;cases hm
  |some bx=>
  cases hy:bytesOf y with
  |none=>rw [hx,hy] at hm;cases hm
  |some yb=>
  rw [hx,hy] at hm
  cases hm
  have hh:=dx.cellsIn _ _ _ _ _ e1
  match vs,hrel with
  | [v,u],hrel=>
   have r1:=Cd (P:=P) hok hrel.head e1 hx
   have r2:=Cd (P:=P) (st:=s1) (by rw [hh.1];exact hok) hrel.tail.head e2 hy
   refine ⟨goInt (Lib.compareBytes bx yb),w,g,?_,?_,?_,.sc _⟩
   ·rw [run_callFunc_extern hf h1 h2 h3 h4]
    have:(Extern.BytealgCompare.compare #[v,u]).run P w = .ok (goInt (Lib.compareBytes bx yb)) w:=by
     change Sem.run P (do pure (goInt (Extern.BytealgCompare.cmp (← Extern.Bytes.bytesOf v) (← Extern.Bytes.bytesOf u)))) w=_
     simp only [Sem.run_bind,r1,r2,Result.andThen,Sem.run_pure]
     rw [Lib.cmp_eq]
    show ((Extern.BytealgCompare.compare #[v,u]).run P w).andThen _=_
    rw [this]
    rfl
   ·rw [hst.1,hst.2];exact .refl _ _ _ _ _
   ·rw [hst.1];exact hok
  | [],hrel=>have:=hrel.1;simp at this
  | [v],hrel=>have:=hrel.1;simp at this
  |_::_::_::_,hrel=>have:=hrel.1;simp at this
 ·cases hm
end
end Go.Vm.Cx
end
section
set_option linter.unnecessarySimpa false
namespace Go.Vm
variable [TK]
noncomputable section
def roT (o:Option (Bool × (List AV→M AV))):Bool:=match o with|some (b,_)=>b|none=>false
theorem auf (b m):roT (some (b,m))=b:=id rfl
theorem ef {o:Oper} {L:SL} {x:Operand} (h:x ∈ o.op.operands):db o L x=dh L x:=by
 cases x with
 |tmp t=>
  show (bif o.op.operands.any (fun x=>match x with|.tmp u=>Nat.beq u t|_=>false) then lk L t else .bad)=lk L t
  have:o.op.operands.any (fun x=>match x with|.tmp u=>Nat.beq u t|_=>false)=true:=by
   rw [Array.any_eq_true']
   exact ⟨_,h,by simp⟩
  rw [this];rfl
 |const v=>rfl
 |global g=>rfl
 |func f=>rfl
theorem ik {o:Oper} {L:SL} {l:List Operand} (h:∀ x ∈ l,x ∈ o.op.operands):l.map (db o L)=l.map (dh L):=List.map_congr_left fun x hx=>ef (h x hx)
theorem N6 {o:Oper} {L:SL} {l:List (Nat × Operand)} (h:∀ x ∈ l,x.2 ∈ o.op.operands):l.map (fun p=>(p.1,db o L p.2))=l.map (fun p=>(p.1,dh L p.2)):=List.map_congr_left fun x hx=>by rw [ef (h x hx)]
def fm (ro:Bool) (F:List Nat) (o:Oper) (recs:List Rec) (K:List Rec→SL→St→Prop) (L:SL) (st:St) (m:M AV):Prop:=Ec ro F o recs K L st (m { h:=qc st.h F,nx:=st.nx,rl:=[],wl:=[] })
theorem Xz (ro F o recs K L st m):fm ro F o recs K L st m=Ec ro F o recs K L st (m { h:=qc st.h F,nx:=st.nx,rl:=[],wl:=[] }):=id rfl
section ops
variable (P : Program) (T : dv) (L : SL) (st : St) (recs : List Rec) (K : List Rec → SL → St → Prop) (d : Option Tmp) (ty : TypeId) (pos : String) (af : Array Edge) (gd : Option (Nat × Bool))
theorem ae1 (x):gg P T ⟨d,.move x,ty,pos,af,gd⟩ recs K L st=fm (true) ([]) ⟨d,.move x,ty,pos,af,gd⟩ recs K L st (mono (M.pure (dh L x))):=by
 unfold gg ky mc fm
 simp only [jn,cond_true]
 have hm:∀ y,y ∈ ([x]:List Operand)→db ⟨d,.move x,ty,pos,af,gd⟩ L y=dh L y:=fun y hy=>ef (by simpa [Op.operands,Call.operands] using hy)
 have hmap:([x]:List Operand).map (db ⟨d,.move x,ty,pos,af,gd⟩ L)=([x]:List Operand).map (dh L):=ik (fun y hy=>by simpa [Op.operands,Call.operands] using hy)
 have ho:(⟨d,.move x,ty,pos,af,gd⟩:Oper).op.operands.toList=[x]:=by simp [Op.operands,Call.operands]
 rw [Ii,hm x (by simp)]
 rfl
theorem Ub (x):gg P T ⟨d,.assign x,ty,pos,af,gd⟩ recs K L st=fm (true) ([]) ⟨d,.assign x,ty,pos,af,gd⟩ recs K L st (mono (M.pure (dh L x))):=by
 unfold gg ky mc fm
 simp only [jn,cond_true]
 have hm:∀ y,y ∈ ([x]:List Operand)→db ⟨d,.assign x,ty,pos,af,gd⟩ L y=dh L y:=fun y hy=>ef (by simpa [Op.operands,Call.operands] using hy)
 have hmap:([x]:List Operand).map (db ⟨d,.assign x,ty,pos,af,gd⟩ L)=([x]:List Operand).map (dh L):=ik (fun y hy=>by simpa [Op.operands,Call.operands] using hy)
 have ho:(⟨d,.assign x,ty,pos,af,gd⟩:Oper).op.operands.toList=[x]:=by simp [Op.operands,Call.operands]
 rw [Es,hm x (by simp)]
 rfl
theorem abq (t a):gg P T ⟨d,.load t a,ty,pos,af,gd⟩ recs K L st=fm (true) ((dh L a).names) ⟨d,.load t a,ty,pos,af,gd⟩ recs K L st (mono (qv P t (dh L a))):=by
 unfold gg ky mc fm
 simp only [jn,cond_false]
 have hm:∀ y,y ∈ ([a]:List Operand)→db ⟨d,.load t a,ty,pos,af,gd⟩ L y=dh L y:=fun y hy=>ef (by simpa [Op.operands,Call.operands] using hy)
 have hmap:([a]:List Operand).map (db ⟨d,.load t a,ty,pos,af,gd⟩ L)=([a]:List Operand).map (dh L):=ik (fun y hy=>by simpa [Op.operands,Call.operands] using hy)
 have ho:(⟨d,.load t a,ty,pos,af,gd⟩:Oper).op.operands.toList=[a]:=by simp [Op.operands,Call.operands]
 rw [Ja,hm a (by simp)]
 rfl
theorem Jt (s x f):gg P T ⟨d,.fieldAddr s x f,ty,pos,af,gd⟩ recs K L st=fm (true) ([]) ⟨d,.fieldAddr s x f,ty,pos,af,gd⟩ recs K L st (mono (rr P s (dh L x) f)):=by
 unfold gg ky mc fm
 simp only [jn,cond_true]
 have hm:∀ y,y ∈ ([x]:List Operand)→db ⟨d,.fieldAddr s x f,ty,pos,af,gd⟩ L y=dh L y:=fun y hy=>ef (by simpa [Op.operands,Call.operands] using hy)
 have hmap:([x]:List Operand).map (db ⟨d,.fieldAddr s x f,ty,pos,af,gd⟩ L)=([x]:List Operand).map (dh L):=ik (fun y hy=>by simpa [Op.operands,Call.operands] using hy)
 have ho:(⟨d,.fieldAddr s x f,ty,pos,af,gd⟩:Oper).op.operands.toList=[x]:=by simp [Op.operands,Call.operands]
 rw [zl,hm x (by simp)]
 rfl
theorem Xr (op t x y u):gg P T ⟨d,.binOp op t x y u,ty,pos,af,gd⟩ recs K L st=fm (true) ([]) ⟨d,.binOp op t x y u,ty,pos,af,gd⟩ recs K L st (mono (Il P (db ⟨d,.binOp op t x y u,ty,pos,af,gd⟩ L) ⟨d,.binOp op t x y u,ty,pos,af,gd⟩ op t x y)):=by
 unfold gg ky mc fm
 simp only [jn,cond_true]
 have hm:∀ y,y ∈ ([x,y]:List Operand)→db ⟨d,.binOp op t x y u,ty,pos,af,gd⟩ L y=dh L y:=fun y hy=>ef (by simpa [Op.operands,Call.operands] using hy)
 have hmap:([x,y]:List Operand).map (db ⟨d,.binOp op t x y u,ty,pos,af,gd⟩ L)=([x,y]:List Operand).map (dh L):=ik (fun y hy=>by simpa [Op.operands,Call.operands] using hy)
 have ho:(⟨d,.binOp op t x y u,ty,pos,af,gd⟩:Oper).op.operands.toList=[x,y]:=by simp [Op.operands,Call.operands]
 rfl
theorem aa3 (c a b):gg P T ⟨d,.pick c a b,ty,pos,af,gd⟩ recs K L st=fm (true) ([]) ⟨d,.pick c a b,ty,pos,af,gd⟩ recs K L st (mono (D0 (dh L c) (dh L a) (dh L b))):=by
 unfold gg ky mc fm
 simp only [jn,cond_true]
 have hm:∀ y,y ∈ ([c,a,b]:List Operand)→db ⟨d,.pick c a b,ty,pos,af,gd⟩ L y=dh L y:=fun y hy=>ef (by simpa [Op.operands,Call.operands] using hy)
 have hmap:([c,a,b]:List Operand).map (db ⟨d,.pick c a b,ty,pos,af,gd⟩ L)=([c,a,b]:List Operand).map (dh L):=ik (fun y hy=>by simpa [Op.operands,Call.operands] using hy)
 have ho:(⟨d,.pick c a b,ty,pos,af,gd⟩:Oper).op.operands.toList=[c,a,b]:=by simp [Op.operands,Call.operands]
 rw [Ib,hm c (by simp),hm a (by simp),hm b (by simp)]
 rfl
theorem X5 (t a x):gg P T ⟨d,.store t a x,ty,pos,af,gd⟩ recs K L st=fm (false) ((dh L a).names) ⟨d,.store t a x,ty,pos,af,gd⟩ recs K L st (mono (vu P t (dh L a) (dh L x))):=by
 unfold gg ky mc fm
 simp only [jn,cond_false]
 have hm:∀ y,y ∈ ([a,x]:List Operand)→db ⟨d,.store t a x,ty,pos,af,gd⟩ L y=dh L y:=fun y hy=>ef (by simpa [Op.operands,Call.operands] using hy)
 have hmap:([a,x]:List Operand).map (db ⟨d,.store t a x,ty,pos,af,gd⟩ L)=([a,x]:List Operand).map (dh L):=ik (fun y hy=>by simpa [Op.operands,Call.operands] using hy)
 have ho:(⟨d,.store t a x,ty,pos,af,gd⟩:Oper).op.operands.toList=[a,x]:=by simp [Op.operands,Call.operands]
 rw [Gc,hm a (by simp),hm x (by simp)]
 rfl
theorem Jo (t x i):gg P T ⟨d,.indexAddr t x i,ty,pos,af,gd⟩ recs K L st=fm (true) ([]) ⟨d,.indexAddr t x i,ty,pos,af,gd⟩ recs K L st (mono (ry P t (dh L x) (dh L i))):=by
 unfold gg ky mc fm
 simp only [jn,cond_true]
 have hm:∀ y,y ∈ ([x,i]:List Operand)→db ⟨d,.indexAddr t x i,ty,pos,af,gd⟩ L y=dh L y:=fun y hy=>ef (by simpa [Op.operands,Call.operands] using hy)
 have hmap:([x,i]:List Operand).map (db ⟨d,.indexAddr t x i,ty,pos,af,gd⟩ L)=([x,i]:List Operand).map (dh L):=ik (fun y hy=>by simpa [Op.operands,Call.operands] using hy)
 have ho:(⟨d,.indexAddr t x i,ty,pos,af,gd⟩:Oper).op.operands.toList=[x,i]:=by simp [Op.operands,Call.operands]
 rw [zi,hm x (by simp),hm i (by simp)]
 rfl
theorem Ll (x):gg P T ⟨d,.nilCheck x,ty,pos,af,gd⟩ recs K L st=fm (true) ([]) ⟨d,.nilCheck x,ty,pos,af,gd⟩ recs K L st (mono (oy (dh L x))):=by
 unfold gg ky mc fm
 simp only [jn,cond_true]
 have hm:∀ y,y ∈ ([x]:List Operand)→db ⟨d,.nilCheck x,ty,pos,af,gd⟩ L y=dh L y:=fun y hy=>ef (by simpa [Op.operands,Call.operands] using hy)
 have hmap:([x]:List Operand).map (db ⟨d,.nilCheck x,ty,pos,af,gd⟩ L)=([x]:List Operand).map (dh L):=ik (fun y hy=>by simpa [Op.operands,Call.operands] using hy)
 have ho:(⟨d,.nilCheck x,ty,pos,af,gd⟩:Oper).op.operands.toList=[x]:=by simp [Op.operands,Call.operands]
 rw [A9,hm x (by simp)]
 rfl
theorem Xo (t):gg P T ⟨d,.alloc t,ty,pos,af,gd⟩ recs K L st=fm (true) (reach st.h fk [] []) ⟨d,.alloc t,ty,pos,af,gd⟩ recs K L st (mono (Ag P t)):=by
 unfold gg ky mc fm
 simp only [jn,cond_false]
 have hm:∀ y,y ∈ ([]:List Operand)→db ⟨d,.alloc t,ty,pos,af,gd⟩ L y=dh L y:=fun y hy=>ef (by simpa [Op.operands,Call.operands] using hy)
 have hmap:([]:List Operand).map (db ⟨d,.alloc t,ty,pos,af,gd⟩ L)=([]:List Operand).map (dh L):=ik (fun y hy=>by simpa [Op.operands,Call.operands] using hy)
 have ho:(⟨d,.alloc t,ty,pos,af,gd⟩:Oper).op.operands.toList=[]:=by simp [Op.operands,Call.operands]
 rw [ho,hmap]
 rfl
theorem Yg (t ps):gg P T ⟨d,.build t ps,ty,pos,af,gd⟩ recs K L st=fm (true) (reach st.h fk (AV.names.go ((ps.toList.map (·.2)).map (dh L))) []) ⟨d,.build t ps,ty,pos,af,gd⟩ recs K L st (mono (yd P t (ps.toList.map fun p=>(p.1,dh L p.2)))):=by
 unfold gg ky mc fm
 simp only [jn,cond_false]
 have hm:∀ y,y ∈ ((ps.toList.map (·.2)):List Operand)→db ⟨d,.build t ps,ty,pos,af,gd⟩ L y=dh L y:=fun y hy=>ef (by simpa [Op.operands,Call.operands] using hy)
 have hmap:((ps.toList.map (·.2)):List Operand).map (db ⟨d,.build t ps,ty,pos,af,gd⟩ L)=((ps.toList.map (·.2)):List Operand).map (dh L):=ik (fun y hy=>by simpa [Op.operands,Call.operands] using hy)
 have ho:(⟨d,.build t ps,ty,pos,af,gd⟩:Oper).op.operands.toList=(ps.toList.map (·.2)):=by simp [Op.operands,Call.operands]
 rw [ho,hmap]
 rw [Gi,N6 (fun x hx=>by simp [Op.operands];exact ⟨_,by simpa using hx⟩)]
 rfl
theorem H2 (t n ps):gg P T ⟨d,.buildSlice t n ps,ty,pos,af,gd⟩ recs K L st=fm (true) (reach st.h fk (AV.names.go ((ps.toList.map (·.2)).map (dh L))) []) ⟨d,.buildSlice t n ps,ty,pos,af,gd⟩ recs K L st (mono (n7 P t n (ps.toList.map fun p=>(p.1,dh L p.2)))):=by
 unfold gg ky mc fm
 simp only [jn,cond_false]
 have hm:∀ y,y ∈ ((ps.toList.map (·.2)):List Operand)→db ⟨d,.buildSlice t n ps,ty,pos,af,gd⟩ L y=dh L y:=fun y hy=>ef (by simpa [Op.operands,Call.operands] using hy)
 have hmap:((ps.toList.map (·.2)):List Operand).map (db ⟨d,.buildSlice t n ps,ty,pos,af,gd⟩ L)=((ps.toList.map (·.2)):List Operand).map (dh L):=ik (fun y hy=>by simpa [Op.operands,Call.operands] using hy)
 have ho:(⟨d,.buildSlice t n ps,ty,pos,af,gd⟩:Oper).op.operands.toList=(ps.toList.map (·.2)):=by simp [Op.operands,Call.operands]
 rw [ho,hmap]
 rw [xd,N6 (fun x hx=>by simp [Op.operands];exact ⟨_,by simpa using hx⟩)]
 rfl
theorem Oq (s u x):gg P T ⟨d,.convert s u x,ty,pos,af,gd⟩ recs K L st=fm (true) (reach st.h fk (AV.names.go ([x].map (dh L))) []) ⟨d,.convert s u x,ty,pos,af,gd⟩ recs K L st (mono (u3 P (db ⟨d,.convert s u x,ty,pos,af,gd⟩ L) ⟨d,.convert s u x,ty,pos,af,gd⟩ s u (dh L x))):=by
 unfold gg ky mc fm
 simp only [jn,cond_false]
 have hm:∀ y,y ∈ ([x]:List Operand)→db ⟨d,.convert s u x,ty,pos,af,gd⟩ L y=dh L y:=fun y hy=>ef (by simpa [Op.operands,Call.operands] using hy)
 have hmap:([x]:List Operand).map (db ⟨d,.convert s u x,ty,pos,af,gd⟩ L)=([x]:List Operand).map (dh L):=ik (fun y hy=>by simpa [Op.operands,Call.operands] using hy)
 have ho:(⟨d,.convert s u x,ty,pos,af,gd⟩:Oper).op.operands.toList=[x]:=by simp [Op.operands,Call.operands]
 rw [ho,hmap]
 rw [C6,hm x (by simp)]
 rfl
theorem Wu (t x i):gg P T ⟨d,.index t x i,ty,pos,af,gd⟩ recs K L st=fm (true) (reach st.h fk (AV.names.go ([x,i].map (dh L))) []) ⟨d,.index t x i,ty,pos,af,gd⟩ recs K L st (mono (Aj P (db ⟨d,.index t x i,ty,pos,af,gd⟩ L) ⟨d,.index t x i,ty,pos,af,gd⟩ t x i)):=by
 unfold gg ky mc fm
 simp only [jn,cond_false]
 have hm:∀ y,y ∈ ([x,i]:List Operand)→db ⟨d,.index t x i,ty,pos,af,gd⟩ L y=dh L y:=fun y hy=>ef (by simpa [Op.operands,Call.operands] using hy)
 have hmap:([x,i]:List Operand).map (db ⟨d,.index t x i,ty,pos,af,gd⟩ L)=([x,i]:List Operand).map (dh L):=ik (fun y hy=>by simpa [Op.operands,Call.operands] using hy)
 have ho:(⟨d,.index t x i,ty,pos,af,gd⟩:Oper).op.operands.toList=[x,i]:=by simp [Op.operands,Call.operands]
 rw [ho,hmap]
 rfl
theorem Ws (t x l h m):gg P T ⟨d,.slice t x l h m,ty,pos,af,gd⟩ recs K L st=fm (true) (reach st.h fk (AV.names.go ((#[x]++l.toArray++h.toArray++m.toArray).toList.map (dh L))) []) ⟨d,.slice t x l h m,ty,pos,af,gd⟩ recs K L st (mono (Ad P (db ⟨d,.slice t x l h m,ty,pos,af,gd⟩ L) ⟨d,.slice t x l h m,ty,pos,af,gd⟩ t x l h m)):=by
 unfold gg ky mc fm
 simp only [jn,cond_false]
 have hm:∀ y,y ∈ ((#[x]++l.toArray++h.toArray++m.toArray).toList:List Operand)→db ⟨d,.slice t x l h m,ty,pos,af,gd⟩ L y=dh L y:=fun y hy=>ef (by simpa [Op.operands,Call.operands] using hy)
 have hmap:((#[x]++l.toArray++h.toArray++m.toArray).toList:List Operand).map (db ⟨d,.slice t x l h m,ty,pos,af,gd⟩ L)=((#[x]++l.toArray++h.toArray++m.toArray).toList:List Operand).map (dh L):=ik (fun y hy=>by simpa [Op.operands,Call.operands] using hy)
 have ho:(⟨d,.slice t x l h m,ty,pos,af,gd⟩:Oper).op.operands.toList=(#[x]++l.toArray++h.toArray++m.toArray).toList:=by simp [Op.operands,Call.operands]
 rw [ho,hmap]
 rfl
theorem asr (op t x):gg P T ⟨d,.unOp op t x,ty,pos,af,gd⟩ recs K L st=fm (true) (reach st.h fk (AV.names.go ([x].map (dh L))) []) ⟨d,.unOp op t x,ty,pos,af,gd⟩ recs K L st (mono (kx P (db ⟨d,.unOp op t x,ty,pos,af,gd⟩ L) ⟨d,.unOp op t x,ty,pos,af,gd⟩ [x])):=by
 unfold gg ky mc fm
 simp only [jn,cond_false]
 have hm:∀ y,y ∈ ([x]:List Operand)→db ⟨d,.unOp op t x,ty,pos,af,gd⟩ L y=dh L y:=fun y hy=>ef (by simpa [Op.operands,Call.operands] using hy)
 have hmap:([x]:List Operand).map (db ⟨d,.unOp op t x,ty,pos,af,gd⟩ L)=([x]:List Operand).map (dh L):=ik (fun y hy=>by simpa [Op.operands,Call.operands] using hy)
 have ho:(⟨d,.unOp op t x,ty,pos,af,gd⟩:Oper).op.operands.toList=[x]:=by simp [Op.operands,Call.operands]
 rw [ho,hmap]
 rfl
theorem ah3 (x ts):gg P T ⟨d,.call { callee:=.builtin .len,args:=#[x],argTypes:=ts },ty,pos,af,gd⟩ recs K L st=fm (true) ([]) ⟨d,.call { callee:=.builtin .len,args:=#[x],argTypes:=ts },ty,pos,af,gd⟩ recs K L st (mono (uj ((ts[0]?).bind P.underlying) (dh L x))):=by
 unfold gg ky mc fm
 simp only [jn,cond_true]
 have hm:∀ y,y ∈ ([x]:List Operand)→db ⟨d,.call { callee:=.builtin .len,args:=#[x],argTypes:=ts },ty,pos,af,gd⟩ L y=dh L y:=fun y hy=>ef (by simpa [Op.operands,Call.operands] using hy)
 have hmap:([x]:List Operand).map (db ⟨d,.call { callee:=.builtin .len,args:=#[x],argTypes:=ts },ty,pos,af,gd⟩ L)=([x]:List Operand).map (dh L):=ik (fun y hy=>by simpa [Op.operands,Call.operands] using hy)
 have ho:(⟨d,.call { callee:=.builtin .len,args:=#[x],argTypes:=ts },ty,pos,af,gd⟩:Oper).op.operands.toList=[x]:=by simp [Op.operands,Call.operands]
 rw [Me,hm x (by simp)]
 rfl
theorem Tb (s x ts):gg P T ⟨d,.call { callee:=.builtin .append,args:=#[s,x],argTypes:=ts },ty,pos,af,gd⟩ recs K L st=fm (false) (reach st.h fk (AV.names.go ([s,x].map (dh L))) []) ⟨d,.call { callee:=.builtin .append,args:=#[s,x],argTypes:=ts },ty,pos,af,gd⟩ recs K L st (mono (pq P ts[0]? ((ts[1]?).bind P.underlying) (dh L s) (dh L x))):=by
 unfold gg ky mc fm
 simp only [jn,cond_false]
 have hm:∀ y,y ∈ ([s,x]:List Operand)→db ⟨d,.call { callee:=.builtin .append,args:=#[s,x],argTypes:=ts },ty,pos,af,gd⟩ L y=dh L y:=fun y hy=>ef (by simpa [Op.operands,Call.operands] using hy)
 have hmap:([s,x]:List Operand).map (db ⟨d,.call { callee:=.builtin .append,args:=#[s,x],argTypes:=ts },ty,pos,af,gd⟩ L)=([s,x]:List Operand).map (dh L):=ik (fun y hy=>by simpa [Op.operands,Call.operands] using hy)
 have ho:(⟨d,.call { callee:=.builtin .append,args:=#[s,x],argTypes:=ts },ty,pos,af,gd⟩:Oper).op.operands.toList=[s,x]:=by simp [Op.operands,Call.operands]
 rw [ho,hmap]
 rw [Ek,hm s (by simp),hm x (by simp)]
 rfl
theorem aas (f args ts):gg P T ⟨d,.call { callee:=.value f,args,argTypes:=ts },ty,pos,af,gd⟩ recs K L st=fm (rk T (dh L) ⟨d,.call { callee:=.value f,args,argTypes:=ts },ty,pos,af,gd⟩) (reach st.h fk (AV.names.go ((f::args.toList).map (dh L))) []) ⟨d,.call { callee:=.value f,args,argTypes:=ts },ty,pos,af,gd⟩ recs K L st (vr T (dh L f) (args.toList.map (dh L))):=by
 unfold gg ky mc fm
 simp only [jn,cond_false]
 have h1:⟨d,.call { callee:=.value f,args,argTypes:=ts },ty,pos,af,gd⟩=(⟨d,.call { callee:=.value f,args,argTypes:=ts },ty,pos,af,gd⟩:Oper):=rfl
 have hf:db ⟨d,.call { callee:=.value f,args,argTypes:=ts },ty,pos,af,gd⟩ L f=dh L f:=ef (by simp [Op.operands,Call.operands])
 have ha:args.toList.map (db ⟨d,.call { callee:=.value f,args,argTypes:=ts },ty,pos,af,gd⟩ L)=args.toList.map (dh L):=ik (fun x hx=>by simp [Op.operands,Call.operands];exact .inr (by simpa using hx))
 have hr:rk T (db ⟨d,.call { callee:=.value f,args,argTypes:=ts },ty,pos,af,gd⟩ L) ⟨d,.call { callee:=.value f,args,argTypes:=ts },ty,pos,af,gd⟩=rk T (dh L) ⟨d,.call { callee:=.value f,args,argTypes:=ts },ty,pos,af,gd⟩:=by simp only [rk,hf]
 have ho:(⟨d,.call { callee:=.value f,args,argTypes:=ts },ty,pos,af,gd⟩:Oper).op.operands.toList.map (db ⟨d,.call { callee:=.value f,args,argTypes:=ts },ty,pos,af,gd⟩ L)=(f::args.toList).map (dh L):=by
  show ((#[f]++args).toList).map _=_
  simp only [Array.toList_append,List.map_append,ha,List.map_cons,hf]
  rfl
 rw [hr,ho]
 show Ec _ _ _ _ _ _ _ (vr T (db _ L f) (args.toList.map (db _ L)) _)=_
 rw [hf,ha]
theorem Oc (n args ts):rk T (dh L) ⟨d,.call { callee:=.value (.func n),args,argTypes:=ts },ty,pos,af,gd⟩=roT (T.find n):=by simp only [rk,dh];rfl
end ops
theorem Yp (P T ops K L st):Dv P T ops true K L st=(Ke ops=true∧(Ej P T ops ops.toList K [] L st∨J3 P T ops ops.toList K [] L st)):=id rfl
theorem X3 (n):Fc n []=true:=id rfl
theorem Tj (n o r):Fc n (o::r)=(Nat.blt o n && Fc n r):=id rfl
theorem aaz (h h'):same h h' []=True:=id rfl
theorem Xv (h h' o r):same h h' (o::r)=(h.get o=h'.get o∧same h h' r):=id rfl
theorem Xd (h):qc h [] = .nil:=id rfl
theorem Ty (h o r):qc h (o::r)=Tr.set depth (qc h r) o (h.get o):=id rfl
theorem Sk (h1 h):tv h1 [] h=h:=id rfl
theorem Pg (h1 o r h):tv h1 (o::r) h=Tr.set depth (tv h1 r h) o (h1.get o):=id rfl
theorem W0 (t ts v vs):ic (t::ts) (v::vs)=(t,v)::ic ts vs:=id rfl
theorem Yd (P T f ps A B p Q L0 st0):aqh P T f ps A B p Q L0 st0=(Nat.ble p 1000=true∧Ml P T ps A B p Q L0 st0 (Gw (dh L0 f))):=id rfl
theorem aa1 (P T ps A B p Q L0 st0 g caps):Ml P T ps A B p Q L0 st0 (some (g,caps))=Ky P T ps A B p Q L0 st0 caps (Br P g):=id rfl
theorem aez (P T ps A B p Q L0 st0 caps nt code):Ky P T ps A B p Q L0 st0 caps (some (nt,code))=(Nat.ble (caps.length+1) nt=true∧∀ l:Nat,oq P T l (nb ps A B L0) p code (ab5 Q L0) none (bp 0 (.sc (.func (.yield l) #[] #[])::caps)) st0):=id rfl
theorem Xj (g c):Gw (.fn (.func g) [] c)=some (g,c):=id rfl
theorem Fl {P:Program} {T:dv} {l:Nat} {az:Nat} {L:SL} {st:St} {Q:QI} {ps:List Tmp} {ra rb:Code} {L0:SL} {α:Type} {b:Code} (keep:List Nat) (V : α→List AV) (O : α→List (Option bh)) (I : α→Prop) (μ : α→Nat) (x : α) (hx:I x)
 (hv:gv az keep L st=V x) (ho:ey az keep L st=O x)
 (step:∀ x,I x→oq P T l (nb ps (fun p=>wl P T p ra) (fun p=>wl P T p rb) L0) az b (yx (vw az keep (fun vs os=>∃ y,I y ∧ μ y < μ x∧vs=V y∧os=O y) (fun _ _ _=>False)) Q) none (ic keep (V x)) (bf (O x))):oq P T l (nb ps (fun p=>wl P T p ra) (fun p=>wl P T p rb) L0) az (.loop b) Q none L st:=
 ati (keep:=keep) (V:=V) (O:=O) (I:=I) (μ:=μ) (x:=x) (hx:=hx) (hR:=Od P T) (hv:=hv) (ho:=ho) (step:=step)
theorem z9 {P:Program} {T:dv} {R:He} {az:Nat} {L:SL} {st:St} {o:Oper} {K:Option Ex→SL→St→Prop} {args:Array Operand} (keep:List Nat) (h:zf R (ey az keep L st).length args o.dst K (ic keep (gv az keep L st)) (bf (ey az keep L st))):U4 P T R az o K none L st (some args):=⟨rfl,keep,h⟩
theorem Us (P:Program):∀ s:Sem Value,ev P (do pure (Next.value (← s)))=(ev P s).map Next.value:=by
 intro s
 induction s with
 |pure b=>rfl
 |program k ih=>exact ih P
 |choose q k ih=>
  simp only [bind,Sem.bind,ev]
  split
  ·exact ih 0
  ·rfl
 |mark m k ih=>exact ih
 |_=>rfl
def acj (m:M AV):M AV:=m
def adb (a:AV) (m:M AV):M AV:=
 match a.bool with
 |some b=>M.pure (.sc (.bool (!b)))
 |none=>m
theorem am5 (b:Bool) (m:M AV):adb (.sc (.bool b)) m=M.pure (.sc (.bool (!b))):=id rfl
theorem auz {a:AV} {b:Bool} (h:a.bool=some b):a = .sc (.bool b):=by
 unfold AV.bool AV.exact ny at h
 cases a with
 |sc v=>cases v<;>simp at h;rw [h]
 |_=>cases h
theorem Rr (P:Program) (ρ:Operand→AV) (d ty pos af gd) (t:TypeId) (x:Operand):kx P ρ ⟨d,.unOp .not t x,ty,pos,af,gd⟩ [x]=adb (ρ x) (acj (kx P ρ ⟨d,.unOp .not t x,ty,pos,af,gd⟩ [x])):=by
 unfold adb
 split
 ·rename_i b hb
  have hx:=auz hb
  have h2:execOp (fun z=>((ρ z).il).getD undef) ⟨d,.unOp .not t x,ty,pos,af,gd⟩=(do pure (Next.value (← Op.unary .not (.bool b)))):=by
   simp only [execOp,hx,AV.il,Option.getD_some]
  unfold kx l0 tf
  simp only [List.all_cons,List.all_nil,hx,AV.il,Option.isSome_some,Bool.and_true,cond_true]
  rw [h2,Us]
  rfl
 ·rfl
theorem Yo (P:Program) (T:dv) (ρ:Operand→AV) (d ty pos af gd) (t:TypeId) (x:Operand):fo P T ⟨d,.unOp .not t x,ty,pos,af,gd⟩ ρ=mono (adb (ρ x) (acj (kx P ρ ⟨d,.unOp .not t x,ty,pos,af,gd⟩ [x]))):=by
 exact congrArg mono (Rr ..)
theorem aiu (P:Program) (T:dv) (L:SL) (st:St) (recs:List Rec) (K:List Rec→SL→St→Prop) (d ty pos af gd) (t x):gg P T ⟨d,.unOp .not t x,ty,pos,af,gd⟩ recs K L st=fm true (reach st.h fk (AV.names.go ([x].map (dh L))) []) ⟨d,.unOp .not t x,ty,pos,af,gd⟩ recs K L st (mono (adb (dh L x) (acj (kx P (db ⟨d,.unOp .not t x,ty,pos,af,gd⟩ L) ⟨d,.unOp .not t x,ty,pos,af,gd⟩ [x])))):=by
 rw [asr]
 have h:=Rr P (db ⟨d,.unOp .not t x,ty,pos,af,gd⟩ L) d ty pos af gd t x
 rw [ef (by simp [Op.operands])] at h
 rw [← h]
theorem Qd (l:List UInt8):bytesOf (l.map Am)=some l:=by rw [Ei,wi]
theorem Og (a b:ByteArray):Cx.kl [.sc (.string a),.sc (.string b)]=M.pure (.sc (goInt (Lib.compareBytes a.data.toList b.data.toList))):=by
 unfold Cx.kl cellsIn
 simp only [Nat.beq_refl,cond_true]
 unfold M.bind M.pure
 simp only [Qd]
 rfl
theorem Mx {α:Type} (C:c8 α) (f:Bool) (h:C.sz=1) (ha:C.agg=false) (l:List α):(l.map (C.val f)).flatMap AV.cells=l.map (C.val f):=by
 induction l with
 |nil=>rfl
 |cons x l ih=>
  simp only [List.map_cons,List.flatMap_cons,ih]
  obtain ⟨c,h1,h2,_⟩:=C.one ha f x
  have:C.val f x=c:=by simp [c8.val,ha,h1]
  rw [this,h2];rfl
theorem Pc (f g:Bool) (a b:List UInt8):Cx.kl [.vl f 1 (a.map (bk.val f)),.vl g 1 (b.map (bk.val g))]=M.pure (.sc (goInt (Lib.compareBytes a b))):=by
 unfold Cx.kl cellsIn
 simp only [Nat.beq_refl,cond_true,Mx bk _ rfl rfl]
 unfold M.bind M.pure
 simp only [wi]
 rfl
theorem Ot {L:SL} {d ty pos af gd} {op t u x y}:db ⟨d,.binOp op t x y u,ty,pos,af,gd⟩ L x=dh L x:=ef (by simp [Op.operands])
theorem Oj {L:SL} {d ty pos af gd} {op t u x y}:db ⟨d,.binOp op t x y u,ty,pos,af,gd⟩ L y=dh L y:=ef (by simp [Op.operands])
theorem Ol {L:SL} {d ty pos af gd} {i t x}:db ⟨d,.index t x i,ty,pos,af,gd⟩ L x=dh L x:=ef (by simp [Op.operands])
theorem Py {L:SL} {d ty pos af gd} {i t x}:db ⟨d,.index t x i,ty,pos,af,gd⟩ L i=dh L i:=ef (by simp [Op.operands])
theorem Rs {L:SL} {d ty pos af gd} {h l m t x}:db ⟨d,.slice t x l h m,ty,pos,af,gd⟩ L x=dh L x:=ef (by simp [Op.operands])
theorem Ro {L:SL} {d ty pos af gd} {h l m t x}:db ⟨d,.slice t x (some l) h m,ty,pos,af,gd⟩ L l=dh L l:=ef (by simp [Op.operands])
theorem Tl {L:SL} {d ty pos af gd} {h l m t x}:db ⟨d,.slice t x l (some h) m,ty,pos,af,gd⟩ L h=dh L h:=ef (by simp [Op.operands])
def ah9 (P:Program) (ρ:Operand→AV) (o:Oper) (l:List Operand):M AV:=kx P ρ o l
def ac4 (u:Option TypeDesc) (a ix:AV) (m:M AV):M AV:=
 match u with
 |some .string=>
  match a with
  |.sc (.string s)=>
   match ix with
   |.sc (.int _ n)=>
    match (bif decide (0≤n) then s.data.toList[n.toNat]? else none) with
    |some b=>M.pure (.sc (.int .u8 b.toNat))
    |none=>m
   |_=>m
  |_=>m
 |_=>m
theorem aec (s:ByteArray) (k:IntKind) (n:Int) (m:M AV):ac4 (some .string) (.sc (.string s)) (.sc (.int k n)) m=match (bif decide (0≤n) then s.data.toList[n.toNat]? else none) with|some b=>M.pure (.sc (.int .u8 b.toNat))|none=>m:=id rfl
theorem Mq (P:Program) (ρ:Operand→AV) (d ty pos af gd) (t:TypeId) (x i:Operand):kx P ρ ⟨d,.index t x i,ty,pos,af,gd⟩ [x,i]=ac4 (P.underlying t) (ρ x) (ρ i) (ah9 P ρ ⟨d,.index t x i,ty,pos,af,gd⟩ [x,i]):=by
 unfold ac4
 split
 ·rename_i hu
  split
  ·rename_i s hx
   split
   ·rename_i k n hi
    split
    ·rename_i b hb
     cases h0:decide (0≤n) with
     |false=>rw [h0] at hb;cases hb
     |true=>
     rw [h0,cond_true] at hb
     have h0 : 0≤n:=by simpa using h0
     have hb':s[n.toNat]? = some b:=by
      obtain ⟨h1,h2⟩:=List.getElem?_eq_some_iff.1 hb
      simp at h1
      rw [getElem?_pos s n.toNat (by simpa using h1)]
      rw [← h2];rfl
     have h2:execOp (fun z=>((ρ z).il).getD undef) ⟨d,.index t x i,ty,pos,af,gd⟩=(do pure (Next.value (← Instr.index t (.string s) (.int k n)))):=by
      simp only [execOp,hx,hi,AV.il,Option.getD_some]
     unfold kx l0 tf
     simp only [List.all_cons,List.all_nil,hx,hi,AV.il,Option.isSome_some,Bool.and_true,cond_true]
     rw [h2,Us]
     have h3:ev P (Instr.index t (.string s) (.int k n))=some (.int .u8 b.toNat):=by
      simp [Instr.index,asIntOf,underlying,program,ev,hu,h0,hb',bind,Sem.bind,pure]
     rw [h3]
     rfl
    ·rfl
   ·rfl
  ·rfl
 ·rfl
theorem P9 (a n:Nat):(a:Int).fdiv (n:Int)=((a / n:Nat):Int):=by
 rw [Int.fdiv_eq_ediv_of_nonneg _ (by omega)];rfl
theorem acb (a:Nat):(a:Int).fdiv 256=((a / 256:Nat):Int):=P9 a 256
theorem Sp (a:Nat):(a:Int).fdiv 65536=((a / 65536:Nat):Int):=P9 a 65536
theorem Jn (a:Nat):(a:Int).fdiv 16777216=((a / 16777216:Nat):Int):=P9 a 16777216
theorem Z9 (f:Nat) (m) (T:dv):dv.find ((f,m)::T) f=some m:=by simp [dv.find]
theorem X2 (f g:Nat) (m) (T:dv) (h:(f == g)=false):dv.find ((f,m)::T) g=dv.find T g:=by
 have e:f≠g:=by simpa using h
 simp [dv.find,ou e]
end
end Go.Vm
end
namespace Go.Vm
variable [TK]
noncomputable section
def Bm (P:Program) (t:TypeId):Option (Nat × Nat × Nat):=
 match np P t with
 |some e=>
  match de P e,jt P e,fh P e with
  |some sz,some bytes,some z=>bif Nat.blt 0 sz && Nat.blt 0 bytes && Nat.beq z.cells.size sz then some (e,sz,bytes) else none
  |_,_,_=>none
 |none=>none
def aak (q:Option (Nat × Nat × Nat)) (s x:AV):M AV:=
 match q with
 |some (e,sz,bytes)=>(cellsIn sz x).bind (sq e sz bytes s)
 |none=>M.fail
theorem aqq (e sz bytes s x):aak (some (e,sz,bytes)) s x=(cellsIn sz x).bind (sq e sz bytes s):=id rfl
theorem Sm (P:Program) (t e:TypeId) (s x:AV):pq P (some t) (some (.slice e)) s x=aak (Bm P t) s x:=by
 unfold pq aak Bm
 simp only [Option.bind_some]
 cases np P t with
 |none=>rfl
 |some e=>
  simp only
  cases de P e with
  |none=>rfl
  |some sz=>
   cases jt P e with
   |none=>rfl
   |some bytes=>
    cases fh P e with
    |none=>rfl
    |some z=>
     simp only
     cases (Nat.blt 0 sz && Nat.blt 0 bytes && Nat.beq z.cells.size sz)<;>rfl
theorem S5 (P:Program) (t:TypeId) (s x:AV):pq P (some t) (some .string) s x=aak (Bm P t) s x:=by
 unfold pq aak Bm
 simp only [Option.bind_some]
 cases np P t with
 |none=>rfl
 |some e=>
  simp only
  cases de P e with
  |none=>rfl
  |some sz=>
   cases jt P e with
   |none=>rfl
   |some bytes=>
    cases fh P e with
    |none=>rfl
    |some z=>
     simp only
     cases (Nat.blt 0 sz && Nat.blt 0 bytes && Nat.beq z.cells.size sz)<;>rfl
theorem P0 (e sz bytes new):sq e sz bytes (.sc (.slice none 0 0)) new=bif new.isEmpty then M.pure (.sc (.slice none 0 0)) else bif Nat.ble (new.length * bytes) 140737488355328 then tl e sz (new.length / sz) new else M.fail:=id rfl
theorem Q3 (e sz bytes o off len sz' new):sq e sz bytes (.sl o off len sz') new=bif Nat.beq sz sz' then (ed o).bind (F0 e sz bytes o off len new) else M.fail:=id rfl
theorem Oh (e sz bytes o off len new cells k st et):F0 e sz bytes o off len new (.row cells k st et)=(bif Nat.beq et e && new.all AV.one && Nat.ble (off+len * sz) cells.length && Nat.ble ((len * sz+new.length) * bytes) 140737488355328 then
 bif Nat.ble k (off+len * sz) then
  (Ix o).bind fun _=>(m7 (.row ((cells.take (off+len * sz)).drop off++new) (k - off) (m8 (lu off (len * sz) cells.length) st) et)).bind fun id=>M.pure (.sl id 0 (len+new.length / sz) sz)
 else bif new.isEmpty then M.pure (.sl o off len sz)
 else M.fail
 else M.fail):=id rfl
theorem aus:m8 true 0=0:=id rfl
theorem aht (n):lu 0 n n=true:=by simp [lu]
theorem aha (n m):lu 0 n m=Nat.beq n m:=id rfl
def cellsOf {α:Type} (C:c8 α) (f:Bool) (xs:List α):List AV:=xs.flatMap (C.cells f)
theorem Pt {α:Type} (C:c8 α) (f):cellsOf C f []=[]:=id rfl
theorem Bs {α:Type} (C:c8 α) (f) (xs:List α):(cellsOf C f xs).length=xs.length * C.sz:=by
 induction xs with
 |nil=>simp [cellsOf]
 |cons x xs ih=>
  simp only [cellsOf] at ih
  simp [cellsOf,C.len,ih,Nat.succ_mul];omega
theorem Oa {α:Type} (C:c8 α) (f) (xs ys:List α):cellsOf C f (xs++ys)=cellsOf C f xs++cellsOf C f ys:=by simp [cellsOf]
theorem Ow {α:Type} (C:c8 α) (f) (x : α):cellsOf C f [x]=C.cells f x:=by simp [cellsOf]
theorem Gq {α:Type} (C:c8 α) (f) (xs:List α):(cellsOf C f xs).all AV.one=true:=by
 rw [List.all_eq_true]
 intro c hc
 obtain ⟨x,_,hx⟩:=List.mem_flatMap.1 hc
 exact (C.pl f x c hx).one
theorem Je {α:Type} (C:c8 α) (f) (xs:List α):AV.names.go (cellsOf C f xs)=[]:=Gb (fun c hc=>by
 obtain ⟨x,_,hx⟩:=List.mem_flatMap.1 hc
 exact (C.pl f x c hx).names)
theorem Pb {α:Type} (C:c8 α) (τ) (f) (xs:List α):(cellsOf C f xs).map (AV.dm τ)=cellsOf C f xs:=by
 rw [← kj]
 exact Qi (fun c hc=>by
  obtain ⟨x,_,hx⟩:=List.mem_flatMap.1 hc
  exact (C.pl f x c hx).dm τ)
theorem Bn {α:Type} {xs:List α} {i:Nat} {x : α} (h:xs[i]? = some x):xs.drop i=x::xs.drop (i+1):=by
 obtain ⟨h1,h2⟩:=List.getElem?_eq_some_iff.1 h
 rw [← h2];exact List.drop_eq_getElem_cons h1
theorem Qt {α:Type} (C:c8 α) (f) (xs:List α):(xs.map (C.val f)).flatMap AV.cells=cellsOf C f xs:=by
 rw [List.flatMap_map];congr 1;funext x;exact C.Co f x
def F7 (fr:Bool) (st sz:Nat) (kd:LK) (et:TypeId):Bool:=!fr || (Nat.beq st 0 && Kn sz kd et)
theorem aui (st sz kd et):F7 false st sz kd et=true:=id rfl
theorem aut (sz kd et):F7 true 0 sz kd et=Kn sz kd et:=id rfl
theorem Vt {fr:Bool} {st n sz:Nat} {kd:LK} {et:TypeId} (h:F7 fr st sz kd et=true):wv fr sz kd st 0 (n * sz) n et=true:=by
 cases fr with
 |false=>rfl
 |true=>
  simp only [F7,Bool.not_true,Bool.false_or,Bool.and_eq_true] at h
  simp [wv,h.1,h.2]
theorem Dw {α:Type} (C:c8 α) (fr:Bool) (h:Tr bh) (f:Bool) (xs:List α) (k st et) (n:Nat) (hn:n=xs.length) (hf:(f || !fr)=true) (hro:F7 fr st C.sz C.kd et=true):mr C fr h 0 n (.row (cellsOf C f xs) k st et)=some xs:=by
 subst hn
 simp only [mr,Nat.zero_add,Bs,Nat.ble_self_eq_true,Bool.true_and,Vt hro,cond_true,List.drop_zero]
 have:(cellsOf C f xs).take (xs.length * C.sz)=cellsOf C f xs:=List.take_of_length_le (by rw [Bs];exact Nat.le_refl _)
 rw [this]
 exact Wx C fr h f (fun e=>by subst e;simpa using hf) xs
theorem Ts {α:Type} (C:c8 α) (fr h k st et) (hro:F7 fr st C.sz C.kd et=true):mr C fr h 0 0 (.row [] k st et)=some []:=by
 have h0:wv fr C.sz C.kd st 0 0 0 et=true:=by have:=Vt (n:=0) hro;rwa [Nat.zero_mul] at this
 have h1:Nat.ble 0 0=true:=rfl
 simp [mr,v8,h0,h1]
def pr {α:Type} (C:c8 α) (fr:Bool) (h:Tr bh):List AV→Option (List α)
 | []=>some []
 |a::l=>match C.dec fr h [a],pr C fr h l with
  |some x,some xs=>some (x::xs)
  |_,_=>none
def axd {α:Type} (a b:Option (List α)):Option (List α):=match a,b with|some x,some y=>some (x++y)|_,_=>none
def aua {α:Type} (a:Option α) (b:Option (List α)):Option (List α):=match a,b with|some x,some y=>some (x::y)|_,_=>none
theorem am3 {α:Type} (a b:List α):axd (some a) (some b)=some (a++b):=id rfl
theorem aip {α:Type} (a : α) (b:List α):aua (some a) (some b)=some (a::b):=id rfl
theorem Qb {α:Type} (C:c8 α) (fr h):pr C fr h []=some []:=id rfl
theorem Fv {α:Type} (C:c8 α) (fr h a l):pr C fr h (a::l)=aua (C.dec fr h [a]) (pr C fr h l):=id rfl
theorem P3 {α:Type} (C:c8 α) (fr h):∀ a b,pr C fr h (a++b)=axd (pr C fr h a) (pr C fr h b)
 | [],b=>by
  simp only [List.nil_append,Qb]
  cases pr C fr h b<;>rfl
 |x::a,b=>by
  simp only [List.cons_append,Fv,P3 C fr h a b]
  cases C.dec fr h [x]<;>cases pr C fr h a<;>cases pr C fr h b<;>rfl
theorem aap {α:Type} (C:c8 α) (hz:C.sz=1) (fr h):∀ cells:List AV,v8 C fr h cells.length cells=pr C fr h cells
 | []=>rfl
 |a::l=>by
  have h1:(a::l).take C.sz=[a]:=by rw [hz];rfl
  have h2:(a::l).drop C.sz=l:=by rw [hz];rfl
  simp only [List.length_cons,v8,h1,h2,aap C hz fr h l]
  rfl
theorem vn {α:Type} (C:c8 α) (hz:C.sz=1) (fr h n cells k st et) (hn:n=cells.length) (hro:F7 fr st 1 C.kd et=true):mr C fr h 0 n (.row cells k st et)=pr C fr h cells:=by
 subst hn
 have h0:wv fr 1 C.kd st 0 cells.length cells.length et=true:=by have:=Vt (n:=cells.length) hro;rwa [Nat.mul_one] at this
 simp only [mr,hz,Nat.mul_one,Nat.zero_add,Nat.ble_self_eq_true,Bool.true_and,h0,cond_true,List.drop_zero,List.take_length]
 exact aap C hz fr h cells
theorem D8 {α:Type} (C:c8 α) (hz:C.sz=1) (ha:C.agg=false) (fr h f) (hf:fr=true→f=true):∀ l:List α,pr C fr h (l.map (C.val f))=some l
 | []=>rfl
 |x::l=>by
  obtain ⟨c,h1,_⟩:=C.one ha f x
  have hv:C.val f x=c:=by simp [c8.val,ha,h1]
  have hd:=C.rt fr h f x hf
  rw [h1] at hd
  rw [List.map_cons,Fv,D8 C hz ha fr h f hf l,hv,hd];rfl
theorem ael {α β:Type} (f : α → β) (l:List α) (n:Nat):(l.map f).take n=(l.take n).map f:=List.map_take.symm
theorem aex {α β:Type} (f : α → β) (l:List α) (n:Nat):(l.map f).drop n=(l.drop n).map f:=List.map_drop.symm
theorem Ed {α β:Type} (f : α → β) (l:List α):(l.map f).isEmpty=l.isEmpty:=by cases l<;>rfl
theorem E7 {α:Type} (l:List α) (x : α):(l++[x]).isEmpty=false:=by cases l<;>rfl
theorem H4 (a b:List AV):AV.names.go (a++b)=AV.names.go a++AV.names.go b:=by
 induction a with
 |nil=>rfl
 |cons x a ih=>simp only [List.cons_append,AV.names.go,ih,List.append_assoc]
theorem rtT {α:Type} (C:c8 α) (h:Tr bh) (x : α):C.gy true h (C.val true x)=some x:=C.Ln true h true x (fun _=>rfl)
theorem rtF {α:Type} (C:c8 α) (h:Tr bh) (l:Bool) (x : α):C.gy false h (C.val l x)=some x:=C.Ln false h l x (fun e=>by cases e)
theorem ac0 (s:ByteArray):s.data.toList.length=s.size:=by simp
theorem ahz {α:Type} {l:List α} {n:Nat} (h:l.length≤n):l.take n=l:=List.take_of_length_le h
theorem ax9 {α:Type} (C:c8 α) (fr:Bool) (h:Tr bh) (x : α):C.gy fr h (C.val fr x)=some x:=C.Ln fr h fr x (fun e=>e)
theorem bw {a b:Nat} (h:a≤b):decide (a≤b)=true:=by simpa using h
theorem bz {a b:Nat} (h:a<b):decide (a<b)=true:=by simpa using h
theorem bu {a b:Int} (h:a≤b):decide (a≤b)=true:=by simpa using h
theorem bt {a b:Int} (h:a<b):decide (a<b)=true:=by simpa using h
theorem ah (x:Int) (h0 : -9223372036854775808≤x) (h1:x<9223372036854775808):IntKind.i64.wrap x=x:=by
 simp [IntKind.wrap,IntKind.bits,IntKind.signed];omega
theorem apk (n:Nat):IntKind.u8.wrap (n:Int)=((UInt8.ofNat n).toNat:Int):=by simp [IntKind.wrap,IntKind.bits,IntKind.signed]
theorem be {p:Prop} [Decidable p] {X Y:SL→St→Prop} {L st}:ug (.sc (.bool (decide p))) X Y L st=((p→X L st)∧(¬ p→Y L st)):=by
 by_cases h:p<;>simp [h,Hu,Hq]
theorem b9 {a b:Int} {X Y:SL→St→Prop} {L st}:ug (.sc (.bool (a == b))) X Y L st=(((a == b)=true∧a=b→X L st)∧((a == b)=false∧a≠b→Y L st)):=by
 by_cases h:a=b
 ·subst h;simp [Hu]
 ·have:(a == b)=false:=by simpa using h
  simp [h,this,Hq]
theorem c6 {a b:Int} {X Y:SL→St→Prop} {L st}:ug (.sc (.bool (a != b))) X Y L st=(((a != b)=true∧a≠b→X L st)∧((a != b)=false∧a=b→Y L st)):=by
 by_cases h:a=b
 ·subst h;simp [Hq]
 ·have:(a != b)=true:=by simpa using h
  simp [h,this,Hu]
theorem Xa (P:Program) (T:dv) (ρ:Operand→AV) (d ty pos af gd) (x ts):fo P T ⟨d,.call { callee:=.builtin .cap,args:=#[x],argTypes:=ts },ty,pos,af,gd⟩ ρ=mono (I3 ((ts[0]?).bind P.underlying) (ρ x)):=id rfl
theorem Xt (e a n c):I3 (some (.slice e)) (.sc (.slice a n c))=M.pure (.sc (goInt c)):=id rfl
def asq (P:Program) (q:Option (Nat × Nat × Nat)) (s x:AV):M AV:=
 match q with
 |some (e,sz,bytes)=>
  match Ds P e sz x with
  |some new=>sq e sz bytes s new
  |none=>M.fail
 |none=>M.fail
theorem ap6 (P:Program) (e sz bytes s x):asq P (some (e,sz,bytes)) s x=match Ds P e sz x with|some new=>sq e sz bytes s new|none=>M.fail:=id rfl
theorem Ru (P:Program) (t:TypeId) (k:IntKind) (s x:AV):pq P (some t) (some (.int k)) s x=asq P (Bm P t) s x:=by
 unfold pq asq Bm
 simp only [Option.bind_some]
 cases np P t with
 |none=>rfl
 |some e=>
  simp only
  cases de P e with
  |none=>rfl
  |some sz=>
   cases jt P e with
   |none=>rfl
   |some bytes=>
    cases fh P e with
    |none=>rfl
    |some z=>
     simp only
     cases (Nat.blt 0 sz && Nat.blt 0 bytes && Nat.beq z.cells.size sz)<;>rfl
def ac8 (z:Option Value) (sz:Nat) (n:Int):Option (List AV):=
 match z with
 |some z=>bif decide (0≤n) && decide (n≤1073741824) && Nat.beq z.cells.size sz then some ((List.replicate n.toNat (z.cells.toList.map AV.sc)).flatten) else none
 |none=>none
theorem aai (z sz n):ac8 (some z) sz n=bif decide (0≤n) && decide (n≤1073741824) && Nat.beq z.cells.size sz then some ((List.replicate n.toNat (z.cells.toList.map AV.sc)).flatten) else none:=id rfl
theorem Yk (P:Program) (e sz:Nat) (k:IntKind) (n:Int):Ds P e sz (.sc (.int k n))=ac8 (fh P e) sz n:=by
 simp only [Ds,ac8,su,AV.int,AV.exact,Option.bind_some,intOf,Option.map_some]
 cases fh P e<;>rfl
theorem ahj {α:Type} (n:Nat) (x : α):(List.replicate n [x]).flatten=List.replicate n x:=by
 induction n with
 |zero=>rfl
 |succ n ih=>simp [List.replicate_succ,ih]
theorem O9 {α:Type} {n:Nat} {x : α} (h : 0<n):(List.replicate n x).isEmpty=false:=by
 cases n with
 |zero=>omega
 |succ n=>rfl
theorem nc0:((0:Nat):Int)=0:=id rfl
theorem nc1:((1:Nat):Int)=1:=id rfl
theorem amx (n:Nat):List.replicate n (AV.sc (.int .u8 0))=(List.replicate n (0:UInt8)).map (bk.val false):=by rw [List.map_replicate];rfl
def ald (P:Program) (u:Option TypeDesc) (x hi:AV) (m:M AV):M AV:=
 match u with
 |some (.slice e)=>
  match de P e with
  |some _=>
   match x with
   |.sc (.slice none 0 0)=>
    match hi with
    |.sc (.int .i64 0)=>M.pure (.sc (.slice none 0 0))
    |_=>m
   |_=>m
  |none=>m
 |_=>m
theorem apx (P:Program) (e m) (h:(de P e).isSome=true):ald P (some (.slice e)) (.sc (.slice none 0 0)) (.sc (.int .i64 0)) m=M.pure (.sc (.slice none 0 0)):=by
 obtain ⟨n,hn⟩:=Option.isSome_iff_exists.1 h
 simp only [ald,hn]
theorem Fj (P:Program) (ρ:Operand→AV) (d ty pos af gd) (t:TypeId) (x h:Operand):kx P ρ ⟨d,.slice t x none (some h) none,ty,pos,af,gd⟩ (.slice t x none (some h) none:Op).operands.toList=ald P (P.underlying t) (ρ x) (ρ h) (ah9 P ρ ⟨d,.slice t x none (some h) none,ty,pos,af,gd⟩ (.slice t x none (some h) none:Op).operands.toList):=by
 unfold ald
 split
 ·rename_i e hu
  split
  ·rename_i n hn
   split
   ·rename_i hx
    split
    ·rename_i hh
     have h2:execOp (fun z=>((ρ z).il).getD undef) ⟨d,.slice t x none (some h) none,ty,pos,af,gd⟩=(do pure (Next.value (← Instr.sliceAt t (.slice none 0 0) none (some (.int .i64 0)) none))):=by
      simp only [execOp,hx,hh,AV.il,Option.getD_some,Option.map_some,Option.map_none]
     have hi:∃ i,P.info? e=some i:=by
      unfold de at hn
      cases hq:P.info? e with
      |none=>rw [hq] at hn;cases hn
      |some i=>exact ⟨i,rfl⟩
     obtain ⟨i,hi⟩:=hi
     have h3:ev P (Instr.sliceAt t (.slice none 0 0) none (some (.int .i64 0)) none)=some (.slice none 0 0):=by
      simp [Instr.sliceAt,Instr.slice,Instr.sliceBounds,Instr.sliceBound,asIntOf,underlying,program,ev,hu,sizeOf,typeInfo,hi,bind,Sem.bind,pure]
     unfold kx l0 tf
     simp only [Op.operands]
     simp [hx,hh,AV.il]
     rw [h2,Us,h3]
     rfl
    ·rfl
   ·rfl
  ·rfl
 ·rfl
def aqz {α:Type} (o sz:Nat) (l:List α):AV:=bif l.isEmpty then .sc (.slice none 0 0) else .sl o 0 l.length sz
def als (cells:List AV) (k st:Nat) (et:TypeId):List (Option bh):=bif cells.isEmpty then [] else [some (.row cells k st et)]
theorem apn {α:Type} {o sz} {l:List α} (h:l.isEmpty=false):aqz o sz l = .sl o 0 l.length sz:=by simp [aqz,h]
theorem Yi {α:Type} (o sz) (l:List α) (c : α):aqz o sz (l++[c]) = .sl o 0 (l.length+1) sz:=by rw [apn (E7 l c)];simp
theorem aoo {cells:List AV} {k st et} (h:cells.isEmpty=false):als cells k st et=[some (.row cells k st et)]:=by simp [als,h]
theorem ark {α:Type} {f : α→AV} {l:List α} {k st et} (h:l.isEmpty=false):als (l.map f) k st et=[some (.row (l.map f) k st et)]:=aoo (by rw [Ed,h])
theorem Xk {α:Type} (f : α→AV) (l:List α) (c : α) (k st et):als ((l++[c]).map f) k st et=[some (.row (l.map f++[f c]) k st et)]:=by rw [ark (E7 l c)];simp
theorem dq {α:Type} {l:List α} {i:Nat} (h:decide ((i:Int)<(l.length:Int))=true):∃ c,l[i]? = some c∧l.drop i=c::l.drop (i+1)∧i<l.length:=by
 have h1:i<l.length:=by simp at h;omega
 exact ⟨l[i],List.getElem?_eq_getElem h1,List.drop_eq_getElem_cons h1,h1⟩
theorem en {α:Type} {l:List α} {i:Nat} (h:decide ((i:Int)<(l.length:Int))=false):l.drop i=[]:=by
 have h1:¬ i<l.length:=by simp at h;omega
 exact List.drop_eq_nil_of_le (by omega)
def wy (D:List Nat):Nat→List (Option bh)→List (Option bh)
 |_,[]=>[]
 |i,x::r=>(bif Bg i D then x else none)::wy D (i+1) r
def yt (D:List Nat):Nat→List (Option bh)→List (Option bh)
 |_,[]=>[]
 |i,x::r=>(bif Bg i D then none else x)::yt D (i+1) r
theorem Yf (D):∀ (i:Nat) (os:List (Option bh)),(wy D i os).length=os.length
 |_,[]=>rfl
 |i,x::r=>by simp [wy,Yf D (i+1) r]
theorem Mm (D):∀ (i:Nat) (os:List (Option bh)),(yt D i os).length=os.length
 |_,[]=>rfl
 |i,x::r=>by simp [yt,Mm D (i+1) r]
theorem W5 (D):∀ (os:List (Option bh)) (i j:Nat),((wy D i os)[j]?).join=if (i+j) ∈ D then (os[j]?).join else none
 | [],i,j=>by simp [wy]
 |x::r,i,0=>by
  simp only [wy,List.getElem?_cons_zero,Option.join_some,Nat.add_zero]
  cases hb:Bg i D with
  |true=>rw [if_pos ((xf i D).1 hb)];rfl
  |false=>rw [if_neg (fun h=>by rw [(xf i D).2 h] at hb;cases hb)];rfl
 |x::r,i,j+1=>by
  simp only [wy,List.getElem?_cons_succ]
  rw [W5 D r (i+1) j,show i+1+j=i+(j+1) from by omega]
theorem Yj (D):∀ (os:List (Option bh)) (i j:Nat),((yt D i os)[j]?).join=if (i+j) ∈ D then none else (os[j]?).join
 | [],i,j=>by simp [yt]
 |x::r,i,0=>by
  simp only [yt,List.getElem?_cons_zero,Option.join_some,Nat.add_zero]
  cases hb:Bg i D with
  |true=>rw [if_pos ((xf i D).1 hb)];rfl
  |false=>rw [if_neg (fun h=>by rw [(xf i D).2 h] at hb;cases hb)];rfl
 |x::r,i,j+1=>by
  simp only [yt,List.getElem?_cons_succ]
  rw [Yj D r (i+1) j,show i+1+j=i+(j+1) from by omega]
theorem Vs (os:List (Option bh)) (h:os.length≤di) (o:Nat):(bf os).h.get o=(os[o]?).join:=by
 simp only [bf]
 rw [u7 _ _ _ (by omega),if_pos (Nat.zero_le _),Nat.sub_zero]
inductive ft (h:Tr bh):AV→AV→Prop
 |same (a:AV):ft h a a
 |data {α:Type} (C:c8 α) (fr:Bool) (x : α) (a:AV) (hd:C.gy fr h a=some x):ft h a (C.val fr x)
 |bad (a:AV):ft h a .bad
 |nil (o off sz:Nat):ft h (.sc (.slice none 0 0)) (.sl o off 0 sz)
 |oi (loc:Bool) (sz:Nat):ft h (.sc (.slice none 0 0)) (.vl loc sz [])
inductive er (h:Tr bh):List AV→List AV→Prop
 |nil:er h [] []
 |cons {a b:AV} {l m:List AV} (h1:ft h a b) (h2:er h l m):er h (a::l) (b::m)
theorem er.len {h l m} (hl:er h l m):m.length=l.length:=by
 induction hl with
 |nil=>rfl
 |cons _ _ ih=>simp [ih]
theorem er.refl (h):∀ l,er h l l
 | []=>.nil
 |a::l=>.cons (.same a) (er.refl h l)
theorem er.get {h l m} (hl:er h l m):∀ (i:Nat) b,m[i]? = some b→∃ a,l[i]? = some a∧ft h a b:=by
 induction hl with
 |nil=>intro i b hb;simp at hb
 |cons h1 h2 ih=>
  intro i b hb
  cases i with
  |zero=>simp at hb;subst hb;exact ⟨_,rfl,h1⟩
  |succ i=>exact ih i b (by simpa using hb)
inductive cp (h:Tr bh):List (Option bh)→List (Option bh)→Prop
 |nil:cp h [] []
 |ghost {st et m} (h2:cp h [] m):cp h [] (some (.row [] 0 st et)::m)
 |same {x l m} (h2:cp h l m):cp h (x::l) (x::m)
 |gone {x l m} (h2:cp h l m):cp h (x::l) (none::m)
 |row {cells cells' k st et l m} (h1:er h cells cells') (h2:cp h l m):cp h (some (.row cells k st et)::l) (some (.row cells' k st et)::m)
theorem cp.refl (h):∀ l,cp h l l
 | []=>.nil
 |x::l=>.same (cp.refl h l)
theorem cp.len {h l m} (hl:cp h l m):l.length≤m.length:=by induction hl<;>simp_all
theorem cp.get {h l m} (hl:cp h l m):∀ (i:Nat) y,(m[i]?).join=some y→(l[i]?).join=some y∨(∃ cells cells' k st et,y = .row cells' k st et∧(l[i]?).join=some (.row cells k st et)∧er h cells cells')∨(l.length≤i∧H0 y):=by
 induction hl with
 |nil=>intro i y hy;simp at hy
 | @ghost st et m h2 ih=>
  intro i y hy
  cases i with
  |zero=>simp at hy;subst hy;exact .inr (.inr ⟨Nat.le_refl _,st,et,rfl⟩)
  |succ i=>exact .inr (.inr ⟨Nat.zero_le _,(by
   rcases ih i y (by simpa using hy) with h|⟨_,_,_,_,_,_,h,_⟩|h
   ·simp at h
   ·simp at h
   ·exact h.2)⟩)
 |same h2 ih=>
  intro i y hy
  cases i with
  |zero=>exact .inl hy
  |succ i=>exact (ih i y (by simpa using hy)).imp id (Or.imp id (fun h=>⟨Nat.succ_le_succ h.1,h.2⟩))
 |gone h2 ih=>
  intro i y hy
  cases i with
  |zero=>simp at hy
  |succ i=>exact (ih i y (by simpa using hy)).imp id (Or.imp id (fun h=>⟨Nat.succ_le_succ h.1,h.2⟩))
 |row h1 h2 ih=>
  intro i y hy
  cases i with
  |zero=>simp at hy;subst hy;exact .inr (.inl ⟨_,_,_,_,_,rfl,rfl,h1⟩)
  |succ i=>exact (ih i y (by simpa using hy)).imp id (Or.imp id (fun h=>⟨Nat.succ_le_succ h.1,h.2⟩))
theorem jo.lax {vs vs':List AV} {os os':List (Option bh)} {az:Nat} (D:List Nat) (hlen':os'.length≤di) (hv:er (bf (wy D 0 os)).h vs vs') (ho:cp (bf (wy D 0 os)).h (yt D 0 os) os'):jo az vs os vs' os':=by
 have holen:os.length≤os'.length:=by have:=ho.len;rw [Mm] at this;exact this
 have hlen:os.length≤di:=Nat.le_trans holen hlen'
 refine ⟨hv.len,fun q=>Nat.le_trans q holen,fun g w us hok hfree hr=>?_⟩
 obtain ⟨hD,ehD⟩:∃ hD,(bf (wy D 0 os)).h=hD:=⟨_,rfl⟩
 rw [ehD] at hv ho
 have ed:∀ o,(bf os).h.get o=(os[o]?).join:=Vs os hlen
 have hgetD:∀ o,hD.get o=if o ∈ D then (os[o]?).join else none:=fun o=>by
  rw [← ehD,Vs _ (by rw [Yf];exact hlen),W5,Nat.zero_add]
 have hget':∀ o y,(bf os').h.get o=some y→(o ∉ D∧((bf os).h.get o=some y∨∃ cells cells' k st et,y = .row cells' k st et∧(bf os).h.get o=some (.row cells k st et)∧er hD cells cells'))∨(os.length≤o∧H0 y):=fun o y hy=>by
  rw [Vs _ hlen'] at hy
  have hmid:∀ z,((yt D 0 os)[o]?).join=some z→o ∉ D∧(os[o]?).join=some z:=fun z hz=>by
   rw [Yj,Nat.zero_add] at hz
   by_cases hd:o ∈ D
   ·rw [if_pos hd] at hz;cases hz
   ·rw [if_neg hd] at hz;exact ⟨hd,hz⟩
  rw [ed]
  rcases ho.get o y hy with h1|⟨cells,cells',k,st,et,h1,h2,h3⟩|h1
  ·exact .inl ⟨(hmid _ h1).1,.inl (hmid _ h1).2⟩
  ·exact .inl ⟨(hmid _ h2).1,.inr ⟨cells,cells',k,st,et,h1,(hmid _ h2).2,h3⟩⟩
  ·rw [Mm] at h1;exact .inr h1
 have hsub:∀ o x,hD.get o=some x→o ∈ D∧(bf os).h.get o=some x:=fun o x hx=>by
  rw [hgetD] at hx
  by_cases hd:o ∈ D
  ·rw [if_pos hd] at hx;rw [ed];exact ⟨hd,hx⟩
  ·rw [if_neg hd] at hx;cases hx
 have hokD:Ok g hD w:=hok.part (fun o x hx=>(hsub o x hx).2)
 obtain ⟨K',eK⟩:∃ K':Nat→Nat→Prop,(fun b j=>g.K b j∨∃ o base cells k s e,hD.get o=some (.row cells k s e)∧g.inj o=some (b,base)∧∃ i,(s=0∨i<cells.length)∧j=base+i)=K':=⟨_,rfl⟩
 have hK':∀ b j,K' b j↔(g.K b j∨∃ o base cells k s e,hD.get o=some (.row cells k s e)∧g.inj o=some (b,base)∧∃ i,(s=0∨i<cells.length)∧j=base+i):=fun b j=>by rw [← eK]
 have hlend:uq g hD K':=⟨fun b j h=>(hK' b j).2 (.inl h),fun o cells k s e h b base hi j hj=>(hK' _ _).2 (.inr ⟨o,base,cells,k,s,e,h,hi,j,hj,rfl⟩)⟩
 have hlax:∀ {a b:AV} {v:Value},ft hD a b→Rel g w a v→Rel { g with K:=K' } w b v:=fun {a b v} hl hrel=>by
  have hup:Rel { g with K:=K' } w a v:=Rel.ext (g:=g) (w:=w) (g':={ g with K:=K' }) (w':=w) ⟨rfl,fun _ _ h=>h,fun b j h=>(hK' b j).2 (.inl h),fun _ _ _=>rfl,fun b cs e fr h=>⟨cs,fr,h,rfl⟩,fun b l h=>⟨l,h⟩,fun _ _ _ _ _ _=>rfl⟩ hrel
  cases hl with
  |same=>exact hup
  |data C fr x a hd=>exact (C.Tp hokD hlend (fun _=>Nat.le_refl g.b0) hrel hd).lift (Nat.le_refl _) (fun _ _ h=>h)
  |bad=>exact .bad _
  |nil o off sz=>obtain rfl:=hup.exact rfl;exact .tu _ _ _
  |oi loc sz=>obtain rfl:=hup.exact rfl;exact .kf _ _
 refine ⟨{ g with K:=K' },⟨hok.size,fun o y hy=>?_,fun o o' x x' b base base' hne hx hx' hb hb'=>?_,fun b j hk=>?_⟩,⟨by rw [hv.len];exact hr.1,fun i b v hb hv'=>?_⟩,rfl,fun o q=>hfree o (Nat.le_trans holen q),fun _ _=>rfl,fun b j h=>(hK' b j).2 (.inl h),fun o b base ho' hi'=>?_,fun b j hk=>?_⟩
 ·rcases hget' o y hy with ⟨hnd,hy⟩|⟨hge,hgh⟩
  case inr=>exact .inl ⟨hfree o hge,hgh⟩
  have hKo:∀ b base,g.inj o=some (b,base)→((bf os).h.get o).isSome=true→∀ j,K' b j→g.K b j:=fun b base hi hs j hk=>by
   rcases (hK' b j).1 hk with h|⟨o2,base2,cells,k,s,e,h1,h2,_⟩
   ·exact h
   ·exfalso
    obtain ⟨hd2,h1'⟩:=hsub o2 _ h1
    obtain ⟨x,hx⟩:=Option.isSome_iff_exists.1 hs
    exact hok.sep o o2 x _ b base base2 (fun e=>hnd (by rw [e];exact hd2)) hx h1' hi h2
  have hext:Ext g w { g with K:=K' } w:=⟨rfl,fun _ _ h=>h,fun b j h=>(hK' b j).2 (.inl h),fun _ _ _=>rfl,fun b cs e fr h=>⟨cs,fr,h,rfl⟩,fun b l h=>⟨l,h⟩,fun _ _ _ _ _ _=>rfl⟩
  rcases hy with hy|⟨cells,cells',k,st,et,rfl,hy,hcl⟩
  ·refine (hok.qg o y hy).imp id ?_
   rintro ⟨b,base,h1,h2,h3⟩
   exact ⟨b,base,h1,h2,h3.ext hext rfl (fun j hj=>hKo b base h1 (by rw [hy];rfl) j hj)⟩
  ·refine (hok.qg o _ hy).imp (fun q=>⟨q.1,by
    obtain ⟨s0,e0,he⟩:=q.2
    simp only [bh.row.injEq] at he
    obtain ⟨rfl,rfl,rfl,rfl⟩:=he
    cases hcl
    exact ⟨_,_,rfl⟩⟩) ?_
   rintro ⟨b,base,h1,h2,cs,fr,r1,r2,r3,r4,r5,r6,r7⟩
   refine ⟨b,base,h1,h2,cs,fr,r1,by rw [hcl.len];exact r2,fun j c hc=>?_,r4,fun j hj=>r5 j (hKo b base h1 (by rw [hy];rfl) j hj),r6,fun e=>by rw [hcl.len];exact r7.1 e,fun e=>by rw [hcl.len];exact r7.2 e⟩
   obtain ⟨a,ha,hla⟩:=hcl.get j c hc
   obtain ⟨u,hu,hru⟩:=r3 j a ha
   exact ⟨u,hu,hlax hla hru⟩
 ·have q:∀ o y p,(bf os').h.get o=some y→g.inj o=some p→∃ z,(bf os).h.get o=some z:=fun o y p hy hp=>by
   rcases hget' o y hy with ⟨_,h|⟨_,_,_,_,_,_,h,_⟩⟩|⟨h,_⟩
   ·exact ⟨_,h⟩
   ·exact ⟨_,h⟩
   ·rw [hfree o h] at hp;cases hp
  obtain ⟨z,hz⟩:=q o x _ hx hb
  obtain ⟨z',hz'⟩:=q o' x' _ hx' hb'
  exact hok.sep o o' z z' b base base' hne hz hz' hb hb'
 ·rcases (hK' b j).1 hk with h|⟨o,base,cells,k,s,e,h1,h2,_⟩
  ·exact hok.K b j h
  ·obtain ⟨b',base',h3,_,h4⟩:=hokD.obj o _ h1
   rw [h2] at h3;cases h3
   exact h4.lt
 ·obtain ⟨a,ha,hla⟩:=hv.get i b hb
  exact hlax hla (hr.2 i a v ha hv')
 ·obtain ⟨y,hy⟩:=Option.isSome_iff_exists.1 ho'
  rcases hget' o y hy with ⟨_,h|⟨_,_,_,_,_,_,h,_⟩⟩|⟨h,_⟩
  ·exact ⟨o,base,by rw [h];rfl,hi'⟩
  ·exact ⟨o,base,by rw [h];rfl,hi'⟩
  ·have:g.inj o=some (b,base):=hi'
   rw [hfree o h] at this;cases this
 ·rcases (hK' b j).1 hk with h|⟨o,base,cells,k,s,e,h1,h2,_⟩
  ·exact .inl h
  ·exact .inr ⟨o,base,by rw [(hsub o _ h1).2];rfl,h2⟩
theorem W9 {α:Type} {P:Program} {T:dv} {az:Nat} {b:Code} {Q:QL} {L:SL} {st:St} (keep:List Nat) (V : α→List AV) (O : α→List (Option bh)) (I : α→Prop) (μ : α→Nat) (x : α) (hx:I x)
 (hv:jo az (gv az keep L st) (ey az keep L st) (V x) (O x))
 (step:∀ x,I x→wl P T az b (vw az keep (fun vs os=>∃ y,I y ∧ μ y < μ x∧jo az vs os (V y) (O y)) Q) (ic keep (V x)) (bf (O x))):se az (wl P T az b) Q L st:=
 se.asi keep V O I μ x hx hv (fun _ _ h=>Ba b _ _ h) step
theorem gz {α:Type} {P:Program} {T:dv} {az:Nat} {b:Code} {Q:QL} {L:SL} {st:St} (keep:List Nat) (V : α→List AV) (O : α→List (Option bh)) (I : α→Prop) (μ : α→Nat) (x : α) (hx:I x)
 (hv:jo az (gv az keep L st) (ey az keep L st) (V x) (O x))
 (step:∀ x,I x→wl P T az b (vw az keep (fun vs os=>∃ y,I y ∧ μ y < μ x∧vs=V y∧os=O y) Q) (ic keep (V x)) (bf (O x))):se az (wl P T az b) Q L st:=
 W9 keep V O I μ x hx hv (fun x hi=>Ba b _ _ (fun e L' st' hq=>by
  cases e with
  |normal=>
   obtain ⟨y,h1,h2,h3,h4⟩:=hq
   refine ⟨y,h1,h2,?_⟩
   rw [h3,h4];exact .refl _ _ _
  |exit id=>exact hq
  |ret=>exact hq) _ _ (step x hi))
theorem Gg (f) (l):(List.map (ag.val f) l).flatMap AV.cells=l.map (ag.val f):=Mx ag f rfl rfl l
theorem Sq (f) (l):(List.map (ag.val f) l).all AV.one=true:=by rw [← Gg f l,Qt];exact Gq _ _ _
theorem Jg (fr h n cells k st et) (hn:n=cells.length) (hro:F7 fr st 1 .str et=true):mr ag fr h 0 n (.row cells k st et)=pr ag fr h cells:=vn ag rfl fr h n cells k st et hn hro
theorem Yz:ag.kd = .str:=id rfl
theorem O6 (fr h f) (l):pr ag fr h (List.map (ag.val f) l)=some l:=by
 have e:List.map (ag.val f) l=List.map (ag.val true) l:=by cases f<;>rfl
 rw [e];exact D8 ag rfl rfl fr h true (fun _=>rfl) l
theorem I5 (f) (l):(List.map (bk.val f) l).flatMap AV.cells=l.map (bk.val f):=Mx bk f rfl rfl l
theorem X4 (f) (l):(List.map (bk.val f) l).all AV.one=true:=by rw [← I5 f l,Qt];exact Gq _ _ _
theorem Ms (fr h n cells k st et) (hn:n=cells.length) (hro:F7 fr st 1 (.int .u8) et=true):mr bk fr h 0 n (.row cells k st et)=pr bk fr h cells:=vn bk rfl fr h n cells k st et hn hro
theorem acv:bk.kd=(.int .u8):=id rfl
theorem Tn (fr h f) (l):pr bk fr h (List.map (bk.val f) l)=some l:=by
 have e:List.map (bk.val f) l=List.map (bk.val true) l:=by cases f<;>rfl
 rw [e];exact D8 bk rfl rfl fr h true (fun _=>rfl) l
theorem Gf (f) (l):(List.map (cf.val f) l).flatMap AV.cells=l.map (cf.val f):=Mx cf f rfl rfl l
theorem Rv (f) (l):(List.map (cf.val f) l).all AV.one=true:=by rw [← Gf f l,Qt];exact Gq _ _ _
theorem Jq (fr h n cells k st et) (hn:n=cells.length) (hro:F7 fr st 1 (.int .u32) et=true):mr cf fr h 0 n (.row cells k st et)=pr cf fr h cells:=vn cf rfl fr h n cells k st et hn hro
theorem X9:cf.kd=(.int .u32):=id rfl
theorem Om (fr h f) (l):pr cf fr h (List.map (cf.val f) l)=some l:=by
 have e:List.map (cf.val f) l=List.map (cf.val true) l:=by cases f<;>rfl
 rw [e];exact D8 cf rfl rfl fr h true (fun _=>rfl) l
theorem G6 (fr h n cells k st et) (hn:n=cells.length) (hro:F7 fr st 1 .no et=true):mr ai fr h 0 n (.row cells k st et)=pr ai fr h cells:=vn ai rfl fr h n cells k st et hn hro
theorem Kk (fr h f) (l) (hf:(f || !fr)=true):pr ai fr h (List.map (ai.val f) l)=some l:=D8 ai rfl rfl fr h f (fun e=>by subst e;simpa using hf) l
theorem Ld (fr h l n xs) (hn:n=1) (hl:(l || !fr)=true):gx ag fr h (.vl l n (xs.map (ag.val false)))=some xs:=by
 cases l with
 |true=>exact ue ag fr h true xs n hn hl
 |false=>exact ue ag fr h false xs n hn hl
theorem Rx:ag.val true=ag.val false:=id rfl
theorem O0 (fr h l n xs) (hn:n=1) (hl:(l || !fr)=true):gx bk fr h (.vl l n (xs.map (bk.val false)))=some xs:=by
 cases l with
 |true=>exact ue bk fr h true xs n hn hl
 |false=>exact ue bk fr h false xs n hn hl
theorem Yb:bk.val true=bk.val false:=id rfl
theorem Lm (fr h l n xs) (hn:n=1) (hl:(l || !fr)=true):gx cf fr h (.vl l n (xs.map (cf.val false)))=some xs:=by
 cases l with
 |true=>exact ue cf fr h true xs n hn hl
 |false=>exact ue cf fr h false xs n hn hl
theorem Rl:cf.val true=cf.val false:=id rfl
theorem Te (fr h s):ag.dec fr h [.sc (.string s)]=some s:=id rfl
theorem Yn (fr h) (c:UInt8):bk.dec fr h [.sc (.int .u8 c.toNat)]=some c:=bk.rt fr h true c (fun _=>rfl)
theorem Uk (fr h) (c:UInt16):cy.dec fr h [.sc (.int .u16 c.toNat)]=some c:=cy.rt fr h true c (fun _=>rfl)
theorem T5 (fr h) (c:UInt32):cf.dec fr h [.sc (.int .u32 c.toNat)]=some c:=cf.rt fr h true c (fun _=>rfl)
theorem W7 (a b:List AV):AV.fresh.go (a++b)=(AV.fresh.go a && AV.fresh.go b):=by
 induction a with
 |nil=>rfl
 |cons x a ih=>simp only [List.cons_append,AV.fresh.go,ih,Bool.and_assoc]
theorem aab (f) (l:List UInt8):AV.fresh.go (l.map (bk.val f))=true:=by
 induction l with
 |nil=>rfl
 |cons x l ih=>simp only [List.map_cons,AV.fresh.go,ih];rfl
theorem On (f) (c:Name):(ai.val f c).one=true:=id rfl
theorem Jy (f) (c:Name):(ai.val f c).cells=[ai.val f c]:=id rfl
theorem Ww (fr h a):(cj bk).dec fr h [a]=gx bk fr h a:=id rfl
theorem Ku (fr h n cells k st et) (hn:n=cells.length) (hro:F7 fr st 1 .no et=true):mr (cj bk) fr h 0 n (.row cells k st et)=pr (cj bk) fr h cells:=vn (cj bk) rfl fr h n cells k st et hn hro
structure fj (B:dy) (nt:NT) (L:SL) (st:St) (g:Gh) (a:Act) (w:World):Prop where
 cur:js B g st w
 sl:ig g w nt L a.tmps
 Ab:Marks B.D B.n0 st.h g w a.defers
theorem rz.n0 {B:dy} {n d g h w} (q:rz B g h w):rz { B with n0:=n,D:=d } g h w:=⟨q.b0,q.pins,q.K,q.cell,q.size,q.os,q.tape,q.output,q.frame,q.own,q.oj,q.sg,q.lp,q.whole⟩
theorem rz.azf {B:dy} {n d g h w} (q:rz { B with n0:=n,D:=d } g h w):rz B g h w:=⟨q.b0,q.pins,q.K,q.cell,q.size,q.os,q.tape,q.output,q.frame,q.own,q.oj,q.sg,q.lp,q.whole⟩
theorem js.n0 {B:dy} {n d g st w} (q:js B g st w):js { B with n0:=n,D:=d } g st w:=⟨q.ok,q.fresh,q.base.n0,q.az⟩
theorem piece {P:Program} [KP P] {T:dv} (hT:an P T) (hm:P.follows .mixedOrders=true) {N:Nat} {B:dy} {nt:NT} (hnf:B.j5) (hp:B.az≤1000) (hn0:B.n0≤B.w.heap.size) {c:Code} (hs:dt nt c=true) {Q:QL} {L:SL} {st:St} {g:Gh} {a:Act} {w:World}
 (h:wl P T B.az c Q L st) (hh:fj B nt L st g a w) :
 c.wpIn (eh none) N P (fun ex a' w'=>∃ e L' st' g',ex=sh e∧Q e L' st'∧fj B nt L' st' g' a' w'∧rz (ke g st.h w B.az (fun _=>False)) g' st'.h w') a w:=by
 have hc1:js { ke g st.h w B.az (fun _=>False) with n0:=B.n0,D:=B.D } g st w:=(hh.cur.Pk B.az (fun _=>False) hh.cur.az (fun o h=>(hnf o h).elim)).n0
 refine wpIn_mono (alo hT hm (N:=N) (B:={ ke g st.h w B.az (fun _=>False) with n0:=B.n0,D:=B.D }) (nt:=nt) (fun _ h=>h) hp (Nat.le_trans hn0 hh.cur.base.size) c hs Q L st g w a h hc1 hh.sl hh.Ab) ?_
 rintro ex a' w' ⟨e,L',st',g',rfl,hq,hc',hr',hd'⟩
 have hb:=hc'.base.azf (B:=ke g st.h w B.az (fun _=>False))
 exact ⟨e,L',st',g',rfl,hq,⟨⟨hc'.ok,fun o h1 _=>hc'.fresh o h1 (fun h=>h),hh.cur.base.comp hb (Nat.le_refl _) (fun o h=>(hnf o h).elim) (fun _ h=>h.elim),hc'.az⟩,hr',hd'⟩,hb⟩
structure aBg (g:Gh) (w:World) (g':Gh) (w':World):Prop where
 b0:g'.b0=g.b0
 K:∀ b j,g.K b j→g'.K b j
 cell:∀ b j,g.K b j→w'.cell? ⟨b,j,none⟩=w.cell? ⟨b,j,none⟩
 sg:∀ (b:Nat) (cs:Array Value) (e:TypeId) (fr:Nat × Nat),w.heap[b]? = some (Obj.cells cs e fr)→∃ (cs':Array Value) (fr':Nat × Nat),w'.heap[b]? = some (Obj.cells cs' e fr')∧cs'.size=cs.size
 lp:∀ (b:Nat) (l:Loop),w.heap[b]? = some (Obj.loop l)→∃ l',w'.heap[b]? = some (Obj.loop l')
 whole:∀ (b:Nat) (cs:Array Value) (e:TypeId) (fr:Nat × Nat),w.heap[b]? = some (Obj.cells cs e fr)→(∀ j,g.K b j)→w'.heap[b]? = w.heap[b]?
theorem fj.canon {B:dy} {nt L st g a w} (hnf:B.j5) (hp:B.az≤1000) (keep:List Nat) (h:fj B nt L st g a w):fj B nt (ic keep (gv B.az keep L st)) (bf (ey B.az keep L st)) (g.dm (gq B.az keep L st)) a w:=
 ⟨(D7 hnf hp keep h.cur h.sl).1,(D7 hnf hp keep h.cur h.sl).2,By hp keep h.Ab⟩
theorem fj.congr {B:dy} {nt L st g a w} {st':St} (hh:fj B nt L st g a w) (hn:st'.nx=st.nx) (hg:∀ o,st'.h.get o=st.h.get o):fj B nt L st' g a w:=by
 have hb:=hh.cur.base
 refine ⟨⟨⟨hh.cur.ok.size,fun o x hx=>hh.cur.ok.qg o x (by rw [← hg];exact hx),fun o o' x x' b1 base1 base2 hne hx hx'=>hh.cur.ok.sep o o' x x' b1 base1 base2 hne (by rw [← hg];exact hx) (by rw [← hg];exact hx'),hh.cur.ok.K⟩,by rw [hn];exact hh.cur.fresh,⟨hb.b0,hb.pins,hb.K,hb.cell,hb.size,hb.os,hb.tape,hb.output,hb.frame,fun o b1 base1 h1=>hb.own o b1 base1 (by rw [← hg];exact h1),hb.oj,hb.sg,hb.lp,hb.whole⟩,by rw [hn];exact hh.cur.az⟩,hh.sl,?_⟩
 obtain ⟨bs,m1,m2,m3⟩:=hh.Ab
 exact ⟨bs,m1,m2,fun c hc=>⟨(m3 c hc).1,(m3 c hc).2.1,fun o base1 h1=>(m3 c hc).2.2 o base1 (by rw [← hg];exact h1)⟩⟩
theorem ajj {P:Program} [KP P] {N:Nat} {F:Fence} {c:Code} {Q:Exit→Act→World→Prop} {α:Type} (I : α→Act→World→Prop) (μ : α→Nat)
 (h:∀ x a w,I x a w→c.wpIn F N P (Exit.then (fun a' w'=>∃ y,μ y < μ x∧I y a' w') Q) a w) (x : α) (a:Act) (w:World) (hi:I x a w):(Code.loop c).wpIn F N P Q a w:=by
 refine z7 fun X hX=>?_
 have key:∀ n x a w,μ x=n→I x a w→X a w:=by
  intro n
  induction n using Nat.strongRecOn with
  |_ n ih=>
   intro x a w hn hi
   refine hX a w (wpIn_mono (h x a w hi) ?_)
   intro ex a' w' hq
   cases ex with
   |normal=>
    obtain ⟨y,h1,h2⟩:=hq
    exact ih (μ y) (by omega) y a' w' rfl h2
   |exit id=>exact hq
   |goto l=>exact hq
   |ret=>exact hq
   |panic ch=>exact hq
   |outgrown=>exact hq
 exact key _ x a w rfl hi
theorem E0 {P:Program} [KP P] {f:Nat} {fn:Func} {body:Code} (hf:P.funcs[f]? = some fn) (hb:fn.body=some body) (he:l8 P f=true)
 {args:List AV} (hl:args.length≤fn.ntmps) {ρ:Type} (R:RC ρ) (fr:Bool) (x : ρ)
 (h:∀ (B:dy) (g:Gh) (a:Act) (w:World),B.j5→B.az=0→(∀ b,¬ B.O b)→B.n0≤B.w.heap.size→fj B fn.ntmps (bp 0 args) (bf []) g a w→body.wpIn (eh none) 0 P (Fin B fn.ntmps (ct P fn.results.toList (fun r st=>R.get fr st.h r=some x))) a w):bb P f args (R.E fr x):=by
 intro K w vs hK hrel
 refine .inr ⟨oz he _ _,ti (ro:=none) (n:=0) (callsIn_of_wp_marks hf hb trivial ?_)⟩
 let B:dy:={ b0:=w.heap.size,w,K,O:=fun _=>False,az:=0,pb:=fun _=>none,n0:=w.heap.size }
 have hcur:js B (gK w.heap.size K) (bf []) w:=by
  refine ⟨⟨Nat.le_refl _,fun o x hx=>?_,fun o o' x x' b base base' _ hx=>?_,hK⟩,fun o _ _=>rfl,⟨rfl,(fun o ho=>(by rcases ho with ho|ho;cases ho;exact ho.elim)),fun _ _ h=>h,fun _ _ _=>rfl,Nat.le_refl _,rfl,rfl,rfl,fun _ _ _=>rfl,fun o b base ho=>?_,fun _ _ h=>.inl h,fun b cs e fr h=>⟨cs,fr,h,rfl⟩,fun b l h=>⟨l,h⟩,fun _ _ _ _ _ _=>rfl⟩,Nat.zero_le _⟩
  ·simp [bf,ll,Tr.get_nil] at hx
  ·simp [bf,ll,Tr.get_nil] at hx
  ·simp [bf,ll,Tr.get_nil] at ho
 refine wpIn_mono (h B (gK w.heap.size K) _ w (fun _ h=>h) rfl (fun _ h=>h) (Nat.le_refl _) ⟨hcur,zg hrel hl,Marks.nil _ _ _ _⟩) ?_
 rintro ex a w' ⟨e,L,st,g,rfl,hq,hc,hr,hd⟩
 have fin:Gs (ss P L st fn.results.toList) (fun r st=>R.get fr st.h r=some x) st→bodyPostM (eh none) 0 P fn (fun e w'=>∃ v,e = .returned v∧pc w w'∧Rel (gK w.heap.size (Iz K w w')) w' (R.E fr x) v) .ret a w':=by
  intro hq
  show LeavesInM (eh none) 0 P fn a.tmps _ a.defers .returning w'
  unfold Gs at hq
  cases hres:ss P L st fn.results.toList with
  |none=>rw [hres] at hq;exact hq.elim
  |some l=>
   rw [hres] at hq
   have hbs:=hc.base
   obtain ⟨bs,e1,e2,e3⟩:=hd
   have e1:=e1.trans (List.append_nil _)
   rw [e1]
   refine Bp (Good:=fun u=>Ok g st.h u∧pc w u∧(∀ a v,Rel g w' a v→Rel g u a v)∧u.heap.size=w'.heap.size) (S:=fun b=>w.heap.size≤b∧ir g st.h b) ?_ ?_ bs w'
    ⟨hc.ok,⟨hbs.size,fun b hlt=>hbs.frame b hlt (fun h=>h),hbs.os,hbs.tape,hbs.output⟩,fun _ _ h=>h,rfl⟩ e2 (fun b hb=>⟨⟨(e3 b hb).1,(e3 b hb).2.2⟩,(e3 b hb).2.1⟩)
   ·rintro u b ⟨g1,g2,g3,g4⟩ ⟨hb1,hb2⟩ hb3
    have hput:=Ok.Gp (ds':=none) g1 hb3 hb2
    exact ⟨hput.1,⟨by rw [lg];exact g2.size,fun c hc=>(ec u _ (by omega)).trans (g2.heap c hc),g2.os,g2.tape,g2.output⟩,fun a v h=>hput.2 a v (g3 a v h),by rw [lg];exact g4⟩
   ·rintro u ⟨g1,g2,g3,g4⟩
    obtain ⟨us,h1,h2⟩:=Vh (P:=P) g1 ⟨hr.1,fun t=>g3 _ _ (hr.2 t)⟩ fn.results.toList l hres
    obtain ⟨v,h3,h4⟩:=Wf h1 h2
    refine ⟨v,h3,v,rfl,g2,?_⟩
    refine R.ok g1 ⟨fun b j hk=>?_,fun o cells k s e ho b base hi j hj=>?_⟩ (fun _=>?_) h4 hq
    ·rcases hbs.oj b j hk with h5|h5|h5
     ·exact .inl h5
     ·exact .inr ⟨h5,g1.K b j hk⟩
     ·exact h5.elim
    ·obtain ⟨b',base',h5,_,h6⟩:=g1.obj o _ ho
     rw [hi] at h5;cases h5
     rcases hbs.own o b base (by rw [ho];rfl) hi with h7|h7
     ·exact .inr ⟨h7,h6.lt⟩
     ·exact h7.elim
    ·rw [hbs.b0];exact Nat.le_refl _
 cases e with
 |normal=>exact fin hq
 |ret=>exact fin hq
 |exit id=>exact hq.elim
def qf (S:Nat→Prop) (M:Nat) (w:World) (k:LK) (v:Value):Prop:=
 (∃ a,v = .slice a 0 0)∨∃ (b off n cap:Nat) (cs:Array Value) (e:TypeId),v = .slice (some ⟨b,off,none⟩) n cap∧S b∧(n≤cap∧cap≤maxLen)∧w.heap[b]? = some (.cells cs e (0,0))∧TK.sz e=some 1∧off+cap≤cs.size ∧
  ∀ (j:Nat) x,j<cap→cs[off+j]? = some x→sv x=k∧∀ s,x = .string s→s.size≤M
theorem qf.slice {S M w k v} (h:qf S M w k v):sv v = .no:=by
 rcases h with ⟨a,rfl⟩|⟨b,off,n,cap,cs,e,rfl,_⟩<;>rfl
def Kept (S:Nat→Prop) (m:Nat) (xx:Bool) (w':World) (e:TypeId) (j:Nat) (x x':Value):Prop:=
 x'=x∨(sv x ≠ .no∧sv x'=sv x∧∀ s',x' = .string s'→∃ s,x = .string s∧s'.size≤s.size+m)∨((xx=true∧TK.sz e=some 4)∧((j % 4≠2∧x' = .slice none 0 0)∨(j % 4=2∧qf S (4+m) w' .str x')))
structure u6 (S:Nat→Prop) (m:Nat) (xx:Bool) (w w':World):Prop where
 size:w.heap.size≤w'.heap.size
 os:w'.os=w.os
 tape:w'.tape=w.tape
 output:w'.output=w.output
 low:∀ b,b<w.heap.size→¬ S b→w'.heap[b]? = w.heap[b]?
 obj:∀ (b:Nat) o,w.heap[b]? = some o→(∀ cs e fr,o ≠ .cells cs e fr)→w'.heap[b]? = some o
 cells:∀ (b:Nat) (cs:Array Value) (e:TypeId) (fr:Nat × Nat),w.heap[b]? = some (.cells cs e fr)→∃ cs',w'.heap[b]? = some (.cells cs' e fr)∧cs'.size=cs.size ∧
  ∀ (j:Nat) x x',cs[j]? = some x→cs'[j]? = some x'→Kept S m xx w' e j x x'
theorem u6.refl (S:Nat→Prop) (m:Nat) (xx:Bool) (w:World):u6 S m xx w w where
 size:=Nat.le_refl _
 os:=rfl
 tape:=rfl
 output:=rfl
 low _ _ _:=rfl
 obj _ _ h _:=h
 cells _ cs _ _ h:=⟨cs,h,rfl,fun j x x' h1 h2=>.inl (by rw [h1] at h2;cases h2;rfl)⟩
theorem u6.quiet (S:Nat→Prop) (m:Nat) (xx:Bool) {w w':World} (hs:w.heap.size≤w'.heap.size) (ho:w'.os=w.os) (ht:w'.tape=w.tape) (hu:w'.output=w.output) (hh:∀ b,b<w.heap.size→w'.heap[b]? = w.heap[b]?):u6 S m xx w w' where
 size:=hs
 os:=ho
 tape:=ht
 output:=hu
 low b hb _:=hh b hb
 obj b o h _:=(hh b (br h)).trans h
 cells b cs e fr h:=⟨cs,(hh b (br h)).trans h,rfl,fun j x x' h1 h2=>.inl (by rw [h1] at h2;cases h2;rfl)⟩
theorem qf.mono {S M M' w k v} (h:qf S M w k v) (hM:M≤M'):qf S M' w k v:=by
 rcases h with h|⟨b,off,n,cap,cs,e,h0,h1,h2,h3,h4,h5,h6⟩
 ·exact .inl h
 ·exact .inr ⟨b,off,n,cap,cs,e,h0,h1,h2,h3,h4,h5,fun j x hj hx=>⟨(h6 j x hj hx).1,fun s hs=>Nat.le_trans ((h6 j x hj hx).2 s hs) hM⟩⟩
theorem qf.vz {S m M xx w w' k v} (hk:k ≠ .no) (h:u6 S m xx w w') (hl:qf S M w k v):qf S (M+m) w' k v:=by
 rcases hl with hl|⟨b,off,n,cap,cs,e,rfl,h1,h2,h3,h4,h5,h6⟩
 ·exact .inl hl
 ·obtain ⟨cs',q1,q2,q3⟩:=h.cells b cs e _ h3
  refine .inr ⟨b,off,n,cap,cs',e,rfl,h1,h2,q1,h4,by omega,fun j x' hj hx'=>?_⟩
  have hlt:off+j<cs.size:=by omega
  have hx:=Array.getElem?_eq_getElem hlt
  obtain ⟨hk',hm'⟩:=h6 j _ hj hx
  rcases q3 _ _ _ hx hx' with q|⟨_,q,qs⟩|⟨q,_⟩
  ·rw [q];exact ⟨hk',fun s hs=>by have:=hm' s hs;omega⟩
  ·refine ⟨by rw [q];exact hk',fun s hs=>?_⟩
   obtain ⟨s0,e1,e2⟩:=qs s hs
   have:=hm' s0 e1;omega
  ·have:=q.2;rw [h4] at this;cases this
theorem Kept.mono {S:Nat→Prop} {m m':Nat} {xx:Bool} {w:World} {e:TypeId} {j:Nat} {x y:Value} (hm:m≤m') (h:Kept S m xx w e j x y):Kept S m' xx w e j x y:=by
 rcases h with h|⟨h1,h2,h3⟩|⟨h1,h2⟩
 ·exact .inl h
 ·exact .inr (.inl ⟨h1,h2,fun s' hs=>by obtain ⟨s,e1,e2⟩:=h3 s' hs;exact ⟨s,e1,by omega⟩⟩)
 ·exact .inr (.inr ⟨h1,h2.imp id (fun q=>⟨q.1,q.2.mono (by omega)⟩)⟩)
theorem Kept.trans {S:Nat→Prop} {m1 m2:Nat} {xx:Bool} {w1 w2:World} {e:TypeId} {j:Nat} {x y z:Value} (h1:Kept S m1 xx w1 e j x y) (ho:u6 S m2 xx w1 w2) (h2:Kept S m2 xx w2 e j y z):Kept S (m1+m2) xx w2 e j x z:=by
 rcases h1 with rfl|⟨a1,a2,a3⟩|⟨a1,a2⟩
 ·exact h2.mono (by omega)
 ·rcases h2 with rfl|⟨b1,b2,b3⟩|b
  ·exact .inr (.inl ⟨a1,a2,fun s' hs=>by obtain ⟨s,e1,e2⟩:=a3 s' hs;exact ⟨s,e1,by omega⟩⟩)
  ·refine .inr (.inl ⟨a1,b2.trans a2,fun s' hs=>?_⟩)
   obtain ⟨s1,e1,e2⟩:=b3 s' hs
   obtain ⟨s,e3,e4⟩:=a3 s1 e1
   exact ⟨s,e3,by omega⟩
  ·exact .inr (.inr ⟨b.1,b.2.imp id (fun q=>⟨q.1,q.2.mono (by omega)⟩)⟩)
 ·rcases h2 with rfl|⟨b1,b2,b3⟩|b
  ·refine .inr (.inr ⟨a1,a2.imp id (fun q=>⟨q.1,(q.2.vz (by decide) ho).mono (by omega)⟩)⟩)
  ·rcases a2 with ⟨_,rfl⟩|⟨_,q⟩
   ·exact absurd rfl b1
   ·exact absurd q.slice b1
  ·exact .inr (.inr ⟨b.1,b.2.imp id (fun q=>⟨q.1,q.2.mono (by omega)⟩)⟩)
theorem u6.trans {S m1 m2 xx w1 w2 w3} (h1:u6 S m1 xx w1 w2) (h2:u6 S m2 xx w2 w3):u6 S (m1+m2) xx w1 w3 where
 size:=Nat.le_trans h1.size h2.size
 os:=h2.os.trans h1.os
 tape:=h2.tape.trans h1.tape
 output:=h2.output.trans h1.output
 low b hb hS:=(h2.low b (Nat.lt_of_lt_of_le hb h1.size) hS).trans (h1.low b hb hS)
 obj b o h hn:=h2.obj b o (h1.obj b o h hn) hn
 cells b cs e fr h:=by
  obtain ⟨cs1,a1,a2,a3⟩:=h1.cells b cs e fr h
  obtain ⟨cs2,b1,b2,b3⟩:=h2.cells b cs1 e fr a1
  refine ⟨cs2,b1,b2.trans a2,fun j x z hx hz=>?_⟩
  have hlt:j<cs1.size:=by rw [a2];exact (Array.getElem?_eq_some_iff.1 hx).1
  have hy:=Array.getElem?_eq_getElem hlt
  exact (a3 j x _ hx hy).trans h2 (b3 j _ z hy hz)
theorem Kept.same {S m xx w' e j x x' sz} (h:Kept S m xx w' e j x x') (hs:TK.sz e=some sz) (hz:sz≠4) (hx:sv x = .no):x'=x:=by
 rcases h with h|⟨h,_⟩|⟨h,_⟩
 ·exact h
 ·exact absurd hx h
 ·have h:=h.2;rw [hs] at h;cases h;exact absurd rfl hz
theorem awx {α:Type} (C:c8 α) (hz:C.sz=1) (ha:C.agg=false) {k:LK} (hk:C.kd=k) (hn:k ≠ .no) {M:Nat} {g:Gh} {w:World} {l:Bool} {xs:List α} {v:Value} (hM:∀ x ∈ xs,∀ c ∈ C.cells l x,∀ s,c = .sc (.string s)→s.size≤M) (hx:∀ x ∈ xs,∀ c ∈ C.cells l x,∃ u,c = .sc u) {S:Nat→Prop} (hS:∀ b,g.b0≤b→(∀ j,g.K b j)→S b) (hr:Rel g w (.vl true 1 (xs.map (C.val l))) v):qf S M w k v:=by
 generalize hes:xs.map (C.val l)=es at hr
 cases hr with
 |kf=>exact .inl ⟨none,rfl⟩
 |sk _ _ a=>exact .inl ⟨some a,rfl⟩
 |vl _ _ _ b off cap c hsz hl hcap h hrel hw=>
  obtain ⟨w1,⟨cs,e,w2,w3,w4,w5,w6⟩,w7,w8⟩:=hw rfl
  rcases Nat.eq_zero_or_pos es.length with h0|h0
  ·have:=w7 rfl h0
   subst this
   rw [h0];exact .inl ⟨_,rfl⟩
  ·refine .inr ⟨b,off,es.length,cap,cs,e,rfl,hS b (hl rfl) w1,⟨hcap,w8⟩,w2,w4,by omega,fun j x hj hxj=>?_⟩
   have hfl:es.flatMap AV.cells=xs.flatMap (C.cells l):=by rw [← hes,List.flatMap_map];congr 1;funext x;exact C.Co l x
   have hlen:(es.flatMap AV.cells).length=es.length * 1:=Gr es hsz
   have h00:(es.flatMap AV.cells)[0]? = some ((es.flatMap AV.cells)[0]'(by omega)):=List.getElem?_eq_getElem _
   have hm:(es.flatMap AV.cells)[0]'(by omega) ∈ xs.flatMap (C.cells l):=by rw [← hfl];exact List.getElem_mem _
   obtain ⟨y,_,hy⟩:=List.mem_flatMap.1 hm
   have hc0:=C.Iy hz hy (hrel 0 _ h00)
   rcases w6 rfl j x hj hxj with q|⟨q,qt⟩
   ·rw [hc0,hk] at q;exact absurd q hn
   ·refine ⟨by rw [q,hc0,hk],fun s hs=>?_⟩
    by_cases hjn:j<es.length
    ·have hcj:(es.flatMap AV.cells)[j]? = some ((es.flatMap AV.cells)[j]'(by omega)):=List.getElem?_eq_getElem _
     have hmj:(es.flatMap AV.cells)[j]'(by omega) ∈ xs.flatMap (C.cells l):=by rw [← hfl];exact List.getElem_mem _
     obtain ⟨y2,hy2,hy3⟩:=List.mem_flatMap.1 hmj
     obtain ⟨u,hu⟩:=hx y2 hy2 _ hy3
     have hrj:=hrel j _ hcj
     rw [hu] at hrj
     have:=hrj.exact rfl
     have hcx:c j=x:=by
      have h9:=(h j _ hcj).2
      rw [ku w2,hxj] at h9
      exact (Option.some.inj h9).symm
     rw [hcx,hs] at this
     exact hM y2 hy2 _ hy3 s (by rw [hu,← this])
    ·have:=qt (by omega)
     rw [hs] at this
     have:s.size=0:=Nat.eq_of_beq_eq_true this
     omega
end
end Go.Vm
namespace Go.Vm
variable [TK]
structure Lp (w:World) (b:Nat) (cs:Array Value) (e:TypeId) (off m k:Nat) (wr:World):Prop where
 size:wr.heap.size=w.heap.size
 os:wr.os=w.os
 tape:wr.tape=w.tape
 output:wr.output=w.output
 other:∀ c,c≠b→wr.heap[c]? = w.heap[c]?
 row:∃ cs',wr.heap[b]? = some (.cells cs' e (0,0))∧cs'.size=cs.size∧∀ (j:Nat) x x',cs[j]? = some x→cs'[j]? = some x' →
  x'=x∨(off≤j∧j<off+k∧sv x ≠ .no∧sv x'=sv x∧∀ s',x' = .string s'→∃ s,x = .string s∧s'.size≤s.size+m)
theorem Lp.start {w b cs e off m} (h:w.heap[b]? = some (.cells cs e (0,0))):Lp w b cs e off m 0 w where
 size:=rfl
 os:=rfl
 tape:=rfl
 output:=rfl
 other _ _:=rfl
 row:=⟨cs,h,rfl,fun j x x' h1 h2=>.inl (by rw [h1] at h2;cases h2;rfl)⟩
theorem Lp.frozen {w b cs e off m k wr} (h:Lp w b cs e off m k wr) (j:Nat):wr.frozen? ⟨b,j,none⟩=false:=by
 obtain ⟨cs',h1,_⟩:=h.row
 unfold World.frozen?
 simp only [h1]
 simp
theorem Lp.cell {w b cs e off m k wr x} (h:Lp w b cs e off m k wr) (hx:cs[off+k]? = some x):wr.cell? ⟨b,off+k,none⟩=some x:=by
 obtain ⟨cs',h1,h2,h3⟩:=h.row
 rw [ku h1]
 have hlt:off+k<cs'.size:=by rw [h2];exact (Array.getElem?_eq_some_iff.1 hx).1
 have hx':=Array.getElem?_eq_getElem hlt
 rcases h3 _ _ _ hx hx' with q|⟨_,q,_⟩
 ·rw [hx',q]
 ·omega
theorem Lp.step {w b cs e off m k wr x v} (h:Lp w b cs e off m k wr) (hx:cs[off+k]? = some x) (h1:sv x ≠ .no) (h2:sv v=sv x) (h3:∀ s',v = .string s'→∃ s,x = .string s∧s'.size≤s.size+m) :
 Lp w b cs e off m (k+1) (wr.setCell ⟨b,off+k,none⟩ v):=by
 obtain ⟨cs',r1,r2,r3⟩:=h.row
 have hb:=br r1
 refine ⟨by simp [World.setCell,h.size],h.os,h.tape,h.output,fun c hc=>?_,cs'.setIfInBounds (off+k) v,?_,by simp [r2],fun j y y' hy hy'=>?_⟩
 ·rw [← h.other c hc]
  simp only [World.setCell]
  rw [Array.getElem?_modify,if_neg (fun e=>hc e.symm)]
 ·simp only [World.setCell]
  rw [Array.getElem?_modify,if_pos rfl,r1]
  rfl
 ·rw [Array.getElem?_setIfInBounds] at hy'
  by_cases hj:off+k=j
  ·subst hj
   rw [hx] at hy;cases hy
   have hlt:off+k<cs'.size:=by rw [r2];exact (Array.getElem?_eq_some_iff.1 hx).1
   rw [if_pos rfl,if_pos hlt] at hy';cases hy'
   exact .inr ⟨by omega,by omega,h1,h2,h3⟩
  ·rw [if_neg hj] at hy'
   exact (r3 j y y' hy hy').imp id (fun q=>⟨q.1,by omega,q.2.2⟩)
theorem Lp.vz {S w b cs e off m k wr} (h:Lp w b cs e off m k wr) (hw:w.heap[b]? = some (.cells cs e (0,0))) (hn:S b):u6 S m false w wr where
 size:=by rw [h.size];exact Nat.le_refl _
 os:=h.os
 tape:=h.tape
 output:=h.output
 low c _ hc:=h.other c (fun e=>hc (e ▸ hn))
 obj c o hc hn:=by
  by_cases e:c=b
  ·subst e;rw [hw] at hc;cases hc;exact absurd rfl (hn _ _ _)
  ·rw [h.other c e];exact hc
 cells c cs0 e0 fr0 hc:=by
  by_cases e:c=b
  ·subst e
   rw [hw] at hc;cases hc
   obtain ⟨cs',r1,r2,r3⟩:=h.row
   exact ⟨cs',r1,r2,fun j x x' hx hx'=>(r3 j x x' hx hx').imp id (fun q=>.inl ⟨q.2.2.1,q.2.2.2.1,q.2.2.2.2⟩)⟩
  ·exact ⟨cs0,(h.other c e).trans hc,rfl,fun j x x' hx hx'=>.inl (by rw [hx] at hx';cases hx';rfl)⟩
theorem cell_of {w:World} {b j:Nat} {cs:Array Value} {e:TypeId} {fr:Nat × Nat} (h:w.heap[b]? = some (.cells cs e fr)) (hj:j<cs.size):w.cell? ⟨b,j,none⟩=some (cs.getD j undef):=by
 rw [ku h,Array.getD_eq_getD_getElem?,Array.getElem?_eq_getElem hj];rfl
end Go.Vm
namespace Go.Vm
variable [TK]
noncomputable section
def kh:Nat→Code→Code
 |0,_=>.skip
 |1,.seq a _=>a
 |n+2,.seq a b=>.seq a (kh (n+1) b)
 |_,c=>c
def dn:Nat→Code→Code
 |0,c=>c
 |n+1,.seq _ b=>dn n b
 |_+1,_=>.skip
def J7:Nat→Code→Bool
 |0,_=>true
 |n+1,.seq _ b=>J7 n b
 |_+1,_=>false
theorem ep {P:Program} {T:dv} {az:Nat} {a b:Code} {Q:QL} {L:SL} {st:St}:wl P T az (kh 1 (.seq a b)) Q L st=wl P T az a Q L st:=rfl
theorem gn {P:Program} {T:dv} {az n:Nat} {a b:Code} {Q:QL} {L:SL} {st:St}:wl P T az (kh (n+2) (.seq a b)) Q L st=wl P T az a (Gu (wl P T az (kh (n+1) b)) Q) L st:=rfl
theorem fg {P:Program} {T:dv} {az n:Nat} {c:Code} {Q:QL} {L:SL} {st:St}:wl P T az (kh n (dn 0 c)) Q L st=wl P T az (kh n c) Q L st:=rfl
theorem ff {P:Program} {T:dv} {az n m:Nat} {a b:Code} {Q:QL} {L:SL} {st:St}:wl P T az (kh n (dn (m+1) (.seq a b))) Q L st=wl P T az (kh n (dn m b)) Q L st:=rfl
theorem fu {P:Program} {T:dv} {az:Nat} {c:Code} {Q:QL} {L:SL} {st:St}:wl P T az (dn 0 c) Q L st=wl P T az c Q L st:=rfl
theorem fq {P:Program} {T:dv} {az m:Nat} {a b:Code} {Q:QL} {L:SL} {st:St}:wl P T az (dn (m+1) (.seq a b)) Q L st=wl P T az (dn m b) Q L st:=rfl
theorem F4 {F:Fence} {N:Nat} {P:Program} {X:Exit→Act→World→Prop} {a:Act} {w:World} {c x y:Code} {m:Nat} (he:dn m c = .seq x y) (h:(Code.seq x y).wpIn F N P X a w):(dn m c).wpIn F N P X a w:=by rw [he];exact h
def og (X:SL→St→Prop) (Y:QL):QL:=fun e L st=>
 match e with
 |.normal=>X L st
 |e=>Y e L st
theorem i9 {X:SL→St→Prop} {Y:QL} {L st}:og X Y .normal L st=X L st:=rfl
theorem jj {X:SL→St→Prop} {Y:QL} {L st}:og X Y .ret L st=Y .ret L st:=rfl
theorem jf {X:SL→St→Prop} {Y:QL} {L st} (i:Nat):og X Y (.exit i) L st=Y (.exit i) L st:=rfl
def D9:QL:=fun _ _ _=>False
theorem qq {P:Program} [KP P] {T:dv} (hT:an P T) (hm:P.follows .mixedOrders=true) {N:Nat} {B:dy} {nt:NT} (hnf:B.j5) (hp:B.az≤1000) (hn0:B.n0≤B.w.heap.size) {X:Exit→Act→World→Prop} {Q:QL} :
 ∀ (n:Nat) (c:Code),J7 (n+1) c=true→dt nt c=true →
  (∀ e L' st' g' a' w',Q e L' st'→fj B nt L' st' g' a' w'→match e with|.normal=>(dn (n+1) c).wpIn (eh none) N P X a' w'|e=>X (sh e) a' w') →
  ∀ L st g a w,wl P T B.az (kh (n+1) c) Q L st→fj B nt L st g a w→c.wpIn (eh none) N P X a w:=by
 intro n
 induction n with
 |zero=>
  intro c hsp hs hX L st g a w h hh
  cases c with
  |seq x y=>
   simp only [dt,Bool.and_eq_true] at hs
   refine wpIn_seq (wpIn_mono (piece hT hm (N:=N) hnf hp hn0 hs.1 h hh) ?_)
   rintro ex a' w' ⟨e,L',st',g',rfl,hq,hh',_⟩
   have:=hX e L' st' g' a' w' hq hh'
   cases e with
   |normal=>exact this
   |ret=>exact this
   |exit id=>exact this
  |_=>cases hsp
 |succ n ih=>
  intro c hsp hs hX L st g a w h hh
  cases c with
  |seq x y=>
   simp only [dt,Bool.and_eq_true] at hs
   refine wpIn_seq (wpIn_mono (piece hT hm (N:=N) hnf hp hn0 hs.1 (Q:=Gu (wl P T B.az (kh (n+1) y)) Q) h hh) ?_)
   rintro ex a' w' ⟨e,L',st',g',rfl,hq,hh',_⟩
   cases e with
   |normal=>exact ih y hsp hs.2 hX L' st' g' a' w' hq hh'
   |ret=>exact hX .ret L' st' g' a' w' hq hh'
   |exit id=>exact hX (.exit id) L' st' g' a' w' hq hh'
  |_=>cases hsp
def qb (w:World):Nat→Nat→Prop:=fun b _=>b<w.heap.size
def Zw (w:World) (D:List Deferred):dy:={ b0:=w.heap.size,w,K:=qb w,O:=fun _=>False,az:=0,pb:=fun _=>none,n0:=w.heap.size,D }
theorem oo (w D):(Zw w D).j5:=fun _ h=>h
structure l6 (S:Nat→Prop) (w1:World) (D:List Deferred) (ds:List Deferred) (w:World):Prop where
 size:w1.heap.size≤w.heap.size
 low:∀ b,b<w1.heap.size→¬ S b→w.heap[b]? = w1.heap[b]?
 obj:∀ (b:Nat) o,w1.heap[b]? = some o→(∀ cs e fr,o ≠ .cells cs e fr)→w.heap[b]? = some o
 os:w.os=w1.os
 tape:w.tape=w1.tape
 output:w.output=w1.output
 Ab:∃ bs:List Nat,ds=bs.map mark++D∧bs.Nodup∧∀ b ∈ bs,w1.heap.size≤b∧w.heap[b]? = some (.deferred (some []))
theorem l6.start (S:Nat→Prop) (w:World) (D:List Deferred):l6 S w D D w:=⟨Nat.le_refl _,fun _ _ _=>rfl,fun _ _ h _=>h,rfl,rfl,rfl,[],rfl,List.nodup_nil,fun b h=>by cases h⟩
theorem l6.wide {S S':Nat→Prop} {w1 D ds w} (hS:∀ b,b<w1.heap.size→S b→S' b) (h:l6 S w1 D ds w):l6 S' w1 D ds w:=⟨h.size,fun b hb hn=>h.low b hb (fun hs=>hn (hS b hb hs)),h.obj,h.os,h.tape,h.output,h.Ab⟩
theorem l6.later {S:Nat→Prop} {w1 D ds w nt L st g a w'} (h:l6 S w1 D ds w) (hh:fj (Zw w ds) nt L st g a w'):l6 S w1 D a.defers w':=by
 have hb:=hh.cur.base
 have hf:∀ b,b<w.heap.size→w'.heap[b]? = w.heap[b]? := fun b h=>hb.frame b h (fun h=>h)
 refine ⟨Nat.le_trans h.size hb.size,fun b hlt hn=>(hf b (Nat.lt_of_lt_of_le hlt h.size)).trans (h.low b hlt hn),fun b o ho hn=>?_,hb.os.trans h.os,hb.tape.trans h.tape,hb.output.trans h.output,?_⟩
 ·have:=h.obj b o ho hn
  exact (hf b (br this)).trans this
 ·obtain ⟨bs,e1,e2,e3⟩:=h.Ab
  obtain ⟨cs,c1,c2,c3⟩:=hh.Ab
  refine ⟨cs++bs,by rw [c1,List.map_append,List.append_assoc];exact congrArg _ e1,?_,fun b hb=>?_⟩
  ·rw [List.nodup_append]
   refine ⟨c2,e2,fun x hx y hy e=>?_⟩
   subst e
   have h1:w.heap.size≤x:=(c3 x hx).1
   have h2:=br (e3 x hy).2
   omega
  ·rcases List.mem_append.1 hb with hb|hb
   ·exact ⟨Nat.le_trans h.size (c3 b hb).1,(c3 b hb).2.1⟩
   ·have:=(e3 b hb).2
    exact ⟨(e3 b hb).1,(hf b (br this)).trans this⟩
theorem l6.vz {S:Nat→Prop} {w1 D ds w m xx w'} (h:l6 S w1 D ds w) (ho:u6 S m xx w w'):l6 S w1 D ds w':=by
 refine ⟨Nat.le_trans h.size ho.size,fun b hlt hn=>(ho.low b (Nat.lt_of_lt_of_le hlt h.size) hn).trans (h.low b hlt hn),fun b o hb hn=>ho.obj b o (h.obj b o hb hn) hn,ho.os.trans h.os,ho.tape.trans h.tape,ho.output.trans h.output,?_⟩
 obtain ⟨bs,e1,e2,e3⟩:=h.Ab
 exact ⟨bs,e1,e2,fun b hb=>⟨(e3 b hb).1,ho.obj b _ (e3 b hb).2 (fun cs e fr q=>by cases q)⟩⟩
theorem qk {nt:NT} {Ls:SL} {a:Act} {w:World} (hnt:pv nt a.tmps) (hr:∀ t,Rel (gK w.heap.size (qb w)) w (lk Ls t) (a.tmps.getD t undef)):fj (Zw w a.defers) nt Ls (bf []) (gK w.heap.size (qb w)) a w:=by
 refine ⟨⟨⟨Nat.le_refl _,fun o x hx=>?_,fun o o' x x' b base base' _ hx=>?_,fun _ _ h=>h⟩,fun o _ _=>rfl,⟨rfl,(fun o ho=>(by rcases ho with ho|ho;cases ho;exact ho.elim)),fun _ _ h=>h,fun _ _ _=>rfl,Nat.le_refl _,rfl,rfl,rfl,fun _ _ _=>rfl,fun o b base ho=>?_,fun _ _ h=>.inl h,fun b cs e fr h=>⟨cs,fr,h,rfl⟩,fun b l h=>⟨l,h⟩,fun _ _ _ _ _ _=>rfl⟩,Nat.zero_le _⟩,⟨hnt,hr⟩,Marks.start _ _ _ _ _⟩
 ·simp [bf,ll,Tr.get_nil] at hx
 ·simp [bf,ll,Tr.get_nil] at hx
 ·simp [bf,ll,Tr.get_nil] at ho
theorem axi (t:Nat):lk [] t = .bad:=rfl
theorem Uu {g:Gh} {w:World} {f:Nat→Value}:∀ {ts:List Nat} {vs:List AV},bm g w vs (ts.map f)→∀ t,Rel g w (lk (ic ts vs) t) (f t)
 | [],vs,h,t=>by cases vs<;>exact .bad _
 |t0::ts,[],h,t=>.bad _
 |t0::ts,v::vs,h,t=>by
  rw [ic,mz]
  by_cases e:t0=t
  ·subst e;rw [if_pos rfl];exact h.head
  ·rw [if_neg e];exact Uu h.tail t
theorem fj.read {B:dy} {nt L st g a w} (hh:fj B nt L st g a w) {α:Type} (A:AC α) (ts:List Nat) {x : α} (hd:A.get st.h (ts.map (lk L))=some x):bm (gK w.heap.size (qb w)) w (A.E x) (ts.map fun t=>a.tmps.getD t undef):=by
 refine A.ok (b0:=w.heap.size) (K:=qb w) hh.cur.ok ⟨fun b j hk=>hh.cur.ok.K b j hk,fun o cells k s e ho b base hi j hj=>?_⟩ ⟨by simp,fun i x v hx hv=>?_⟩ hd
 ·obtain ⟨b',base',h5,_,h6⟩:=hh.cur.ok.obj o _ ho
  rw [hi] at h5;cases h5
  exact h6.lt
 ·rw [List.getElem?_map,Option.map_eq_some_iff] at hx hv
  obtain ⟨t,e1,rfl⟩:=hx
  obtain ⟨t',e2,rfl⟩:=hv
  rw [e1] at e2;cases e2
  exact hh.sl.2 t
theorem fj.az3 {B:dy} {nt L st g a w} (hh:fj B nt L st g a w) {α:Type} (C:c8 α) (fr:Bool) (t:Nat) {x : α} (hd:C.gy fr st.h (lk L t)=some x):Rel (gK B.b0 (qb w)) w (C.val fr x) (a.tmps.getD t undef):=by
 refine C.Tp (b0:=B.b0) (K:=qb w) hh.cur.ok ⟨fun b j hk=>hh.cur.ok.K b j hk,fun o cells k s e ho b base hi j hj=>?_⟩ (fun _=>Nat.le_of_eq hh.cur.base.b0.symm) (hh.sl.2 t) hd
 obtain ⟨b',base',h5,_,h6⟩:=hh.cur.ok.obj o _ ho
 rw [hi] at h5;cases h5
 exact h6.lt
def qa (n:Nat) (ts:List Nat) (tmps:Array Value):NT:=⟨n,ts.map fun t=>(t,tmps.getD t undef)⟩
theorem Bb {nt:NT} {tmps:Array Value} (ts:List Nat) (h:pv nt tmps):pv (qa nt.n ts tmps) tmps:=⟨h.size,fun p hp=>by obtain ⟨t,_,rfl⟩:=List.mem_map.1 hp;rfl⟩
theorem me {n:Nat} {ts:List Nat} {tmps tmps':Array Value} (h:pv (qa n ts tmps) tmps') {t:Nat} (ht:t ∈ ts):tmps'.getD t undef=tmps.getD t undef:=h.fix _ (List.mem_map.2 ⟨t,ht,rfl⟩)
theorem xc {n:Nat} {ts:List Nat} {tmps tmps':Array Value} (h:pv (qa n ts tmps) tmps') {us:List Nat} (hu:∀ u ∈ us,u ∈ ts):us.map (fun t=>tmps'.getD t undef)=us.map (fun t=>tmps.getD t undef):=List.map_congr_left fun t ht=>me h (hu t ht)
theorem Rel.stay {b0 b1:Nat} {K K':Nat→Nat→Prop} {w w':World} {a:AV} {v:Value} (hb0:∀ b,b0≤b→(∀ j,K b j)→b1≤b) (hK:∀ b j,K b j→K' b j) (hh:∀ b j,K b j→w'.heap[b]? = w.heap[b]?) (h:Rel (gK b0 K) w a v):Rel (gK b1 K') w' a v:=by
 have hno:∀ o p,(gK b0 K).inj o≠some p:=fun o p e=>by cases e
 generalize hg:gK b0 K=g0 at h hno
 have hK0:∀ b j,g0.K b j→K b j:=by subst hg;exact fun _ _ h=>h
 have hb:g0.b0=b0:=by subst hg;rfl
 clear hg
 have hc:∀ (b j:Nat),g0.K b j→w'.cell? ⟨b,j,none⟩=w.cell? ⟨b,j,none⟩:=fun b j hk=>nr (hh b j (hK0 b j hk))
 induction h with
 |sc x=>exact .sc x
 |agg l vs hs _ ih=>exact .agg l vs hs ih
 |gi l vs hs _ ih=>exact .gi l vs hs ih
 |vl loc sz es b off cap c hsz hl hcap h _ hw ih=>
  refine .vl loc sz es b off cap c hsz (fun e=>hb0 b (by rw [← hb];exact hl e) (fun j=>hK0 _ _ ((hw e).K j))) hcap (fun j a hj=>⟨hK _ _ (hK0 _ _ (h j a hj).1),(hc _ _ (h j a hj).1).trans (h j a hj).2⟩) ih (fun e=>?_)
  obtain ⟨w1,⟨cs,e,w2,w3⟩,w4,w5⟩:=hw e
  exact ⟨fun j=>hK _ _ (hK0 _ _ (w1 j)),⟨cs,e,(hh b 0 (hK0 _ _ (w1 0))).trans w2,w3⟩,w4,w5⟩
 |kf loc sz=>exact .kf loc sz
 |sk loc sz a=>exact .sk loc sz a
 |sl o off len sz b base cap hi hc hm hr=>exact (hno _ _ hi).elim
 |sx o off sz a=>exact .sx o off sz a
 |tu o off sz=>exact .tu o off sz
 |ez a=>exact .ez a
 |ptr o off b base hi=>exact (hno _ _ hi).elim
 |dj l b off c h _ ih=>exact .dj l b off c (fun j a hj=>⟨hK _ _ (hK0 _ _ (h j a hj).1),(hc _ _ (h j a hj).1).trans (h j a hj).2⟩) ih
 |fn f first captured va vb hs _ hs' _ ih ih'=>exact .fn f first captured va vb hs ih hs' ih'
 |mp o b base hi=>exact (hno _ _ hi).elim
 |qe t a v _ ih=>exact .qe t a v ih
 |yl o b base hi=>exact (hno _ _ hi).elim
 |bad v=>exact .bad v
theorem Rel.low {S:Nat→Prop} {w1 D ds w} (h:l6 S w1 D ds w) (hS:∀ b,b<w1.heap.size→¬ S b) {a:AV} {v:Value} (hr:Rel (gK w1.heap.size (qb w1)) w1 a v):Rel (gK w.heap.size (qb w)) w a v:=
 hr.stay (K:=qb w1) (K':=qb w) (fun b h1 h2=>absurd (h2 0) (Nat.not_lt.2 h1)) (fun b _ (hk:b<w1.heap.size)=>Nat.lt_of_lt_of_le hk h.size) (fun b _ (hk:b<w1.heap.size)=>h.low b hk (hS b hk))
theorem bm.low {S:Nat→Prop} {w1 D ds w} (h:l6 S w1 D ds w) (hS:∀ b,b<w1.heap.size→¬ S b) {l:List AV} {vs:List Value} (hr:bm (gK w1.heap.size (qb w1)) w1 l vs):bm (gK w.heap.size (qb w)) w l vs:=⟨hr.1,fun i a v ha hv=>(hr.2 i a v ha hv).low h hS⟩
theorem l6.fin {B:dy} {nt0 nt:NT} {L st g a1 w1} (hp:B.az=0) (hnf:B.j5) (hn0:B.n0≤B.w.heap.size) (h1:fj B nt L st g a1 w1) {S:Nat→Prop} {a:Act} {w:World} (hm:l6 S w1 a1.defers a.defers w) (hS:∀ b,b<w1.heap.size→¬ S b) (hO:∀ b,¬ B.O b) {r:Nat} {v:Value} (hnt:pv nt0 a.tmps) (hv:a.tmps.getD r undef=v) {Q:QL} {e:Ex} (hq:Q e [(r,.sc v)] (bf [])):Fin B nt0 Q (sh e) a w:=by
 have hb:=h1.cur.base
 have hok:=h1.cur.ok
 have hlow:∀ b,b<w1.heap.size→w.heap[b]? = w1.heap[b]? := fun b hlt=>hm.low b hlt (hS b hlt)
 have hKl:∀ b j,B.K b j→b<w1.heap.size:=fun b j hk=>hok.K b j (hb.K b j hk)
 refine Fin.mk' (g:={ b0:=B.b0,inj:=fun _=>none,K:=B.K }) hq ⟨⟨?_,fun o x hx=>?_,fun o o' x x' b base base' _ hx=>?_,fun b j hk=>Nat.lt_of_lt_of_le (hKl b j hk) hm.size⟩,fun o _ _=>rfl,⟨rfl,fun o ho=>?_,fun _ _ h=>h,fun b j hk=>?_,Nat.le_trans hb.size hm.size,hm.os.trans hb.os,hm.tape.trans hb.tape,hm.output.trans hb.output,fun b hlt hn=>?_,fun o b base ho=>?_,fun _ _ h=>.inl h,fun b cs e fr h=>?_,fun b l h=>?_,fun b cs e fr h hk=>?_⟩,by rw [hp];exact Nat.zero_le _⟩ ⟨hnt,fun t=>?_⟩ ?_
 ·have:=hok.size;rw [hb.b0] at this;exact Nat.le_trans this hm.size
 ·simp [bf,ll,Tr.get_nil] at hx
 ·simp [bf,ll,Tr.get_nil] at hx
 ·rcases ho with ho|ho
  ·rw [hp] at ho;cases ho
  ·exact (hnf o ho).elim
 ·exact (nr (hlow b (hKl b j hk))).trans (hb.cell b j hk)
 ·have hlt1:=Nat.lt_of_lt_of_le hlt hb.size
  exact (hlow b hlt1).trans (hb.frame b hlt hn)
 ·simp [bf,ll,Tr.get_nil] at ho
 ·obtain ⟨cs',fr',q1,q2⟩:=hb.sg b cs e fr h
  exact ⟨cs',fr',(hlow b (br q1)).trans q1,q2⟩
 ·obtain ⟨l',q1⟩:=hb.lp b l h
  exact ⟨l',(hlow b (br q1)).trans q1⟩
 ·have q1:=hb.whole b cs e fr h hk
  exact (hlow b (br (q1.trans h))).trans q1
 ·rw [mz]
  by_cases e:r=t
  ·subst e;rw [if_pos rfl,hv];exact .sc _
  ·rw [if_neg e];exact .bad _
 ·obtain ⟨bs,e1,e2,e3⟩:=hm.Ab
  obtain ⟨cs,c1,c2,c3⟩:=h1.Ab
  refine ⟨bs++cs,by rw [e1,c1,List.map_append,List.append_assoc],?_,fun b hb'=>?_⟩
  ·rw [List.nodup_append]
   refine ⟨e2,c2,fun x hx y hy e=>?_⟩
   subst e
   have h2:=br (c3 x hy).2.1
   have h3:=(e3 x hx).1
   omega
  ·have hun:ir { b0:=B.b0,inj:=fun _=>none,K:=B.K } (bf []).h b:=fun o base ho=>by simp [bf,ll,Tr.get_nil] at ho
   rcases List.mem_append.1 hb' with hb'|hb'
   ·exact ⟨Nat.le_trans hn0 (Nat.le_trans hb.size (e3 b hb').1),(e3 b hb').2,hun⟩
   ·have q:=c3 b hb'
    exact ⟨q.1,(hlow b (br q.2.1)).trans q.2.1,hun⟩
def aly (x:Operand):Option Nat:=
 match x with
 |.tmp t=>some t
 |_=>none
def Cm (o:Oper):Option (Option Nat × Nat × List Nat):=
 match o.op,o.guard with
 |.call { callee:=.value (.func f),args,.. },none=>(args.toList.mapM aly).map fun ts=>(o.dst,f,ts)
 |_,_=>none
def Iw (ops:Array Oper) (n:Nat):Option (Option Nat × Nat × List Nat):=
 match ops.toList.drop n with
 | [o]=>Cm o
 |_=>none
theorem Vo:∀ {l:List Operand} {ts:List Nat},l.mapM aly=some ts→l=ts.map Operand.tmp
 | [],ts,h=>by simp at h;subst h;rfl
 |x::l,ts,h=>by
  simp only [List.mapM_cons,Option.bind_eq_bind,Option.bind_eq_some_iff] at h
  obtain ⟨t,h1,us,h2,h3⟩:=h
  cases h3
  cases x with
  |tmp u=>simp only [aly,Option.some.injEq] at h1;subst h1;rw [List.map_cons,Vo h2]
  |_=>cases h1
theorem aff {ops:Array Oper} {n f:Nat} {d:Option Nat} {args:List Nat} (h:Iw ops n=some (d,f,args)):∃ c ts pos af ty,ops.toList.drop n=[⟨d,.call { callee:=.value (.func f),args:=(args.map Operand.tmp).toArray,argTypes:=ts },ty,pos,af,none⟩]∧c=():=by
 unfold Iw at h
 split at h
 ·rename_i o ho
  obtain ⟨dst,op,ty,pos,af,gd⟩:=o
  unfold Cm at h
  split at h
  ·rename_i f' aa ats h1 h2
   simp only [Option.map_eq_some_iff,Prod.mk.injEq] at h
   obtain ⟨ts,h3,rfl,rfl,rfl⟩:=h
   subst h1 h2
   refine ⟨(),ats,pos,af,ty,?_,rfl⟩
   rw [ho,← Vo h3]
  ·cases h
 ·cases h
theorem ago {P:Program} [KP P] {T:dv} (hT:an P T) {B:dy} {nt:NT} (hnf:B.j5) {N id n:Nat} {ops:Array Oper} {K:SL→St→Prop} {X:Exit→Act→World→Prop} {L st g a w} (hs:dt nt (.region id ops false)=true)
 {f:Nat} {args:List Nat} {d:Option Nat} (hl:Iw ops n=some (d,f,args)) (he:l8 P f=true)
 (h:opsL P T ops (ops.toList.take n) K L st) (hh:fj B nt L st g a w)
 (hK:∀ L' st' g' a' w',K L' st'→fj B nt L' st' g' a' w'→Calls P f (args.map fun t=>a'.tmps.getD t undef).toArray w' (fun e w''=>∃ r,e = .returned r∧∀ a'',a''.defers=a'.defers→pv nt a''.tmps→(∀ dd,d=some dd→a''.tmps.getD dd undef=r)→X .normal a'' w'')) :
 (Code.region id ops false).wpIn (eh none) N P X a w:=by
 simp only [dt,Bool.and_eq_true] at hs
 obtain ⟨hd,hg⟩:=hs
 obtain ⟨_,ts,pos,af,ty,hl,_⟩:=aff hl
 have key:∀ (l:List Oper) (is:List Nat),(∀ o ∈ l,o ∈ ops)→is.map (fun i=>ops[i]?)=(l++ops.toList.drop n).map some→∀ L st g a w,opsL P T ops l K L st→fj B nt L st g a w→wpOpsIn (eh none) N P ops X is a w:=by
  intro l
  induction l with
  |nil=>
   intro is _ his L st g a w h hh
   rw [hl,List.nil_append] at his
   match is,his with
   | [i],his=>
    simp only [List.map_cons,List.map_nil,List.cons.injEq,and_true] at his
    have hK':=hK L st g a w h hh
    have ho:(⟨d,.call { callee:=.value (.func f),args:=(args.map Operand.tmp).toArray,argTypes:=ts },ty,pos,af,none⟩:Oper) ∈ ops:=by
     have:(⟨d,.call { callee:=.value (.func f),args:=(args.map Operand.tmp).toArray,argTypes:=ts },ty,pos,af,none⟩:Oper) ∈ ops.toList.drop n:=by rw [hl];exact List.mem_singleton.2 rfl
     exact Array.mem_toList_iff.1 (List.mem_of_mem_drop this)
    simp only [wpOpsIn,his]
    have hw:Region.wanted (⟨d,.call { callee:=.value (.func f),args:=(args.map Operand.tmp).toArray,argTypes:=ts },ty,pos,af,none⟩:Oper) (yielded ops a.tmps)=true:=by simp [Region.wanted]
    rw [hw,if_pos rfl]
    refine ⟨i4 none P _ a w,?_⟩
    rw [Oper.semAt_eq _ _ _ (by intro c e;cases e)]
    have hrun:(execOp a.eval (⟨d,.call { callee:=.value (.func f),args:=(args.map Operand.tmp).toArray,argTypes:=ts },ty,pos,af,none⟩:Oper)).run P w=(callFunc f (args.map fun t=>a.tmps.getD t undef).toArray).run P w:=by
     rw [Aq (h:=f) (first:=#[]) (captured:=#[]) (f:=.func f) rfl rfl]
     congr 2
     apply Array.ext'
     simp [Act.eval]
    rw [hrun,oz he]
    refine ⟨(fun h=>(by cases h)),(ni (ro:=none) (n:=N - 1) hK').mono ?_⟩
    rintro e w' ⟨r,rfl,hX⟩
    have hdd:=fun dd (e:d=some dd)=>j4 hd ho dd e
    show wpOpsIn (eh none) N P ops X [] (a.put d r) w'
    refine hX _ (put_defers _ _ _) (hh.sl.1.put hdd) (fun dd e=>?_)
    subst e
    have:=(NT.Er (hdd dd rfl)).1
    show (a.tmps.setIfInBounds dd r).getD dd undef=r
    rw [Array.getD_eq_getD_getElem?,Array.getElem?_setIfInBounds,if_pos rfl,if_pos (by rw [hh.sl.1.size];exact this)];rfl
   | [],his=>cases his
   |_::_::_,his=>simp at his
  |cons o l ih=>
   intro is hmem his L st g a w h hh
   obtain ⟨hc,hr,hdf⟩:=hh
   cases is with
   |nil=>cases his
   |cons i is=>
    simp only [List.cons_append,List.map_cons,List.cons.injEq] at his
    obtain ⟨hi,his⟩:=his
    have ho:=hmem o (by simp)
    simp only [wpOpsIn,hi]
    rcases tm hr (uu hg ho) h with ⟨hw,h1⟩|⟨hw,h1⟩
    ·rw [hw,if_pos rfl]
     unfold I6 yr at h1
     cases hop:fo P T o (dh L) st with
     |none=>
      rw [hop] at h1
      refine Eh hc.ok (fun o ho=>hc.fresh o ho (hnf o)) hr.eval h1 none N _ _ ?_
      rintro u w' ⟨g',v,st',q0,q1,q2,q3,q4⟩
      exact ih is (fun o ho=>hmem o (by simp [ho])) his _ st' g' _ w' q0 ⟨hc.step (hnf.qh _ _) ⟨q1,q2⟩ q3,(hr.ext q2.ext).put q4 (j4 hd ho),by rw [put_defers];exact hdf.step q2⟩
     |some p=>
      obtain ⟨v,st'⟩:=p
      rw [hop] at h1
      refine A5 hT hc.ok (hc.free (hnf.qh _ _)) hr.eval hop none N _ _ ?_
      rintro u w' ⟨g',q1,q2,q3⟩
      exact ih is (fun o ho=>hmem o (by simp [ho])) his _ st' g' _ w' h1 ⟨hc.step (hnf.qh _ _) ⟨uw hop,q1⟩ q2,(hr.ext q1.ext).put q3 (j4 hd ho),by rw [put_defers];exact hdf.step q1⟩
    ·rw [hw,if_neg (by simp)]
     refine ⟨i4 none P o a w,?_⟩
     exact ih is (fun o ho=>hmem o (by simp [ho])) his _ st g _ w h1 ⟨hc,hr.put (.sc _) (j4 hd ho),by rw [put_defers];exact hdf⟩
 refine wpIn_region ?_
 exact key (ops.toList.take n) (List.range ops.size) (fun o ho=>Array.mem_toList_iff.1 (List.mem_of_mem_take ho)) (by rw [List.take_append_drop];exact F2 ops) L st g a w h hh
def dp:Nat→Code→Code
 |0,.seq a _=>a
 |n+1,.seq _ b=>dp n b
 |_,_=>.skip
def gb:Code→Array Oper
 |.region _ ops _=>ops
 |_=>#[]
def idC:Code→Nat
 |.region i _ _=>i
 |_=>0
theorem jh {a b:Code}:dp 0 (.seq a b)=a:=rfl
theorem jg {n:Nat} {a b:Code}:dp (n+1) (.seq a b)=dp n b:=rfl
theorem kc {i ops d}:gb (.region i ops d)=ops:=rfl
theorem vg:∀ {n:Nat} {c:Code},J7 (n+1) c=true→dn n c = .seq (dp n c) (dn (n+1) c)
 |0,.seq a b,_=>rfl
 |n+1,.seq a b,h=>vg (n:=n) (c:=b) h
theorem aih (n:Nat) (ts:List Nat) (x y:Array Value) (t:Nat):(qa n ts x).has t=(qa n ts y).has t:=by
 unfold NT.has qa
 rw [List.all_map,List.all_map]
 rfl
theorem qw {n:Nat} {ts:List Nat} {x y:Array Value}:∀ {c:Code},dt (qa n ts x) c=true→dt (qa n ts y) c=true:=by
 intro c
 induction c with
 |region i ops d=>
  intro h
  simp only [dt,oa,kp,aih n ts y x] at h ⊢
  exact h
 |seq a b iha ihb=>intro h;simp only [dt,Bool.and_eq_true] at h ⊢;exact ⟨iha h.1,ihb h.2⟩
 |cond c a b iha ihb=>intro h;simp only [dt,Bool.and_eq_true] at h ⊢;exact ⟨iha h.1,ihb h.2⟩
 |block i b ih=>intro h;exact ih h
 |loop b ih=>intro h;exact ih h
 |scope b ih=>intro h;exact ih h
 |rangeFunc f ps a b iha ihb=>
  intro h
  simp only [dt,Bool.and_eq_true,aih n ts y x] at h ⊢
  exact ⟨⟨⟨⟨h.1.1.1.1,iha h.1.1.1.2⟩,ihb h.1.1.2⟩,h.1.2⟩,h.2⟩
 |_=>intro _;rfl
theorem Lf {P:Program} [KP P] {T:dv} (hT:an P T) {B:dy} {nt:NT} (hnf:B.j5) {N k n:Nat} {c:Code} (hsp:J7 (k+1) c=true) (hreg:dp k c = .region (idC (dp k c)) (gb (dp k c)) false) (hs:dt nt (dp k c)=true)
 {d:Option Nat} {f:Nat} {args:List Nat} (hcall:Iw (gb (dp k c)) n=some (d,f,args)) (he:l8 P f=true) {K:SL→St→Prop} {L st g a w} (h:opsL P T (gb (dp k c)) ((gb (dp k c)).toList.take n) K L st) (hh:fj B nt L st g a w) {X:Exit→Act→World→Prop}
 (hK:∀ L' st' g' a' w',K L' st'→fj B nt L' st' g' a' w'→Calls P f (args.map fun t=>a'.tmps.getD t undef).toArray w' (fun e w''=>∃ r,e = .returned r∧∀ a'',a''.defers=a'.defers→pv nt a''.tmps→(∀ dd,d=some dd→a''.tmps.getD dd undef=r)→(dn (k+1) c).wpIn (eh none) N P X a'' w'')) :
 (dn k c).wpIn (eh none) N P X a w:=by
 rw [vg hsp]
 refine wpIn_seq ?_
 rw [hreg] at hs ⊢
 exact ago hT hnf hs hcall he h hh hK
end
end Go.Vm
namespace Go.Vm
variable [TK]
theorem fj.exact {B:dy} {nt L st g a w} (hh:fj B nt L st g a w) {t:Nat} {x:Value} (h:lk L t = .sc x):a.tmps.getD t undef=x:=by
 have:=hh.sl.2 t
 rw [h] at this
 exact this.exact rfl
theorem fj.box {B:dy} {nt L st g a w} (hh:fj B nt L st g a w) {t o k:Nat} {cells:List AV} {et:TypeId} (hl:lk L t = .ptr o 0) (ho:st.h.get o=some (.row cells k 2 et)) :
 ∃ b cs,a.tmps.getD t undef = .pointer (some ⟨b,0,none⟩)∧B.b0≤b∧w.heap[b]? = some (.cells cs et (0,0))∧bm g w cells cs.toList:=by
 have h1:=hh.sl.2 t
 rw [hl] at h1
 obtain ⟨v,hv⟩:∃ v,a.tmps.getD t undef=v:=⟨_,rfl⟩
 rw [hv] at h1 ⊢
 cases h1 with
 |ptr _ _ b base hi=>
  obtain ⟨b',base',q1,q2,cs,fr,q3,q4,q5,q6,q7,q8,q9,q10⟩:=hh.cur.ok.obj o _ ho
  rw [hi] at q1;cases q1
  have hf:=q8 (by decide)
  obtain ⟨e1,e2⟩:=q9 rfl
  subst hf e1
  refine ⟨b,cs,rfl,by rw [← hh.cur.base.b0];exact q2,q3,by simp [e2],fun i x v hx hv=>?_⟩
  obtain ⟨c,hc,hr⟩:=q5 i x hx
  rw [Nat.zero_add,← Array.getElem?_toList,hv] at hc
  cases hc;exact hr
theorem avb {g:Gh} {w:World} {b:Nat} {cs:Array Value} {e:TypeId} {fr:Nat × Nat} (h:w.heap[b]? = some (.cells cs e fr)) (hK:∀ j,g.K b j):Rel g w (.dj (cs.toList.map .sc)) (.pointer (some ⟨b,0,none⟩)):=by
 refine .dj _ b 0 (fun j=>cs.getD j undef) (fun j a ha=>⟨hK _,?_⟩) (fun j a ha=>?_)
 ·rw [List.getElem?_map,Option.map_eq_some_iff] at ha
  obtain ⟨x,hx,rfl⟩:=ha
  rw [Nat.zero_add]
  exact cell_of h (by have:=(List.getElem?_eq_some_iff.1 hx).1;simpa using this)
 ·rw [List.getElem?_map,Option.map_eq_some_iff] at ha
  obtain ⟨x,hx,rfl⟩:=ha
  rw [Array.getElem?_toList] at hx
  rw [Array.getD_eq_getD_getElem?,hx]
  exact .sc x
theorem J4 {g:Gh} {w:World} {tmps:Array Value}:∀ {Ls:SL},(∀ p ∈ Ls,Rel g w p.2 (tmps.getD p.1 undef))→∀ t,Rel g w (lk Ls t) (tmps.getD t undef)
 | [],_,t=>.bad _
 |p::Ls,h,t=>by
  rw [mz]
  by_cases e:p.1=t
  ·rw [if_pos e,← e];exact h p (by simp)
  ·rw [if_neg e];exact J4 (fun q hq=>h q (by simp [hq])) t
theorem fj.quiet {w0:World} {D:List Deferred} {nt L st g a w} (hh:fj (Zw w0 D) nt L st g a w) (S:Nat→Prop) (m:Nat) (xx:Bool):u6 S m xx w0 w:=by
 have hb:=hh.cur.base
 exact .quiet S m xx hb.size hb.os hb.tape hb.output (fun b h=>hb.frame b h (fun h=>h))
theorem fj.azq {B:dy} {nt L st g a w} (hh:fj B nt L st g a w):uq g st.h (qb w):=⟨fun b j hk=>hh.cur.ok.K b j hk,fun o cells k s e ho b base hi j hj=>by
 obtain ⟨b',base',h5,_,h6⟩:=hh.cur.ok.obj o _ ho
 rw [hi] at h5;cases h5
 exact h6.lt⟩
theorem fj.at2 {B:dy} {nt L st g a w} (hh:fj B nt L st g a w) {α:Type} (C:c8 α) {x : α} {vs:List Value} (h:bm g w (C.cells true x) vs):bm (gK B.b0 (qb w)) w (C.cells true x) vs:=
 C.ok hh.cur.ok hh.azq (fun _=>Nat.le_of_eq hh.cur.base.b0.symm) h (C.rt true st.h true x (fun _=>rfl))
theorem K9 {nt:NT} {n:Nat} {tmps:Array Value} (h:pv nt tmps) (hn:nt.n=n):pv (n:NT) tmps:=⟨by rw [h.size,hn],fun p hp=>by cases hp⟩
end Go.Vm
namespace Go.Vm
variable [TK]
noncomputable section
section
variable (P : Program) (ρ : Operand → AV) (d : Option Tmp) (ty : TypeId) (pos : String) (af : Array Edge) (gd : Option (Nat × Bool)) (t u : TypeId) (x y : Operand)
theorem Lj (op:BinOp) (k k':IntKind) (a b:Int) (hx : ρ x = .sc (.int k a)) (hy : ρ y = .sc (.int k' b)) :
 qn P ρ ⟨d,.binOp op t x y u,ty,pos,af,gd⟩ op t (.sc (.int k a)) (.sc (.int k' b))=M.of ((ev P (binOp op t (.int k a) (.int k' b))).map .sc):=by
 have h1:∀ s:Sem Value,ev P (do pure (Next.value (← s)))=(ev P s).map Next.value:=by
  intro s
  induction s with
  |pure b=>rfl
  |program k ih=>exact ih P
  |choose q k ih=>
   simp only [bind,Sem.bind,ev]
   split
   ·exact ih 0
   ·rfl
  |mark m k ih=>exact ih
  |_=>rfl
 have h2:execOp (fun z=>((ρ z).il).getD undef) ⟨d,.binOp op t x y u,ty,pos,af,gd⟩=(do pure (Next.value (← (do eqGuard op t x y (.int k a) (.int k' b);binOp op t (.int k a) (.int k' b))))):=by
  simp only [execOp,hx,hy,AV.il,Option.getD_some]
 have h3:ev P (do eqGuard op t x y (.int k a) (.int k' b);binOp op t (.int k a) (.int k' b))=ev P (binOp op t (.int k a) (.int k' b)):=by
  cases op<;>rfl
 unfold qn tf
 simp only [AV.il,Option.isSome_some,Bool.and_self,cond_true]
 rw [h2,h1,h3]
 cases ev P (binOp op t (.int k a) (.int k' b))<;>rfl
theorem ao0 (k k':IntKind) (a b:Int) (h : 0≤b):ev P (binOp .shl t (.int k a) (.int k' b))=some (.int k (k.wrap (a * 2 ^ (min b.toNat k.bits)))):=by
 have:¬ b<0:=by omega
 simp [binOp,Op.shift,this,Dm]
theorem an2 (k k':IntKind) (a b:Int) (h : 0≤b):ev P (binOp .shr t (.int k a) (.int k' b))=some (.int k (a.fdiv (2 ^ (min b.toNat k.bits)))):=by
 have:¬ b<0:=by omega
 simp [binOp,Op.shift,this,Dm]
theorem asu {d:TypeDesc} (h:P.underlying t=some d):ev P (underlying t)=some d:=by
 rw [underlying]
 show ev P (match P.underlying t with|some d=>pure d|none=>_)=_
 rw [h];rfl
theorem Mb (op:BinOp) (a b:ByteArray) (hx : ρ x = .sc (.string a)) (hy : ρ y = .sc (.string b)) :
 qn P ρ ⟨d,.binOp op t x y u,ty,pos,af,gd⟩ op t (.sc (.string a)) (.sc (.string b))=M.of ((ev P (binOp op t (.string a) (.string b))).map .sc):=by
 have h1:∀ s:Sem Value,ev P (do pure (Next.value (← s)))=(ev P s).map Next.value:=by
  intro s
  induction s with
  |pure b=>rfl
  |program k ih=>exact ih P
  |choose q k ih=>
   simp only [bind,Sem.bind,ev]
   split
   ·exact ih 0
   ·rfl
  |mark m k ih=>exact ih
  |_=>rfl
 have h2:execOp (fun z=>((ρ z).il).getD undef) ⟨d,.binOp op t x y u,ty,pos,af,gd⟩=(do pure (Next.value (← (do eqGuard op t x y (.string a) (.string b);binOp op t (.string a) (.string b))))):=by
  simp only [execOp,hx,hy,AV.il,Option.getD_some]
 have h3:ev P (do eqGuard op t x y (.string a) (.string b);binOp op t (.string a) (.string b))=ev P (binOp op t (.string a) (.string b)):=by
  cases op<;>rfl
 unfold qn tf
 simp only [AV.il,Option.isSome_some,Bool.and_self,cond_true]
 rw [h2,h1,h3]
 cases ev P (binOp op t (.string a) (.string b))<;>rfl
theorem str_eq (a b:ByteArray):(a.toList == b.toList)=decide (a=b):=by
 rw [ByteArray.toList_eq,ByteArray.toList_eq,Bool.eq_iff_iff]
 simp only [beq_iff_eq,decide_eq_true_eq]
 constructor
 ·intro h
  cases a;cases b
  congr 1
  exact Array.ext' h
 ·intro h;rw [h]
theorem Sw (a b:ByteArray):ev P (binOp .eql t (.string a) (.string b))=some (.bool (decide (a=b))):=by
 rw [← str_eq];rfl
theorem Un (a b:ByteArray):ev P (binOp .neq t (.string a) (.string b))=some (.bool (!decide (a=b))):=by
 rw [← str_eq];rfl
end
def Nk (u:Option TypeDesc):Bool:=match u with|some (.slice _)=>true|_=>false
theorem ahd (e):Nk (some (.slice e))=true:=id rfl
theorem ah8 {u} (h:Nk u=true):∃ e,u=some (.slice e):=by
 unfold Nk at h;split at h
 ·exact ⟨_,rfl⟩
 ·cases h
theorem ai0 {P:Program} {t op x y} (h:Nk (P.underlying t)=true):M8 P t op x y=Ns op x y:=by
 obtain ⟨e,he⟩:=ah8 h
 unfold M8;rw [he]
theorem Th (P:Program) (ρ o op t l sz es b):qn P ρ o op t (.vl l sz es) b=M8 P t op (.vl l sz es) b:=id rfl
theorem ai6 (b):o8 .eql b=M.pure (.sc (.bool b)):=id rfl
theorem Hc (P:Program) (ρ:Operand→AV) (d ty pos af gd) (t u:TypeId) (x y:Operand) (op:BinOp) (a b:Option Addr) (n c m k:Nat) (hx : ρ x = .sc (.slice a n c)) (hy : ρ y = .sc (.slice b m k)) :
 qn P ρ ⟨d,.binOp op t x y u,ty,pos,af,gd⟩ op t (.sc (.slice a n c)) (.sc (.slice b m k))=M.of ((ev P (binOp op t (.slice a n c) (.slice b m k))).map .sc):=by
 have h1:∀ s:Sem Value,ev P (do pure (Next.value (← s)))=(ev P s).map Next.value:=by
  intro s
  induction s with
  |pure b=>rfl
  |program k ih=>exact ih P
  |choose q k ih=>
   simp only [bind,Sem.bind,ev]
   split
   ·exact ih 0
   ·rfl
  |mark m k ih=>exact ih
  |_=>rfl
 have h2:execOp (fun z=>((ρ z).il).getD undef) ⟨d,.binOp op t x y u,ty,pos,af,gd⟩=(do pure (Next.value (← (do eqGuard op t x y (.slice a n c) (.slice b m k);binOp op t (.slice a n c) (.slice b m k))))):=by
  simp only [execOp,hx,hy,AV.il,Option.getD_some]
 have h3:ev P (do eqGuard op t x y (.slice a n c) (.slice b m k);binOp op t (.slice a n c) (.slice b m k))=ev P (binOp op t (.slice a n c) (.slice b m k)):=by
  cases op<;>rfl
 unfold qn tf
 simp only [AV.il,Option.isSome_some,Bool.and_self,cond_true]
 rw [h2,h1,h3]
 cases ev P (binOp op t (.slice a n c) (.slice b m k))<;>rfl
theorem Zp {P:Program} {t:TypeId} {a:Option Addr} {n c m k:Nat} (d:Nat) (h:Nk (P.underlying t)=true):ev P (Op.equalIn (d+1) t (.slice a n c) (.slice none m k))=some a.isNone:=by
 obtain ⟨e,he⟩:=ah8 h
 simp only [Op.equalIn]
 rw [Ai,asu P t he]
 cases a<;>rfl
theorem Le {P:Program} {t:TypeId} {a:Option Addr} {n c m k:Nat} (h:Nk (P.underlying t)=true):ev P (binOp .eql t (.slice a n c) (.slice none m k))=some (.bool a.isNone):=by
 show ev P (do pure (Value.bool (← Op.equalIn (9999+1) t (.slice a n c) (.slice none m k))))=_
 rw [Ai,Zp 9999 h]
 rfl
end
end Go.Vm
section
set_option maxRecDepth 4000
namespace Go.Vm
theorem wR:type_of% @ahs∧type_of% @aar∧type_of% @Xe∧type_of% @anu∧type_of% @aiv∧type_of% @aev∧type_of% @ahr∧type_of% @ae8∧type_of% @ahe∧type_of% @amt∧type_of% @an1∧type_of% @aow∧type_of% @apf∧type_of% @aqa∧type_of% @amu∧type_of% @aoi∧type_of% @aib∧type_of% @ahc∧type_of% @ah1∧type_of% @anp∧type_of% @aoy∧type_of% @Ym∧type_of% @ace∧type_of% @X0∧type_of% @Q4∧type_of% @Sd∧type_of% @acq∧type_of% @aea∧type_of% @ac6∧type_of% @ah0∧type_of% @aal∧type_of% @ad1∧type_of% @Yp∧type_of% @ach∧type_of% @Yw∧type_of% @Xz∧type_of% @ac3∧type_of% @Yt∧type_of% @X8∧type_of% @aph∧type_of% @Hu∧type_of% @Hq∧type_of% @aby∧type_of% @adf∧type_of% @Q7∧type_of% @ahl∧type_of% @aa4∧type_of% @Xg∧type_of% @adr∧type_of% @aia∧type_of% @anq∧type_of% @ani∧type_of% @apc∧type_of% @ame∧type_of% @ao9∧type_of% @apq∧type_of% @ai2∧type_of% @ahb∧type_of% @ais∧type_of% @ah2∧type_of% @aic∧type_of% @aaj∧type_of% @Wm∧type_of% @Sb∧type_of% @Ud∧type_of% @acy∧type_of% @ah5∧type_of% @ag7∧type_of% @Rj∧type_of% @ao5∧type_of% @amz∧type_of% @ab0∧type_of% @ae6∧type_of% @ahg∧type_of% @Pd∧type_of% @Mt:=
 ⟨@ahs,@aar,@Xe,@anu,@aiv,@aev,@ahr,@ae8,@ahe,@amt,@an1,@aow,@apf,@aqa,@amu,@aoi,@aib,@ahc,@ah1,@anp,@aoy,@Ym,@ace,@X0,@Q4,@Sd,@acq,@aea,@ac6,@ah0,@aal,@ad1,@Yp,@ach,@Yw,@Xz,@ac3,@Yt,@X8,@aph,@Hu,@Hq,@aby,@adf,@Q7,@ahl,@aa4,@Xg,@adr,@aia,@anq,@ani,@apc,@ame,@ao9,@apq,@ai2,@ahb,@ais,@ah2,@aic,@aaj,@Wm,@Sb,@Ud,@acy,@ah5,@ag7,@Rj,@ao5,@amz,@ab0,@ae6,@ahg,@Pd,@Mt⟩
theorem R0:type_of% @aex∧type_of% @amx∧type_of% @nc0∧type_of% @nc1∧type_of% @Int.sub_zero∧type_of% @Int.sub_self∧type_of% @Int.add_zero∧type_of% @Int.zero_add∧type_of% @Ru∧type_of% @ap6∧type_of% @Yk∧type_of% @aai∧type_of% @ahj∧type_of% @O9∧type_of% @List.length_replicate.{0}∧type_of% @Xa∧type_of% @Xt∧type_of% @apx∧type_of% @Fj∧type_of% @O3∧type_of% @Mq∧type_of% @aec∧type_of% @acb∧type_of% @Sp∧type_of% @Jn∧type_of% @ac0∧type_of% @ahz∧type_of% @apk∧type_of% @Qb∧type_of% @Fv∧type_of% @P3∧type_of% @am3∧type_of% @aip∧type_of% @O6∧type_of% @Tn∧type_of% @Om∧type_of% @Kk∧type_of% @Te∧type_of% @Yn∧type_of% @Uk∧type_of% @T5∧type_of% @List.length_append.{0}∧type_of% @rtT∧type_of% @rtF∧type_of% @Go.Vm.Ad.eq_1∧type_of% @Go.Vm.bounds.eq_1∧type_of% @Go.Vm.C7.eq_1∧type_of% @Go.Vm.C7.eq_2∧type_of% @Go.Vm.Hw.eq_def:=
 ⟨@aex,@amx,@nc0,@nc1,@Int.sub_zero,@Int.sub_self,@Int.add_zero,@Int.zero_add,@Ru,@ap6,@Yk,@aai,@ahj,@O9,@List.length_replicate.{0},@Xa,@Xt,@apx,@Fj,@O3,@Mq,@aec,@acb,@Sp,@Jn,@ac0,@ahz,@apk,@Qb,@Fv,@P3,@am3,@aip,@O6,@Tn,@Om,@Kk,@Te,@Yn,@Uk,@T5,@List.length_append.{0},@rtT,@rtF,@Go.Vm.Ad.eq_1,@Go.Vm.bounds.eq_1,@Go.Vm.C7.eq_1,@Go.Vm.C7.eq_2,@Go.Vm.Hw.eq_def⟩
theorem R1:type_of% @Go.Vm.M7.eq_1∧type_of% @Go.Vm.Aj.eq_1∧type_of% @Go.Vm.Dq.eq_def∧type_of% @Go.Vm.mj.eq_1∧type_of% @H4∧type_of% @Je∧type_of% @Pb∧type_of% @Ts∧type_of% @Nat.div_one∧type_of% @Sm∧type_of% @S5∧type_of% @aqq∧type_of% @P0∧type_of% @Q3∧type_of% @Oh∧type_of% @aus∧type_of% @aht∧type_of% @aha∧type_of% @aui∧type_of% @aut∧type_of% @aik∧type_of% @Yz∧type_of% @acv∧type_of% @X9∧type_of% @Gg∧type_of% @I5∧type_of% @Gf∧type_of% @Sq∧type_of% @X4∧type_of% @Rv∧type_of% @Rx∧type_of% @Yb∧type_of% @Rl:=
 ⟨@Go.Vm.M7.eq_1,@Go.Vm.Aj.eq_1,@Go.Vm.Dq.eq_def,@Go.Vm.mj.eq_1,@H4,@Je,@Pb,@Ts,@Nat.div_one,@Sm,@S5,@aqq,@P0,@Q3,@Oh,@aus,@aht,@aha,@aui,@aut,@aik,@Yz,@acv,@X9,@Gg,@I5,@Gf,@Sq,@X4,@Rv,@Rx,@Yb,@Rl⟩
theorem R2:type_of% @ahd∧type_of% @ai0∧type_of% @Th∧type_of% @ai6∧type_of% @Hc∧type_of% @Le∧type_of% @Option.isNone_none.{0}∧type_of% @Option.isNone_some.{0}∧type_of% @ag6∧type_of% @On∧type_of% @Jy∧type_of% @Ld∧type_of% @O0∧type_of% @Lm∧type_of% @W7∧type_of% @aab∧type_of% @Ww∧type_of% @Ku∧type_of% @Jg∧type_of% @Ms∧type_of% @Jq∧type_of% @G6∧type_of% @ael∧type_of% @Ed∧type_of% @List.isEmpty_cons.{0}∧type_of% @List.isEmpty_nil.{0}∧type_of% @List.flatMap_nil.{0,0}∧type_of% @Ot∧type_of% @Oj∧type_of% @Ol∧type_of% @Py∧type_of% @Rs∧type_of% @Ro∧type_of% @Tl∧type_of% @and_true∧type_of% @true_and∧type_of% @Og∧type_of% @Pc∧type_of% @Yo∧type_of% @aiu∧type_of% @am5∧type_of% @and_self:=
 ⟨@ahd,@ai0,@Th,@ai6,@Hc,@Le,@Option.isNone_none.{0},@Option.isNone_some.{0},@ag6,@On,@Jy,@Ld,@O0,@Lm,@W7,@aab,@Ww,@Ku,@Jg,@Ms,@Jq,@G6,@ael,@Ed,@List.isEmpty_cons.{0},@List.isEmpty_nil.{0},@List.flatMap_nil.{0,0},@Ot,@Oj,@Ol,@Py,@Rs,@Ro,@Tl,@and_true,@true_and,@Og,@Pc,@Yo,@aiu,@am5,@and_self⟩
theorem R3:type_of% @List.size_toArray.{0}∧type_of% @W0∧type_of% @Yd∧type_of% @aa1∧type_of% @aez∧type_of% @Xj∧type_of% @ae1∧type_of% @Ub∧type_of% @abq∧type_of% @Jt∧type_of% @Xr∧type_of% @aa3∧type_of% @X5∧type_of% @Jo∧type_of% @Ll∧type_of% @Xo∧type_of% @Yg∧type_of% @H2∧type_of% @Oq∧type_of% @Wu∧type_of% @Ws∧type_of% @ah3∧type_of% @Tb∧type_of% @aas∧type_of% @X3∧type_of% @Tj∧type_of% @aaz∧type_of% @Xv∧type_of% @Xd∧type_of% @Ty∧type_of% @Sk∧type_of% @Pg∧type_of% @auf∧type_of% @Z9∧type_of% @X2∧type_of% @Oc∧type_of% @Mb∧type_of% @Sw∧type_of% @Un∧type_of% @wi∧type_of% @Go.Vm.cellsIn.eq_1∧type_of% @Go.Vm.cellsIn.eq_2∧type_of% @Go.Vm.cellsIn.eq_5∧type_of% @Go.Vm.cellsIn.eq_6∧type_of% @Go.Vm.D6.eq_1:=
 ⟨@List.size_toArray.{0},@W0,@Yd,@aa1,@aez,@Xj,@ae1,@Ub,@abq,@Jt,@Xr,@aa3,@X5,@Jo,@Ll,@Xo,@Yg,@H2,@Oq,@Wu,@Ws,@ah3,@Tb,@aas,@X3,@Tj,@aaz,@Xv,@Xd,@Ty,@Sk,@Pg,@auf,@Z9,@X2,@Oc,@Mb,@Sw,@Un,@wi,@Go.Vm.cellsIn.eq_1,@Go.Vm.cellsIn.eq_2,@Go.Vm.cellsIn.eq_5,@Go.Vm.cellsIn.eq_6,@Go.Vm.D6.eq_1⟩
theorem R4:type_of% @Go.Vm.Im.eq_1∧type_of% @Ei∧type_of% @Kj∧type_of% @Ly∧type_of% @Lh∧type_of% @Cv∧type_of% @E8∧type_of% @Fx∧type_of% @Et∧type_of% @Li∧type_of% @G5∧type_of% @K6∧type_of% @C8∧type_of% @Jp∧type_of% @K5∧type_of% @Jx∧type_of% @Da∧type_of% @Jk∧type_of% @Kr∧type_of% @Pq∧type_of% @K2∧type_of% @Yv∧type_of% @ta∧type_of% @S4∧type_of% @Ou∧type_of% @aew∧type_of% @ue∧type_of% @aiw∧type_of% @aqn∧type_of% @aqi∧type_of% @Sf∧type_of% @Ry∧type_of% @Fo∧type_of% @Xm∧type_of% @Qz:=
 ⟨@Go.Vm.Im.eq_1,@Ei,@Kj,@Ly,@Lh,@Cv,@E8,@Fx,@Et,@Li,@G5,@K6,@C8,@Jp,@K5,@Jx,@Da,@Jk,@Kr,@Pq,@K2,@Yv,@ta,@S4,@Ou,@aew,@ue,@aiw,@aqn,@aqi,@Sf,@Ry,@Fo,@Xm,@Qz⟩
theorem R5:type_of% @Go.Vm.tl.eq_1∧type_of% @List.flatten_cons.{0}∧type_of% @List.flatten_nil.{0}∧type_of% @List.replicate_succ.{0}∧type_of% @List.replicate_zero.{0}∧type_of% @Wy∧type_of% @Wz∧type_of% @aof∧type_of% @ah6∧type_of% @auk∧type_of% @aug∧type_of% @aud∧type_of% @Ii∧type_of% @Es∧type_of% @Ja∧type_of% @zl∧type_of% @O5∧type_of% @Ib∧type_of% @Gc∧type_of% @Jj∧type_of% @zi∧type_of% @A9∧type_of% @Oz∧type_of% @Ye∧type_of% @Gi∧type_of% @xd∧type_of% @Fu∧type_of% @Ha∧type_of% @C6∧type_of% @Px∧type_of% @Oe∧type_of% @Me∧type_of% @Ek∧type_of% @So∧type_of% @Uf∧type_of% @Lj∧type_of% @ao0∧type_of% @an2∧type_of% @Go.IntKind.bits.eq_6∧type_of% @Nat.min_def∧type_of% @atw∧type_of% @at1:=
 ⟨@Go.Vm.tl.eq_1,@List.flatten_cons.{0},@List.flatten_nil.{0},@List.replicate_succ.{0},@List.replicate_zero.{0},@Wy,@Wz,@aof,@ah6,@auk,@aug,@aud,@Ii,@Es,@Ja,@zl,@O5,@Ib,@Gc,@Jj,@zi,@A9,@Oz,@Ye,@Gi,@xd,@Fu,@Ha,@C6,@Px,@Oe,@Me,@Ek,@So,@Uf,@Lj,@ao0,@an2,@Go.IntKind.bits.eq_6,@Nat.min_def,@atw,@at1⟩
theorem R6:type_of% @aty∧type_of% @aum∧type_of% @at5∧type_of% @aup∧type_of% @auv∧type_of% @auq∧type_of% @at4∧type_of% @aul∧type_of% @aen∧type_of% @ady∧type_of% @as3∧type_of% @axg∧type_of% @alz∧type_of% @Go.Vm.Jc.eq_1∧type_of% @Go.Vm.Ag.eq_1∧type_of% @Go.Vm.vu.eq_def∧type_of% @Go.Vm.Qq.eq_1∧type_of% @Go.Vm.D0.eq_1∧type_of% @Go.Vm.x9.eq_1∧type_of% @Go.Vm.oy.eq_1∧type_of% @Go.Vm.oy.eq_2∧type_of% @Go.Vm.AV.known.eq_2∧type_of% @Go.Value.oneCell'.eq_3∧type_of% @Go.Vm.AV.cells.eq_1∧type_of% @Go.Vm.AV.cells.eq_2∧type_of% @Go.Vm.AV.cells.eq_3∧type_of% @Go.Value.cells.eq_1∧type_of% @Go.Value.cells.eq_2∧type_of% @Go.Vm.AV.one.eq_4∧type_of% @Go.Vm.AV.one.eq_5∧type_of% @Go.Vm.rr.eq_1∧type_of% @Go.Vm.qv.eq_1∧type_of% @Go.Vm.qv.eq_2∧type_of% @Go.Vm.U0.eq_1∧type_of% @Go.Vm.qp.eq_1∧type_of% @Go.Vm.uj.eq_2∧type_of% @Go.Vm.uj.eq_6∧type_of% @Go.Vm.j3.eq_1:=
 ⟨@aty,@aum,@at5,@aup,@auv,@auq,@at4,@aul,@aen,@ady,@as3,@axg,@alz,@Go.Vm.Jc.eq_1,@Go.Vm.Ag.eq_1,@Go.Vm.vu.eq_def,@Go.Vm.Qq.eq_1,@Go.Vm.D0.eq_1,@Go.Vm.x9.eq_1,@Go.Vm.oy.eq_1,@Go.Vm.oy.eq_2,@Go.Vm.AV.known.eq_2,@Go.Value.oneCell'.eq_3,@Go.Vm.AV.cells.eq_1,@Go.Vm.AV.cells.eq_2,@Go.Vm.AV.cells.eq_3,@Go.Value.cells.eq_1,@Go.Value.cells.eq_2,@Go.Vm.AV.one.eq_4,@Go.Vm.AV.one.eq_5,@Go.Vm.rr.eq_1,@Go.Vm.qv.eq_1,@Go.Vm.qv.eq_2,@Go.Vm.U0.eq_1,@Go.Vm.qp.eq_1,@Go.Vm.uj.eq_2,@Go.Vm.uj.eq_6,@Go.Vm.j3.eq_1⟩
theorem R7:type_of% @Go.Vm.j3.eq_3∧type_of% @Go.Vm.j3.eq_4∧type_of% @Go.Vm.Il.eq_1∧type_of% @Go.Vm.Ni.eq_1∧type_of% @Go.Vm.acs.eq_1∧type_of% @Go.Vm.mn.eq_1∧type_of% @Go.Vm.mn.eq_2∧type_of% @Go.Vm.mn.eq_3∧type_of% @Go.Vm.mn.eq_4∧type_of% @Go.Vm.mn.eq_5∧type_of% @Go.Vm.mn.eq_6∧type_of% @Go.Vm.mn.eq_7∧type_of% @Go.Vm.mn.eq_8∧type_of% @Go.Vm.mn.eq_9∧type_of% @Go.Vm.mn.eq_10∧type_of% @Go.Vm.AV.int.eq_1∧type_of% @Go.Vm.AV.bool.eq_1∧type_of% @Go.Vm.AV.exact.eq_1∧type_of% @Go.Vm.AV.exact.eq_2∧type_of% @Go.Vm.intOf.eq_1∧type_of% @Go.Vm.intOf.eq_2∧type_of% @Go.Vm.ny.eq_1∧type_of% @Go.Vm.ry.eq_1∧type_of% @Go.Vm.xw.eq_1∧type_of% @Go.Vm.xw.eq_2∧type_of% @Go.Vm.su.eq_1∧type_of% @Go.Vm.B8.eq_1∧type_of% @Go.Vm.np.eq_1∧type_of% @Go.Vm.u3.eq_1∧type_of% @Go.Vm.rj.eq_1∧type_of% @Go.Vm.rj.eq_3∧type_of% @Go.Vm.rj.eq_9∧type_of% @Go.Vm.Ki.eq_1∧type_of% @Go.Vm.Qa.eq_1∧type_of% @Go.Vm.S3.eq_1∧type_of% @Go.Vm.isSlice.eq_3∧type_of% @Go.Vm.isSlice.eq_4∧type_of% @Go.Vm.Mw.eq_1∧type_of% @Go.goInt.eq_1∧type_of% @aqs∧type_of% @amv∧type_of% @am9:=
 ⟨@Go.Vm.j3.eq_3,@Go.Vm.j3.eq_4,@Go.Vm.Il.eq_1,@Go.Vm.Ni.eq_1,@Go.Vm.acs.eq_1,@Go.Vm.mn.eq_1,@Go.Vm.mn.eq_2,@Go.Vm.mn.eq_3,@Go.Vm.mn.eq_4,@Go.Vm.mn.eq_5,@Go.Vm.mn.eq_6,@Go.Vm.mn.eq_7,@Go.Vm.mn.eq_8,@Go.Vm.mn.eq_9,@Go.Vm.mn.eq_10,@Go.Vm.AV.int.eq_1,@Go.Vm.AV.bool.eq_1,@Go.Vm.AV.exact.eq_1,@Go.Vm.AV.exact.eq_2,@Go.Vm.intOf.eq_1,@Go.Vm.intOf.eq_2,@Go.Vm.ny.eq_1,@Go.Vm.ry.eq_1,@Go.Vm.xw.eq_1,@Go.Vm.xw.eq_2,@Go.Vm.su.eq_1,@Go.Vm.B8.eq_1,@Go.Vm.np.eq_1,@Go.Vm.u3.eq_1,@Go.Vm.rj.eq_1,@Go.Vm.rj.eq_3,@Go.Vm.rj.eq_9,@Go.Vm.Ki.eq_1,@Go.Vm.Qa.eq_1,@Go.Vm.S3.eq_1,@Go.Vm.isSlice.eq_3,@Go.Vm.isSlice.eq_4,@Go.Vm.Mw.eq_1,@Go.goInt.eq_1,@aqs,@amv,@am9⟩
theorem R8:type_of% @Go.Vm.pack.eq_1∧type_of% @Go.Vm.pack.eq_2∧type_of% @Go.Vm.bp.eq_1∧type_of% @Go.Vm.bp.eq_2∧type_of% @Go.Vm.bf.eq_1∧type_of% @Go.Vm.ll.eq_1∧type_of% @Go.Vm.ll.eq_2∧type_of% @Go.Vm.tn.eq_1∧type_of% @nh∧type_of% @Bk∧type_of% @Yr∧type_of% @aca∧type_of% @x0∧type_of% @xu∧type_of% @Cb∧type_of% @Rk∧type_of% @Q6∧type_of% @T8∧type_of% @Oy∧type_of% @Q9∧type_of% @Go.Vm.gv.eq_1∧type_of% @Go.Vm.ey.eq_1∧type_of% @Go.Vm.gq.eq_1∧type_of% @Go.Vm.nf.eq_1∧type_of% @Go.Vm.nf.eq_2∧type_of% @Go.Vm.reach.eq_2∧type_of% @Go.Vm.reach.eq_3∧type_of% @Go.Vm.fk.eq_1∧type_of% @Go.Vm.dw.eq_1∧type_of% @Go.Vm.dw.eq_2∧type_of% @Go.Vm.AV.names.eq_1∧type_of% @Go.Vm.AV.names.eq_2∧type_of% @Go.Vm.AV.names.eq_3∧type_of% @Go.Vm.AV.names.eq_4∧type_of% @Go.Vm.AV.names.eq_5∧type_of% @Go.Vm.AV.names.eq_9∧type_of% @Go.Vm.AV.names.go.eq_1∧type_of% @Go.Vm.AV.names.go.eq_2∧type_of% @Go.Vm.bh.names.eq_1∧type_of% @Go.Vm.AV.dm.eq_1∧type_of% @Go.Vm.AV.dm.eq_2∧type_of% @Go.Vm.AV.dm.eq_3∧type_of% @Go.Vm.AV.dm.eq_4∧type_of% @Go.Vm.AV.dm.eq_5∧type_of% @Go.Vm.AV.dm.eq_6∧type_of% @Go.Vm.AV.dm.eq_7∧type_of% @Go.Vm.AV.dm.eq_11:=
 ⟨@Go.Vm.pack.eq_1,@Go.Vm.pack.eq_2,@Go.Vm.bp.eq_1,@Go.Vm.bp.eq_2,@Go.Vm.bf.eq_1,@Go.Vm.ll.eq_1,@Go.Vm.ll.eq_2,@Go.Vm.tn.eq_1,@nh,@Bk,@Yr,@aca,@x0,@xu,@Cb,@Rk,@Q6,@T8,@Oy,@Q9,@Go.Vm.gv.eq_1,@Go.Vm.ey.eq_1,@Go.Vm.gq.eq_1,@Go.Vm.nf.eq_1,@Go.Vm.nf.eq_2,@Go.Vm.reach.eq_2,@Go.Vm.reach.eq_3,@Go.Vm.fk.eq_1,@Go.Vm.dw.eq_1,@Go.Vm.dw.eq_2,@Go.Vm.AV.names.eq_1,@Go.Vm.AV.names.eq_2,@Go.Vm.AV.names.eq_3,@Go.Vm.AV.names.eq_4,@Go.Vm.AV.names.eq_5,@Go.Vm.AV.names.eq_9,@Go.Vm.AV.names.go.eq_1,@Go.Vm.AV.names.go.eq_2,@Go.Vm.bh.names.eq_1,@Go.Vm.AV.dm.eq_1,@Go.Vm.AV.dm.eq_2,@Go.Vm.AV.dm.eq_3,@Go.Vm.AV.dm.eq_4,@Go.Vm.AV.dm.eq_5,@Go.Vm.AV.dm.eq_6,@Go.Vm.AV.dm.eq_7,@Go.Vm.AV.dm.eq_11⟩
theorem R9:type_of% @Go.Vm.bh.dm.eq_1∧type_of% @Qw∧type_of% @aho∧type_of% @Go.Vm.j7.eq_1∧type_of% @Go.Vm.j7.eq_2∧type_of% @Go.Vm.ic.eq_2∧type_of% @kj∧type_of% @Option.bind_some.{0,0}∧type_of% @Option.bind_none.{0,0}∧type_of% @Option.map_some.{0,0}∧type_of% @Option.getD_some.{0}∧type_of% @Option.getD_none.{0}∧type_of% @Option.isSome_some.{0}∧type_of% @List.getElem?_cons_zero.{0}∧type_of% @List.getElem?_toArray.{0}∧type_of% @Go.Vm.di.eq_1∧type_of% @List.drop_zero.{0}∧type_of% @List.drop_succ_cons.{0}∧type_of% @List.drop_nil.{0}∧type_of% @List.take_succ_cons.{0}∧type_of% @List.take_zero.{0}∧type_of% @List.length_cons.{0}∧type_of% @List.length_nil.{0}∧type_of% @List.length_map.{0,0}∧type_of% @List.getElem?_cons_succ.{0}∧type_of% @List.getElem?_map.{0,0}∧type_of% @List.getElem?_drop.{0}∧type_of% @List.map_cons.{0,0}∧type_of% @List.map_nil.{0,0}∧type_of% @List.nil_append.{0}∧type_of% @List.cons_append.{0}∧type_of% @List.append_nil.{0}∧type_of% @List.all_cons.{0}∧type_of% @List.all_nil.{0}∧type_of% @cond_true.{1}∧type_of% @cond_false.{1}∧type_of% @decide_true∧type_of% @decide_false∧type_of% @Bool.and_true∧type_of% @Bool.true_and∧type_of% @Bool.and_self∧type_of% @Bool.not_true∧type_of% @Bool.not_false∧type_of% @BEq.rfl.{0}∧type_of% @Nat.zero_le∧type_of% @Nat.le_refl∧type_of% @Nat.add_zero∧type_of% @Nat.zero_add∧type_of% @Nat.mul_one∧type_of% @Int.toNat_natCast∧type_of% @Int.natCast_nonneg:=
 ⟨@Go.Vm.bh.dm.eq_1,@Qw,@aho,@Go.Vm.j7.eq_1,@Go.Vm.j7.eq_2,@Go.Vm.ic.eq_2,@kj,@Option.bind_some.{0,0},@Option.bind_none.{0,0},@Option.map_some.{0,0},@Option.getD_some.{0},@Option.getD_none.{0},@Option.isSome_some.{0},@List.getElem?_cons_zero.{0},@List.getElem?_toArray.{0},@Go.Vm.di.eq_1,@List.drop_zero.{0},@List.drop_succ_cons.{0},@List.drop_nil.{0},@List.take_succ_cons.{0},@List.take_zero.{0},@List.length_cons.{0},@List.length_nil.{0},@List.length_map.{0,0},@List.getElem?_cons_succ.{0},@List.getElem?_map.{0,0},@List.getElem?_drop.{0},@List.map_cons.{0,0},@List.map_nil.{0,0},@List.nil_append.{0},@List.cons_append.{0},@List.append_nil.{0},@List.all_cons.{0},@List.all_nil.{0},@cond_true.{1},@cond_false.{1},@decide_true,@decide_false,@Bool.and_true,@Bool.true_and,@Bool.and_self,@Bool.not_true,@Bool.not_false,@BEq.rfl.{0},@Nat.zero_le,@Nat.le_refl,@Nat.add_zero,@Nat.zero_add,@Nat.mul_one,@Int.toNat_natCast,@Int.natCast_nonneg⟩
theorem R10:type_of% @Nat.sub_self∧type_of% @List.contains_nil.{0}∧type_of% @List.contains_cons.{0}∧type_of% @Bool.or_false∧type_of% @Bool.false_or∧type_of% @Bool.or_true∧type_of% @Bool.true_or∧type_of% @List.map_map.{0,0,0}∧type_of% @adp∧type_of% @Nm∧type_of% @Lv∧type_of% @Mg∧type_of% @Xq∧type_of% @Xh∧type_of% @S9∧type_of% @Pu∧type_of% @T4∧type_of% @axe∧type_of% @ay6∧type_of% @aym∧type_of% @axs∧type_of% @ayr∧type_of% @ax8∧type_of% @ae7∧type_of% @ado∧type_of% @Yl∧type_of% @Tf∧type_of% @aau∧type_of% @Go.Vm.AV.fresh.eq_1∧type_of% @Go.Vm.AV.fresh.eq_3∧type_of% @Go.Vm.AV.fresh.eq_4∧type_of% @Go.Vm.AV.fresh.go.eq_1∧type_of% @Go.Vm.AV.fresh.go.eq_2∧type_of% @List.map_append.{0,0}:=
 ⟨@Nat.sub_self,@List.contains_nil.{0},@List.contains_cons.{0},@Bool.or_false,@Bool.false_or,@Bool.or_true,@Bool.true_or,@List.map_map.{0,0,0},@adp,@Nm,@Lv,@Mg,@Xq,@Xh,@S9,@Pu,@T4,@axe,@ay6,@aym,@axs,@ayr,@ax8,@ae7,@ado,@Yl,@Tf,@aau,@Go.Vm.AV.fresh.eq_1,@Go.Vm.AV.fresh.eq_3,@Go.Vm.AV.fresh.eq_4,@Go.Vm.AV.fresh.go.eq_1,@Go.Vm.AV.fresh.go.eq_2,@List.map_append.{0,0}⟩
theorem RA:type_of% R0∧type_of% R1∧type_of% R2∧type_of% R3∧type_of% R4∧type_of% R5∧type_of% R6∧type_of% R7∧type_of% R8∧type_of% R9∧type_of% R10:=
 ⟨R0,R1,R2,R3,R4,R5,R6,R7,R8,R9,R10⟩
theorem FB:type_of% @List.cons.injEq.{0}∧type_of% @Yi∧type_of% @Xk∧type_of% @List.length_append.{0}∧type_of% @List.length_cons.{0}∧type_of% @List.length_nil.{0}∧type_of% @List.map_append.{0,0}∧type_of% @List.map_cons.{0,0}∧type_of% @List.map_nil.{0,0}∧type_of% @and_true∧type_of% @true_and∧type_of% @and_self∧type_of% @AV.sc.injEq∧type_of% @AV.sl.injEq∧type_of% @bh.row.injEq∧type_of% @Option.some.injEq.{0}∧type_of% @Value.int.injEq∧type_of% @Nat.zero_add:=
 ⟨@List.cons.injEq.{0},@Yi,@Xk,@List.length_append.{0},@List.length_cons.{0},@List.length_nil.{0},@List.map_append.{0,0},@List.map_cons.{0,0},@List.map_nil.{0,0},@and_true,@true_and,@and_self,@AV.sc.injEq,@AV.sl.injEq,@bh.row.injEq,@Option.some.injEq.{0},@Value.int.injEq,@Nat.zero_add⟩
end Go.Vm
end
section
namespace Go.Vm
variable [TK]
noncomputable section
open Go.ChangeShapes Go.WideShapes Go.ChangeAt
mutual
def ly {H:Type}:DataW H→Nat
 |.lit (.string bytes)=>bytes.length+1
 |.lit _=>1
 |.nil=>1
 |.ptr d=>ly d+1
 |.slice elems spare=>mo elems+mo spare+1
 |.agg parts=>mo parts+1
 |.iface _ d=>ly d+1
 |.map entries=>T6 entries+1
 |.held _=>1
def mo {H:Type}:List (DataW H)→Nat
 | []=>0
 |d::r=>ly d+mo r
def T6 {H:Type}:List (Lit × DataW H)→Nat
 | []=>0
 |x::r=>aj0 x+T6 r
def aj0 {H:Type}:Lit × DataW H→Nat
 |(.string bytes,d)=>bytes.length+ly d+1
 |(_,d)=>ly d+1
end
def abt (W:World):Nat→Nat→Prop:=fun b _=>b<W.heap.size
def Rd (P:Program) (t:TypeId) {α:Type} (C:c8 α) (μ : α→Nat):Prop:=
 ∀ {H:Type} (enc:TypeId × Value→H) (W:World) (b0 fuel:Nat) (cs:List Value) (x:DataW H × List MemPlace),DataW.trod enc P W 0 (fun _=>true) true fuel t cs=some x →
  ∃ y,bm (gK b0 (abt W)) W (C.cells false y) cs ∧ μ y≤ly x.1
theorem az7 {P:Program} {t:TypeId} (ht:P.underlying t=some (.int .u8)):Rd P t bk (fun _=>1):=by
 intro H enc W b0 fuel cs x h
 obtain ⟨n,rfl,rfl,hw⟩:=DataW.trod_int ht h
 have hx : 0≤n∧n≤255:=by simpa [Lit.wf,IntKind.min,IntKind.max,IntKind.signed,IntKind.bits] using hw
 refine ⟨UInt8.ofNat n.toNat,?_,by simp [ly]⟩
 have:n=((UInt8.ofNat n.toNat).toNat:Int):=by rw [UInt8.toNat_ofNat'];omega
 exact bm.one (by (conv=>rhs;rw [this]);exact .sc _)
theorem apg {P:Program} {t:TypeId} (ht:P.underlying t=some (.int .u16)):Rd P t cy (fun _=>1):=by
 intro H enc W b0 fuel cs x h
 obtain ⟨n,rfl,rfl,hw⟩:=DataW.trod_int ht h
 have hx : 0≤n∧n≤65535:=by simpa [Lit.wf,IntKind.min,IntKind.max,IntKind.signed,IntKind.bits] using hw
 refine ⟨UInt16.ofNat n.toNat,?_,by simp [ly]⟩
 have:n=((UInt16.ofNat n.toNat).toNat:Int):=by rw [UInt16.toNat_ofNat'];omega
 exact bm.one (by (conv=>rhs;rw [this]);exact .sc _)
theorem aqj {P:Program} {t:TypeId} (ht:P.underlying t=some (.int .u32)):Rd P t cf (fun _=>1):=by
 intro H enc W b0 fuel cs x h
 obtain ⟨n,rfl,rfl,hw⟩:=DataW.trod_int ht h
 have hx : 0≤n∧n≤4294967295:=Go.bounds_u32 hw
 refine ⟨UInt32.ofNat n.toNat,?_,by simp [ly]⟩
 have:n=((UInt32.ofNat n.toNat).toNat:Int):=by rw [UInt32.toNat_ofNat'];omega
 exact bm.one (by (conv=>rhs;rw [this]);exact .sc _)
theorem ax2 {P:Program} {t:TypeId} (ht:P.underlying t=some .string):Rd P t ag (fun s=>s.size+1):=by
 intro H enc W b0 fuel cs x h
 obtain ⟨s,rfl,rfl,_⟩:=DataW.trod_string ht h
 refine ⟨s,bm.one (.sc _),?_⟩
 show s.size+1≤ly (DataW.lit (Lit.string s.data.toList))
 rw [ly,Array.length_toList]
 exact Nat.le_refl _
theorem avq (ao k s v j:Nat) (h3:v=k * s) (hge:v≤j):ao+k * s+(j - v)=ao+j:=by rw [← h3];omega
def so {α:Type} (μ : α→Nat):List α→Nat
 | []=>0
 |x::r=>μ x+so μ r
theorem N8 {α:Type} (μ : α→Nat):∀ a b:List α,so μ (a++b)=so μ a+so μ b
 | [],b=>by simp [so]
 |x::a,b=>by simp [so,N8 μ a b];omega
theorem K7 {H:Type}:∀ a b:List (DataW H),mo (a++b)=mo a+mo b
 | [],b=>by simp [mo]
 |x::a,b=>by simp [mo,K7 a b];omega
theorem av6 {P:Program} {t e:TypeId} {α:Type} {C:c8 α} {μ : α→Nat} (ht:P.underlying t=some (.slice e)) (hsz:P.cellsOf e=C.sz) (hpos : 0<C.sz) (he:Rd P e C μ):Rd P t (cj C) (fun l=>so μ l+1):=by
 intro H enc W b0 fuel cs x h
 rcases Go.Deep.open_slice ht h with ⟨rfl,rfl⟩|⟨a,len,cap,m,n,D,Pl,rfl,_,hl,hm,hmm,rfl,hx⟩
 ·exact ⟨[],bm.one (.kf _ _),by simp [so,ly]⟩
 ·simp only [if_true] at hmm
  subst hmm
  have spot : 0<m→a.spot=none∧a.block<W.heap.size:=by
   intro h0
   obtain ⟨cs',h1,_⟩:=hx 0 h0
   rw [hsz] at h1
   simp only [World.cells?,Nat.zero_le,if_true] at h1
   have h2:=mapM_some_get h1 0 0 (by simp [hpos])
   have hlen:=mapM_some_length h1
   have h3:∃ v,cs'[0]? = some v:=⟨cs'[0]'(by rw [hlen];simpa using hpos),by simp⟩
   obtain ⟨v,hv⟩:=h3
   rw [hv] at h2
   simp only [Nat.zero_mul,Addr.add,if_true] at h2
   simp only [World.cell?] at h2
   split at h2
   ·rename_i c _ _ hb
    cases hs:a.spot with
    |none=>exact ⟨rfl,br hb⟩
    |some s=>simp [hs] at h2
   ·cases h2
  have build:∀ k,k≤len→∃ (xs:List α) (vs:List Value),xs.length=k∧bm (gK b0 (abt W)) W (xs.flatMap (C.cells false)) vs∧vs.length=k * C.sz∧(∀ j v,vs[j]? = some v→W.cell? ⟨a.block,a.off+j,none⟩=some v) ∧
   so μ xs≤mo ((List.range k).map D):=by
   intro k
   induction k with
   |zero=>intro _;exact ⟨[],[],rfl,bm.nil _ _,by simp,(fun j v hj=>by simp at hj),by simp [so,mo]⟩
   |succ k ih=>
    intro hk
    obtain ⟨xs,vs,h1,h2,h3,h4,h5⟩:=ih (by omega)
    obtain ⟨cs',h6,h7⟩:=hx k (by omega)
    obtain ⟨y,h8,h9⟩:=he enc W b0 n cs' _ h7
    rw [hsz] at h6
    simp only [World.cells?,Nat.zero_le,if_true] at h6
    have hlen:=mapM_some_length h6
    simp only [List.length_range] at hlen
    refine ⟨xs++[y],vs++cs',by simp [h1],?_,by simp [h3,hlen,Nat.succ_mul],fun j v hj=>?_,?_⟩
    ·rw [List.flatMap_append];exact h2.append (by simpa using h8)
    ·by_cases hj1:j<vs.length
     ·rw [List.getElem?_append_left hj1] at hj;exact h4 j v hj
     ·rw [List.getElem?_append_right (by omega)] at hj
      have hj2:=(List.getElem?_eq_some_iff.1 hj).1
      have h10:=mapM_some_get h6 (j - vs.length) (j - vs.length) (List.getElem?_range (by rw [← hlen];exact hj2))
      rw [hj] at h10
      have hs:=(spot (by omega)).1
      have e:(a.add (k * C.sz)).add (j - vs.length)=⟨a.block,a.off+j,none⟩:=by
       obtain ⟨ab,ao,azs⟩:=a
       simp only at hs
       subst hs
       rw [Addr.nc,Addr.nc]
       have hge:vs.length≤j:=Nat.le_of_not_lt hj1
       rw [avq ao k C.sz vs.length j h3 hge]
      rw [e] at h10
      exact h10
    ·rw [N8,List.range_succ,List.map_append,K7]
     simp only [so,List.map_cons,List.map_nil,mo]
     have : μ y≤ly (D k):=h9
     omega
  obtain ⟨xs,vs,h1,h2,h3,h4,h5⟩:=build len (Nat.le_refl _)
  refine ⟨xs,bm.one ?_,by
   simp only [ly]
   have:so μ xs≤mo ((List.range len).map D):=h5
   omega⟩
  by_cases h0 : 0<m
  ·obtain ⟨hs,hb⟩:=spot h0
   obtain ⟨ab,ao,azs⟩:=a
   simp only at hs hb h4
   subst hs
   rw [← h1]
   refine alv C h2 (by omega) (fun e=>by cases e) (fun j v hj=>⟨hb,h4 j v hj⟩) (fun e=>by cases e)
  ·have hl0:len=0:=by omega
   have hm0:m=0:=by omega
   subst hl0 hm0
   have:xs=[]:=List.eq_nil_of_length_eq_zero h1
   subst this
   exact .sk _ _ _
def Wq (P:Program) (fs:List Field) (off:Nat) {α:Type} (C:c8 α) (μ : α→Nat):Prop:=
 ∀ {H:Type} (enc:TypeId × Value→H) (W:World) (b0 n:Nat) (cs:List Value) (ys:List (DataW H × List MemPlace)),ys.length=fs.length →
  (∀ (i:Nat) f,fs[i]? = some f→DataW.trod enc P W 0 (fun _=>true) true n f.type ((cs.drop f.offset).take (P.cellsOf f.type))=ys[i]?) →
  ∃ y,bm (gK b0 (abt W)) W (C.cells false y) ((cs.drop off).take C.sz) ∧ μ y≤mo (ys.map (·.1))
theorem awp {P:Program} {f:Field} {off:Nat} {α:Type} {C:c8 α} {μ : α→Nat} (ho:f.offset=off) (hs:P.cellsOf f.type=C.sz) (h:Rd P f.type C μ):Wq P [f] off C μ:=by
 intro H enc W b0 n cs ys hl hf
 match ys,hl with
 | [y0],_=>
  have:=hf 0 f rfl
  obtain ⟨y,h1,h2⟩:=h enc W b0 n _ y0 this
  rw [ho,hs] at h1
  exact ⟨y,h1,by simp [mo];exact h2⟩
theorem as5 {P:Program} {f:Field} {fs:List Field} {off:Nat} {α β:Type} {A:c8 α} {B:c8 β} {μ : α→Nat} {ν : β→Nat} (ho:f.offset=off) (hs:P.cellsOf f.type=A.sz) (h:Rd P f.type A μ) (hr:Wq P fs (off+A.sz) B ν) :
 Wq P (f::fs) off (kr A B) (fun p=>μ p.1 + ν p.2):=by
 intro H enc W b0 n cs ys hl hf
 match ys,hl with
 |y0::ys,hl=>
  have h0:=hf 0 f rfl
  obtain ⟨y,h1,h2⟩:=h enc W b0 n _ y0 h0
  obtain ⟨z,h3,h4⟩:=hr enc W b0 n cs ys (by simpa using hl) (fun i g hg=>by have:=hf (i+1) g (by simpa using hg);simpa using this)
  rw [ho,hs] at h1
  refine ⟨(y,z),?_,by simp [mo];omega⟩
  have:=h1.append h3
  rwa [show (cs.drop off).take A.sz++(cs.drop (off+A.sz)).take B.sz=(cs.drop off).take (A.sz+B.sz) from by
   rw [List.take_add,List.drop_drop]] at this
theorem aoe {P:Program} {t:TypeId} {fs:Array Field} {α:Type} {C:c8 α} {μ : α→Nat} (ht:P.underlying t=some (.struct fs)) (hc:P.cellsOf t=C.sz) (h:Wq P fs.toList 0 C μ):Rd P t C (fun x=>μ x+1):=by
 intro H enc W b0 fuel cs x hx
 obtain ⟨xs,n,_,rfl,hl,hlen,hf⟩:=DataW.trod_struct ht hx
 obtain ⟨y,h1,h2⟩:=h enc W b0 n cs xs (by simpa using hlen) (fun i f hi=>hf i f (by simpa using hi))
 refine ⟨y,?_,by simp [ly];exact h2⟩
 rwa [List.drop_zero,List.take_of_length_le (by omega)] at h1
theorem axj {P:Program} {t:TypeId} {α β:Type} {C:c8 α} {μ : α→Nat} {f : β → α} {i : α → β} {h1:∀ y,i (f y)=y} {h2:∀ x,f (i x)=x} (h:Rd P t C μ):Rd P t (zc C f i h1 h2) (fun y=>μ (f y)):=by
 intro H enc W b0 fuel cs x hx
 obtain ⟨y,h3,h4⟩:=h enc W b0 fuel cs x hx
 exact ⟨i y,by show bm _ _ (C.cells false (f (i y))) cs;rw [h2];exact h3,by show μ (f (i y))≤_;rw [h2];exact h4⟩
def RdA (P:Program) (ts:List TypeId) {α:Type} (A:AC α) (μ : α→Nat):Prop:=
 ∀ {H:Type} (enc:TypeId × Value→H) (W:World) (b0 b1:Nat) (vs:List Value) (ds:List (DataW H)) (ps:List MemPlace),(∀ (j:Nat) t v,ts[j]? = some t→vs[j]? = some v→Value.okWide P W .any b1 t v) →
  DataW.TrodAll enc P W 0 (fun _=>true) true ts vs ds ps→∃ y,bm (gK b0 (abt W)) W (A.E y) vs ∧ μ y≤mo ds
theorem au9 (P:Program):RdA P [] a0 (fun _=>0):=by
 intro H enc W b0 b1 vs ds ps _ h
 obtain ⟨rfl,rfl,rfl⟩:=trodAll_nil h
 exact ⟨(),bm.nil _ _,Nat.zero_le _⟩
theorem akz {P:Program} {W:World} {b:Nat} {t:TypeId} {v:Value} (h:mh P t=some true) (ho:Value.okWide P W .any b t v):∃ cs,v = .agg cs:=by
 unfold mh at h
 unfold Value.okWide at ho
 cases hu:P.underlying t with
 |none=>rw [hu] at h;cases h
 |some d=>
  rw [hu] at h ho
  cases d<;>simp_all<;>exact ⟨_,ho.choose_spec.1⟩
theorem adu {P:Program} {t:TypeId} {ts:List TypeId} {α β:Type} {C:c8 α} {R:AC β} {μ : α→Nat} {ν : β→Nat} (ha:mh P t=some C.agg) (h:Rd P t C μ) (hr:RdA P ts R ν):RdA P (t::ts) (aC C R) (fun p=>μ p.1 + ν p.2):=by
 intro H enc W b0 b1 vs ds ps hok hall
 obtain ⟨v,vs1,d,ds1,p,q,rfl,rfl,rfl,h0,h1⟩:=trodAll_cons hall
 obtain ⟨fuel,hf⟩:=h0
 obtain ⟨y,h2,h3⟩:=h enc W b0 fuel _ _ hf
 obtain ⟨z,h4,h5⟩:=hr enc W b0 b1 vs1 ds1 q (fun j t v ht hv=>hok (j+1) t v (by simpa using ht) (by simpa using hv)) h1
 have h3' : μ y≤ly d:=h3
 refine ⟨(y,z),bm.cons ?_ h4,by simp only [mo];omega⟩
 have hv:=hok 0 t v rfl rfl
 show Rel _ _ (C.val false y) v
 unfold c8.val
 cases hg:C.agg with
 |true=>
  obtain ⟨cs,rfl⟩:=akz (by rw [ha,hg]) hv
  exact .agg _ cs (by simpa [Value.cells] using h2.1) (fun i a v ha hv=>h2.2 i a v ha (by simpa [Value.cells] using hv))
 |false=>
  obtain ⟨c,h6,h7,_⟩:=C.one hg false y
  rw [cond_false,h6]
  rw [h6] at h2
  have hcs:v.cells.toList=[v]:=by
   have hl:=h2.1
   simp only [List.length_singleton] at hl
   cases v with
   |agg cs=>
    exfalso
    unfold mh at ha
    unfold Value.okWide at hv
    cases hu:P.underlying t with
    |none=>rw [hu] at ha;cases ha
    |some d=>
     rw [hu] at ha hv
     have hcell:Cell.okWide P W .any b1 t (.agg cs):=by
      cases d<;>simp_all
     rw [hg] at ha
     unfold Cell.okWide Cell.ok at hcell
     rw [hu] at hcell
     cases d<;>simp_all
   |_=>rfl
  rw [hcs] at h2
  exact h2.head
theorem aet {W W':World} (q:pc W W') {p:MemPlace} (h:p.block<W.heap.size):W.sameAt W' p:=by
 cases p with
 |cell b off=>exact nr (q.heap b h)
 |map b=>exact q.heap b h
theorem again {H:Type} {enc:TypeId × Value→H} {P:Program} {W W':World} {sp:Nat→Bool} (K:Kids P (· < P.types.size)) (hz:∀ t e,t<P.types.size→P.underlying t=some (.slice e)→0<P.cellsOf e) (q:pc W W') :
 ∀ {ts:List TypeId} {vs:List Value} {ds:List (DataW H)} {ps:List MemPlace},(∀ t ∈ ts,t<P.types.size)→DataW.TrodAll enc P W 0 (fun _=>true) true ts vs ds ps→(∀ p ∈ ps,sp p.block=true)→(∀ p ∈ ps,p.block<W.heap.size) →
  DataW.TrodAll enc P W' 0 sp true ts vs ds ps
 | [],[],[],_,_,h,_,_=>h
 |t::ts,v::vs,d::ds,ps,hT,⟨p,p',h1,h2,e⟩,hs,hl=>by
  obtain ⟨n,hn⟩:=h1
  subst e
  have h3:=DataW.trod_respare (spare':=sp) K hz n t _ _ (hT t (by simp)) hn (fun x hx=>hs x (by simp only [List.mem_append];exact .inl hx))
  have h4:=DataW.trod_carry (w':=W') n t _ _ h3 (fun x hx=>aet q (hl x (by simp only [List.mem_append];exact .inl hx)))
  exact ⟨p,p',⟨n,h4⟩,again K hz q (fun t ht=>hT t (by simp [ht])) h2 (fun x hx=>hs x (by simp [hx])) (fun x hx=>hl x (by simp [hx])),rfl⟩
theorem alk {W W':World} (q:pc W W') (may:MemPlace→Prop):W.keptBut W' may:=by
 refine ⟨q.os,q.output,fun i hi=>?_⟩
 rw [q.heap i hi]
 split
 ·rename_i c t fr c' t' fr' h1 h2
  rw [h1] at h2
  cases h2
  exact ⟨rfl,rfl,rfl,fun _ _=>rfl⟩
 ·rename_i es cl es' cl' h1 h2
  rw [h1] at h2
  cases h2
  exact .inr ⟨rfl,rfl⟩
 ·rfl
def ak9 (P:Program):Bool:=(List.range P.types.size).all fun t=>match P.underlying t with|some (.slice e)=>Nat.blt 0 (P.cellsOf e)|_=>true
theorem Zj {P:Program} (h:ak9 P=true) (t e:TypeId) (ht:t<P.types.size) (hu:P.underlying t=some (.slice e)) : 0<P.cellsOf e:=by
 have:=List.all_eq_true.1 h t (List.mem_range.2 ht)
 simp only [hu] at this
 exact Nat.le_of_ble_eq_true this
def avo (P:Program) (l:List TypeId):Bool:=l.all fun t=>Nat.blt t P.types.size
theorem amc {P:Program} {l:List TypeId} (h:avo P l=true):∀ t ∈ l,t<P.types.size:=fun t ht=>Nat.le_of_ble_eq_true (List.all_eq_true.1 h t ht)
theorem ar1 {P:Program} [KP P] (hlaid:laidOutB P=true) (hmaps:mapsRowed P=true) (hz:∀ t e,t<P.types.size→P.underlying t=some (.slice e)→0<P.cellsOf e) {f:Nat} {fn:Func} {s:ChangeSpec} {tb:TypeId}
 (he:l8 P f=true) (hvars:s.vars=[]) (hres:fn.resultTypes = #[tb]) (htb:P.underlying tb=some .bool) (hpar:∀ t ∈ fn.params.toList,t<P.types.size)
 (hfn:∀ (H:Type) (ds:List (DataW H)),ds.length=fn.params.toList.length→s.fn H ds = { results:=[.lit (.bool true)],args:=ds }) {α:Type} {A:AC α} {μ : α→Nat} (hA:RdA P fn.params.toList A μ) {N:Option Nat}
 (hcall:∀ x,(∀ n,N=some n → μ x≤n)→bb P f (A.E x) (.sc (.bool true)))
 {H:Type} (enc:TypeId × Value→H) (W:World) (base:Nat) (args:Array Value) (ds gs:List (DataW H)) (before:List MemPlace) (hval:∀ (j:Nat) t v,fn.params[j]? = some t→args[j]? = some v→Value.okWide P W .any base t v)
 (hW:DataW.Whole enc P fn.params.toList s.vars false W args.toList ds gs before) (hN:∀ n,N=some n→mo (ds++gs)≤n) :
 Calls P f args W fun e W'=>∃ v,e = .returned v∧s.post enc P fn false true false false W args v W':=by
 have hW':=hW
 obtain ⟨p,q,hA0,hV,rfl,hfz,hnd⟩:=hW
 rw [hvars] at hV
 obtain ⟨rfl,rfl⟩:=trodVars_none hV
 obtain ⟨x,hx,hμ⟩:=hA enc W W.heap.size base args.toList ds p (fun j t v ht hv=>hval j t v (by simpa using ht) (by simpa using hv)) hA0
 have hp:=hcall x (fun n hn=>Nat.le_trans hμ (by have:=hN n hn;simpa using this)) (abt W) W args.toList (fun _ _ h=>h) hx
 have hlen:ds.length=fn.params.toList.length:=by
  have:∀ {ts:List TypeId} {vs:List Value} {ds:List (DataW H)} {ps:List MemPlace},DataW.TrodAll enc P W 0 (fun _=>true) true ts vs ds ps→ds.length=ts.length:=by
   intro ts
   induction ts with
   |nil=>intro vs ds ps h;obtain ⟨_,rfl,_⟩:=trodAll_nil h;rfl
   |cons t ts ih=>intro vs ds ps h;obtain ⟨v,vs1,d,ds1,p,q,rfl,rfl,rfl,h0,h1⟩:=trodAll_cons h;simp [ih h1]
  exact this hA0
 have hlt:∀ y ∈ p++[],y.block<W.heap.size:=fun y hy=>hW'.lt y hy
 have hspec:=hfn H ds hlen
 rcases hp with ⟨v,hv,_⟩|⟨_,hc⟩
 ·rw [oz he] at hv;cases hv
 ·refine hc.mono ?_
  rintro e W' ⟨v,rfl,hq,hr⟩
  obtain rfl:=hr.exact rfl
  refine ⟨_,rfl,ds,[],p++[],[],p,[],hW',?_,?_,?_,alk hq _,fun e=>by cases e⟩
  ·rw [List.append_nil,hspec,hres]
   exact trodAll_cons_mk (Go.RowKit.shut_bool htb _) trodAll_mk0
  ·rw [List.append_nil,hspec]
   exact again (kids_rows hlaid hmaps) hz hq hpar hA0 (fun y hy=>by have:=hlt y (by simp [hy]);simpa using this) (fun y hy=>hlt y (by simp [hy]))
  ·rw [List.append_nil,hspec,hvars]
   rfl
end
end Go.Vm
end
namespace Go.Vm
noncomputable instance tkI:TK:=⟨de Go.Proofs.Tryz.prog,atc Go.Proofs.Tryz.prog⟩
instance kpI:KP Go.Proofs.Tryz.prog:=⟨rfl,rfl⟩
end Go.Vm
section
namespace Go.Vm
open Go.Proofs
theorem ap2:(Tryz.prog.underlying 3=some (.int .i64)) ∧
 (Tryz.prog.underlying 5=some (.int .u8)) ∧
 (Tryz.prog.underlying 9=some (.string)) ∧
 (Tryz.prog.underlying 22=some (.slice 9)) ∧
 (Tryz.prog.underlying 23=some (.slice 9)) ∧
 (Tryz.prog.underlying 24=some (.slice 63)) ∧
 (Tryz.prog.underlying 51=some (.slice 23)) ∧
 (Tryz.prog.underlying 60=some (.int .u32)):=
 ⟨by kernel_rfl,by kernel_rfl,by kernel_rfl,by kernel_rfl,by kernel_rfl,by kernel_rfl,by kernel_rfl,by kernel_rfl⟩
theorem ap1:(Tryz.prog.underlying 61=some (.slice 116)) ∧
 (Tryz.prog.underlying 113=some (.slice 60)) ∧
 (Tryz.prog.underlying 114=some (.slice 5)) ∧
 (Tryz.prog.underlying 178=some (.slice 4)) ∧
 (Tryz.prog.underlying 180=some (.slice 3)) ∧
 (Tryz.prog.underlying 241=some (.slice 114)):=
 ⟨by kernel_rfl,by kernel_rfl,by kernel_rfl,by kernel_rfl,by kernel_rfl,by kernel_rfl⟩
theorem anh:(mh Tryz.prog 3=some false) ∧
 (mh Tryz.prog 4=some false) ∧
 (mh Tryz.prog 5=some false) ∧
 (mh Tryz.prog 9=some false) ∧
 (mh Tryz.prog 22=some false) ∧
 (mh Tryz.prog 23=some false) ∧
 (mh Tryz.prog 24=some false) ∧
 (mh Tryz.prog 26=some true):=
 ⟨by kernel_rfl,by kernel_rfl,by kernel_rfl,by kernel_rfl,by kernel_rfl,by kernel_rfl,by kernel_rfl,by kernel_rfl⟩
theorem an5:(mh Tryz.prog 30=some false) ∧
 (mh Tryz.prog 32=some true) ∧
 (mh Tryz.prog 33=some false) ∧
 (mh Tryz.prog 50=some false) ∧
 (mh Tryz.prog 51=some false) ∧
 (mh Tryz.prog 59=some false) ∧
 (mh Tryz.prog 60=some false) ∧
 (mh Tryz.prog 61=some false) ∧
 (mh Tryz.prog 63=some true) ∧
 (mh Tryz.prog 113=some false) ∧
 (mh Tryz.prog 114=some false) ∧
 (mh Tryz.prog 116=some true):=
 ⟨by kernel_rfl,by kernel_rfl,by kernel_rfl,by kernel_rfl,by kernel_rfl,by kernel_rfl,by kernel_rfl,by kernel_rfl,by kernel_rfl,by kernel_rfl,by kernel_rfl,by kernel_rfl⟩
theorem ao3:(mh Tryz.prog 144=some false) ∧
 (mh Tryz.prog 185=some true) ∧
 (mh Tryz.prog 209=some true):=
 ⟨by kernel_rfl,by kernel_rfl,by kernel_rfl⟩
theorem aim:(de Tryz.prog 3=some 1) ∧
 (de Tryz.prog 4=some 1) ∧
 (de Tryz.prog 5=some 1) ∧
 (de Tryz.prog 9=some 1) ∧
 (de Tryz.prog 22=some 1) ∧
 (de Tryz.prog 23=some 1) ∧
 (de Tryz.prog 24=some 1) ∧
 (de Tryz.prog 26=some 2):=
 ⟨by kernel_rfl,by kernel_rfl,by kernel_rfl,by kernel_rfl,by kernel_rfl,by kernel_rfl,by kernel_rfl,by kernel_rfl⟩
theorem ag8:(de Tryz.prog 30=some 1) ∧
 (de Tryz.prog 32=some 3) ∧
 (de Tryz.prog 33=some 1) ∧
 (de Tryz.prog 50=some 1) ∧
 (de Tryz.prog 51=some 1) ∧
 (de Tryz.prog 59=some 1) ∧
 (de Tryz.prog 60=some 1) ∧
 (de Tryz.prog 61=some 1) ∧
 (de Tryz.prog 63=some 5) ∧
 (de Tryz.prog 113=some 1) ∧
 (de Tryz.prog 114=some 1) ∧
 (de Tryz.prog 116=some 4):=
 ⟨by kernel_rfl,by kernel_rfl,by kernel_rfl,by kernel_rfl,by kernel_rfl,by kernel_rfl,by kernel_rfl,by kernel_rfl,by kernel_rfl,by kernel_rfl,by kernel_rfl,by kernel_rfl⟩
theorem aii:(de Tryz.prog 144=some 1) ∧
 (de Tryz.prog 185=some 5) ∧
 (de Tryz.prog 209=some 5):=
 ⟨by kernel_rfl,by kernel_rfl,by kernel_rfl⟩
theorem aaq:(jt Tryz.prog 4=some 1) ∧
 (jt Tryz.prog 9=some 16):=
 ⟨by kernel_rfl,by kernel_rfl⟩
theorem aio:(fh Tryz.prog 3=some (.int .i64 0)) ∧
 (fh Tryz.prog 4=some (.bool false)) ∧
 (fh Tryz.prog 5=some (.int .u8 0)) ∧
 (fh Tryz.prog 9=some (.string .empty)) ∧
 (fh Tryz.prog 23=some (.slice none 0 0)) ∧
 (fh Tryz.prog 26=some (.agg #[.slice none 0 0,.slice none 0 0])):=
 ⟨by kernel_rfl,by kernel_rfl,by kernel_rfl,by kernel_rfl,by kernel_rfl,by kernel_rfl⟩
theorem aie:(fh Tryz.prog 32=some (.agg #[.int .u8 0,.slice none 0 0,.slice none 0 0])) ∧
 (fh Tryz.prog 63=some (.agg #[.slice none 0 0,.int .u16 0,.int .u16 0,.int .u32 0,.slice none 0 0])) ∧
 (fh Tryz.prog 116=some (.agg #[.slice none 0 0,.slice none 0 0,.slice none 0 0,.slice none 0 0])):=
 ⟨by kernel_rfl,by kernel_rfl,by kernel_rfl⟩
theorem aiy:(fh Tryz.prog 185=some (.agg #[.int .i64 0,.int .i64 0,.int .i64 0,.int .i64 0,.int .i64 0])) ∧
 (fh Tryz.prog 209=some (.agg #[.int .i64 0,.int .i64 0,.int .i64 0,.int .i64 0,.int .i64 0])):=
 ⟨by kernel_rfl,by kernel_rfl⟩
theorem apz:(C5 Tryz.prog 22=some (9,1,[.sc (.string .empty)])) ∧
 (C5 Tryz.prog 23=some (9,1,[.sc (.string .empty)])) ∧
 (C5 Tryz.prog 24=some (63,5,[.sc (.slice none 0 0),.sc (.int .u16 0),.sc (.int .u16 0),.sc (.int .u32 0),.sc (.slice none 0 0)])) ∧
 (C5 Tryz.prog 51=some (23,1,[.sc (.slice none 0 0)])) ∧
 (C5 Tryz.prog 61=some (116,4,[.sc (.slice none 0 0),.sc (.slice none 0 0),.sc (.slice none 0 0),.sc (.slice none 0 0)])) ∧
 (C5 Tryz.prog 113=some (60,1,[.sc (.int .u32 0)])) ∧
 (C5 Tryz.prog 114=some (5,1,[.sc (.int .u8 0)])) ∧
 (C5 Tryz.prog 180=some (3,1,[.sc (.int .i64 0)])) ∧
 (C5 Tryz.prog 241=some (114,1,[.sc (.slice none 0 0)])):=
 ⟨by kernel_rfl,by kernel_rfl,by kernel_rfl,by kernel_rfl,by kernel_rfl,by kernel_rfl,by kernel_rfl,by kernel_rfl,by kernel_rfl⟩
theorem abz:(wb Tryz.prog 26=some ([.sc (.slice none 0 0),.sc (.slice none 0 0)],[(0,1),(1,1)])) ∧
 (wb Tryz.prog 32=some ([.sc (.int .u8 0),.sc (.slice none 0 0),.sc (.slice none 0 0)],[(0,1),(1,1),(2,1)])) ∧
 (wb Tryz.prog 63=some ([.sc (.slice none 0 0),.sc (.int .u16 0),.sc (.int .u16 0),.sc (.int .u32 0),.sc (.slice none 0 0)],[(0,1),(1,1),(2,1),(3,1),(4,1)])) ∧
 (wb Tryz.prog 116=some ([.sc (.slice none 0 0),.sc (.slice none 0 0),.sc (.slice none 0 0),.sc (.slice none 0 0)],[(0,1),(1,1),(2,1),(3,1)])) ∧
 (wb Tryz.prog 146=some ([.sc (.slice none 0 0),.sc (.slice none 0 0),.sc (.int .i64 0)],[(0,2),(2,1)])):=
 ⟨by kernel_rfl,by kernel_rfl,by kernel_rfl,by kernel_rfl,by kernel_rfl⟩
theorem aay:(wb Tryz.prog 185=some ([.sc (.int .i64 0),.sc (.int .i64 0),.sc (.int .i64 0),.sc (.int .i64 0),.sc (.int .i64 0)],[(0,1),(1,1),(2,1),(3,1),(4,1)])) ∧
 (wb Tryz.prog 209=some ([.sc (.int .i64 0),.sc (.int .i64 0),.sc (.int .i64 0),.sc (.int .i64 0),.sc (.int .i64 0)],[(0,1),(1,1),(2,1),(3,1),(4,1)])):=
 ⟨by kernel_rfl,by kernel_rfl⟩
theorem aae:(fw Tryz.prog 26 0=some ⟨"Origin",23,0,false, "", "",0⟩) ∧
 (fw Tryz.prog 26 1=some ⟨"Sets",24,1,false, "", "",24⟩) ∧
 (fw Tryz.prog 32 0=some ⟨"Kind",30,0,false, "", "",0⟩) ∧
 (fw Tryz.prog 32 1=some ⟨"Node",23,1,false, "", "",8⟩) ∧
 (fw Tryz.prog 32 2=some ⟨"Closest",23,2,false, "", "",32⟩):=
 ⟨by kernel_rfl,by kernel_rfl,by kernel_rfl,by kernel_rfl,by kernel_rfl⟩
theorem aa7:(fw Tryz.prog 63 0=some ⟨"Owner",23,0,false, "", "",0⟩) ∧
 (fw Tryz.prog 63 1=some ⟨"Type",50,1,false, "", "",24⟩) ∧
 (fw Tryz.prog 63 2=some ⟨"Class",59,2,false, "", "",26⟩) ∧
 (fw Tryz.prog 63 3=some ⟨"TTL",60,3,false, "", "",28⟩) ∧
 (fw Tryz.prog 63 4=some ⟨"Data",61,4,false, "", "",32⟩):=
 ⟨by kernel_rfl,by kernel_rfl,by kernel_rfl,by kernel_rfl,by kernel_rfl⟩
theorem acw:(fw Tryz.prog 116 0=some ⟨"Names",51,0,false, "", "",0⟩) ∧
 (fw Tryz.prog 116 1=some ⟨"Nums",113,1,false, "", "",24⟩) ∧
 (fw Tryz.prog 116 2=some ⟨"Texts",22,2,false, "", "",48⟩) ∧
 (fw Tryz.prog 116 3=some ⟨"Raw",114,3,false, "", "",72⟩):=
 ⟨by kernel_rfl,by kernel_rfl,by kernel_rfl,by kernel_rfl⟩
theorem aag:(fw Tryz.prog 146 0=some ⟨"z",26,0,false, "", "nomenclator/zone",0⟩) ∧
 (fw Tryz.prog 146 1=some ⟨"e",33,2,false, "", "nomenclator/zone",48⟩) ∧
 (fw Tryz.prog 185 0=some ⟨"names",3,0,false, "", "nomenclator/rdata",0⟩) ∧
 (fw Tryz.prog 185 1=some ⟨"nums",3,1,false, "", "nomenclator/rdata",8⟩) ∧
 (fw Tryz.prog 185 2=some ⟨"size",3,2,false, "", "nomenclator/rdata",16⟩) ∧
 (fw Tryz.prog 185 3=some ⟨"texts",3,3,false, "", "nomenclator/rdata",24⟩) ∧
 (fw Tryz.prog 185 4=some ⟨"raw",3,4,false, "", "nomenclator/rdata",32⟩):=
 ⟨by kernel_rfl,by kernel_rfl,by kernel_rfl,by kernel_rfl,by kernel_rfl,by kernel_rfl,by kernel_rfl⟩
theorem ae2:(fw Tryz.prog 209 0=some ⟨"Names",3,0,false, "", "",0⟩) ∧
 (fw Tryz.prog 209 1=some ⟨"Nums",3,1,false, "", "",8⟩) ∧
 (fw Tryz.prog 209 2=some ⟨"Texts",3,2,false, "", "",16⟩) ∧
 (fw Tryz.prog 209 3=some ⟨"Raw",3,3,false, "", "",24⟩) ∧
 (fw Tryz.prog 209 4=some ⟨"Wide",3,4,false, "", "",32⟩):=
 ⟨by kernel_rfl,by kernel_rfl,by kernel_rfl,by kernel_rfl,by kernel_rfl⟩
theorem aov:(Bm Tryz.prog 22=some (9,1,16)) ∧
 (Bm Tryz.prog 23=some (9,1,16)) ∧
 (Bm Tryz.prog 24=some (63,5,56)) ∧
 (Bm Tryz.prog 51=some (23,1,24)) ∧
 (Bm Tryz.prog 61=some (116,4,96)) ∧
 (Bm Tryz.prog 113=some (60,1,4)) ∧
 (Bm Tryz.prog 114=some (5,1,1)):=
 ⟨by kernel_rfl,by kernel_rfl,by kernel_rfl,by kernel_rfl,by kernel_rfl,by kernel_rfl,by kernel_rfl⟩
theorem atx:(Kn 1 .str 9=true) ∧
 (∀ kd,Kn 5 kd 63=true) ∧
 (Kn 1 .no 23=true) ∧
 (∀ kd,Kn 4 kd 116=true) ∧
 (Kn 1 (.int .u32) 60=true) ∧
 (Kn 1 (.int .u8) 5=true):=
 ⟨by kernel_rfl,fun _=>by kernel_rfl,by kernel_rfl,fun _=>by kernel_rfl,by kernel_rfl,by kernel_rfl⟩
theorem TF:type_of% ap2∧type_of% ap1∧type_of% anh∧type_of% an5∧type_of% ao3∧type_of% aim∧type_of% ag8∧type_of% aii∧type_of% aaq∧type_of% aio∧type_of% aie∧type_of% aiy∧type_of% apz∧type_of% abz∧type_of% aay∧type_of% aae∧type_of% aa7∧type_of% acw∧type_of% aag∧type_of% ae2∧type_of% aov∧type_of% atx:=
 ⟨ap2,ap1,anh,an5,ao3,aim,ag8,aii,aaq,aio,aie,aiy,apz,abz,aay,aae,aa7,acw,aag,ae2,aov,atx⟩
end Go.Vm
end
